/- fee.Assign: by what is left for those behind (walk). -/
import Derived.Test.YtdkpcjabciocgaaFees1
import Derived.Test.YtdkpcjabciocgaaBits
import Derived.Test.YtdkpcjabciocgaaPut
import Derived.Test.YtdkpcjabciocgaaAssignLaw
import Derived.StillTailTactics
namespace Go.Proofs.Ytdkpcjabciocgaa
open Go.RowKit

set_option maxRecDepth 100000 in
set_option maxHeartbeats 400000 in
theorem assign_bad (n c : Nat) (A : Option Addr) (qA : Nat → Option Addr) (qn qc : Nat → Nat) (x : Nat → Nat → Int) (w : World) (hA : FeesAt w A n qA qn qc x) (hn : n ≤ 9223372036854775807) (hqn : ∀ i, i < n → qn i ≤ 9223372036854775807) (hbad : ¬ FeesOk n qn x) :
    Calls Try.prog 11 #[.slice A n c] w fun e w' => ∃ r : Int, e = .returned (.tuple #[.slice none 0 0, .int .i64 0, .int .i64 r]) ∧ r ≠ 0 ∧ Below w.heap.size w w' := by
  have HB := Lib.hid hbad
  have HQ := Lib.hid hqn
  clear hbad hqn
  go_enter Try.func11, Try.ntmps11
  go_wp2_with fail
  refine (grid_any n c A qA qn qc x w hA hn HQ.out).mono ?_
  rintro e w1 ⟨r, rfl, hr, hb⟩
  have hr0 : r ≠ 0 := by rcases hr with ⟨_, h⟩ | ⟨h, _⟩; exact absurd h HB.out; exact h
  have hrb := bne_true hr0
  go_wp2
  go_ret3
  exact ⟨r, rfl, hr0, hb⟩

set_option maxRecDepth 100000 in
set_option maxHeartbeats 4000000 in
theorem assign_ok (n c : Nat) (A : Option Addr) (qA : Nat → Option Addr) (qn qc : Nat → Nat) (x : Nat → Nat → Int) (w : World) (hA : FeesAt w A n qA qn qc x) (hok : FeesOk n qn x) :
    Calls Try.prog 11 #[.slice A n c] w fun e w' => ∃ v : Value, e = .returned (.tuple #[v, .int .i64 (leastFees n x), .int .i64 0]) ∧ Below w.heap.size w w' := by
  have HO := Lib.hid hok
  have h8 := hok.1
  clear hok
  obtain ⟨N, hN⟩ : ∃ N, N = 2 ^ n := ⟨_, rfl⟩
  have hN1 : 1 ≤ N := by rw [hN]; exact Nat.pow_pos (by omega)
  have hN2 : N ≤ 256 := by rw [hN]; exact Nat.pow_le_pow_right (n := 2) (by omega) h8
  have hpw : wrap64 ((2 : Int) ^ n) = (N : Int) := by
    rw [show ((2 : Int) ^ n) = (N : Int) from by rw [hN]; push_cast; rfl]
    exact IntWalk.wrap64_in _ ⟨by omega, by omega⟩
  replace hN := Lib.hid hN
  have hmk := fun W => run_make_row' (P := Try.prog) 27 2 (.int .i64 0) 8 Try.underlying27 put_info_int64 rfl .i64 .i64 N (by omega) (by omega) W
  go_enter Try.func11, Try.ntmps11
  go_wp2_with fail
  refine (grid_any n c A qA qn qc x w hA (by omega) (fun i hi => by rw [HO.out.2.1 i hi]; omega)).mono ?_
  rintro e w1 ⟨r, rfl, hr, hb⟩
  obtain rfl : r = 0 := by rcases hr with ⟨h, _⟩ | ⟨_, h⟩; exact h; exact absurd HO.out h
  clear hr
  have hA1 := hA.below hb
  clear hA
  go_wp2
  obtain ⟨W0, hW0⟩ : ∃ W0, w1.alloc (.cells (madeCells #[.int .i64 0] N) 2) = W0 := ⟨_, rfl⟩
  have hrow0 : W0.rowIs w1.heap.size 2 N (fun _ => .int .i64 0) := by rw [← hW0]; exact World.rowIs_made _ _ _ _
  have hB1 : Below w1.heap.size w1 W0 := by rw [← hW0]; exact (Below.refl _ _).alloc (Nat.le_refl _) _
  have hsz : w.heap.size ≤ w1.heap.size := hb.size
  rw [hW0]
  clear hW0 hpw hmk
  go_loopw [8, 9, 10, 43] (fun v8 _ _ _ wr => ∃ (m : Nat) (f : Nat → Value), v8 = .int .i64 ((m : Int) - 1) ∧ m + 1 ≤ N ∧ wr.rowIs w1.heap.size 2 N f ∧ Hid (∀ k, m ≤ k → k < N → f k = .int .i64 (bestV n x (n - popc k) k)) ∧ Below w1.heap.size w1 wr) (fun v8 _ _ _ _ => (intOf v8 + 1).toNat)
  case atStart =>
    refine ⟨N - 1, fun _ => .int .i64 0, ?_, by omega, hrow0, Lib.hid (fun k h1 h2 => ?_), hB1⟩
    · congr 1; omega
    · obtain rfl : k = 2 ^ n - 1 := by have := hN.out; omega
      rw [popc_ones (by omega), Nat.sub_self]; rfl
  case round =>
    obtain ⟨m, f, rfl, hm, hrow, hf, hbl⟩ := hrel
    by_cases hm0 : m = 0
    · subst hm0
      rw [show (((0 : Nat) : Int) - 1) = -1 from rfl]
      have hall : Hid (∀ k, k < N → f k = .int .i64 (bestV n x (n - popc k) k)) := Lib.hid (fun k hk => hf.out k (Nat.zero_le _) hk)
      clear hf hrow0 hB1
      obtain ⟨i0, hi, hz0, hz1, hz2⟩ := info_parts info_int
      go_wp2
      obtain ⟨wo, rfl⟩ : ∃ wo : World, wo = wr := ⟨_, rfl⟩
      go_loopw [11, 12, 14, 15, 73] (fun v11 v12 _ _ v73 wr => ∃ (i um : Nat) (xs : List Value), v73 = .int .i64 i ∧ i ≤ n ∧ v12 = .int .i64 um ∧ um < N ∧ popc um = i ∧ wr.ownsRow (w1.heap.size + 1) 3 1 v11 i xs ∧ wr.rowIs w1.heap.size 2 N f ∧ Below w1.heap.size w1 wr) (fun _ _ _ _ v73 _ => n - (intOf v73).toNat)
      case atStart =>
        exact ⟨0, 0, [], rfl, Nat.zero_le _, rfl, by omega, by simp [popc, popcR_zero], World.ownsRow_nil _ _ _ _, hrow, hbl⟩
      case round =>
        obtain ⟨i, um, xs, rfl, hin, rfl, humN, hpu, hown, hrow3, hbl3⟩ := hrel
        by_cases hlt : i < n
        · obtain ⟨b, o, rfl, hbb, hc⟩ := hA1.1.opn (by omega)
          have hqn := HO.out.2.1 _ hlt
          have q0 := (hbl3.cell (p := ⟨b, o + i, none⟩) hbb).trans (hc i hlt)
          rw [hqn] at q0
          have hrd := hA1.2 _ hlt
          rw [hqn] at hrd
          clear hc hqn
          -- the first place that is free and met
          have hex : ∃ J, J < n ∧ um.testBit J = false ∧ x i J + bestV n x (n - (i + 1)) (um ||| 2 ^ J) = bestV n x (n - i) um ∧ ∀ j, j < J → ¬ (um.testBit j = false ∧ x i j + bestV n x (n - (i + 1)) (um ||| 2 ^ j) = bestV n x (n - i) um) := by
            obtain ⟨J, h1, ⟨h2, h3⟩, h4⟩ := least_nat (P := fun j => um.testBit j = false ∧ x i j + bestV n x (n - (i + 1)) (um ||| 2 ^ j) = bestV n x (n - i) um) (n := n) (by
              obtain ⟨j, h1, h2, h3⟩ := bestV_att (x := x) HO.out.2.2 h8 (k := n - (i + 1)) (w := um) (by omega) (by have := hN.out; omega) (by omega)
              refine ⟨j, h1, h2, ?_⟩
              rw [show n - (n - (i + 1) + 1) = i from by omega, show n - (i + 1) + 1 = n - i from by omega] at h3
              exact h3.symm)
            exact ⟨J, h1, h2, h3, h4⟩
          obtain ⟨J, hJn, hJb, hJe, hJmin⟩ := hex
          replace hJb := Lib.hid hJb
          replace hJe := Lib.hid hJe
          replace hJmin := Lib.hid hJmin
          replace hpu := Lib.hid hpu
          obtain ⟨b2, o2, e2, hbb2, hc2⟩ := hrd.opn (by omega)
          rw [e2] at q0
          clear e2 hrd
          replace hc2 := Lib.hid hc2
          go_wp2
          obtain ⟨wp, rfl⟩ : ∃ wp : World, wp = wr := ⟨_, rfl⟩
          go_loopw [15] (fun v15 wr => ∃ (j : Nat), v15 = .int .i64 j ∧ j ≤ J ∧ ∃ d, wp.drewN d = wr) (fun v15 _ => J - (intOf v15).toNat)
          case atStart => exact ⟨0, rfl, Nat.zero_le _, 0, rfl⟩
          case round =>
            obtain ⟨j, rfl, hjJ, d, rfl⟩ := hrel
            have hjn : j < n := by omega
            have q2 : wp.cell? ⟨b2, o2 + j, none⟩ = some (.int .i64 (x i j)) := (hbl3.cell (p := ⟨b2, o2 + j, none⟩) hbb2).trans (hc2.out j hjn)
            have hcm : wp.cell? ⟨w1.heap.size, um, none⟩ = some (.int .i64 (bestV n x (n - i) um)) := by rw [hrow3.cell humN, hall.out um humN, hpu.out]
            cases hbit : um.testBit j with
            | true =>
              have hlt2 : j < J := by
                rcases Nat.lt_or_ge j J with h | h
                · exact h
                · have := hJb.out; rw [show J = j from by omega, hbit] at this; cases this
              have hb1 := beq_true (i64_bit1 (u := um) (j := j) (by omega) hbit)
              replace hbit := Lib.hid hbit
              go_wp2
              go_quiet (fail)
              go_wp2
              go_roundw
              case rel => exact ⟨j + 1, by go_num, by omega, d + nq, rfl⟩
              case measure => simp [intOf]; omega
            | false =>
              have hb1 := beq_false (show bits .and .i64 ((um : Int) / 2 ^ j) 1 ≠ 1 by rw [i64_bit0 (by omega) hbit]; omega)
              have hvlt : um ||| 2 ^ j < N := by have h := or_lt (w := um) (j := j) (n := n) (by have := hN.out; omega) hjn; have := hN.out; omega
              obtain ⟨v, hv⟩ : ∃ v, v = um ||| 2 ^ j := ⟨_, rfl⟩
              rw [← hv] at hvlt
              have hor : bits .or .i64 (um : Int) (IntKind.i64.wrap ((2 : Int) ^ j)) = (v : Int) := by
                have := pow_lt62 (j := j) (by omega)
                rw [i64_pow' (by omega), i64_or _ _ (by omega) (by omega), hv]
              have hcv : wp.cell? ⟨w1.heap.size, v, none⟩ = some (.int .i64 (bestV n x (n - (i + 1)) v)) := by
                rw [hrow3.cell hvlt, hall.out v hvlt, show popc v = i + 1 from by rw [hv, popc_add (by omega) hbit, hpu.out]]
              have hxb := HO.out.2.2 i j hlt hjn
              have hvb := bestV_bd HO.out.2.2 h8 (n - (i + 1)) v (by omega)
              obtain ⟨X, hX⟩ : ∃ X, X = x i j := ⟨_, rfl⟩
              obtain ⟨V, hV⟩ : ∃ V, V = bestV n x (n - (i + 1)) v := ⟨_, rfl⟩
              obtain ⟨M, hM⟩ : ∃ M, M = bestV n x (n - i) um := ⟨_, rfl⟩
              rw [← hX] at q2 hxb
              rw [← hV] at hcv hvb
              rw [← hM] at hcm
              have hk8 : ((n - (i + 1) : Nat) : Int) ≤ 8 := by omega
              have hv1 : -8388608 ≤ V := by have h := hvb.1; omega
              have hv2 : V ≤ 1152921504606846976 := hvb.2
              clear hvb hk8
              obtain ⟨hx1, hx2⟩ := hxb
              have hsum : IntKind.i64.wrap (X + V) = X + V := IntWalk.i64_in _ ⟨by omega, by omega⟩
              have hcase : (j < J ∧ X + V ≠ M) ∨ (j = J ∧ X + V = M) := by
                rcases Nat.lt_or_ge j J with h | h
                · left
                  refine ⟨h, fun e => hJmin.out j h ⟨hbit, ?_⟩⟩
                  rw [← hX, ← hv, ← hV, ← hM]; exact e
                · right
                  have e : j = J := by omega
                  refine ⟨e, ?_⟩
                  have := hJe.out
                  rw [← e, ← hX, ← hv, ← hV, ← hM] at this
                  exact this
              replace hX := Lib.hid hX
              replace hV := Lib.hid hV
              replace hM := Lib.hid hM
              replace hv := Lib.hid hv
              replace hbit := Lib.hid hbit
              rcases hcase with ⟨hlt2, hne⟩ | ⟨hjJ', heq⟩
              · have hb2 := bne_true hne
                clear hne
                go_wp2
                go_quiet (fail)
                go_wp2
                go_roundw
                case rel => exact ⟨j + 1, by go_num, by omega, d + nq, rfl⟩
                case measure => simp [intOf]; omega
              · have hb2 := bne_false heq
                replace heq := Lib.hid heq
                replace hjJ' := Lib.hid hjJ'
                have hlow := hrow3.lt
                go_wp2
                go_quiet (fail)
                have hown' : (wp.drewN (d + nq)).ownsRow (w1.heap.size + 1) 3 1 u11 i xs := hown
                go_wp2_with (at_builtin; refine wpList_append_own _ rfl _ _ 23 rfl (w1.heap.size + 1) 3 i0 (.int .i64 0) 1 8 Try.underlying23 hi hz0 hz1 hz2 rfl (by decide) _ _ _ rfl (hown'.alloc _) ⟨wp.heap.size, 0, none⟩ 1 1 [.int .i64 j] rfl rfl ?c1 ?c2 ?c3 ?c4 ?c5 ?_)
                case c1 => exact cell_one_new _ _ _
                case c2 => simp [Value.oneCell']
                case c3 => unfold maxLen; omega
                case c4 => omega
                case c5 => simp; omega
                intro v' w2 hown2 hgrow _
                have hbl4 : Below w1.heap.size w1 w2 := by
                  refine (((below_drewN hbl3 (d + nq)).alloc hbl3.size _)).grown hgrow (by simp; omega) (fun k e => ?_)
                  have := hown'.lt k e; omega
                have hrow4 : w2.rowIs w1.heap.size 2 N f := by
                  refine (World.rowIs.alloc (w := wp.drewN (d + nq)) hrow3 _).of_block (hgrow.block _ (by simp; omega) (fun e => ?_))
                  have := hown'.lt _ e.symm; omega
                go_wp2
                go_roundw
                case rel =>
                  refine ⟨i + 1, v, _, by go_num, hlt, ?_, hvlt, by rw [hv.out, popc_add (by omega) hbit.out, hpu.out], hown2, hrow4, hbl4⟩
                  rw [← hor, i64_pow (by omega), i64_pow' (by omega)]
                case measure => simp [intOf]; omega
        · obtain rfl : i = n := by omega
          have hc0 : wr.cell? ⟨w1.heap.size, 0, none⟩ = some (.int .i64 (leastFees i x)) := by
            rw [hrow3.cell (by omega), hall.out 0 (by omega)]
            simp [popc, popcR_zero, leastFees]
          have hN0 : (0 : Int) < (N : Int) := by omega
          go_wp2
          go_quiet (fail)
          go_wp2
          go_ret3
          exact ⟨_, rfl, hb.trans ((below_drewN hbl3 _).mono hsz)⟩
    · obtain ⟨u, rfl⟩ : ∃ u, m = u + 1 := ⟨m - 1, by omega⟩
      rw [show (((u + 1 : Nat) : Int) - 1) = (u : Int) from by omega]
      have hun : u < N := by omega
      have hcell := hrow.cell hun
      have hfr := hrow.frozen u
      have hpn : popc u < n := by
        have h1 := popc_le (w := u) (n := n) (by have := hN.out; omega) (by omega)
        have h2 : popc u ≠ n := fun e => by have := popc_full (w := u) (n := n) (by have := hN.out; omega) (by omega) e; have := hN.out; omega
        omega
      obtain ⟨b, o, rfl, hbb, hc⟩ := hA1.1.opn (by omega)
      have hqn := HO.out.2.1 _ hpn
      have q0 := (hbl.cell (p := ⟨b, o + popc u, none⟩) hbb).trans (hc (popc u) hpn)
      rw [hqn] at q0
      have hrd := hA1.2 _ hpn
      rw [hqn] at hrd
      clear hc hqn
      go_wp2_with (go_at_call 47; refine (ones_any _ _ (by omega)).mono ?_; rintro e w' ⟨rfl, rfl⟩)
      obtain ⟨wo, rfl⟩ : ∃ wo : World, wo = wr := ⟨_, rfl⟩
      go_loopw [9, 10, 43] (fun _ _ v43 wr => ∃ (j : Nat), v43 = .int .i64 j ∧ j ≤ n ∧ wr.rowIs w1.heap.size 2 N (fun k => if k = u then .int .i64 (minOver u (fun j => x (popc u) j + bestV n x (n - popc u - 1) (u ||| 2 ^ j)) j) else f k) ∧ Below w1.heap.size w1 wr) (fun _ _ v43 _ => n - (intOf v43).toNat)
      case atStart =>
        exact ⟨0, rfl, Nat.zero_le _, hrow.set u _, hbl.setCell (Nat.le_refl _) _⟩
      case round =>
        obtain ⟨j, rfl, hj, hrow2, hbl2⟩ := hrel
        by_cases hjn : j < n
        · obtain ⟨b2, o2, e2, hbb2, hc2⟩ := hrd.opn (by omega)
          rw [e2]
          have q2 := (hbl2.cell (p := ⟨b2, o2 + j, none⟩) hbb2).trans (hc2 j hjn)
          obtain ⟨M, hM⟩ : ∃ M, M = minOver u (fun j => x (popc u) j + bestV n x (n - popc u - 1) (u ||| 2 ^ j)) j := ⟨_, rfl⟩
          have hcu : wr.cell? ⟨w1.heap.size, u, none⟩ = some (.int .i64 M) := by rw [hrow2.cell hun, if_pos rfl, hM]
          replace hM := Lib.hid hM
          have hfu := hrow2.frozen u
          cases hbit : u.testBit j with
          | true =>
            have hb1 := beq_false (show bits .and .i64 ((u : Int) / 2 ^ j) 1 ≠ 0 by rw [i64_bit1 (by omega) hbit]; omega)
            replace hbit := Lib.hid hbit
            go_wp2
            go_roundw
            case rel =>
              refine ⟨j + 1, by go_num, hjn, hrow2.congr (fun k _ => ?_), hbl2⟩
              rw [minOver, if_pos hbit.out]
            case measure => simp [intOf]; omega
          | false =>
            have hb1 := beq_true (i64_bit0 (u := u) (j := j) (by omega) hbit)
            have hvlt : u ||| 2 ^ j < N := by have h := or_lt (w := u) (j := j) (n := n) (by have := hN.out; omega) hjn; have := hN.out; omega
            obtain ⟨v, hv⟩ : ∃ v, v = u ||| 2 ^ j := ⟨_, rfl⟩
            rw [← hv] at hvlt
            have hor : bits .or .i64 (u : Int) (wrap64 ((2 : Int) ^ j)) = (v : Int) := by
              have := pow_lt62 (j := j) (by omega)
              rw [i64_pow (by omega), i64_or _ _ (by omega) (by omega), hv]
            have hor2 : bits .or .i64 (u : Int) (IntKind.i64.wrap ((2 : Int) ^ j)) = (v : Int) := by rw [i64_pow' (by omega), ← i64_pow (by omega)]; exact hor
            have huv : u < v := by rw [hv]; exact lt_or hbit
            have hfv : f v = .int .i64 (bestV n x (n - popc u - 1) v) := by
              rw [hf.out v (by omega) hvlt, show popc v = popc u + 1 from by rw [hv, popc_add (by omega) hbit], Nat.sub_sub]
            have hcv : wr.cell? ⟨w1.heap.size, v, none⟩ = some (.int .i64 (bestV n x (n - popc u - 1) v)) := by rw [hrow2.cell hvlt, if_neg (by omega), hfv]
            have hxb := HO.out.2.2 (popc u) j hpn hjn
            have hvb := bestV_bd HO.out.2.2 h8 (n - popc u - 1) v (by omega)
            obtain ⟨X, hX⟩ : ∃ X, X = x (popc u) j := ⟨_, rfl⟩
            obtain ⟨V, hV⟩ : ∃ V, V = bestV n x (n - popc u - 1) v := ⟨_, rfl⟩
            rw [← hX] at q2 hxb
            rw [← hV] at hcv hvb
            have hk8 : ((n - popc u - 1 : Nat) : Int) ≤ 8 := by omega
            have hv1 : -8388608 ≤ V := by have h := hvb.1; omega
            have hv2 : V ≤ 1152921504606846976 := hvb.2
            clear hvb hk8
            obtain ⟨hx1, hx2⟩ := hxb
            have hsum : IntKind.i64.wrap (X + V) = X + V := IntWalk.i64_in _ ⟨by omega, by omega⟩
            replace hX := Lib.hid hX
            replace hV := Lib.hid hV
            replace hv := Lib.hid hv
            replace hfv := Lib.hid hfv
            replace hbit := Lib.hid hbit
            go_wp2
            go_still_tail 17, (by kernel_rfl)
            go_wp2
            go_roundw
            case rel =>
              refine ⟨j + 1, by go_num, hjn, ((hrow2.set u (.int .i64 (if X + V < M then X + V else M))).congr (fun k _ => ?_)), (hbl2.setCell (Nat.le_refl _) _).drew⟩
              by_cases e : k = u
              · rw [if_pos e, if_pos e, minOver, if_neg (c := u.testBit j = true) (by rw [hbit.out]; simp), ← hM.out, ← hX.out, ← hv.out, ← hV.out]
                congr 1
                omega
              · rw [if_neg e, if_neg e, if_neg e]
            case measure => simp [intOf]; omega
        · obtain rfl : j = n := by omega
          go_wp2
          go_roundw
          case rel =>
            refine ⟨u, _, rfl, by omega, hrow2, Lib.hid (fun k h1 h2 => ?_), hbl2⟩
            by_cases e : k = u
            · subst e
              rw [if_pos rfl]
              obtain ⟨K, hK⟩ : ∃ K, j - popc k = K + 1 := ⟨j - popc k - 1, by omega⟩
              rw [hK, bestV, Nat.add_sub_cancel, show j - (K + 1) = popc k from by omega]
            · rw [if_neg e]; exact hf.out k (by omega) h2
          case measure => simp [intOf]
end Go.Proofs.Ytdkpcjabciocgaa
