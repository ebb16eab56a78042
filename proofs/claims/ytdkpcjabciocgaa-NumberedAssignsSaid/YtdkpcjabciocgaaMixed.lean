/- 'mixed': the numbers below n in another order (walks). -/
import Derived.Test.YtdkpcjabciocgaaBase
namespace Go.Proofs.Ytdkpcjabciocgaa
open Go.RowKit

set_option maxHeartbeats 400000 in
theorem apart_any (x y : Nat) (w : World) (hx : x < 4611686018427387904) (hy : y < 4611686018427387904) :
    Calls Try.prog 48 #[.int .i64 x, .int .i64 y] w fun e w' => e = .returned (.bool (decide (Nat.gcd x y = 1))) ∧ (∃ n, w.drewN n = w') := by
  go_enter Try.func48, Try.ntmps48
  go_wp2
  go_loopw [0, 1] (fun v0 v1 wr => ∃ (p q : Nat), v0 = .int .i64 p ∧ v1 = .int .i64 q ∧ Hid (Nat.gcd p q = Nat.gcd x y) ∧ p < 4611686018427387904 ∧ q < 4611686018427387904 ∧ ∃ n, w.drewN n = wr) (fun _ v1 _ => (intOf v1).toNat)
  case atStart => exact ⟨x, y, rfl, rfl, Lib.hid rfl, hx, hy, 0, rfl⟩
  case round =>
    obtain ⟨p, q, rfl, rfl, hg, hp, hq, n, rfl⟩ := hrel
    by_cases h0 : q = 0
    · subst h0
      go_wp2
      go_ret
      have := hg.out
      rw [Nat.gcd_zero_right] at this
      subst this
      refine ⟨ret_bool ?_, n, rfl⟩
      rw [Bool.eq_iff_iff]; simp; omega
    · have h1 : ((q : Int) != 0) = true := by rw [bne_iff_ne]; omega
      go_wp2
      go_quiet (fail)
      go_wp2
      go_roundw
      case rel => exact ⟨q, p % q, rfl, by go_num, Lib.hid (by rw [← hg.out, Nat.gcd_comm p q, Nat.gcd_rec q p, Nat.gcd_comm]), hq, by have := Nat.mod_lt p (y := q) (by omega); omega, n + nq, (World.drewN_drewN _ _ _).symm⟩
      case measure => simp [intOf]; have := Nat.mod_lt p (y := q) (by omega); omega

set_option maxHeartbeats 400000 in
theorem mixed_none (n a b : Int) (w : World) (hn : n ≤ 0) :
    Calls Try.prog 12 #[.int .i64 n, .int .i64 a, .int .i64 b] w fun e w' => e = .returned (.slice none 0 0) ∧ w = w' := by
  go_enter Try.func12, Try.ntmps12
  go_wp2
  go_ret
  exact ⟨rfl, rfl⟩

/-- Where two numbers choose an order: each is brought below n. -/
theorem brought (n : Nat) (a : Int) (hn : 0 < n) (hn' : n ≤ 1073741824) : ∃ c : Nat, c < n ∧ wrap64 ((IntKind.u64.wrap a).tmod (n : Int)) = (c : Int) := by
  have h0 : 0 ≤ IntKind.u64.wrap a := by simp [IntKind.wrap, IntKind.bits, IntKind.signed]; omega
  have h1 := Int.tmod_nonneg (n : Int) h0
  have h2 : (IntKind.u64.wrap a).tmod (n : Int) < n := Int.tmod_lt_of_pos _ (by omega)
  refine ⟨((IntKind.u64.wrap a).tmod (n : Int)).toNat, by omega, ?_⟩
  rw [IntWalk.wrap64_in _ ⟨by omega, by omega⟩]
  omega

/-- Steps of a size that has nothing in common with n come by each number once. -/
theorem mixed_perm (n c b : Nat) (hn : 0 < n) (hg : Nat.gcd c n = 1) : PermOn n (fun j => (j * c + b) % n) := by
  refine ⟨fun i _ => Nat.mod_lt _ hn, ?_⟩
  have key : ∀ i j, i < n → j < n → i ≤ j → (i * c + b) % n = (j * c + b) % n → i = j := by
    intro i j hi hj hij h
    have h1 : ((j * c + b) - (i * c + b)) % n = 0 := Nat.sub_mod_eq_zero_of_mod_eq h.symm
    have h2 : (j * c + b) - (i * c + b) = (j - i) * c := by rw [Nat.sub_mul]; omega
    rw [h2] at h1
    have h3 : n ∣ (j - i) * c := Nat.dvd_of_mod_eq_zero h1
    have h4 : n ∣ (j - i) := Nat.Coprime.dvd_of_dvd_mul_right (by rw [Nat.Coprime, Nat.gcd_comm]; exact hg) h3
    have h5 : j - i = 0 := Nat.eq_zero_of_dvd_of_lt h4 (by omega)
    omega
  intro i j hi hj h
  rcases Nat.le_total i j with hij | hij
  · exact key i j hi hj hij h
  · exact (key j i hj hi hij h.symm).symm

theorem info_int : (Try.prog.info? 3).map (fun i => (i.zero, i.size, i.bytes)) = some (some (.int .i64 0), 1, 8) := by kernel_rfl

set_option maxRecDepth 100000 in
set_option maxHeartbeats 400000 in
theorem mixed_some (n : Nat) (a b : Int) (w : World) (hn : 0 < n) (hn' : n ≤ 1073741824) :
    Calls Try.prog 12 #[.int .i64 n, .int .i64 a, .int .i64 b] w fun e w' => ∃ (g : Nat) (p : Nat → Nat), e = .returned (.slice (some ⟨g, 0, none⟩) n n) ∧ PermOn n p ∧ w.heap.size ≤ g ∧ w'.rowIs g 3 n (fun i => .int .i64 (p i)) ∧ Below w.heap.size w w' := by
  obtain ⟨a1, ha1, ea⟩ := brought n a hn hn'
  obtain ⟨b1, hb1, eb⟩ := brought n b hn hn'
  have n0 : decide (n = 0) = false := by simp; omega
  have hmk := fun W => run_make_row' (P := Try.prog) 23 3 (.int .i64 0) 8 Try.underlying23 info_int rfl .i64 .i64 n (by omega) (by omega) W
  replace ea := Lib.hid ea
  replace eb := Lib.hid eb
  go_enter Try.func12, Try.ntmps12
  go_wp2
  go_quiet (fail)
  go_wp2
  rw [ea.out, eb.out]
  clear ea eb
  go_loopw [1] (fun v1 wr => ∃ (c : Nat), v1 = .int .i64 c ∧ c ≤ n ∧ ∃ k, w.drewN k = wr) (fun v1 _ => if (intOf v1).toNat ≤ 1 then 1 - (intOf v1).toNat else n + 2 - (intOf v1).toNat)
  case atStart => exact ⟨a1, rfl, by omega, nq, rfl⟩
  case round =>
    obtain ⟨c, rfl, hc, k, rfl⟩ := hrel
    by_cases hg : Nat.gcd c n = 1
    · go_wp2_with (go_at_call 48; refine (apart_any _ _ _ (by omega) (by omega)).mono ?_; rintro e w' ⟨rfl, k2, rfl⟩)
      go_loopw [9, 38] (fun _ v38 wr => ∃ (i : Nat), v38 = .int .i64 i ∧ i ≤ n ∧ wr.rowIs w.heap.size 3 n (fun j => if j < i then .int .i64 ((j * c + b1) % n : Nat) else .int .i64 0) ∧ Below w.heap.size w wr) (fun _ v38 _ => n - (intOf v38).toNat)
      case atStart =>
        refine ⟨0, rfl, Nat.zero_le _, ((World.rowIs_made (w.drewN (k + k2)) (.int .i64 0) n 3).congr (fun j _ => by simp)), ?_⟩
        exact (below_of_drewN w (k + k2)).alloc (by simp) _
      case round =>
        obtain ⟨i, rfl, hi, hrow, hb⟩ := hrel
        by_cases hlt : i < n
        · have hcell := hrow.cell hlt
          have hfr := hrow.frozen i
          have m0 : 0 ≤ (i : Int) * (c : Int) := Int.mul_nonneg (by omega) (by omega)
          have m1 : (i : Int) * (c : Int) ≤ 1073741824 * 1073741824 := Int.mul_le_mul (by omega) (by omega) (by omega) (by omega)
          go_wp2
          go_roundw
          case rel =>
            refine ⟨i + 1, by go_num, hlt, ((hrow.set i _).congr (fun j hj => ?_)), hb.setCell (Nat.le_refl _) _⟩
            by_cases e : j = i
            · subst e
              rw [if_pos rfl, if_pos (by omega)]; push_cast; rfl
            · rw [if_neg e]
              by_cases h : j < i
              · rw [if_pos h, if_pos (by omega)]
              · rw [if_neg h, if_neg (by omega)]
          case measure => simp [intOf]; omega
        · obtain rfl : i = n := by omega
          go_wp2
          go_ret
          refine ⟨w.heap.size, fun j => (j * c + b1) % i, rfl, mixed_perm i c b1 hn hg, Nat.le_refl _, hrow.congr (fun j hj => by rw [if_pos hj]), hb⟩
    · go_wp2_with (go_at_call 48; refine (apart_any _ _ _ (by omega) (by omega)).mono ?_; rintro e w' ⟨rfl, k2, rfl⟩)
      go_roundw
      case rel => refine ⟨(c + 1) % (n + 1), by go_num, by have := Nat.mod_lt (c + 1) (y := n + 1) (by omega); omega, k + k2, rfl⟩
      case measure =>
        have hc1 : c ≠ 1 := by rintro rfl; simp at hg
        have e1 : (intOf (.int .i64 (((c : Int) + 1) % ((n : Int) + 1)))).toNat = (c + 1) % (n + 1) := by
          have e : ((c : Int) + 1) % ((n : Int) + 1) = (((c + 1) % (n + 1) : Nat) : Int) := by push_cast; rfl
          simp only [intOf]; rw [e, Int.toNat_natCast]
        have e2 : (intOf (.int .i64 (c : Int))).toNat = c := by simp [intOf]
        show (if (intOf (.int .i64 (((c : Int) + 1) % ((n : Int) + 1)))).toNat ≤ 1 then _ else _) < (if (intOf (.int .i64 (c : Int))).toNat ≤ 1 then _ else _)
        rw [e1, e2]
        by_cases hcn : c = n
        · subst hcn
          rw [Nat.mod_self]
          by_cases h : c ≤ 1
          · have : c = 0 := by omega
            omega
          · simp [h]
        · rw [Nat.mod_eq_of_lt (by omega)]
          by_cases h : c ≤ 1
          · have : c = 0 := by omega
            subst this; simp
          · simp [h]; split <;> omega
/-- 'mixed', n no less than 0: some permutation. -/
theorem mixed_any (n : Nat) (a b : Int) (w : World) (hn' : n ≤ 1073741824) :
    Calls Try.prog 12 #[.int .i64 n, .int .i64 a, .int .i64 b] w fun e w' => ∃ (A : Option Addr) (c : Nat) (p : Nat → Nat), e = .returned (.slice A n c) ∧ PermOn n p ∧ RdF w' A n (fun i => .int .i64 (p i)) ∧ n ≤ c ∧ (∀ x, A = some x → w.heap.size ≤ x.block) ∧ Below w.heap.size w w' := by
  by_cases h : n = 0
  · subst h
    refine (mixed_none 0 a b w (by omega)).mono ?_
    rintro e w' ⟨rfl, rfl⟩
    exact ⟨none, 0, id, rfl, ⟨fun i hi => by omega, fun i j hi => by omega⟩, RdF.zero _ _ _, Nat.le_refl _, (fun x h => by cases h), Below.refl _ _⟩
  · refine (mixed_some n a b w (by omega) hn').mono ?_
    rintro e w' ⟨g, p, rfl, hp, hg, hrow, hb⟩
    exact ⟨_, n, p, rfl, hp, RdF.of_row hrow, Nat.le_refl _, (fun x h => by cases h; exact hg), hb⟩
end Go.Proofs.Ytdkpcjabciocgaa
