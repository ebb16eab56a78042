/- NumberedAssigns: the walk of the law. -/
import Derived.Test.YtdkpcjabciocgaaAssign
namespace Go.Proofs.Ytdkpcjabciocgaa
open Go.RowKit

theorem leastFees_one : leastFees 1 (fun _ _ => 4) = 4 := by decide
theorem feesOk_one : FeesOk 1 (fun _ => 1) (fun _ _ => 4) := ⟨by omega, fun _ _ => rfl, fun _ _ _ _ => by constructor <;> simp⟩

/-- The fees [[4]], as a call lays them. -/
theorem feesAt_one (w : World) (t1 t2 : TypeId) : FeesAt ((w.alloc (.cells #[.int .i64 4] t1)).alloc (.cells #[.slice (some ⟨w.heap.size, 0, none⟩) 1 1] t2)) (some ⟨w.heap.size + 1, 0, none⟩) 1 (fun _ => some ⟨w.heap.size, 0, none⟩) (fun _ => 1) (fun _ => 1) (fun _ _ => 4) := by
  refine ⟨.inr ⟨_, _, rfl, by simp, fun i hi => ?_⟩, fun i _ => .inr ⟨_, _, rfl, by simp; omega, fun j hj => ?_⟩⟩
  · obtain rfl : i = 0 := by omega
    exact (congrArg (fun b => World.cell? _ ⟨b, 0, none⟩) (World.size_alloc w _).symm).trans (cell_new1 _ _ _)
  · obtain rfl : j = 0 := Nat.lt_one_iff.1 hj
    exact (cell_old1 _ _ _ (by simp)).trans (cell_new1 _ _ _)

set_option maxRecDepth 100000 in
set_option maxHeartbeats 2000000 in
theorem assigns_bad (n c : Nat) (A : Option Addr) (qA : Nat → Option Addr) (qn qc : Nat → Nat) (x : Nat → Nat → Int) (a b : Int) (w : World) (hA : FeesAt w A n qA qn qc x) (hn : n ≤ 9223372036854775807) (hqn : ∀ i, i < n → qn i ≤ 9223372036854775807) (hbad : ¬ FeesOk n qn x) :
    Calls Try.prog 3 #[.slice A n c, .int .i64 a, .int .i64 b] w fun e w' => e = .returned (.bool true) ∧ Below w.heap.size w w' := by
  have HQ := Lib.hid hqn
  have HB := Lib.hid hbad
  clear hqn hbad
  go_enter Try.func3, Try.ntmps3
  go_wp2_with fail
  refine (assign_ok 1 1 (some ⟨w.heap.size + 1, 0, none⟩) (fun _ => some ⟨w.heap.size, 0, none⟩) (fun _ => 1) (fun _ => 1) (fun _ _ => 4) _ (feesAt_one w _ _) feesOk_one).mono ?_
  rw [leastFees_one]
  rintro e w1 ⟨v, rfl, hb1⟩
  have hB1 : Below w.heap.size w w1 := ((((Below.refl _ w).alloc (Nat.le_refl _) _).alloc (by simp) _)).trans (hb1.mono (by simp; omega))
  clear hb1
  go_wp2_with fail
  refine (assign_bad n c A qA qn qc x w1 (hA.below hB1) hn HQ.out HB.out).mono ?_
  rintro e w2 ⟨r, rfl, hr, hb2⟩
  have hrb := bne_true hr
  replace hr := Lib.hid hr
  go_wp2
  go_ret
  exact ⟨rfl, hB1.trans (hb2.mono hB1.size)⟩

set_option maxRecDepth 100000 in
set_option maxHeartbeats 2000000 in
theorem assigns_good (n c : Nat) (A : Option Addr) (qA : Nat → Option Addr) (qn qc : Nat → Nat) (x : Nat → Nat → Int) (a b : Int) (w : World) (hA : FeesAt w A n qA qn qc x) (hok : FeesOk n qn x) :
    Calls Try.prog 3 #[.slice A n c, .int .i64 a, .int .i64 b] w fun e w' => e = .returned (.bool true) ∧ Below w.heap.size w w' := by
  have HO := Lib.hid hok
  have h8 := hok.1
  clear hok
  go_enter Try.func3, Try.ntmps3
  go_wp2_with fail
  refine (assign_ok 1 1 (some ⟨w.heap.size + 1, 0, none⟩) (fun _ => some ⟨w.heap.size, 0, none⟩) (fun _ => 1) (fun _ => 1) (fun _ _ => 4) _ (feesAt_one w _ _) feesOk_one).mono ?_
  rw [leastFees_one]
  rintro e w1 ⟨v, rfl, hb1⟩
  have hB1 : Below w.heap.size w w1 := ((((Below.refl _ w).alloc (Nat.le_refl _) _).alloc (by simp) _)).trans (hb1.mono (by simp; omega))
  clear hb1
  go_wp2_with fail
  refine (assign_ok n c A qA qn qc x w1 (hA.below hB1) HO.out).mono ?_
  rintro e w2 ⟨v2, rfl, hb2⟩
  have hB2 : Below w.heap.size w w2 := hB1.trans (hb2.mono hB1.size)
  clear hb2
  obtain ⟨L, hL⟩ : ∃ L, L = leastFees n x := ⟨_, rfl⟩
  rw [← hL]
  replace hL := Lib.hid hL
  go_wp2_with fail
  refine (mixed_any n a b w2 (by omega)).mono ?_
  rintro e w3 ⟨Ap, cp, p, rfl, hp, hrp, _, _, hb3⟩
  have hB3 : Below w.heap.size w w3 := hB2.trans (hb3.mono hB2.size)
  clear hb3
  go_wp2_with fail
  refine (mixed_any n b a w3 (by omega)).mono ?_
  rintro e w4 ⟨Aq, cq, q, rfl, hq, hrq, _, hqf, hb4⟩
  have hB4 : Below w.heap.size w w4 := hB3.trans (hb4.mono hB3.size)
  replace hrp := hrp.below hb4
  have hqb : 0 < n → ∀ a, Aq = some a → a.block < w4.heap.size := fun h0 a ha => by
    obtain ⟨b, o, e, hlt, _⟩ := hrq.opn h0
    rw [ha] at e; cases e; exact hlt
  replace hqb := Lib.hid hqb
  have h34 := hb4.size
  have h03 := hB3.size
  clear hb4
  have hA4 := hA.below hB4
  have hz4 := hB4.size
  replace hp := Lib.hid hp
  replace hq := Lib.hid hq
  replace hqf := Lib.hid hqf
  go_wp2_with fail
  refine (put_rows A Ap n c cp qA (fun _ => n) qc p w4 (hA4.1.congr (fun i hi => by rw [HO.out.2.1 i hi])) hrp hp.out (by omega)).mono ?_
  rintro e w5 ⟨g, h, rfl, hg, hrow, hh, hb5⟩
  obtain ⟨p', hp', hp1, hp2⟩ := hp.out.inv
  obtain ⟨q', hq', hq1, hq2⟩ := hq.out.inv
  have hB5 : Below w.heap.size w w5 := hB4.trans (hb5.mono hB4.size)
  replace hrq := hrq.below hb5
  have hrow5 : w5.rowIs g 27 n (fun k => .slice (qA (p' k)) n (qc (p' k))) := hrow.congr fun k hk => by rw [← hh _ (hp'.1 k hk), hp2 k hk]
  have hin5 : ∀ k, k < n → RdF w5 (qA (p' k)) n (fun j => .int .i64 (x (p' k) j)) := fun k hk => by
    have := (hA4.2 _ (hp'.1 k hk)).below hb5
    rwa [HO.out.2.1 _ (hp'.1 k hk)] at this
  have hblk : ∀ k, k < n → 0 < n → ∀ a, qA (p' k) = some a → a.block < w.heap.size := fun k hk h0 a ha => by
    have := hA.2 _ (hp'.1 k hk)
    rw [HO.out.2.1 _ (hp'.1 k hk)] at this
    obtain ⟨b, o, e, hlt, _⟩ := this.opn h0
    rw [ha] at e; cases e; exact hlt
  have hz5 := hB5.size
  have hgl := hrow.lt
  clear hb5 hrow hh hA4 hrp
  replace hin5 := Lib.hid hin5
  replace hblk := Lib.hid hblk
  replace hp' := Lib.hid hp'
  replace hq' := Lib.hid hq'
  replace hp1 := Lib.hid hp1
  replace hp2 := Lib.hid hp2
  replace hq1 := Lib.hid hq1
  replace hq2 := Lib.hid hq2
  go_wp2
  go_loopw [16, 17, 59] (fun _ _ v59 wr => ∃ (i : Nat) (RA : Nat → Option Addr) (rc : Nat → Nat), v59 = .int .i64 i ∧ i ≤ n ∧ wr.rowIs g 27 n (fun k => .slice (RA k) n (rc k)) ∧ Hid (∀ k, k < n → RdF wr (RA k) n (fun j => .int .i64 (if k < i then x (p' k) (q' j) else x (p' k) j))) ∧ Hid (∀ k, k < n → ∀ a, RA k = some a → a.block ≠ g) ∧ RdF wr Aq n (fun i => .int .i64 (q i)) ∧ w5.heap.size ≤ wr.heap.size ∧ Below w.heap.size w wr) (fun _ _ v59 _ => n - (intOf v59).toNat)
  case atStart =>
    refine ⟨0, _, _, rfl, Nat.zero_le _, hrow5, Lib.hid (fun k hk => (hin5.out k hk).congr fun j _ => by simp), Lib.hid (fun k hk a ha e => ?_), hrq, Nat.le_refl _, hB5⟩
    have := hblk.out k hk (by omega) a ha
    omega
  case round =>
    obtain ⟨i, RA, rc, rfl, hi, hrow, hin, hne, hrq2, hwz, hb⟩ := hrel
    by_cases hlt : i < n
    · have hcell := hrow.cell hlt
      have hfr := hrow.frozen i
      have hcur : RdF wr (RA i) n (fun j => .int .i64 (x (p' i) j)) := (hin.out i hlt).congr fun j _ => by simp
      go_wp2_with fail
      refine (put_int64 (RA i) Aq n (rc i) cq (x (p' i)) q wr hcur hrq2 hq.out (by omega)).mono ?_
      rintro e w6 ⟨g2, h2, rfl, hg2, hrow2, hh2, hb6⟩
      have hgl2 := hrow.lt
      have hrow6 := rowIs_below hrow hb6 hgl2
      have hcell6 := hrow6.cell hlt
      have hfr6 := hrow6.frozen i
      have hb7 : Below w.heap.size w w6 := hb.trans (hb6.mono hb.size)
      have hrd2 : RdF w6 (some ⟨g2, 0, none⟩) n (fun j => .int .i64 (x (p' i) (q' j))) := (RdF.of_row hrow2).congr fun j hj => by rw [← hh2 _ (hq'.out.1 j hj), hq2.out j hj]
      have hrq6 := hrq2.below hb6
      have hz6 := hb6.size
      clear hrow2 hh2
      replace hrd2 := Lib.hid hrd2
      replace hrq6 := Lib.hid hrq6
      go_wp2
      go_roundw
      case rel =>
        refine ⟨i + 1, fun k => if k = i then some ⟨g2, 0, none⟩ else RA k, fun k => if k = i then n else rc k, by go_num, hlt, (hrow6.set i _).congr (fun k hk => ?_), Lib.hid (fun k hk => ?_), Lib.hid (fun k hk a ha => ?_), hrq6.out.setCell (fun a ha => ?_) _, by simpa [World.setCell] using (by omega : w5.heap.size ≤ w6.heap.size), hb7.setCell (p := ⟨g, i, none⟩) (by show w.heap.size ≤ g; omega) _⟩
        · by_cases e : k = i
          · simp only [if_pos e]
          · simp only [if_neg e]
        · by_cases e : k = i
          · subst e
            show RdF _ (if k = k then some ⟨g2, 0, none⟩ else RA k) _ _
            rw [if_pos rfl]
            refine (hrd2.out.setCell (fun a ha => ?_) _).congr fun j _ => by rw [if_pos (by omega)]
            cases ha; show g2 ≠ g; omega
          · simp only [if_neg e]
            refine (((hin.out k hk).below hb6).setCell (fun a ha => hne.out k hk a ha) _).congr fun j _ => ?_
            by_cases h : k < i
            · rw [if_pos h, if_pos (by omega)]
            · rw [if_neg h, if_neg (by omega)]
        · by_cases e : k = i
          · simp only [if_pos e] at ha; cases ha; show g2 ≠ g; omega
          · simp only [if_neg e] at ha; exact hne.out k hk a ha
        · have := hqb.out (by omega) a ha
          show a.block ≠ g; omega
      case measure => simp [intOf]; omega
    · obtain rfl : i = n := by omega
      have hF : FeesAt wr (some ⟨g, 0, none⟩) i RA (fun _ => i) rc (fun k j => x (p' k) (q' j)) :=
        ⟨RdF.of_row hrow, fun k hk => (hin.out k hk).congr fun j _ => by rw [if_pos hk]⟩
      have hFo : FeesOk i (fun _ => i) (fun k j => x (p' k) (q' j)) := ⟨h8, fun _ _ => rfl, fun k j hk hj => HO.out.2.2 _ _ (hp'.out.1 k hk) (hq'.out.1 j hj)⟩
      have hsame : leastFees i (fun k j => x (p' k) (q' j)) = L := by
        rw [hL.out]
        exact leastFees_moved (p := p) (q := q) HO.out.2.2 h8 hp.out hq.out fun k j hk hj => by rw [hp1.out k hk, hq1.out j hj]
      replace hF := Lib.hid hF
      replace hFo := Lib.hid hFo
      replace hsame := Lib.hid hsame
      go_wp2_with fail
      refine (assign_ok i i _ RA (fun _ => i) rc _ wr hF.out hFo.out).mono ?_
      rw [hsame.out]
      rintro e w7 ⟨v7, rfl, hb7⟩
      go_wp2
      go_ret
      refine ⟨ret_bool (by simp), hb.trans (hb7.mono hb.size)⟩
end Go.Proofs.Ytdkpcjabciocgaa
