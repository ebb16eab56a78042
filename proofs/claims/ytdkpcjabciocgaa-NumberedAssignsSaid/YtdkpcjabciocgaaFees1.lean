/- fee.grid: may fees be? (walk) -/
import Derived.Test.YtdkpcjabciocgaaFind
namespace Go.Proofs.Ytdkpcjabciocgaa
open Go.RowKit

/-- May fees be: as many in each row as rows, 8 at most, none out of range. -/
def FeesOk (n : Nat) (qn : Nat → Nat) (x : Nat → Nat → Int) : Prop :=
  n ≤ 8 ∧ (∀ i, i < n → qn i = n) ∧ ∀ i j, i < n → j < n → -1048576 ≤ x i j ∧ x i j ≤ 1048576

/-- Fees in memory: rows, each of numbers. -/
def FeesAt (w : World) (A : Option Addr) (n : Nat) (qA : Nat → Option Addr) (qn qc : Nat → Nat) (x : Nat → Nat → Int) : Prop :=
  RdF w A n (fun i => .slice (qA i) (qn i) (qc i)) ∧ ∀ i, i < n → RdF w (qA i) (qn i) (fun j => .int .i64 (x i j))

theorem FeesAt.below {w w' : World} {A : Option Addr} {n : Nat} {qA : Nat → Option Addr} {qn qc : Nat → Nat} {x : Nat → Nat → Int} (h : FeesAt w A n qA qn qc x) (hb : Below w.heap.size w w') : FeesAt w' A n qA qn qc x :=
  ⟨h.1.below hb, fun i hi => (h.2 i hi).below hb⟩

set_option maxRecDepth 100000 in
set_option maxHeartbeats 400000 in
theorem grid1_any (n m : Nat) (A B : Option Addr) (c d : Nat) (g : Nat) (w : World) (hg : w.cell? ⟨g, 0, none⟩ = some (.slice A n c)) :
    Calls Try.prog 91 #[.slice B m d, .pointer (some ⟨g, 0, none⟩)] w fun e w' => e = .returned (.bool (decide (m ≠ n))) ∧ Below w.heap.size w w' := by
  go_enter Try.func91, Try.ntmps91
  go_wp2
  go_ret
  refine ⟨ret_bool ?_, Below.refl _ _⟩
  rw [Bool.eq_iff_iff, bne_iff_ne, decide_eq_true_iff]; omega

set_option maxRecDepth 100000 in
set_option maxHeartbeats 400000 in
theorem grid2_any (x : Int) (w : World) :
    Calls Try.prog 92 #[.int .i64 x] w fun e w' => e = .returned (.bool (decide (x > 1048576 ∨ x < -1048576))) ∧ Below w.heap.size w w' := by
  go_enter Try.func92, Try.ntmps92
  by_cases h : x > 1048576
  · go_wp2
    go_ret
    exact ⟨ret_bool (by simp [h]), Below.refl _ _⟩
  · go_wp2
    go_ret
    exact ⟨ret_bool (by simp; omega), Below.refl _ _⟩

/-- What is wrong with some fees: the code, and that it is 0 just where they may be. -/
def GridSays (n : Nat) (qn : Nat → Nat) (x : Nat → Nat → Int) (r : Int) : Prop := (r = 0 ∧ FeesOk n qn x) ∨ (r ≠ 0 ∧ ¬ FeesOk n qn x)

set_option maxRecDepth 100000 in
set_option maxHeartbeats 400000 in
theorem grid_any (n c : Nat) (A : Option Addr) (qA : Nat → Option Addr) (qn qc : Nat → Nat) (x : Nat → Nat → Int) (w : World) (hA : FeesAt w A n qA qn qc x) (hn : n ≤ 9223372036854775807) (hqn : ∀ i, i < n → qn i ≤ 9223372036854775807) :
    Calls Try.prog 46 #[.slice A n c] w fun e w' => ∃ r, e = .returned (.int .i64 r) ∧ GridSays n qn x r ∧ Below w.heap.size w w' := by
  by_cases h8 : n ≤ 8
  · have hlen : (decide ((n : Int) > 8)) = false := by simp; omega
    have hB0 := (Below.refl w.heap.size w).alloc (Nat.le_refl _) (.cells #[.slice A n c] 22)
    have hA0 := hA.below hB0
    have hP : PredOn Try.prog 91 #[.pointer (some ⟨w.heap.size, 0, none⟩)] (w.alloc (.cells #[.slice A n c] 22)) n (fun i => .slice (qA i) (qn i) (qc i)) (fun i => decide (qn i ≠ n)) :=
      ⟨enters Try.func91 (by kernel_rfl) (by kernel_rfl), fun i hi W hW => grid1_any n (qn i) A (qA i) c (qc i) w.heap.size W ((hW.cell (p := ⟨w.heap.size, 0, none⟩) (by simp)).trans (by simp))⟩
    replace hP := Lib.hid hP
    go_enter Try.func46, Try.ntmps46
    go_wp2_with fail
    refine (contains_rows 91 _ A n c qA qn qc _ _ hA0.1 hn hP.out).mono ?_
    rintro e w1 ⟨rfl, hb1⟩
    have hB1 : Below w.heap.size w w1 := hB0.trans (hb1.mono (by simp))
    have hA1 := hA0.below hb1
    have hbox : w1.cell? ⟨w.heap.size, 0, none⟩ = some (.slice A n c) := (hb1.cell (p := ⟨w.heap.size, 0, none⟩) (by simp)).trans (by simp)
    clear hA0 hB0 hb1 hP
    cases hr : anyB n (fun i => decide (qn i ≠ n)) with
    | true =>
      replace hr := Lib.hid hr
      go_wp2
      go_ret
      obtain ⟨i, hi, h⟩ := anyB_true.1 hr.out
      exact ⟨3, rfl, .inr ⟨by omega, fun h' => by have := h'.2.1 i hi; simp at h; exact h this⟩, hB1⟩
    | false =>
      replace hr := Lib.hid hr
      have hall : ∀ i, i < n → qn i = n := fun i hi => by have := anyB_false.1 hr.out i hi; simpa using this
      replace hall := Lib.hid hall
      clear hr
      go_wp2
      go_loopw [4, 13] (fun _ v13 wr => ∃ (i : Nat), v13 = .int .i64 i ∧ i ≤ n ∧ Hid (∀ k, k < i → ∀ j, j < n → -1048576 ≤ x k j ∧ x k j ≤ 1048576) ∧ Below w1.heap.size w1 wr) (fun _ v13 _ => n - (intOf v13).toNat)
      case atStart => exact ⟨0, rfl, Nat.zero_le _, Lib.hid (fun k hk => by omega), Below.refl _ _⟩
      case round =>
        obtain ⟨i, rfl, hi, hno, hb⟩ := hrel
        by_cases hlt : i < n
        · obtain ⟨b, o, rfl, hbl, hc⟩ := hA1.1.opn (by omega)
          have q0 := (hb.cell (p := ⟨b, o + i, none⟩) hbl).trans (hc i hlt)
          clear hc
          go_wp2_with fail
          refine (contains_int64 92 #[] (qA i) (qn i) (qc i) (x i) _ wr ((hA1.2 i hlt).below hb) (hqn i hlt) ⟨enters Try.func92 (by kernel_rfl) (by kernel_rfl), fun j hj W hW => grid2_any (x i j) W⟩).mono ?_
          rintro e w2 ⟨rfl, hb2⟩
          cases hr : anyB (qn i) (fun j => decide (x i j > 1048576 ∨ x i j < -1048576)) with
          | true =>
            replace hr := Lib.hid hr
            go_wp2
            go_ret
            obtain ⟨j, hj, h⟩ := anyB_true.1 hr.out
            rw [hall.out i hlt] at hj
            exact ⟨4, rfl, .inr ⟨by omega, fun h' => by have := h'.2.2 i j hlt hj; simp at h; omega⟩, hB1.trans ((hb.trans (hb2.mono hb.size)).mono hB1.size)⟩
          | false =>
            replace hr := Lib.hid hr
            go_wp2
            go_roundw
            case rel =>
              refine ⟨i + 1, by go_num, hlt, Lib.hid (fun k hk j hj => ?_), hb.trans (hb2.mono hb.size)⟩
              by_cases e : k = i
              · subst e
                have := anyB_false.1 hr.out j (by rw [hall.out k hlt]; exact hj)
                simp at this; omega
              · exact hno.out k (by omega) j hj
            case measure => simp [intOf]; omega
        · obtain rfl : i = n := by omega
          go_wp2
          go_ret
          exact ⟨0, rfl, .inl ⟨rfl, h8, hall.out, fun k j hk hj => hno.out k hk j hj⟩, hB1.trans (hb.mono hB1.size)⟩
  · go_enter Try.func46, Try.ntmps46
    go_wp2
    go_ret
    exact ⟨1, rfl, .inr ⟨by omega, fun h => h8 h.1⟩, (Below.refl _ _).alloc (Nat.le_refl _) _⟩

end Go.Proofs.Ytdkpcjabciocgaa
