/- 'put': a list in another order (walks, elements of one cell). -/
import Derived.Test.YtdkpcjabciocgaaMixed
namespace Go.Proofs.Ytdkpcjabciocgaa
open Go.RowKit

theorem put_info_int64 : (Try.prog.info? 2).map (fun i => (i.zero, i.size, i.bytes)) = some (some (.int .i64 0), 1, 8) := by kernel_rfl

set_option maxRecDepth 100000 in
set_option maxHeartbeats 400000 in
theorem put_int64 (A0 A1 : Option Addr) (n c0 c1 : Nat) (q : Nat → Int) (p : Nat → Nat) (w : World)
    (h0 : RdF w A0 n (fun i => .int .i64 (q i))) (h1 : RdF w A1 n (fun i => .int .i64 (p i))) (hp : PermOn n p) (hn : n ≤ 1073741824) :
    Calls Try.prog 14 #[.slice A0 n c0, .slice A1 n c1] w fun e w' => ∃ (g : Nat) (h : Nat → Value), e = .returned (.slice (some ⟨g, 0, none⟩) n n) ∧ w.heap.size ≤ g ∧ w'.rowIs g 2 n h ∧ (∀ i, i < n → h (p i) = .int .i64 (q i)) ∧ Below w.heap.size w w' := by
  have hmk := fun W => run_make_row' (P := Try.prog) 27 2 (.int .i64 0) 8 Try.underlying27 put_info_int64 rfl .i64 .i64 n (by omega) (by omega) W
  go_enter Try.func14, Try.ntmps14
  go_wp2
  go_loopw [6, 7, 13] (fun _ _ v13 wr => ∃ (i : Nat) (h : Nat → Value), v13 = .int .i64 i ∧ i ≤ n ∧ wr.rowIs w.heap.size 2 n h ∧ (∀ j, j < i → h (p j) = .int .i64 (q j)) ∧ Below w.heap.size w wr) (fun _ _ v13 _ => n - (intOf v13).toNat)
  case atStart =>
    exact ⟨0, fun _ => .int .i64 0, rfl, Nat.zero_le _, World.rowIs_made _ _ _ _, fun j hj => by omega, (Below.refl _ _).alloc (Nat.le_refl _) _⟩
  case round =>
    obtain ⟨i, h, rfl, hi, hrow, hdone, hb⟩ := hrel
    by_cases hlt : i < n
    · obtain ⟨b0, o0, rfl, hb0, hc0⟩ := h0.opn (by omega)
      obtain ⟨b1, o1, rfl, hb1, hc1⟩ := h1.opn (by omega)
      have q0 := (hb.cell (p := ⟨b0, o0 + i, none⟩) hb0).trans (hc0 i hlt)
      have q1 := (hb.cell (p := ⟨b1, o1 + i, none⟩) hb1).trans (hc1 i hlt)
      have hpi := hp.1 i hlt
      have hcell := hrow.cell hpi
      have hfr := hrow.frozen (p i)
      have H1 := Lib.hid hdone
      clear hdone hc0 hc1
      go_wp2
      go_roundw
      case rel =>
        refine ⟨i + 1, _, by go_num, hlt, hrow.set (p i) _, fun j hj => ?_, hb.setCell (Nat.le_refl _) _⟩
        by_cases e : j = i
        · subst e; rw [if_pos rfl]
        · rw [if_neg (fun e' => e (hp.2 j i (by omega) hlt e'))]; exact H1.out j (by omega)
      case measure => simp [intOf]; omega
    · obtain rfl : i = n := by omega
      go_wp2
      go_ret
      exact ⟨w.heap.size, h, rfl, Nat.le_refl _, hrow, hdone, hb⟩

theorem put_info_rows : (Try.prog.info? 27).map (fun i => (i.zero, i.size, i.bytes)) = some (some (.slice none 0 0), 1, 24) := by kernel_rfl

set_option maxRecDepth 100000 in
set_option maxHeartbeats 400000 in
theorem put_rows (A0 A1 : Option Addr) (n c0 c1 : Nat) (qA : Nat → Option Addr) (qn qc : Nat → Nat) (p : Nat → Nat) (w : World)
    (h0 : RdF w A0 n (fun i => .slice (qA i) (qn i) (qc i))) (h1 : RdF w A1 n (fun i => .int .i64 (p i))) (hp : PermOn n p) (hn : n ≤ 1073741824) :
    Calls Try.prog 13 #[.slice A0 n c0, .slice A1 n c1] w fun e w' => ∃ (g : Nat) (h : Nat → Value), e = .returned (.slice (some ⟨g, 0, none⟩) n n) ∧ w.heap.size ≤ g ∧ w'.rowIs g 27 n h ∧ (∀ i, i < n → h (p i) = .slice (qA i) (qn i) (qc i)) ∧ Below w.heap.size w w' := by
  have hmk := fun W => run_make_row' (P := Try.prog) 22 27 (.slice none 0 0) 24 Try.underlying22 put_info_rows rfl .i64 .i64 n (by omega) (by omega) W
  go_enter Try.func13, Try.ntmps13
  go_wp2
  go_loopw [6, 7, 13] (fun _ _ v13 wr => ∃ (i : Nat) (h : Nat → Value), v13 = .int .i64 i ∧ i ≤ n ∧ wr.rowIs w.heap.size 27 n h ∧ (∀ j, j < i → h (p j) = .slice (qA j) (qn j) (qc j)) ∧ Below w.heap.size w wr) (fun _ _ v13 _ => n - (intOf v13).toNat)
  case atStart =>
    exact ⟨0, fun _ => .slice none 0 0, rfl, Nat.zero_le _, World.rowIs_made _ _ _ _, fun j hj => by omega, (Below.refl _ _).alloc (Nat.le_refl _) _⟩
  case round =>
    obtain ⟨i, h, rfl, hi, hrow, hdone, hb⟩ := hrel
    by_cases hlt : i < n
    · obtain ⟨b0, o0, rfl, hb0, hc0⟩ := h0.opn (by omega)
      obtain ⟨b1, o1, rfl, hb1, hc1⟩ := h1.opn (by omega)
      have q0 := (hb.cell (p := ⟨b0, o0 + i, none⟩) hb0).trans (hc0 i hlt)
      have q1 := (hb.cell (p := ⟨b1, o1 + i, none⟩) hb1).trans (hc1 i hlt)
      have hpi := hp.1 i hlt
      have hcell := hrow.cell hpi
      have hfr := hrow.frozen (p i)
      have H1 := Lib.hid hdone
      clear hdone hc0 hc1
      go_wp2
      go_roundw
      case rel =>
        refine ⟨i + 1, _, by go_num, hlt, hrow.set (p i) _, fun j hj => ?_, hb.setCell (Nat.le_refl _) _⟩
        by_cases e : j = i
        · subst e; rw [if_pos rfl]
        · rw [if_neg (fun e' => e (hp.2 j i (by omega) hlt e'))]; exact H1.out j (by omega)
      case measure => simp [intOf]; omega
    · obtain rfl : i = n := by omega
      go_wp2
      go_ret
      exact ⟨w.heap.size, h, rfl, Nat.le_refl _, hrow, hdone, hb⟩

theorem put_info_bool : (Try.prog.info? 4).map (fun i => (i.zero, i.size, i.bytes)) = some (some (.bool false), 1, 1) := by kernel_rfl

set_option maxRecDepth 100000 in
set_option maxHeartbeats 400000 in
theorem put_bool (A0 A1 : Option Addr) (n c0 c1 : Nat) (q : Nat → Bool) (p : Nat → Nat) (w : World)
    (h0 : RdF w A0 n (fun i => .bool (q i))) (h1 : RdF w A1 n (fun i => .int .i64 (p i))) (hp : PermOn n p) (hn : n ≤ 1073741824) :
    Calls Try.prog 32 #[.slice A0 n c0, .slice A1 n c1] w fun e w' => ∃ (g : Nat) (h : Nat → Value), e = .returned (.slice (some ⟨g, 0, none⟩) n n) ∧ w.heap.size ≤ g ∧ w'.rowIs g 4 n h ∧ (∀ i, i < n → h (p i) = .bool (q i)) ∧ Below w.heap.size w w' := by
  have hmk := fun W => run_make_row' (P := Try.prog) 67 4 (.bool false) 1 Try.underlying67 put_info_bool rfl .i64 .i64 n (by omega) (by omega) W
  go_enter Try.func32, Try.ntmps32
  go_wp2
  go_loopw [6, 7, 13] (fun _ _ v13 wr => ∃ (i : Nat) (h : Nat → Value), v13 = .int .i64 i ∧ i ≤ n ∧ wr.rowIs w.heap.size 4 n h ∧ (∀ j, j < i → h (p j) = .bool (q j)) ∧ Below w.heap.size w wr) (fun _ _ v13 _ => n - (intOf v13).toNat)
  case atStart =>
    exact ⟨0, fun _ => .bool false, rfl, Nat.zero_le _, World.rowIs_made _ _ _ _, fun j hj => by omega, (Below.refl _ _).alloc (Nat.le_refl _) _⟩
  case round =>
    obtain ⟨i, h, rfl, hi, hrow, hdone, hb⟩ := hrel
    by_cases hlt : i < n
    · obtain ⟨b0, o0, rfl, hb0, hc0⟩ := h0.opn (by omega)
      obtain ⟨b1, o1, rfl, hb1, hc1⟩ := h1.opn (by omega)
      have q0 := (hb.cell (p := ⟨b0, o0 + i, none⟩) hb0).trans (hc0 i hlt)
      have q1 := (hb.cell (p := ⟨b1, o1 + i, none⟩) hb1).trans (hc1 i hlt)
      have hpi := hp.1 i hlt
      have hcell := hrow.cell hpi
      have hfr := hrow.frozen (p i)
      have H1 := Lib.hid hdone
      clear hdone hc0 hc1
      go_wp2
      go_roundw
      case rel =>
        refine ⟨i + 1, _, by go_num, hlt, hrow.set (p i) _, fun j hj => ?_, hb.setCell (Nat.le_refl _) _⟩
        by_cases e : j = i
        · subst e; rw [if_pos rfl]
        · rw [if_neg (fun e' => e (hp.2 j i (by omega) hlt e'))]; exact H1.out j (by omega)
      case measure => simp [intOf]; omega
    · obtain rfl : i = n := by omega
      go_wp2
      go_ret
      exact ⟨w.heap.size, h, rfl, Nat.le_refl _, hrow, hdone, hb⟩

end Go.Proofs.Ytdkpcjabciocgaa
