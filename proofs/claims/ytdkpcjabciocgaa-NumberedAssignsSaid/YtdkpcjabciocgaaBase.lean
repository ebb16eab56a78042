/- Base lemmas for the walks: reading slices, returned values, worlds that only grow. -/
import Derived.Test.YtdkpcjabciocgaaRows
import Derived.Test.YtdkpcjabciocgaaPlain
import Derived.WalkKit
import Derived.WalkSpells
import Derived.WalkLawsBesides
import Derived.Deep.QuietTactic
import Derived.BigQuiet
import Derived.Deep.LoopGhost
import Derived.Deep.OwnRows
import Derived.Deep.Draws
import Derived.RegionTactic
import Derived.Lib.Hide
namespace Go.Proofs.Ytdkpcjabciocgaa
open Go.RowKit Go.Deep

theorem ret_int {k : IntKind} {a b : Int} (h : a = b) : Ending.returned (.int k a) = .returned (.int k b) := by rw [h]
theorem ret_bool {a b : Bool} (h : a = b) : Ending.returned (.bool a) = .returned (.bool b) := by rw [h]
theorem beq_true {a b : Int} (h : a = b) : (a == b) = true := beq_iff_eq.2 h
theorem beq_false {a b : Int} (h : a ≠ b) : (a == b) = false := beq_eq_false_iff_ne.2 h
theorem bne_true {a b : Int} (h : a ≠ b) : (a != b) = true := by rw [bne_iff_ne]; exact h
theorem bne_false {a b : Int} (h : a = b) : (a != b) = false := by rw [h]; simp

/-- m cells that are read from the address A on: cell i holds f i. -/
def RdF (w : World) (A : Option Addr) (m : Nat) (f : Nat → Value) : Prop :=
  m = 0 ∨ ∃ b o, A = some ⟨b, o, none⟩ ∧ b < w.heap.size ∧ ∀ i, i < m → w.cell? ⟨b, o + i, none⟩ = some (f i)

theorem RdF.zero (w : World) (A : Option Addr) (f : Nat → Value) : RdF w A 0 f := .inl rfl

theorem RdF.below {w w' : World} {A : Option Addr} {m : Nat} {f : Nat → Value} (h : RdF w A m f) (hb : Below w.heap.size w w') : RdF w' A m f := by
  rcases h with h | ⟨b, o, rfl, hlt, hc⟩
  · exact .inl h
  · exact .inr ⟨b, o, rfl, Nat.lt_of_lt_of_le hlt hb.size, fun i hi => (hb.cell (p := ⟨b, o + i, none⟩) hlt).trans (hc i hi)⟩

theorem RdF.opn {w : World} {A : Option Addr} {m : Nat} {f : Nat → Value} (h : RdF w A m f) (hm : 0 < m) :
    ∃ b o, A = some ⟨b, o, none⟩ ∧ b < w.heap.size ∧ ∀ i, i < m → w.cell? ⟨b, o + i, none⟩ = some (f i) := by
  rcases h with h | h
  · omega
  · exact h

theorem RdF.congr {w : World} {A : Option Addr} {m : Nat} {f g : Nat → Value} (h : RdF w A m f) (e : ∀ i, i < m → f i = g i) : RdF w A m g := by
  rcases h with h | ⟨b, o, rfl, hlt, hc⟩
  · exact .inl h
  · exact .inr ⟨b, o, rfl, hlt, fun i hi => by rw [hc i hi, e i hi]⟩

theorem RdF.take {w : World} {A : Option Addr} {m k : Nat} {f : Nat → Value} (h : RdF w A m f) (hk : k ≤ m) : RdF w A k f := by
  rcases h with h | ⟨b, o, rfl, hlt, hc⟩
  · exact .inl (by omega)
  · exact .inr ⟨b, o, rfl, hlt, fun i hi => hc i (by omega)⟩

theorem RdF.of_row {w : World} {b : Nat} {t : TypeId} {n : Nat} {f : Nat → Value} (h : w.rowIs b t n f) : RdF w (some ⟨b, 0, none⟩) n f :=
  .inr ⟨b, 0, rfl, h.lt, fun i hi => by rw [Nat.zero_add]; exact h.cell hi⟩

theorem RdF.setCell {w : World} {A : Option Addr} {m : Nat} {f : Nat → Value} (h : RdF w A m f) {p : Addr} (hp : ∀ a, A = some a → a.block ≠ p.block) (v : Value) : RdF (w.setCell p v) A m f := by
  rcases h with h | ⟨b, o, rfl, hlt, hc⟩
  · exact .inl h
  · refine .inr ⟨b, o, rfl, by simpa [World.setCell] using hlt, fun i hi => ?_⟩
    have hne : b ≠ p.block := hp _ rfl
    rw [World.cell?_of_block (w := w) (a := ⟨b, o + i, none⟩) (Below.heap_setCell w p v b hne)]
    exact hc i hi
theorem RdF.alloc {w : World} {A : Option Addr} {m : Nat} {f : Nat → Value} (h : RdF w A m f) (o : Obj) : RdF (w.alloc o) A m f := h.below ((Below.refl _ _).alloc (Nat.le_refl _) _)
theorem RdF.drewN {w : World} {A : Option Addr} {m : Nat} {f : Nat → Value} (h : RdF w A m f) (k : Nat) : RdF (w.drewN k) A m f := h
theorem rowIs_setCell_other {w : World} {b : Nat} {t : TypeId} {n : Nat} {f : Nat → Value} (h : w.rowIs b t n f) {p : Addr} (hp : b ≠ p.block) (v : Value) : (w.setCell p v).rowIs b t n f := h.of_block (Below.heap_setCell w p v b hp)

theorem cell_new1 (w : World) (v : Value) (t : TypeId) : (w.alloc (.cells #[v] t)).cell? ⟨w.heap.size, 0, none⟩ = some v := cell_of_one (blk_alloc_new _ _)
theorem cell_old1 (w : World) (o : Obj) (a : Addr) (h : a.block < w.heap.size) : (w.alloc o).cell? a = w.cell? a := ((Below.refl w.heap.size w).alloc (Nat.le_refl _) o).cell h

theorem below_drewN {B : Nat} {a w : World} (h : Below B a w) (n : Nat) : Below B a (w.drewN n) := ⟨h.os, h.tape, h.output, h.size, h.block⟩
theorem below_of_drewN {B : Nat} (w : World) (n : Nat) : Below B w (w.drewN n) := below_drewN (Below.refl B w) n
theorem rowIs_drewN {w : World} {b : Nat} {t : TypeId} {n : Nat} {f : Nat → Value} (h : w.rowIs b t n f) (k : Nat) : (w.drewN k).rowIs b t n f := h
theorem rowIs_below {w w' : World} {b : Nat} {t : TypeId} {n : Nat} {f : Nat → Value} (h : w.rowIs b t n f) {B : Nat} (hb : Below B w w') (hB : b < B) : w'.rowIs b t n f := h.of_block (hb.block b hB)
/-- What a callee that makes memory leaves of the world before it. -/
theorem bcell {W w1 : World} (hb : Below W.heap.size W w1) : (∀ b o, b < W.heap.size → w1.cell? ⟨b, o, none⟩ = W.cell? ⟨b, o, none⟩) ∧ (∀ b o, b < W.heap.size → w1.frozen? ⟨b, o, none⟩ = W.frozen? ⟨b, o, none⟩) :=
  ⟨fun b o h => hb.cell (p := ⟨b, o, none⟩) h, fun b o h => hb.frozen (p := ⟨b, o, none⟩) h⟩

end Go.Proofs.Ytdkpcjabciocgaa
