/- Arguments of the rows: how data that came in reads as cells. -/
import Derived.Test.YtdkpcjabciocgaaBase
import Derived.Deep.Matrix
import Derived.Deep.Slices
import Derived.Deep.Fields
import Derived.ProofKit
import Derived.OpenShut
import Derived.ShutString
import Derived.ChangeOld
import Derived.SizedLaws
namespace Go.Proofs.Ytdkpcjabciocgaa
open Go.RowKit Go.Deep Go.ChangeShapes Go.WideShapes

theorem own : ownKnob Try.prog.godebug = none := by kernel_rfl
theorem laidOut : laidOutB Try.prog = true := by kernel_rfl

/-- Cells that lie from an address on, said of the address. -/
theorem RdF.of_adds {w : World} {a : Addr} {m : Nat} {f : Nat → Value} (h : ∀ i, i < m → w.cell? (a.add i) = some (f i)) : RdF w (some a) m f := by
  by_cases hm : m = 0
  · exact .inl hm
  · have h0 := h 0 (by omega)
    have ha : a.spot = none := by
      cases hs : a.spot with
      | none => rfl
      | some s =>
        exfalso
        simp only [Addr.add, if_true, World.cell?, hs] at h0
        split at h0
        · simp at h0
        · cases h0
    obtain ⟨b, o, s⟩ := a
    simp only at ha
    subst ha
    refine .inr ⟨b, o, rfl, World.block_lt_of_cell? w _ (h 0 (by omega)), fun i hi => ?_⟩
    have := h i hi
    by_cases e : i = 0
    · subst e; simpa [Addr.add] using this
    · simpa [Addr.add, e] using this

section
variable {H : Type} {enc : TypeId × Value → H} {P : Program} {w : World} {base : Nat} {held : Bool}
/-- A [][]int64 (or [][]int): its rows. -/
theorem open_rows {t e q : TypeId} {k : IntKind} {a : Option Addr} {len cap : Nat} {d : DataW H} {p : List MemPlace} (ht : P.underlying t = some (.slice e)) (he : P.underlying e = some (.slice q)) (hq : P.underlying q = some (.int k))
    (ce : P.cellsOf e = 1) (cq : P.cellsOf q = 1) (h : DataW.Trod enc P w base (fun _ => true) held t (.slice a len cap) d p) :
    len ≤ cap ∧ cap ≤ maxLen ∧ ∃ (qA : Nat → Option Addr) (qn qc : Nat → Nat) (x : Nat → Nat → Int), RdF w a len (fun i => .slice (qA i) (qn i) (qc i)) ∧
      (∀ i, i < len → qn i ≤ qc i ∧ qc i ≤ maxLen ∧ RdF w (qA i) (qn i) (fun j => .int k (x i j)) ∧ ∀ j, j < qn i → (Lit.int k (x i j)).wf = true) := by
  obtain ⟨fuel, hf⟩ := h
  rcases open_int_rows ht he hq ce cq hf with ⟨hcs, _⟩ | ⟨b, l, c, A, L, C, Z, hcs, _, hl, hm, _, hrow⟩
  · simp [Value.cells] at hcs
    obtain ⟨rfl, rfl, rfl⟩ := hcs
    exact ⟨Nat.le_refl _, by unfold maxLen; omega, fun _ => none, fun _ => 0, fun _ => 0, fun _ _ => 0, RdF.zero _ _ _, fun i hi => by omega⟩
  · simp [Value.cells] at hcs
    obtain ⟨rfl, rfl, rfl⟩ := hcs
    refine ⟨hl, hm, A, L, C, fun i j => (Z i).getD j 0, RdF.of_adds fun i hi => (hrow i (by omega)).1, fun i hi => ?_⟩
    obtain ⟨_, h1, h2, h3, h4, h5, h6⟩ := hrow i (by omega)
    refine ⟨h1, h2, ?_, fun j hj => ?_⟩
    · cases hA : A i with
      | none => rw [show L i = 0 from by have := h5 hA; omega]; exact RdF.zero _ _ _
      | some a' => exact RdF.of_adds fun j hj => (h6 a' hA).2 j (by omega)
    · apply h4
      show (Z i).getD j 0 ∈ Z i
      rw [List.getD_eq_getElem?_getD, List.getElem?_eq_getElem (show j < (Z i).length by omega)]
      exact List.getElem_mem _
end
end Go.Proofs.Ytdkpcjabciocgaa
