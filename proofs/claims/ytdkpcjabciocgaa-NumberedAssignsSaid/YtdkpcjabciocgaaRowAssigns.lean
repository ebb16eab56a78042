/-
NumberedAssigns: for any fees whose rows and places stand in another order, who gets what costs as much together: the law returns true at every input, and its arguments read behind the call as they read before it.
Conditions: none beyond the row's own cells (the statement NumberedAssignsSaid as it is given).
-/
import Derived.Test.YtdkpcjabciocgaaLawAssigns
import Derived.Test.YtdkpcjabciocgaaRowKit
namespace Go.Proofs.Ytdkpcjabciocgaa
namespace Assigns
open Go.ChangeShapes Go.WideShapes Go.ChangeAt Go.RowKit

theorem walk (n c : Nat) (A : Option Addr) (qA : Nat → Option Addr) (qn qc : Nat → Nat) (x : Nat → Nat → Int) (a b : Int) (w : World) (hA : FeesAt w A n qA qn qc x) (hn : n ≤ 9223372036854775807) (hqn : ∀ i, i < n → qn i ≤ 9223372036854775807) :
    Calls Try.prog 3 #[.slice A n c, .int .i64 a, .int .i64 b] w fun e w' => e = .returned (.bool true) ∧ Below w.heap.size w w' := by
  by_cases h : FeesOk n qn x
  · exact assigns_good n c A qA qn qc x a b w hA h
  · exact assigns_bad n c A qA qn qc x a b w hA hn hqn h

set_option maxRecDepth 100000 in
theorem lifted (os : Os) (started : os.Started) (H : Type) (enc : TypeId × Value → H) :
    ReturnsInHanded {} Try.checked os 3 .any (Rows.numberedAssignsSpec.pre6 enc Try.prog Try.f3 Rows.numberedAssignsRow.domain false) (Rows.numberedAssignsSpec.post enc Try.prog Try.f3 false true false false) := by
  refine returnsInHanded_of_change_sized (C := Try.checked) own started (by kernel_rfl) Try.func3
    (ChangeSpec.witness6 (enc := enc) (C := Try.checked) false ⟨#[], #[.slice none 0 0, .int .i64 0, .int .i64 0], []⟩ 8 (by kernel_rfl) (by kernel_rfl) (by kernel_rfl) (by kernel_rfl)) ?_
  intro W base args ds gs before hval0 hW hcnd _ _
  have hval : ∀ (j : Nat) t v, Try.f3.params[j]? = some t → args[j]? = some v → Value.okWide Try.prog W .any base t v := hval0
  have hW' := hW
  obtain ⟨p, q, hA0, hV, rfl, hfz, hnd⟩ := hW
  have hA : DataW.TrodAll enc Try.prog W 0 (fun _ => true) true Try.f3.params.toList args.toList ds p := hA0
  rw [Try.params3] at hA hval
  obtain ⟨v0, vs0, d0, ds0, p0, q0, hargs, rfl, rfl, h0, r0⟩ := trodAll_cons hA
  obtain ⟨v1, vs1, d1, ds1, p1, q1, rfl, rfl, rfl, h1, r1⟩ := trodAll_cons r0
  obtain ⟨v2, vs2, d2, ds2, p2, q2, rfl, rfl, rfl, h2, r2⟩ := trodAll_cons r1
  obtain ⟨rfl, rfl, rfl⟩ := trodAll_nil r2
  obtain rfl : args = #[v0, v1, v2] := by cases args; simp_all
  obtain ⟨rfl, rfl⟩ := trodVars_none hV
  obtain ⟨a0, len0, cap0, rfl⟩ := okWide_slice Try.underlying22 (hval 0 22 v0 rfl rfl)
  have k0 := h0
  have lt0 : ∀ x ∈ p0, x.block < W.heap.size := by obtain ⟨m, hm⟩ := k0; exact DataW.trod_lt m _ _ _ hm
  obtain ⟨hlc, hcm, qA, qn, qc, x, hrd, hrows⟩ := open_rows Try.underlying22 Try.underlying27 Try.underlying2 (by kernel_rfl) (by kernel_rfl) h0
  obtain ⟨a1, rfl, rfl, rfl, w1⟩ := open_int Try.underlying3 (hval 1 3 v1 rfl rfl) h1
  obtain ⟨a2, rfl, rfl, rfl, w2⟩ := open_int Try.underlying3 (hval 2 3 v2 rfl rfl) h2
  clear hA0 hval0
  refine (walk len0 cap0 a0 qA qn qc x a1 a2 W ⟨hrd, fun i hi => (hrows i hi).2.2.1⟩ (by unfold maxLen at hcm; omega) (fun i hi => by have := (hrows i hi).1; have := (hrows i hi).2.1; unfold maxLen at this; omega)).mono fun e W' ⟨he, bel⟩ => ?_
  subst he
  exact ⟨_, rfl, _, _, _, [], _, [], hW', trodAll_mk1 (shut_bool Try.underlying4 _), (trodAll_cons_mk (Below.trod laidOut (by kernel_rfl) (of_decide_eq_true (by kernel_rfl)) k0 bel lt0) (trodAll_cons_mk (shut_int Try.underlying3 w1) (trodAll_cons_mk (shut_int Try.underlying3 w2) trodAll_mk0))), rfl, bel.frame _, fun h => by cases h⟩

theorem over : Rows.numberedAssignsRow.holds Try.pinned (OpenSpec.ofChange Rows.numberedAssignsSpec) :=
  OpenClaim.holds_of_wide 3 Try.f3 rfl rfl rfl rfl rfl rfl rfl ⟨rfl, rfl, rfl, rfl, rfl⟩ rfl rfl rfl rfl rfl (by kernel_rfl) Try.func3 (by kernel_rfl)
    (of_decide_eq_true (by kernel_rfl)) (by unfold Func.isWrapper; first | (rw [if_pos (by decide +kernel)]; kernel_rfl) | (rw [if_neg (by decide +kernel)]; exact ⟨rfl, rfl⟩))
    (fun os started H enc _ => lifted os started H enc)
end Assigns

/-- The row, under a short name, for the claim. -/
theorem assigns_holds : Rows.NumberedAssignsSaid := Assigns.over
#print axioms assigns_holds
end Go.Proofs.Ytdkpcjabciocgaa
