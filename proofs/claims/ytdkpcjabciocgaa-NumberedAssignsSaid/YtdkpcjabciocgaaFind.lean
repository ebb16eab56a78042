/- slices.IndexFunc and slices.ContainsFunc at a predicate that is a function of the program (walks, elements of one cell). -/
import Derived.Test.YtdkpcjabciocgaaBase
namespace Go.Proofs.Ytdkpcjabciocgaa
open Go.RowKit

/-- Does one of the first n numbers meet r? -/
def anyB (n : Nat) (r : Nat → Bool) : Bool := (List.range n).any r
theorem anyB_true {n : Nat} {r : Nat → Bool} : anyB n r = true ↔ ∃ i, i < n ∧ r i = true := by simp [anyB]
theorem anyB_false {n : Nat} {r : Nat → Bool} : anyB n r = false ↔ ∀ i, i < n → r i = false := by simp [anyB]

/-- A function of the program's own text: a call of it enters it. -/
def Enters (P : Program) (K : FuncId) : Prop := ∀ args W, (callFunc K args).run P W = .ok (.enter K args) W
theorem enters {P : Program} {K : FuncId} {fn : Func} (h : P.funcs[K]? = some fn) (hn : (fn.name == "runtime.NumGoroutine") = false) (hb : fn.body.isNone = false) : Enters P K := by
  intro args W
  have hn' : ¬ fn.name = "runtime.NumGoroutine" := by simpa using hn
  have hb' : ¬ fn.body = none := by rintro e; rw [e] at hb; simp at hb
  simp only [callFunc]
  simp [h, hn', hb']
/-- What a predicate owes: at each element, in whatever world that has grown from w. -/
def PredOn (P : Program) (K : FuncId) (caps : Array Value) (w : World) (n : Nat) (f : Nat → Value) (r : Nat → Bool) : Prop :=
  Enters P K ∧ ∀ i, i < n → ∀ W, Below w.heap.size w W → Calls P K (#[f i] ++ caps) W fun e w' => e = .returned (.bool (r i)) ∧ Below W.heap.size W w'

/-- The place of the first one, or -1. -/
def IsFirst (n : Nat) (r : Nat → Bool) (e : Ending) : Prop :=
  (e = .returned (.int .i64 (-1)) ∧ ∀ i, i < n → r i = false) ∨ ∃ i : Nat, i < n ∧ e = .returned (.int .i64 i) ∧ r i = true ∧ ∀ k, k < i → r k = false

set_option maxRecDepth 100000 in
set_option maxHeartbeats 400000 in
theorem find_int64 (K : FuncId) (caps : Array Value) (A : Option Addr) (n c : Nat) (q : Nat → Int) (r : Nat → Bool) (w : World)
    (h : RdF w A n (fun i => .int .i64 (q i))) (hn : n ≤ 9223372036854775807) (hK : PredOn Try.prog K caps w n (fun i => .int .i64 (q i)) r) :
    Calls Try.prog 113 #[.slice A n c, .func (.func K) #[] caps] w fun e w' => IsFirst n r e ∧ Below w.heap.size w w' := by
  have HE := hK.1
  have HK := Lib.hid hK.2
  clear hK
  unfold Enters at HE
  go_enter Try.func113, Try.ntmps113
  go_wp2
  go_loopw [5, 8] (fun _ v8 wr => ∃ (i : Nat), v8 = .int .i64 i ∧ i ≤ n ∧ Hid (∀ k, k < i → r k = false) ∧ Below w.heap.size w wr) (fun _ v8 _ => n - (intOf v8).toNat)
  case atStart => exact ⟨0, rfl, Nat.zero_le _, Lib.hid (fun k hk => by omega), Below.refl _ _⟩
  case round =>
    obtain ⟨i, rfl, hi, hno, hb⟩ := hrel
    by_cases hlt : i < n
    · obtain ⟨b, o, rfl, hbl, hc⟩ := h.opn (by omega)
      have q0 := (hb.cell (p := ⟨b, o + i, none⟩) hbl).trans (hc i hlt)
      clear hc
      go_wp2_with fail
      refine (HK.out i hlt wr hb).mono ?_
      rintro e w1 ⟨rfl, hb1⟩
      cases hr : r i with
      | true =>
        replace hr := Lib.hid hr
        go_wp2
        go_ret
        exact ⟨.inr ⟨i, hlt, rfl, hr.out, hno.out⟩, hb.trans (hb1.mono hb.size)⟩
      | false =>
        replace hr := Lib.hid hr
        go_wp2
        go_roundw
        case rel => exact ⟨i + 1, by go_num, hlt, Lib.hid (fun k hk => by by_cases e : k = i; (subst e; exact hr.out); exact hno.out k (by omega)), hb.trans (hb1.mono hb.size)⟩
        case measure => simp [intOf]; omega
    · obtain rfl : i = n := by omega
      go_wp2
      go_ret
      exact ⟨.inl ⟨rfl, hno.out⟩, hb⟩

set_option maxRecDepth 100000 in
set_option maxHeartbeats 400000 in
theorem contains_int64 (K : FuncId) (caps : Array Value) (A : Option Addr) (n c : Nat) (q : Nat → Int) (r : Nat → Bool) (w : World)
    (h : RdF w A n (fun i => .int .i64 (q i))) (hn : n ≤ 9223372036854775807) (hK : PredOn Try.prog K caps w n (fun i => .int .i64 (q i)) r) :
    Calls Try.prog 87 #[.slice A n c, .func (.func K) #[] caps] w fun e w' => e = .returned (.bool (anyB n r)) ∧ Below w.heap.size w w' := by
  have HE := hK.1
  have HK := Lib.hid hK.2
  clear hK
  unfold Enters at HE
  go_enter Try.func87, Try.ntmps87
  go_wp2_with fail
  refine (find_int64 K caps A n c (h := h) (r := r) (w := w) (hn := hn) (hK := ⟨HE, HK.out⟩)).mono ?_
  rintro e w1 ⟨(⟨rfl, hno⟩ | ⟨i, hi, rfl, hr, hno⟩), hb⟩
  · replace hno := Lib.hid hno
    go_wp2
    go_ret
    exact ⟨ret_bool (by rw [anyB_false.2 hno.out]), hb⟩
  · replace hno := Lib.hid hno
    replace hr := Lib.hid hr
    go_wp2
    go_ret
    exact ⟨ret_bool (by rw [anyB_true.2 ⟨i, hi, hr.out⟩]), hb⟩
set_option maxRecDepth 100000 in
set_option maxHeartbeats 400000 in
theorem find_int (K : FuncId) (caps : Array Value) (A : Option Addr) (n c : Nat) (q : Nat → Int) (r : Nat → Bool) (w : World)
    (h : RdF w A n (fun i => .int .i64 (q i))) (hn : n ≤ 9223372036854775807) (hK : PredOn Try.prog K caps w n (fun i => .int .i64 (q i)) r) :
    Calls Try.prog 117 #[.slice A n c, .func (.func K) #[] caps] w fun e w' => IsFirst n r e ∧ Below w.heap.size w w' := by
  have HE := hK.1
  have HK := Lib.hid hK.2
  clear hK
  unfold Enters at HE
  go_enter Try.func117, Try.ntmps117
  go_wp2
  go_loopw [5, 8] (fun _ v8 wr => ∃ (i : Nat), v8 = .int .i64 i ∧ i ≤ n ∧ Hid (∀ k, k < i → r k = false) ∧ Below w.heap.size w wr) (fun _ v8 _ => n - (intOf v8).toNat)
  case atStart => exact ⟨0, rfl, Nat.zero_le _, Lib.hid (fun k hk => by omega), Below.refl _ _⟩
  case round =>
    obtain ⟨i, rfl, hi, hno, hb⟩ := hrel
    by_cases hlt : i < n
    · obtain ⟨b, o, rfl, hbl, hc⟩ := h.opn (by omega)
      have q0 := (hb.cell (p := ⟨b, o + i, none⟩) hbl).trans (hc i hlt)
      clear hc
      go_wp2_with fail
      refine (HK.out i hlt wr hb).mono ?_
      rintro e w1 ⟨rfl, hb1⟩
      cases hr : r i with
      | true =>
        replace hr := Lib.hid hr
        go_wp2
        go_ret
        exact ⟨.inr ⟨i, hlt, rfl, hr.out, hno.out⟩, hb.trans (hb1.mono hb.size)⟩
      | false =>
        replace hr := Lib.hid hr
        go_wp2
        go_roundw
        case rel => exact ⟨i + 1, by go_num, hlt, Lib.hid (fun k hk => by by_cases e : k = i; (subst e; exact hr.out); exact hno.out k (by omega)), hb.trans (hb1.mono hb.size)⟩
        case measure => simp [intOf]; omega
    · obtain rfl : i = n := by omega
      go_wp2
      go_ret
      exact ⟨.inl ⟨rfl, hno.out⟩, hb⟩

set_option maxRecDepth 100000 in
set_option maxHeartbeats 400000 in
theorem contains_int (K : FuncId) (caps : Array Value) (A : Option Addr) (n c : Nat) (q : Nat → Int) (r : Nat → Bool) (w : World)
    (h : RdF w A n (fun i => .int .i64 (q i))) (hn : n ≤ 9223372036854775807) (hK : PredOn Try.prog K caps w n (fun i => .int .i64 (q i)) r) :
    Calls Try.prog 99 #[.slice A n c, .func (.func K) #[] caps] w fun e w' => e = .returned (.bool (anyB n r)) ∧ Below w.heap.size w w' := by
  have HE := hK.1
  have HK := Lib.hid hK.2
  clear hK
  unfold Enters at HE
  go_enter Try.func99, Try.ntmps99
  go_wp2_with fail
  refine (find_int K caps A n c (h := h) (r := r) (w := w) (hn := hn) (hK := ⟨HE, HK.out⟩)).mono ?_
  rintro e w1 ⟨(⟨rfl, hno⟩ | ⟨i, hi, rfl, hr, hno⟩), hb⟩
  · replace hno := Lib.hid hno
    go_wp2
    go_ret
    exact ⟨ret_bool (by rw [anyB_false.2 hno.out]), hb⟩
  · replace hno := Lib.hid hno
    replace hr := Lib.hid hr
    go_wp2
    go_ret
    exact ⟨ret_bool (by rw [anyB_true.2 ⟨i, hi, hr.out⟩]), hb⟩
set_option maxRecDepth 100000 in
set_option maxHeartbeats 400000 in
theorem find_rows (K : FuncId) (caps : Array Value) (A : Option Addr) (n c : Nat) (qA : Nat → Option Addr) (qn qc : Nat → Nat) (r : Nat → Bool) (w : World)
    (h : RdF w A n (fun i => .slice (qA i) (qn i) (qc i))) (hn : n ≤ 9223372036854775807) (hK : PredOn Try.prog K caps w n (fun i => .slice (qA i) (qn i) (qc i)) r) :
    Calls Try.prog 114 #[.slice A n c, .func (.func K) #[] caps] w fun e w' => IsFirst n r e ∧ Below w.heap.size w w' := by
  have HE := hK.1
  have HK := Lib.hid hK.2
  clear hK
  unfold Enters at HE
  go_enter Try.func114, Try.ntmps114
  go_wp2
  go_loopw [5, 8] (fun _ v8 wr => ∃ (i : Nat), v8 = .int .i64 i ∧ i ≤ n ∧ Hid (∀ k, k < i → r k = false) ∧ Below w.heap.size w wr) (fun _ v8 _ => n - (intOf v8).toNat)
  case atStart => exact ⟨0, rfl, Nat.zero_le _, Lib.hid (fun k hk => by omega), Below.refl _ _⟩
  case round =>
    obtain ⟨i, rfl, hi, hno, hb⟩ := hrel
    by_cases hlt : i < n
    · obtain ⟨b, o, rfl, hbl, hc⟩ := h.opn (by omega)
      have q0 := (hb.cell (p := ⟨b, o + i, none⟩) hbl).trans (hc i hlt)
      clear hc
      go_wp2_with fail
      refine (HK.out i hlt wr hb).mono ?_
      rintro e w1 ⟨rfl, hb1⟩
      cases hr : r i with
      | true =>
        replace hr := Lib.hid hr
        go_wp2
        go_ret
        exact ⟨.inr ⟨i, hlt, rfl, hr.out, hno.out⟩, hb.trans (hb1.mono hb.size)⟩
      | false =>
        replace hr := Lib.hid hr
        go_wp2
        go_roundw
        case rel => exact ⟨i + 1, by go_num, hlt, Lib.hid (fun k hk => by by_cases e : k = i; (subst e; exact hr.out); exact hno.out k (by omega)), hb.trans (hb1.mono hb.size)⟩
        case measure => simp [intOf]; omega
    · obtain rfl : i = n := by omega
      go_wp2
      go_ret
      exact ⟨.inl ⟨rfl, hno.out⟩, hb⟩

set_option maxRecDepth 100000 in
set_option maxHeartbeats 400000 in
theorem contains_rows (K : FuncId) (caps : Array Value) (A : Option Addr) (n c : Nat) (qA : Nat → Option Addr) (qn qc : Nat → Nat) (r : Nat → Bool) (w : World)
    (h : RdF w A n (fun i => .slice (qA i) (qn i) (qc i))) (hn : n ≤ 9223372036854775807) (hK : PredOn Try.prog K caps w n (fun i => .slice (qA i) (qn i) (qc i)) r) :
    Calls Try.prog 90 #[.slice A n c, .func (.func K) #[] caps] w fun e w' => e = .returned (.bool (anyB n r)) ∧ Below w.heap.size w w' := by
  have HE := hK.1
  have HK := Lib.hid hK.2
  clear hK
  unfold Enters at HE
  go_enter Try.func90, Try.ntmps90
  go_wp2_with fail
  refine (find_rows K caps A n c (h := h) (r := r) (w := w) (hn := hn) (hK := ⟨HE, HK.out⟩)).mono ?_
  rintro e w1 ⟨(⟨rfl, hno⟩ | ⟨i, hi, rfl, hr, hno⟩), hb⟩
  · replace hno := Lib.hid hno
    go_wp2
    go_ret
    exact ⟨ret_bool (by rw [anyB_false.2 hno.out]), hb⟩
  · replace hno := Lib.hid hno
    replace hr := Lib.hid hr
    go_wp2
    go_ret
    exact ⟨ret_bool (by rw [anyB_true.2 ⟨i, hi, hr.out⟩]), hb⟩
end Go.Proofs.Ytdkpcjabciocgaa
