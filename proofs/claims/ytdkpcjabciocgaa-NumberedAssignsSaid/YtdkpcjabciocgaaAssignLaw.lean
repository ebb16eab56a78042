/- Plain law of the fees: the least sum is the same when rows and places stand in another order. -/
import Derived.Test.YtdkpcjabciocgaaMask
namespace Go.Proofs.Ytdkpcjabciocgaa

def far60 : Int := 1152921504606846976

/-- The least of f over the places below m that are not in w. -/
def minOver (w : Nat) (f : Nat → Int) : Nat → Int
  | 0 => far60
  | m + 1 => if w.testBit m then minOver w f m else min (minOver w f m) (f m)

theorem minOver_le (w : Nat) (f : Nat → Int) (m : Nat) : minOver w f m ≤ far60 := by
  induction m with
  | zero => exact Int.le_refl _
  | succ m ih => rw [minOver]; split <;> omega
theorem minOver_le_at {w : Nat} {f : Nat → Int} {m j : Nat} (hj : j < m) (hw : w.testBit j = false) : minOver w f m ≤ f j := by
  induction m with
  | zero => omega
  | succ m ih =>
    rw [minOver]
    by_cases e : j = m
    · subst e; rw [hw]; simp; omega
    · have := ih (by omega); split <;> omega
theorem minOver_ge {w : Nat} {f : Nat → Int} {m : Nat} {b : Int} (hb : b ≤ far60) (h : ∀ j, j < m → w.testBit j = false → b ≤ f j) : b ≤ minOver w f m := by
  induction m with
  | zero => exact hb
  | succ m ih =>
    have := ih (fun j hj => h j (by omega))
    rw [minOver]
    cases hw : w.testBit m with
    | true => simpa using this
    | false => have := h m (by omega) hw; simp; omega
theorem minOver_att {w : Nat} {f : Nat → Int} {m : Nat} (h : minOver w f m < far60) : ∃ j, j < m ∧ w.testBit j = false ∧ minOver w f m = f j := by
  induction m with
  | zero => exact absurd h (by simp [minOver])
  | succ m ih =>
    rw [minOver] at h ⊢
    cases hw : w.testBit m with
    | true =>
      rw [hw] at h
      obtain ⟨j, hj, h1, h2⟩ := ih (by simpa using h)
      exact ⟨j, by omega, h1, by simpa using h2⟩
    | false =>
      rw [hw] at h
      simp only [Bool.false_eq_true, if_false] at h ⊢
      by_cases hc : f m ≤ minOver w f m
      · exact ⟨m, by omega, hw, by omega⟩
      · obtain ⟨j, hj, h1, h2⟩ := ih (by omega)
        exact ⟨j, by omega, h1, by omega⟩

/-- What those from row n - k on cost at least, when the places of w are taken. -/
def bestV (n : Nat) (x : Nat → Nat → Int) : Nat → Nat → Int
  | 0, _ => 0
  | k + 1, w => minOver w (fun j => x (n - (k + 1)) j + bestV n x k (w ||| 2 ^ j)) n

/-- What all cost at least. -/
def leastFees (n : Nat) (x : Nat → Nat → Int) : Int := bestV n x n 0

def Modest2 (n : Nat) (x : Nat → Nat → Int) : Prop := ∀ i j, i < n → j < n → -1048576 ≤ x i j ∧ x i j ≤ 1048576

theorem bestV_bd {n : Nat} {x : Nat → Nat → Int} (hx : Modest2 n x) (_hn : n ≤ 8) : ∀ k w, k ≤ n → -(k * 1048576 : Int) ≤ bestV n x k w ∧ bestV n x k w ≤ far60 := by
  intro k
  induction k with
  | zero => intro w _; simp [bestV, far60]
  | succ k ih =>
    intro w hk
    rw [bestV]
    refine ⟨minOver_ge (by unfold far60; omega) fun j hj _ => ?_, minOver_le _ _ _⟩
    have h1 := (ih (w ||| 2 ^ j) (by omega)).1
    have h2 := (hx (n - (k + 1)) j (by omega) hj).1
    push_cast at *
    omega

theorem bestV_up {n : Nat} {x : Nat → Nat → Int} (hx : Modest2 n x) (hn : n ≤ 8) : ∀ k w, k ≤ n → w < 2 ^ n → popc w + k = n → bestV n x k w ≤ (k * 1048576 : Int) := by
  intro k
  induction k with
  | zero => intro w _ _ _; simp [bestV]
  | succ k ih =>
    intro w hk hw hp
    obtain ⟨j, hj, hb⟩ := popc_free hw (by omega) (by omega)
    have h1 := ih (w ||| 2 ^ j) (by omega) (or_lt hw hj) (by rw [popc_add (by omega) hb]; omega)
    have h2 := (hx (n - (k + 1)) j (by omega) hj).2
    have h3 : bestV n x (k + 1) w ≤ _ := minOver_le_at (f := fun j => x (n - (k + 1)) j + bestV n x k (w ||| 2 ^ j)) hj hb
    push_cast at *
    omega

/-- The least one is met at some place that is not taken. -/
theorem bestV_att {n : Nat} {x : Nat → Nat → Int} (hx : Modest2 n x) (hn : n ≤ 8) {k w : Nat} (hk : k + 1 ≤ n) (hw : w < 2 ^ n) (hp : popc w + (k + 1) = n) :
    ∃ j, j < n ∧ w.testBit j = false ∧ bestV n x (k + 1) w = x (n - (k + 1)) j + bestV n x k (w ||| 2 ^ j) :=
  minOver_att (f := fun j => x (n - (k + 1)) j + bestV n x k (w ||| 2 ^ j)) (by
    have := bestV_up hx hn (k + 1) w hk hw hp
    rw [bestV] at this
    unfold far60
    push_cast at *
    omega)

/-- Whoever gives each row a place of its own, from row n - k on, pays no less. -/
theorem bestV_least {n : Nat} {x : Nat → Nat → Int} (_hn : n ≤ 8) (s : Nat → Nat) (hs : PermOn n s) : ∀ k w, k ≤ n → (∀ j, w.testBit j = true ↔ ∃ i, i < n - k ∧ s i = j) →
    bestV n x k w + sumTo (fun i => x i (s i)) (n - k) ≤ sumTo (fun i => x i (s i)) n := by
  intro k
  induction k with
  | zero => intro w _ _; simp [bestV]
  | succ k ih =>
    intro w hk hw
    have hb : w.testBit (s (n - (k + 1))) = false := by
      cases h : w.testBit (s (n - (k + 1))) with
      | false => rfl
      | true =>
        obtain ⟨i, hi, e⟩ := (hw _).1 h
        have := hs.2 i (n - (k + 1)) (by omega) (by omega) e
        omega
    have h1 := minOver_le_at (f := fun j => x (n - (k + 1)) j + bestV n x k (w ||| 2 ^ j)) (hs.1 (n - (k + 1)) (by omega)) hb
    have h2 := ih (w ||| 2 ^ (s (n - (k + 1)))) (by omega) (fun j => by
      rw [testBit_add, Bool.or_eq_true, hw, decide_eq_true_eq]
      constructor
      · rintro (⟨i, hi, e⟩ | rfl)
        · exact ⟨i, by omega, e⟩
        · exact ⟨n - (k + 1), by omega, rfl⟩
      · rintro ⟨i, hi, e⟩
        by_cases e' : i = n - (k + 1)
        · right; rw [← e, e']
        · left; exact ⟨i, by omega, e⟩)
    rw [show n - k = (n - (k + 1)) + 1 from by omega, sumTo] at h2
    rw [bestV]
    omega

/-- And somebody pays just that. -/
theorem bestV_met {n : Nat} {x : Nat → Nat → Int} (hx : Modest2 n x) (hn : n ≤ 8) : ∀ k w (s : Nat → Nat), k ≤ n → w < 2 ^ n → popc w + k = n → (∀ i, i < n - k → s i < n) → (∀ i j, i < n - k → j < n - k → s i = s j → i = j) →
    (∀ j, w.testBit j = true ↔ ∃ i, i < n - k ∧ s i = j) → ∃ t, PermOn n t ∧ (∀ i, i < n - k → t i = s i) ∧ bestV n x k w + sumTo (fun i => x i (t i)) (n - k) = sumTo (fun i => x i (t i)) n := by
  intro k
  induction k with
  | zero =>
    intro w s _ _ _ h1 h2 _
    exact ⟨s, ⟨fun i hi => h1 i (by omega), fun i j hi hj e => h2 i j (by omega) (by omega) e⟩, fun _ _ => rfl, by simp [bestV]⟩
  | succ k ih =>
    intro w s hk hw hp h1 h2 h3
    obtain ⟨j, hj, hb, he⟩ := bestV_att hx hn hk hw hp
    obtain ⟨t, ht, h4, h5⟩ := ih (w ||| 2 ^ j) (fun i => if i = n - (k + 1) then j else s i) (by omega) (or_lt hw hj) (by rw [popc_add (by omega) hb]; omega)
      (fun i hi => by split; exact hj; exact h1 i (by omega))
      (fun a b ha hb' e => by
        by_cases ea : a = n - (k + 1) <;> by_cases eb : b = n - (k + 1)
        · omega
        · exfalso
          simp only [ea, eb, if_true, if_false] at e
          have := (h3 j).2 ⟨b, by omega, e.symm⟩
          rw [hb] at this; cases this
        · exfalso
          simp only [ea, eb, if_true, if_false] at e
          have := (h3 j).2 ⟨a, by omega, e⟩
          rw [hb] at this; cases this
        · simp only [ea, eb, if_false] at e
          exact h2 a b (by omega) (by omega) e)
      (fun i => by
        rw [testBit_add, Bool.or_eq_true, h3, decide_eq_true_eq]
        constructor
        · rintro (⟨a, ha, e⟩ | rfl)
          · exact ⟨a, by omega, by simp only [show a ≠ n - (k + 1) from by omega, if_false]; exact e⟩
          · exact ⟨n - (k + 1), by omega, by simp⟩
        · rintro ⟨a, ha, e⟩
          by_cases e' : a = n - (k + 1)
          · right; simp only [e', if_true] at e; exact e.symm
          · left; simp only [e', if_false] at e; exact ⟨a, by omega, e⟩)
    have h6 : t (n - (k + 1)) = j := by rw [h4 _ (by omega)]; simp
    refine ⟨t, ht, fun i hi => by rw [h4 i (by omega)]; simp only [show i ≠ n - (k + 1) from by omega, if_false], ?_⟩
    rw [show n - k = (n - (k + 1)) + 1 from by omega, sumTo, h6] at h5
    rw [he]
    omega

theorem leastFees_le {n : Nat} {x : Nat → Nat → Int} (hn : n ≤ 8) (s : Nat → Nat) (hs : PermOn n s) : leastFees n x ≤ sumTo (fun i => x i (s i)) n := by
  have := bestV_least (x := x) hn s hs n 0 (Nat.le_refl _) (fun j => by simp)
  simpa [leastFees, sumTo] using this
theorem leastFees_met {n : Nat} {x : Nat → Nat → Int} (hx : Modest2 n x) (hn : n ≤ 8) : ∃ t, PermOn n t ∧ leastFees n x = sumTo (fun i => x i (t i)) n := by
  obtain ⟨t, ht, _, h⟩ := bestV_met hx hn n 0 (fun i => i) (Nat.le_refl _) (Nat.pow_pos (by omega)) (by simp [popc, popcR_zero]) (fun i hi => by omega) (fun i j hi => by omega) (fun j => by simp)
  exact ⟨t, ht, by simpa [leastFees, sumTo] using h⟩

theorem leastFees_moved_le {n : Nat} {x y : Nat → Nat → Int} (hx : Modest2 n x) (hn : n ≤ 8) {p q : Nat → Nat} (hp : PermOn n p) (hq : PermOn n q) (h : ∀ i j, i < n → j < n → y (p i) (q j) = x i j) : leastFees n y ≤ leastFees n x := by
  obtain ⟨t, ht, e⟩ := leastFees_met hx hn
  obtain ⟨p', hp', h1, h2⟩ := hp.inv
  have hs : PermOn n (fun i => q (t (p' i))) := hq.comp (ht.comp hp')
  have h3 := leastFees_le (x := y) hn _ hs
  rw [← sumTo_perm hp (fun i => y i (q (t (p' i))))] at h3
  rw [e]
  rw [sumTo_congr (f := fun i => y (p i) (q (t (p' (p i))))) (g := fun i => x i (t i)) (fun i hi => by rw [h1 i hi, h i _ hi (ht.1 i hi)])] at h3
  exact h3

/-- THE LAW: rows and places in another order cost as much together. -/
theorem leastFees_moved {n : Nat} {x y : Nat → Nat → Int} (hx : Modest2 n x) (hn : n ≤ 8) {p q : Nat → Nat} (hp : PermOn n p) (hq : PermOn n q) (h : ∀ i j, i < n → j < n → y (p i) (q j) = x i j) : leastFees n y = leastFees n x := by
  obtain ⟨p', hp', h1, h2⟩ := hp.inv
  obtain ⟨q', hq', h3, h4⟩ := hq.inv
  have hxy : ∀ i j, i < n → j < n → x (p' i) (q' j) = y i j := fun i j hi hj => by
    rw [← h (p' i) (q' j) (hp'.1 i hi) (hq'.1 j hj), h2 i hi, h4 j hj]
  have hy : Modest2 n y := fun i j hi hj => by rw [← hxy i j hi hj]; exact hx _ _ (hp'.1 i hi) (hq'.1 j hj)
  have a := leastFees_moved_le hx hn hp hq h
  have b := leastFees_moved_le hy hn hp' hq' hxy
  omega

end Go.Proofs.Ytdkpcjabciocgaa
