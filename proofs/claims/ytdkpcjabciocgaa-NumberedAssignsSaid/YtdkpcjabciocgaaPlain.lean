/- Plain facts on permutations of the numbers below n, and on sums over them. -/
import GoSem.Core.Value
namespace Go.Proofs.Ytdkpcjabciocgaa

/-- p is a permutation of the numbers below n. -/
def PermOn (n : Nat) (p : Nat → Nat) : Prop := (∀ i, i < n → p i < n) ∧ ∀ i j, i < n → j < n → p i = p j → i = j

theorem length_le_of_nodup {l m : List Nat} (hl : l.Nodup) (h : ∀ x, x ∈ l → x ∈ m) : l.length ≤ m.length := by
  induction l generalizing m with
  | nil => simp
  | cons a l ih =>
    rw [List.nodup_cons] at hl
    have ha : a ∈ m := h a (by simp)
    have h1 := ih (m := m.erase a) hl.2 (fun x hx => by
      refine (List.mem_erase_of_ne ?_).2 (h x (by simp [hx]))
      rintro rfl; exact hl.1 hx)
    rw [List.length_erase_of_mem ha] at h1
    have := List.length_pos_of_mem ha
    simp; omega

theorem nodup_map {α β : Type} {f : α → β} {l : List α} (hl : l.Nodup) (h : ∀ x y, x ∈ l → y ∈ l → f x = f y → x = y) : (l.map f).Nodup := by
  induction l with
  | nil => simp
  | cons a l ih =>
    rw [List.nodup_cons] at hl
    rw [List.map_cons, List.nodup_cons]
    refine ⟨?_, ih hl.2 (fun x y hx hy => h x y (by simp [hx]) (by simp [hy]))⟩
    rw [List.mem_map]
    rintro ⟨b, hb, e⟩
    exact hl.1 (h b a (by simp [hb]) (by simp) e ▸ hb)

theorem PermOn.surj {n : Nat} {p : Nat → Nat} (h : PermOn n p) {k : Nat} (hk : k < n) : ∃ i, i < n ∧ p i = k := by
  have hnd : ((List.range n).map p).Nodup := nodup_map List.nodup_range (fun x y hx hy e => h.2 x y (by simpa using hx) (by simpa using hy) e)
  by_cases hm : k ∈ (List.range n).map p
  · obtain ⟨i, hi, e⟩ := List.mem_map.1 hm
    exact ⟨i, by simpa using hi, e⟩
  · have := length_le_of_nodup (l := k :: (List.range n).map p) (m := List.range n) (List.nodup_cons.2 ⟨hm, hnd⟩) (fun x hx => by
      rcases List.mem_cons.1 hx with rfl | hx
      · simpa using hk
      · obtain ⟨i, hi, rfl⟩ := List.mem_map.1 hx
        have := h.1 i (by simpa using hi); simpa using this)
    simp at this; omega

theorem PermOn.perm {n : Nat} {p : Nat → Nat} (h : PermOn n p) : ((List.range n).map p).Perm (List.range n) := by
  refine (List.perm_ext_iff_of_nodup (nodup_map List.nodup_range (fun x y hx hy e => h.2 x y (by simpa using hx) (by simpa using hy) e)) List.nodup_range).2 fun k => ?_
  rw [List.mem_map, List.mem_range]
  constructor
  · rintro ⟨i, hi, rfl⟩; exact h.1 i (by simpa using hi)
  · intro hk
    obtain ⟨i, hi, e⟩ := h.surj hk
    exact ⟨i, by simpa using hi, e⟩

theorem PermOn.inv {n : Nat} {p : Nat → Nat} (h : PermOn n p) : ∃ p' : Nat → Nat, PermOn n p' ∧ (∀ i, i < n → p' (p i) = i) ∧ ∀ i, i < n → p (p' i) = i := by
  have hex : ∀ k, ∃ i, k < n → (i < n ∧ p i = k) := fun k => by
    by_cases hk : k < n
    · obtain ⟨i, hi⟩ := h.surj hk; exact ⟨i, fun _ => hi⟩
    · exact ⟨0, fun h => absurd h hk⟩
  refine ⟨fun k => (hex k).choose, ⟨fun k hk => ((hex k).choose_spec hk).1, fun i j hi hj e => ?_⟩, fun i hi => ?_, fun i hi => ((hex i).choose_spec hi).2⟩
  · have e : (hex i).choose = (hex j).choose := e
    have h1 := ((hex i).choose_spec hi).2
    rw [e, ((hex j).choose_spec hj).2] at h1
    exact h1.symm
  · have hs := (hex (p i)).choose_spec (h.1 i hi)
    exact h.2 _ _ hs.1 hi hs.2

theorem PermOn.comp {n : Nat} {p q : Nat → Nat} (hp : PermOn n p) (hq : PermOn n q) : PermOn n (fun i => p (q i)) :=
  ⟨fun i hi => hp.1 _ (hq.1 i hi), fun i j hi hj e => hq.2 i j hi hj (hp.2 _ _ (hq.1 i hi) (hq.1 j hj) e)⟩

theorem least_nat {P : Nat → Prop} {n : Nat} (h : ∃ j, j < n ∧ P j) : ∃ J, J < n ∧ P J ∧ ∀ j, j < J → ¬ P j := by
  induction n with
  | zero => obtain ⟨j, hj, _⟩ := h; omega
  | succ n ih =>
    by_cases hl : ∃ j, j < n ∧ P j
    · obtain ⟨J, hJ, h1, h2⟩ := ih hl
      exact ⟨J, by omega, h1, h2⟩
    · obtain ⟨j, hj, hp⟩ := h
      have e : j = n := by
        rcases Nat.lt_or_ge j n with h | h
        · exact absurd ⟨j, h, hp⟩ hl
        · omega
      exact ⟨j, hj, hp, fun k hk hk' => hl ⟨k, by omega, hk'⟩⟩

/-- The sum of f over the numbers below n. -/
def sumTo (f : Nat → Int) : Nat → Int
  | 0 => 0
  | n + 1 => sumTo f n + f n

theorem sumTo_congr {f g : Nat → Int} {n : Nat} (h : ∀ i, i < n → f i = g i) : sumTo f n = sumTo g n := by
  induction n with
  | zero => rfl
  | succ n ih => rw [sumTo, sumTo, ih (fun i hi => h i (by omega)), h n (by omega)]

theorem foldr_add_perm {l m : List Int} (h : l.Perm m) : l.foldr (· + ·) 0 = m.foldr (· + ·) 0 :=
  h.foldr_eq' (fun x _ y _ z => by omega) 0

theorem foldr_add_append (l m : List Int) : (l ++ m).foldr (· + ·) 0 = l.foldr (· + ·) 0 + m.foldr (· + ·) 0 := by
  induction l with
  | nil => simp
  | cons a l ih => simp only [List.cons_append, List.foldr_cons, ih]; omega

theorem sumTo_eq (f : Nat → Int) (n : Nat) : sumTo f n = ((List.range n).map f).foldr (· + ·) 0 := by
  induction n with
  | zero => rfl
  | succ n ih => rw [sumTo, ih, List.range_succ, List.map_append, foldr_add_append]; simp

theorem sumTo_perm {n : Nat} {p : Nat → Nat} (h : PermOn n p) (f : Nat → Int) : sumTo (fun i => f (p i)) n = sumTo f n := by
  rw [sumTo_eq, sumTo_eq]
  have := foldr_add_perm (h.perm.map f)
  rw [List.map_map] at this
  exact this

end Go.Proofs.Ytdkpcjabciocgaa
