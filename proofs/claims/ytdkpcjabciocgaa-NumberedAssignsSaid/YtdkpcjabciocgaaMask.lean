/- Plain facts on words as sets: how many bits, which ones. -/
import Derived.Test.YtdkpcjabciocgaaPlain
namespace Go.Proofs.Ytdkpcjabciocgaa

/-- How many of the lowest k bits of a word are set. -/
def popcR : Nat → Nat → Nat
  | 0, _ => 0
  | k + 1, w => w % 2 + popcR k (w / 2)
/-- How many bits of a word are set. -/
def popc (w : Nat) : Nat := popcR 32 w
theorem popcR_zero (k : Nat) : popcR k 0 = 0 := by
  induction k with
  | zero => rfl
  | succ k ih => simp [popcR, ih]
theorem popcR_le (k : Nat) (w : Nat) : popcR k w ≤ k := by
  induction k generalizing w with
  | zero => simp [popcR]
  | succ k ih => have := ih (w / 2); simp only [popcR]; omega
theorem popcR_add (a b w : Nat) : popcR (a + b) w = popcR a w + popcR b (w / 2 ^ a) := by
  induction a generalizing w with
  | zero => simp [popcR]
  | succ a ih =>
    rw [show a + 1 + b = (a + b) + 1 from by omega]
    simp only [popcR]
    rw [ih, Nat.div_div_eq_div_mul, show 2 * 2 ^ a = 2 ^ (a + 1) from by rw [Nat.pow_succ, Nat.mul_comm]]
    omega
theorem popcR_low (k b w : Nat) (h : w < 2 ^ k) : popcR (k + b) w = popcR k w := by
  rw [popcR_add, Nat.div_eq_of_lt h, popcR_zero]; rfl
theorem popc_low (w : Nat) (h : w < 256) : popc w = popcR 8 w := popcR_low 8 24 w h
theorem popc_le8 (w : Nat) (h : w < 256) : popc w ≤ 8 := by rw [popc_low w h]; exact popcR_le 8 w
theorem popc_split (x : Nat) (h : x < 65536) : popc x = popc (x / 256) + popc (x % 256) := by
  rw [popc_low (x / 256) (by omega), popc_low (x % 256) (by omega)]
  show popcR 32 x = _
  rw [show popcR 32 x = popcR (8 + 24) x from rfl, popcR_add, show x / 2 ^ 8 = x / 256 from rfl, show popcR 24 (x / 256) = popcR (8 + 16) (x / 256) from rfl, popcR_low 8 16 _ (by omega)]
  simp only [popcR]
  omega

/-- How many of the first n numbers meet p. -/
def cnt (p : Nat → Bool) : Nat → Nat
  | 0 => 0
  | n + 1 => cnt p n + (if p n then 1 else 0)
theorem cnt_congr {p q : Nat → Bool} {n : Nat} (h : ∀ i, i < n → p i = q i) : cnt p n = cnt q n := by
  induction n with
  | zero => rfl
  | succ n ih => rw [cnt, cnt, ih (fun i hi => h i (by omega)), h n (by omega)]
theorem cnt_le (p : Nat → Bool) (n : Nat) : cnt p n ≤ n := by
  induction n with
  | zero => simp [cnt]
  | succ n ih => rw [cnt]; split <;> omega
theorem cnt_full {p : Nat → Bool} {n : Nat} (h : cnt p n = n) : ∀ i, i < n → p i = true := by
  induction n with
  | zero => intro i hi; omega
  | succ n ih =>
    rw [cnt] at h
    have := cnt_le p n
    by_cases hp : p n = true
    · rw [if_pos hp] at h
      intro i hi
      by_cases e : i = n
      · rw [e]; exact hp
      · exact ih (by omega) i (by omega)
    · rw [if_neg hp] at h; omega
theorem cnt_all {p : Nat → Bool} {n : Nat} (h : ∀ i, i < n → p i = true) : cnt p n = n := by
  induction n with
  | zero => rfl
  | succ n ih => rw [cnt, ih (fun i hi => h i (by omega)), if_pos (h n (by omega))]
theorem cnt_none {p : Nat → Bool} {n : Nat} (h : ∀ i, i < n → p i = false) : cnt p n = 0 := by
  induction n with
  | zero => rfl
  | succ n ih => rw [cnt, ih (fun i hi => h i (by omega)), h n (by omega)]; rfl
theorem cnt_add (p : Nat → Bool) {n j : Nat} (hj : j < n) (hp : p j = false) : cnt (fun i => p i || decide (i = j)) n = cnt p n + 1 := by
  induction n with
  | zero => omega
  | succ n ih =>
    rw [cnt, cnt]
    by_cases e : n = j
    · subst e
      rw [hp]
      have : cnt (fun i => p i || decide (i = n)) n = cnt p n := cnt_congr fun i hi => by
        have : decide (i = n) = false := by simp; omega
        rw [this, Bool.or_false]
      rw [this]; simp
    · rw [ih (by omega)]
      have : decide (n = j) = false := by simpa using e
      rw [this, Bool.or_false]; omega
theorem cnt_tail {p : Nat → Bool} {n m : Nat} (hnm : n ≤ m) (h : ∀ i, n ≤ i → i < m → p i = false) : cnt p m = cnt p n := by
  induction m with
  | zero => rw [show n = 0 from by omega]
  | succ m ih =>
    by_cases e : n = m + 1
    · rw [e]
    · rw [cnt, ih (by omega) (fun i h1 h2 => h i h1 (by omega)), h m (by omega) (by omega)]; rfl
theorem cnt_shift (p : Nat → Bool) (n : Nat) : cnt p (n + 1) = (if p 0 then 1 else 0) + cnt (fun i => p (i + 1)) n := by
  induction n with
  | zero => simp [cnt]
  | succ n ih => rw [cnt, ih, cnt]; omega
theorem cnt_eq_countP (p : Nat → Bool) (n : Nat) : cnt p n = ((List.range n).countP p) := by
  induction n with
  | zero => rfl
  | succ n ih => rw [cnt, ih, List.range_succ, List.countP_append]; simp [List.countP_cons]
theorem cnt_perm {n : Nat} {p : Nat → Nat} (h : PermOn n p) (r : Nat → Bool) : cnt (fun i => r (p i)) n = cnt r n := by
  rw [cnt_eq_countP, cnt_eq_countP, ← h.perm.countP_eq r, List.countP_map]; rfl

theorem popcR_eq (k w : Nat) : popcR k w = cnt (fun i => w.testBit i) k := by
  induction k generalizing w with
  | zero => rfl
  | succ k ih =>
    rw [popcR, ih, cnt_shift]
    congr 1
    · rw [Nat.testBit_zero]
      have : w % 2 = 0 ∨ w % 2 = 1 := by omega
      rcases this with h | h <;> simp [h]
    · exact cnt_congr fun i _ => by rw [Nat.testBit_succ]
theorem popc_eq (w : Nat) : popc w = cnt (fun i => w.testBit i) 32 := popcR_eq 32 w
theorem popc_lt {w n : Nat} (h : w < 2 ^ n) (hn : n ≤ 32) : popc w = cnt (fun i => w.testBit i) n := by
  rw [popc_eq]
  exact cnt_tail hn fun i h1 _ => Nat.testBit_lt_two_pow (Nat.lt_of_lt_of_le h (Nat.pow_le_pow_right (by omega) h1))
theorem popc_le {w n : Nat} (h : w < 2 ^ n) (hn : n ≤ 32) : popc w ≤ n := by rw [popc_lt h hn]; exact cnt_le _ _
theorem popc_full {w n : Nat} (h : w < 2 ^ n) (hn : n ≤ 32) (he : popc w = n) : w = 2 ^ n - 1 := by
  rw [popc_lt h hn] at he
  apply Nat.eq_of_testBit_eq
  intro i
  rw [Nat.testBit_two_pow_sub_one]
  by_cases hi : i < n
  · rw [cnt_full he i hi]; simp [hi]
  · rw [Nat.testBit_lt_two_pow (Nat.lt_of_lt_of_le h (Nat.pow_le_pow_right (by omega) (by omega)))]; simp [hi]
theorem popc_ones {n : Nat} (hn : n ≤ 32) : popc (2 ^ n - 1) = n := by
  rw [popc_lt (w := 2 ^ n - 1) (n := n) (by have := Nat.pow_pos (a := 2) (n := n) (by omega); omega) hn]
  exact cnt_all fun i hi => by rw [Nat.testBit_two_pow_sub_one]; simpa using hi
theorem popc_free {w n : Nat} (h : w < 2 ^ n) (hn : n ≤ 32) (he : popc w < n) : ∃ j, j < n ∧ w.testBit j = false := by
  rw [popc_lt h hn] at he
  apply Classical.byContradiction
  intro hno
  have : cnt (fun i => w.testBit i) n = n := cnt_all fun i hi => by
    cases hb : w.testBit i with
    | true => rfl
    | false => exact absurd ⟨i, hi, hb⟩ hno
  omega
theorem testBit_add (w j i : Nat) : (w ||| 2 ^ j).testBit i = (w.testBit i || decide (i = j)) := by
  rw [Nat.testBit_or, Nat.testBit_two_pow]
  congr 1
  simp [eq_comm]
theorem popc_add {w j : Nat} (hj : j < 32) (h : w.testBit j = false) : popc (w ||| 2 ^ j) = popc w + 1 := by
  rw [popc_eq, popc_eq, ← cnt_add _ hj h]
  exact cnt_congr fun i _ => testBit_add w j i
theorem or_lt {w j n : Nat} (h : w < 2 ^ n) (hj : j < n) : w ||| 2 ^ j < 2 ^ n :=
  Nat.or_lt_two_pow h (Nat.pow_lt_pow_right (by omega) hj)
theorem lt_or {w j : Nat} (h : w.testBit j = false) : w < w ||| 2 ^ j := by
  have h1 : w ≤ w ||| 2 ^ j := Nat.left_le_or
  have h2 : w ≠ w ||| 2 ^ j := by
    intro e
    have := congrArg (fun z => z.testBit j) e
    simp only [testBit_add, h] at this
    simp at this
  omega
end Go.Proofs.Ytdkpcjabciocgaa
