/- Numbers of arrangements: factorials, binomials, multinomials; ranks. No program. -/
import Derived.Test.YtpcmofalfjgmmaaVmD
namespace Go.Proofs.Ytpcmofalfjgmmaa
open Go Vm

def fact : Nat → Nat
  | 0 => 1
  | n + 1 => (n + 1) * fact n
theorem fact_pos : ∀ n, 0 < fact n
  | 0 => Nat.one_pos
  | n + 1 => Nat.mul_pos (Nat.succ_pos n) (fact_pos n)

def choose : Nat → Nat → Nat
  | _, 0 => 1
  | 0, _ + 1 => 0
  | n + 1, k + 1 => choose n k + choose n (k + 1)

theorem choose_lt : ∀ {n k : Nat}, n < k → choose n k = 0
  | 0, k + 1, _ => rfl
  | n + 1, k + 1, h => by simp only [choose]; rw [choose_lt (by omega : n < k), choose_lt (by omega : n < k + 1)]

/-- (k + 1) C(n + 1, k + 1) = (n + 1) C(n, k). -/
theorem choose_succ : ∀ (n k : Nat), choose (n + 1) (k + 1) * (k + 1) = choose n k * (n + 1)
  | 0, 0 => rfl
  | 0, k + 1 => by simp [choose]
  | n + 1, 0 => by
    have := choose_succ n 0
    simp only [choose] at this ⊢
    omega
  | n + 1, k + 1 => by
    have h1 := choose_succ n k
    have h2 := choose_succ n (k + 1)
    have e : choose (n + 2) (k + 2) = choose (n + 1) (k + 1) + choose (n + 1) (k + 2) := rfl
    have e2 : choose (n + 1) (k + 1) = choose n k + choose n (k + 1) := rfl
    rw [e, Nat.add_mul, h2]
    have : choose (n + 1) (k + 1) * (k + 1 + 1) = choose n k * (n + 1) + choose (n + 1) (k + 1) := by rw [Nat.mul_add, h1, Nat.mul_one]
    rw [this, show choose (n + 1) (k + 1) * (n + 1 + 1) = choose (n + 1) (k + 1) * (n + 1) + choose (n + 1) (k + 1) by rw [Nat.mul_add, Nat.mul_one], e2, Nat.add_mul]
    omega

theorem choose_fact : ∀ (p n : Nat), choose (p + n) n * fact n * fact p = fact (p + n)
  | p, 0 => by simp [choose, fact]
  | p, n + 1 => by
    have h1 := choose_succ (p + n) n
    have ih := choose_fact p n
    rw [show p + (n + 1) = p + n + 1 from rfl]
    simp only [fact]
    calc choose (p + n + 1) (n + 1) * ((n + 1) * fact n) * fact p = choose (p + n + 1) (n + 1) * (n + 1) * (fact n * fact p) := by ac_rfl
      _ = choose (p + n) n * (p + n + 1) * (fact n * fact p) := by rw [h1]
      _ = (p + n + 1) * (choose (p + n) n * fact n * fact p) := by ac_rfl
      _ = (p + n + 1) * fact (p + n) := by rw [ih]

/-- The number of arrangements, as the program makes it: 'p' are placed, 'o' ways so far. -/
def manyFrom : List Nat → Nat → Nat → Nat
  | [], _, o => o
  | n :: l, p, o => manyFrom l (p + n) (o * choose (p + n) n)
def many (l : List Nat) : Nat := manyFrom l 0 1

def facts (l : List Nat) : Nat := (l.map fact).foldr (· * ·) 1
theorem facts_nil : facts [] = 1 := rfl
theorem facts_cons (n : Nat) (l : List Nat) : facts (n :: l) = fact n * facts l := rfl
theorem facts_pos : ∀ l, 0 < facts l
  | [] => Nat.one_pos
  | n :: l => Nat.mul_pos (fact_pos n) (facts_pos l)

theorem manyFrom_fact : ∀ (l : List Nat) (p o : Nat), manyFrom l p o * facts l * fact p = o * fact (p + l.sum)
  | [], p, o => by simp [manyFrom, facts]
  | n :: l, p, o => by
    have ih := manyFrom_fact l (p + n) (o * choose (p + n) n)
    have hc := choose_fact p n
    rw [facts_cons, List.sum_cons]
    simp only [manyFrom]
    have hp := fact_pos (p + n)
    apply Nat.eq_of_mul_eq_mul_right hp
    calc manyFrom l (p + n) (o * choose (p + n) n) * (fact n * facts l) * fact p * fact (p + n)
        = (manyFrom l (p + n) (o * choose (p + n) n) * facts l * fact (p + n)) * (fact n * fact p) := by ac_rfl
      _ = o * choose (p + n) n * fact (p + n + l.sum) * (fact n * fact p) := by rw [ih]
      _ = o * fact (p + n + l.sum) * (choose (p + n) n * fact n * fact p) := by ac_rfl
      _ = o * fact (p + (n + l.sum)) * fact (p + n) := by rw [hc, Nat.add_assoc]

theorem many_fact (l : List Nat) : many l * facts l = fact l.sum := by
  have := manyFrom_fact l 0 1
  simpa [many, fact] using this
theorem many_pos (l : List Nat) : 0 < many l := by
  rcases Nat.eq_zero_or_pos (many l) with h | h
  · have := many_fact l
    rw [h, Nat.zero_mul] at this
    have := fact_pos l.sum
    omega
  · exact h

theorem fact_mono : ∀ {a b : Nat}, a ≤ b → fact a ≤ fact b := by
  intro a b h
  induction h with
  | refl => exact Nat.le_refl _
  | step h ih => exact Nat.le_trans ih (by simp only [fact]; exact Nat.le_mul_of_pos_left _ (Nat.succ_pos _))
theorem many_le (l : List Nat) : many l ≤ fact l.sum := by
  rw [← many_fact]
  exact Nat.le_mul_of_pos_right _ (facts_pos l)

/-! Counts as functions. -/
/-- The first k values. -/
def vec (k : Nat) (f : Nat → Nat) : List Nat := (List.range k).map f
theorem vec_length (k : Nat) (f : Nat → Nat) : (vec k f).length = k := by simp [vec]
theorem vec_getD (k : Nat) (f : Nat → Nat) (c : Nat) (h : c < k) : (vec k f).getD c 0 = f c := by
  simp [vec, List.getD_eq_getElem?_getD, h]
def upd (f : Nat → Nat) (c x : Nat) : Nat → Nat := fun i => if i = c then x else f i
theorem vec_set (k : Nat) (f : Nat → Nat) (c x : Nat) : (vec k f).set c x = vec k (upd f c x) := by
  apply List.ext_getElem
  · simp [vec]
  · intro i h1 h2
    simp only [vec, List.length_set, List.length_map, List.length_range] at h1
    simp only [vec, List.getElem_set, List.getElem_map, List.getElem_range, upd]
    by_cases e : c = i
    · subst e; simp
    · have : i ≠ c := fun h => e h.symm
      simp [e, this]
theorem vec_congr {k : Nat} {f g : Nat → Nat} (h : ∀ i, i < k → f i = g i) : vec k f = vec k g := by
  apply List.map_congr_left
  intro i hi
  exact h i (List.mem_range.1 hi)

def sumTo : Nat → (Nat → Nat) → Nat
  | 0, _ => 0
  | n + 1, f => sumTo n f + f n
theorem sumTo_congr {f g : Nat → Nat} : ∀ {n : Nat}, (∀ i, i < n → f i = g i) → sumTo n f = sumTo n g
  | 0, _ => rfl
  | n + 1, h => by simp only [sumTo]; rw [sumTo_congr fun i hi => h i (by omega), h n (by omega)]
theorem sumTo_mono {f : Nat → Nat} {a b : Nat} (h : a ≤ b) : sumTo a f ≤ sumTo b f := by
  induction h with
  | refl => exact Nat.le_refl _
  | step h ih => exact Nat.le_trans ih (Nat.le_add_right _ _)
theorem sumTo_mul {f : Nat → Nat} (c : Nat) : ∀ n, sumTo n f * c = sumTo n fun i => f i * c
  | 0 => by simp [sumTo]
  | n + 1 => by simp only [sumTo]; rw [Nat.add_mul, sumTo_mul c n]
theorem vec_succ (k : Nat) (f : Nat → Nat) : vec (k + 1) f = vec k f ++ [f k] := by simp [vec, List.range_succ]
theorem vec_sum (f : Nat → Nat) : ∀ k, (vec k f).sum = sumTo k f
  | 0 => rfl
  | k + 1 => by rw [vec_succ, List.sum_append, vec_sum f k]; simp [sumTo]
theorem facts_append (l m : List Nat) : facts (l ++ m) = facts l * facts m := by
  induction l with
  | nil => simp [facts]
  | cons n l ih => rw [List.cons_append, facts_cons, facts_cons, ih, Nat.mul_assoc]
theorem facts_vec_dec (f : Nat → Nat) (c : Nat) (hf : 0 < f c) : ∀ k, c < k → facts (vec k f) = f c * facts (vec k (upd f c (f c - 1)))
  | 0, h => by omega
  | k + 1, h => by
    rw [vec_succ, vec_succ, facts_append, facts_append]
    by_cases e : c = k
    · subst e
      have h1 : vec c f = vec c (upd f c (f c - 1)) := vec_congr fun i hi => by simp [upd, show i ≠ c by omega]
      have h2 : fact (f c) = f c * fact (f c - 1) := by
        obtain ⟨n, hn⟩ : ∃ n, f c = n + 1 := ⟨f c - 1, by omega⟩
        rw [hn]; rfl
      rw [← h1]
      simp only [facts_cons, facts_nil, Nat.mul_one, upd, if_true]
      rw [h2]; ac_rfl
    · have ih := facts_vec_dec f c hf k (by omega)
      have h3 : upd f c (f c - 1) k = f k := by simp [upd, show k ≠ c by omega]
      rw [ih, h3]; ac_rfl
theorem sumTo_dec (f : Nat → Nat) (c : Nat) (hf : 0 < f c) : ∀ k, c < k → sumTo k f = sumTo k (upd f c (f c - 1)) + 1
  | 0, h => by omega
  | k + 1, h => by
    simp only [sumTo]
    by_cases e : c = k
    · subst e
      have h1 : sumTo c f = sumTo c (upd f c (f c - 1)) := sumTo_congr fun i hi => by simp [upd, show i ≠ c by omega]
      simp only [upd, if_true] at h1 ⊢
      rw [← h1]; omega
    · have ih := sumTo_dec f c hf k (by omega)
      have h3 : upd f c (f c - 1) k = f k := by simp [upd, show k ≠ c by omega]
      rw [ih, h3]; omega

/-- The number of arrangements that begin with one of kind j. -/
def term (k : Nat) (f : Nat → Nat) (j : Nat) : Nat := if f j = 0 then 0 else many (vec k (upd f j (f j - 1)))

/-- Every arrangement begins with some kind. -/
theorem many_terms (k : Nat) (f : Nat → Nat) (hs : 0 < sumTo k f) : sumTo k (term k f) = many (vec k f) := by
  have hp := facts_pos (vec k f)
  apply Nat.eq_of_mul_eq_mul_right hp
  rw [many_fact, vec_sum, sumTo_mul]
  obtain ⟨s, hs'⟩ : ∃ s, sumTo k f = s + 1 := ⟨sumTo k f - 1, by omega⟩
  have h1 : ∀ i, i < k → term k f i * facts (vec k f) = f i * fact s := by
    intro i hi
    unfold term
    split
    · rename_i h; rw [h]; simp
    · rename_i h
      have h := Nat.pos_of_ne_zero h
      rw [facts_vec_dec f i h k hi]
      have hm := many_fact (vec k (upd f i (f i - 1)))
      have hd := sumTo_dec f i h k hi
      rw [vec_sum, show sumTo k (upd f i (f i - 1)) = s by omega] at hm
      calc many (vec k (upd f i (f i - 1))) * (f i * facts (vec k (upd f i (f i - 1)))) = f i * (many (vec k (upd f i (f i - 1))) * facts (vec k (upd f i (f i - 1)))) := by ac_rfl
        _ = f i * fact s := by rw [hm]
  rw [sumTo_congr h1, ← sumTo_mul, hs']
  rfl

/-! Ranks. -/
def cnt (ks : List Nat) : Nat → Nat := fun c => ks.count c
theorem cnt_cons (c : Nat) (ks : List Nat) : cnt ks = upd (cnt (c :: ks)) c (cnt (c :: ks) c - 1) := by
  funext i
  unfold upd cnt
  by_cases e : i = c
  · subst e; simp
  · have : c ≠ i := fun h => e h.symm
    simp [e, List.count_cons, this]
theorem cnt_self (c : Nat) (ks : List Nat) : 0 < cnt (c :: ks) c := by simp [cnt]
theorem sum_cnt : ∀ (ks : List Nat) (k : Nat), (∀ c, c ∈ ks → c < k) → sumTo k (cnt ks) = ks.length
  | [], k, _ => by
    have : sumTo k (cnt []) = 0 := by
      induction k with
      | zero => rfl
      | succ k ih => simp only [sumTo]; rw [ih (by simp)]; simp [cnt]
    simpa using this
  | c :: ks, k, h => by
    rw [sumTo_dec (cnt (c :: ks)) c (cnt_self c ks) k (h c (List.mem_cons_self ..)), ← cnt_cons, sum_cnt ks k fun d hd => h d (List.mem_cons_of_mem _ hd)]
    rfl

/-- How many arrangements with these counts come ahead by their first kind. -/
def ahead (k : Nat) (f : Nat → Nat) (c : Nat) : Nat := sumTo c (term k f)
def rank (k : Nat) : List Nat → Nat
  | [] => 0
  | c :: ks => ahead k (cnt (c :: ks)) c + rank k ks

theorem term_cons (k c : Nat) (ks : List Nat) : term k (cnt (c :: ks)) c = many (vec k (cnt ks)) := by
  unfold term
  rw [if_neg (by have := cnt_self c ks; omega), ← cnt_cons]

theorem rank_lt (k : Nat) : ∀ (ks : List Nat), (∀ c, c ∈ ks → c < k) → rank k ks < many (vec k (cnt ks))
  | [], _ => many_pos _
  | c :: ks, h => by
    have ih := rank_lt k ks fun d hd => h d (List.mem_cons_of_mem _ hd)
    have hc := h c (List.mem_cons_self ..)
    have hs : 0 < sumTo k (cnt (c :: ks)) := by rw [sum_cnt _ _ h]; simp
    rw [← many_terms k _ hs]
    have h1 : sumTo (c + 1) (term k (cnt (c :: ks))) ≤ sumTo k (term k (cnt (c :: ks))) := sumTo_mono hc
    have h2 : sumTo (c + 1) (term k (cnt (c :: ks))) = ahead k (cnt (c :: ks)) c + many (vec k (cnt ks)) := by
      simp only [sumTo, ahead, term_cons]
    simp only [rank]
    omega

end Go.Proofs.Ytpcmofalfjgmmaa
