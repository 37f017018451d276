/- The plain law of IndexOrders. -/
import Derived.Test.YtpcmofalfjgmmaaB
namespace Go.Proofs.Ytpcmofalfjgmmaa
open Go Vm

theorem l24_all (l : List Int) (hs : l.length < 4611686018427387904) : ∀ (m i : Nat), i ≤ l.length → l.length < m + i →
    (l24_20_11_2 m l (l.length : Int) (i : Int) = some (.exit ()) ∧ ∀ x, x ∈ l.drop i → x = 0) ∨ (∃ j : Nat, l24_20_11_2 m l (l.length : Int) (i : Int) = some (.ret ((j : Int), ())) ∧ ∃ x, x ∈ l ∧ x ≠ 0)
  | 0, i, h1, h2 => by omega
  | m + 1, i, h1, h2 => by
    simp only [l24_20_11_2]
    by_cases hi : i < l.length
    · rw [if_pos (by simpa using hi), if_pos (by omega), if_pos (by omega), Int.toNat_natCast, getD_eq l i 0 hi, List.drop_eq_getElem_cons hi, w64 _ (by omega) (by omega), show ((i : Int) + 1) = ((i + 1 : Nat) : Int) by omega]
      by_cases e : l[i] = 0
      · rw [if_neg (by simpa using e)]
        rcases l24_all l hs m (i + 1) (by omega) (by omega) with ⟨h, g⟩ | h
        · refine .inl ⟨h, fun x hx => ?_⟩
          rcases List.mem_cons.1 hx with rfl | hx
          · exact e
          · exact g x hx
        · exact .inr h
      · rw [if_pos (by simpa using e)]
        exact .inr ⟨i, rfl, l[i], List.getElem_mem hi, e⟩
    · rw [if_neg (by simpa using hi), List.drop_of_length_le (by omega)]
      exact .inl ⟨rfl, by simp⟩

theorem f11_ok (l : List Int) (hs : l.length < 4611686018427387904) : f11 fuel l = some (decide (∀ x, x ∈ l → x = 0)) := by
  unfold f11
  have h := l24_all l hs fuel 0 (by omega) (by have := fuel_ge (n := 4611686018427387904) (by decide); omega)
  rw [List.drop_zero] at h
  rcases h with ⟨h, g⟩ | ⟨j, h, x, hx, g⟩
  · have h : l24_20_11_2 fuel l (l.length : Int) 0 = _ := h
    rw [h]
    simp only [decide_eq_true g]
  · have h : l24_20_11_2 fuel l (l.length : Int) 0 = _ := h
    rw [h]
    have e : decide (∀ x, x ∈ l → x = 0) = false := decide_eq_false fun k => g (k x hx)
    rw [e]
    simp

/-- The lexicographic order. -/
def cmp : List Nat → List Nat → Int
  | [], [] => 0
  | [], _ :: _ => -1
  | _ :: _, [] => 1
  | x :: a, y :: b => if x < y then -1 else if y < x then 1 else cmp a b

theorem cmp_cons (x y : Nat) (a b : List Nat) : cmp (x :: a) (y :: b) = if x < y then -1 else if y < x then 1 else cmp a b := rfl
theorem cmp_sw : ∀ a b, cmp b a = - cmp a b
  | [], [] => rfl
  | [], _ :: _ => rfl
  | _ :: _, [] => rfl
  | x :: a, y :: b => by
    rw [cmp_cons, cmp_cons]
    by_cases h : x < y
    · rw [if_neg (by omega), if_pos h, if_pos h]; rfl
    · by_cases g : y < x
      · rw [if_pos g, if_neg h, if_pos g]
      · rw [if_neg g, if_neg h, if_neg h, if_neg g, cmp_sw a b]
theorem cmp_eq : ∀ a b, cmp a b = 0 → a = b
  | [], [], _ => rfl
  | [], _ :: _, h => by simp [cmp] at h
  | _ :: _, [], h => by simp [cmp] at h
  | x :: a, y :: b, h => by
    rw [cmp_cons] at h
    by_cases h1 : x < y
    · rw [if_pos h1] at h; exact absurd h (by decide)
    · by_cases g : y < x
      · rw [if_neg h1, if_pos g] at h; exact absurd h (by decide)
      · rw [if_neg h1, if_neg g] at h
        rw [cmp_eq a b h, show x = y by omega]

theorem l14_all (a b : List Nat) (hs : a.length < 4611686018427387904) : ∀ (m i : Nat), i ≤ a.length → i ≤ b.length → a.length < m + i →
    (l14_2 m (zs b) (zs a) (a.length : Int) (i : Int) = some (.exit ()) ∧ cmp (a.drop i) (b.drop i) = if a.length < b.length then -1 else 0) ∨ l14_2 m (zs b) (zs a) (a.length : Int) (i : Int) = some (.ret (cmp (a.drop i) (b.drop i), ()))
  | 0, i, h1, h2, _ => by omega
  | m + 1, i, h1, h2, h3 => by
    simp only [l14_2]
    by_cases hi : i < a.length
    · rw [if_pos (by simpa using hi), if_pos (by omega), length_zs, length_zs, if_pos (by omega), List.drop_eq_getElem_cons hi]
      by_cases hb : i < b.length
      · rw [if_neg (by simp; omega), if_pos (by omega), if_pos (by omega), if_neg (by simp), if_neg (by simp), Int.toNat_natCast, getD_zs, getD_zs, getD_eq a i 0 hi, getD_eq b i 0 hb, w64 _ (by omega) (by omega), show ((i : Int) + 1) = ((i + 1 : Nat) : Int) by omega,
          List.drop_eq_getElem_cons hb, cmp_cons]
        by_cases h : a[i] < b[i]
        · rw [if_pos (by simpa using h), if_pos h]; exact .inr rfl
        · rw [if_neg (by simpa using h), if_neg h]
          by_cases g : b[i] < a[i]
          · rw [if_pos (by simpa using g), if_pos g]; exact .inr rfl
          · rw [if_neg (by simpa using g), if_neg g]
            exact l14_all a b hs m (i + 1) (by omega) (by omega) (by omega)
      · rw [if_pos (by simp; omega), List.drop_of_length_le (l := b) (by omega)]
        exact .inr rfl
    · rw [if_neg (by simpa using hi), List.drop_of_length_le (l := a) (by omega)]
      refine .inl ⟨rfl, ?_⟩
      by_cases hb : i < b.length
      · rw [List.drop_eq_getElem_cons hb, if_pos (by omega)]; rfl
      · rw [List.drop_of_length_le (by omega), if_neg (by omega)]; rfl

theorem f14_ok (a b : List Nat) (hs : a.length < 4611686018427387904) : f14 fuel (zs a) (zs b) = some (cmp a b) := by
  unfold f14
  have h := l14_all a b hs fuel 0 (by omega) (by omega) (by have := fuel_ge (n := 4611686018427387904) (by decide); omega)
  rw [List.drop_zero, List.drop_zero] at h
  rw [length_zs, length_zs]
  rcases h with ⟨h, g⟩ | h
  · have h : l14_2 fuel (zs b) (zs a) (a.length : Int) 0 = _ := h
    rw [h, g]
    by_cases e : a.length < b.length
    · rw [if_pos e]; simp [e]
    · rw [if_neg e]; simp [e]
  · have h : l14_2 fuel (zs b) (zs a) (a.length : Int) 0 = _ := h
    rw [h]

theorem rank_cons (k c : Nat) (ks : List Nat) : rank k (c :: ks) = ahead k (cnt (c :: ks)) c + rank k ks := rfl
theorem rank_cmp : ∀ (a b : List Nat), (∀ c, c ∈ a → c < 7) → cnt a = cnt b → cmp a b < 0 → rank 7 a < rank 7 b
  | [], [], _, _, h => absurd h (by decide)
  | [], y :: b, _, e, _ => absurd (congrFun e y) (by simp [cnt])
  | x :: a, [], _, e, _ => absurd (congrFun e x) (by simp [cnt])
  | x :: a, y :: b, ha, e, h => by
    rw [rank_cons, rank_cons, ← e]
    have ha' : ∀ c, c ∈ a → c < 7 := fun d hd => ha d (List.mem_cons_of_mem _ hd)
    have hl := rank_lt 7 a ha'
    rw [cmp_cons] at h
    by_cases h1 : x < y
    · have h2 : ahead 7 (cnt (x :: a)) (x + 1) ≤ ahead 7 (cnt (x :: a)) y := sumTo_mono h1
      have h3 : ahead 7 (cnt (x :: a)) (x + 1) = ahead 7 (cnt (x :: a)) x + term 7 (cnt (x :: a)) x := rfl
      rw [term_cons] at h3
      omega
    · rw [if_neg h1] at h
      by_cases g : y < x
      · rw [if_pos g] at h; exact absurd h (by decide)
      · rw [if_neg g] at h
        obtain rfl : x = y := by omega
        have := rank_cmp a b ha' (by rw [cnt_cons x a, cnt_cons x b, e]) h
        omega

theorem vec_inj {k : Nat} {f g : Nat → Nat} (h : vec k f = vec k g) (i : Nat) (hi : i < k) : f i = g i := by
  have := congrArg (·.getD i 0) h
  simpa only [vec_getD _ _ _ hi] using this
theorem cnt_out {ks : List Nat} (h : Valid ks) {c : Nat} (hc : 7 ≤ c) : cnt ks c = 0 := by
  unfold cnt
  exact List.count_eq_zero.2 fun g => by have := h.2 c g; omega
theorem cnt_eq {a b : List Nat} (ha : Valid a) (hb : Valid b) (h : zs (vec 7 (cnt a)) = zs (vec 7 (cnt b))) : cnt a = cnt b := by
  have h : vec 7 (cnt a) = vec 7 (cnt b) := List.map_inj_right (fun x y h => Int.ofNat.inj h) |>.1 h
  funext c
  by_cases hc : c < 7
  · exact vec_inj h c hc
  · rw [cnt_out ha (by omega), cnt_out hb (by omega)]

theorem indexOrders_plain : ∀ x : List Int × List Int, WfL [.slice (.int .i64), .slice (.int .i64)] x → f5 fuel x.1 x.2 = some true := by
  intro x _
  obtain ⟨x, y⟩ := x
  unfold f5
  rw [f6_true]
  simp only [Option.bind_some]
  rw [if_neg (by simp)]
  rcases f15_spec fuel fuel100 x with ⟨e, h0, h⟩ | ⟨_, a, rfl, h⟩
  · rw [f7_bad h0 h, f8_bad h0 h]
    rcases f15_spec fuel fuel100 y with ⟨e', h0', h'⟩ | ⟨_, b, rfl, h'⟩
    · rw [f7_bad h0' h', f8_bad h0' h']
      simp only [Option.bind_some]
      rw [f11_ok _ (by simp)]
      simp [h0]
    · rw [f7_ok h', f8_ok h']
      simp only [Option.bind_some]
      rw [f11_ok _ (by simp)]
      simp [h0]
  · rw [f7_ok h, f8_ok h]
    rcases f15_spec fuel fuel100 y with ⟨e', h0', h'⟩ | ⟨_, b, rfl, h'⟩
    · rw [f7_bad h0' h', f8_bad h0' h']
      simp only [Option.bind_some]
      rw [f11_ok _ (by simp)]
      simp [h0']
    · rw [f7_ok h', f8_ok h']
      simp only [Option.bind_some]
      rw [f11_ok _ (by simp), f12_ok _ _ (by rw [length_zs, vec_length]; decide)]
      simp only [Option.bind_some]
      rw [if_pos (by simp)]
      by_cases e : zs (vec 7 (cnt a)) = zs (vec 7 (cnt b))
      · have hc := cnt_eq h h' e
        rw [if_neg (by simpa using e), f14_ok _ _ (by have := h.1; omega)]
        simp only [Option.bind_some]
        have h1 := rank_cmp a b h.2 hc
        have h2 := rank_cmp b a h'.2 hc.symm
        have h3 := cmp_eq a b
        rw [cmp_sw a b] at h2
        by_cases k1 : cmp a b < 0
        · have := h1 k1
          simp [k1, this]
        · by_cases k2 : cmp a b = 0
          · have := h3 k2
            subst this
            simp [k2]
          · have k3 : 0 < cmp a b := by omega
            have := h2 (by omega)
            simp [k1, k2, k3, this]
      · simp [e]

end Go.Proofs.Ytpcmofalfjgmmaa
