/- The plain law of IndexNexts. -/
import Derived.Test.YtpcmofalfjgmmaaB
namespace Go.Proofs.Ytpcmofalfjgmmaa
open Go Vm

theorem getD_mid {α : Type} (L : List α) (x : α) (R : List α) (d : α) : (L ++ x :: R).getD L.length d = x := by
  rw [List.getD_eq_getElem?_getD, List.getElem?_append_right (Nat.le_refl _), Nat.sub_self]; rfl
theorem set_mid {α : Type} (L : List α) (x : α) (R : List α) (y : α) : (L ++ x :: R).set L.length y = L ++ y :: R := by
  rw [List.set_append_right _ _ (Nat.le_refl _), Nat.sub_self]; rfl

theorem snoc_cases {α : Type} (l : List α) : l = [] ∨ ∃ p a, l = p ++ [a] := by
  rcases List.eq_nil_or_concat l with rfl | ⟨p, a, rfl⟩
  · exact .inl rfl
  · exact .inr ⟨p, a, by simp⟩

/-- The ends of a list of at least two. -/
theorem two_ends {α : Type} (M : List α) (h : 2 ≤ M.length) : ∃ x N y, M = x :: (N ++ [y]) := by
  match M, h with
  | x :: R, h =>
    rcases snoc_cases R with rfl | ⟨N, y, rfl⟩
    · simp at h
    · exact ⟨x, N, y, by simp⟩

theorem rev_all : ∀ (m : Nat) (P A M B : List Int), A.length = B.length → M.length < m → P.length + (A.length + M.length + B.length) ≤ 16 →
    l22_13_1 m P.length (A.length + M.length + B.length) (A.length : Int) ((A.length : Int) + (M.length : Int) - 1) (P ++ (A ++ (M ++ B))) = some (.exit (P ++ (A ++ (M.reverse ++ B)), ()))
  | 0, P, A, M, B, h1, h2, _ => by omega
  | m + 1, P, A, M, B, h1, h2, h3 => by
    simp only [l22_13_1]
    by_cases hM : 2 ≤ M.length
    · obtain ⟨x, N, y, rfl⟩ := two_ends M hM
      have ih := rev_all m P (A ++ [y]) N (x :: B) (by simp [h1]) (by simp at h2; omega) (by simp at h3 ⊢; omega)
      simp only [List.length_cons, List.length_append, List.length_nil] at hM h2 h3 ih ⊢
      have e1 : ((P.length : Int) + (A.length : Int)).toNat = (P ++ A).length := by rw [List.length_append]; omega
      have e2 : ((P.length : Int) + ((A.length : Int) + ((N.length + (0 + 1) + 1 : Nat) : Int) - 1)).toNat = (P ++ (A ++ x :: N)).length := by simp only [List.length_append, List.length_cons]; omega
      have e2' : (P ++ (A ++ x :: N)).length = (P ++ (A ++ y :: N)).length := by simp
      rw [if_pos (by simp; omega), if_pos (by omega), if_pos (by omega), if_pos (by omega), if_pos (by omega), if_pos (by omega), if_pos (by omega), if_pos (by omega), if_pos (by omega), e1, e2,
        w64 _ (by omega) (by omega), w64 _ (by omega) (by omega)]
      have g1 : P ++ (A ++ (x :: (N ++ [y]) ++ B)) = (P ++ A) ++ x :: (N ++ (y :: B)) := by simp
      have g2 : P ++ (A ++ (x :: (N ++ [y]) ++ B)) = (P ++ (A ++ x :: N)) ++ y :: B := by simp
      have k1 : (P ++ (A ++ (x :: (N ++ [y]) ++ B))).getD (P ++ A).length 0 = x := by rw [g1, getD_mid]
      have k2 : (P ++ (A ++ (x :: (N ++ [y]) ++ B))).getD (P ++ (A ++ x :: N)).length 0 = y := by rw [g2, getD_mid]
      have g3 : (P ++ A) ++ y :: (N ++ (y :: B)) = (P ++ (A ++ y :: N)) ++ y :: B := by simp
      rw [k1, k2, g1, set_mid, e2', g3, set_mid]
      have ih : l22_13_1 m P.length (A.length + (N.length + (0 + 1) + 1) + B.length) ((A.length : Int) + 1) ((A.length : Int) + ((N.length + (0 + 1) + 1 : Nat) : Int) - 1 - 1) (P ++ (A ++ y :: N) ++ x :: B) = some (.exit (P ++ (A ++ [y] ++ (N.reverse ++ x :: B)), ())) := by
        rw [show A.length + (N.length + (0 + 1) + 1) + B.length = A.length + (0 + 1) + N.length + (B.length + 1) by omega, show ((A.length : Int) + 1) = ((A.length + (0 + 1) : Nat) : Int) by omega,
          show (A.length : Int) + ((N.length + (0 + 1) + 1 : Nat) : Int) - 1 - 1 = ((A.length + (0 + 1) : Nat) : Int) + (N.length : Int) - 1 by omega, show P ++ (A ++ y :: N) ++ x :: B = P ++ (A ++ [y] ++ (N ++ x :: B)) by simp]
        exact ih
      rw [ih]
      simp
    · rw [if_neg (by simp; omega)]
      have : M.reverse = M := by
        match M, hM with
        | [], _ => rfl
        | [x], _ => rfl
        | _ :: _ :: _, h => simp at h
      rw [this]

theorem l6_all : ∀ (m : Nat) (pre suf : List Nat), pre.length + suf.length ≤ 16 → pre.length < m → suf ≠ [] → suf.Pairwise (· ≥ ·) →
    (l13_6 m ((pre.length : Int) - 1) (zs (pre ++ suf)) = some (.exit (-1, zs (pre ++ suf), ())) ∧ (pre ++ suf).Pairwise (· ≥ ·)) ∨
    ∃ p a s, pre ++ suf = p ++ a :: s ∧ l13_6 m ((pre.length : Int) - 1) (zs (pre ++ suf)) = some (.exit ((p.length : Int), zs (pre ++ suf), ())) ∧ s.Pairwise (· ≥ ·) ∧ ∃ b t, s = b :: t ∧ a < b
  | 0, pre, suf, _, h, _, _ => by omega
  | m + 1, pre, suf, h1, h2, h3, h4 => by
    simp only [l13_6]
    rcases snoc_cases pre with rfl | ⟨p, a, rfl⟩
    · left
      rw [if_neg (by simp)]
      exact ⟨rfl, h4⟩
    · match suf, h3 with
      | b :: t, _ =>
        simp only [List.length_append, List.length_cons, List.length_nil] at h1 h2 ⊢
        have k1 : (zs (p ++ [a] ++ b :: t)).getD p.length 0 = (a : Int) := by rw [getD_zs, show p ++ [a] ++ b :: t = p ++ a :: (b :: t) by simp, getD_mid]
        have k2 : (zs (p ++ [a] ++ b :: t)).getD (p.length + 1) 0 = (b : Int) := by
          rw [getD_zs, show p.length + 1 = (p ++ [a]).length by simp, getD_mid]
        have e1 : ((p.length + (0 + 1) : Nat) : Int) - 1 = (p.length : Int) := by omega
        have kl : (zs (p ++ [a] ++ b :: t)).length = p.length + t.length + 2 := by rw [length_zs]; simp; omega
        rw [e1, if_pos (by simp), if_pos (by omega), kl, if_pos (by omega), w64 _ (by omega) (by omega), w64 _ (by omega) (by omega), if_pos (by omega), if_pos (by omega), Int.toNat_natCast, show ((p.length : Int) + 1).toNat = p.length + 1 by omega, k1, k2]
        by_cases h : b ≤ a
        · rw [if_pos (by simpa using h)]
          have ih := l6_all m p (a :: b :: t) (by simp; omega) (by omega) (by simp) (by
            rw [List.pairwise_cons]
            refine ⟨fun c hc => ?_, h4⟩
            rcases List.mem_cons.1 hc with rfl | hc
            · exact h
            · exact Nat.le_trans ((List.pairwise_cons.1 h4).1 c hc) h)
          rw [show p ++ [a] ++ b :: t = p ++ a :: b :: t by simp]
          exact ih
        · rw [if_neg (by simp; omega)]
          exact .inr ⟨p, a, b :: t, by simp, rfl, h4, b, t, rfl, by omega⟩

theorem l11_all : ∀ (m : Nat) (p : List Nat) (a : Nat) (s1 s2 : List Nat), p.length + s1.length + s2.length ≤ 15 → s1.length ≤ m → (∀ x, x ∈ s2 → x ≤ a) → (∃ x, x ∈ s1 ∧ a < x) →
    ∃ t1 b t2, s1 ++ s2 = t1 ++ b :: t2 ∧ a < b ∧ (∀ x, x ∈ t2 → x ≤ a) ∧ l13_11 m (p.length : Int) ((p.length : Int) + (s1.length : Int)) (zs (p ++ a :: (s1 ++ s2))) = some (.exit (((p.length : Int) + 1 + (t1.length : Int)), zs (p ++ a :: (s1 ++ s2)), ()))
  | 0, p, a, s1, s2, _, h, _, ⟨x, hx, _⟩ => by cases s1 with | nil => cases hx | cons _ _ => simp at h
  | m + 1, p, a, s1, s2, h1, h2, h3, h4 => by
    rcases snoc_cases s1 with rfl | ⟨s, b, rfl⟩
    · obtain ⟨x, hx, _⟩ := h4; cases hx
    · simp only [l13_11]
      simp only [List.length_append, List.length_cons, List.length_nil] at h1 h2 ⊢
      have kl : (zs (p ++ a :: (s ++ [b] ++ s2))).length = p.length + s.length + s2.length + 2 := by rw [length_zs]; simp; omega
      have k1 : (zs (p ++ a :: (s ++ [b] ++ s2))).getD p.length 0 = (a : Int) := by rw [getD_zs, getD_mid]
      have k2 : (zs (p ++ a :: (s ++ [b] ++ s2))).getD (p.length + s.length + 1) 0 = (b : Int) := by
        rw [getD_zs, show p ++ a :: (s ++ [b] ++ s2) = (p ++ a :: s) ++ b :: s2 by simp, show p.length + s.length + 1 = (p ++ a :: s).length by simp; omega, getD_mid]
      rw [kl, if_pos (by omega), if_pos (by omega), if_pos (by omega), if_pos (by omega), Int.toNat_natCast, k1, show ((p.length : Int) + ((s.length + (0 + 1) : Nat) : Int)).toNat = p.length + s.length + 1 by omega, k2, w64 _ (by omega) (by omega)]
      by_cases h : b ≤ a
      · rw [if_pos (by simpa using h)]
        have ih := l11_all m p a s (b :: s2) (by simp; omega) (by omega) (by
          intro x hx
          rcases List.mem_cons.1 hx with rfl | hx
          · exact h
          · exact h3 x hx) (by
          obtain ⟨x, hx, hg⟩ := h4
          refine ⟨x, ?_, hg⟩
          rcases List.mem_append.1 hx with hx | hx
          · exact hx
          · have : x = b := by simpa using hx
            omega)
        rw [show s ++ [b] ++ s2 = s ++ b :: s2 by simp, show (p.length : Int) + ((s.length + (0 + 1) : Nat) : Int) - 1 = (p.length : Int) + (s.length : Int) by omega]
        exact ih
      · rw [if_neg (by simp; omega)]
        refine ⟨s, b, s2, by simp, by omega, h3, ?_⟩
        rw [show (p.length : Int) + ((s.length + (0 + 1) : Nat) : Int) = (p.length : Int) + 1 + (s.length : Int) by omega]

/-! The ranks of what ascends, of what descends, and of what begins alike. -/
theorem sumTo_zero {f : Nat → Nat} : ∀ n, (∀ i, i < n → f i = 0) → sumTo n f = 0
  | 0, _ => rfl
  | n + 1, h => by simp only [sumTo]; rw [sumTo_zero n fun i hi => h i (by omega), h n (by omega)]
theorem sumTo_stop {f : Nat → Nat} {a : Nat} : ∀ n, a ≤ n → (∀ i, a ≤ i → i < n → f i = 0) → sumTo n f = sumTo a f
  | 0, h, _ => by obtain rfl : a = 0 := by omega
                  rfl
  | n + 1, h, g => by
    by_cases e : a = n + 1
    · rw [e]
    · simp only [sumTo]
      rw [sumTo_stop n (by omega) fun i h1 h2 => g i h1 (by omega), g n (by omega) (by omega), Nat.add_zero]
theorem term_zero {k : Nat} {f : Nat → Nat} {c : Nat} (h : f c = 0) : term k f c = 0 := by unfold term; rw [if_pos h]
theorem cnt_zero {l : List Nat} {c : Nat} (h : c ∉ l) : cnt l c = 0 := List.count_eq_zero.2 h
theorem rank_cons' (k c : Nat) (ks : List Nat) : rank k (c :: ks) = ahead k (cnt (c :: ks)) c + rank k ks := rfl

theorem rank_up : ∀ (l : List Nat), l.Pairwise (· ≤ ·) → rank 7 l = 0
  | [], _ => rfl
  | c :: l, h => by
    obtain ⟨h1, h2⟩ := List.pairwise_cons.1 h
    rw [rank_cons', rank_up l h2]
    unfold ahead
    rw [sumTo_zero c fun i hi => term_zero (cnt_zero fun hm => by
      rcases List.mem_cons.1 hm with rfl | hm
      · omega
      · have := h1 i hm; omega)]

theorem rank_down : ∀ (l : List Nat), (∀ c, c ∈ l → c < 7) → l.Pairwise (· ≥ ·) → rank 7 l + 1 = many (vec 7 (cnt l))
  | [], _, _ => rfl
  | c :: l, hv, h => by
    obtain ⟨h1, h2⟩ := List.pairwise_cons.1 h
    have hs : 0 < sumTo 7 (cnt (c :: l)) := by rw [sum_cnt _ _ hv]; simp
    have ih := rank_down l (fun d hd => hv d (List.mem_cons_of_mem _ hd)) h2
    rw [rank_cons', ← many_terms 7 _ hs, sumTo_stop (a := c + 1) 7 (hv c (List.mem_cons_self ..)) fun i g1 g2 => term_zero (cnt_zero fun hm => by
      rcases List.mem_cons.1 hm with rfl | hm
      · omega
      · have := h1 i hm; omega)]
    show ahead 7 (cnt (c :: l)) c + rank 7 l + 1 = sumTo c (term 7 (cnt (c :: l))) + term 7 (cnt (c :: l)) c
    rw [term_cons]
    unfold ahead
    omega

theorem cnt_append (a b : List Nat) (c : Nat) : cnt (a ++ b) c = cnt a c + cnt b c := List.count_append ..
theorem rank_pre : ∀ (p x y : List Nat), cnt x = cnt y → rank 7 (p ++ x) + rank 7 y = rank 7 (p ++ y) + rank 7 x
  | [], x, y, _ => by simp only [List.nil_append]; omega
  | c :: p, x, y, h => by
    have ih := rank_pre p x y h
    have e : cnt (c :: (p ++ x)) = cnt (c :: (p ++ y)) := by
      funext d
      rw [← List.cons_append, ← List.cons_append, cnt_append, cnt_append, h]
    rw [List.cons_append, List.cons_append, rank_cons', rank_cons', e]
    omega

theorem rank_next (p : List Nat) (a : Nat) (t1 : List Nat) (b : Nat) (t2 : List Nat) (hv : ∀ c, c ∈ p ++ a :: (t1 ++ b :: t2) → c < 7) (hp : (t1 ++ b :: t2).Pairwise (· ≥ ·)) (hab : a < b) (h2 : ∀ x, x ∈ t2 → x ≤ a) :
    rank 7 (p ++ b :: (t1 ++ a :: t2).reverse) = rank 7 (p ++ a :: (t1 ++ b :: t2)) + 1 := by
  have e : cnt (b :: (t1 ++ a :: t2).reverse) = cnt (a :: (t1 ++ b :: t2)) := by
    funext d
    unfold cnt
    simp only [List.count_cons, List.count_append, List.count_reverse]
    omega
  have h := rank_pre p _ _ e
  obtain ⟨q1, q2, q3⟩ := List.pairwise_append.1 hp
  obtain ⟨q4, q5⟩ := List.pairwise_cons.1 q2
  have hup : (t1 ++ a :: t2).reverse.Pairwise (· ≤ ·) := by
    rw [List.pairwise_reverse]
    refine List.pairwise_append.2 ⟨q1, List.pairwise_cons.2 ⟨h2, q5⟩, fun x hx y hy => ?_⟩
    have hb := q3 x hx b (List.mem_cons_self ..)
    rcases List.mem_cons.1 hy with rfl | hy
    · show y ≤ x
      omega
    · exact q3 x hx y (List.mem_cons_of_mem _ hy)
  have hb7 : b < 7 := hv b (by simp)
  have hdown := rank_down (t1 ++ b :: t2) (fun c hc => hv c (by simp at hc ⊢; simp [hc])) hp
  have hst : sumTo b (term 7 (cnt (a :: (t1 ++ b :: t2)))) = sumTo (a + 1) (term 7 (cnt (a :: (t1 ++ b :: t2)))) := sumTo_stop b hab fun i g1 g2 => term_zero (cnt_zero fun hm => by
    rcases List.mem_cons.1 hm with rfl | hm
    · omega
    · rcases List.mem_append.1 hm with hm | hm
      · have := q3 i hm b (List.mem_cons_self ..); omega
      · rcases List.mem_cons.1 hm with rfl | hm
        · omega
        · have := h2 i hm; omega)
  rw [rank_cons', rank_cons', e, rank_up _ hup] at h
  unfold ahead at h
  rw [hst] at h
  simp only [sumTo, term_cons] at h
  omega

theorem f13_ok {ks : List Nat} (h : Valid ks) : (f13 fuel (zs ks) = some ([], 8) ∧ ks.Pairwise (· ≥ ·)) ∨ ∃ nx, f13 fuel (zs ks) = some (zs nx, 0) ∧ Valid nx ∧ rank 7 nx = rank 7 ks + 1 := by
  have hl := h.1
  have hf := fuel100
  unfold f13
  rw [f15_ok fuel fuel100 h, Option.bind_some, if_neg (by simp), f19s_ok _ hl, Option.bind_some, length_zs]
  rcases snoc_cases ks with rfl | ⟨q, z, rfl⟩
  · left
    refine ⟨?_, List.Pairwise.nil⟩
    obtain ⟨m, hm⟩ := fuel_split (n := 1) (by decide)
    rw [hm]
    rfl
  · simp only [List.length_append, List.length_cons, List.length_nil] at hl
    have k6 := l6_all fuel q [z] (by simp; omega) (by omega) (by simp) (List.pairwise_singleton ..)
    rw [show IntKind.i64.wrap (((q ++ [z]).length : Int) - 2) = (q.length : Int) - 1 by rw [w64 _ (by omega) (by simp; omega)]; simp; omega]
    rcases k6 with ⟨g, hp⟩ | ⟨p, a, s, e, g, hp, b0, t0, e0, hab0⟩
    · left
      rw [g]
      exact ⟨rfl, hp⟩
    · right
      have hlen : p.length + s.length ≤ 15 := by
        have := congrArg List.length e
        simp at this
        omega
      obtain ⟨t1, b, t2, es, hab, h2, g11⟩ := l11_all fuel p a s [] (by simp; omega) (by omega) (by simp) ⟨b0, by rw [e0]; exact List.mem_cons_self .., hab0⟩
      rw [List.append_nil] at es g11
      rw [e] at g h ⊢
      rw [g]
      simp only
      rw [if_neg (by simp), length_zs, show IntKind.i64.wrap (((p ++ a :: s).length : Int) - 1) = (p.length : Int) + (s.length : Int) by rw [w64 _ (by omega) (by simp; omega)]; simp; omega, g11]
      subst es
      simp only [List.length_append, List.length_cons] at hlen
      have kl : (zs (p ++ a :: (t1 ++ b :: t2))).length = p.length + t1.length + t2.length + 2 := by rw [length_zs]; simp; omega
      have ka : (zs (p ++ a :: (t1 ++ b :: t2))).getD p.length 0 = (a : Int) := by rw [getD_zs, getD_mid]
      have en : ((p.length : Int) + 1 + (t1.length : Int)).toNat = (p ++ a :: t1).length := by simp; omega
      have kb : (zs (p ++ a :: (t1 ++ b :: t2))).getD (p ++ a :: t1).length 0 = (b : Int) := by
        rw [getD_zs, show p ++ a :: (t1 ++ b :: t2) = (p ++ a :: t1) ++ b :: t2 by simp, getD_mid]
      have ks1 : ((zs (p ++ a :: (t1 ++ b :: t2))).set p.length (b : Int)).set (p ++ a :: t1).length (a : Int) = zs (p ++ b :: (t1 ++ a :: t2)) := by
        rw [set_zs, set_mid, set_zs, show (p ++ a :: t1).length = (p ++ b :: t1).length by simp, show p ++ b :: (t1 ++ b :: t2) = (p ++ b :: t1) ++ b :: t2 by simp, set_mid]
        simp
      refine ⟨p ++ b :: (t1 ++ a :: t2).reverse, ?_, ⟨by simp; omega, fun c hc => h.2 c ?_⟩, rank_next p a t1 b t2 h.2 hp hab h2⟩
      rotate_left
      · simp only [List.mem_append, List.mem_cons, List.mem_reverse] at hc ⊢
        rcases hc with h | h | h | h | h <;> simp [h]
      have c1 : (0 : Int) ≤ (p.length : Int) + 1 + (t1.length : Int) := by omega
      have c2 : (p.length : Int) + 1 + (t1.length : Int) < ((p.length + t1.length + t2.length + 2 : Nat) : Int) := by omega
      have c3 : (0 : Int) ≤ (p.length : Int) := by omega
      have c4 : (p.length : Int) < ((p.length + t1.length + t2.length + 2 : Nat) : Int) := by omega
      have c5 : IntKind.i64.wrap ((p.length : Int) + 1) = ((p.length + 1 : Nat) : Int) := by rw [w64 _ (by omega) (by omega)]; omega
      simp only
      rw [kl]
      rw [if_pos (by exact c1), if_pos (by exact c2), if_pos (by exact c3), if_pos (by exact c4), if_pos (by exact c3), if_pos (by exact c4), if_pos (by exact c1), List.length_set, kl, if_pos (by exact c2),
        c5, if_pos (by omega), Int.toNat_natCast, Int.toNat_natCast, en, ka, kb, ks1]
      have kl2 : (zs (p ++ b :: (t1 ++ a :: t2))).length = p.length + t1.length + t2.length + 2 := by rw [length_zs]; simp; omega
      rw [kl2, if_pos (by omega)]
      have hr := rev_all fuel (zs (p ++ [b])) [] (zs (t1 ++ a :: t2)) [] rfl (by rw [length_zs]; simp; omega) (by rw [length_zs, length_zs]; simp; omega)
      have hr : l22_13_1 fuel (p.length + 1) (p.length + t1.length + t2.length + 2 - (p.length + 1)) 0 (IntKind.i64.wrap (((p.length + t1.length + t2.length + 2 - (p.length + 1) : Nat) : Int) - 1)) (zs (p ++ b :: (t1 ++ a :: t2))) = some (.exit (zs (p ++ b :: (t1 ++ a :: t2).reverse), ())) := by
        rw [w64 _ (by omega) (by omega)]
        have z1 : (zs (p ++ [b])).length = p.length + 1 := by rw [length_zs]; simp
        have z2 : (zs (t1 ++ a :: t2)).length = t1.length + t2.length + 1 := by rw [length_zs]; simp; omega
        have z3 : zs (p ++ [b]) ++ zs (t1 ++ a :: t2) = zs (p ++ b :: (t1 ++ a :: t2)) := by simp [zs]
        have z4 : zs (p ++ [b]) ++ (zs (t1 ++ a :: t2)).reverse = zs (p ++ b :: (t1 ++ a :: t2).reverse) := by simp [zs]
        rw [List.append_nil, List.append_nil, List.nil_append, List.nil_append, z1, z2, z3, z4] at hr
        rw [show p.length + t1.length + t2.length + 2 - (p.length + 1) = ([] : List Int).length + (t1.length + t2.length + 1) + ([] : List Int).length by simp; omega]
        rw [show (((([] : List Int).length + (t1.length + t2.length + 1) + ([] : List Int).length : Nat) : Int) - 1) = ((([] : List Int).length : Int) + ((t1.length + t2.length + 1 : Nat) : Int) - 1) by simp]
        exact hr
      rw [hr]

theorem f13_bad {l : List Int} {e : Int} (h0 : e ≠ 0) (h : f15 fuel l = some e) : f13 fuel l = some ([], e) := by
  unfold f13
  rw [h, Option.bind_some, if_pos (by simpa using h0)]

theorem indexNexts_plain : ∀ x : List Int, WfL [.slice (.int .i64)] x → f4 fuel x = some true := by
  intro x _
  unfold f4
  rw [f6_true]
  simp only [Option.bind_some]
  rw [if_neg (by simp)]
  rcases f15_spec fuel fuel100 x with ⟨e, h0, h⟩ | ⟨_, ks, rfl, h⟩
  · rw [f7_bad h0 h, f8_bad h0 h, f13_bad h0 h]
    simp [h0]
  · have hr := rank_lt 7 ks h.2
    have hm := many_cnt_small h
    rw [f7_ok h, f8_ok h]
    simp only [Option.bind_some]
    rw [f9_ok h]
    simp only [Option.bind_some]
    rw [f11_two]
    rcases f13_ok h with ⟨g, hp⟩ | ⟨nx, g, hv, hn⟩
    · have := rank_down ks h.2 hp
      rw [g]
      simp only [Option.bind_some]
      rw [if_neg (by simp), if_neg (by simp), if_pos (by simp), w64 _ (by omega) (by omega), if_pos (by simp; omega)]
      rfl
    · rw [g]
      simp only [Option.bind_some]
      rw [if_neg (by simp), if_neg (by simp), if_neg (by simp), f7_ok hv, w64 _ (by omega) (by omega), hn]
      simp
end Go.Proofs.Ytpcmofalfjgmmaa
