/- Rank and Unrank. -/
import Derived.Test.YtpcmofalfjgmmaaL
namespace Go.Proofs.Ytpcmofalfjgmmaa
open Go Vm

theorem fuel100 : 100 ≤ fuel := fuel_ge (by decide)
theorem upd_self (f : Nat → Nat) (c : Nat) : upd f c (f c) = f := by
  funext i; unfold upd; split
  · rename_i e; rw [e]
  · rfl
theorem upd_upd (f : Nat → Nat) (c x y : Nat) : upd (upd f c x) c y = upd f c y := by
  funext i; unfold upd; split <;> rfl
theorem upd_at (f : Nat → Nat) (c x : Nat) : upd f c x c = x := by simp [upd]

theorem sum_dec_le {f : Nat → Nat} {j : Nat} (h : sumTo 7 f ≤ 16) : sumTo 7 (upd f j (f j - 1)) ≤ 16 := by
  refine Nat.le_trans ?_ h
  have : ∀ n, sumTo n (upd f j (f j - 1)) ≤ sumTo n f := by
    intro n
    induction n with
    | zero => exact Nat.le_refl _
    | succ n ih =>
      simp only [sumTo]
      have : upd f j (f j - 1) n ≤ f n := by
        unfold upd; split
        · rename_i e; subst e; omega
        · exact Nat.le_refl _
      omega
  exact this 7

theorem le_sum (f : Nat → Nat) {j : Nat} (hj : j < 7) (h : sumTo 7 f ≤ 16) : f j ≤ 16 := by
  have : ∀ n, j < n → f j ≤ sumTo n f := by
    intro n
    induction n with
    | zero => intro h; omega
    | succ n ih =>
      intro hn
      simp only [sumTo]
      by_cases e : j = n
      · subst e; omega
      · have := ih (by omega); omega
  exact Nat.le_trans (this 7 hj) h

theorem f18_vec {f : Nat → Nat} (h : sumTo 7 f ≤ 16) : f18 fuel (zs (vec 7 f)) = some ((many (vec 7 f) : Nat) : Int) :=
  f18_ok fuel fuel100 (by rw [vec_length]; omega) (by rw [vec_sum]; exact h)

theorem l7_10_all (f : Nat → Nat) (hs : sumTo 7 f ≤ 16) (c : Nat) (hc : c ≤ 7) (out : Nat) (hb : out + sumTo c (term 7 f) ≤ 20922789888000) : ∀ (m j : Nat), j ≤ c → c < m + j →
    l7_10 m ((out + sumTo j (term 7 f) : Nat) : Int) (c : Int) (j : Int) (zs (vec 7 f)) = some (.exit (((out + sumTo c (term 7 f) : Nat) : Int), zs (vec 7 f), ()))
  | 0, j, h1, h2 => by omega
  | m + 1, j, h1, h2 => by
    simp only [l7_10]
    by_cases hj : j < c
    · have hm := sumTo_mono (f := term 7 f) (show j + 1 ≤ c from hj)
      have hstep : sumTo (j + 1) (term 7 f) = sumTo j (term 7 f) + term 7 f j := rfl
      have ih := l7_10_all f hs c hc out hb m (j + 1) (by omega) (by omega)
      have hfj := le_sum f (show j < 7 by omega) hs
      rw [if_pos (by simpa using hj), if_pos (by omega), length_zs, vec_length, if_pos (by omega), Int.toNat_natCast, getD_zs, vec_getD _ _ _ (by omega), w64 ((j : Int) + 1) (by omega) (by omega),
        show ((j : Int) + 1) = ((j + 1 : Nat) : Int) by omega]
      by_cases hf : 0 < f j
      · have hterm : term 7 f j = many (vec 7 (upd f j (f j - 1))) := by unfold term; rw [if_neg (by omega)]
        rw [if_pos (by simpa using hf), if_pos (by omega), if_pos (by omega), if_pos (by omega), if_pos (by omega), w64 ((f j : Int) - 1) (by omega) (by omega), show ((f j : Int) - 1) = ((f j - 1 : Nat) : Int) by omega, set_zs, vec_set,
          f18_vec (sum_dec_le hs), Option.bind_some, length_zs, vec_length, if_pos (by omega), if_pos (by omega), if_pos (by omega), if_pos (by omega), getD_zs, vec_getD _ _ _ (by omega), upd_at, w64 (((f j - 1 : Nat) : Int) + 1) (by omega) (by omega),
          show (((f j - 1 : Nat) : Int) + 1) = ((f j : Nat) : Int) by omega, set_zs, vec_set, upd_upd, upd_self, w64 _ (by omega) (by omega), ← hterm]
        rw [hstep] at ih
        rw [show ((out + sumTo j (term 7 f) : Nat) : Int) + ((term 7 f j : Nat) : Int) = ((out + (sumTo j (term 7 f) + term 7 f j) : Nat) : Int) by omega]
        exact ih
      · have hterm : term 7 f j = 0 := by unfold term; rw [if_pos (by omega)]
        rw [if_neg (by simpa using hf)]
        rw [hstep, hterm, Nat.add_zero] at ih
        exact ih
    · obtain rfl : j = c := by omega
      rw [if_neg (by simp)]

theorem rank_drop {ks : List Nat} {i : Nat} (hi : i < ks.length) : rank 7 (ks.drop i) = sumTo ks[i] (term 7 (cnt (ks.drop i))) + rank 7 (ks.drop (i + 1)) := by
  rw [List.drop_eq_getElem_cons hi]
  rfl

theorem sum_drop {ks : List Nat} (h : Valid ks) (i : Nat) : sumTo 7 (cnt (ks.drop i)) ≤ 16 := by
  rw [sum_cnt _ _ fun c hc => h.2 c (List.mem_of_mem_drop hc), List.length_drop]
  have := h.1; omega

theorem l7_7_all (ks : List Nat) (h : Valid ks) : ∀ (m i out : Nat), i ≤ ks.length → ks.length + 20 < m + i → out + rank 7 (ks.drop i) ≤ 20922789888000 →
    l7_7 m (out : Int) (zs ks) (ks.length : Int) (i : Int) (zs (vec 7 (cnt (ks.drop i)))) = some (.exit (((out + rank 7 (ks.drop i) : Nat) : Int), zs (vec 7 (cnt [])), ()))
  | 0, i, out, h1, h2, _ => by omega
  | m + 1, i, out, h1, h2, hb => by
    simp only [l7_7]
    have hl := h.1
    by_cases hi : i < ks.length
    · have hc := h.2 ks[i] (List.getElem_mem hi)
      rw [rank_drop hi] at hb ⊢
      have hin := l7_10_all (cnt (ks.drop i)) (sum_drop h i) ks[i] (by omega) out (by omega) m 0 (by omega) (by omega)
      simp only [sumTo, Nat.add_zero] at hin
      have hin : l7_10 m (out : Int) (ks[i] : Int) 0 (zs (vec 7 (cnt (ks.drop i)))) = _ := hin
      have hcnt : upd (cnt (ks.drop i)) ks[i] (cnt (ks.drop i) ks[i] - 1) = cnt (ks.drop (i + 1)) := by
        rw [List.drop_eq_getElem_cons hi]
        exact (cnt_cons _ _).symm
      have hpos : 0 < cnt (ks.drop i) ks[i] := by rw [List.drop_eq_getElem_cons hi]; exact cnt_self _ _
      have hle := le_sum _ hc (sum_drop h i)
      rw [if_pos (by simpa using hi), if_pos (by omega), length_zs, if_pos (by omega), Int.toNat_natCast, getD_zs, getD_eq ks i 0 hi, hin]
      simp only
      rw [length_zs, vec_length, if_pos (by omega), if_pos (by omega), if_pos (by omega), if_pos (by omega), Int.toNat_natCast, getD_zs, vec_getD _ _ _ hc, w64 ((i : Int) + 1) (by omega) (by omega), w64 _ (by omega) (by omega),
        show ((cnt (ks.drop i) ks[i] : Nat) : Int) - 1 = ((cnt (ks.drop i) ks[i] - 1 : Nat) : Int) by omega, set_zs, vec_set, hcnt, show ((i : Int) + 1) = ((i + 1 : Nat) : Int) by omega, l7_7_all ks h m (i + 1) _ (by omega) (by omega) (by omega), Nat.add_assoc]
    · rw [if_neg (by simpa using hi), List.drop_of_length_le (by omega)]
      rfl

theorem sum_all {ks : List Nat} (h : Valid ks) : sumTo 7 (cnt ks) ≤ 16 := by
  have := sum_drop h 0
  rwa [List.drop_zero] at this
theorem many_cnt_small {ks : List Nat} (h : Valid ks) : many (vec 7 (cnt ks)) ≤ 20922789888000 := many_small (by rw [vec_sum]; exact sum_all h)

theorem f7_ok {ks : List Nat} (h : Valid ks) : f7 fuel (zs ks) = some (((rank 7 ks : Nat) : Int), 0) := by
  unfold f7
  have hr := rank_lt 7 ks h.2
  have hm := many_cnt_small h
  have := l7_7_all ks h fuel 0 0 (by omega) (by have := h.1; have := fuel100; omega) (by rw [List.drop_zero]; omega)
  rw [List.drop_zero] at this
  have this : l7_7 fuel 0 (zs ks) (ks.length : Int) 0 (zs (vec 7 (cnt ks))) = _ := this
  rw [f15_ok fuel fuel100 h, Option.bind_some, if_neg (by simp), f17_ok fuel fuel100 h, Option.bind_some, length_zs, this]
  simp

theorem f8_ok {ks : List Nat} (h : Valid ks) : f8 fuel (zs ks) = some (zs (vec 7 (cnt ks)), 0) := by
  unfold f8
  rw [f15_ok fuel fuel100 h, Option.bind_some, if_neg (by simp), f17_ok fuel fuel100 h, Option.bind_some]

theorem f9_ok {ks : List Nat} (h : Valid ks) : f9 fuel (zs (vec 7 (cnt ks))) = some (((many (vec 7 (cnt ks)) : Nat) : Int), 0) := by
  unfold f9
  rw [f16_ok fuel fuel100 (vec_length ..) (by rw [vec_sum]; exact sum_all h), Option.bind_some, if_neg (by simp), f18_vec (sum_all h), Option.bind_some]

/-! Unrank. -/
theorem l10_9_all (v : List Nat) (hv : v.sum ≤ 16) (hl : v.length ≤ 16) : ∀ (m i s : Nat), i ≤ v.length → v.length < m + i → s + (v.drop i).sum ≤ 16 →
    l10_9 m (s : Int) (zs v) (v.length : Int) (i : Int) = some (.exit (((s + (v.drop i).sum : Nat) : Int), ()))
  | 0, i, s, h1, h2, _ => by omega
  | m + 1, i, s, h1, h2, h4 => by
    simp only [l10_9]
    by_cases hi : i < v.length
    · have e : (v.drop i).sum = v[i] + (v.drop (i + 1)).sum := by rw [List.drop_eq_getElem_cons hi, List.sum_cons]
      rw [if_pos (by simpa using hi), if_pos (by omega), length_zs, if_pos (by omega), Int.toNat_natCast, getD_zs, getD_eq v i 0 hi, w64 _ (by omega) (by omega), w64 _ (by omega) (by omega),
        show ((s : Int) + (v[i] : Nat)) = ((s + v[i] : Nat) : Int) by omega, show ((i : Int) + 1) = ((i + 1 : Nat) : Int) by omega, l10_9_all v hv hl m (i + 1) (s + v[i]) (by omega) (by omega) (by omega), e]
      congr 4
      omega
    · rw [if_neg (by simpa using hi), List.drop_of_length_le (by omega)]
      simp

/-- The kind that comes next is found. -/
theorem l10_17_all (f : Nat → Nat) (hs : sumTo 7 f ≤ 16) (c : Nat) (hc : c < 7) (hfc : 0 < f c) (r : Nat) (hr : r < term 7 f c) (hb : sumTo c (term 7 f) + r ≤ 20922789888000) (out : List Int) (ho : out.length < 16) : ∀ (m j n : Nat), j ≤ c → c < m + j →
    n + sumTo j (term 7 f) = sumTo c (term 7 f) + r →
    l10_17 m (n : Int) 7 (j : Int) (zs (vec 7 f)) out = some (.exit ((r : Int), zs (vec 7 (upd f c (f c - 1))), out ++ [(c : Int)], ()))
  | 0, j, n, h1, h2, _ => by omega
  | m + 1, j, n, h1, h2, hn => by
    simp only [l10_17]
    have hstep : sumTo (j + 1) (term 7 f) = sumTo j (term 7 f) + term 7 f j := rfl
    have hfj := le_sum f (show j < 7 by omega) hs
    rw [if_pos (by simp; omega), if_pos (by omega), length_zs, vec_length, if_pos (by omega), Int.toNat_natCast, getD_zs, vec_getD _ _ _ (by omega), w64 ((j : Int) + 1) (by omega) (by omega),
      show ((j : Int) + 1) = ((j + 1 : Nat) : Int) by omega]
    by_cases hj : j < c
    · have hm := sumTo_mono (f := term 7 f) (show j + 1 ≤ c from hj)
      by_cases hf : 0 < f j
      · have hterm : term 7 f j = many (vec 7 (upd f j (f j - 1))) := by unfold term; rw [if_neg (by omega)]
        have ih := l10_17_all f hs c hc hfc r hr hb out ho m (j + 1) (n - term 7 f j) (by omega) (by omega) (by omega)
        rw [if_neg (by simp; omega), if_pos (by omega), if_pos (by omega), if_pos (by omega), if_pos (by omega), w64 ((f j : Int) - 1) (by omega) (by omega), show ((f j : Int) - 1) = ((f j - 1 : Nat) : Int) by omega, set_zs, vec_set,
          f18_vec (sum_dec_le hs), Option.bind_some, ← hterm, if_pos (by simp; omega), length_zs, vec_length, if_pos (by omega), if_pos (by omega), if_pos (by omega), if_pos (by omega), getD_zs, vec_getD _ _ _ (by omega), upd_at, w64 (((f j - 1 : Nat) : Int) + 1) (by omega) (by omega),
          show (((f j - 1 : Nat) : Int) + 1) = ((f j : Nat) : Int) by omega, set_zs, vec_set, upd_upd, upd_self, w64 _ (by omega) (by omega),
          show ((n : Nat) : Int) - ((term 7 f j : Nat) : Int) = ((n - term 7 f j : Nat) : Int) by omega]
        exact ih
      · have hterm : term 7 f j = 0 := by unfold term; rw [if_pos (by omega)]
        have ih := l10_17_all f hs c hc hfc r hr hb out ho m (j + 1) n (by omega) (by omega) (by omega)
        rw [if_pos (by simp; omega)]
        exact ih
    · obtain rfl : j = c := by omega
      have hterm : term 7 f j = many (vec 7 (upd f j (f j - 1))) := by unfold term; rw [if_neg (by omega)]
      rw [if_neg (by simp; omega), if_pos (by omega), if_pos (by omega), if_pos (by omega), if_pos (by omega), w64 ((f j : Int) - 1) (by omega) (by omega), show ((f j : Int) - 1) = ((f j - 1 : Nat) : Int) by omega, set_zs, vec_set,
          f18_vec (sum_dec_le hs), Option.bind_some, ← hterm, if_neg (by simp; omega), if_pos (by omega), show n = r by omega]

theorem term_drop {ks : List Nat} {i : Nat} (hi : i < ks.length) : term 7 (cnt (ks.drop i)) ks[i] = many (vec 7 (cnt (ks.drop (i + 1)))) := by
  rw [List.drop_eq_getElem_cons hi]; exact term_cons 7 _ _

theorem l10_15_all (ks : List Nat) (h : Valid ks) : ∀ (m i : Nat), i ≤ ks.length → ks.length + 20 < m + i →
    l10_15 m ((rank 7 (ks.drop i) : Nat) : Int) (ks.length : Int) (i : Int) (zs (vec 7 (cnt (ks.drop i)))) (zs (ks.take i)) = some (.exit (zs ks, zs (vec 7 (cnt [])), ()))
  | 0, i, h1, h2 => by omega
  | m + 1, i, h1, h2 => by
    simp only [l10_15]
    have hl := h.1
    by_cases hi : i < ks.length
    · have hc := h.2 ks[i] (List.getElem_mem hi)
      have hpos : 0 < cnt (ks.drop i) ks[i] := by rw [List.drop_eq_getElem_cons hi]; exact cnt_self _ _
      have hv : Valid (ks.drop i) := ⟨by rw [List.length_drop]; omega, fun c hc => h.2 c (List.mem_of_mem_drop hc)⟩
      have hlt := rank_lt 7 (ks.drop i) hv.2
      have hsm := many_cnt_small hv
      have hlt2 := rank_lt 7 (ks.drop (i + 1)) fun c hc => h.2 c (List.mem_of_mem_drop hc)
      rw [rank_drop hi] at hlt ⊢
      have hin := l10_17_all (cnt (ks.drop i)) (sum_drop h i) ks[i] hc hpos (rank 7 (ks.drop (i + 1))) (by rw [term_drop hi]; exact hlt2) (by omega) (zs (ks.take i)) (by rw [length_zs, List.length_take]; omega) m 0 _ (by omega) (by omega) rfl
      have hcnt : upd (cnt (ks.drop i)) ks[i] (cnt (ks.drop i) ks[i] - 1) = cnt (ks.drop (i + 1)) := by
        rw [List.drop_eq_getElem_cons hi]
        exact (cnt_cons _ _).symm
      have htk : zs (ks.take i) ++ [(ks[i] : Int)] = zs (ks.take (i + 1)) := by
        rw [List.take_succ_eq_append_getElem hi, zs, zs, List.map_append]; rfl
      rw [if_pos (by simpa using hi), length_zs, vec_length]
      have hin : l10_17 m ((sumTo ks[i] (term 7 (cnt (ks.drop i))) + rank 7 (ks.drop (i + 1)) : Nat) : Int) ((7 : Nat) : Int) 0 (zs (vec 7 (cnt (ks.drop i)))) (zs (ks.take i)) = _ := hin
      rw [hin]
      simp only
      rw [hcnt, htk, w64 _ (by omega) (by omega), show ((i : Int) + 1) = ((i + 1 : Nat) : Int) by omega]
      exact l10_15_all ks h m (i + 1) (by omega) (by omega)
    · rw [if_neg (by simpa using hi), List.take_of_length_le (by omega), List.drop_of_length_le (by omega)]

theorem f19s_ok (v : List Nat) (h : v.length ≤ 16) : f19s (zs v) = some (zs v) := by
  unfold f19s f19
  rw [if_neg (by simp), if_pos (by simp; omega)]
  simp

theorem f10_ok {ks : List Nat} (h : Valid ks) : f10 fuel (zs (vec 7 (cnt ks))) ((rank 7 ks : Nat) : Int) = some (zs ks, 0) := by
  unfold f10
  have hr := rank_lt 7 ks h.2
  have hsum : (vec 7 (cnt ks)).sum = ks.length := by rw [vec_sum]; exact sum_cnt ks 7 h.2
  have hl := h.1
  have h9 := l10_9_all (vec 7 (cnt ks)) (by omega) (by rw [vec_length]; omega) fuel 0 0 (by omega) (by rw [vec_length]; have := fuel100; omega) (by rw [List.drop_zero]; omega)
  rw [List.drop_zero, Nat.zero_add, hsum] at h9
  have h9 : l10_9 fuel 0 (zs (vec 7 (cnt ks))) ((vec 7 (cnt ks)).length : Int) 0 = _ := h9
  have h15 := l10_15_all ks h fuel 0 (by omega) (by have := fuel100; omega)
  rw [List.drop_zero, List.take_zero] at h15
  have h15 : l10_15 fuel _ (ks.length : Int) 0 (zs (vec 7 (cnt ks))) [] = _ := h15
  rw [f16_ok fuel fuel100 (vec_length ..) (by omega), Option.bind_some, if_neg (by simp), if_pos (by simp), f18_vec (sum_all h), Option.bind_some, if_neg (by simp; exact hr), f19s_ok _ (by rw [vec_length]; omega), Option.bind_some, length_zs, h9]
  simp only
  rw [h15]

end Go.Proofs.Ytpcmofalfjgmmaa
