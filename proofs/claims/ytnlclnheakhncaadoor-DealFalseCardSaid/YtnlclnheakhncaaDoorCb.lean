/- Shuffles and draws: the plain law of CardsBack. -/
import Derived.Test.YtnlclnheakhncaaDoorCa
namespace Go.Proofs.YtnlclnheakhncaaDoor
open Go Vm

/-! Exchanges. -/
def sw (l : List Nat) (i d : Nat) : List Nat := (l.set i (l.getD d 0)).set d (l.getD i 0)
theorem sw_length (l : List Nat) (i d : Nat) : (sw l i d).length = l.length := by simp [sw]
theorem sw_perm {l : List Nat} {i d : Nat} (hi : i < l.length) (hd : d < l.length) : (sw l i d).Perm l := by
  unfold sw
  rw [getD_eq l d 0 hd, getD_eq l i 0 hi]
  exact List.set_set_perm hi hd
theorem sw_at {l : List Nat} {i d : Nat} (hi : i < l.length) (_ : d < l.length) : (sw l i d).getD i 0 = l.getD d 0 := by
  unfold sw
  by_cases e : d = i
  · subst e; rw [getD_set_eq' _ _ _ _ (by simpa using hi)]
  · rw [getD_set_ne' _ _ _ _ _ e, getD_set_eq' _ _ _ _ hi]
theorem sw_far {l : List Nat} {i d p : Nat} (hi : p ≠ i) (hd : p ≠ d) : (sw l i d).getD p 0 = l.getD p 0 := by
  unfold sw
  rw [getD_set_ne' _ _ _ _ _ (fun e => hd e.symm), getD_set_ne' _ _ _ _ _ (fun e => hi e.symm)]
theorem sw_zs {l : List Nat} {i d : Nat} : ((zs l).set i ((zs l).getD d 0)).set d ((zs l).getD i 0) = zs (sw l i d) := by
  rw [getD_zs, getD_zs, set_zs, set_zs]; rfl

/-- Draws that fit: the one for place i is at most i. -/
def Fit : Nat → List Nat → Prop
  | _, [] => True
  | i, d :: ds => d ≤ i ∧ Fit (i - 1) ds
/-- The exchanges from place i on. -/
def shuf : Nat → List Nat → List Nat → List Nat
  | _, l, [] => l
  | i, l, d :: ds => shuf (i - 1) (sw l i d) ds

theorem shuf_perm : ∀ (ds : List Nat) (i : Nat) (l : List Nat), i < l.length → Fit i ds → (shuf i l ds).Perm l
  | [], _, _, _, _ => .refl _
  | d :: ds, i, l, hi, h => (shuf_perm ds (i - 1) _ (by rw [sw_length]; omega) h.2).trans (sw_perm hi (by have := h.1; omega))
theorem shuf_above : ∀ (ds : List Nat) (i : Nat) (l : List Nat) (p : Nat), i < p → Fit i ds → (shuf i l ds).getD p 0 = l.getD p 0
  | [], _, _, _, _, _ => rfl
  | d :: ds, i, l, p, hp, h => by
    have h1 := h.1
    show (shuf (i - 1) (sw l i d) ds).getD p 0 = _
    rw [shuf_above ds (i - 1) _ p (by omega) h.2, sw_far (by omega) (by omega)]

theorem eq_of_getD {a b : List Nat} (hl : a.length = b.length) (h : ∀ p, p < a.length → a.getD p 0 = b.getD p 0) : a = b := by
  apply List.ext_getElem hl
  intro i h1 h2
  have := h i h1
  rwa [getD_eq _ _ _ h1, getD_eq _ _ _ h2] at this
theorem nodup_at {l : List Nat} (h : l.Nodup) {i j : Nat} (hi : i < l.length) (hj : j < l.length) (e : l.getD i 0 = l.getD j 0) : i = j := by
  rw [getD_eq _ _ _ hi, getD_eq _ _ _ hj] at e
  by_cases h1 : i < j
  · exact absurd e (List.pairwise_iff_getElem.1 h i j hi hj h1)
  · by_cases h2 : j < i
    · exact absurd e.symm (List.pairwise_iff_getElem.1 h j i hj hi h2)
    · omega
theorem idx_at {l : List Nat} (h : l.Nodup) {d : Nat} (hd : d < l.length) (x : Int) (hx : x = ((l.getD d 0 : Nat) : Int)) : x ∈ zs l ∧ (zs l).idxOf x = d := by
  have hz : (zs l)[d]'(by rw [length_zs]; exact hd) = x := by
    rw [hx, getD_eq _ _ _ hd]; simp [zs]
  have hm : x ∈ zs l := by rw [← hz]; exact List.getElem_mem _
  refine ⟨hm, ?_⟩
  have hlt : (zs l).idxOf x < (zs l).length := List.idxOf_lt_length_iff.2 hm
  have hg : (zs l)[(zs l).idxOf x] = x := List.getElem_idxOf hlt
  rw [length_zs] at hlt
  refine nodup_at h hlt hd ?_
  have h1 : (((l.getD ((zs l).idxOf x) 0 : Nat)) : Int) = x := by
    rw [← getD_zs, getD_eq _ _ _ (by rw [length_zs]; exact hlt)]
    exact hg
  exact Int.ofNat.inj (h1.trans hx)

/-! Shuffle. -/
theorem l20_all (l : List Int) (hs : l.length < 1000) (n : Nat) (hn : n ≤ 1000) : ∀ (m i : Nat), i ≤ l.length → l.length < m + i →
    (l_cards_Fits_4 m (n : Int) l (l.length : Int) (i : Int) = some (.exit ()) ∧ ∀ j, i ≤ j → ∀ x, l[j]? = some x → 0 ≤ x ∧ x ≤ (n : Int) - 1 - j) ∨
      ((∃ e : Int, e ≠ 0 ∧ l_cards_Fits_4 m (n : Int) l (l.length : Int) (i : Int) = some (.ret (e, ()))) ∧ ∃ (j : Nat) (x : Int), l[j]? = some x ∧ ¬ (0 ≤ x ∧ x ≤ (n : Int) - 1 - j))
  | 0, i, h1, h2 => by omega
  | m + 1, i, h1, h2 => by
    simp only [l_cards_Fits_4]
    by_cases hi : i < l.length
    · have ih := l20_all l hs n hn m (i + 1) (by omega) (by omega)
      have hxi := List.getElem?_eq_getElem hi
      rw [if_pos (by simpa using hi), if_pos (by omega), if_pos (by omega), Int.toNat_natCast, getD_eq l i 0 hi, w64 ((n : Int) - 1) (by omega) (by omega), w64 _ (by omega) (by omega), w64 _ (by omega) (by omega), show ((i : Int) + 1) = ((i + 1 : Nat) : Int) by omega]
      by_cases h0 : l[i] < 0
      · rw [if_neg (by simpa using h0)]; exact .inr ⟨⟨4, by decide, rfl⟩, i, _, hxi, by omega⟩
      · rw [if_pos (by simpa using h0)]
        by_cases h5 : l[i] > (n : Int) - 1 - i
        · rw [if_pos (by simpa using h5)]; exact .inr ⟨⟨4, by decide, rfl⟩, i, _, hxi, by omega⟩
        · rw [if_neg (by simpa using h5)]
          rcases ih with ⟨g, k⟩ | g
          · refine .inl ⟨g, fun j hj x hx => ?_⟩
            by_cases e : j = i
            · subst e
              rw [List.getElem?_eq_getElem hi] at hx
              have hx := Option.some.inj hx
              exact ⟨by omega, by omega⟩
            · exact k j (by omega) x hx
          · exact .inr g
    · rw [if_neg (by simpa using hi)]
      exact .inl ⟨rfl, fun j hj x hx => by rw [List.getElem?_eq_none (by omega)] at hx; cases hx⟩

theorem fit_of : ∀ (ds : List Nat) (i : Nat), (∀ (j : Nat) (x : Nat), ds[j]? = some x → x + j ≤ i) → Fit i ds
  | [], _, _ => trivial
  | d :: ds, i, h => ⟨by have := h 0 d rfl; omega, fit_of ds (i - 1) fun j x hx => by have := h (j + 1) x hx; omega⟩
theorem of_fit : ∀ (ds : List Nat) (i : Nat), ds.length ≤ i → Fit i ds → ∀ (j : Nat) (x : Nat), ds[j]? = some x → x + j ≤ i
  | [], _, _, _, j, x, h => by cases h
  | d :: ds, i, hl, h, 0, x, hx => by cases hx; have := h.1; omega
  | d :: ds, i, hl, h, j + 1, x, hx => by
    simp only [List.length_cons] at hl
    have := of_fit ds (i - 1) (by omega) h.2 j x hx
    omega

theorem fits_ok {n : Nat} (hn : n ≤ 52) (l : List Int) : ((∃ e : Int, e ≠ 0 ∧ f_cards_Fits fuel (n : Int) l = some e) ∧ ∀ ds, l = zs ds → ds.length = n - 1 → ¬ Fit (n - 1) ds) ∨ (f_cards_Fits fuel (n : Int) l = some 0 ∧ ∃ ds, l = zs ds ∧ ds.length = n - 1 ∧ Fit (n - 1) ds) := by
  have hf := fuel100
  unfold f_cards_Fits
  have hmax : (if IntKind.i64.wrap ((n : Int) - 1) > 0 then IntKind.i64.wrap ((n : Int) - 1) else 0) = ((n - 1 : Nat) : Int) := by
    rw [w64 _ (by omega) (by omega)]
    split <;> omega
  rw [hmax]
  by_cases hl : l.length = n - 1
  · rw [if_neg (by simp; omega)]
    rcases l20_all l (by omega) n (by omega) fuel 0 (by omega) (by omega) with ⟨g, k⟩ | ⟨⟨e, h0, g⟩, j, x, hx, hb⟩
    · have g : l_cards_Fits_4 fuel (n : Int) l (l.length : Int) 0 = _ := g
      rw [g]
      obtain ⟨ds, rfl⟩ := exists_zs (l := l) fun x hx => by
        obtain ⟨j, hj, rfl⟩ := List.getElem_of_mem hx
        exact (k j (by omega) _ (List.getElem?_eq_getElem hj)).1
      rw [length_zs] at hl
      refine .inr ⟨rfl, ds, rfl, hl, fit_of ds _ fun j x hx => ?_⟩
      have := (k j (by omega) (x : Int) (by rw [List.getElem?_map, hx]; rfl)).2
      have hj : j < ds.length := (List.getElem?_eq_some_iff.1 hx).1
      omega
    · have g : l_cards_Fits_4 fuel (n : Int) l (l.length : Int) 0 = _ := g
      rw [g]
      refine .inl ⟨⟨e, h0, rfl⟩, fun ds hd hlen hfit => hb ?_⟩
      subst hd
      rw [List.getElem?_map] at hx
      simp only [Option.map_eq_some_iff] at hx
      obtain ⟨y, hy, rfl⟩ := hx
      have := of_fit ds (n - 1) (by omega) hfit j y hy
      have hj : j < ds.length := (List.getElem?_eq_some_iff.1 hy).1
      show 0 ≤ (y : Int) ∧ (y : Int) ≤ _
      omega
  · rw [if_pos (by simp; omega)]
    exact .inl ⟨⟨3, by decide, rfl⟩, fun ds hd hlen => by rw [hd, length_zs] at hl; omega⟩

theorem l7_all (ds : List Nat) (n : Nat) (hn : n ≤ 52) : ∀ (m j : Nat) (b : List Nat), b.length = n → j ≤ ds.length → ds.length < m + j → ds.length + 1 = n → Fit (n - 1 - j) (ds.drop j) →
    l_cards_Shuffle_9 m (zs ds) (ds.length : Int) (j : Int) (zs b) = some (.exit (zs (shuf (n - 1 - j) b (ds.drop j)), ()))
  | 0, j, b, _, h1, h2, _, _ => by omega
  | m + 1, j, b, hb, h1, h2, hl, hf => by
    simp only [l_cards_Shuffle_9, List.length_set]
    by_cases hj : j < ds.length
    · rw [List.drop_eq_getElem_cons hj] at hf ⊢
      obtain ⟨q0, q1⟩ := hf
      rw [length_zs, length_zs, if_pos (by simpa using hj), if_pos (by omega), if_pos (by omega), Int.toNat_natCast, getD_zs, getD_eq ds j 0 hj, w64 ((b.length : Int) - 1) (by omega) (by omega), w64 ((b.length : Int) - 1 - j) (by omega) (by omega), w64 _ (by omega) (by omega),
        show (b.length : Int) - 1 - (j : Int) = ((n - 1 - j : Nat) : Int) by omega, if_pos (by omega), if_pos (by omega), if_pos (by omega), if_pos (by omega), if_pos (by omega), if_pos (by omega), if_pos (by omega), if_pos (by omega),
        Int.toNat_natCast, Int.toNat_natCast, sw_zs, show ((j : Int) + 1) = ((j + 1 : Nat) : Int) by omega]
      have e : n - 1 - j - 1 = n - 1 - (j + 1) := by omega
      rw [e] at q1
      rw [l7_all ds n hn m (j + 1) _ (by rw [sw_length]; exact hb) (by omega) (by omega) hl q1]
      have e2 : shuf (n - 1 - j) b (ds[j] :: ds.drop (j + 1)) = shuf (n - 1 - j - 1) (sw b (n - 1 - j) ds[j]) (ds.drop (j + 1)) := rfl
      rw [e2, e]
    · rw [length_zs, if_neg (by simpa using hj), List.drop_of_length_le (by omega)]
      rfl

theorem shuffle_ok {ks ds : List Nat} (hk : Deck ks) (hl : ds.length = ks.length - 1) (hf : Fit (ks.length - 1) ds) : f_cards_Shuffle fuel (zs ks) (zs ds) = some (zs (shuf (ks.length - 1) ks ds), 0) := by
  have hF := fuel100
  have h52 := hk.1
  unfold f_cards_Shuffle
  rw [f15_ok hk, Option.bind_some, if_neg (by simp), length_zs]
  rcases fits_ok h52 (zs ds) with ⟨_, h⟩ | ⟨h, _⟩
  · exact absurd hf (h ds rfl hl)
  · rw [h, Option.bind_some, if_neg (by simp), f21s_ok _ (by rw [length_zs]; omega), Option.bind_some, length_zs]
    by_cases h0 : ks.length = 0
    · obtain rfl : ds = [] := List.length_eq_zero_iff.1 (by omega)
      obtain ⟨m, hm⟩ := fuel_split (n := 1) (by decide)
      rw [hm]
      rfl
    · have h := l7_all ds ks.length h52 fuel 0 ks rfl (by omega) (by omega) (by omega) (by rw [Nat.sub_zero, List.drop_zero]; exact hf)
      rw [Nat.sub_zero, List.drop_zero] at h
      have h : l_cards_Shuffle_9 fuel (zs ds) (ds.length : Int) 0 (zs ks) = _ := h
      rw [h]

/-! Draws. -/
theorem l8_round {to now : List Nat} (hn : now.length ≤ 52) (hl : to.length = now.length) (hd : now.Nodup) (i d : Nat) (hi : i < now.length) (hdl : d < now.length) (he : to.getD i 0 = now.getD d 0) (m : Nat) (acc : List Int) (hacc : acc.length ≤ 52) :
    l_cards_Draws_12 (m + 1) (zs to) (i : Int) (zs now) acc = l_cards_Draws_12 m (zs to) ((i : Int) - 1) (zs (sw now i d)) (if 0 < i then acc ++ [(d : Int)] else acc) := by
  simp only [l_cards_Draws_12, List.length_set]
  obtain ⟨h1, h2⟩ := idx_at hd hdl (((to.getD i 0 : Nat)) : Int) (by rw [he])
  rw [length_zs, length_zs, if_pos (by simp), if_pos (by omega), if_pos (by omega), Int.toNat_natCast, getD_zs, f22_ok _ _ (by rw [length_zs]; omega), if_pos h1, h2, Option.bind_some, if_neg (by simp), if_pos (by omega), if_pos (by omega), if_pos (by omega), if_pos (by omega), if_pos (by omega), if_pos (by omega), if_pos (by omega), if_pos (by omega),
    Int.toNat_natCast, sw_zs, w64 _ (by omega) (by omega)]
  by_cases h0 : 0 < i
  · rw [if_pos (by simpa using h0), if_pos (by omega), if_pos h0]
  · rw [if_neg (by simpa using h0), if_neg h0]

/-- The draws lead to the other deck. -/
theorem l8_to {to : List Nat} (h52 : to.length ≤ 52) : ∀ (c m : Nat) (now : List Nat) (acc : List Int), c < m → now.Perm to → now.Nodup → c ≤ now.length → (∀ p, c ≤ p → p < now.length → now.getD p 0 = to.getD p 0) → acc.length + c ≤ 52 →
    ∃ ds, l_cards_Draws_12 m (zs to) ((c : Int) - 1) (zs now) acc = some (.exit (acc ++ zs ds, zs to, ())) ∧ ds.length = c - 1 ∧ Fit (c - 1) ds ∧ shuf (c - 1) now ds = to
  | 0, 0, now, acc, h, _, _, _, _, _ => by omega
  | 0, m + 1, now, acc, _, hp, hn, _, hall, _ => by
    have e : now = to := eq_of_getD hp.length_eq fun p hp => hall p (Nat.zero_le _) hp
    refine ⟨[], ?_, rfl, trivial, e⟩
    simp only [l_cards_Draws_12]
    rw [if_neg (by simp), e]
    simp
  | c + 1, 0, now, acc, h, _, _, _, _, _ => by omega
  | c + 1, m + 1, now, acc, hm, hp, hn, hc, hall, hacc => by
    have hl := hp.length_eq
    have hmem : to.getD c 0 ∈ now := by rw [getD_eq to c 0 (by omega)]; exact hp.mem_iff.2 (List.getElem_mem _)
    obtain ⟨d, hd, hde⟩ := List.getElem_of_mem hmem
    have hde : to.getD c 0 = now.getD d 0 := by rw [getD_eq now d 0 hd]; exact hde.symm
    have hton : to.Nodup := hp.nodup_iff.1 hn
    have hdc : d ≤ c := by
      by_cases h : d ≤ c
      · exact h
      · have := hall d (by omega) hd
        rw [this] at hde
        have := nodup_at hton (by omega) (by omega) hde
        omega
    have hp2 : (sw now c d).Perm to := (sw_perm (by omega) hd).trans hp
    obtain ⟨ds, g1, g2, g3, g4⟩ := l8_to h52 c m (sw now c d) (if 0 < c then acc ++ [(d : Int)] else acc) (by omega) hp2 (hp2.nodup_iff.2 hton) (by rw [sw_length]; omega) (fun p h1 h2 => by
      rw [sw_length] at h2
      by_cases e : p = c
      · subst e; rw [sw_at (by omega) hd, hde]
      · rw [sw_far e (by omega)]; exact hall p (by omega) h2) (by split <;> (try rw [List.length_append, List.length_singleton]) <;> omega)
    rw [show ((c + 1 : Nat) : Int) - 1 = (c : Int) by omega, l8_round (by omega) hl.symm hn c d (by omega) hd hde m acc (by omega), g1]
    by_cases h0 : 0 < c
    · refine ⟨d :: ds, ?_, by simp only [List.length_cons]; omega, ⟨hdc, by rw [Nat.add_sub_cancel]; exact g3⟩, by rw [Nat.add_sub_cancel]; exact g4⟩
      rw [if_pos h0]
      simp [zs]
    · obtain rfl : c = 0 := by omega
      obtain rfl : ds = [] := List.length_eq_zero_iff.1 (by omega)
      obtain rfl : d = 0 := by omega
      refine ⟨[], ?_, rfl, trivial, ?_⟩
      · rw [if_neg h0]
      · have e : sw now 0 0 = now := by
          unfold sw
          rw [List.set_set, set_getD]
        show now = to
        rw [← e]; exact g4

theorem draws_to {ks ls : List Nat} (hk : Deck ks) (hp : ks.Perm ls) : ∃ ds, f_cards_Draws fuel (zs ks) (zs ls) = some (zs ds, 0) ∧ ds.length = ks.length - 1 ∧ Fit (ks.length - 1) ds ∧ shuf (ks.length - 1) ks ds = ls := by
  have hF := fuel100
  have hl := hp.length_eq
  have h52 := hk.1
  have hkl : Deck ls := ⟨by omega, fun c hc => hk.2.1 c (hp.mem_iff.2 hc), hp.nodup_iff.1 hk.2.2⟩
  obtain ⟨ds, g1, g2, g3, g4⟩ := l8_to (to := ls) (by omega) ks.length fuel ks [] (by omega) hp hk.2.2 (Nat.le_refl _) (fun p h1 h2 => by omega) (by simp; omega)
  refine ⟨ds, ?_, g2, g3, g4⟩
  unfold f_cards_Draws
  rw [f15_ok hk, Option.bind_some, if_neg (by simp), f15_ok hkl, Option.bind_some, if_neg (by simp), length_zs, length_zs, if_neg (by simp; omega), f21s_ok _ (by rw [length_zs]; omega), Option.bind_some, length_zs, w64 _ (by omega) (by omega), g1]
  simp

/-- The draws of a shuffled deck are those that shuffled it. -/
theorem l8_back {to : List Nat} (h52 : to.length ≤ 52) : ∀ (ds : List Nat) (m : Nat) (now : List Nat) (acc : List Int), ds.length + 1 < m → now.Nodup → ds.length < now.length → to = shuf ds.length now ds → Fit ds.length ds → acc.length + ds.length ≤ 52 →
    l_cards_Draws_12 m (zs to) (ds.length : Int) (zs now) acc = some (.exit (acc ++ zs ds, zs to, ()))
  | [], 0, now, acc, h, _, _, _, _, _ => by omega
  | [], m + 1, now, acc, h, hn, hl, he, _, hacc => by
    have e : to = now := he
    subst e
    rw [show (([] : List Nat).length : Int) = ((0 : Nat) : Int) from rfl, l8_round h52 rfl hn 0 0 hl hl rfl m acc (by simpa using hacc)]
    have e : sw to 0 0 = to := by
      unfold sw
      rw [List.set_set, set_getD]
    rw [e, if_neg (by omega)]
    obtain ⟨k, rfl⟩ : ∃ k, m = k + 1 := ⟨m - 1, by simp only [List.length_nil] at h; omega⟩
    simp only [l_cards_Draws_12]
    rw [if_neg (by simp)]
    simp
  | d :: ds, 0, now, acc, h, _, _, _, _, _ => by omega
  | d :: ds, m + 1, now, acc, h, hn, hl, he, hf, hacc => by
    simp only [List.length_cons] at h hl he hf hacc
    obtain ⟨f1, f2⟩ := hf
    rw [Nat.add_sub_cancel] at f2
    have he : to = shuf ds.length (sw now (ds.length + 1) d) ds := he
    have hd : d < now.length := by omega
    have hto : to.length = now.length := by rw [he, (shuf_perm ds _ _ (by rw [sw_length]; omega) f2).length_eq, sw_length]
    have hat : to.getD (ds.length + 1) 0 = now.getD d 0 := by
      rw [he, shuf_above ds _ _ _ (by omega) f2, sw_at hl hd]
    rw [List.length_cons, l8_round (by omega) hto hn (ds.length + 1) d hl hd hat m acc (by omega), if_pos (by omega), show ((ds.length + 1 : Nat) : Int) - 1 = (ds.length : Int) by omega,
      l8_back h52 ds m (sw now (ds.length + 1) d) _ (by omega) ((sw_perm hl hd).nodup_iff.2 hn) (by rw [sw_length]; omega) he f2 (by simp; omega)]
    simp [zs]

theorem draws_back {ks ds : List Nat} (hk : Deck ks) (hl : ds.length = ks.length - 1) (hf : Fit (ks.length - 1) ds) : f_cards_Draws fuel (zs ks) (zs (shuf (ks.length - 1) ks ds)) = some (zs ds, 0) := by
  have hF := fuel100
  have h52 := hk.1
  by_cases h0 : ks.length = 0
  · obtain rfl : ks = [] := List.length_eq_zero_iff.1 h0
    obtain rfl : ds = [] := List.length_eq_zero_iff.1 (by simpa using hl)
    show f_cards_Draws fuel [] [] = some ([], 0)
    kernel_rfl
  · have hp := shuf_perm ds (ks.length - 1) ks (by omega) hf
    have hkl : Deck (shuf (ks.length - 1) ks ds) := ⟨by rw [hp.length_eq]; exact h52, fun c hc => hk.2.1 c (hp.mem_iff.1 hc), hp.nodup_iff.2 hk.2.2⟩
    have g := l8_back (to := shuf (ks.length - 1) ks ds) (by rw [hp.length_eq]; exact h52) ds fuel ks [] (by omega) hk.2.2 (by omega) (by rw [hl]) (by rw [hl]; exact hf) (by simp; omega)
    unfold f_cards_Draws
    rw [f15_ok hk, Option.bind_some, if_neg (by simp), f15_ok hkl, Option.bind_some, if_neg (by simp), length_zs, length_zs, hp.length_eq, if_neg (by simp), f21s_ok _ (by rw [length_zs]; omega), Option.bind_some, length_zs, w64 _ (by omega) (by omega),
      show (ks.length : Int) - 1 = (ds.length : Int) by omega, g]
    simp

theorem l10_all (a b : List Int) (hl : a.length = b.length) (hs : a.length < 4611686018427387904) : ∀ (m i : Nat), i ≤ a.length → a.length < m + i →
    l_slices_Equal_int_4 m a b (a.length : Int) (i : Int) = if a.drop i = b.drop i then some (.exit ()) else some (.ret (false, ()))
  | 0, i, h1, h2 => by omega
  | m + 1, i, h1, h2 => by
    simp only [l_slices_Equal_int_4]
    by_cases hi : i < a.length
    · have hib : i < b.length := by omega
      rw [if_pos (by simpa using hi), if_pos (by omega), if_pos (by omega), if_pos (by omega), if_pos (by omega), Int.toNat_natCast, getD_eq a i 0 hi, getD_eq b i 0 hib, List.drop_eq_getElem_cons hi, List.drop_eq_getElem_cons hib]
      by_cases e : a[i] = b[i]
      · rw [if_neg (by simp [e]), w64 _ (by omega) (by omega), show ((i : Int) + 1) = ((i + 1 : Nat) : Int) by omega, l10_all a b hl hs m (i + 1) (by omega) (by omega)]
        simp only [e, List.cons.injEq, true_and]
      · rw [if_pos (by simpa using e), if_neg (fun h => e (List.cons.inj h).1)]
    · rw [if_neg (by simpa using hi), List.drop_of_length_le (by omega), List.drop_of_length_le (by omega), if_pos rfl]

theorem f10_ok (a b : List Int) (hs : a.length < 4611686018427387904) : f_slices_Equal_int fuel a b = some (decide (a = b)) := by
  unfold f_slices_Equal_int
  by_cases hl : a.length = b.length
  · have h := l10_all a b hl hs fuel 0 (by omega) (by have := fuel_ge (n := 4611686018427387904) (by decide); omega)
    have h : l_slices_Equal_int_4 fuel a b (a.length : Int) 0 = _ := h
    rw [List.drop_zero, List.drop_zero] at h
    rw [if_neg (by simp [hl]), h]
    by_cases e : a = b
    · rw [if_pos e]; simp [e]
    · rw [if_neg e]; simp [e]
  · have e : a ≠ b := fun e => hl (by rw [e])
    rw [if_pos (by simp; omega)]
    simp [e]

theorem shuffle_bad {l d : List Int} {e : Int} (h0 : e ≠ 0) (h : f_cards_Check fuel l = some e) : f_cards_Shuffle fuel l d = some ([], e) := by
  unfold f_cards_Shuffle
  rw [h, Option.bind_some, if_pos (by simpa using h0)]

end Go.Proofs.YtnlclnheakhncaaDoor
