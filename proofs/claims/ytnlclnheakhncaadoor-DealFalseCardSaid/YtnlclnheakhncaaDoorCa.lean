/- Plain facts of the functions that hands lean on: Index, Contains, Check, fine, Equal, Clone. -/
import Derived.Test.YtnlclnheakhncaaDoorPf
import Derived.Test.YtnlclnheakhncaaDoorVmD
namespace Go.Proofs.YtnlclnheakhncaaDoor
open Go Vm

theorem f6_true : f_gamehallkeep2_cardsFact fuel = some true := by kernel_rfl

theorem f11_ok (x : Int) (n : Nat) (h0 : 0 < n) (h1 : n < 1000) : ∃ b : Nat, b < n ∧ f_gamehallkeep2_pick fuel x (n : Int) = some (b : Int) := by
  unfold f_gamehallkeep2_pick
  have h4 : IntKind.u64.wrap (n : Int) = (n : Int) := Go.IntWalk.u64_in _ ⟨by omega, by omega⟩
  rw [h4, if_neg (by omega)]
  have hz : 0 ≤ IntKind.u64.wrap x := by
    unfold IntKind.wrap
    have e1 : IntKind.u64.bits = 64 := rfl
    have e2 : IntKind.u64.signed = false := rfl
    simp only [e1, e2, Bool.false_and, Bool.false_eq_true, if_false]
    exact Int.emod_nonneg _ (by decide)
  obtain ⟨m, hm⟩ : ∃ m : Nat, IntKind.u64.wrap x = (m : Int) := ⟨(IntKind.u64.wrap x).toNat, by omega⟩
  have hlt := Nat.mod_lt m h0
  rw [hm, show ((m : Int).tmod (n : Int)) = ((m % n : Nat) : Int) from (Int.ofNat_tmod m n).symm, w64 _ (by omega) (by omega)]
  exact ⟨m % n, hlt, rfl⟩

theorem fuel100 : 1000 ≤ fuel := fuel_ge (by decide)

theorem l22i_all (l : List Int) (x : Int) (hs : l.length < 4611686018427387904) : ∀ (m i : Nat), i ≤ l.length → l.length < m + i →
    l_slices_Index_int_2 m l x (l.length : Int) (i : Int) = if x ∈ l.drop i then some (.ret (((i + (l.drop i).idxOf x : Nat) : Int), ())) else some (.exit ())
  | 0, i, h1, h2 => by omega
  | m + 1, i, h1, h2 => by
    simp only [l_slices_Index_int_2]
    by_cases hi : i < l.length
    · have ih := l22i_all l x hs m (i + 1) (by omega) (by omega)
      rw [if_pos (by simpa using hi), if_pos (by omega), if_pos (by omega), Int.toNat_natCast, getD_eq l i 0 hi, List.drop_eq_getElem_cons hi, w64 _ (by omega) (by omega), show ((i : Int) + 1) = ((i + 1 : Nat) : Int) by omega, ih]
      by_cases e : x = l[i]
      · rw [if_pos (by simpa using e), if_pos (by rw [e]; exact List.mem_cons_self ..), ← e, List.idxOf_cons_self, Nat.add_zero]
      · have ne : (l[i] == x) = false := by simpa using fun h => e h.symm
        rw [if_neg (by simpa using e), List.idxOf_cons, ne, cond_false]
        simp only [List.mem_cons, e, false_or]
        split
        · congr 4; omega
        · rfl
    · rw [if_neg (by simpa using hi), List.drop_of_length_le (by omega)]
      simp

theorem f22_ok (l : List Int) (x : Int) (hs : l.length < 4611686018427387904) : f_slices_Index_int fuel l x = some (if x ∈ l then ((l.idxOf x : Nat) : Int) else -1) := by
  unfold f_slices_Index_int
  have h := l22i_all l x hs fuel 0 (by omega) (by have := fuel_ge (n := 4611686018427387904) (by decide); omega)
  rw [List.drop_zero, Nat.zero_add] at h
  have h : l_slices_Index_int_2 fuel l x (l.length : Int) 0 = _ := h
  rw [h]
  by_cases e : x ∈ l
  · rw [if_pos e, if_pos e]
  · rw [if_neg e, if_neg e]

theorem f26_ok (l : List Int) (x : Int) (hs : l.length < 4611686018427387904) : f_slices_Contains_int fuel l x = some (decide (x ∈ l)) := by
  unfold f_slices_Contains_int
  rw [f22_ok l x hs, Option.bind_some]
  by_cases e : x ∈ l
  · rw [if_pos e]; simp [e]
  · rw [if_neg e]; simp [e]

/-- A deck that Check takes. -/
def Deck (ks : List Nat) : Prop := ks.length ≤ 52 ∧ (∀ c, c ∈ ks → c < 52) ∧ ks.Nodup

theorem l15_all (l : List Int) (hl : l.length ≤ 52) : ∀ (m i : Nat), i ≤ l.length → l.length < m + i →
    (l_cards_Check_4 m l l (l.length : Int) (i : Int) = some (.exit ()) ∧ ∀ j, i ≤ j → ∀ x, l[j]? = some x → (0 ≤ x ∧ x < 52) ∧ x ∉ l.take j) ∨ ∃ e : Int, e ≠ 0 ∧ l_cards_Check_4 m l l (l.length : Int) (i : Int) = some (.ret (e, ()))
  | 0, i, h1, h2 => by omega
  | m + 1, i, h1, h2 => by
    simp only [l_cards_Check_4]
    by_cases hi : i < l.length
    · have ih := l15_all l hl m (i + 1) (by omega) (by omega)
      rw [if_pos (by simpa using hi), if_pos (by omega), if_pos (by omega), Int.toNat_natCast, getD_eq l i 0 hi, w64 _ (by omega) (by omega), show ((i : Int) + 1) = ((i + 1 : Nat) : Int) by omega]
      by_cases h0 : l[i] < 0
      · rw [if_neg (by simpa using h0)]; exact .inr ⟨4, by decide, rfl⟩
      · rw [if_pos (by simpa using h0)]
        by_cases h5 : l[i] ≥ 52
        · rw [if_pos (by simpa using h5)]; exact .inr ⟨4, by decide, rfl⟩
        · rw [if_neg (by simpa using h5), if_pos (by omega), if_pos (by omega), List.drop_zero, f26_ok _ _ (by rw [List.length_take]; omega), Option.bind_some]
          by_cases ht : l[i] ∈ l.take i
          · rw [if_pos (by simpa using ht)]; exact .inr ⟨7, by decide, rfl⟩
          · rw [if_neg (by simpa using ht)]
            rcases ih with ⟨g, k⟩ | g
            · refine .inl ⟨g, fun j hj x hx => ?_⟩
              by_cases e : j = i
              · subst e
                rw [List.getElem?_eq_getElem hi] at hx
                cases hx
                exact ⟨⟨by omega, by omega⟩, ht⟩
              · exact k j (by omega) x hx
            · exact .inr g
    · rw [if_neg (by simpa using hi)]
      exact .inl ⟨rfl, fun j hj x hx => by rw [List.getElem?_eq_none (by omega)] at hx; cases hx⟩

theorem nodup_of_take {α : Type} : ∀ (l : List α), (∀ (j : Nat) (x : α), l[j]? = some x → x ∉ l.take j) → l.Nodup := by
  intro l h
  rw [List.nodup_iff_pairwise_ne]
  rw [List.pairwise_iff_getElem]
  intro i j hi hj hij e
  refine h j l[j] (List.getElem?_eq_getElem hj) ?_
  rw [← e]
  have : i < (l.take j).length := by rw [List.length_take]; omega
  have h2 : (l.take j)[i] = l[i] := List.getElem_take
  rw [← h2]
  exact List.getElem_mem this

theorem f15_spec (l : List Int) : (∃ e : Int, e ≠ 0 ∧ f_cards_Check fuel l = some e) ∨ (f_cards_Check fuel l = some 0 ∧ ∃ ks, l = zs ks ∧ Deck ks) := by
  unfold f_cards_Check
  have hf := fuel100
  by_cases hl : l.length ≤ 52
  · rw [if_neg (by simp; omega)]
    rcases l15_all l hl fuel 0 (by omega) (by omega) with ⟨g, k⟩ | ⟨e, h0, g⟩
    · have g : l_cards_Check_4 fuel l l (l.length : Int) 0 = _ := g
      rw [g]
      obtain ⟨ks, rfl⟩ := exists_zs (l := l) fun x hx => by
        obtain ⟨j, hj, rfl⟩ := List.getElem_of_mem hx
        exact (k j (by omega) _ (List.getElem?_eq_getElem hj)).1.1
      refine .inr ⟨rfl, ks, rfl, by simpa using hl, fun c hc => ?_, ?_⟩
      · obtain ⟨j, hj, e⟩ := List.getElem_of_mem (mem_zs.2 hc)
        have := (k j (by omega) _ (List.getElem?_eq_getElem hj)).1.2
        rw [e] at this
        omega
      · have : (zs ks).Nodup := nodup_of_take _ fun j x hx => (k j (by omega) x hx).2
        exact List.Pairwise.of_map Int.ofNat (fun a b h e => h (by rw [e])) this
    · have g : l_cards_Check_4 fuel l l (l.length : Int) 0 = _ := g
      rw [g]
      exact .inl ⟨e, h0, rfl⟩
  · rw [if_pos (by simp; omega)]
    exact .inl ⟨2, by decide, rfl⟩

theorem f15_ok {ks : List Nat} (h : Deck ks) : f_cards_Check fuel (zs ks) = some 0 := by
  have hl : (zs ks).length ≤ 52 := by rw [length_zs]; exact h.1
  have hf := fuel100
  unfold f_cards_Check
  rw [if_neg (by simp; have := h.1; omega)]
  have key : ∀ (m i : Nat), i ≤ ks.length → ks.length < m + i → l_cards_Check_4 m (zs ks) (zs ks) ((zs ks).length : Int) (i : Int) = some (.exit ()) := by
    intro m
    induction m with
    | zero => intro i h1 h2; omega
    | succ m ih =>
      intro i h1 h2
      simp only [l_cards_Check_4]
      by_cases hi : i < ks.length
      · have hc := h.2.1 ks[i] (List.getElem_mem hi)
        have hno : (ks[i] : Int) ∉ (zs ks).take i := by
          rw [zs, ← List.map_take, mem_zs]
          intro hm
          obtain ⟨j, hj, e⟩ := List.getElem_of_mem hm
          rw [List.length_take] at hj
          rw [List.getElem_take] at e
          exact (List.pairwise_iff_getElem.1 h.2.2 j i (by omega) hi (by omega)) e
        rw [length_zs] at hl ⊢
        rw [if_pos (by simpa using hi), if_pos (by omega), if_pos (by omega), Int.toNat_natCast, getD_zs, getD_eq ks i 0 hi, if_pos (by simp), if_neg (by simp; omega), if_pos (by omega), if_pos (by omega), List.drop_zero,
          f26_ok _ _ (by rw [List.length_take, length_zs]; omega), Option.bind_some, if_neg (by simpa using hno), w64 _ (by omega) (by omega), show ((i : Int) + 1) = ((i + 1 : Nat) : Int) by omega]
        have := ih (i + 1) (by omega) (by omega)
        rwa [length_zs] at this
      · rw [length_zs, if_neg (by simpa using hi)]
  have := key fuel 0 (by omega) (by rw [length_zs] at hl; omega)
  have this : l_cards_Check_4 fuel (zs ks) (zs ks) ((zs ks).length : Int) 0 = _ := this
  rw [this]

theorem l33_all (l : List Int) (hs : l.length < 4611686018427387904) : ∀ (m i : Nat), i ≤ l.length → l.length < m + i →
    (l_slices_IndexFunc_Errno__slices_ContainsFunc_Errno__gamehallkeep2_fine_2 m l (l.length : Int) (i : Int) = some (.exit ()) ∧ ∀ x, x ∈ l.drop i → x = 0) ∨ (∃ j : Nat, l_slices_IndexFunc_Errno__slices_ContainsFunc_Errno__gamehallkeep2_fine_2 m l (l.length : Int) (i : Int) = some (.ret ((j : Int), ())) ∧ ∃ x, x ∈ l ∧ x ≠ 0)
  | 0, i, h1, h2 => by omega
  | m + 1, i, h1, h2 => by
    simp only [l_slices_IndexFunc_Errno__slices_ContainsFunc_Errno__gamehallkeep2_fine_2]
    by_cases hi : i < l.length
    · rw [if_pos (by simpa using hi), if_pos (by omega), if_pos (by omega), Int.toNat_natCast, getD_eq l i 0 hi, List.drop_eq_getElem_cons hi, w64 _ (by omega) (by omega), show ((i : Int) + 1) = ((i + 1 : Nat) : Int) by omega]
      by_cases e : l[i] = 0
      · rw [if_neg (by simpa using e)]
        rcases l33_all l hs m (i + 1) (by omega) (by omega) with ⟨h, g⟩ | h
        · refine .inl ⟨h, fun x hx => ?_⟩
          rcases List.mem_cons.1 hx with rfl | hx
          · exact e
          · exact g x hx
        · exact .inr h
      · rw [if_pos (by simpa using e)]
        exact .inr ⟨i, rfl, l[i], List.getElem_mem hi, e⟩
    · rw [if_neg (by simpa using hi), List.drop_of_length_le (by omega)]
      exact .inl ⟨rfl, by simp⟩

theorem f9_ok (l : List Int) (hs : l.length < 4611686018427387904) : f_gamehallkeep2_fine fuel l = some (decide (∀ x, x ∈ l → x = 0)) := by
  unfold f_gamehallkeep2_fine
  have h := l33_all l hs fuel 0 (by omega) (by have := fuel_ge (n := 4611686018427387904) (by decide); omega)
  rw [List.drop_zero] at h
  rcases h with ⟨h, g⟩ | ⟨j, h, x, hx, g⟩
  · have h : l_slices_IndexFunc_Errno__slices_ContainsFunc_Errno__gamehallkeep2_fine_2 fuel l (l.length : Int) 0 = _ := h
    rw [h]
    simp only [decide_eq_true g]
  · have h : l_slices_IndexFunc_Errno__slices_ContainsFunc_Errno__gamehallkeep2_fine_2 fuel l (l.length : Int) 0 = _ := h
    rw [h]
    have e : decide (∀ x, x ∈ l → x = 0) = false := decide_eq_false fun k => g (k x hx)
    rw [e]
    simp

theorem f21s_ok (v : List Int) (h : v.length ≤ 1000) : f_slices_Clone_ints v = some v := by
  unfold f_slices_Clone_ints f_slices_Clone_int
  rw [if_neg (by simp), if_pos (by simp; omega)]
  simp

end Go.Proofs.YtnlclnheakhncaaDoor
