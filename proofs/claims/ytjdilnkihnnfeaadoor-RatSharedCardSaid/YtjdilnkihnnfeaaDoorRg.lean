/- The plain law of shares, joined. -/
import Derived.Test.YtjdilnkihnnfeaaDoorRf
namespace Go.Proofs.YtjdilnkihnnfeaaDoor
open Go Vm

theorem equal_self (l : List ByteArray) (hs : l.length ≤ 4611686018427387904) : f_slices_Equal_Rat fuel l l = some true := by
  unfold f_slices_Equal_Rat
  have hf := fuel_ge (n := 2 ^ 100) (by decide)
  have key : ∀ (m i : Nat), i ≤ l.length → l.length < m + i → l_slices_Equal_Rat_4 m l l (l.length : Int) (i : Int) = some (.exit ()) := by
    intro m
    induction m with
    | zero => intro i h1 h2; omega
    | succ m ih =>
      intro i h1 h2
      simp only [l_slices_Equal_Rat_4]
      by_cases hi : i < l.length
      · have e4 : IntKind.i64.wrap ((i : Int) + 1) = ((i + 1 : Nat) : Int) := by rw [w64 _ (by omega) (by omega)]; omega
        rw [if_pos (by simpa using hi), if_pos (by omega), if_pos (by omega), if_pos (by omega), if_pos (by omega), if_neg (by simp), e4]
        exact ih (i + 1) (by omega) (by omega)
      · rw [if_neg (by simpa using hi)]
  have := key fuel 0 (by omega) (by omega)
  have : l_slices_Equal_Rat_4 fuel l l (l.length : Int) 0 = _ := this
  rw [if_neg (by simp), this]

theorem long_loop (l : List ByteArray) (hs : l.length ≤ 4611686018427387904) : ∀ (m i : Nat), i ≤ l.length → l.length < m + i → (∀ s, s ∈ l.take i → s.size ≤ 40) →
    (∃ k : Nat, l_slices_IndexFunc_Rat__slices_ContainsFunc_Rat__gamehallkeep2_RatShared_2 m l (l.length : Int) (i : Int) = some (.ret ((k : Int), ()))) ∨
    ((∀ s, s ∈ l → s.size ≤ 40) ∧ l_slices_IndexFunc_Rat__slices_ContainsFunc_Rat__gamehallkeep2_RatShared_2 m l (l.length : Int) (i : Int) = some (.exit ()))
  | 0, i, h1, h2, h3 => by omega
  | m + 1, i, h1, h2, h3 => by
    simp only [l_slices_IndexFunc_Rat__slices_ContainsFunc_Rat__gamehallkeep2_RatShared_2]
    by_cases hi : i < l.length
    · have e4 : IntKind.i64.wrap ((i : Int) + 1) = ((i + 1 : Nat) : Int) := by rw [w64 _ (by omega) (by omega)]; omega
      rw [if_pos (by simpa using hi), if_pos (by omega), if_pos (by omega), Int.toNat_natCast, getD_eq l i _ hi, e4]
      by_cases hk : l[i].size > 40
      · rw [if_pos (by simp only [decide_eq_true_eq]; omega)]
        exact .inl ⟨i, rfl⟩
      · rw [if_neg (by simp only [decide_eq_true_eq]; omega)]
        refine long_loop l hs m (i + 1) (by omega) (by omega) fun s hs' => ?_
        rw [List.take_succ_eq_append_getElem hi] at hs'
        rcases List.mem_append.1 hs' with hs' | hs'
        · exact h3 s hs'
        · rw [List.mem_singleton] at hs'; rw [hs']; omega
    · rw [if_neg (by simpa using hi)]
      rw [List.take_of_length_le (by omega)] at h3
      exact .inr ⟨h3, rfl⟩

theorem psum_take (l : List Rat) (s : Rat) (k : Nat) : psum ((l.map (· / s)).take k) = psum (l.take k) / s := by
  rw [← List.map_take, psum_div]

theorem shared_true (l : List ByteArray) (hl : l.length ≤ 140737488351232) (hb : ∀ s, s ∈ l → s.size ≤ 900000000000000) : f_gamehallkeep2_RatShared fuel l = some true := by
  unfold f_gamehallkeep2_RatShared
  have hf := fuel_ge (n := 2 ^ 100) (by decide)
  rw [ratFact_true, Option.bind_some, if_neg (by decide)]
  -- what is refused
  have refuse : ∀ {o : ByteArray} {e : Int}, e ≠ 0 → f_rat_Sum fuel l = some (o, e) → f_rat_Shares fuel l = some ([], e) := by
    intro o e e0 h
    unfold f_rat_Shares
    rw [h, Option.bind_some, if_pos (ne0 e0)]
  by_cases h256 : l.length ≤ 256
  · rcases checkAll_spec l (by omega) hb with ⟨e, e0, h⟩ | ⟨rs, rfl, hok, h⟩
    · have hsum : f_rat_Sum fuel l = some (⟨#[]⟩, e) := by
        unfold f_rat_Sum
        rw [if_neg (by simp only [decide_eq_true_eq]; omega), h, Option.bind_some, if_pos (ne0 e0)]
      rw [refuse e0 hsum, Option.bind_some, if_neg (by simpa using e0), if_pos (by simpa using e0)]
      rfl
    rw [List.length_map] at h256
    rcases shares_run rs h256 hok with ⟨_, e, e0, h⟩ | ⟨hos, h0, hz, hd, h⟩
    · rw [h, Option.bind_some, if_neg (by simpa using e0), if_pos (by simpa using e0)]
      rfl
    rw [h, Option.bind_some, if_pos (by simp), List.length_map]
    by_cases h12 : rs.length > 12
    · rw [if_neg (by simp only [decide_eq_false_iff_not]; omega), if_neg (by simp)]
    rw [if_pos (by simp only [decide_eq_false_iff_not]; omega)]
    rcases long_loop (rs.map rt) (by rw [List.length_map]; omega) fuel 0 (by omega) (by rw [List.length_map]; omega) (by simp) with ⟨k, g⟩ | ⟨hsz, g⟩
    · have g : l_slices_IndexFunc_Rat__slices_ContainsFunc_Rat__gamehallkeep2_RatShared_2 fuel (rs.map rt) ((rs.map rt).length : Int) 0 = _ := g
      rw [List.length_map] at g
      rw [g]
      simp only
      rw [if_pos (by simp), if_neg (by simp)]
    have g : l_slices_IndexFunc_Rat__slices_ContainsFunc_Rat__gamehallkeep2_RatShared_2 fuel (rs.map rt) ((rs.map rt).length : Int) 0 = _ := g
    rw [List.length_map] at g
    rw [g]
    simp only
    have hp : 0 < rs.length := by
      apply Nat.pos_of_ne_zero
      intro e
      rw [List.length_eq_zero_iff.1 e] at hz
      exact hz rfl
    have d40 : ∀ r, r ∈ rs → Dr 40 r := fun r hr => by
      have := hsz (rt r) (List.mem_map.2 ⟨r, hr, rfl⟩)
      rw [rt_size] at this
      exact dr_mono this (dr_len r)
    have hS : Dr 493 (psum rs) := dr_mono (by have := Nat.mul_le_mul_left 41 (show rs.length ≤ 12 by omega); omega) (dr_psum rs d40)
    have hP : ∀ k, Dr 493 (psum (rs.take k)) := fun k => dr_mono (by
      have h1 : (rs.take k).length ≤ 12 := by rw [List.length_take]; omega
      have := Nat.mul_le_mul_left 41 h1; omega) (dr_psum _ fun r hr => d40 r (List.mem_of_mem_take hr))
    have hpos : 0 < psum rs := by
      have : ∀ l : List Rat, (∀ r, r ∈ l → 0 ≤ r) → 0 ≤ psum l := by
        intro l
        induction l with
        | nil => intro _; exact Rat.le_refl
        | cons a l ih =>
          intro hl
          have h1 := hl a (List.mem_cons_self ..)
          have h2 := ih fun r hr => hl r (List.mem_cons_of_mem _ hr)
          rw [psum]; grind
      have := this rs h0
      grind
    -- the shares' shares
    have hone : psum (rs.map (· / psum rs)) = 1 := by rw [psum_div]; grind
    have hokd : ∀ r, r ∈ rs.map (· / psum rs) → OkR r := fun r hr => by
      obtain ⟨t, ht, rfl⟩ := List.mem_map.1 hr
      exact hd t ht
    have hdiv1 : (rs.map (· / psum rs)).map (· / (1 : Rat)) = rs.map (· / psum rs) := by
      refine (List.map_congr_left (g := id) fun r _ => ?_).trans (List.map_id _)
      show r / 1 = r
      grind
    have hnn : ∀ r, r ∈ rs.map (· / psum rs) → 0 ≤ r := fun r hr => by
      obtain ⟨t, ht, rfl⟩ := List.mem_map.1 hr
      show 0 ≤ t / psum rs
      rw [Rat.div_def]
      exact Rat.mul_nonneg (h0 t ht) (by have := Rat.inv_pos.2 hpos; grind)
    have h2 : f_rat_Shares fuel ((rs.map (· / psum rs)).map rt) = some ((rs.map (· / psum rs)).map rt, 0) := by
      rcases shares_run (rs.map (· / psum rs)) (by rw [List.length_map]; exact h256) hokd with ⟨hbad, _⟩ | ⟨_, _, _, _, e⟩
      · exfalso
        rcases hbad with ⟨k, _, hk⟩ | ⟨r, hr, hn⟩ | hz1 | ⟨r, hr, hn⟩
        · apply hk
          rw [psum_take]
          exact dr_okr (dr_div (hP k) hS hz) (by decide) (by decide)
        · exact hn (hnn r hr)
        · rw [hone] at hz1; exact absurd hz1 (by decide)
        · apply hn
          rw [hone]
          have : r / 1 = r := by grind
          rw [this]
          exact hokd r hr
      · rw [e, hone, hdiv1]
    obtain ⟨x, b1, b2⟩ := best_ok rs (psum rs) hpos h256 hp hok hd
    have hodds : f_rat_Odds fuel ((rs.map (· / psum rs)).map rt) = some 0 := by
      unfold f_rat_Odds
      rcases sum_ok (rs.map (· / psum rs)) (by rw [List.length_map]; exact h256) hokd with ⟨⟨k, _, hk⟩, _⟩ | ⟨_, e⟩
      · exfalso
        apply hk
        rw [psum_take]
        exact dr_okr (dr_div (hP k) hS hz) (by decide) (by decide)
      · have o := odds5 (rs.map (· / psum rs)) (by rw [List.length_map]; exact h256) hokd hnn fuel 0 (by omega) (by rw [List.length_map]; omega)
        have o : l_rat_Odds_5 fuel ((rs.map (· / psum rs)).map rt) ((rs.map (· / psum rs)).length : Int) 0 = _ := o
        rw [e, Option.bind_some, if_neg (by simp), List.length_map (f := rt), o]
        simp only [hone, rt_one, rt_eq, decide_true]
        rfl
    have hfn : f_gamehallkeep2_fine fuel [0, 0, 0] = some true := by kernel_rfl
    rw [h2, Option.bind_some, b1, Option.bind_some, b2, Option.bind_some]
    simp only [hfn, Option.bind_some, if_true]
    rw [hodds, Option.bind_some, if_pos (by decide), equal_self _ (by rw [List.length_map, List.length_map]; omega), Option.bind_some, if_pos rfl]
    simp
  · have hsum : f_rat_Sum fuel l = some (⟨#[]⟩, 2) := by
      unfold f_rat_Sum
      rw [if_pos (by simp only [decide_eq_true_eq]; omega)]
    rw [refuse (by decide) hsum, Option.bind_some, if_neg (by decide), if_pos (by decide)]
    rfl

theorem ratShared_plain : ∀ x : List ByteArray, WfL [.slice .str] x → f_gamehallkeep2_RatShared fuel x = some true := fun x h => shared_true x (by
  have h1 : x.length * 16 ≤ 140737488351232 := h.1
  omega) (fun s hs => Nat.le_trans (h.2 s hs) (by decide))
end Go.Proofs.YtjdilnkihnnfeaaDoor
