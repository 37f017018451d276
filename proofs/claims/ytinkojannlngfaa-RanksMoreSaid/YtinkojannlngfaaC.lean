/- The plain law of RanksMore: Best. -/
import Derived.Test.YtinkojannlngfaaB
namespace Go.Proofs.Ytinkojannlngfaa
open Go Vm

theorem code_lt {n : Nat} {l : List Nat} (hn : n ≤ 9) (h : IsComb n l) : code l < 100000 := by
  obtain ⟨a, b, c, d, e, h⟩ := h
  have r1 := h.ab; have r2 := h.bc; have r3 := h.cd; have r4 := h.de; have r5 := h.en
  rw [code_eq h]
  omega

theorem l11_all {ks : List Nat} (hd : Deck ks) (hk : ks.length ≤ 9) : ∀ (m : Nat) (l : List Nat) (s7 : Int) (b : List Int), IsComb ks.length l → 100000 - code l + 30 ≤ m →
    ∃ (mo : Int) (pl x : List Int), l10_11 m (zs ks) s7 b (zs l) = some (.ret (mo, 0, pl, x, ())) ∧ s7 ≤ mo ∧ (∀ c, IsComb ks.length c → le l c → val ks c ≤ mo) ∧
      ((mo = s7 ∧ pl = b) ∨ ∃ p, IsComb ks.length p ∧ pl = zs p ∧ val ks p = mo)
  | 0, l, s7, b, _, hm => by omega
  | m + 1, l, s7, b, h, hm => by
    have h5 := comb_len h
    obtain ⟨q, hq⟩ : ∃ q, m = q + 7 := ⟨m - 7, by omega⟩
    have h13 := l10_13_all h hk m 0 [] (by omega) (by omega) rfl
    rw [List.drop_zero, List.nil_append] at h13
    have h13 : l10_13 m (zs ks) (l.length : Int) 0 [] (zs l) = _ := h13
    obtain ⟨hv, v0⟩ := val_ok hd h
    simp only [l10_11]
    rw [length_zs, h13]
    simp only
    rw [hv, Option.bind_some]
    have hnx := next_places hk h q
    rw [← hq] at hnx
    rcases hnx with ⟨g21, hend⟩ | ⟨i, l', hi, g21, g27, hb, hl', hc', hnext⟩
    · by_cases hgt : val ks l > s7
      · rw [if_pos (by simpa using hgt), f23s_ok _ (by rw [length_zs]; omega), Option.bind_some, g21]
        exact ⟨val ks l, zs l, zs l, rfl, by omega, fun c hc hle => by rw [hend c hc hle]; exact Int.le_refl _, .inr ⟨l, h, rfl, rfl⟩⟩
      · rw [if_neg (by simpa using hgt), g21]
        exact ⟨s7, b, zs l, rfl, Int.le_refl _, fun c hc hle => by rw [hend c hc hle]; omega, .inl ⟨rfl, rfl⟩⟩
    · have e1 : IntKind.i64.wrap (((l.getD i 0 : Nat) : Int) + 1) = ((l.getD i 0 + 1 : Nat) : Int) := by rw [w64 _ (by omega) (by omega)]; omega
      have e2 : IntKind.i64.wrap ((i : Int) + 1) = ((i + 1 : Nat) : Int) := by rw [w64 _ (by omega) (by omega)]; omega
      have c1 : (0 : Int) ≤ (i : Int) := by omega
      have c2 : (i : Int) < ((l.length : Nat) : Int) := by omega
      have cl := code_lt hk hl'
      by_cases hgt : val ks l > s7
      · rw [if_pos (by simpa using hgt), f23s_ok _ (by rw [length_zs]; omega), Option.bind_some, g21]
        simp only
        rw [if_neg (by simp), length_zs, if_pos (by exact c1), if_pos (by exact c2), if_pos (by exact c1), if_pos (by exact c2), Int.toNat_natCast, getD_zs, e1, set_zs, e2, g27]
        simp only
        obtain ⟨mo, pl, x, k1, k2, k3, k4⟩ := l11_all hd hk m l' (val ks l) (zs l) hl' (by omega)
        refine ⟨mo, pl, x, k1, by omega, fun c hc hle => ?_, ?_⟩
        · rcases hnext c hc hle with rfl | hle
          · exact k2
          · exact k3 c hc hle
        · rcases k4 with ⟨k4, k5⟩ | k4
          · exact .inr ⟨l, h, k5, k4.symm⟩
          · exact .inr k4
      · rw [if_neg (by simpa using hgt), g21]
        simp only
        rw [if_neg (by simp), length_zs, if_pos (by exact c1), if_pos (by exact c2), if_pos (by exact c1), if_pos (by exact c2), Int.toNat_natCast, getD_zs, e1, set_zs, e2, g27]
        simp only
        obtain ⟨mo, pl, x, k1, k2, k3, k4⟩ := l11_all hd hk m l' s7 b hl' (by omega)
        refine ⟨mo, pl, x, k1, by omega, fun c hc hle => ?_, k4⟩
        rcases hnext c hc hle with rfl | hle
        · omega
        · exact k3 c hc hle

theorem le_first {n : Nat} {c : List Nat} (h : IsComb n c) : le [0, 1, 2, 3, 4] c := by
  obtain ⟨a, b, c', d, e, h⟩ := h
  have r1 := h.ab; have r2 := h.bc; have r3 := h.cd; have r4 := h.de; have r5 := h.en
  rw [h.is, le_five]
  omega

/-- Best, where it answers. -/
theorem f10_ok {ks : List Nat} (hd : Deck ks) (h5 : 5 ≤ ks.length) (h9 : ks.length ≤ 9) : ∃ p, IsComb ks.length p ∧ f10 fuel (zs ks) = some (zs p, val ks p, 0) ∧ ∀ c, IsComb ks.length c → val ks c ≤ val ks p := by
  have hf : 200000 ≤ fuel := fuel_ge (by decide)
  have h0 : IsComb ks.length [0, 1, 2, 3, 4] := ⟨0, 1, 2, 3, 4, rfl, by decide, by decide, by decide, by decide, by omega⟩
  obtain ⟨mo, pl, x, k1, k2, k3, k4⟩ := l11_all hd h9 fuel [0, 1, 2, 3, 4] (-1) [] h0 (by omega)
  have k1 : l10_11 fuel (zs ks) (-1) [] [0, 1, 2, 3, 4] = _ := k1
  have v0 := (val_ok hd h0).2
  have vle := k3 _ h0 (le_first h0)
  unfold f10
  rw [f22_ok hd, Option.bind_some, if_neg (by simp), length_zs, if_neg (by simp; omega), if_neg (by simp; omega), k1]
  rcases k4 with ⟨k4, _⟩ | ⟨p, hp, rfl, rfl⟩
  · omega
  · exact ⟨p, hp, rfl, fun c hc => k3 c hc (le_first hc)⟩

theorem l4_all {ks l : List Nat} (h : IsComb ks.length l) (hk : ks.length ≤ 9) : ∀ (m i : Nat) (acc : List Nat), i ≤ l.length → l.length < m + i → acc.length = i →
    l4_8 m (zs ks) (l.length : Int) (i : Int) (zs acc) (zs l) = some (.exit (zs (acc ++ hand ks (l.drop i)), zs l, ()))
  | 0, i, acc, h1, h2, _ => by omega
  | m + 1, i, acc, h1, h2, h3 => by
    simp only [l4_8]
    have h5 := comb_len h
    by_cases hi : i < l.length
    · have hc := comb_lt h l[i] (List.getElem_mem hi)
      have ha : zs acc ++ [((ks.getD l[i] 0 : Nat) : Int)] = zs (acc ++ [ks.getD l[i] 0]) := by rw [zs, zs, List.map_append]; rfl
      rw [if_pos (by simpa using hi), if_pos (by omega), length_zs, length_zs, length_zs, if_pos (by omega), Int.toNat_natCast, getD_zs, getD_eq l i 0 hi, if_pos (by simp), if_neg (by simp; omega), if_pos (by omega), if_pos (by omega), if_pos (by omega), Int.toNat_natCast, getD_zs, ha,
        w64 _ (by omega) (by omega), show ((i : Int) + 1) = ((i + 1 : Nat) : Int) by omega, l4_all h hk m (i + 1) _ (by omega) (by omega) (by simp; omega), List.drop_eq_getElem_cons hi]
      unfold hand
      rw [List.map_cons, List.append_assoc]
      rfl
    · rw [if_neg (by simpa using hi), List.drop_of_length_le (by omega)]
      simp [hand]

theorem l11s_all {l : List Nat} (hl : l.length ≤ 9) (hb : ∀ x, x ∈ l → x < 1000) (hp : l.Pairwise (· < ·)) : ∀ (m i : Nat), i < l.length → i < m → l11_2 m (zs l) (i : Int) = some (.exit ())
  | 0, i, _, h => by omega
  | m + 1, 0, h1, h2 => by
    simp only [l11_2]
    rw [if_neg (by simp)]
  | m + 1, i + 1, h1, h2 => by
    simp only [l11_2]
    have hlt := List.pairwise_iff_getElem.1 hp i (i + 1) (by omega) h1 (by omega)
    rw [if_pos (by simp), if_pos (by omega), length_zs, if_pos (by omega), w64 (((i + 1 : Nat) : Int) - 1) (by omega) (by omega), show ((i + 1 : Nat) : Int) - 1 = (i : Int) by omega, if_pos (by omega), if_pos (by omega), Int.toNat_natCast, Int.toNat_natCast, getD_zs, getD_zs,
      getD_eq l (i + 1) 0 h1, getD_eq l i 0 (by omega)]
    have : f24 fuel (l[i + 1] : Int) (l[i] : Int) = some false := by
      unfold f24
      rw [if_neg (by simp)]
      simp
      omega
    rw [this, Option.bind_some, if_neg (by simp)]
    exact l11s_all hl hb hp m i (by omega) (by omega)

theorem f11_ok {n : Nat} {l : List Nat} (hn : n ≤ 9) (h : IsComb n l) : f11 fuel (zs l) = some true := by
  have hf := fuel100
  have h5 := comb_len h
  unfold f11
  rw [length_zs, h5, show IntKind.i64.wrap (((5 : Nat) : Int) - 1) = ((4 : Nat) : Int) by decide, l11s_all (by omega) (fun x hx => by have := comb_lt h x hx; omega) (comb_up h) fuel 4 (by omega) (by omega)]

theorem f8_val {ks l : List Nat} (hd : Deck ks) (h : IsComb ks.length l) : f8 fuel (zs (hand ks l)) = some (val ks l, 0) := by
  unfold f8
  rw [f16_ok (hand_hand hd h), Option.bind_some, if_neg (by simp), (val_ok hd h).1, Option.bind_some]

theorem deck_take {ks : List Nat} (hd : Deck ks) (n : Nat) : Deck (ks.take n) :=
  ⟨by rw [List.length_take]; have := hd.1; omega, fun c hc => hd.2.1 c (List.mem_of_mem_take hc), hd.2.2.sublist (List.take_sublist ..)⟩

theorem hand_take {ks l : List Nat} {n : Nat} (h : ∀ x, x ∈ l → x < n) : hand (ks.take n) l = hand ks l := by
  unfold hand
  refine List.map_congr_left fun x hx => ?_
  rw [List.getD_eq_getElem?_getD, List.getD_eq_getElem?_getD, List.getElem?_take_of_lt (h x hx)]

theorem ranksMore_plain : ∀ x : List Int, WfL [.slice (.int .i64)] x → f4 fuel x = some true := by
  intro x _
  have hf := fuel100
  unfold f4
  rw [f6_true]
  simp only [Option.bind_some]
  rw [if_neg (by simp)]
  rcases f22_spec x with ⟨e, h0, h⟩ | ⟨h, ks, rfl, hd⟩
  · have : f10 fuel x = some ([], 0, e) := by
      unfold f10
      rw [h, Option.bind_some, if_pos (by simpa using h0)]
    rw [this]
    simp [h0]
  · by_cases h5 : 5 ≤ ks.length
    · by_cases h9 : ks.length ≤ 9
      · obtain ⟨p, hp, h10, hmax⟩ := f10_ok hd h5 h9
        have p5 := comb_len hp
        have h4 := l4_all hp h9 fuel 0 [] (by omega) (by omega) rfl
        rw [List.drop_zero, List.nil_append] at h4
        have h4 : l4_8 fuel (zs ks) (p.length : Int) 0 [] (zs p) = _ := h4
        rw [h10, Option.bind_some, if_neg (by simp)]
        simp only
        rw [length_zs, h4]
        simp only
        rw [f8_val hd hp, Option.bind_some, if_pos (by simp), if_pos (by simp), f11_ok h9 hp, Option.bind_some, if_neg (by simp), length_zs, w64 ((ks.length : Int) - 1) (by omega) (by omega), if_pos (by omega), if_pos (by omega),
          show ((ks.length : Int) - 1).toNat = ks.length - 1 by omega, List.drop_zero, zs, ← List.map_take]
        by_cases e5 : ks.length = 5
        · have : f10 fuel (List.map Int.ofNat (ks.take (ks.length - 1))) = some ([], 0, 8) := by
            show f10 fuel (zs (ks.take (ks.length - 1))) = _
            unfold f10
            rw [f22_ok (deck_take hd _), Option.bind_some, if_neg (by simp), length_zs, if_pos (by simp; omega)]
          rw [this, Option.bind_some, if_pos (by simp), if_neg (by simp; omega)]
        · have hn : (ks.take (ks.length - 1)).length = ks.length - 1 := by rw [List.length_take]; omega
          obtain ⟨p', hp', h10', _⟩ := f10_ok (deck_take hd (ks.length - 1)) (by omega) (by omega)
          have hp2 : IsComb ks.length p' := by
            obtain ⟨a, b, c, d, e, g⟩ := hp'
            exact ⟨a, b, c, d, e, g.is, g.ab, g.bc, g.cd, g.de, by have := g.en; omega⟩
          have hv : val (ks.take (ks.length - 1)) p' = val ks p' := by
            unfold val
            rw [hand_take fun x hx => by have := comb_lt hp' x hx; omega]
          have h10' : f10 fuel (List.map Int.ofNat (ks.take (ks.length - 1))) = _ := h10'
          have := hmax p' hp2
          rw [h10', hv, Option.bind_some, if_neg (by simp), if_pos (by simp)]
          simpa using this
      · have : f10 fuel (zs ks) = some ([], 0, 2) := by
          unfold f10
          rw [f22_ok hd, Option.bind_some, if_neg (by simp), length_zs, if_neg (by simp; omega), if_pos (by simp; omega)]
        rw [this]
        simp
    · have : f10 fuel (zs ks) = some ([], 0, 8) := by
        unfold f10
        rw [f22_ok hd, Option.bind_some, if_neg (by simp), length_zs, if_pos (by simp; omega)]
      rw [this]
      simp
end Go.Proofs.Ytinkojannlngfaa
