/- Cuts and deals: the plain law of CardsCuts. -/
import Derived.Test.YtaahakhmcodaiaaDoorS
namespace Go.Proofs.YtaahakhmcodaiaaDoor
open Go Vm

/-! Concat. -/
def lens (L : List (List Int)) : Nat := (L.map List.length).sum
theorem lens_drop {L : List (List Int)} {i : Nat} (hi : i < L.length) : lens (L.drop i) = L[i].length + lens (L.drop (i + 1)) := by
  unfold lens
  rw [List.drop_eq_getElem_cons hi, List.map_cons, List.sum_cons]

theorem l27_3_all (L : List (List Int)) (hL : L.length ≤ 1000) (ht : lens L ≤ 100000) : ∀ (m i s : Nat), i ≤ L.length → L.length < m + i → s + lens (L.drop i) ≤ 100000 →
    l27_3 m (s : Int) L (L.length : Int) (i : Int) = some (.exit (((s + lens (L.drop i) : Nat) : Int), ()))
  | 0, i, s, h1, h2, _ => by omega
  | m + 1, i, s, h1, h2, h3 => by
    simp only [l27_3]
    by_cases hi : i < L.length
    · have e := lens_drop hi
      rw [if_pos (by simpa using hi), if_pos (by omega), if_pos (by omega), Int.toNat_natCast, getD_eq L i [] hi, w64 _ (by omega) (by omega), if_neg (by simp; omega), w64 _ (by omega) (by omega), show (s : Int) + (L[i].length : Int) = ((s + L[i].length : Nat) : Int) by omega,
        show ((i : Int) + 1) = ((i + 1 : Nat) : Int) by omega, l27_3_all L hL ht m (i + 1) _ (by omega) (by omega) (by omega), e, Nat.add_assoc]
    · rw [if_neg (by simpa using hi), List.drop_of_length_le (by omega)]
      rfl

theorem l27_11_all (L : List (List Int)) (hL : L.length ≤ 1000) : ∀ (m i s : Nat) (b acc : List Int), i ≤ L.length → L.length < m + i → b.take s = acc → s = acc.length → acc.length + lens (L.drop i) ≤ 100000 →
    ∃ b', l27_11 m s L (L.length : Int) (i : Int) b = some (.exit ((acc ++ (L.drop i).flatten).length, b', ())) ∧ b'.take (acc ++ (L.drop i).flatten).length = acc ++ (L.drop i).flatten
  | 0, i, s, b, acc, h1, h2, _, _, _ => by omega
  | m + 1, i, s, b, acc, h1, h2, h3, h4, h5 => by
    simp only [l27_11]
    by_cases hi : i < L.length
    · have e := lens_drop hi
      have hd : (L.drop i).flatten = L[i] ++ (L.drop (i + 1)).flatten := by rw [List.drop_eq_getElem_cons hi, List.flatten_cons]
      rw [if_pos (by simpa using hi), if_pos (by omega), if_pos (by omega), Int.toNat_natCast, getD_eq L i [] hi, h3, if_pos (by omega), w64 _ (by omega) (by omega), show ((i : Int) + 1) = ((i + 1 : Nat) : Int) by omega]
      obtain ⟨b', g1, g2⟩ := l27_11_all L hL m (i + 1) (acc ++ L[i]).length (acc ++ L[i]) (acc ++ L[i]) (by omega) (by omega) (List.take_length ..) rfl (by rw [List.length_append]; omega)
      rw [List.append_assoc, ← hd] at g1 g2
      exact ⟨b', g1, g2⟩
    · rw [if_neg (by simpa using hi), List.drop_of_length_le (by omega), List.flatten_nil, List.append_nil]
      exact ⟨b, by rw [h4], by rw [← h4]; exact h3⟩

theorem f27_ok (L : List (List Int)) (hL : L.length ≤ 1000) (ht : lens L ≤ 100000) : f27 fuel L = some L.flatten := by
  have hF : 2000 ≤ fuel := fuel_ge (by decide)
  have h3 := l27_3_all L hL ht fuel 0 0 (by omega) (by omega) (by rw [List.drop_zero]; omega)
  rw [List.drop_zero, Nat.zero_add] at h3
  have h3 : l27_3 fuel 0 L (L.length : Int) 0 = _ := h3
  have h11 : ∀ b : List Int, ∃ b', l27_11 fuel 0 L (L.length : Int) 0 b = some (.exit (L.flatten.length, b', ())) ∧ b'.take L.flatten.length = L.flatten := by
    intro b
    have := l27_11_all L hL fuel 0 0 b [] (by omega) (by omega) rfl rfl (by rw [List.drop_zero]; simpa using ht)
    rw [List.drop_zero, List.nil_append] at this
    exact this
  unfold f27
  rw [h3]
  simp only
  rw [if_neg (by simp), Int.sub_zero, w64 _ (by omega) (by omega)]
  by_cases h0 : 0 < lens L
  · obtain ⟨b', g1, g2⟩ := h11 (List.replicate (lens L) 0)
    rw [if_pos (by simpa using h0), if_pos (by omega), if_pos (by omega), if_pos (by omega), Int.toNat_natCast, g1]
    simp only
    rw [g2]
  · obtain ⟨b', g1, g2⟩ := h11 []
    rw [if_neg (by simpa using h0), g1]
    simp only
    rw [g2]

/-! Cuts. -/
def rot (a : Nat) (l : List Nat) : List Nat := l.drop a ++ l.take a
theorem rot_length (a : Nat) (l : List Nat) (h : a ≤ l.length) : (rot a l).length = l.length := by
  unfold rot
  rw [List.length_append, List.length_drop, List.length_take]; omega
theorem rot_perm (a : Nat) (l : List Nat) : (rot a l).Perm l := by
  unfold rot
  have := List.perm_append_comm (l₁ := l.drop a) (l₂ := l.take a)
  rwa [List.take_append_drop] at this
theorem rot_at {a : Nat} {l : List Nat} (h : a ≤ l.length) {i : Nat} (hi : i < l.length) : (rot a l).getD i 0 = l.getD ((i + a) % l.length) 0 := by
  unfold rot
  rw [List.getD_eq_getElem?_getD, List.getD_eq_getElem?_getD]
  by_cases h1 : i < l.length - a
  · rw [List.getElem?_append_left (by rw [List.length_drop]; exact h1), List.getElem?_drop, Nat.mod_eq_of_lt (by omega), Nat.add_comm]
  · rw [List.getElem?_append_right (by rw [List.length_drop]; omega), List.length_drop, List.getElem?_take_of_lt (by omega), Nat.mod_eq_sub_mod (by omega), Nat.mod_eq_of_lt (by omega)]
    congr 2
    omega
theorem rot_rot {a b : Nat} {l : List Nat} (h0 : 0 < l.length) (ha : a ≤ l.length) (hb : b ≤ l.length) : rot b (rot a l) = rot ((a + b) % l.length) l := by
  have hm := Nat.mod_lt (a + b) h0
  have h1 := rot_length a l ha
  refine eq_of_getD (by rw [rot_length b _ (by omega), h1, rot_length _ l (by omega)]) fun i hi => ?_
  rw [rot_length b _ (by omega), h1] at hi
  rw [rot_at (by omega) (by omega), h1, rot_at ha (Nat.mod_lt _ h0), rot_at (by omega) hi]
  congr 1
  rw [Nat.mod_add_mod, Nat.add_mod_mod]
  congr 1
  omega

theorem deck_perm {ls ks : List Nat} (h : ls.Perm ks) (hk : Deck ks) : Deck ls := ⟨by rw [h.length_eq]; exact hk.1, fun c hc => hk.2.1 c (h.mem_iff.1 hc), h.nodup_iff.2 hk.2.2⟩

theorem cut_ok {ks : List Nat} (hk : Deck ks) {a : Nat} (ha : a ≤ ks.length) : f16 fuel (zs ks) (a : Int) = some (zs (rot a ks), 0) := by
  have h52 := hk.1
  unfold f16
  rw [f15_ok hk, Option.bind_some, if_neg (by simp), if_pos (by simp), length_zs, if_neg (by simp; omega), if_pos (by omega), if_pos (by omega), if_pos (by omega), if_pos (by omega), Int.toNat_natCast, List.drop_zero, List.take_of_length_le (by rw [length_zs]; omega),
    f27_ok _ (by simp) (by simp [lens]; omega), Option.bind_some]
  simp [rot, zs]

/-! Deals. -/
def hand (P : Nat) (d : List Nat) (j p : Nat) : List Int := zs (((List.range j).filter fun q => q % P == p).map (d.getD · 0))
def hands (P : Nat) (d : List Nat) (j : Nat) : List (List Int) := (List.range P).map (hand P d j)
theorem hands_length (P : Nat) (d : List Nat) (j : Nat) : (hands P d j).length = P := by simp [hands]
theorem hands_at {P : Nat} {d : List Nat} {j p : Nat} (h : p < P) : (hands P d j).getD p [] = hand P d j p := by
  rw [List.getD_eq_getElem?_getD]
  simp [hands, h]
theorem hand_succ (P : Nat) (d : List Nat) (j p : Nat) : hand P d (j + 1) p = if j % P = p then hand P d j p ++ [((d.getD j 0 : Nat) : Int)] else hand P d j p := by
  unfold hand
  rw [List.range_succ, List.filter_append, List.map_append]
  by_cases e : j % P = p
  · rw [if_pos e]
    simp [e, zs]
  · rw [if_neg e]
    simp [e, zs]
theorem hands_succ {P : Nat} (d : List Nat) (j : Nat) (h : 0 < P) : (hands P d j).set (j % P) (hand P d j (j % P) ++ [((d.getD j 0 : Nat) : Int)]) = hands P d (j + 1) := by
  apply List.ext_getElem
  · rw [List.length_set, hands_length, hands_length]
  · intro p h1 h2
    rw [hands_length] at h2
    simp only [hands, List.getElem_set, List.getElem_map, List.getElem_range]
    rw [hand_succ]
    by_cases e : j % P = p
    · rw [if_pos e, if_pos e, e]
    · rw [if_neg e, if_neg e]
theorem hand_length (P : Nat) (d : List Nat) (j p : Nat) : (hand P d j p).length ≤ j := by
  unfold hand
  rw [length_zs, List.length_map]
  exact Nat.le_trans (List.length_filter_le ..) (by rw [List.length_range]; exact Nat.le_refl _)

theorem l17_all {ks : List Nat} (h52 : ks.length ≤ 52) {P n : Nat} (hP : 0 < P) (hP6 : P ≤ 52) (hn : n ≤ ks.length) : ∀ (m j : Nat), j ≤ n → n < m + j →
    l17_10 m (P : Int) (zs (ks.take n)) (n : Int) (j : Int) (hands P ks j) = some (.exit (hands P ks n, ()))
  | 0, j, h1, h2 => by omega
  | m + 1, j, h1, h2 => by
    simp only [l17_10]
    by_cases hj : j < n
    · have hm : j % P < P := Nat.mod_lt _ hP
      have ht : (j : Int).tmod (P : Int) = ((j % P : Nat) : Int) := (Int.ofNat_tmod j P).symm
      have hl : (zs (ks.take n)).length = n := by rw [length_zs, List.length_take]; omega
      have hd : (zs (ks.take n)).getD j 0 = ((ks.getD j 0 : Nat) : Int) := by
        rw [getD_zs, List.getD_eq_getElem?_getD, List.getD_eq_getElem?_getD, List.getElem?_take_of_lt hj]
      have hh := hand_length P ks j (j % P)
      rw [if_pos (by simpa using hj), if_pos (by omega), hl, if_pos (by omega), if_neg (by omega), if_neg (by omega), ht, hands_length, if_pos (by omega), if_pos (by omega), Int.toNat_natCast, Int.toNat_natCast, hands_at hm, if_pos (by omega), if_pos (by omega), if_pos (by omega), if_pos trivial, hd,
        hands_succ ks j hP, w64 _ (by omega) (by omega), show ((j : Int) + 1) = ((j + 1 : Nat) : Int) by omega]
      exact l17_all h52 hP hP6 hn m (j + 1) (by omega) (by omega)
    · obtain rfl : j = n := by omega
      rw [if_neg (by simp)]

theorem deal_ok {ks : List Nat} (hk : Deck ks) {P E : Nat} (hP : 0 < P) (hP6 : P ≤ 52) (hE : E ≤ 52) (hPE : P * E ≤ ks.length) : f17 fuel (zs ks) (P : Int) (E : Int) = some (hands P ks (P * E), zs (ks.drop (P * E)), 0) := by
  have hF := fuel100
  have h52 := hk.1
  have hw : IntKind.i64.wrap ((P : Int) * (E : Int)) = ((P * E : Nat) : Int) := by
    rw [← Int.natCast_mul, w64 _ (by omega) (by omega)]
  have h0 : List.replicate P ([] : List Int) = hands P ks 0 := by
    apply List.ext_getElem
    · rw [List.length_replicate, hands_length]
    · intro i h1 h2
      simp [hands, hand]
  have hl := l17_all h52 hP hP6 hPE fuel 0 (by omega) (by omega)
  rw [← h0] at hl
  have hl : l17_10 fuel (P : Int) (zs (ks.take (P * E))) ((P * E : Nat) : Int) 0 (List.replicate P []) = _ := hl
  have htk : (List.take (P * E) (zs ks)) = zs (ks.take (P * E)) := by rw [zs, ← List.map_take]
  unfold f17
  rw [f15_ok hk, Option.bind_some, if_neg (by simp), if_pos (by simp; omega), if_pos (by simp; omega), if_pos (by simp), if_neg (by simp; omega), hw, length_zs, if_neg (by simp; omega), if_pos (by omega), if_pos (by omega), if_pos (by omega), if_pos (by omega), if_pos (by omega),
    Int.toNat_natCast, Int.toNat_natCast, List.drop_zero, htk, length_zs, List.length_take, Nat.min_eq_left hPE, hl]
  simp only
  rw [if_pos (by omega), if_pos (by omega), List.take_of_length_le (by rw [length_zs]; omega), zs, ← List.map_drop]
  have := f21s_ok (zs (ks.drop (P * E))) (by rw [length_zs, List.length_drop]; omega)
  rw [zs] at this
  rw [this, Option.bind_some]

theorem hand_full {P E p : Nat} (d : List Nat) (h : p < P) : hand P d (P * E) p = zs ((List.range E).map fun i => d.getD (i * P + p) 0) := by
  unfold hand
  have key : ((List.range (P * E)).filter fun q => q % P == p) = (List.range E).map fun i => i * P + p := by
    induction E with
    | zero => simp
    | succ E ih =>
      rw [Nat.mul_succ, List.range_add, List.filter_append, ih, List.range_succ, List.map_append]
      congr 1
      rw [List.filter_map, List.map_cons, List.map_nil]
      have : (List.range P).filter ((fun q => q % P == p) ∘ (P * E + ·)) = [p] := by
        have e : ∀ q, q ∈ List.range P → ((fun q => q % P == p) ∘ (P * E + ·)) q = (q == p) := by
          intro q hq
          have := List.mem_range.1 hq
          simp only [Function.comp, Nat.mul_add_mod, Nat.mod_eq_of_lt this]
        rw [List.filter_congr e]
        have one : ∀ n, p < n → (List.range n).filter (fun q => q == p) = [p] := by
          intro n
          induction n with
          | zero => intro h; omega
          | succ n ihn =>
            intro hn
            rw [List.range_succ, List.filter_append]
            by_cases e : p = n
            · subst e
              have : (List.range p).filter (fun q => q == p) = [] := by
                rw [List.filter_eq_nil_iff]
                intro q hq
                have := List.mem_range.1 hq
                simp; omega
              rw [this]; simp
            · rw [ihn (by omega)]
              have : (n == p) = false := by simp; omega
              simp [this]
        exact one P h
      rw [this, List.map_cons, List.map_nil, Nat.mul_comm]
  rw [key, List.map_map]
  rfl

theorem l5_18_all {ks : List Nat} (h52 : ks.length ≤ 52) {P E : Nat} (hP6 : P ≤ 52) (hPE : P * E ≤ ks.length) {i : Nat} (hi : i < E) : ∀ (m p : Nat), p ≤ P → P < m + p →
    l5_18 m (E : Int) (i : Int) (hands P ks (P * E)) (P : Int) (p : Int) (zs (ks.take (i * P + p))) = some (.exit (zs (ks.take (i * P + P)), ()))
  | 0, p, h1, h2 => by omega
  | m + 1, p, h1, h2 => by
    simp only [l5_18]
    by_cases hp : p < P
    · have hlt : i * P + p < P * E := by
        have : (i + 1) * P ≤ E * P := Nat.mul_le_mul_right _ hi
        rw [Nat.add_mul, Nat.one_mul, Nat.mul_comm E P] at this
        omega
      have hfull := hand_full (E := E) ks hp
      have hlen : (hand P ks (P * E) p).length = E := by rw [hfull, length_zs, List.length_map, List.length_range]
      have hat : (hand P ks (P * E) p).getD i 0 = ((ks.getD (i * P + p) 0 : Nat) : Int) := by
        rw [hfull, getD_zs, List.getD_eq_getElem?_getD]
        simp [hi]
      have hap : zs (ks.take (i * P + p)) ++ [((ks.getD (i * P + p) 0 : Nat) : Int)] = zs (ks.take (i * P + (p + 1))) := by
        rw [← Nat.add_assoc, List.take_succ_eq_append_getElem (by omega), getD_eq ks _ 0 (by omega), zs, zs, List.map_append]
        rfl
      have htl : (zs (ks.take (i * P + p))).length ≤ 52 := by rw [length_zs, List.length_take]; omega
      rw [if_pos (by simpa using hp), if_pos (by omega), hands_length, if_pos (by omega), Int.toNat_natCast, Int.toNat_natCast, hands_at hp, hlen, if_neg (by simp), if_pos (by omega), if_pos (by omega), if_pos (by omega), hat, hap, w64 _ (by omega) (by omega), show ((p : Int) + 1) = ((p + 1 : Nat) : Int) by omega]
      exact l5_18_all h52 hP6 hPE hi m (p + 1) (by omega) (by omega)
    · obtain rfl : p = P := by omega
      rw [if_neg (by simp)]

theorem l5_15_all {ks : List Nat} (h52 : ks.length ≤ 52) {P E : Nat} (hP6 : P ≤ 52) (hE : E ≤ 52) (hPE : P * E ≤ ks.length) : ∀ (m i : Nat), i ≤ E → E + 60 < m + i →
    l5_15 m (E : Int) (hands P ks (P * E)) (E : Int) (i : Int) (zs (ks.take (i * P))) = some (.exit (zs (ks.take (E * P)), ()))
  | 0, i, h1, h2 => by omega
  | m + 1, i, h1, h2 => by
    simp only [l5_15]
    by_cases hi : i < E
    · have h18 := l5_18_all h52 hP6 hPE hi m 0 (by omega) (by omega)
      rw [Nat.add_zero] at h18
      have h18 : l5_18 m (E : Int) (i : Int) (hands P ks (P * E)) (P : Int) 0 (zs (ks.take (i * P))) = _ := h18
      rw [if_pos (by simpa using hi), hands_length, h18]
      simp only
      rw [w64 _ (by omega) (by omega), show ((i : Int) + 1) = ((i + 1 : Nat) : Int) by omega, show i * P + P = (i + 1) * P by rw [Nat.add_mul, Nat.one_mul]]
      exact l5_15_all h52 hP6 hE hPE m (i + 1) (by omega) (by omega)
    · obtain rfl : i = E := by omega
      rw [if_neg (by simp)]

theorem cardsCuts_plain : ∀ x : List Int × Int × Int × Int, WfL [.slice (.int .i64), .int .i64, .int .i64, .int .i64] x → f5 fuel x.1 x.2.1 x.2.2.1 x.2.2.2 = some true := by
  intro x _
  obtain ⟨x, a0, b0, p0⟩ := x
  have hF := fuel100
  unfold f5
  rw [f6_true]
  simp only [Option.bind_some]
  rw [if_neg (by simp)]
  rcases f15_spec x with ⟨e, h0, h⟩ | ⟨_, ks, rfl, hk⟩
  · rw [h, Option.bind_some, if_neg (by simpa using h0)]
  · have h52 := hk.1
    rw [f15_ok hk, Option.bind_some, if_pos (by simp), length_zs]
    by_cases hn : ks.length = 0
    · rw [if_pos (by rw [hn]; rfl)]
    · have h1 : IntKind.i64.wrap ((ks.length : Int) + 1) = ((ks.length + 1 : Nat) : Int) := by rw [w64 _ (by omega) (by omega)]; omega
      obtain ⟨a, ha, ea⟩ := f11_ok a0 (ks.length + 1) (by omega) (by omega)
      obtain ⟨b, hb, eb⟩ := f11_ok b0 (ks.length + 1) (by omega) (by omega)
      obtain ⟨p, hp, ep⟩ := f11_ok p0 6 (by omega) (by omega)
      have ep : f11 fuel p0 6 = some (p : Int) := ep
      have hw1 : IntKind.i64.wrap ((a : Int) + (b : Int)) = ((a + b : Nat) : Int) := by rw [w64 _ (by omega) (by omega)]; omega
      have hw2 : IntKind.i64.wrap (1 + (p : Int)) = ((p + 1 : Nat) : Int) := by rw [w64 _ (by omega) (by omega)]; omega
      have ht : ((a + b : Nat) : Int).tmod (ks.length : Int) = (((a + b) % ks.length : Nat) : Int) := (Int.ofNat_tmod _ _).symm
      have hm := Nat.mod_lt (a + b) (show 0 < ks.length by omega)
      have hE : IntKind.i64.wrap ((ks.length : Int).tdiv ((p + 1 : Nat) : Int)) = ((ks.length / (p + 1) : Nat) : Int) := by
        rw [show ((ks.length : Int).tdiv ((p + 1 : Nat) : Int)) = ((ks.length / (p + 1) : Nat) : Int) from (Int.ofNat_tdiv _ _).symm]
        have := Nat.div_le_self ks.length (p + 1)
        generalize ks.length / (p + 1) = q at this ⊢
        rw [w64 _ (by omega) (by omega)]
      have hEle := Nat.div_le_self ks.length (p + 1)
      have hPE : (p + 1) * (ks.length / (p + 1)) ≤ ks.length := Nat.mul_div_le ..
      have hra := rot_length a ks (by omega)
      rw [if_neg (by simpa using fun e => hn (by rw [e]; rfl)), h1, ea, Option.bind_some, eb, Option.bind_some, ep, Option.bind_some, cut_ok hk (by omega), Option.bind_some]
      simp only
      rw [cut_ok (deck_perm (rot_perm a ks) hk) (by omega), Option.bind_some, if_neg (by omega), hw1, ht, cut_ok hk (by omega), Option.bind_some, hw2, if_neg (by omega), hE, deal_ok hk (by omega) (by omega) (by omega) hPE, Option.bind_some]
      simp only
      rw [f9_ok _ (by simp), Option.bind_some, if_pos (by simp), f10_ok _ _ (by rw [length_zs, rot_length _ _ (by omega)]; omega), rot_rot (by omega) (by omega) (by omega), Option.bind_some, if_pos (by simp), hands_length, if_neg (by simp)]
      generalize hEd : ks.length / (p + 1) = E at hPE hEle
      have h15 := l5_15_all h52 (P := p + 1) (E := E) (by omega) (by omega) hPE fuel 0 (by omega) (by omega)
      rw [Nat.zero_mul, List.take_zero] at h15
      have h15 : l5_15 fuel (E : Int) (hands (p + 1) ks ((p + 1) * E)) (E : Int) 0 [] = _ := h15
      rw [h15]
      simp only
      have hfin : zs (ks.take (E * (p + 1))) ++ zs (ks.drop ((p + 1) * E)) = zs ks := by
        rw [Nat.mul_comm E, zs, zs, ← List.map_append, List.take_append_drop]
      rw [hfin, length_zs, length_zs, List.length_take, List.length_drop, if_pos (by omega), f10_ok _ _ (by rw [length_zs]; omega), Option.bind_some]
      simp
end Go.Proofs.YtaahakhmcodaiaaDoor
