/- What the Deal laws share: the seal, the seals dealt, the pick. -/
import Derived.Test.YtnlclnheakhncaaDoorCb
namespace Go.Proofs.YtnlclnheakhncaaDoor
open Go Vm

theorem fuel90 : 2 ^ 90 ≤ fuel := fuel_ge (by decide)

/-! Seals. -/
theorem add_round : ∀ (c m : Nat) (n h : Int), c ≤ 8 → c < m → ∃ h' : Int, l_deal_Seal_1__deal_Seal_1 m n ((8 - c : Nat) : Int) h = some (.exit (h', ()))
  | _, 0, _, _, _, h2 => by omega
  | 0, m + 1, n, h, h1, h2 => by
    simp only [l_deal_Seal_1__deal_Seal_1]
    exact ⟨h, by simp⟩
  | c + 1, m + 1, n, h, h1, h2 => by
    simp only [l_deal_Seal_1__deal_Seal_1]
    rw [if_pos (by simp only [decide_eq_true_eq]; omega), w64 _ (by omega) (by omega), show (((8 - (c + 1) : Nat) : Int) + 1) = ((8 - c : Nat) : Int) by omega]
    exact add_round c m _ _ (by omega) (by omega)
theorem seal_loop (l : List Int) (hs : l.length ≤ 4611686018427387904) : ∀ (m i : Nat) (h : Int), i ≤ l.length → l.length + 100 < m + i → ∃ h' : Int, l_deal_Seal_6 m l (l.length : Int) (i : Int) h = some (.exit (h', ()))
  | 0, i, h, h1, h2 => by omega
  | m + 1, i, h, h1, h2 => by
    simp only [l_deal_Seal_6]
    by_cases hi : i < l.length
    · rw [if_pos (by simpa using hi), if_pos (by omega), if_pos (by omega)]
      obtain ⟨h', e⟩ := add_round 8 m (IntKind.u64.wrap (l.getD (i : Int).toNat 0)) h (by omega) (by omega)
      have e : l_deal_Seal_1__deal_Seal_1 m _ 0 h = _ := e
      rw [e, w64 _ (by omega) (by omega), show ((i : Int) + 1) = ((i + 1 : Nat) : Int) by omega]
      exact seal_loop l hs m (i + 1) h' (by omega) (by omega)
    · rw [if_neg (by simpa using hi)]
      exact ⟨h, rfl⟩
theorem seal_ok (l : List Int) (s : Int) (hs : l.length ≤ 4611686018427387904) : ∃ v : Int, f_deal_Seal fuel l s = some v := by
  unfold f_deal_Seal
  have hf := fuel90
  obtain ⟨h1, e1⟩ := add_round 8 fuel (IntKind.u64.wrap s) 14695981039346656037 (by omega) (by omega)
  have e1 : l_deal_Seal_1__deal_Seal_1 fuel (IntKind.u64.wrap s) 0 14695981039346656037 = _ := e1
  obtain ⟨h2, e2⟩ := add_round 8 fuel (IntKind.u64.wrap (l.length : Int)) h1 (by omega) (by omega)
  have e2 : l_deal_Seal_1__deal_Seal_1 fuel (IntKind.u64.wrap (l.length : Int)) 0 h1 = _ := e2
  obtain ⟨h3, e3⟩ := seal_loop l hs fuel 0 h2 (by omega) (by omega)
  have e3 : l_deal_Seal_6 fuel l (l.length : Int) 0 h2 = _ := e3
  rw [e1]
  simp only
  rw [e2]
  simp only
  rw [e3]
  exact ⟨h3, rfl⟩

/-! Who has sealed. -/
theorem indexB_loop (l : List Bool) (hs : l.length ≤ 1000) : ∀ (m i : Nat), i ≤ l.length → l.length < m + i →
    (false ∉ l.drop i ∧ l_slices_Index_bool_2 m l false (l.length : Int) (i : Int) = some (.exit ())) ∨ (false ∈ l.drop i ∧ ∃ j : Nat, l_slices_Index_bool_2 m l false (l.length : Int) (i : Int) = some (.ret ((j : Int), ())))
  | 0, i, h1, h2 => by omega
  | m + 1, i, h1, h2 => by
    simp only [l_slices_Index_bool_2]
    by_cases hi : i < l.length
    · rw [if_pos (by simpa using hi), if_pos (by omega), if_pos (by omega), Int.toNat_natCast, getD_eq l i _ hi, List.drop_eq_getElem_cons hi, w64 _ (by omega) (by omega), show ((i : Int) + 1) = ((i + 1 : Nat) : Int) by omega]
      cases hl : l[i] with
      | false => rw [if_pos (by rfl)]; exact .inr ⟨List.mem_cons_self .., i, rfl⟩
      | true =>
        rw [if_neg (by decide)]
        rcases indexB_loop l hs m (i + 1) (by omega) (by omega) with ⟨h, e⟩ | ⟨h, e⟩
        · exact .inl ⟨fun hm => by rcases List.mem_cons.1 hm with hm | hm; cases hm; exact h hm, e⟩
        · exact .inr ⟨List.mem_cons_of_mem _ h, e⟩
    · rw [if_neg (by simpa using hi), List.drop_of_length_le (by omega)]
      exact .inl ⟨by simp, rfl⟩
theorem containsB (l : List Bool) (hs : l.length ≤ 1000) : f_slices_Contains_bool fuel l false = some (decide (false ∈ l)) := by
  unfold f_slices_Contains_bool f_slices_Index_bool
  have hf := fuel90
  rcases indexB_loop l hs fuel 0 (by omega) (by omega) with ⟨h, e⟩ | ⟨h, j, e⟩
  · have e : l_slices_Index_bool_2 fuel l false (l.length : Int) 0 = _ := e
    rw [List.drop_zero] at h
    rw [e]
    simp [h]
  · have e : l_slices_Index_bool_2 fuel l false (l.length : Int) 0 = _ := e
    rw [List.drop_zero] at h
    rw [e]
    simp [h]
/-- The first i of L. -/
def sd (L i : Nat) : List Bool := List.replicate i true ++ List.replicate (L - i) false
theorem sd_length {L i : Nat} (h : i ≤ L) : (sd L i).length = L := by simp [sd]; omega
theorem sd_cut {L i : Nat} (h : i < L) : sd L i = List.replicate i true ++ false :: List.replicate (L - i - 1) false := by
  unfold sd
  rw [show L - i = (L - i - 1) + 1 by omega, List.replicate_succ]
  rfl
theorem sd_at {L i : Nat} (h : i < L) : (sd L i).getD i false = false := by
  rw [sd_cut h]
  have := getD_mid (List.replicate i true) false (List.replicate (L - i - 1) false) false
  rwa [List.length_replicate] at this
theorem sd_set {L i : Nat} (h : i < L) : (sd L i).set i true = sd L (i + 1) := by
  rw [sd_cut h]
  have := set_mid (List.replicate i true) false (List.replicate (L - i - 1) false) true
  rw [List.length_replicate] at this
  rw [this, sd, List.replicate_succ', show L - (i + 1) = L - i - 1 by omega, List.append_assoc]
  rfl
theorem sd_mem {L i : Nat} : false ∈ sd L i ↔ i < L := by
  unfold sd
  simp only [List.mem_append, List.mem_replicate]
  constructor
  · rintro (⟨_, h⟩ | ⟨h, _⟩)
    · cases h
    · omega
  · intro h; exact .inr ⟨by omega, trivial⟩

theorem pick_ok (a : Int) {n : Nat} (h0 : 0 < n) (h : n ≤ 1000000) : ∃ r : Nat, r < n ∧ f_gamehallkeep2_pick fuel a (n : Int) = some (r : Int) := by
  unfold f_gamehallkeep2_pick
  have hw : 0 ≤ IntKind.u64.wrap a := by simp [IntKind.wrap, IntKind.bits, IntKind.signed]; omega
  obtain ⟨x, hx⟩ := Int.eq_ofNat_of_zero_le hw
  refine ⟨x % n, Nat.mod_lt _ h0, ?_⟩
  have hm := Nat.mod_lt x h0
  rw [Go.IntWalk.u64_in _ (by omega), if_neg (by omega), hx, show ((x : Int).tmod (n : Int)) = ((x % n : Nat) : Int) from (Int.ofNat_tmod x n).symm, w64 _ (by omega) (by omega)]
theorem dealFact_true' : f_gamehallkeep2_dealFact fuel = some true := by kernel_rfl

end Go.Proofs.YtnlclnheakhncaaDoor
