/- What the functions of package index come to. -/
import Derived.Test.YtpcmofalfjgmmaaPf
import Derived.Test.YtpcmofalfjgmmaaM
namespace Go.Proofs.Ytpcmofalfjgmmaa
open Go Vm

/-! Check. -/
theorem l15_all (l : List Int) (hl : l.length ≤ 16) : ∀ (m i : Nat), i ≤ l.length → l.length < m + i →
    (l15_4 m l (l.length : Int) (i : Int) = some (.exit ()) ∧ ∀ x, x ∈ l.drop i → 0 ≤ x ∧ x ≤ 6) ∨ l15_4 m l (l.length : Int) (i : Int) = some (.ret (4, ()))
  | 0, i, h1, h2 => by omega
  | m + 1, i, h1, h2 => by
    simp only [l15_4]
    by_cases hi : i < l.length
    · rw [if_pos (by simpa using hi), if_pos (by omega), if_pos (by omega), Int.toNat_natCast, getD_eq l i 0 hi]
      by_cases h3 : l[i] < 0
      · right; rw [if_neg (by simp [h3])]
      · rw [if_pos (by simp; omega)]
        by_cases h4 : l[i] > 6
        · right; rw [if_pos (by simpa using h4)]
        · rw [if_neg (by simpa using h4), w64 _ (by omega) (by omega)]
          have := l15_all l hl m (i + 1) (by omega) (by omega)
          rw [show ((i : Int) + 1) = ((i + 1 : Nat) : Int) by omega]
          rcases this with ⟨g1, g2⟩ | g
          · left
            refine ⟨g1, fun x hx => ?_⟩
            rw [List.drop_eq_getElem_cons hi] at hx
            rcases List.mem_cons.1 hx with rfl | hx
            · omega
            · exact g2 x hx
          · exact .inr g
    · left
      rw [if_neg (by simpa using hi)]
      exact ⟨rfl, fun x hx => by rw [List.drop_of_length_le (by omega)] at hx; cases hx⟩

/-- A placement that Check takes. -/
def Valid (ks : List Nat) : Prop := ks.length ≤ 16 ∧ ∀ c, c ∈ ks → c < 7

theorem f15_spec (k : Nat) (hk : 100 ≤ k) (l : List Int) : (∃ e, e ≠ 0 ∧ f15 k l = some e) ∨ (f15 k l = some 0 ∧ ∃ ks, l = zs ks ∧ Valid ks) := by
  unfold f15
  by_cases h : l.length ≤ 16
  · rw [if_neg (by simp; omega)]
    rcases l15_all l h k 0 (by omega) (by omega) with ⟨g1, g2⟩ | g
    · right
      have g1 : l15_4 k l (l.length : Int) 0 = some (.exit ()) := g1
      rw [g1]
      refine ⟨rfl, ?_⟩
      rw [List.drop_zero] at g2
      obtain ⟨ks, rfl⟩ := exists_zs fun x hx => (g2 x hx).1
      refine ⟨ks, rfl, by simpa using h, fun c hc => ?_⟩
      have := g2 (Int.ofNat c) (List.mem_map_of_mem hc)
      have h2 : (c : Int) ≤ 6 := this.2
      omega
    · left
      have g : l15_4 k l (l.length : Int) 0 = some (.ret (4, ())) := g
      rw [g]
      exact ⟨4, by decide, rfl⟩
  · left
    rw [if_pos (by simp; omega)]
    exact ⟨2, by decide, rfl⟩

theorem f15_ok (k : Nat) (hk : 100 ≤ k) {ks : List Nat} (h : Valid ks) : f15 k (zs ks) = some 0 := by
  have hl : (zs ks).length ≤ 16 := by rw [length_zs]; exact h.1
  unfold f15
  rw [if_neg (by simp; have := h.1; omega)]
  rcases l15_all (zs ks) hl k 0 (by omega) (by omega) with ⟨g1, _⟩ | g
  · have g1 : l15_4 k (zs ks) ((zs ks).length : Int) 0 = some (.exit ()) := g1
    rw [g1]
  · exfalso
    have key : ∀ (m i : Nat), i ≤ ks.length → ks.length < m + i → l15_4 m (zs ks) ((zs ks).length : Int) (i : Int) ≠ some (.ret (4, ())) := by
      intro m
      induction m with
      | zero => intro i h1 h2; omega
      | succ m ih =>
        intro i h1 h2 e
        simp only [l15_4] at e
        rw [length_zs] at e
        by_cases hi : i < ks.length
        · have hc := h.2 ks[i] (List.getElem_mem hi)
          rw [if_pos (by simpa using hi), if_pos (by omega), if_pos (by omega), Int.toNat_natCast, getD_zs, getD_eq ks i 0 hi, if_pos (by simp), if_neg (by simp; omega), w64 _ (by have := h.1; omega) (by have := h.1; omega)] at e
          refine ih (i + 1) (by omega) (by omega) ?_
          rw [length_zs]
          exact e
        · rw [if_neg (by simpa using hi)] at e; cases e
    exact key k 0 (by omega) (by have := h.1; omega) g

/-! Counts. -/
theorem l17_all (ks : List Nat) (h : Valid ks) : ∀ (m i : Nat) (f : Nat → Nat), i ≤ ks.length → ks.length < m + i → (∀ c, f c ≤ i) →
    l17_3 m (zs ks) (ks.length : Int) (i : Int) (zs (vec 7 f)) = some (.exit (zs (vec 7 fun c => f c + cnt (ks.drop i) c), ()))
  | 0, i, f, h1, h2, _ => by omega
  | m + 1, i, f, h1, h2, hf => by
    simp only [l17_3]
    have hl := h.1
    by_cases hi : i < ks.length
    · have hc := h.2 ks[i] (List.getElem_mem hi)
      rw [if_pos (by simpa using hi), if_pos (by omega), length_zs, length_zs, vec_length, if_pos (by omega), Int.toNat_natCast, getD_zs, getD_eq ks i 0 hi, if_pos (by omega), if_pos (by omega), if_pos (by omega), if_pos (by omega),
        Int.toNat_natCast, getD_zs, vec_getD _ _ _ hc, w64 _ (by omega) (by omega)]
      have := hf ks[i]
      rw [w64 _ (by omega) (by omega), show ((f ks[i] : Nat) : Int) + 1 = ((f ks[i] + 1 : Nat) : Int) by omega, set_zs, vec_set, show ((i : Int) + 1) = ((i + 1 : Nat) : Int) by omega]
      rw [l17_all ks h m (i + 1) (upd f ks[i] (f ks[i] + 1)) (by omega) (by omega) (fun c => by unfold upd; split <;> (have := hf c; omega))]
      congr 4
      apply vec_congr
      intro c _
      have e1 : cnt (ks.drop i) c = cnt (ks.drop (i + 1)) c + if c = ks[i] then 1 else 0 := by
        unfold cnt
        rw [List.drop_eq_getElem_cons hi, List.count_cons]
        by_cases e : c = ks[i]
        · subst e; simp
        · have e' : ks[i] ≠ c := fun h => e h.symm
          simp only [e, beq_iff_eq, e', if_false]
      rw [e1]
      unfold upd
      split
      · rename_i e; subst e; omega
      · omega
    · rw [if_neg (by simpa using hi), List.drop_of_length_le (by omega)]
      simp [cnt]

theorem rep_vec (n : Nat) : List.replicate n (0 : Int) = zs (vec n fun _ => 0) := by
  induction n with
  | zero => rfl
  | succ n ih => rw [List.replicate_succ', ih, vec_succ, zs, zs, List.map_append]; rfl

theorem f17_ok (k : Nat) (hk : 100 ≤ k) {ks : List Nat} (h : Valid ks) : f17 k (zs ks) = some (zs (vec 7 (cnt ks))) := by
  unfold f17
  have := l17_all ks h k 0 (fun _ => 0) (by omega) (by have := h.1; omega) (fun _ => by omega)
  rw [rep_vec, length_zs]
  have this : l17_3 k (zs ks) (ks.length : Int) 0 (zs (vec 7 fun _ => 0)) = _ := this
  rw [this]
  simp

/-! CheckCounts and Count. -/
theorem l16_all (v : List Nat) (hv : v.sum ≤ 16) (hl : v.length ≤ 16) : ∀ (m i s : Nat), i ≤ v.length → v.length < m + i → s ≤ 16 → s + (v.drop i).sum ≤ 16 →
    l16_5 m (s : Int) (zs v) (v.length : Int) (i : Int) = some (.exit (((s + (v.drop i).sum : Nat) : Int), ()))
  | 0, i, s, h1, h2, _, _ => by omega
  | m + 1, i, s, h1, h2, h3, h4 => by
    simp only [l16_5]
    by_cases hi : i < v.length
    · have e : (v.drop i).sum = v[i] + (v.drop (i + 1)).sum := by rw [List.drop_eq_getElem_cons hi, List.sum_cons]
      rw [if_pos (by simpa using hi), if_pos (by omega), length_zs, if_pos (by omega), Int.toNat_natCast, getD_zs, getD_eq v i 0 hi, if_pos (by simp), if_neg (by simp; omega), w64 _ (by omega) (by omega), w64 _ (by omega) (by omega),
        show ((s : Int) + (v[i] : Nat)) = ((s + v[i] : Nat) : Int) by omega, show ((i : Int) + 1) = ((i + 1 : Nat) : Int) by omega, l16_all v hv hl m (i + 1) (s + v[i]) (by omega) (by omega) (by omega) (by omega), e]
      congr 4
      omega
    · rw [if_neg (by simpa using hi), List.drop_of_length_le (by omega)]
      simp

theorem f16_ok (k : Nat) (hk : 100 ≤ k) {v : List Nat} (h7 : v.length = 7) (hv : v.sum ≤ 16) : f16 k (zs v) = some 0 := by
  unfold f16
  have h := l16_all v hv (by omega) k 0 0 (by omega) (by omega) (by omega) (by simpa using hv)
  have h : l16_5 k 0 (zs v) (v.length : Int) 0 = _ := h
  rw [length_zs, if_neg (by simp [h7]), h]
  simp only [List.drop_zero, Nat.zero_add]
  rw [if_neg (by simp; omega)]

theorem fact16 : fact 16 = 20922789888000 := by decide

theorem l18_6_all (o p n : Nat) (ho : o ≤ fact p) (hp : p + n ≤ 16) : ∀ (m j : Nat), j ≤ n → n < m + j →
    l18_6 m ((o * choose (p + j) j : Nat) : Int) ((p + j : Nat) : Int) (n : Int) ((j + 1 : Nat) : Int) = some (.exit (((o * choose (p + n) n : Nat) : Int), ((p + n : Nat) : Int), ()))
  | 0, j, h1, h2 => by omega
  | m + 1, j, h1, h2 => by
    simp only [l18_6]
    by_cases hj : j < n
    · have hb : o * choose (p + j) j ≤ 20922789888000 := by
        rw [← fact16]
        have h1 : o * choose (p + j) j ≤ fact p * choose (p + j) j := Nat.mul_le_mul_right _ ho
        have h2 := choose_fact p j
        have h3 : fact p * choose (p + j) j ≤ choose (p + j) j * fact j * fact p := by
          rw [Nat.mul_comm (fact p), Nat.mul_right_comm]
          exact Nat.le_mul_of_pos_right _ (fact_pos j)
        have h4 : fact (p + j) ≤ fact 16 := fact_mono (by omega)
        omega
      have hc := choose_succ (p + j) j
      have hm : ((o * choose (p + j) j : Nat) : Int) * (((p + j : Nat) : Int) + 1) = ((o * choose (p + j + 1) (j + 1) : Nat) : Int) * ((j + 1 : Nat) : Int) := by
        have : o * choose (p + j) j * (p + j + 1) = o * choose (p + j + 1) (j + 1) * (j + 1) := by
          rw [Nat.mul_assoc, Nat.mul_assoc, hc]
        have h : ((o * choose (p + j) j * (p + j + 1) : Nat) : Int) = ((o * choose (p + j + 1) (j + 1) * (j + 1) : Nat) : Int) := by rw [this]
        rw [Int.natCast_mul, Int.natCast_mul (o * choose (p + j + 1) (j + 1))] at h
        exact h
      have hb2 : o * choose (p + j + 1) (j + 1) * (j + 1) ≤ 20922789888000 * 16 := by
        rw [Nat.mul_assoc, hc, ← Nat.mul_assoc]
        exact Nat.mul_le_mul hb (by omega)
      have hb3 : o * choose (p + j + 1) (j + 1) ≤ 20922789888000 * 16 := Nat.le_trans (Nat.le_mul_of_pos_right _ (by omega)) hb2
      rw [if_pos (by simp; omega), if_neg (by omega), w64 (((p + j : Nat) : Int) + 1) (by omega) (by omega), hm, w64 (_ * _) (by
          rw [← Int.natCast_mul]; omega) (by rw [← Int.natCast_mul]; omega), Int.mul_tdiv_cancel _ (by omega), w64 _ (by omega) (by omega), w64 _ (by omega) (by omega)]
      have := l18_6_all o p n ho hp m (j + 1) (by omega) (by omega)
      rw [show p + (j + 1) = p + j + 1 from rfl] at this
      exact this
    · obtain rfl : j = n := by omega
      rw [if_neg (by simp; omega)]

theorem l18_3_all (v : List Nat) (hl : v.length ≤ 16) : ∀ (m i p o : Nat), i ≤ v.length → v.length + 20 < m + i → o ≤ fact p → p + (v.drop i).sum ≤ 16 →
    l18_3 m (o : Int) (p : Int) (zs v) (v.length : Int) (i : Int) = some (.exit ((manyFrom (v.drop i) p o : Nat), ()))
  | 0, i, p, o, h1, h2, _, _ => by omega
  | m + 1, i, p, o, h1, h2, ho, hp => by
    simp only [l18_3]
    by_cases hi : i < v.length
    · have e : v.drop i = v[i] :: v.drop (i + 1) := List.drop_eq_getElem_cons hi
      rw [e, List.sum_cons] at hp
      have hin := l18_6_all o p v[i] ho (by omega) m 0 (by omega) (by omega)
      simp only [Nat.add_zero, choose, Nat.mul_one, Nat.zero_add] at hin
      have hin : l18_6 m (o : Int) (p : Int) (v[i] : Int) 1 = _ := hin
      rw [if_pos (by simpa using hi), if_pos (by omega), length_zs, if_pos (by omega), Int.toNat_natCast, getD_zs, getD_eq v i 0 hi, hin]
      simp only
      rw [w64 _ (by omega) (by omega), show ((i : Int) + 1) = ((i + 1 : Nat) : Int) by omega, l18_3_all v hl m (i + 1) (p + v[i]) (o * choose (p + v[i]) v[i]) (by omega) (by omega) ?_ (by omega), e]
      · rfl
      · have h2 := choose_fact p v[i]
        have h1 : o * choose (p + v[i]) v[i] ≤ fact p * choose (p + v[i]) v[i] := Nat.mul_le_mul_right _ ho
        have h3 : fact p * choose (p + v[i]) v[i] ≤ choose (p + v[i]) v[i] * fact v[i] * fact p := by
          rw [Nat.mul_comm (fact p), Nat.mul_right_comm]
          exact Nat.le_mul_of_pos_right _ (fact_pos _)
        omega
    · rw [if_neg (by simpa using hi), List.drop_of_length_le (by omega)]
      rfl

theorem f18_ok (k : Nat) (hk : 100 ≤ k) {v : List Nat} (h7 : v.length ≤ 16) (hv : v.sum ≤ 16) : f18 k (zs v) = some ((many v : Nat) : Int) := by
  unfold f18
  have h := l18_3_all v h7 k 0 0 1 (by omega) (by omega) (by decide) (by simpa using hv)
  have h : l18_3 k 1 0 (zs v) (v.length : Int) 0 = _ := h
  rw [length_zs, h]
  rfl

theorem many_small {v : List Nat} (hv : v.sum ≤ 16) : many v ≤ 20922789888000 := by
  rw [← fact16]
  exact Nat.le_trans (many_le v) (fact_mono hv)

end Go.Proofs.Ytpcmofalfjgmmaa
