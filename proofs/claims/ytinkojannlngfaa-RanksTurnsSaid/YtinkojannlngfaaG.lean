/- The groups of a hand. -/
import Derived.Test.YtinkojannlngfaaL
namespace Go.Proofs.Ytinkojannlngfaa
open Go Vm

/-- How many cards of each rank. -/
def rc (ks : List Nat) : Nat → Nat := cnt (ks.map (· % 13))

theorem f29_ok (c : Nat) : f29 fuel (c : Int) = some ((c % 13 : Nat) : Int) := by
  unfold f29
  rw [show ((c : Int).tmod 13) = ((c % 13 : Nat) : Int) from (Int.ofNat_tmod c 13).symm]

theorem rc_drop {ks : List Nat} {i : Nat} (hi : i < ks.length) (c : Nat) : rc (ks.drop i) c = rc (ks.drop (i + 1)) c + if c = ks[i] % 13 then 1 else 0 := by
  unfold rc
  rw [List.drop_eq_getElem_cons hi, List.map_cons, cnt_cons_eq]

theorem l18_3_all (ks : List Nat) (hl : ks.length ≤ 52) : ∀ (m i : Nat) (f : Nat → Nat), i ≤ ks.length → ks.length < m + i → (∀ c, f c ≤ i) →
    l18_3 m (zs ks) (ks.length : Int) (i : Int) (zs (vec 13 f)) = some (.exit (zs (vec 13 fun c => f c + rc (ks.drop i) c), ()))
  | 0, i, f, h1, h2, _ => by omega
  | m + 1, i, f, h1, h2, hf => by
    simp only [l18_3]
    by_cases hi : i < ks.length
    · have hc : ks[i] % 13 < 13 := Nat.mod_lt _ (by decide)
      rw [if_pos (by simpa using hi), if_pos (by omega), length_zs, if_pos (by omega), Int.toNat_natCast, getD_zs, getD_eq ks i 0 hi, f29_ok, Option.bind_some, if_pos (by omega), if_pos (by omega), if_pos (by omega), if_pos (by omega),
        Int.toNat_natCast, getD_zs, vec_getD _ _ _ hc, w64 _ (by omega) (by omega)]
      have := hf (ks[i] % 13)
      rw [w64 _ (by omega) (by omega), show ((f (ks[i] % 13) : Nat) : Int) + 1 = ((f (ks[i] % 13) + 1 : Nat) : Int) by omega, set_zs, vec_set, show ((i : Int) + 1) = ((i + 1 : Nat) : Int) by omega]
      rw [l18_3_all ks hl m (i + 1) (upd f (ks[i] % 13) (f (ks[i] % 13) + 1)) (by omega) (by omega) (fun c => by unfold upd; split <;> (have := hf c; omega))]
      congr 4
      apply vec_congr
      intro c _
      rw [rc_drop hi]
      unfold upd
      split
      · rename_i e; subst e; omega
      · omega
    · rw [if_neg (by simpa using hi), List.drop_of_length_le (by omega)]
      simp [rc, cnt]

/-- The ranks that a hand has, from the highest one on. -/
def gl (f : Nat → Nat) : Nat → List (Int × Int)
  | 0 => []
  | j + 1 => (if 0 < f j then [((f j : Int), (j : Int))] else []) ++ gl f j

theorem gl_length (f : Nat → Nat) : ∀ j, (gl f j).length ≤ j
  | 0 => Nat.le_refl _
  | j + 1 => by
    simp only [gl, List.length_append]
    have := gl_length f j
    split
    · simp; omega
    · simp; omega
theorem gl_mem {f : Nat → Nat} {x : Int × Int} : ∀ {j}, x ∈ gl f j → ∃ i, i < j ∧ x = ((f i : Int), (i : Int)) ∧ 0 < f i
  | 0, h => by cases h
  | j + 1, h => by
    simp only [gl, List.mem_append] at h
    rcases h with h | h
    · split at h
      · rename_i h0
        exact ⟨j, Nat.lt_succ_self j, by simpa using h, h0⟩
      · cases h
    · obtain ⟨i, h1, h2⟩ := gl_mem h
      exact ⟨i, by omega, h2⟩
def sum1 (l : List (Int × Int)) : Int := (l.map (·.1)).sum
theorem gl_sum (f : Nat → Nat) : ∀ j, sum1 (gl f j) = ((sumTo j f : Nat) : Int)
  | 0 => rfl
  | j + 1 => by
    have ih := gl_sum f j
    unfold sum1 at ih ⊢
    simp only [gl, sumTo, List.map_append, List.sum_append_int]
    rw [ih]
    split
    · simp; omega
    · rename_i h
      simp; omega

theorem l18_9_all (f : Nat → Nat) : ∀ (m j : Nat) (acc : List (Int × Int)), j ≤ 13 → j < m → acc.length + j ≤ 13 →
    l18_9 m ((j : Int) - 1) (zs (vec 13 f)) acc = some (.exit (acc ++ gl f j, zs (vec 13 f), ()))
  | 0, j, acc, h1, h2, _ => by omega
  | m + 1, 0, acc, h1, h2, h3 => by
    simp only [l18_9]
    rw [if_neg (by simp)]
    simp [gl]
  | m + 1, j + 1, acc, h1, h2, h3 => by
    simp only [l18_9]
    rw [show ((j + 1 : Nat) : Int) - 1 = (j : Int) by omega, if_pos (by simp), if_pos (by omega), if_pos (by omega), Int.toNat_natCast, getD_zs, vec_getD _ _ _ (by omega), w64 _ (by omega) (by omega)]
    by_cases h0 : 0 < f j
    · rw [if_pos (by simpa using h0), if_pos (by omega), if_pos (by omega), if_pos (by omega), l18_9_all f m j _ (by omega) (by omega) (by simp; omega)]
      simp [gl, h0]
    · rw [if_neg (by simpa using h0), l18_9_all f m j _ (by omega) (by omega) (by omega)]
      simp [gl, h0]

/-! Insertion. -/
theorem l38_4_all : ∀ (m j : Nat) (b : List (Int × Int)), j < b.length → j < m → b.length ≤ 13 → ∃ b', l38_36_30_18_4 m 0 (j : Int) b = some (.exit (b', ())) ∧ b'.Perm b
  | 0, j, b, _, h, _ => by omega
  | m + 1, 0, b, h1, h2, h3 => by
    simp only [l38_36_30_18_4]
    rw [if_neg (by simp)]
    exact ⟨b, rfl, .refl _⟩
  | m + 1, j + 1, b, h1, h2, h3 => by
    simp only [l38_36_30_18_4, List.length_set]
    rw [w64 (((j + 1 : Nat) : Int) - 1) (by omega) (by omega), show ((j + 1 : Nat) : Int) - 1 = (j : Int) by omega, if_pos (by simp), if_pos (by omega), if_pos (by omega), if_pos (by omega), if_pos (by omega)]
    split
    · rw [if_pos (by omega), if_pos (by omega), if_pos (by omega), if_pos (by omega), if_pos (by omega), if_pos (by omega), if_pos (by omega), if_pos (by omega), Int.toNat_natCast, Int.toNat_natCast, getD_eq b j _ (by omega), getD_eq b (j + 1) _ h1]
      obtain ⟨b', g1, g2⟩ := l38_4_all m j ((b.set (j + 1) b[j]).set j b[j + 1]) (by simp; omega) (by omega) (by simpa using h3)
      exact ⟨b', g1, g2.trans (List.set_set_perm h1 (by omega))⟩
    · exact ⟨b, rfl, .refl _⟩

theorem l38_1_all : ∀ (m i : Nat) (b : List (Int × Int)), 1 ≤ i → i ≤ b.length + 1 → b.length + 20 < m + i → b.length ≤ 13 → ∃ b', l38_36_30_18_1 m 0 (b.length : Int) (i : Int) b = some (.exit (b', ())) ∧ b'.Perm b
  | 0, i, b, _, h1, h2, _ => by omega
  | m + 1, i, b, h0, h1, h2, h3 => by
    simp only [l38_36_30_18_1]
    by_cases hi : i < b.length
    · obtain ⟨b', g1, g2⟩ := l38_4_all m i b hi (by omega) h3
      have hl := g2.length_eq
      obtain ⟨b2, k1, k2⟩ := l38_1_all m (i + 1) b' (by omega) (by omega) (by omega) (by omega)
      rw [if_pos (by simpa using hi), g1]
      simp only
      rw [w64 _ (by omega) (by omega), show ((i : Int) + 1) = ((i + 1 : Nat) : Int) by omega, ← hl, k1]
      exact ⟨b2, rfl, k2.trans g2⟩
    · rw [if_neg (by simpa using hi)]
      exact ⟨b, rfl, .refl _⟩

/-- What groups makes of the counts. -/
def grp (v : List Int) : Option (List (Int × Int)) :=
  match l18_9 fuel 12 v [] with
    | none => none
    | some (.exit d2) =>
      match l36_30_18_2 fuel (d2.1.length : Int) 20 0 20 d2.1 with
      | none => none
      | some (.exit d3) =>
        match l38_36_30_18_1 fuel d3.1 (d2.1.length : Int) (IntKind.i64.wrap (d3.1 + 1)) d3.2.1 with
        | none => none
        | some (.exit d4) =>
          match l36_30_18_7 fuel (d2.1.length : Int) 20 d4.1 with
          | none => none
          | some (.exit d5) =>
            some d5.1
          | some (.ret _) =>
            none
        | some (.ret _) =>
          none
      | some (.ret _) =>
        none
    | some (.ret _) =>
      none

theorem f18_ok {ks : List Nat} (hl : ks.length ≤ 52) : f18 fuel (zs ks) = grp (zs (vec 13 (rc ks))) := by
  have hf := fuel100
  have h := l18_3_all ks hl fuel 0 (fun _ => 0) (by omega) (by omega) (fun _ => Nat.le_refl _)
  have h : l18_3 fuel (zs ks) (ks.length : Int) 0 (zs (vec 13 fun _ => 0)) = _ := h
  unfold f18
  rw [length_zs, rep_vec, h]
  simp only [Nat.zero_add, List.drop_zero]
  rfl

theorem grp_ok (f : Nat → Nat) : ∃ g, grp (zs (vec 13 f)) = some g ∧ g.Perm (gl f 13) := by
  have hf := fuel100
  have h9 := l18_9_all f fuel 13 [] (by omega) (by omega) (by simp)
  have h9 : l18_9 fuel 12 (zs (vec 13 f)) [] = _ := h9
  have hlen := gl_length f 13
  unfold grp
  rw [h9]
  simp only [List.nil_append]
  obtain ⟨m, hm⟩ := fuel_split (n := 1) (by decide)
  have h2 : l36_30_18_2 fuel ((gl f 13).length : Int) 20 0 20 (gl f 13) = some (.exit (0, gl f 13, ())) := by
    rw [hm]
    simp only [l36_30_18_2]
    rw [if_neg (by simp; omega)]
  rw [h2]
  simp only
  obtain ⟨b, k1, k2⟩ := l38_1_all fuel 1 (gl f 13) (by omega) (by omega) (by omega) hlen
  have k1 : l38_36_30_18_1 fuel 0 ((gl f 13).length : Int) (IntKind.i64.wrap (0 + 1)) (gl f 13) = _ := k1
  rw [k1]
  simp only
  have h7 : l36_30_18_7 fuel ((gl f 13).length : Int) 20 b = some (.exit (b, ())) := by
    rw [hm]
    simp only [l36_30_18_7]
    rw [if_neg (by simp; omega)]
  rw [h7]
  exact ⟨b, rfl, k2⟩

end Go.Proofs.Ytinkojannlngfaa
