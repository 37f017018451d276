/- The plain law of RanksMore. -/
import Derived.Test.YtinkojannlngfaaT
namespace Go.Proofs.Ytinkojannlngfaa
open Go Vm

/-- Five places in ascending order. -/
structure Comb (n : Nat) (l : List Nat) (a b c d e : Nat) : Prop where
  is : l = [a, b, c, d, e]
  ab : a < b
  bc : b < c
  cd : c < d
  de : d < e
  en : e < n
def code (l : List Nat) : Nat := match l with
  | [a, b, c, d, e] => a * 10000 + b * 1000 + c * 100 + d * 10 + e
  | _ => 0
/-- Not after it, letter by letter. -/
def le : List Nat → List Nat → Prop
  | a :: l, c :: k => a < c ∨ (a = c ∧ le l k)
  | _, _ => True
theorem le_five {a0 a1 a2 a3 a4 c0 c1 c2 c3 c4 : Nat} : le [a0, a1, a2, a3, a4] [c0, c1, c2, c3, c4] ↔ a0 < c0 ∨ (a0 = c0 ∧ (a1 < c1 ∨ (a1 = c1 ∧ (a2 < c2 ∨ (a2 = c2 ∧ (a3 < c3 ∨ (a3 = c3 ∧ (a4 < c4 ∨ a4 = c4)))))))) := by
  simp only [le, and_true]
def IsComb (n : Nat) (l : List Nat) : Prop := ∃ a b c d e, Comb n l a b c d e
theorem code_eq {n : Nat} {l : List Nat} {a b c d e : Nat} (h : Comb n l a b c d e) : code l = a * 10000 + b * 1000 + c * 100 + d * 10 + e := by rw [h.is]; rfl
def hand (ks l : List Nat) : List Nat := l.map (ks.getD · 0)

theorem comb_len {n : Nat} {l : List Nat} (h : IsComb n l) : l.length = 5 := by
  obtain ⟨a, b, c, d, e, h⟩ := h
  rw [h.is]; rfl
theorem comb_lt {n : Nat} {l : List Nat} (h : IsComb n l) : ∀ x, x ∈ l → x < n := by
  obtain ⟨a, b, c, d, e, h⟩ := h
  intro x hx
  have h1 := h.ab; have h2 := h.bc; have h3 := h.cd; have h4 := h.de; have h5 := h.en
  rw [h.is] at hx
  simp only [List.mem_cons, List.not_mem_nil, or_false] at hx
  omega
theorem comb_up {n : Nat} {l : List Nat} (h : IsComb n l) : l.Pairwise (· < ·) := by
  obtain ⟨a, b, c, d, e, h⟩ := h
  have h1 := h.ab; have h2 := h.bc; have h3 := h.cd; have h4 := h.de
  rw [h.is]
  simp only [List.pairwise_cons, List.mem_cons, List.not_mem_nil, or_false, forall_eq_or_imp, forall_eq, false_imp_iff, implies_true, List.Pairwise.nil, and_true]
  omega

theorem hand_hand {ks l : List Nat} (hd : Deck ks) (h : IsComb ks.length l) : Hand (hand ks l) := by
  have hl := comb_len h
  refine ⟨⟨by unfold hand; rw [List.length_map]; omega, fun c hc => ?_, ?_⟩, by unfold hand; rw [List.length_map]; exact hl⟩
  · obtain ⟨i, hi, rfl⟩ := List.mem_map.1 hc
    have := comb_lt h i hi
    rw [getD_eq ks i 0 this]
    exact hd.2.1 _ (List.getElem_mem _)
  · refine List.pairwise_map.2 ((comb_up h).imp_of_mem fun {i j} hi hj hlt e => ?_)
    have h1 := comb_lt h i hi
    have h2 := comb_lt h j hj
    rw [getD_eq ks i 0 h1, getD_eq ks j 0 h2] at e
    exact List.pairwise_iff_getElem.1 hd.2.2 i j h1 h2 hlt e

def val (ks l : List Nat) : Int := (f19 fuel (zs (hand ks l))).getD 0
theorem val_ok {ks l : List Nat} (hd : Deck ks) (h : IsComb ks.length l) : f19 fuel (zs (hand ks l)) = some (val ks l) ∧ 0 ≤ val ks l := by
  obtain ⟨g, n, r, _, _, n0, _, r0, _, hv⟩ := f19_ok (hand_hand hd h)
  unfold val
  rw [hv]
  exact ⟨rfl, by simp only [Option.getD_some]; omega⟩

theorem l10_13_all {ks l : List Nat} (h : IsComb ks.length l) (hk : ks.length ≤ 9) : ∀ (m i : Nat) (acc : List Nat), i ≤ l.length → l.length < m + i → acc.length = i →
    l10_13 m (zs ks) (l.length : Int) (i : Int) (zs acc) (zs l) = some (.exit (zs (acc ++ hand ks (l.drop i)), zs l, ()))
  | 0, i, acc, h1, h2, _ => by omega
  | m + 1, i, acc, h1, h2, h3 => by
    simp only [l10_13]
    have h5 := comb_len h
    by_cases hi : i < l.length
    · have hc := comb_lt h l[i] (List.getElem_mem hi)
      have ha : zs acc ++ [((ks.getD l[i] 0 : Nat) : Int)] = zs (acc ++ [ks.getD l[i] 0]) := by rw [zs, zs, List.map_append]; rfl
      rw [if_pos (by simpa using hi), if_pos (by omega), length_zs, length_zs, length_zs, if_pos (by omega), Int.toNat_natCast, getD_zs, getD_eq l i 0 hi, if_pos (by omega), if_pos (by omega), if_pos (by omega), Int.toNat_natCast, getD_zs, ha,
        w64 _ (by omega) (by omega), show ((i : Int) + 1) = ((i + 1 : Nat) : Int) by omega, l10_13_all h hk m (i + 1) _ (by omega) (by omega) (by simp; omega), List.drop_eq_getElem_cons hi]
      unfold hand
      rw [List.map_cons, List.append_assoc]
      rfl
    · rw [if_neg (by simpa using hi), List.drop_of_length_le (by omega)]
      simp [hand]

theorem l21_end (m : Nat) (s b : List Int) : l10_21 (m + 1) s (-1) b = some (.exit (-1, b, ())) := by
  simp only [l10_21]
  rw [if_neg (by simp)]
theorem l21_step {ks l : List Nat} (hl : l.length = 5) (hk : ks.length ≤ 9) (h5 : 5 ≤ ks.length) (m j : Nat) (hj : j < 5) :
    l10_21 (m + 1) (zs ks) (j : Int) (zs l) = if l.getD j 0 = ks.length - 5 + j then l10_21 m (zs ks) ((j : Int) - 1) (zs l) else some (.exit ((j : Int), zs l, ())) := by
  simp only [l10_21]
  rw [if_pos (by simp), if_pos (by omega), length_zs, length_zs, if_pos (by omega), Int.toNat_natCast, getD_zs, w64 ((ks.length : Int) - 5) (by omega) (by omega), w64 _ (by omega) (by omega), w64 ((j : Int) - 1) (by omega) (by omega)]
  generalize l.getD j 0 = q
  by_cases e : q = ks.length - 5 + j
  · rw [if_pos (by simp; omega), if_pos e]
  · rw [if_neg (by simp; omega), if_neg e]
theorem l27_end (m : Nat) (b : List Int) : l10_27 (m + 1) 5 b = some (.exit (b, ())) := by
  simp only [l10_27]
  rw [if_neg (by simp)]
theorem l27_step {l l' : List Nat} (hl : l.length = 5) (m j : Nat) (x y : Int) (hx : x = (j : Int) + 1) (hy : y = (j : Int) + 2) (hj : j < 4) (hb : l.getD j 0 < 1000) (e : l.set (j + 1) (l.getD j 0 + 1) = l') :
    l10_27 (m + 1) x (zs l) = l10_27 m y (zs l') := by
  subst hx hy e
  simp only [l10_27]
  rw [if_pos (by simp; omega), w64 ((j : Int) + 1 - 1) (by omega) (by omega), show (j : Int) + 1 - 1 = (j : Int) by omega, length_zs, if_pos (by omega), if_pos (by omega), if_pos (by omega), if_pos (by omega), Int.toNat_natCast, show ((j : Int) + 1).toNat = j + 1 by omega, getD_zs,
    w64 ((l.getD j 0 : Int) + 1) (by omega) (by omega), show ((l.getD j 0 : Nat) : Int) + 1 = ((l.getD j 0 + 1 : Nat) : Int) by omega, set_zs, w64 _ (by omega) (by omega), show (j : Int) + 1 + 1 = (j : Int) + 2 by omega]
theorem l27_4 (m a b c d e : Nat) (h : d < 1000) : l10_27 (m + 2) 4 (zs [a, b, c, d, e]) = some (.exit (zs [a, b, c, d, d + 1], ())) :=
  (l27_step (l := [a, b, c, d, e]) rfl (m + 1) 3 4 5 rfl rfl (by omega) h rfl).trans (l27_end m _)
theorem l27_3 (m a b c d e : Nat) (h : c < 900) : l10_27 (m + 3) 3 (zs [a, b, c, d, e]) = some (.exit (zs [a, b, c, c + 1, c + 1 + 1], ())) :=
  (l27_step (l := [a, b, c, d, e]) rfl (m + 2) 2 3 4 rfl rfl (by omega) (by show c < 1000; omega) rfl).trans (l27_4 m a b c (c + 1) e (by omega))
theorem l27_2 (m a b c d e : Nat) (h : b < 800) : l10_27 (m + 4) 2 (zs [a, b, c, d, e]) = some (.exit (zs [a, b, b + 1, b + 1 + 1, b + 1 + 1 + 1], ())) :=
  (l27_step (l := [a, b, c, d, e]) rfl (m + 3) 1 2 3 rfl rfl (by omega) (by show b < 1000; omega) rfl).trans (l27_3 m a b (b + 1) d e (by omega))
theorem l27_1 (m a b c d e : Nat) (h : a < 700) : l10_27 (m + 5) 1 (zs [a, b, c, d, e]) = some (.exit (zs [a, a + 1, a + 1 + 1, a + 1 + 1 + 1, a + 1 + 1 + 1 + 1], ())) :=
  (l27_step (l := [a, b, c, d, e]) rfl (m + 4) 0 1 2 rfl rfl (by omega) (by show a < 1000; omega) rfl).trans (l27_2 m a (a + 1) c d e (by omega))

/-- What comes after five places. -/
theorem next_places {ks l : List Nat} (hk : ks.length ≤ 9) (h : IsComb ks.length l) (m : Nat) :
    (l10_21 (m + 7) (zs ks) 4 (zs l) = some (.exit (-1, zs l, ())) ∧ ∀ c, IsComb ks.length c → le l c → c = l) ∨
    ∃ (i : Nat) (l' : List Nat), i < 5 ∧ l10_21 (m + 7) (zs ks) 4 (zs l) = some (.exit ((i : Int), zs l, ())) ∧ l10_27 (m + 7) ((i + 1 : Nat) : Int) (zs (l.set i (l.getD i 0 + 1))) = some (.exit (zs l', ())) ∧ l.getD i 0 < 9 ∧
      IsComb ks.length l' ∧ code l < code l' ∧ ∀ c, IsComb ks.length c → le l c → c = l ∨ le l' c := by
  obtain ⟨a0, a1, a2, a3, a4, h⟩ := h
  have q1 := h.ab; have q2 := h.bc; have q3 := h.cd; have q4 := h.de; have q5 := h.en
  have hl : l.length = 5 := by rw [h.is]; rfl
  have hcode := code_eq h
  have d4 : l.getD 4 0 = a4 := by rw [h.is]; rfl
  have d3 : l.getD 3 0 = a3 := by rw [h.is]; rfl
  have d2 : l.getD 2 0 = a2 := by rw [h.is]; rfl
  have d1 : l.getD 1 0 = a1 := by rw [h.is]; rfl
  have d0 : l.getD 0 0 = a0 := by rw [h.is]; rfl
  have n5 : 5 ≤ ks.length := by omega
  have s4 : l10_21 (m + 7) (zs ks) 4 (zs l) = _ := l21_step hl hk n5 (m + 6) 4 (by omega)
  have s3 : l10_21 (m + 6) (zs ks) 3 (zs l) = _ := l21_step hl hk n5 (m + 5) 3 (by omega)
  have s2 : l10_21 (m + 5) (zs ks) 2 (zs l) = _ := l21_step hl hk n5 (m + 4) 2 (by omega)
  have s1 : l10_21 (m + 4) (zs ks) 1 (zs l) = _ := l21_step hl hk n5 (m + 3) 1 (by omega)
  have s0 : l10_21 (m + 3) (zs ks) 0 (zs l) = _ := l21_step hl hk n5 (m + 2) 0 (by omega)
  rw [d4] at s4; rw [d3] at s3; rw [d2] at s2; rw [d1] at s1; rw [d0] at s0
  by_cases e4 : a4 = ks.length - 5 + 4
  · rw [if_pos e4] at s4
    have s4 : l10_21 (m + 7) (zs ks) 4 (zs l) = l10_21 (m + 6) (zs ks) 3 (zs l) := s4
    by_cases e3 : a3 = ks.length - 5 + 3
    · rw [if_pos e3] at s3
      have s3 : l10_21 (m + 6) (zs ks) 3 (zs l) = l10_21 (m + 5) (zs ks) 2 (zs l) := s3
      by_cases e2 : a2 = ks.length - 5 + 2
      · rw [if_pos e2] at s2
        have s2 : l10_21 (m + 5) (zs ks) 2 (zs l) = l10_21 (m + 4) (zs ks) 1 (zs l) := s2
        by_cases e1 : a1 = ks.length - 5 + 1
        · rw [if_pos e1] at s1
          have s1 : l10_21 (m + 4) (zs ks) 1 (zs l) = l10_21 (m + 3) (zs ks) 0 (zs l) := s1
          by_cases e0 : a0 = ks.length - 5 + 0
          · rw [if_pos e0] at s0
            have s0 : l10_21 (m + 3) (zs ks) 0 (zs l) = l10_21 (m + 2) (zs ks) (-1) (zs l) := s0
            left
            refine ⟨by rw [s4, s3, s2, s1, s0, l21_end], fun c ⟨c0, c1, c2, c3, c4, hc⟩ hle => ?_⟩
            have r1 := hc.ab; have r2 := hc.bc; have r3 := hc.cd; have r4 := hc.de; have r5 := hc.en
            rw [h.is, hc.is, le_five] at hle
            rw [h.is, hc.is]
            rcases hle with g | ⟨g0, g | ⟨g1, g | ⟨g2, g | ⟨g3, g | g⟩⟩⟩⟩ <;> first | (exfalso; omega) | (rw [← g0, ← g1, ← g2, ← g3, ← g])
          · rw [if_neg e0] at s0
            have k : Comb ks.length [a0 + 1, a0 + 1 + 1, a0 + 1 + 1 + 1, a0 + 1 + 1 + 1 + 1, a0 + 1 + 1 + 1 + 1 + 1] (a0 + 1) (a0 + 1 + 1) (a0 + 1 + 1 + 1) (a0 + 1 + 1 + 1 + 1) (a0 + 1 + 1 + 1 + 1 + 1) := ⟨rfl, by omega, by omega, by omega, by omega, by omega⟩
            right
            refine ⟨0, _, by omega, by rw [s4, s3, s2, s1, s0], ?_, by rw [d0]; omega, ⟨_, _, _, _, _, k⟩, by rw [hcode, code_eq k]; omega, fun c ⟨c0, c1, c2, c3, c4, hc⟩ hle => ?_⟩
            · rw [d0, h.is]; exact l27_1 (m + 2) (a0 + 1) a1 a2 a3 a4 (by omega)
            · have r1 := hc.ab; have r2 := hc.bc; have r3 := hc.cd; have r4 := hc.de; have r5 := hc.en
              rw [h.is, hc.is, le_five] at hle
              rw [h.is, hc.is, le_five]
              rcases hle with g | ⟨g0, g | ⟨g1, g | ⟨g2, g | ⟨g3, g | g⟩⟩⟩⟩ <;> first | (exfalso; omega) | (right; omega) | (left; rw [← g0, ← g1, ← g2, ← g3, ← g])
        · rw [if_neg e1] at s1
          have k : Comb ks.length [a0, a1 + 1, a1 + 1 + 1, a1 + 1 + 1 + 1, a1 + 1 + 1 + 1 + 1] a0 (a1 + 1) (a1 + 1 + 1) (a1 + 1 + 1 + 1) (a1 + 1 + 1 + 1 + 1) := ⟨rfl, by omega, by omega, by omega, by omega, by omega⟩
          right
          refine ⟨1, _, by omega, by rw [s4, s3, s2, s1], ?_, by rw [d1]; omega, ⟨_, _, _, _, _, k⟩, by rw [hcode, code_eq k]; omega, fun c ⟨c0, c1, c2, c3, c4, hc⟩ hle => ?_⟩
          · rw [d1, h.is]; exact l27_2 (m + 3) a0 (a1 + 1) a2 a3 a4 (by omega)
          · have r1 := hc.ab; have r2 := hc.bc; have r3 := hc.cd; have r4 := hc.de; have r5 := hc.en
            rw [h.is, hc.is, le_five] at hle
            rw [h.is, hc.is, le_five]
            rcases hle with g | ⟨g0, g | ⟨g1, g | ⟨g2, g | ⟨g3, g | g⟩⟩⟩⟩ <;> first | (exfalso; omega) | (right; omega) | (left; rw [← g0, ← g1, ← g2, ← g3, ← g])
      · rw [if_neg e2] at s2
        have k : Comb ks.length [a0, a1, a2 + 1, a2 + 1 + 1, a2 + 1 + 1 + 1] a0 a1 (a2 + 1) (a2 + 1 + 1) (a2 + 1 + 1 + 1) := ⟨rfl, by omega, by omega, by omega, by omega, by omega⟩
        right
        refine ⟨2, _, by omega, by rw [s4, s3, s2], ?_, by rw [d2]; omega, ⟨_, _, _, _, _, k⟩, by rw [hcode, code_eq k]; omega, fun c ⟨c0, c1, c2, c3, c4, hc⟩ hle => ?_⟩
        · rw [d2, h.is]; exact l27_3 (m + 4) a0 a1 (a2 + 1) a3 a4 (by omega)
        · have r1 := hc.ab; have r2 := hc.bc; have r3 := hc.cd; have r4 := hc.de; have r5 := hc.en
          rw [h.is, hc.is, le_five] at hle
          rw [h.is, hc.is, le_five]
          rcases hle with g | ⟨g0, g | ⟨g1, g | ⟨g2, g | ⟨g3, g | g⟩⟩⟩⟩ <;> first | (exfalso; omega) | (right; omega) | (left; rw [← g0, ← g1, ← g2, ← g3, ← g])
    · rw [if_neg e3] at s3
      have k : Comb ks.length [a0, a1, a2, a3 + 1, a3 + 1 + 1] a0 a1 a2 (a3 + 1) (a3 + 1 + 1) := ⟨rfl, by omega, by omega, by omega, by omega, by omega⟩
      right
      refine ⟨3, _, by omega, by rw [s4, s3], ?_, by rw [d3]; omega, ⟨_, _, _, _, _, k⟩, by rw [hcode, code_eq k]; omega, fun c ⟨c0, c1, c2, c3, c4, hc⟩ hle => ?_⟩
      · rw [d3, h.is]; exact l27_4 (m + 5) a0 a1 a2 (a3 + 1) a4 (by omega)
      · have r1 := hc.ab; have r2 := hc.bc; have r3 := hc.cd; have r4 := hc.de; have r5 := hc.en
        rw [h.is, hc.is, le_five] at hle
        rw [h.is, hc.is, le_five]
        rcases hle with g | ⟨g0, g | ⟨g1, g | ⟨g2, g | ⟨g3, g | g⟩⟩⟩⟩ <;> first | (exfalso; omega) | (right; omega) | (left; rw [← g0, ← g1, ← g2, ← g3, ← g])
  · rw [if_neg e4] at s4
    have k : Comb ks.length [a0, a1, a2, a3, a4 + 1] a0 a1 a2 a3 (a4 + 1) := ⟨rfl, by omega, by omega, by omega, by omega, by omega⟩
    right
    refine ⟨4, _, by omega, by rw [s4], ?_, by rw [d4]; omega, ⟨_, _, _, _, _, k⟩, by rw [hcode, code_eq k]; omega, fun c ⟨c0, c1, c2, c3, c4, hc⟩ hle => ?_⟩
    · rw [d4, h.is]
      exact l27_end (m + 6) _
    · have r1 := hc.ab; have r2 := hc.bc; have r3 := hc.cd; have r4 := hc.de; have r5 := hc.en
      rw [h.is, hc.is, le_five] at hle
      rw [h.is, hc.is, le_five]
      rcases hle with g | ⟨g0, g | ⟨g1, g | ⟨g2, g | ⟨g3, g | g⟩⟩⟩⟩ <;> first | (exfalso; omega) | (right; omega) | (left; rw [← g0, ← g1, ← g2, ← g3, ← g])

end Go.Proofs.Ytinkojannlngfaa
