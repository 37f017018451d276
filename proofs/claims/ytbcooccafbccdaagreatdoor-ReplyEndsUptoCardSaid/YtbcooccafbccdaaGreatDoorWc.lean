/- The probabilities of the ends, and their sums. -/
import Derived.Test.YtbcooccafbccdaaGreatDoorWb
import Derived.Test.YtbcooccafbccdaaGreatDoorWp
namespace Go.Proofs.YtbcooccafbccdaaGreatDoor
open Go Vm

/-! Sums of lists. -/
theorem psum_mul' (v : Rat) : ∀ l : List Rat, psum (l.map (v * ·)) = v * psum l
  | [] => by simp only [List.map_nil, psum]; grind
  | a :: l => by rw [List.map_cons, psum, psum_mul' v l, psum]; grind
theorem psum_nonneg : ∀ {l : List Rat}, (∀ r, r ∈ l → 0 ≤ r) → 0 ≤ psum l
  | [], _ => by simp only [psum]; exact Rat.le_refl
  | a :: l, h => by
    have h1 := psum_nonneg (l := l) fun r hr => h r (List.mem_cons_of_mem _ hr)
    have h2 := h a (List.mem_cons_self ..)
    rw [psum]; grind
theorem psum_mem : ∀ {l : List Rat}, (∀ r, r ∈ l → 0 ≤ r) → ∀ {r : Rat}, r ∈ l → r ≤ psum l
  | a :: l, h, r, hr => by
    have h1 := psum_nonneg (l := l) fun r hr => h r (List.mem_cons_of_mem _ hr)
    have h2 := h a (List.mem_cons_self ..)
    rw [psum]
    rcases List.mem_cons.1 hr with rfl | hr
    · grind
    · have h3 := psum_mem (l := l) (fun r hr => h r (List.mem_cons_of_mem _ hr)) hr
      grind
theorem psum_take : ∀ {l : List Rat}, (∀ r, r ∈ l → 0 ≤ r) → ∀ k : Nat, psum (l.take k) ≤ psum l
  | [], _, k => by rw [List.take_nil]; exact Rat.le_refl
  | a :: l, h, 0 => psum_nonneg h
  | a :: l, h, k + 1 => by
    have := psum_take (l := l) (fun r hr => h r (List.mem_cons_of_mem _ hr)) k
    rw [List.take_succ_cons, psum, psum]; grind
theorem range_map_getD : ∀ (l : List Rat), (List.range l.length).map (fun c => l.getD c 0) = l := fun l => by
  refine List.ext_getElem (by simp) fun i h1 h2 => ?_
  rw [List.getElem_map, List.getElem_range, getD_eq l i 0 h2]

/-! Numbers with a denominator. -/
def Zd (D : Nat) (r : Rat) : Prop := ∃ z : Int, r = mkRat z D
theorem Zd.den (r : Rat) : Zd r.den r := ⟨r.num, (Rat.mkRat_self r).symm⟩
theorem Zd.mul {D E : Nat} {r s : Rat} : Zd D r → Zd E s → Zd (D * E) (r * s) := fun ⟨a, ha⟩ ⟨b, hb⟩ => ⟨a * b, by rw [ha, hb, Rat.mkRat_mul_mkRat]⟩
theorem Zd.more {D E : Nat} (hE : E ≠ 0) {r : Rat} : Zd D r → Zd (D * E) r := fun ⟨a, ha⟩ => ⟨a * E, by rw [ha, Rat.mkRat_mul_right hE]⟩
theorem Zd.add {D : Nat} (hD : D ≠ 0) {r s : Rat} : Zd D r → Zd D s → Zd D (r + s) := fun ⟨a, ha⟩ ⟨b, hb⟩ => ⟨a + b, by
  rw [ha, hb, Rat.mkRat_add_mkRat _ _ hD hD, ← Int.add_mul, Rat.mkRat_mul_right hD]⟩
theorem Zd.zero {D : Nat} : Zd D 0 := ⟨0, (Rat.zero_mkRat D).symm⟩
theorem Zd.psum {D : Nat} (hD : D ≠ 0) : ∀ {l : List Rat}, (∀ r, r ∈ l → Zd D r) → Zd D (psum l)
  | [], _ => Zd.zero
  | a :: l, h => (h a (List.mem_cons_self ..)).add hD (Zd.psum hD fun r hr => h r (List.mem_cons_of_mem _ hr))
theorem Zd.le {D : Nat} (hD : D ≠ 0) {r : Rat} : Zd D r → r.den ≤ D := fun ⟨a, ha⟩ => by
  rw [ha, Rat.den_mkRat, if_neg hD]; exact Nat.div_le_self _ _
theorem Zd.dr {D B k : Nat} (hD : D ≠ 0) (hB : 1 ≤ B) {r : Rat} (h : Zd D r) (h1 : r ≤ (B : Rat)) (h2 : -(B : Rat) ≤ r) (hk : B * D < 10 ^ k) : Dr k r := by
  have hd := h.le hD
  have a1 := (Rat.le_iff _ _).1 h1
  have a2 := (Rat.le_iff _ _).1 h2
  rw [Rat.num_natCast, Rat.den_natCast] at a1
  rw [Rat.neg_num, Rat.neg_den, Rat.num_natCast, Rat.den_natCast] at a2
  have hBd : B * r.den ≤ B * D := Nat.mul_le_mul_left _ hd
  have hD' : D ≤ B * D := Nat.le_mul_of_pos_left _ hB
  refine ⟨?_, by omega⟩
  have a3 : (B : Int) * (r.den : Int) = ((B * r.den : Nat) : Int) := by simp
  have a4 : -(B : Int) * (r.den : Int) = -((B * r.den : Nat) : Int) := by rw [Int.neg_mul, a3]
  rw [a3] at a1
  rw [a4] at a2
  omega

/-! The parent of a node. -/
theorem parent {t : List Nd} (hv : V t) {x : Nat} (h0 : 0 < x) (hx : x < t.length) : ∃ (j c : Nat), j < x ∧ (nx (nd t j))[c]? = some (x : Int) := by
  have key : ∀ i, i ≤ t.length → 0 < inc t x i → ∃ j, j < i ∧ (x : Int) ∈ nx (nd t j) := by
    intro i
    induction i with
    | zero => intro _ h; simp [inc] at h
    | succ i ih =>
      intro hi h
      by_cases hm : (x : Int) ∈ nx (nd t i)
      · exact ⟨i, by omega, hm⟩
      · have hc : (nx (nd t i)).count (x : Int) = 0 := List.count_eq_zero.2 hm
        simp only [inc] at h
        obtain ⟨j, hj, hm⟩ := ih (by omega) (by omega)
        exact ⟨j, by omega, hm⟩
  obtain ⟨j, hj, hm⟩ := key t.length (Nat.le_refl _) (by rw [hv.one x h0 hx]; decide)
  obtain ⟨c, hc⟩ := List.mem_iff_getElem?.1 hm
  have := good_kids (hv.good j hj) _ hm
  exact ⟨j, c, by omega, hc⟩

/-- Probabilities on the ways out. -/
structure Prob (t : List Nd) (ρ : Nat → Nat → Rat) : Prop where
  nonneg : ∀ i, i < t.length → ∀ c, c < (nx (nd t i)).length → 0 ≤ ρ i c
  one : ∀ i, i < t.length → nx (nd t i) ≠ [] → psum ((List.range (nx (nd t i)).length).map (ρ i)) = 1
  dr : ∀ i, i < t.length → ∀ c, c < (nx (nd t i)).length → Dr 12 (ρ i c)

theorem good_end {t : List Nd} {i : Nat} (h : Good t i) : nx (nd t i) = [] ↔ (nd t i).1 = 0 := by
  rcases h with ⟨k0, hn, _⟩ | ⟨k1, hk, _⟩ | ⟨k2, hk, _⟩
  · exact ⟨fun _ => k0, fun _ => hn⟩
  · exact ⟨fun e => absurd e hk.1, fun e => by omega⟩
  · exact ⟨fun e => absurd e hk.1, fun e => by omega⟩

theorem prob_two {t : List Nd} (hv : V t) (hm : Mod t) {a b : List Ch} {pa pb : Int → List Rat} (ha : StratP t 0 a pa) (hb : StratP t 1 b pb) : Prob t (ed t (two pa pb)) := by
  have hpl : ∀ i, i < t.length → ∀ p, (p = 0 ∨ p = 1) → own t p i → ∃ pi s, two pa pb p = some pi ∧ StratP t p s pi := by
    rintro i hi p (rfl | rfl) ho
    · exact ⟨pa, a, rfl, ha⟩
    · exact ⟨pb, b, rfl, hb⟩
  have key : ∀ i, i < t.length → nx (nd t i) ≠ [] → ∃ l : List Rat, l.length = (nx (nd t i)).length ∧ psum l = 1 ∧ (∀ r, r ∈ l → 0 ≤ r) ∧ ∀ c, ed t (two pa pb) i c = l.getD c 0 := by
    intro i hi hne
    rcases hv.good i hi with ⟨k0, hnil, _⟩ | ⟨k1, hk, hl, rs, hrs, hok, hsum⟩ | ⟨k2, hk, p0, p1, _, _⟩
    · exact absurd hnil hne
    · refine ⟨rs, by rw [← hl, hrs, List.length_map], hsum, fun r hr => (hok r hr).2, fun c => ?_⟩
      unfold ed
      rw [if_pos k1, chz_eq hrs]
    · have ho : own t (nd t i).2.1 i := ⟨k2, rfl⟩
      obtain ⟨pi, s, h1, h2⟩ := hpl i hi _ (by omega) ho
      have hq := own_sets hv hi ho
      obtain ⟨g1, g2, g3⟩ := h2.at hq
      have g1 : (pi (inf t i)).length = (nx (nd t i)).length := g1
      refine ⟨pi (inf t i), g1, g2, fun r hr => ?_, fun c => ?_⟩
      · obtain ⟨c, hc, e⟩ := List.getElem_of_mem hr
        have := (g3 c (by show c < (nx (nd t i)).length; omega)).2.1
        rw [getD_eq _ c 0 hc, e] at this
        exact this
      · unfold ed
        rw [if_neg (by omega), h1]
  refine ⟨fun i hi c hc => ?_, fun i hi hne => ?_, fun i hi c hc => (edge_ok hv hm (two_ok ha hb) hi).dr c hc⟩
  · obtain ⟨l, h1, _, h3, h4⟩ := key i hi (fun e => by rw [e] at hc; simp at hc)
    rw [h4 c]
    exact h3 _ (by rw [getD_eq l c 0 (by omega)]; exact List.getElem_mem _)
  · obtain ⟨l, h1, h2, _, h4⟩ := key i hi hne
    rw [← h1, show (List.range l.length).map (ed t (two pa pb) i) = (List.range l.length).map (fun c => l.getD c 0) from List.map_congr_left fun c _ => h4 c, range_map_getD]
    exact h2

/-- The children of a node, with what they are worth. -/
theorem kids_map {t : List Nd} {ρ : Nat → Nat → Rat} {R : Nat → Rat} (h : RR t ρ t.length R) {i : Nat} (hi : i < t.length) : (nx (nd t i)).map (fun k => R k.toNat) = (List.range (nx (nd t i)).length).map fun c => R i * ρ i c := by
  refine List.ext_getElem (by simp) fun c h1 h2 => ?_
  rw [List.getElem_map, List.getElem_map, List.getElem_range]
  rw [List.length_map] at h1
  exact h.kid i hi c _ (List.getElem?_eq_getElem h1)
theorem kids_sum {t : List Nd} {ρ : Nat → Nat → Rat} (hp : Prob t ρ) {R : Nat → Rat} (h : RR t ρ t.length R) {i : Nat} (hi : i < t.length) (hne : nx (nd t i) ≠ []) : psum ((nx (nd t i)).map fun k => R k.toNat) = R i := by
  rw [kids_map h hi, show ((List.range (nx (nd t i)).length).map fun c => R i * ρ i c) = ((List.range (nx (nd t i)).length).map (ρ i)).map (R i * ·) from by rw [List.map_map]; rfl, psum_mul', hp.one i hi hne, Rat.mul_one]

theorem rr_nonneg {t : List Nd} (hv : V t) {ρ : Nat → Nat → Rat} (hp : Prob t ρ) {R : Nat → Rat} (h : RR t ρ t.length R) : ∀ (n y : Nat), y < n → y < t.length → 0 ≤ R y
  | 0, y, h1, _ => by omega
  | n + 1, y, h1, hy => by
    by_cases h0 : y = 0
    · subst h0; rw [h.root]; decide
    · obtain ⟨j, c, hj, hc⟩ := parent hv (show 0 < y by omega) hy
      have hcl : c < (nx (nd t j)).length := (List.getElem?_eq_some_iff.1 hc).1
      have := h.kid j (by omega) c _ hc
      rw [Int.toNat_natCast] at this
      rw [this]
      exact Rat.mul_nonneg (rr_nonneg hv hp h n j (by omega) (by omega)) (hp.nonneg j (by omega) c hcl)
theorem rr_le {t : List Nd} (hv : V t) {ρ : Nat → Nat → Rat} (hp : Prob t ρ) {R : Nat → Rat} (h : RR t ρ t.length R) : ∀ (n y : Nat), y < n → y < t.length → R y ≤ 1
  | 0, y, h1, _ => by omega
  | n + 1, y, h1, hy => by
    by_cases h0 : y = 0
    · subst h0; rw [h.root]; decide
    · obtain ⟨j, c, hj, hc⟩ := parent hv (show 0 < y by omega) hy
      have hm := List.mem_of_getElem? hc
      have h3 := kids_sum hp h (show j < t.length by omega) (fun e => by rw [e] at hm; cases hm)
      have h4 := psum_mem (l := (nx (nd t j)).map fun k => R k.toNat) (fun r hr => by
        obtain ⟨k, hk, rfl⟩ := List.mem_map.1 hr
        have := good_kids (hv.good j (by omega)) k hk
        exact rr_nonneg hv hp h t.length k.toNat (by omega) (by omega)) (List.mem_map_of_mem (f := fun k : Int => R k.toNat) hm)
      simp only [Int.toNat_natCast] at h4
      have h5 := rr_le hv hp h n j (by omega) (by omega)
      rw [h3] at h4
      exact Rat.le_trans h4 h5

theorem rr_zd {t : List Nd} (hv : V t) {ρ : Nat → Nat → Rat} (hd : ∀ i, i < t.length → ∀ c, c < (nx (nd t i)).length → Dr 12 (ρ i c)) {R : Nat → Rat} (h : RR t ρ t.length R) : ∀ i, i ≤ t.length → ∃ D : Nat, D ≠ 0 ∧ D ≤ 10 ^ (12 * i) ∧ ∀ y, y < i → Zd D (R y)
  | 0, _ => ⟨1, by decide, by decide, fun y hy => by omega⟩
  | i + 1, hi => by
    obtain ⟨D, h1, h2, h3⟩ := rr_zd hv hd h i (by omega)
    by_cases h0 : i = 0
    · subst h0
      refine ⟨1, by decide, by decide, fun y hy => ?_⟩
      have : y = 0 := by omega
      subst this
      rw [h.root]; exact Zd.den 1
    · obtain ⟨j, c, hj, hc⟩ := parent hv (show 0 < i by omega) (show i < t.length by omega)
      have hcl : c < (nx (nd t j)).length := (List.getElem?_eq_some_iff.1 hc).1
      have hk := h.kid j (by omega) c _ hc
      rw [Int.toNat_natCast] at hk
      have hdd := hd j (by omega) c hcl
      have hnz := (ρ j c).den_nz
      refine ⟨D * (ρ j c).den, Nat.mul_ne_zero h1 hnz, ?_, fun y hy => ?_⟩
      · rw [Nat.mul_succ, Nat.pow_add]
        exact Nat.mul_le_mul h2 (Nat.le_of_lt hdd.2)
      · by_cases e : y = i
        · rw [e, hk]; exact (h3 j hj).mul (Zd.den _)
        · exact (h3 y (by omega)).more hnz

/-- Sums of parts of 1. -/
theorem part_ok {D : Nat} (hD : D ≠ 0) {q : Nat} (hq : q + 1 ≤ 2000) (hD2 : D ≤ 10 ^ q) {l : List Rat} (h : ∀ r, r ∈ l → 0 ≤ r ∧ Zd D r) (h1 : psum l ≤ 1) (k : Nat) : OkR (psum (l.take k)) := by
  have h2 := psum_take (fun r hr => (h r hr).1) k
  have h3 := psum_nonneg (l := l.take k) fun r hr => (h r (List.mem_of_mem_take hr)).1
  have h4 := Zd.psum hD (l := l.take k) fun r hr => (h r (List.mem_of_mem_take hr)).2
  have e1 : ((1 : Nat) : Rat) = 1 := rfl
  refine dr_okr (k := q + 1) (h4.dr hD (Nat.le_refl 1) (by rw [e1]; exact Rat.le_trans h2 h1) (by rw [e1]; grind) ?_) (by omega) hq
  rw [Nat.one_mul]
  exact Nat.lt_of_le_of_lt hD2 (Nat.pow_lt_pow_right (by decide) (Nat.lt_succ_self q))

/-! The sum over the ends. -/
theorem fs_single (R : Nat → Rat) (k : Nat) : ∀ n, fs (fun x => if x = k then R x else 0) n = if k < n then R k else 0
  | 0 => by simp [fs]
  | n + 1 => by
    rw [fs, fs_single R k n]
    by_cases e : n = k
    · subst e
      rw [if_neg (by omega), if_pos rfl, if_pos (by omega), Rat.zero_add]
    · rw [if_neg e, Rat.add_zero]
      by_cases h : k < n
      · rw [if_pos h, if_pos (by omega)]
      · rw [if_neg h, if_neg (by omega)]
theorem list_count (R : Nat → Rat) (n : Nat) : ∀ L : List Int, (∀ k, k ∈ L → 0 ≤ k ∧ k < (n : Int)) → psum (L.map fun k => R k.toNat) = fs (fun x => ((L.count (x : Int) : Nat) : Rat) * R x) n
  | [], _ => by
    rw [List.map_nil, psum]
    have : ∀ n, fs (fun x => ((([] : List Int).count (x : Int) : Nat) : Rat) * R x) n = 0 := fun n => by
      induction n with
      | zero => rfl
      | succ n ih => rw [fs, ih]; simp; exact Rat.add_zero 0
    rw [this n]
  | k :: L, h => by
    obtain ⟨k0, k1⟩ := h k (List.mem_cons_self ..)
    rw [List.map_cons, psum, list_count R n L fun k' hk' => h k' (List.mem_cons_of_mem _ hk')]
    have e : R k.toNat = fs (fun x => if x = k.toNat then R x else 0) n := by rw [fs_single, if_pos (by omega)]
    rw [e, ← fs_add]
    refine fs_ext fun x hx => ?_
    rw [List.count_cons]
    by_cases e2 : x = k.toNat
    · have : k = (x : Int) := by omega
      rw [if_pos e2, if_pos (by simpa using this)]
      simp only [Rat.natCast_add]
      have : ((1 : Nat) : Rat) = 1 := rfl
      rw [this]; grind
    · rw [if_neg e2, if_neg (by simp; omega), Nat.add_zero, Rat.zero_add]
theorem kids_count {t : List Nd} (hv : V t) (R : Nat → Rat) : ∀ i, i ≤ t.length → fs (fun j => psum ((nx (nd t j)).map fun k => R k.toNat)) i = fs (fun x => ((inc t x i : Nat) : Rat) * R x) t.length
  | 0, _ => by
    have : ∀ n, fs (fun x => ((inc t x 0 : Nat) : Rat) * R x) n = 0 := fun n => by
      induction n with
      | zero => rfl
      | succ n ih => rw [fs, ih]; simp [inc]; exact Rat.add_zero 0
    rw [this]; rfl
  | i + 1, hi => by
    rw [fs, kids_count hv R i (by omega), list_count R t.length _ (fun k hk => by have := good_kids (hv.good i (by omega)) k hk; omega), ← fs_add]
    refine fs_ext fun x hx => ?_
    simp only [inc, Rat.natCast_add]
    grind
theorem ends_one {t : List Nd} (hv : V t) {ρ : Nat → Nat → Rat} (hp : Prob t ρ) {R : Nat → Rat} (h : RR t ρ t.length R) : fs (fun j => if (nd t j).1 = 0 then R j else 0) t.length = 1 := by
  have h0 := hv.pos
  have e1 := kids_count hv R t.length (Nat.le_refl _)
  have e2 : fs (fun x => ((inc t x t.length : Nat) : Rat) * R x) t.length + fs (fun x => if x = 0 then R x else 0) t.length = fs R t.length := by
    rw [← fs_add]
    refine fs_ext fun x hx => ?_
    by_cases e : x = 0
    · subst e
      have : ∀ i, i ≤ t.length → inc t 0 i = 0 := by
        intro i
        induction i with
        | zero => intro _; rfl
        | succ i ih =>
          intro hi
          rw [inc, ih (by omega), Nat.zero_add]
          refine List.count_eq_zero.2 fun hm => ?_
          have := good_kids (hv.good i (by omega)) _ hm
          omega
      rw [this _ (Nat.le_refl _), if_pos rfl]
      have : ((0 : Nat) : Rat) = 0 := rfl
      rw [this]; grind
    · rw [hv.one x (by omega) hx, if_neg e]
      have : ((1 : Nat) : Rat) = 1 := rfl
      rw [this]; grind
  rw [fs_single, if_pos h0, h.root, ← e1] at e2
  have e3 : fs (fun j => if (nd t j).1 = 0 then R j else 0) t.length + fs (fun j => psum ((nx (nd t j)).map fun k => R k.toNat)) t.length = fs R t.length := by
    rw [← fs_add]
    refine fs_ext fun j hj => ?_
    by_cases e : (nd t j).1 = 0
    · rw [if_pos e, (good_end (hv.good j hj)).2 e, List.map_nil, psum]; grind
    · rw [if_neg e, kids_sum hp h hj (fun e' => e ((good_end (hv.good j hj)).1 e'))]; grind
  grind

end Go.Proofs.YtbcooccafbccdaaGreatDoor
