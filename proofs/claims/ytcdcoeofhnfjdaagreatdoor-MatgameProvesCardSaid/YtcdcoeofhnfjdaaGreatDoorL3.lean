/- What the pure functions of this claim compute, and what follows from it: part 3. -/
import Derived.Test.YtcdcoeofhnfjdaaGreatDoorL2
namespace Go.Proofs.YtcdcoeofhnfjdaaGreatDoor
open Go Vm
theorem w5n {a : List (List ByteArray)} {R C : Nat} {M : Nat -> Nat -> Rat} (h : Txt a R C M) (hR : R <= 100) (hC : C <= 100) : ∀ (m i : Nat) (g : List (List Qd)), i <= R -> R < m + i -> QG i C M g ->
  ∃ g', z2b m a (R : Int) (i : Int) g = some (.exit (g', ())) /\ QG R C M g'
 | 0, i, g, h1, h2, _ => by omega
 | m + 1, i, g, h1, h2, hg => by
  have hl := h.1
  simp only [z2b]
  by_cases hi : i < R
  ·have e4 : IntKind.i64.wrap ((i : Int) + 1) = ((i + 1 : Nat) : Int) := by rw [w64 _ (by omega) (by omega)]; omega
   obtain ⟨h3, h4⟩ := h.2 i hi
   obtain ⟨qs, gq, hq⟩ := y4r ((List.range C).map (M i)) (by rw [List.length_map, List.length_range]; omega) (fun r hr => by
     obtain ⟨j, hj, rfl⟩ := List.mem_map.1 hr
     exact h4 j (List.mem_range.1 hj))
   have hgl := hg.1
   rw [if_pos (by simpa using hi), if_pos (by omega), if_pos (by omega), Int.toNat_natCast, h3, gq, Option.bind_some, if_pos (by omega), e4]
   refine w5n h hR hC m (i + 1) _ (by omega) (by omega) ⟨by rw [List.length_append, hgl]; rfl, fun k hk => ?_⟩
   by_cases e : k = i
   ·subst e
    rw [y6k hgl.symm]
    have := QF.of hq
    rw [List.length_map, List.length_range] at this
    exact this.ext fun j hj => z5i hj
   ·rw [y2d (by omega)]; exact hg.2 k (by omega)
  ·rw [if_neg (by simpa using hi)]
   have : i = R := by omega
   subst this
   exact ⟨g, rfl, hg⟩
def LE (R C : Nat) (M : Nat -> Nat -> Rat) (q : Qd) (P : Nat -> Nat -> Prop) : Prop := ∃ i0 j0, i0 < R /\ j0 < C /\ QR (M i0 j0) q /\ ∀ i j, i < R -> j < C -> P i j -> M i0 j0 <= M i j
theorem yu6 {R C i : Nat} (hC : C <= 100) (hi : i < R) {M : Nat -> Nat -> Rat} {g : List (List Qd)} (hg : QG R C M g) (hd : ∀ i, i < R -> ∀ j, j < C -> Dr 2000 (M i j)) : ∀ (f j : Nat) (q : Qd), j <= C -> C < f + j -> LE R C M q (fun r s => r < i \/ r = i /\ s < j) ->
  ∃ q', z1d f i (C : Int) (j : Int) q.1 q.2.1 q.2.2 g = some (.exit (q'.1, q'.2.1, q'.2.2, g, ())) /\ LE R C M q' (fun r s => r < i \/ r = i /\ s < C)
 | 0, j, q, h1, h2, _ => by omega
 | f + 1, j, q, h1, h2, hq => by
  have hri := hg.2 i hi
  have li := hri.1
  simp only [z1d]
  by_cases hj : j < C
  ·have e4 : IntKind.i64.wrap ((j : Int) + 1) = ((j + 1 : Nat) : Int) := by rw [w64 _ (by omega) (by omega)]; omega
   obtain ⟨i0, j0, h3, h4, h5, h6⟩ := hq
   have h5' : QR (M i0 j0) (q.1, (q.2.1, q.2.2)) := h5
   rw [if_pos (by simpa using hj), if_pos (by omega), if_pos (show ((j : Nat) : Int) < (((g.getD i ([] : List Qd)).length : Nat) : Int) by omega), Int.toNat_natCast, yi2 (hri.at hj) h5' (hd i hi j hj) (hd i0 h3 j0 h4) (by omega), Option.bind_some, e4]
   by_cases c : M i j < M i0 j0
   ·rw [if_pos (by rw [decide_eq_true_eq]; exact z9g.2 (by grind))]
    refine yu6 hC hi hg hd f (j + 1) ((g.getD i []).getD j (false, ([], []))) (by omega) (by omega) ⟨i, j, hi, hj, hri.at hj, fun r s hr hs hp => ?_⟩
    by_cases e : r = i /\ s = j
    ·rw [e.1, e.2]; exact Rat.le_refl
    ·have := h6 r s hr hs (by omega)
     exact Rat.le_trans (Rat.le_of_lt c) this
   ·rw [if_neg (by rw [decide_eq_true_eq]; exact fun h => c (by have := z9g.1 h; grind))]
    refine yu6 hC hi hg hd f (j + 1) q (by omega) (by omega) ⟨i0, j0, h3, h4, h5, fun r s hr hs hp => ?_⟩
    by_cases e : r = i /\ s = j
    ·rw [e.1, e.2]; grind
    ·exact h6 r s hr hs (by omega)
  ·rw [if_neg (by simpa using hj)]
   have : j = C := by omega
   subst this
   exact ⟨q, rfl, hq⟩
theorem w0s {R C : Nat} (hR : R <= 100) (hC : C <= 100) {M : Nat -> Nat -> Rat} {g : List (List Qd)} (hg : QG R C M g) (hd : ∀ i, i < R -> ∀ j, j < C -> Dr 2000 (M i j)) : ∀ (f i : Nat) (q : Qd), i <= R -> R + 1000 < f + i -> LE R C M q (fun r _ => r < i) ->
  ∃ q', z1s f (R : Int) (i : Int) q.1 q.2.1 q.2.2 g = some (.exit (q'.1, q'.2.1, q'.2.2, g, ())) /\ LE R C M q' (fun _ _ => True)
 | 0, i, q, h1, h2, _ => by omega
 | f + 1, i, q, h1, h2, hq => by
  have lg := hg.1
  simp only [z1s]
  by_cases hi : i < R
  ·have e4 : IntKind.i64.wrap ((i : Int) + 1) = ((i + 1 : Nat) : Int) := by rw [w64 _ (by omega) (by omega)]; omega
   have li := (hg.2 i hi).1
   obtain ⟨i0, j0, h3, h4, h5, h6⟩ := hq
   obtain ⟨q', k1, k2⟩ := yu6 hC hi hg hd f 0 q (by omega) (by omega) ⟨i0, j0, h3, h4, h5, fun r s hr hs hp => h6 r s hr hs (by omega)⟩
   have k1 : z1d f i (((g.getD i ([] : List Qd)).length : Nat) : Int) 0 q.1 q.2.1 q.2.2 g = some (.exit (q'.1, q'.2.1, q'.2.2, g, ())) := by rw [li]; exact k1
   obtain ⟨i0, j0, h3, h4, h5, h6⟩ := k2
   rw [if_pos (by simpa using hi), if_pos (by omega), if_pos (by omega), Int.toNat_natCast, k1]
   dsimp only
   rw [e4]
   exact w0s hR hC hg hd f (i + 1) q' (by omega) (by omega) ⟨i0, j0, h3, h4, h5, fun r s hr hs hp => h6 r s hr hs (by omega)⟩
  ·rw [if_neg (by simpa using hi)]
   have : i = R := by omega
   subst this
   obtain ⟨i0, j0, h3, h4, h5, h6⟩ := hq
   exact ⟨q, rfl, i0, j0, h3, h4, h5, fun r s hr hs _ => h6 r s hr hs hr⟩
def inc (b : Rat) (i c : Nat) (M : Nat -> Nat -> Rat) (r s : Nat) : Rat := if r < i \/ r = i /\ s < c then M r s + b else M r s
theorem wn6 {R C i : Nat} (hR : R <= 100) (hC : C <= 100) (hi : i < R) {M : Nat -> Nat -> Rat} {b : Rat} {q : Qd} (hq : QR b q) (hb : Dr 4000 b) (hd : ∀ i, i < R -> ∀ j, j < C -> Dr 2000 (M i j)) : ∀ (f c : Nat) (g : List (List Qd)), c <= C -> C < f + c -> QG R C (inc b i c M) g ->
  ∃ g', z4q f (i : Int) (C : Int) (c : Int) g q.1 q.2.1 q.2.2 = some (.exit (g', q.1, q.2.1, q.2.2, ())) /\ QG R C (inc b i C M) g'
 | 0, c, g, h1, h2, _ => by omega
 | f + 1, c, g, h1, h2, hg => by
  have lg := hg.1
  have hri := hg.2 i hi
  have li := hri.1
  simp only [z4q]
  by_cases hc : c < C
  ·have e4 : IntKind.i64.wrap ((c : Int) + 1) = ((c + 1 : Nat) : Int) := by rw [w64 _ (by omega) (by omega)]; omega
   have qi := hri.at hc
   have e : inc b i c M i c = M i c := by unfold inc; rw [if_neg (by omega)]
   rw [e] at qi
   obtain ⟨y, hy, hqy⟩ := y8d qi hq (hd i hi c hc) hb (by omega)
   have hy : z44 fuel (((g.getD i []).getD c (false, ([], []))).1, (((g.getD i []).getD c (false, ([], []))).2)) (q.1, (q.2.1, q.2.2)) = some y := hy
   simp only [Int.toNat_natCast]
   rw [if_pos (by simpa using hc), if_pos (by omega), if_pos (by omega), if_pos (by omega), if_pos (by omega), if_pos (by omega), if_pos (show ((c : Nat) : Int) < (((g.getD i ([] : List Qd)).length : Nat) : Int) by omega), hy, Option.bind_some, if_pos (by omega), if_pos (show ((c : Nat) : Int) < (((g.getD i ([] : List Qd)).length : Nat) : Int) by omega), e4]
   refine wn6 hR hC hi hq hb hd f (c + 1) _ (by omega) (by omega) ((hg.set hi hc hqy).ext fun r _ s _ => ?_)
   unfold inc
   by_cases e1 : r = i /\ s = c
   ·rw [if_pos e1, if_pos (by omega), e1.1, e1.2]
   ·rw [if_neg e1]
    by_cases e2 : r < i \/ r = i /\ s < c
    ·rw [if_pos e2, if_pos (by omega)]
    ·rw [if_neg e2, if_neg (by omega)]
  ·rw [if_neg (by simpa using hc)]
   have : c = C := by omega
   subst this
   exact ⟨g, rfl, hg⟩
theorem w8g {R C : Nat} (hR : R <= 100) (hC : C <= 100) {M : Nat -> Nat -> Rat} {b : Rat} {q : Qd} (hq : QR b q) (hb : Dr 4000 b) (hd : ∀ i, i < R -> ∀ j, j < C -> Dr 2000 (M i j)) : ∀ (f i : Nat) (g : List (List Qd)), i <= R -> R + 1000 < f + i -> QG R C (inc b i 0 M) g ->
  ∃ g', z5h f (R : Int) (i : Int) g q.1 q.2.1 q.2.2 = some (.exit (g', q.1, q.2.1, q.2.2, ())) /\ QG R C (fun r s => M r s + b) g'
 | 0, i, g, h1, h2, _ => by omega
 | f + 1, i, g, h1, h2, hg => by
  have lg := hg.1
  simp only [z5h]
  by_cases hi : i < R
  ·have e4 : IntKind.i64.wrap ((i : Int) + 1) = ((i + 1 : Nat) : Int) := by rw [w64 _ (by omega) (by omega)]; omega
   have li := (hg.2 i hi).1
   obtain ⟨g', k1, k2⟩ := wn6 hR hC hi hq hb hd f 0 g (by omega) (by omega) hg
   have k1 : z4q f (i : Int) (((g.getD i ([] : List Qd)).length : Nat) : Int) 0 g q.1 q.2.1 q.2.2 = some (.exit (g', q.1, q.2.1, q.2.2, ())) := by rw [li]; exact k1
   rw [if_pos (by simpa using hi), if_pos (by omega), if_pos (by omega), Int.toNat_natCast, k1]
   dsimp only
   rw [e4]
   refine w8g hR hC hq hb hd f (i + 1) g' (by omega) (by omega) (k2.ext fun r _ s hs => ?_)
   unfold inc
   by_cases e2 : r < i \/ r = i /\ s < C
   ·rw [if_pos e2, if_pos (by omega)]
   ·rw [if_neg e2, if_neg (by omega)]
  ·rw [if_neg (by simpa using hi)]
   have : i = R := by omega
   subst this
   exact ⟨g, rfl, hg.ext fun r hr s _ => by unfold inc; rw [if_pos (by omega)]⟩
theorem y8i {n : Nat} (hn : n <= 100) {x : Nat -> Rat} (hx : ∀ j, j < n -> Dr 2000 (x j)) {w : Rat} {q : Qd} (hq : QR w q) (hw : Dr 4000 w) : ∀ (f i : Nat) (l : List Qd), i <= n -> n < f + i -> QF i (fun j => x j * w) l ->
  ∃ l', z0y f (xt n x) (n : Int) (i : Int) q.1 q.2.1 q.2.2 l = some (.exit (l', q.1, q.2.1, q.2.2, ())) /\ QF n (fun j => x j * w) l'
 | 0, i, l, h1, h2, _ => by omega
 | f + 1, i, l, h1, h2, hl => by
  have ll := hl.1
  have lx := y30 (n := n) (x := x)
  simp only [z0y]
  by_cases hi : i < n
  ·have e4 : IntKind.i64.wrap ((i : Int) + 1) = ((i + 1 : Nat) : Int) := by rw [w64 _ (by omega) (by omega)]; omega
   have ex : (xt n x).getD i ByteArray.empty = rt (x i) := by
    unfold xt
    rw [wu3 (by rw [List.length_map, List.length_range]; exact hi), z5i hi]
   obtain ⟨z, z1, z2⟩ := w7c (ze0 (hx i hi) (by omega) (by omega))
   obtain ⟨y, y1, y2⟩ := y0u z2 hq (hx i hi) hw (by omega)
   have y1 : z2z fuel z (q.1, (q.2.1, q.2.2)) = some y := y1
   rw [if_pos (by simpa using hi), if_pos (by omega), if_pos (by omega), Int.toNat_natCast, ex, z1, Option.bind_some, y1, Option.bind_some, if_pos (by omega), e4]
   exact y8i hn hx hq hw f (i + 1) _ (by omega) (by omega) (hl.snoc y2)
  ·rw [if_neg (by simpa using hi)]
   have : i = n := by omega
   subst this
   exact ⟨l, rfl, hl⟩
theorem v1r : z1v fuel [(⟨#[49]⟩ : ByteArray)] ((0 : Nat) : Int) = some (List.replicate 0 (⟨#[49]⟩ : ByteArray)) := by kernel_rfl
theorem v1s : z1v fuel [(⟨#[49]⟩ : ByteArray)] ((1 : Nat) : Int) = some (List.replicate 1 (⟨#[49]⟩ : ByteArray)) := by kernel_rfl
theorem v1t : z1v fuel [(⟨#[49]⟩ : ByteArray)] ((2 : Nat) : Int) = some (List.replicate 2 (⟨#[49]⟩ : ByteArray)) := by kernel_rfl
theorem v1u : z1v fuel [(⟨#[49]⟩ : ByteArray)] ((3 : Nat) : Int) = some (List.replicate 3 (⟨#[49]⟩ : ByteArray)) := by kernel_rfl
theorem v1v : z1v fuel [(⟨#[49]⟩ : ByteArray)] ((4 : Nat) : Int) = some (List.replicate 4 (⟨#[49]⟩ : ByteArray)) := by kernel_rfl
theorem v1w : z1v fuel [(⟨#[49]⟩ : ByteArray)] ((5 : Nat) : Int) = some (List.replicate 5 (⟨#[49]⟩ : ByteArray)) := by kernel_rfl
theorem v1x : z1v fuel [(⟨#[49]⟩ : ByteArray)] ((6 : Nat) : Int) = some (List.replicate 6 (⟨#[49]⟩ : ByteArray)) := by kernel_rfl
theorem wq2 {n : Nat} (hn : n <= 6) : z1v fuel [(⟨#[49]⟩ : ByteArray)] (n : Int) = some (List.replicate n (⟨#[49]⟩ : ByteArray)) := by
 have h : n = 0 \/ n = 1 \/ n = 2 \/ n = 3 \/ n = 4 \/ n = 5 \/ n = 6 := by omega
 rcases h with rfl | rfl | rfl | rfl | rfl | rfl | rfl
 ·exact v1r
 ·exact v1s
 ·exact v1t
 ·exact v1u
 ·exact v1v
 ·exact v1w
 ·exact v1x
theorem wq3 (n : Nat) : List.replicate n (⟨#[49]⟩ : ByteArray) = (List.replicate n (1 : Rat)).map rt := by rw [List.map_replicate, wq6]
end Go.Proofs.YtcdcoeofhnfjdaaGreatDoor
namespace Go.Proofs.YtcdcoeofhnfjdaaGreatDoor
open Go Vm
def Eqm (R C : Nat) (M : Nat -> Nat -> Rat) (p q : Nat -> Rat) (V : Rat) : Prop :=
 (∀ i, i < R -> 0 <= p i) /\ (∀ j, j < C -> 0 <= q j) /\ fs p R = 1 /\ fs q C = 1 /\ (∀ i, i < R -> fs (fun j => M i j * q j) C <= V) /\ ∀ j, j < C -> V <= fs (fun i => p i * M i j) R
def pay (R C : Nat) (M : Nat -> Nat -> Rat) (p q : Nat -> Rat) : Rat := fs (fun i => p i * fs (fun j => M i j * q j) C) R
theorem wd8 {R C : Nat} {M : Nat -> Nat -> Rat} {p q : Nat -> Rat} {V : Rat} (hp : ∀ i, i < R -> 0 <= p i) (h1 : fs p R = 1) (h : ∀ i, i < R -> fs (fun j => M i j * q j) C <= V) : pay R C M p q <= V := by
 have e : fs (fun i => p i * V) R = V := by rw [zf4, h1]; grind
 rw [<- e]
 exact wk3 fun i hi => Rat.mul_le_mul_of_nonneg_left (h i hi) (hp i hi)
theorem wl8 {R C : Nat} {M : Nat -> Nat -> Rat} {p q : Nat -> Rat} : pay R C M p q = fs (fun j => fs (fun i => p i * M i j) R * q j) C := by
 have e1 : pay R C M p q = fs (fun i => fs (fun j => p i * M i j * q j) C) R := z1k fun i _ => by
  rw [<- zc3]
  exact z1k fun j _ => by grind
 have e2 : fs (fun j => fs (fun i => p i * M i j) R * q j) C = fs (fun j => fs (fun i => p i * M i j * q j) R) C := z1k fun j _ => by rw [zf4]
 rw [e1, e2]
 exact y83 (fun i j => p i * M i j * q j) C R
theorem wd7 {R C : Nat} {M : Nat -> Nat -> Rat} {p q : Nat -> Rat} {V : Rat} (hq : ∀ j, j < C -> 0 <= q j) (h1 : fs q C = 1) (h : ∀ j, j < C -> V <= fs (fun i => p i * M i j) R) : V <= pay R C M p q := by
 have e : fs (fun j => V * q j) C = V := by rw [zc3, h1]; grind
 rw [wl8, <- e]
 exact wk3 fun j hj => Rat.mul_le_mul_of_nonneg_right (h j hj) (hq j hj)
theorem Eqm.pay {R C : Nat} {M : Nat -> Nat -> Rat} {p q : Nat -> Rat} {V : Rat} (h : Eqm R C M p q V) : pay R C M p q = V :=
 Rat.le_antisymm (wd8 h.1 h.2.2.1 h.2.2.2.2.1) (wd7 h.2.1 h.2.2.2.1 h.2.2.2.2.2)
theorem Eqm.uniq {R C : Nat} {M : Nat -> Nat -> Rat} {p q p' q' : Nat -> Rat} {V V' : Rat} (h : Eqm R C M p q V) (h' : Eqm R C M p' q' V') : V = V' :=
 Rat.le_antisymm (Rat.le_trans (wd7 h'.2.1 h'.2.2.2.1 h.2.2.2.2.2) (wd8 h.1 h.2.2.1 h'.2.2.2.2.1)) (Rat.le_trans (wd7 h.2.1 h.2.2.2.1 h'.2.2.2.2.2) (wd8 h'.1 h'.2.2.1 h.2.2.2.2.1))
theorem wv5 {R C : Nat} (hC : 0 < C) {M : Nat -> Nat -> Rat} {b v : Rat} {x y : Nat -> Rat} (hx : ∀ j, j < C -> 0 <= x j) (hy : ∀ i, i < R -> 0 <= y i) (h1 : ∀ i, i < R -> fs (fun j => (M i j + b) * x j) C <= 1)
  (h2 : ∀ j, j < C -> 1 <= fs (fun i => y i * (M i j + b)) R) (h3 : fs x C = v) (h4 : fs y R = v) : 0 < v /\ Eqm R C M (fun i => y i * (1 / v)) (fun j => x j * (1 / v)) (1 / v - b) := by
 have hv : 0 < v := by
  have h0 := zi0 hy
  rw [h4] at h0
  by_cases c : 0 < v
  ·exact c
  ·exfalso
   have hv0 : v = 0 := by grind
   have hz : ∀ i, i < R -> y i = 0 := fun i hi => by
    have a1 := wk2 hy hi
    have a2 := hy i hi
    rw [h4, hv0] at a1; grind
   have := h2 0 hC
   rw [z1k (g := fun _ => 0) fun i hi => by rw [hz i hi]; grind, z4m] at this
   exact absurd this (by decide)
 have hw : v * (1 / v) = 1 := by
  rw [Rat.div_def, Rat.one_mul, Rat.mul_inv_cancel _ (by grind)]
 have hw0 : 0 <= 1 / v := y7x (by decide) hv
 refine ⟨hv, fun i hi => Rat.mul_nonneg (hy i hi) hw0, fun j hj => Rat.mul_nonneg (hx j hj) hw0, by rw [zf4, h4, hw], by rw [zf4, h3, hw], fun i hi => ?_, fun j hj => ?_⟩
 ·have e : fs (fun j => M i j * (x j * (1 / v))) C = fs (fun j => (M i j + b) * x j) C * (1 / v) - b := by
   have e1 : fs (fun j => M i j * (x j * (1 / v))) C = fs (fun j => (M i j + b) * x j * (1 / v) - b * (x j * (1 / v))) C := z1k fun j _ => by grind
   rw [e1, yp0, zf4, zc3 (fun j => x j * (1 / v)), zf4, h3, hw]; grind
  have := Rat.mul_le_mul_of_nonneg_right (h1 i hi) hw0
  rw [e]; grind
 ·have e : fs (fun i => y i * (1 / v) * M i j) R = fs (fun i => y i * (M i j + b)) R * (1 / v) - b := by
   have e1 : fs (fun i => y i * (1 / v) * M i j) R = fs (fun i => y i * (M i j + b) * (1 / v) - b * (y i * (1 / v))) R := z1k fun i _ => by grind
   rw [e1, yp0, zf4, zc3 (fun i => y i * (1 / v)), zf4, h4, hw]; grind
  have := Rat.mul_le_mul_of_nonneg_right (h2 j hj) hw0
  rw [e]; grind
theorem ab_one : Ab (10 ^ 27) 1 := by
 have h : Ab 1 1 := ⟨Rat.le_refl, by decide⟩
 exact h.mono (by decide)
theorem w55 {R C D : Nat} (hD : D ≠ 0) {A : Nat -> Nat -> Rat} {b c : Nat -> Rat} (hb : ∀ i, i < R -> b i = 1) (hz : ∀ i, i < R -> ∀ j, j < C -> Zd D (A i j) /\ Ab (10 ^ 27) (A i j)) (hc : ∀ k, c k = 0 \/ c k = 1 \/ c k = -1) :
  ∀ i, i < R + 1 -> ∀ k, k < C + R + 2 + 1 -> Zd (if i < R then D else 1) (gM R (C + R + 2) (lpM R C A b) c i k) /\ Ab (10 ^ 27) (gM R (C + R + 2) (lpM R C A b) c i k) := fun i hi k hk => by
 have ok : ∀ {d : Nat}, d ≠ 0 -> ∀ r : Rat, r = 0 \/ r = 1 \/ r = -1 -> Zd d r /\ Ab (10 ^ 27) r := fun hd r hr => by
  rcases hr with rfl | rfl | rfl
  ·exact ⟨Zd.zero, Ab.zero _⟩
  ·exact ⟨Zd.one _ hd, ab_one⟩
  ·exact ⟨(Zd.one _ hd).neg, ab_one.neg⟩
 unfold gM
 by_cases c1 : i < R
 ·rw [if_pos c1, if_pos c1]
  by_cases c2 : k < C + R + 2
  ·rw [if_pos c2]
   unfold lpM
   by_cases c3 : k < C
   ·rw [if_pos c3]; exact hz i c1 k c3
   ·rw [if_neg c3]
    refine ok hD _ ?_
    by_cases c4 : k < C + R
    ·rw [if_pos c4]; unfold one
     by_cases c5 : i = k - C
     ·rw [if_pos c5]; exact .inr (.inl rfl)
     ·rw [if_neg c5]; exact .inl rfl
    ·rw [if_neg c4]
     by_cases c5 : k = C + R
     ·rw [if_pos c5]; exact .inr (.inr rfl)
     ·rw [if_neg c5, hb i c1]; exact .inr (.inl rfl)
  ·rw [if_neg c2]; exact ⟨Zd.zero, Ab.zero _⟩
 ·rw [if_neg c1, if_neg c1]
  refine ok (by decide) _ ?_
  by_cases c2 : k < C + R + 2
  ·rw [if_pos c2]
   rcases hc k with h | h | h <;> rw [h]
   ·exact .inl (by grind)
   ·exact .inr (.inr rfl)
   ·exact .inr (.inl (by grind))
  ·rw [if_neg c2]; exact .inr (.inl rfl)
theorem w77 {R D : Nat} (hR : R <= 5) (hD0 : D ≠ 0) (hD : D <= 10 ^ 300) : fc (R + 1) * (10 ^ 27) ^ (R + 1) * pd (fun i => if i < R then D else 1) (R + 1) < 10 ^ 1666 := by
 rw [wd9]
 have f1 : fc (R + 1) <= 10 ^ 3 := by
  match R, hR with
  | 0, _ => decide
  | 1, _ => decide
  | 2, _ => decide
  | 3, _ => decide
  | 4, _ => decide
  | 5, _ => decide
 have f2 : (10 ^ 27) ^ (R + 1) <= (10 : Nat) ^ 162 := by
  rw [<- Nat.pow_mul]
  exact Nat.pow_le_pow_right (by decide) (by omega)
 have f3 : D ^ R <= 10 ^ 1500 := by
  have : D ^ R <= (10 ^ 300) ^ R := Nat.pow_le_pow_left hD R
  refine Nat.le_trans this ?_
  rw [<- Nat.pow_mul]
  exact Nat.pow_le_pow_right (by decide) (by omega)
 have f4 : fc (R + 1) * (10 ^ 27) ^ (R + 1) * D ^ R <= 10 ^ 3 * 10 ^ 162 * 10 ^ 1500 := Nat.mul_le_mul (Nat.mul_le_mul f1 f2) f3
 have f5 : (10 : Nat) ^ 3 * 10 ^ 162 * 10 ^ 1500 = 10 ^ 1665 := by rw [<- Nat.pow_add, <- Nat.pow_add]
 have f6 : (10 : Nat) ^ 1665 < 10 ^ 1666 := Nat.pow_lt_pow_right (by decide) (by decide)
 omega
end Go.Proofs.YtcdcoeofhnfjdaaGreatDoor
namespace Go.Proofs.YtcdcoeofhnfjdaaGreatDoor
open Go Vm
theorem v0s {m n : Nat} {A : Nat -> Nat -> Rat} {a : List (List ByteArray)} {bs cs : List Rat} (hm : m <= 40) (hn : n <= 40) (ha : Txt a m n A) (h0 : 0 < m) (hb : bs.length = m) (hc : cs.length = n) (ho : ∀ r, r ∈ bs -> OkR r) (ho' : ∀ r, r ∈ cs -> OkR r) : z6l fuel (a, (bs.map rt, cs.map rt)) = some 0 := by
 have la := ha.1
 unfold z6l
 dsimp only
 rw [List.length_map, List.length_map, if_pos (by rw [decide_eq_false_iff_not]; omega), if_neg (by rw [decide_eq_true_eq]; omega), w11 ha hm hn, Option.bind_some, if_neg (by decide), y0k (by omega) ho, Option.bind_some, if_neg (by decide), y0k (by omega) ho', Option.bind_some, if_neg (by decide),
   if_pos (by rw [bne_eq_false_iff_eq]; omega), if_pos (by rw [decide_eq_true_eq]; omega), w22 ha (by omega), Option.bind_some, if_neg (by rw [bne_iff_ne]; omega)]
theorem w1g {n k : Nat} (h : k < n) : (List.replicate n (1 : Rat)).getD k 0 = 1 := by
 rw [List.getD_eq_getElem?_getD, List.getElem?_replicate, if_pos h]; rfl
theorem yv8 {n : Nat} : ∀ r, r ∈ List.replicate n (1 : Rat) -> OkR r := fun r hr => by
 rw [List.eq_of_mem_replicate hr]
 exact ze0 (k := 1) (w0f (n := 1) (by decide) (by decide)) (by decide) (by decide)
theorem wu2 {a : List (List ByteArray)} {R C D : Nat} {M : Nat -> Nat -> Rat} (hR0 : 0 < R) (hR : R <= 5) (hC0 : 0 < C) (hC : C <= 5) (ha : Txt a R C M) (hD : D ≠ 0) (hD2 : D <= 10 ^ 300) (hz : ∀ i, i < R -> ∀ j, j < C -> Zd D (M i j) /\ Ab (10 ^ 26) (M i j)) (hck : z1z fuel a = some 0) :
  ∃ (p q : Nat -> Rat) (V : Rat) (D' : Nat), Eqm R C M p q V /\ z5l fuel a = some ((rt V, (xt R p, xt C q)), 0) /\ Dr 1995 V /\ D' ≠ 0 /\ D' < 10 ^ 1666 /\ (∀ i, i < R -> Fr 1666 D' (p i)) /\ ∀ j, j < C -> Fr 1666 D' (q j) := by
 have hf := z7g (n := 2 ^ 100) (by decide)
 have la := ha.1
 have l0 : (a.getD 0 []).length = C := by rw [(ha.2 0 hR0).1, List.length_map, List.length_map, List.length_range]
 have hd : ∀ i, i < R -> ∀ j, j < C -> Dr 2000 (M i j) := fun i hi j hj => zi5 ((ha.2 i hi).2 j hj)
 obtain ⟨g, g1, g2⟩ := w5n ha (by omega) (by omega) fuel 0 [] (by omega) (by omega) ⟨rfl, fun i hi => by omega⟩
 have g1 : z2b fuel a (a.length : Int) 0 [] = some (.exit (g, ())) := by rw [la]; exact g1
 have lg := g2.1
 have lg0 := (g2.2 0 hR0).1
 obtain ⟨o1, i1, i2⟩ := wa5
 obtain ⟨ql, k1, i0, j0, hi0, hj0, k2, k3⟩ := w0s (by omega) (by omega) g2 hd fuel 0 ((g.getD 0 []).getD 0 (false, ([], []))) (by omega) (by omega) ⟨0, 0, hR0, hC0, (g2.2 0 hR0).2 0 hC0, fun i j _ _ h => by omega⟩
 have k1 : z1s fuel (g.length : Int) 0 (((g.getD 0 []).getD 0 (false, ([], []))).1) ((((g.getD 0 []).getD 0 (false, ([], []))).2).1) ((((g.getD 0 []).getD 0 (false, ([], []))).2).2) g = some (.exit (ql.1, ql.2.1, ql.2.2, g, ())) := by rw [lg]; exact k1
 have d1 : Dr 1 (1 : Rat) := w0f (n := 1) (by decide) (by decide)
 obtain ⟨qb, b1, b2⟩ := y2v i2 k2 d1 (hd i0 hi0 j0 hj0) (by omega)
 have b1 : z45 fuel o1 (ql.1, (ql.2.1, ql.2.2)) = some qb := b1
 generalize hby : 1 - M i0 j0 = by' at b2
 have dby : Dr 2002 by' := by rw [<- hby]; exact z5t (by omega) (w9e d1 (hd i0 hi0 j0 hj0))
 obtain ⟨ga, a1, a2⟩ := w8g (by omega) (by omega) b2 (z5t (by omega) dby) hd fuel 0 g (by omega) (by omega) (g2.ext fun r _ s _ => by unfold inc; rw [if_neg (by omega)])
 have a1 : z5h fuel (g.length : Int) 0 g qb.1 qb.2.1 qb.2.2 = some (.exit (ga, qb.1, qb.2.1, qb.2.2, ())) := by rw [lg]; exact a1
 have one1 : Ab 1 1 := ⟨Rat.le_refl, by decide⟩
 have zby : Zd D by' /\ Ab (1 + 10 ^ 26) by' := by
  have e : by' = 1 + -(M i0 j0) := by rw [<- hby]; grind
  rw [e]
  exact ⟨(Zd.one D hD).add hD (hz i0 hi0 j0 hj0).1.neg, one1.add (hz i0 hi0 j0 hj0).2.neg⟩
 have zA : ∀ i, i < R -> ∀ j, j < C -> Zd D (M i j + by') /\ Ab (10 ^ 27) (M i j + by') := fun i hi j hj =>
  ⟨(hz i hi j hj).1.add hD zby.1, ((hz i hi j hj).2.add zby.2).mono (by decide)⟩
 have hB : 10 ^ 27 * D < 10 ^ 328 := by
  have h1 : 10 ^ 27 * D <= 10 ^ 27 * 10 ^ 300 := Nat.mul_le_mul_left _ hD2
  have h2 : (10 : Nat) ^ 27 * 10 ^ 300 = 10 ^ 327 := by rw [<- Nat.pow_add]
  have h3 : (10 : Nat) ^ 327 < 10 ^ 328 := Nat.pow_lt_pow_right (by decide) (by decide)
  omega
 have toDr : ∀ {r : Rat}, Zd D r -> Ab (10 ^ 27) r -> Dr 328 r := fun h k => Zd.dr hD (by decide) h k.1 k.2 hB
 have dA : ∀ i, i < R -> ∀ j, j < C -> Dr 328 (M i j + by') := fun i hi j hj => toDr (zA i hi j hj).1 (zA i hi j hj).2
 have dby2 : Dr 328 by' := toDr zby.1 (zby.2.mono (by decide))
 have okA : ∀ i, i < R -> ∀ j, j < C -> OkR (M i j + by') := fun i hi j hj => ze0 (dA i hi j hj) (by omega) (by omega)
 have hout : z6i fuel ga = some (mt R C (fun i j => M i j + by'), 0) := by
  rcases wd4 (by omega) (by omega) a2 (fun i hi j hj => z5t (by omega) (dA i hi j hj)) with ⟨⟨i, j, hi, hj, hn⟩, _⟩ | ⟨_, h⟩
  ·exact absurd (okA i hi j hj) hn
  ·exact h
 have hbs : ∀ i, i < R -> (List.replicate R (1 : Rat)).getD i 0 = 1 := fun i hi => w1g hi
 have hcs : ∀ j, j < C -> (List.replicate C (1 : Rat)).getD j 0 = 1 := fun j hj => w1g hj
 have hcc : ∀ k, cst C (fun j => (List.replicate C (1 : Rat)).getD j 0) k = 0 \/ cst C (fun j => (List.replicate C (1 : Rat)).getD j 0) k = 1 \/ cst C (fun j => (List.replicate C (1 : Rat)).getD j 0) k = -1 := fun k => by
  unfold cst
  by_cases e : k < C
  ·rw [if_pos e]; exact .inr (.inl (hcs k e))
  ·rw [if_neg e]; exact .inl rfl
 have hcxx : ∀ k, cx R C k = 0 \/ cx R C k = 1 \/ cx R C k = -1 := fun k => by
  unfold cx
  by_cases e : k = C + R
  ·rw [if_pos e]; exact .inr (.inr rfl)
  ·rw [if_neg e]; exact .inl rfl
 have hδ : ∀ i, i < R + 1 -> (if i < R then D else 1) ≠ 0 := fun i _ => by
  by_cases e : i < R
  ·rw [if_pos e]; exact hD
  ·rw [if_neg e]; decide
 have hbound := w77 hR hD hD2
 have ec := w55 hD hbs zA hcc
 have ex := w55 hD hbs zA hcxx
 have hgc := w5c hδ (by decide) ec hbound
 have hgx := w5c hδ (by decide) ex hbound
 have hcom := ws3 hδ (by decide) ec hbound
 have hT0 : ∀ r, r < R -> ∀ s, s < C + R + 2 -> Dr 1666 (lpM R C (fun i j => M i j + by') (fun j => (List.replicate R (1 : Rat)).getD j 0) r s) := fun r hr s hs => by
  have := ex r (by omega) s (by omega)
  unfold gM at this
  rw [if_pos hr, if_pos hr, if_pos hs] at this
  exact z5t (by omega) (toDr this.1 this.2)
 have hTm : Txt (mt R C fun i j => M i j + by') R C (fun i j => M i j + by') := v10 okA
 have hsc := v0s (bs := List.replicate R 1) (cs := List.replicate C 1) (by omega) (by omega) hTm hR0 List.length_replicate List.length_replicate yv8 yv8
 obtain ⟨out, u1, u2⟩ := wf4 (K := 1666) (by omega) (by omega) (m := R) (n := C) (by omega) (by omega) hTm List.length_replicate List.length_replicate yv8 yv8 hT0 (fun i hi => by rw [hcs i hi]; exact z5t (by omega) d1) hgc hgx hsc
 unfold z5l
 rw [hck, Option.bind_some, if_neg (by decide), g1]
 dsimp only
 rw [i1, Option.bind_some, if_pos (show (0 : Int) < ((g.length : Nat) : Int) by omega), if_pos (show (0 : Int) < (((g.getD 0 ([] : List Qd)).length : Nat) : Int) by omega), k1]
 dsimp only
 rw [b1, Option.bind_some, a1]
 dsimp only
 rw [hout, Option.bind_some, if_neg (show ¬ ((0 : Int) != 0) = true by decide), if_pos (by omega), la, wq2 (by omega), Option.bind_some, l0, wq2 (by omega), Option.bind_some, wq3, wq3, u1, Option.bind_some]
 rcases u2 with ⟨β, T, h1, h2, h3, h4, rfl⟩ | ⟨y, h1, h2, h3, rfl⟩ | ⟨x, z, h1, h2, h3, h4, h5, rfl⟩
 ·have hdr := h1.dr hgc
  obtain ⟨D0, D1, D2, D3⟩ := h1.com hcom
  have hinj : ∀ i j, i < R -> j < R -> β i = β j -> i = j := fun i j hi hj e => h1.bas.inj hi hj e
  obtain ⟨y1, y2, y3, y4⟩ := wb5 h1 h3 h4
  have x1 := wb7 h1 h3 h2
  have x0 := yj6 (m := R) (β := β) (T := T) (s := C + R + 1) h2
  have e3 : fs (xv R β T (C + R + 1)) C = T R (C + R + 1) := by
   rw [<- y3]; exact z1k fun j hj => by rw [hcs j hj]; grind
  have e4 : fs (fun j => T R (C + j)) R = T R (C + R + 1) := by
   rw [<- y4]; exact z1k fun j hj => by rw [hbs j hj]; grind
  obtain ⟨hv, hE⟩ := wv5 (M := M) (b := by') (v := T R (C + R + 1)) hC0 (fun j _ => x0 j) y1 (fun i hi => by have := x1 i hi; rw [hbs i hi] at this; exact this) (fun j hj => by have := y2 j hj; rw [hcs j hj] at this; exact this) e3 e4
  have hv0 : T R (C + R + 1) ≠ 0 := by grind
  obtain ⟨D', E1, E2, E3⟩ := (D3 R (by omega) (C + R + 1) (by omega)).div D1 hv0
  have fx : ∀ j, Fr 1666 D0 (xv R β T (C + R + 1) j) := fun j => by
   rcases w6k (T := T) (s := C + R + 1) (v := j) hinj R (Nat.le_refl _) with ⟨_, h⟩ | ⟨i, hi, _, h⟩
   ·rw [h]; exact Fr.zero
   ·rw [h]; exact D3 i (by omega) _ (by omega)
  have ediv : ∀ r : Rat, r * (1 / T R (C + R + 1)) = r / T R (C + R + 1) := fun r => by rw [Rat.div_def, Rat.div_def, Rat.one_mul]
  have fp : ∀ i, i < R -> Fr 1666 D' (T R (C + i) * (1 / T R (C + R + 1))) := fun i hi => by rw [ediv]; exact E3 _ (D3 R (by omega) _ (by omega))
  have fq : ∀ j, j < C -> Fr 1666 D' (xv R β T (C + R + 1) j * (1 / T R (C + R + 1))) := fun j _ => by rw [ediv]; exact E3 _ (fx j)
  have dv := hdr R (by omega) (C + R + 1) (by omega)
  have dw : Dr 1666 (1 / T R (C + R + 1)) := by
   rw [Rat.div_def, Rat.one_mul]; exact wo3 dv hv0
  obtain ⟨qv, v1, v2⟩ := w7c (ze0 dv (by omega) (by omega))
  obtain ⟨qw, w1, w2⟩ := yi3 i2 v2 d1 dv (by omega) hv0
  obtain ⟨lp, p1, p2⟩ := y8i (n := R) (x := fun j => T R (C + j)) (by omega) (fun j hj => z5t (by omega) (hdr R (by omega) _ (by omega))) w2 (z5t (by omega) dw) fuel 0 [] (by omega) (by omega) ⟨rfl, fun i hi => by omega⟩
  obtain ⟨lq, q1, q2⟩ := y8i (n := C) (x := xv R β T (C + R + 1)) (by omega) (fun j hj => (z5t (by omega) ((fx j).dr D1 D2))) w2 (z5t (by omega) dw) fuel 0 [] (by omega) (by omega) ⟨rfl, fun i hi => by omega⟩
  have p1 : z0y fuel (xt R fun j => T R (C + j)) ((xt R fun j => T R (C + j)).length : Int) 0 qw.1 qw.2.1 qw.2.2 [] = some (.exit (lp, qw.1, qw.2.1, qw.2.2, ())) := by rw [y30]; exact p1
  have q1 : z0y fuel (xt C (xv R β T (C + R + 1))) ((xt C (xv R β T (C + R + 1))).length : Int) 0 qw.1 qw.2.1 qw.2.2 [] = some (.exit (lq, qw.1, qw.2.1, qw.2.2, ())) := by rw [y30]; exact q1
  obtain ⟨qV, V1, V2⟩ := y2v w2 b2 dw dby (by omega)
  have V1 : z45 fuel (qw.1, (qw.2.1, qw.2.2)) (qb.1, (qb.2.1, qb.2.2)) = some qV := V1
  have dV : Dr 1995 (1 / T R (C + R + 1) - by') := z5t (by omega) (w9e dw dby2)
  have hTold : zf3 fuel qV = some (rt (1 / T R (C + R + 1) - by'), 0) := by
   unfold zf3
   rw [y2b V2 dV (by omega), if_pos (ze0 dV (by omega) (by omega)), Option.bind_some, if_neg (by decide), w17 V2 dV (by omega), Option.bind_some]
  refine ⟨_, _, _, D', hE, ?_, dV, E1, E2, fp, fq⟩
  rw [if_neg (show ¬ ((0 : Int) != 0) = true by decide)]
  dsimp only
  rw [Option.bind_some, v1, Option.bind_some, w1, Option.bind_some, p1]
  dsimp only
  rw [y4q (K := 1666) p2 (by omega) (by omega) (by omega) (fun i hi => (fp i hi).dr E1 E2), Option.bind_some, if_neg (show ¬ ((0 : Int) != 0) = true by decide)]
  dsimp only
  rw [q1]
  dsimp only
  rw [y4q (K := 1666) q2 (by omega) (by omega) (by omega) (fun i hi => (fq i hi).dr E1 E2), Option.bind_some, if_neg (show ¬ ((0 : Int) != 0) = true by decide)]
  dsimp only
  rw [V1, Option.bind_some, hTold, Option.bind_some, if_neg (show ¬ ((0 : Int) != 0) = true by decide)]
 ·exfalso
  have e : fs (fun j => y j * (List.replicate R (1 : Rat)).getD j 0) R = fs y R := z1k fun j hj => by rw [hbs j hj]; grind
  rw [e] at h3
  have := zi0 (n := R) (f := y) fun i hi => (h1 i hi).2
  grind
 ·exfalso
  have e : fs (fun j => (List.replicate C (1 : Rat)).getD j 0 * z j) C = fs z C := z1k fun j hj => by rw [hcs j hj]; grind
  rw [e] at h5
  have h6 : fs z C <= fs (fun k => (M 0 k + by') * z k) C := wk3 fun k hk => by
   have a1 := k3 0 k hR0 hk trivial
   have a2 := (h2 k hk).2
   have a3 : 1 <= M 0 k + by' := by rw [<- hby]; grind
   have := Rat.mul_le_mul_of_nonneg_right a3 a2
   rw [Rat.one_mul] at this
   exact this
  have h7 := h4 0 hR0
  grind
end Go.Proofs.YtcdcoeofhnfjdaaGreatDoor
namespace Go.Proofs.YtcdcoeofhnfjdaaGreatDoor
open Go Vm
theorem ya4 : z5k fuel = some true := by kernel_rfl
theorem wf3 {R C : Nat} (hR : R <= 5) (hC : C <= 5) {M : Nat -> Nat -> Rat} (h : ∀ i, i < R -> ∀ j, j < C -> Dr 12 (M i j)) : ∃ D, D ≠ 0 /\ D <= 10 ^ 300 /\ ∀ i, i < R -> ∀ j, j < C -> Zd D (M i j) /\ Ab (10 ^ 26) (M i j) := by
 have h1 : ∀ i, i < R -> pd (fun j => (M i j).den) C ≠ 0 := fun i _ => w19 fun j _ => (M i j).den_nz
 have h2 : ∀ i, i < R -> pd (fun j => (M i j).den) C <= 10 ^ (12 * C) := fun i hi => wl9 fun j hj => Nat.le_of_lt (h i hi j hj).2
 refine ⟨pd (fun i => pd (fun j => (M i j).den) C) R, w19 h1, ?_, fun i hi j hj => ⟨?_, ?_⟩⟩
 ·have := wl9 h2
  refine Nat.le_trans this (Nat.pow_le_pow_right (by decide) ?_)
  have : 12 * C * R <= 12 * 5 * 5 := Nat.mul_le_mul (Nat.mul_le_mul_left _ hC) hR
  omega
 ·obtain ⟨e, e0, he⟩ := w5w hi h1
  obtain ⟨e', e0', he'⟩ := w5w (δ := fun j => (M i j).den) hj fun j _ => (M i j).den_nz
  rw [he, he']
  exact ((Zd.den (M i j)).more e0').more e0
 ·exact (Ab.of_dr (h i hi j hj)).mono (Nat.pow_le_pow_right (by decide) (by decide))
theorem ww1 {n : Nat} {p : Nat -> Rat} (h0 : ∀ i, i < n -> 0 <= p i) (h1 : fs p n = 1) : ∀ i, i < n -> p i <= 1 := fun i hi => by
 have := wk2 h0 hi
 rw [h1] at this; exact this
theorem wc8 {n K D : Nat} (hn : n <= 9) (hK1 : 1 <= K) (hK : K <= 1999) (hD : D ≠ 0) (hD2 : D < 10 ^ K) {p : Nat -> Rat} (h0 : ∀ i, i < n -> 0 <= p i) (h1 : fs p n = 1) (hf : ∀ i, i < n -> Fr K D (p i)) : za1 fuel (xt n p) = some 0 := by
 have mem : ∀ r, r ∈ (List.range n).map p -> ∃ i, i < n /\ r = p i := fun r hr => by
  obtain ⟨i, hi, rfl⟩ := List.mem_map.1 hr
  exact ⟨i, List.mem_range.1 hi, rfl⟩
 have pw : (10 : Nat) ^ K <= 10 ^ (K + 1) := Nat.pow_le_pow_right (by decide) (by omega)
 refine wc7 ((List.range n).map p) (by rw [List.length_map, List.length_range]; omega) (fun r hr => ?_) (fun r hr => ?_) (by rw [y8c, h1]) (fun k hk => ?_)
 ·obtain ⟨i, hi, rfl⟩ := mem r hr
  exact ze0 ((hf i hi).dr hD hD2) hK1 (by omega)
 ·obtain ⟨i, hi, rfl⟩ := mem r hr
  exact h0 i hi
 ·rw [List.length_map, List.length_range] at hk
  rw [take_range p hk, y8c]
  exact ze0 ((Fr.sum' (n := k) hD (by omega) fun i hi => hf i (by omega)).dr hD (by omega)) (by omega) (by omega)
theorem yw2 {a : List (List ByteArray)} {R C : Nat} {M : Nat -> Nat -> Rat} (hR : 0 < R) (ha : Txt a R C M) (hck : z1z fuel a = some 0) {x y : List ByteArray} (hx : x.length = R) (hy : y.length = C) (ox : za1 fuel x = some 0) (oy : za1 fuel y = some 0) : z38 fuel a x y = some 0 := by
 have la := ha.1
 have l0 : (a.getD 0 []).length = C := by rw [(ha.2 0 hR).1, List.length_map, List.length_map, List.length_range]
 unfold z38
 rw [hck, Option.bind_some, if_neg (by decide), if_pos (by rw [bne_eq_false_iff_eq]; omega), if_pos (by omega), if_neg (by rw [bne_iff_ne]; omega), ox, Option.bind_some, if_neg (by decide), oy, Option.bind_some]
theorem wn2 {R C D : Nat} (hC : C <= 5) (hD : D ≠ 0) (hD2 : D < 10 ^ 1666) {M : Nat -> Nat -> Rat} {q : Nat -> Rat} {i : Nat} (h : ∀ j, j < C -> Dr 12 (M i j)) (h0 : ∀ j, j < C -> 0 <= q j) (h1 : fs q C = 1) (hf : ∀ j, j < C -> Fr 1666 D (q j)) : OkR (fs (fun j => M i j * q j) C) := by
 have hP : pd (fun j => (M i j).den) C ≠ 0 := w19 fun j _ => (M i j).den_nz
 have hP2 : pd (fun j => (M i j).den) C <= 10 ^ 60 := by
  exact Nat.le_trans (wl9 fun j hj => Nat.le_of_lt (h j hj).2) (Nat.pow_le_pow_right (by decide) (Nat.mul_le_mul_left 12 hC))
 have hz : Zd (pd (fun j => (M i j).den) C * D) (fs (fun j => M i j * q j) C) := Zd.fs (Nat.mul_ne_zero hP hD) fun j hj => by
  obtain ⟨e, e0, he⟩ := w5w (δ := fun j => (M i j).den) hj fun j _ => (M i j).den_nz
  have : Zd (pd (fun j => (M i j).den) C) (M i j) := by rw [he]; exact (Zd.den (M i j)).more e0
  exact this.mul (hf j hj).zd
 have hb : Ab (C * 10 ^ 12) (fs (fun j => M i j * q j) C) := Ab.fs fun j hj => by
  rw [Rat.mul_comm]
  exact (Ab.of_dr (h j hj)).scale (h0 j hj) (ww1 h0 h1 j hj)
 have hb2 : Ab (10 ^ 13) (fs (fun j => M i j * q j) C) := hb.mono (by
   have : C * 10 ^ 12 <= 5 * 10 ^ 12 := Nat.mul_le_mul_right _ hC
   exact Nat.le_trans this (by decide))
 have hk : 10 ^ 13 * (pd (fun j => (M i j).den) C * D) < 10 ^ 1740 := by
  have a1 : pd (fun j => (M i j).den) C * D <= 10 ^ 60 * 10 ^ 1666 := Nat.mul_le_mul hP2 (Nat.le_of_lt hD2)
  have a2 : 10 ^ 13 * (pd (fun j => (M i j).den) C * D) <= 10 ^ 13 * (10 ^ 60 * 10 ^ 1666) := Nat.mul_le_mul_left _ a1
  have a3 : (10 : Nat) ^ 13 * (10 ^ 60 * 10 ^ 1666) = 10 ^ 1739 := by rw [<- Nat.pow_add, <- Nat.pow_add]
  have a4 : (10 : Nat) ^ 1739 < 10 ^ 1740 := Nat.pow_lt_pow_right (by decide) (by decide)
  exact Nat.lt_of_le_of_lt (Nat.le_trans a2 (Nat.le_of_eq a3)) a4
 exact ze0 (Zd.dr (Nat.mul_ne_zero hP hD) (by decide) hz hb2.1 hb2.2 hk) (by omega) (by omega)
theorem w4m {n i : Nat} {x : Nat -> Rat} (h : i < n) : ((List.range n).map x).getD i 0 = x i := z5i h
theorem v0n {a : List (List ByteArray)} {R C D : Nat} {M : Nat -> Nat -> Rat} (hR0 : 0 < R) (hR : R <= 5) (hC : C <= 5) (ha : Txt a R C M) (hd : ∀ i, i < R -> ∀ j, j < C -> Dr 12 (M i j)) (hck : z1z fuel a = some 0) {p q : Nat -> Rat} {V : Rat} (hE : Eqm R C M p q V) (hV : OkR V)
  (hD : D ≠ 0) (hD2 : D < 10 ^ 1666) (fp : ∀ i, i < R -> Fr 1666 D (p i)) (fq : ∀ j, j < C -> Fr 1666 D (q j)) : z38 fuel a (xt R p) (xt C q) = some 0 /\ zc0 fuel a (xt R p) (xt C q) = some (rt V, 0) := by
 have hE2 := hE
 obtain ⟨p0, q0, p1, q1, _, _⟩ := hE
 have hs := yw2 hR0 ha hck y30 y30 (wc8 (by omega) (by omega) (by omega) hD hD2 p0 p1 fp) (wc8 (by omega) (by omega) (by omega) hD hD2 q0 q1 fq)
 refine ⟨hs, ?_⟩
 have lq : ((List.range C).map q).length = C := by rw [List.length_map, List.length_range]
 have lp : ((List.range R).map p).length = R := by rw [List.length_map, List.length_range]
 have oq : ∀ r, r ∈ (List.range C).map q -> OkR r := fun r hr => by
  obtain ⟨j, hj, rfl⟩ := List.mem_map.1 hr
  exact ze0 ((fq j (List.mem_range.1 hj)).dr hD hD2) (by omega) (by omega)
 have op : ∀ r, r ∈ (List.range R).map p -> OkR r := fun r hr => by
  obtain ⟨j, hj, rfl⟩ := List.mem_map.1 hr
  exact ze0 ((fp j (List.mem_range.1 hj)).dr hD hD2) (by omega) (by omega)
 have ev : ∀ i, fs (fun j => M i j * ((List.range C).map q).getD j 0) C = fs (fun j => M i j * q j) C := fun i => z1k fun j hj => by rw [w4m hj]
 have okv : ∀ i, i < R -> OkR (fs (fun j => M i j * q j) C) := fun i hi => wn2 (R := R) hC hD hD2 (hd i hi) q0 q1 fq
 have hap : z78 fuel a (xt C q) = some (xt R (fun i => fs (fun j => M i j * q j) C), 0) := by
  rcases wh7 ha (by omega) (by omega) hR0 lq oq with ⟨⟨i, hi, hn⟩, _⟩ | ⟨_, h⟩
  ·rw [ev i] at hn; exact absurd (okv i hi) hn
  ·unfold xt
   rw [h]
   have e : ((List.range R).map fun i => fs (fun j => M i j * ((List.range C).map q).getD j 0) C) = (List.range R).map fun i => fs (fun j => M i j * q j) C := List.map_congr_left fun i _ => ev i
   rw [e]
 have lv : ((List.range R).map fun i => fs (fun j => M i j * q j) C).length = R := by rw [List.length_map, List.length_range]
 have ov : ∀ r, r ∈ (List.range R).map (fun i => fs (fun j => M i j * q j) C) -> OkR r := fun r hr => by
  obtain ⟨i, hi, rfl⟩ := List.mem_map.1 hr
  exact okv i (List.mem_range.1 hi)
 have es : fs (fun i => ((List.range R).map p).getD i 0 * ((List.range R).map fun i => fs (fun j => M i j * q j) C).getD i 0) R = V := by
  rw [<- hE2.pay]
  exact z1k fun i hi => by rw [w4m hi, w4m hi]
 have hdot : zh8 fuel (xt R p) (xt R fun i => fs (fun j => M i j * q j) C) = some (rt V, 0) := by
  have := v01 (n := R) (by omega) lp lv op ov (by rw [es]; exact hV)
  rw [es] at this
  exact this
 unfold zc0
 rw [hs, Option.bind_some, if_neg (by decide), hap, Option.bind_some, if_neg (show ¬ ((0 : Int) != 0) = true by decide)]
 dsimp only
 rw [hdot, Option.bind_some]
theorem v0g {n : Nat} (hn : n <= 40) {f g : Nat -> Rat} {a b : List Qd} (ha : QF n f a) (hb : QF n g b) (hf : ∀ i, i < n -> Dr 2000 (f i)) (hg : ∀ i, i < n -> Dr 2000 (g i)) : ∀ (m i : Nat) (q : Qd), i <= n -> n < m + i -> QR (fs (fun i => f i * g i) i) q ->
  ∃ q', z48 m a (n : Int) (i : Int) b q.1 q.2.1 q.2.2 = some (.exit (b, q'.1, q'.2.1, q'.2.2, ())) /\ QR (fs (fun i => f i * g i) n) q'
 | 0, i, q, h1, h2, _ => by omega
 | m + 1, i, q, h1, h2, hq => by
  have la := ha.1
  have lb := hb.1
  simp only [z48]
  by_cases hi : i < n
  ·have e4 : IntKind.i64.wrap ((i : Int) + 1) = ((i + 1 : Nat) : Int) := by rw [w64 _ (by omega) (by omega)]; omega
   have d1 : Dr ((2000 + 2000 + 1) * i + 1) (fs (fun i => f i * g i) i) := w3b fun j hj => zp0 (hf j (by omega)) (hg j (by omega))
   have hd : (2000 + 2000 + 1) * i <= (2000 + 2000 + 1) * 40 := Nat.mul_le_mul_left _ (by omega)
   obtain ⟨x, hx, hqx⟩ := y0u (ha.at hi) (hb.at hi) (hf i hi) (hg i hi) (by omega)
   obtain ⟨y, hy, hqy⟩ := y8d hq hqx d1 (zp0 (hf i hi) (hg i hi)) (by omega)
   have hy : z44 fuel (q.1, (q.2.1, q.2.2)) x = some y := hy
   rw [if_pos (by simpa using hi), if_pos (by omega), if_pos (by omega), if_pos (by omega), if_pos (by omega), Int.toNat_natCast, hx, Option.bind_some, hy, Option.bind_some, e4]
   exact v0g hn ha hb hf hg m (i + 1) y (by omega) (by omega) hqy
  ·rw [if_neg (by simpa using hi)]
   have : i = n := by omega
   subst this
   exact ⟨q, rfl, hq⟩
theorem w9z {R C : Nat} (hR : R <= 40) (hC : C <= 40) {M : Nat -> Nat -> Rat} {y : Nat -> Rat} {V : Rat} {g : List (List Qd)} {ys : List Qd} {v : Qd} (hg : QG R C M g) (hy : QF C y ys) (hv : QR V v) (hM : ∀ i, i < R -> ∀ j, j < C -> Dr 2000 (M i j)) (hyd : ∀ j, j < C -> Dr 2000 (y j)) (hV : Dr 2000 V)
  (h : ∀ i, i < R -> fs (fun j => M i j * y j) C <= V) : ∀ (f i : Nat), i <= R -> R + 1000 < f + i -> z47 f (R : Int) (i : Int) v.1 v.2.1 v.2.2 ys g = some (.exit (v.1, v.2.1, v.2.2, ys, g, ()))
 | 0, i, h1, h2 => by omega
 | f + 1, i, h1, h2 => by
  have lg := hg.1
  simp only [z47]
  by_cases hi : i < R
  ·have e4 : IntKind.i64.wrap ((i : Int) + 1) = ((i + 1 : Nat) : Int) := by rw [w64 _ (by omega) (by omega)]; omega
   have li := (hg.2 i hi).1
   obtain ⟨q, q1, q2⟩ := v0g hC (hg.2 i hi) hy (hM i hi) hyd f 0 (false, ([], [])) (by omega) (by omega) zk0
   have q1 : z48 f (g.getD i []) (((g.getD i ([] : List Qd)).length : Nat) : Int) 0 ys false [] [] = some (.exit (ys, q.1, q.2.1, q.2.2, ())) := by rw [li]; exact q1
   have hc : z3i fuel (q.1, (q.2.1, q.2.2)) (v.1, (v.2.1, v.2.2)) = _ := yi2 q2 hv (wu0 hC (hM i hi) hyd) hV (by omega)
   rw [if_pos (by simpa using hi), if_pos (by omega), if_pos (by omega), Int.toNat_natCast, q1]
   dsimp only
   rw [hc, Option.bind_some, if_neg (by rw [decide_eq_true_eq]; have := yv0.2 (show fs (fun j => M i j * y j) C - V <= 0 by have := h i hi; grind); omega), e4]
   exact w9z hR hC hg hy hv hM hyd hV h f (i + 1) (by omega) (by omega)
  ·rw [if_neg (by simpa using hi)]
theorem wo8 {R C k : Nat} (hR : R <= 40) (hk : k < C) (hC : C <= 1000) {M : Nat -> Nat -> Rat} {x : Nat -> Rat} {g : List (List Qd)} {xs : List Qd} (hg : QG R C M g) (hx : QF R x xs) (hM : ∀ i, i < R -> Dr 2000 (M i k)) (hxd : ∀ i, i < R -> Dr 2000 (x i)) : ∀ (f i : Nat) (q : Qd), i <= R -> R < f + i -> QR (fs (fun i => M i k * x i) i) q ->
  ∃ q', z4a f (k : Int) (R : Int) (i : Int) xs q.1 q.2.1 q.2.2 g = some (.exit (xs, q'.1, q'.2.1, q'.2.2, g, ())) /\ QR (fs (fun i => M i k * x i) R) q'
 | 0, i, q, h1, h2, _ => by omega
 | f + 1, i, q, h1, h2, hq => by
  have lg := hg.1
  have lx := hx.1
  simp only [z4a]
  by_cases hi : i < R
  ·have e4 : IntKind.i64.wrap ((i : Int) + 1) = ((i + 1 : Nat) : Int) := by rw [w64 _ (by omega) (by omega)]; omega
   have hr := hg.2 i hi
   have lr := hr.1
   have d1 : Dr ((2000 + 2000 + 1) * i + 1) (fs (fun i => M i k * x i) i) := w3b fun j hj => zp0 (hM j (by omega)) (hxd j (by omega))
   have hd : (2000 + 2000 + 1) * i <= (2000 + 2000 + 1) * 40 := Nat.mul_le_mul_left _ (by omega)
   obtain ⟨z, hz, hqz⟩ := y0u (hr.at hk) (hx.at hi) (hM i hi) (hxd i hi) (by omega)
   obtain ⟨w, hw, hqw⟩ := y8d hq hqz d1 (zp0 (hM i hi) (hxd i hi)) (by omega)
   have hw : z44 fuel (q.1, (q.2.1, q.2.2)) z = some w := hw
   simp only [Int.toNat_natCast]
   rw [if_pos (by simpa using hi), if_pos (by omega), if_pos (by omega), if_pos (by omega), if_pos (show ((k : Nat) : Int) < (((g.getD i ([] : List Qd)).length : Nat) : Int) by omega), if_pos (by omega), if_pos (by omega), hz, Option.bind_some, hw, Option.bind_some, e4]
   exact wo8 hR hk hC hg hx hM hxd f (i + 1) w (by omega) (by omega) hqw
  ·rw [if_neg (by simpa using hi)]
   have : i = R := by omega
   subst this
   exact ⟨q, rfl, hq⟩
theorem w9y {R C : Nat} (hR : R <= 40) (hC : C <= 40) {M : Nat -> Nat -> Rat} {x : Nat -> Rat} {V : Rat} {g : List (List Qd)} {xs : List Qd} {v : Qd} (hg : QG R C M g) (hx : QF R x xs) (hv : QR V v) (hM : ∀ i, i < R -> ∀ j, j < C -> Dr 2000 (M i j)) (hxd : ∀ j, j < R -> Dr 2000 (x j)) (hV : Dr 2000 V)
  (h : ∀ j, j < C -> V <= fs (fun i => x i * M i j) R) : ∀ (f i : Nat), i <= C -> C + 1000 < f + i -> z49 f (C : Int) (i : Int) v.1 v.2.1 v.2.2 xs g = some (.exit (v.1, v.2.1, v.2.2, xs, g, ()))
 | 0, i, h1, h2 => by omega
 | f + 1, i, h1, h2 => by
  have lg := hg.1
  simp only [z49]
  by_cases hi : i < C
  ·have e4 : IntKind.i64.wrap ((i : Int) + 1) = ((i + 1 : Nat) : Int) := by rw [w64 _ (by omega) (by omega)]; omega
   obtain ⟨q, q1, q2⟩ := wo8 hR hi (by omega) hg hx (fun j hj => hM j hj i hi) hxd f 0 (false, ([], [])) (by omega) (by omega) zk0
   have q1 : z4a f (i : Int) (g.length : Int) 0 xs false [] [] g = some (.exit (xs, q.1, q.2.1, q.2.2, g, ())) := by rw [lg]; exact q1
   have hc : z3i fuel (q.1, (q.2.1, q.2.2)) (v.1, (v.2.1, v.2.2)) = _ := yi2 q2 hv (wu0 hR (fun j hj => hM j hj i hi) hxd) hV (by omega)
   have hle : V <= fs (fun j => M j i * x j) R := by
    rw [z1k (g := fun j => x j * M j i) fun j _ => Rat.mul_comm _ _]; exact h i hi
   rw [if_pos (by simpa using hi), q1]
   dsimp only
   rw [hc, Option.bind_some, if_neg (by rw [decide_eq_true_eq]; exact zn5.2 (show 0 <= fs (fun j => M j i * x j) R - V by grind)), e4]
   exact w9y hR hC hg hx hv hM hxd hV h f (i + 1) (by omega) (by omega)
  ·rw [if_neg (by simpa using hi)]
theorem w7b {a : List (List ByteArray)} {R C : Nat} {M : Nat -> Nat -> Rat} (hR : R <= 40) (hC : C <= 40) (ha : Txt a R C M) {p q : Nat -> Rat} {V : Rat} (hE : Eqm R C M p q V) (hV : OkR V) (op : ∀ i, i < R -> OkR (p i)) (oq : ∀ j, j < C -> OkR (q j)) (hs : z38 fuel a (xt R p) (xt C q) = some 0) :
  z5v fuel a (rt V, (xt R p, xt C q)) = some 0 := by
 have hf := z7g (n := 2 ^ 100) (by decide)
 have hM : ∀ i, i < R -> ∀ j, j < C -> Dr 2000 (M i j) := fun i hi j hj => zi5 ((ha.2 i hi).2 j hj)
 obtain ⟨qv, v1, v2⟩ := w7c hV
 obtain ⟨qx, x1, x2⟩ := wq4 (n := R) (by omega) op
 obtain ⟨qy, y1, y2⟩ := wq4 (n := C) (by omega) oq
 obtain ⟨g, g1, g2⟩ := w5g ha (by omega) (by omega)
 have r1 := w9z hR hC g2 y2 v2 hM (fun j hj => zi5 (oq j hj)) (zi5 hV) hE.2.2.2.2.1 fuel 0 (by omega) (by omega)
 have r1 : z47 fuel (g.length : Int) 0 qv.1 qv.2.1 qv.2.2 qy g = some (.exit (qv.1, qv.2.1, qv.2.2, qy, g, ())) := by rw [g2.1]; exact r1
 have r2 := w9y hR hC g2 x2 v2 hM (fun j hj => zi5 (op j hj)) (zi5 hV) hE.2.2.2.2.2 fuel 0 (by omega) (by omega)
 have r2 : z49 fuel (qy.length : Int) 0 qv.1 qv.2.1 qv.2.2 qx g = some (.exit (qv.1, qv.2.1, qv.2.2, qx, g, ())) := by rw [y2.1]; exact r2
 unfold z5v
 dsimp only
 rw [hs, Option.bind_some, if_neg (by decide), yi4 hV, Option.bind_some, if_neg (by decide), v1, Option.bind_some, x1, Option.bind_some, y1, Option.bind_some, g1, Option.bind_some, r1]
 dsimp only
 rw [r2]
theorem w7a {a : List (List ByteArray)} {e : Int} (h0 : e ≠ 0) (h : z1z fuel a = some e) : z5l fuel a = some ((ByteArray.empty, ([], [])), e) := by
 unfold z5l
 rw [h, Option.bind_some, if_pos (by simpa using h0)]
theorem w0m (a : List (List ByteArray)) (ha : WM a) : z3c fuel a = some true := by
 unfold z3c
 rw [ya4, Option.bind_some, if_neg (by decide)]
 obtain ⟨r, hr, hs⟩ := w81 (l := [a]) (by simp) (fun v hv => by rw [List.mem_singleton] at hv; subst hv; exact ha) 5
 have hr : z4l fuel 5 [a] = some r := hr
 rw [hr, Option.bind_some]
 cases r with
 | false => rw [if_pos (by decide)]
 | true =>
  have s1 := hs rfl a (by simp)
  rw [if_neg (by decide)]
  rcases w3l ha with ⟨e, e0, h⟩ | ⟨h, R, C, M, hR0, _, hC0, _, hC, hT⟩
  ·rw [w7a e0 h, Option.bind_some, if_pos (by simpa using e0), h, Option.bind_some, if_pos (by simp)]
   show some (((⟨#[]⟩ : ByteArray).toList == (⟨#[]⟩ : ByteArray).toList)) = some true
   simp
  ·have hR : R <= 5 := by rw [<- hT.1]; exact s1.1
   have hC5 : C <= 5 := by rw [<- hC]; exact (s1.2 0 (by rw [hT.1]; exact hR0)).1
   have dA := v21 hT s1
   obtain ⟨D, D1, D2, D3⟩ := wf3 hR hC5 dA
   obtain ⟨p, q, V, D', hE, g1, dV, E1, E2, fp, fq⟩ := wu2 hR0 hR hC0 hC5 hT D1 D2 D3 h
   have hV := ze0 dV (by omega) (by omega)
   obtain ⟨k1, k2⟩ := v0n hR0 hR hC5 hT dA h hE hV E1 E2 fp fq
   have k3 := w7b (by omega) (by omega) hT hE hV (fun i hi => ze0 ((fp i hi).dr E1 E2) (by omega) (by omega)) (fun i hi => ze0 ((fq i hi).dr E1 E2) (by omega) (by omega)) k1
   rw [g1, Option.bind_some, if_neg (show ¬ ((0 : Int) != 0) = true by decide)]
   dsimp only
   rw [k2, Option.bind_some, if_pos (show ((0 : Int) == 0) = true by decide), if_pos (by simp), k3, Option.bind_some]
   rfl
theorem matgameProves_plain : ∀ x : List (List ByteArray), WfL [.slice (.slice .str)] x -> z3c fuel x = some true := fun x h => w0m x (v24 h)
end Go.Proofs.YtcdcoeofhnfjdaaGreatDoor
