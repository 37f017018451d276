/- What the pure functions of this claim compute, and what follows from it: part 3. -/
import Derived.Test.YtcdcoeofhnfjdabGreatDoorL2
set_option maxHeartbeats 1000000
set_option linter.unusedVariables false
namespace Go.Proofs.YtcdcoeofhnfjdabGreatDoor
open Go Vm
theorem wx0 {rs : List Rat} {i : Nat} (hi : i < rs.length) {d : ByteArray} : (rs.map rt).getD i d = rt (rs.getD i 0) := by
 rw [List.getD_eq_getElem?_getD, List.getD_eq_getElem?_getD, List.getElem?_map, List.getElem?_eq_getElem hi]; rfl
end Go.Proofs.YtcdcoeofhnfjdabGreatDoor
namespace Go.Proofs.YtcdcoeofhnfjdabGreatDoor
open Go Vm
def Fr (K D : Nat) (r : Rat) : Prop := ∃ z : Int, z.natAbs < 10 ^ K /\ r = mkRat z D
theorem Fr.dr {K D : Nat} (hD : D ≠ 0) (hK : D < 10 ^ K) {r : Rat} (h : Fr K D r) : Dr K r := by
 obtain ⟨z, h1, rfl⟩ := h
 exact wv7 hD h1 hK
theorem Fr.zero {K D : Nat} : Fr K D 0 := ⟨0, Nat.pow_pos (by decide), by rw [Rat.zero_mkRat]⟩
theorem wz0 {P B e : Nat} (hP : P ≠ 0) {b : Rat} (hb : Zd P b) (hB : Ab B b) (h0 : b ≠ 0) (he : B * P < 10 ^ e) : ∃ D, D ≠ 0 /\ D < 10 ^ e /\ ∀ a, Zd P a -> Ab B a -> Fr e D (a / b) := by
 obtain ⟨z2, rfl⟩ := hb
 have n2 := yc8 hP hB
 have hz2 : z2 ≠ 0 := fun h => h0 (by rw [h, Rat.zero_mkRat])
 refine ⟨z2.natAbs, by omega, by omega, fun a ha hA => ?_⟩
 obtain ⟨z1, rfl⟩ := ha
 have n1 := yc8 hP hA
 have e1 : mkRat z1 P / mkRat z2 P = mkRat (z1 * z2.sign) z2.natAbs := by
  have h1 : mkRat (z1 * z2.sign) z2.natAbs * mkRat z2 P = mkRat z1 P := by
   rw [Rat.mkRat_mul_mkRat]
   have : z1 * z2.sign * z2 = z1 * (z2.natAbs : Int) := by
    rw [Int.mul_assoc, Int.mul_comm z2.sign, Int.mul_sign_self]
   rw [this, Nat.mul_comm, Rat.mkRat_mul_right (by omega)]
  rw [<- h1, Rat.div_def, Rat.mul_assoc, Rat.mul_inv_cancel _ h0, Rat.mul_one]
 have hs : (z1 * z2.sign).natAbs <= z1.natAbs := by
  rw [Int.natAbs_mul]
  have : z2.sign.natAbs <= 1 := by rw [Int.natAbs_sign_of_ne_zero hz2]; exact Nat.le_refl _
  exact Nat.le_trans (Nat.mul_le_mul_left _ this) (by rw [Nat.mul_one]; exact Nat.le_refl _)
 exact ⟨z1 * z2.sign, by omega, e1⟩
theorem Fr.div {K D : Nat} (hD : D ≠ 0) {v : Rat} (hv : Fr K D v) (h0 : v ≠ 0) : ∃ D', D' ≠ 0 /\ D' < 10 ^ K /\ ∀ r, Fr K D r -> Fr K D' (r / v) := by
 obtain ⟨z2, h2, rfl⟩ := hv
 have hz2 : z2 ≠ 0 := fun h => h0 (by rw [h, Rat.zero_mkRat])
 refine ⟨z2.natAbs, by omega, h2, fun r hr => ?_⟩
 obtain ⟨z1, h1, rfl⟩ := hr
 have e1 : mkRat z1 D / mkRat z2 D = mkRat (z1 * z2.sign) z2.natAbs := by
  have h1 : mkRat (z1 * z2.sign) z2.natAbs * mkRat z2 D = mkRat z1 D := by
   rw [Rat.mkRat_mul_mkRat]
   have : z1 * z2.sign * z2 = z1 * (z2.natAbs : Int) := by
    rw [Int.mul_assoc, Int.mul_comm z2.sign, Int.mul_sign_self]
   rw [this, Nat.mul_comm, Rat.mkRat_mul_right (by omega)]
  rw [<- h1, Rat.div_def, Rat.mul_assoc, Rat.mul_inv_cancel _ h0, Rat.mul_one]
 have hs : (z1 * z2.sign).natAbs <= z1.natAbs := by
  rw [Int.natAbs_mul]
  have : z2.sign.natAbs <= 1 := by rw [Int.natAbs_sign_of_ne_zero hz2]; exact Nat.le_refl _
  exact Nat.le_trans (Nat.mul_le_mul_left _ this) (by rw [Nat.mul_one]; exact Nat.le_refl _)
 exact ⟨z1 * z2.sign, by omega, e1⟩
theorem Fr.sum {K D : Nat} (hD : D ≠ 0) {f : Nat -> Rat} : ∀ n : Nat, (∀ i, i < n -> Fr K D (f i)) -> ∃ z : Int, z.natAbs <= n * 10 ^ K /\ fs f n = mkRat z D
 | 0, _ => ⟨0, by simp, by rw [Rat.zero_mkRat]; rfl⟩
 | n + 1, h => by
  obtain ⟨z, h1, h2⟩ := Fr.sum hD n fun i hi => h i (by omega)
  obtain ⟨y, h3, h4⟩ := h n (by omega)
  refine ⟨z + y, ?_, ?_⟩
  ·have := Int.natAbs_add_le z y
   rw [Nat.succ_mul]; omega
  ·rw [fs, h2, h4]
   have := Rat.mkRat_add_mkRat z y hD hD
   rw [this, <- Int.add_mul, Rat.mkRat_mul_right hD]
def Com (m N K : Nat) (M : Nat -> Nat -> Rat) : Prop := ∀ B T, Bas m N M B T -> Cls m N M B -> ∃ D, D ≠ 0 /\ D < 10 ^ K /\ ∀ r, r < m -> ∀ c, c < N -> Fr K D (T r c)
theorem wv1 {m N K β : Nat} {δ : Nat -> Nat} {M : Nat -> Nat -> Rat} (hδ : ∀ i, i < m -> δ i ≠ 0) (hβ : 1 <= β) (ent : ∀ i, i < m -> ∀ c, c < N -> Zd (δ i) (M i c) /\ Ab β (M i c)) (hx : fc m * β ^ m * pd δ m < 10 ^ K) : Com m N K M := by
 intro B T hB hC
 have hP := w4n hδ
 have a1 : Ab β 1 := by
  have h : Ab 1 1 := ⟨Rat.le_refl, by decide⟩
  exact h.mono hβ
 have entB : ∀ i, i < m -> ∀ q, q < m -> Zd (δ i) (B i q) /\ Ab β (B i q) := fun i hi q hq => by
  rcases hC q hq with ⟨c, hc, h1⟩ | ⟨c, h1⟩
  ·rw [h1 i]; exact ent i hi c hc
  ·rw [h1 i]
   split
   ·exact ⟨Zd.one _ (hδ i hi), a1⟩
   ·exact ⟨Zd.zero, Ab.zero _⟩
 obtain ⟨d1, d2⟩ := yg5 (M := B) hδ entB
 obtain ⟨D, h1, h2, h3⟩ := wz0 hP d1 d2 hB.nz hx
 refine ⟨D, h1, h2, fun r hr c hc => ?_⟩
 rw [hB.elem hr hc]
 obtain ⟨n1, n2⟩ := yg5 (M := upd r (fun i => M i c) B) hδ fun i hi q hq => by
  unfold upd
  split
  ·exact ent i hi c hc
  ·exact entB i hi q hq
 exact h3 _ n1 n2
theorem Tab.com {m n N K : Nat} {M : Nat -> Nat -> Rat} {c : Nat -> Rat} {β : Nat -> Nat} {T : Nat -> Nat -> Rat} (h : Tab m n N M c β T) (hg : Com (m + 1) (N + 1) K (gM m N M c)) : ∃ D, D ≠ 0 /\ D < 10 ^ K /\ ∀ r, r < m + 1 -> ∀ k, k < N -> Fr K D (T r k) := by
 obtain ⟨D, h1, h2, h3⟩ := hg _ _ h.big fun q hq => .inl ⟨gβ m N β q, by
   unfold gβ
   split
   · have := h.lt q (by assumption); omega
   · omega, fun _ => rfl⟩
 refine ⟨D, h1, h2, fun r hr k hk => ?_⟩
 have := h3 r hr k (by omega)
 unfold gT at this
 rwa [if_pos hk] at this
theorem wg4 {D : Nat} : ∀ R : Nat, pd (fun i => if i < R then D else 1) (R + 1) = D ^ R
 | 0 => by rw [pd, pd]; rfl
 | R + 1 => by
  rw [pd, if_pos (by omega)]
  have : (fun i => if i + 1 < R + 1 then D else 1) = fun i => if i < R then D else 1 := by
   funext i
   by_cases h : i < R
   ·rw [if_pos h, if_pos (by omega)]
   ·rw [if_neg h, if_neg (by omega)]
  rw [this, wg4 R, Nat.pow_succ, Nat.mul_comm]
end Go.Proofs.YtcdcoeofhnfjdabGreatDoor
namespace Go.Proofs.YtcdcoeofhnfjdabGreatDoor
open Go Vm
theorem w6b {a : List (List ByteArray)} {R C : Nat} {M : Nat -> Nat -> Rat} (h : Txt a R C M) (hR : R <= 100) (hC : C <= 100) : ∀ (m i : Nat) (g : List (List Qd)), i <= R -> R < m + i -> QG i C M g ->
  ∃ g', z2b m a (R : Int) (i : Int) g = some (.exit (g', ())) /\ QG R C M g'
 | 0, i, g, h1, h2, _ => by omega
 | m + 1, i, g, h1, h2, hg => by
  have hl := h.1
  simp only [z2b]
  by_cases hi : i < R
  ·have e4 : IntKind.i64.wrap ((i : Int) + 1) = ((i + 1 : Nat) : Int) := by rw [w64 _ (by omega) (by omega)]; omega
   obtain ⟨h3, h4⟩ := h.2 i hi
   obtain ⟨qs, gq, hq⟩ := yr9 ((List.range C).map (M i)) (by rw [List.length_map, List.length_range]; omega) (fun r hr => by
     obtain ⟨j, hj, rfl⟩ := List.mem_map.1 hr
     exact h4 j (List.mem_range.1 hj))
   have hgl := hg.1
   rw [if_pos (by simpa using hi), if_pos (by omega), if_pos (by omega), Int.toNat_natCast, h3, gq, Option.bind_some, if_pos (by omega), e4]
   refine w6b h hR hC m (i + 1) _ (by omega) (by omega) ⟨by rw [List.length_append, hgl]; rfl, fun k hk => ?_⟩
   by_cases e : k = i
   ·subst e
    rw [y6x hgl.symm]
    have := QF.of hq
    rw [List.length_map, List.length_range] at this
    exact this.ext fun j hj => z8n hj
   ·rw [y2j (by omega)]; exact hg.2 k (by omega)
  ·rw [if_neg (by simpa using hi)]
   have : i = R := by omega
   subst this
   exact ⟨g, rfl, hg⟩
def LE (R C : Nat) (M : Nat -> Nat -> Rat) (q : Qd) (P : Nat -> Nat -> Prop) : Prop := ∃ i0 j0, i0 < R /\ j0 < C /\ QR (M i0 j0) q /\ ∀ i j, i < R -> j < C -> P i j -> M i0 j0 <= M i j
theorem yw9 {R C i : Nat} (hC : C <= 100) (hi : i < R) {M : Nat -> Nat -> Rat} {g : List (List Qd)} (hg : QG R C M g) (hd : ∀ i, i < R -> ∀ j, j < C -> Dr 2000 (M i j)) : ∀ (f j : Nat) (q : Qd), j <= C -> C < f + j -> LE R C M q (fun r s => r < i \/ r = i /\ s < j) ->
  ∃ q', z1d f i (C : Int) (j : Int) q.1 q.2.1 q.2.2 g = some (.exit (q'.1, q'.2.1, q'.2.2, g, ())) /\ LE R C M q' (fun r s => r < i \/ r = i /\ s < C)
 | 0, j, q, h1, h2, _ => by omega
 | f + 1, j, q, h1, h2, hq => by
  have hri := hg.2 i hi
  have li := hri.1
  simp only [z1d]
  by_cases hj : j < C
  ·have e4 : IntKind.i64.wrap ((j : Int) + 1) = ((j + 1 : Nat) : Int) := by rw [w64 _ (by omega) (by omega)]; omega
   obtain ⟨i0, j0, h3, h4, h5, h6⟩ := hq
   have h5' : QR (M i0 j0) (q.1, (q.2.1, q.2.2)) := h5
   rw [if_pos (by simpa using hj), if_pos (by omega), if_pos (show ((j : Nat) : Int) < (((g.getD i ([] : List Qd)).length : Nat) : Int) by omega), Int.toNat_natCast, w4r (hri.at hj) h5' (hd i hi j hj) (hd i0 h3 j0 h4) (by omega), Option.bind_some, e4]
   by_cases c : M i j < M i0 j0
   ·rw [if_pos (by rw [decide_eq_true_eq]; exact z9r.2 (by grind))]
    refine yw9 hC hi hg hd f (j + 1) ((g.getD i []).getD j (false, ([], []))) (by omega) (by omega) ⟨i, j, hi, hj, hri.at hj, fun r s hr hs hp => ?_⟩
    by_cases e : r = i /\ s = j
    ·rw [e.1, e.2]; exact Rat.le_refl
    ·have := h6 r s hr hs (by omega)
     exact Rat.le_trans (Rat.le_of_lt c) this
   ·rw [if_neg (by rw [decide_eq_true_eq]; exact fun h => c (by have := z9r.1 h; grind))]
    refine yw9 hC hi hg hd f (j + 1) q (by omega) (by omega) ⟨i0, j0, h3, h4, h5, fun r s hr hs hp => ?_⟩
    by_cases e : r = i /\ s = j
    ·rw [e.1, e.2]; grind
    ·exact h6 r s hr hs (by omega)
  ·rw [if_neg (by simpa using hj)]
   have : j = C := by omega
   subst this
   exact ⟨q, rfl, hq⟩
theorem w1i {R C : Nat} (hR : R <= 100) (hC : C <= 100) {M : Nat -> Nat -> Rat} {g : List (List Qd)} (hg : QG R C M g) (hd : ∀ i, i < R -> ∀ j, j < C -> Dr 2000 (M i j)) : ∀ (f i : Nat) (q : Qd), i <= R -> R + 1000 < f + i -> LE R C M q (fun r _ => r < i) ->
  ∃ q', z1r f (R : Int) (i : Int) q.1 q.2.1 q.2.2 g = some (.exit (q'.1, q'.2.1, q'.2.2, g, ())) /\ LE R C M q' (fun _ _ => True)
 | 0, i, q, h1, h2, _ => by omega
 | f + 1, i, q, h1, h2, hq => by
  have lg := hg.1
  simp only [z1r]
  by_cases hi : i < R
  ·have e4 : IntKind.i64.wrap ((i : Int) + 1) = ((i + 1 : Nat) : Int) := by rw [w64 _ (by omega) (by omega)]; omega
   have li := (hg.2 i hi).1
   obtain ⟨i0, j0, h3, h4, h5, h6⟩ := hq
   obtain ⟨q', k1, k2⟩ := yw9 hC hi hg hd f 0 q (by omega) (by omega) ⟨i0, j0, h3, h4, h5, fun r s hr hs hp => h6 r s hr hs (by omega)⟩
   have k1 : z1d f i (((g.getD i ([] : List Qd)).length : Nat) : Int) 0 q.1 q.2.1 q.2.2 g = some (.exit (q'.1, q'.2.1, q'.2.2, g, ())) := by rw [li]; exact k1
   obtain ⟨i0, j0, h3, h4, h5, h6⟩ := k2
   rw [if_pos (by simpa using hi), if_pos (by omega), if_pos (by omega), Int.toNat_natCast, k1]
   dsimp only
   rw [e4]
   exact w1i hR hC hg hd f (i + 1) q' (by omega) (by omega) ⟨i0, j0, h3, h4, h5, fun r s hr hs hp => h6 r s hr hs (by omega)⟩
  ·rw [if_neg (by simpa using hi)]
   have : i = R := by omega
   subst this
   obtain ⟨i0, j0, h3, h4, h5, h6⟩ := hq
   exact ⟨q, rfl, i0, j0, h3, h4, h5, fun r s hr hs _ => h6 r s hr hs hr⟩
def inc (b : Rat) (i c : Nat) (M : Nat -> Nat -> Rat) (r s : Nat) : Rat := if r < i \/ r = i /\ s < c then M r s + b else M r s
theorem wq3 {R C i : Nat} (hR : R <= 100) (hC : C <= 100) (hi : i < R) {M : Nat -> Nat -> Rat} {b : Rat} {q : Qd} (hq : QR b q) (hb : Dr 4000 b) (hd : ∀ i, i < R -> ∀ j, j < C -> Dr 2000 (M i j)) : ∀ (f c : Nat) (g : List (List Qd)), c <= C -> C < f + c -> QG R C (inc b i c M) g ->
  ∃ g', z4m f (i : Int) (C : Int) (c : Int) g q.1 q.2.1 q.2.2 = some (.exit (g', q.1, q.2.1, q.2.2, ())) /\ QG R C (inc b i C M) g'
 | 0, c, g, h1, h2, _ => by omega
 | f + 1, c, g, h1, h2, hg => by
  have lg := hg.1
  have hri := hg.2 i hi
  have li := hri.1
  simp only [z4m]
  by_cases hc : c < C
  ·have e4 : IntKind.i64.wrap ((c : Int) + 1) = ((c + 1 : Nat) : Int) := by rw [w64 _ (by omega) (by omega)]; omega
   have qi := hri.at hc
   have e : inc b i c M i c = M i c := by unfold inc; rw [if_neg (by omega)]
   rw [e] at qi
   obtain ⟨y, hy, hqy⟩ := w4q qi hq (hd i hi c hc) hb (by omega)
   have hy : z5j fuel (((g.getD i []).getD c (false, ([], []))).1, (((g.getD i []).getD c (false, ([], []))).2)) (q.1, (q.2.1, q.2.2)) = some y := hy
   simp only [Int.toNat_natCast]
   rw [if_pos (by simpa using hc), if_pos (by omega), if_pos (by omega), if_pos (by omega), if_pos (by omega), if_pos (by omega), if_pos (show ((c : Nat) : Int) < (((g.getD i ([] : List Qd)).length : Nat) : Int) by omega), hy, Option.bind_some, if_pos (by omega), if_pos (show ((c : Nat) : Int) < (((g.getD i ([] : List Qd)).length : Nat) : Int) by omega), e4]
   refine wq3 hR hC hi hq hb hd f (c + 1) _ (by omega) (by omega) ((hg.set hi hc hqy).ext fun r _ s _ => ?_)
   unfold inc
   by_cases e1 : r = i /\ s = c
   ·rw [if_pos e1, if_pos (by omega), e1.1, e1.2]
   ·rw [if_neg e1]
    by_cases e2 : r < i \/ r = i /\ s < c
    ·rw [if_pos e2, if_pos (by omega)]
    ·rw [if_neg e2, if_neg (by omega)]
  ·rw [if_neg (by simpa using hc)]
   have : c = C := by omega
   subst this
   exact ⟨g, rfl, hg⟩
theorem w97 {R C : Nat} (hR : R <= 100) (hC : C <= 100) {M : Nat -> Nat -> Rat} {b : Rat} {q : Qd} (hq : QR b q) (hb : Dr 4000 b) (hd : ∀ i, i < R -> ∀ j, j < C -> Dr 2000 (M i j)) : ∀ (f i : Nat) (g : List (List Qd)), i <= R -> R + 1000 < f + i -> QG R C (inc b i 0 M) g ->
  ∃ g', z5g f (R : Int) (i : Int) g q.1 q.2.1 q.2.2 = some (.exit (g', q.1, q.2.1, q.2.2, ())) /\ QG R C (fun r s => M r s + b) g'
 | 0, i, g, h1, h2, _ => by omega
 | f + 1, i, g, h1, h2, hg => by
  have lg := hg.1
  simp only [z5g]
  by_cases hi : i < R
  ·have e4 : IntKind.i64.wrap ((i : Int) + 1) = ((i + 1 : Nat) : Int) := by rw [w64 _ (by omega) (by omega)]; omega
   have li := (hg.2 i hi).1
   obtain ⟨g', k1, k2⟩ := wq3 hR hC hi hq hb hd f 0 g (by omega) (by omega) hg
   have k1 : z4m f (i : Int) (((g.getD i ([] : List Qd)).length : Nat) : Int) 0 g q.1 q.2.1 q.2.2 = some (.exit (g', q.1, q.2.1, q.2.2, ())) := by rw [li]; exact k1
   rw [if_pos (by simpa using hi), if_pos (by omega), if_pos (by omega), Int.toNat_natCast, k1]
   dsimp only
   rw [e4]
   refine w97 hR hC hq hb hd f (i + 1) g' (by omega) (by omega) (k2.ext fun r _ s hs => ?_)
   unfold inc
   by_cases e2 : r < i \/ r = i /\ s < C
   ·rw [if_pos e2, if_pos (by omega)]
   ·rw [if_neg e2, if_neg (by omega)]
  ·rw [if_neg (by simpa using hi)]
   have : i = R := by omega
   subst this
   exact ⟨g, rfl, hg.ext fun r hr s _ => by unfold inc; rw [if_pos (by omega)]⟩
theorem y8w {n : Nat} (hn : n <= 100) {x : Nat -> Rat} (hx : ∀ j, j < n -> Dr 2000 (x j)) {w : Rat} {q : Qd} (hq : QR w q) (hw : Dr 4000 w) : ∀ (f i : Nat) (l : List Qd), i <= n -> n < f + i -> QF i (fun j => x j * w) l ->
  ∃ l', z0y f (xt n x) (n : Int) (i : Int) q.1 q.2.1 q.2.2 l = some (.exit (l', q.1, q.2.1, q.2.2, ())) /\ QF n (fun j => x j * w) l'
 | 0, i, l, h1, h2, _ => by omega
 | f + 1, i, l, h1, h2, hl => by
  have ll := hl.1
  have lx := yl5 (n := n) (x := x)
  simp only [z0y]
  by_cases hi : i < n
  ·have e4 : IntKind.i64.wrap ((i : Int) + 1) = ((i + 1 : Nat) : Int) := by rw [w64 _ (by omega) (by omega)]; omega
   have ex : (xt n x).getD i ByteArray.empty = rt (x i) := by
    unfold xt
    rw [wx0 (by rw [List.length_map, List.length_range]; exact hi), z8n hi]
   obtain ⟨z, z1, z2⟩ := w1c (zu5 (hx i hi) (by omega) (by omega))
   obtain ⟨y, y1, y2⟩ := y5u z2 hq (hx i hi) hw (by omega)
   have y1 : z2o fuel z (q.1, (q.2.1, q.2.2)) = some y := y1
   rw [if_pos (by simpa using hi), if_pos (by omega), if_pos (by omega), Int.toNat_natCast, ex, z1, Option.bind_some, y1, Option.bind_some, if_pos (by omega), e4]
   exact y8w hn hx hq hw f (i + 1) _ (by omega) (by omega) (hl.snoc y2)
  ·rw [if_neg (by simpa using hi)]
   have : i = n := by omega
   subst this
   exact ⟨l, rfl, hl⟩
theorem v2g : z1w fuel [(⟨#[49]⟩ : ByteArray)] ((0 : Nat) : Int) = some (List.replicate 0 (⟨#[49]⟩ : ByteArray)) := by kernel_rfl
theorem v2h : z1w fuel [(⟨#[49]⟩ : ByteArray)] ((1 : Nat) : Int) = some (List.replicate 1 (⟨#[49]⟩ : ByteArray)) := by kernel_rfl
theorem v2i : z1w fuel [(⟨#[49]⟩ : ByteArray)] ((2 : Nat) : Int) = some (List.replicate 2 (⟨#[49]⟩ : ByteArray)) := by kernel_rfl
theorem v2j : z1w fuel [(⟨#[49]⟩ : ByteArray)] ((3 : Nat) : Int) = some (List.replicate 3 (⟨#[49]⟩ : ByteArray)) := by kernel_rfl
theorem v2k : z1w fuel [(⟨#[49]⟩ : ByteArray)] ((4 : Nat) : Int) = some (List.replicate 4 (⟨#[49]⟩ : ByteArray)) := by kernel_rfl
theorem v2l : z1w fuel [(⟨#[49]⟩ : ByteArray)] ((5 : Nat) : Int) = some (List.replicate 5 (⟨#[49]⟩ : ByteArray)) := by kernel_rfl
theorem v2m : z1w fuel [(⟨#[49]⟩ : ByteArray)] ((6 : Nat) : Int) = some (List.replicate 6 (⟨#[49]⟩ : ByteArray)) := by kernel_rfl
theorem wt1 {n : Nat} (hn : n <= 6) : z1w fuel [(⟨#[49]⟩ : ByteArray)] (n : Int) = some (List.replicate n (⟨#[49]⟩ : ByteArray)) := by
 have h : n = 0 \/ n = 1 \/ n = 2 \/ n = 3 \/ n = 4 \/ n = 5 \/ n = 6 := by omega
 rcases h with rfl | rfl | rfl | rfl | rfl | rfl | rfl
 ·exact v2g
 ·exact v2h
 ·exact v2i
 ·exact v2j
 ·exact v2k
 ·exact v2l
 ·exact v2m
theorem wt2 (n : Nat) : List.replicate n (⟨#[49]⟩ : ByteArray) = (List.replicate n (1 : Rat)).map rt := by rw [List.map_replicate, v1g]
end Go.Proofs.YtcdcoeofhnfjdabGreatDoor
namespace Go.Proofs.YtcdcoeofhnfjdabGreatDoor
open Go Vm
def Eqm (R C : Nat) (M : Nat -> Nat -> Rat) (p q : Nat -> Rat) (V : Rat) : Prop :=
 (∀ i, i < R -> 0 <= p i) /\ (∀ j, j < C -> 0 <= q j) /\ fs p R = 1 /\ fs q C = 1 /\ (∀ i, i < R -> fs (fun j => M i j * q j) C <= V) /\ ∀ j, j < C -> V <= fs (fun i => p i * M i j) R
def pay (R C : Nat) (M : Nat -> Nat -> Rat) (p q : Nat -> Rat) : Rat := fs (fun i => p i * fs (fun j => M i j * q j) C) R
theorem wg2 {R C : Nat} {M : Nat -> Nat -> Rat} {p q : Nat -> Rat} {V : Rat} (hp : ∀ i, i < R -> 0 <= p i) (h1 : fs p R = 1) (h : ∀ i, i < R -> fs (fun j => M i j * q j) C <= V) : pay R C M p q <= V := by
 have e : fs (fun i => p i * V) R = V := by rw [z9y, h1]; grind
 rw [<- e]
 exact wm8 fun i hi => Rat.mul_le_mul_of_nonneg_left (h i hi) (hp i hi)
theorem wo4 {R C : Nat} {M : Nat -> Nat -> Rat} {p q : Nat -> Rat} : pay R C M p q = fs (fun j => fs (fun i => p i * M i j) R * q j) C := by
 have e1 : pay R C M p q = fs (fun i => fs (fun j => p i * M i j * q j) C) R := z1h fun i _ => by
  rw [<- z9a]
  exact z1h fun j _ => by grind
 have e2 : fs (fun j => fs (fun i => p i * M i j) R * q j) C = fs (fun j => fs (fun i => p i * M i j * q j) R) C := z1h fun j _ => by rw [z9y]
 rw [e1, e2]
 exact y8i (fun i j => p i * M i j * q j) C R
theorem wg1 {R C : Nat} {M : Nat -> Nat -> Rat} {p q : Nat -> Rat} {V : Rat} (hq : ∀ j, j < C -> 0 <= q j) (h1 : fs q C = 1) (h : ∀ j, j < C -> V <= fs (fun i => p i * M i j) R) : V <= pay R C M p q := by
 have e : fs (fun j => V * q j) C = V := by rw [z9a, h1]; grind
 rw [wo4, <- e]
 exact wm8 fun j hj => Rat.mul_le_mul_of_nonneg_right (h j hj) (hq j hj)
theorem Eqm.pay {R C : Nat} {M : Nat -> Nat -> Rat} {p q : Nat -> Rat} {V : Rat} (h : Eqm R C M p q V) : pay R C M p q = V :=
 Rat.le_antisymm (wg2 h.1 h.2.2.1 h.2.2.2.2.1) (wg1 h.2.1 h.2.2.2.1 h.2.2.2.2.2)
theorem Eqm.uniq {R C : Nat} {M : Nat -> Nat -> Rat} {p q p' q' : Nat -> Rat} {V V' : Rat} (h : Eqm R C M p q V) (h' : Eqm R C M p' q' V') : V = V' :=
 Rat.le_antisymm (Rat.le_trans (wg1 h'.2.1 h'.2.2.2.1 h.2.2.2.2.2) (wg2 h.1 h.2.2.1 h'.2.2.2.2.1)) (Rat.le_trans (wg1 h.2.1 h.2.2.2.1 h'.2.2.2.2.2) (wg2 h'.1 h'.2.2.1 h.2.2.2.2.1))
theorem wy2 {R C : Nat} (hC : 0 < C) {M : Nat -> Nat -> Rat} {b v : Rat} {x y : Nat -> Rat} (hx : ∀ j, j < C -> 0 <= x j) (hy : ∀ i, i < R -> 0 <= y i) (h1 : ∀ i, i < R -> fs (fun j => (M i j + b) * x j) C <= 1)
  (h2 : ∀ j, j < C -> 1 <= fs (fun i => y i * (M i j + b)) R) (h3 : fs x C = v) (h4 : fs y R = v) : 0 < v /\ Eqm R C M (fun i => y i * (1 / v)) (fun j => x j * (1 / v)) (1 / v - b) := by
 have hv : 0 < v := by
  have h0 := zj1 hy
  rw [h4] at h0
  by_cases c : 0 < v
  ·exact c
  ·exfalso
   have hv0 : v = 0 := by grind
   have hz : ∀ i, i < R -> y i = 0 := fun i hi => by
    have a1 := ww9 hy hi
    have a2 := hy i hi
    rw [h4, hv0] at a1; grind
   have := h2 0 hC
   rw [z1h (g := fun _ => 0) fun i hi => by rw [hz i hi]; grind, z4i] at this
   exact absurd this (by decide)
 have hw : v * (1 / v) = 1 := by
  rw [Rat.div_def, Rat.one_mul, Rat.mul_inv_cancel _ (by grind)]
 have hw0 : 0 <= 1 / v := y89 (by decide) hv
 refine ⟨hv, fun i hi => Rat.mul_nonneg (hy i hi) hw0, fun j hj => Rat.mul_nonneg (hx j hj) hw0, by rw [z9y, h4, hw], by rw [z9y, h3, hw], fun i hi => ?_, fun j hj => ?_⟩
 ·have e : fs (fun j => M i j * (x j * (1 / v))) C = fs (fun j => (M i j + b) * x j) C * (1 / v) - b := by
   have e1 : fs (fun j => M i j * (x j * (1 / v))) C = fs (fun j => (M i j + b) * x j * (1 / v) - b * (x j * (1 / v))) C := z1h fun j _ => by grind
   rw [e1, yr1, z9y, z9a (fun j => x j * (1 / v)), z9y, h3, hw]; grind
  have := Rat.mul_le_mul_of_nonneg_right (h1 i hi) hw0
  rw [e]; grind
 ·have e : fs (fun i => y i * (1 / v) * M i j) R = fs (fun i => y i * (M i j + b)) R * (1 / v) - b := by
   have e1 : fs (fun i => y i * (1 / v) * M i j) R = fs (fun i => y i * (M i j + b) * (1 / v) - b * (y i * (1 / v))) R := z1h fun i _ => by grind
   rw [e1, yr1, z9y, z9a (fun i => y i * (1 / v)), z9y, h4, hw]; grind
  have := Rat.mul_le_mul_of_nonneg_right (h2 j hj) hw0
  rw [e]; grind
theorem ab_one : Ab (10 ^ 27) 1 := by
 have h : Ab 1 1 := ⟨Rat.le_refl, by decide⟩
 exact h.mono (by decide)
theorem w5t {R C D : Nat} (hD : D ≠ 0) {A : Nat -> Nat -> Rat} {b c : Nat -> Rat} (hb : ∀ i, i < R -> b i = 1) (hz : ∀ i, i < R -> ∀ j, j < C -> Zd D (A i j) /\ Ab (10 ^ 27) (A i j)) (hc : ∀ k, c k = 0 \/ c k = 1 \/ c k = -1) :
  ∀ i, i < R + 1 -> ∀ k, k < C + R + 2 + 1 -> Zd (if i < R then D else 1) (gM R (C + R + 2) (lpM R C A b) c i k) /\ Ab (10 ^ 27) (gM R (C + R + 2) (lpM R C A b) c i k) := fun i hi k hk => by
 have ok : ∀ {d : Nat}, d ≠ 0 -> ∀ r : Rat, r = 0 \/ r = 1 \/ r = -1 -> Zd d r /\ Ab (10 ^ 27) r := fun hd r hr => by
  rcases hr with rfl | rfl | rfl
  ·exact ⟨Zd.zero, Ab.zero _⟩
  ·exact ⟨Zd.one _ hd, ab_one⟩
  ·exact ⟨(Zd.one _ hd).neg, ab_one.neg⟩
 unfold gM
 by_cases c1 : i < R
 ·rw [if_pos c1, if_pos c1]
  by_cases c2 : k < C + R + 2
  ·rw [if_pos c2]
   unfold lpM
   by_cases c3 : k < C
   ·rw [if_pos c3]; exact hz i c1 k c3
   ·rw [if_neg c3]
    refine ok hD _ ?_
    by_cases c4 : k < C + R
    ·rw [if_pos c4]; unfold one
     by_cases c5 : i = k - C
     ·rw [if_pos c5]; exact .inr (.inl rfl)
     ·rw [if_neg c5]; exact .inl rfl
    ·rw [if_neg c4]
     by_cases c5 : k = C + R
     ·rw [if_pos c5]; exact .inr (.inr rfl)
     ·rw [if_neg c5, hb i c1]; exact .inr (.inl rfl)
  ·rw [if_neg c2]; exact ⟨Zd.zero, Ab.zero _⟩
 ·rw [if_neg c1, if_neg c1]
  refine ok (by decide) _ ?_
  by_cases c2 : k < C + R + 2
  ·rw [if_pos c2]
   rcases hc k with h | h | h <;> rw [h]
   ·exact .inl (by grind)
   ·exact .inr (.inr rfl)
   ·exact .inr (.inl (by grind))
  ·rw [if_neg c2]; exact .inr (.inl rfl)
theorem w7y {R D e K : Nat} (hR : R <= 5) (hD : D <= 10 ^ e) (hK : e * R + 166 <= K) : fc (R + 1) * (10 ^ 27) ^ (R + 1) * pd (fun i => if i < R then D else 1) (R + 1) < 10 ^ K := by
 rw [wg4]
 have f1 : fc (R + 1) <= 10 ^ 3 := by
  match R, hR with
  | 0, _ => decide
  | 1, _ => decide
  | 2, _ => decide
  | 3, _ => decide
  | 4, _ => decide
  | 5, _ => decide
 have f2 : (10 ^ 27) ^ (R + 1) <= (10 : Nat) ^ 162 := by
  rw [<- Nat.pow_mul]
  exact Nat.pow_le_pow_right (by decide) (by omega)
 have f3 : D ^ R <= 10 ^ (e * R) := by
  rw [Nat.pow_mul]
  exact Nat.pow_le_pow_left hD R
 have f4 : fc (R + 1) * (10 ^ 27) ^ (R + 1) * D ^ R <= 10 ^ 3 * 10 ^ 162 * 10 ^ (e * R) := Nat.mul_le_mul (Nat.mul_le_mul f1 f2) f3
 have f5 : (10 : Nat) ^ 3 * 10 ^ 162 * 10 ^ (e * R) = 10 ^ (3 + 162 + e * R) := by rw [<- Nat.pow_add, <- Nat.pow_add]
 have f6 : (10 : Nat) ^ (3 + 162 + e * R) < 10 ^ K := Nat.pow_lt_pow_right (by decide) (by omega)
 exact Nat.lt_of_le_of_lt (Nat.le_trans f4 (Nat.le_of_eq f5)) f6
end Go.Proofs.YtcdcoeofhnfjdabGreatDoor
namespace Go.Proofs.YtcdcoeofhnfjdabGreatDoor
open Go Vm
theorem v1k {m n : Nat} {A : Nat -> Nat -> Rat} {a : List (List ByteArray)} {bs cs : List Rat} (hm : m <= 40) (hn : n <= 40) (ha : Txt a m n A) (h0 : 0 < m) (hb : bs.length = m) (hc : cs.length = n) (ho : ∀ r, r ∈ bs -> OkR r) (ho' : ∀ r, r ∈ cs -> OkR r) : z6m fuel (a, (bs.map rt, cs.map rt)) = some 0 := by
 have la := ha.1
 unfold z6m
 dsimp only
 rw [List.length_map, List.length_map, if_pos (by rw [decide_eq_false_iff_not]; omega), if_neg (by rw [decide_eq_true_eq]; omega), w1r ha hm hn, Option.bind_some, if_neg (by decide), yf9 (by omega) ho, Option.bind_some, if_neg (by decide), yf9 (by omega) ho', Option.bind_some, if_neg (by decide),
   if_pos (by rw [bne_eq_false_iff_eq]; omega), if_pos (by rw [decide_eq_true_eq]; omega), w2q ha (by omega), Option.bind_some, if_neg (by rw [bne_iff_ne]; omega)]
theorem w23 {n k : Nat} (h : k < n) : (List.replicate n (1 : Rat)).getD k 0 = 1 := by
 rw [List.getD_eq_getElem?_getD, List.getElem?_replicate, if_pos h]; rfl
theorem yy0 {n : Nat} : ∀ r, r ∈ List.replicate n (1 : Rat) -> OkR r := fun r hr => by
 rw [List.eq_of_mem_replicate hr]
 exact zu5 (k := 1) (w14 (n := 1) (by decide) (by decide)) (by decide) (by decide)
theorem wc2 {a : List (List ByteArray)} {R C D : Nat} (e K : Nat) {M : Nat -> Nat -> Rat} (hR0 : 0 < R) (hR : R <= 5) (hC0 : 0 < C) (hC : C <= 5) (ha : Txt a R C M) (hD : D ≠ 0) (hD2 : D <= 10 ^ e) (hK : e * R + 166 <= K) (hK2 : K + e + 29 <= 1999) (hz : ∀ i, i < R -> ∀ j, j < C -> Zd D (M i j) /\ Ab (10 ^ 26) (M i j)) (hck : z1z fuel a = some 0) :
  ∃ (p q : Nat -> Rat) (V : Rat) (D' : Nat), Eqm R C M p q V /\ z6h fuel a = some ((rt V, (xt R p, xt C q)), 0) /\ Dr (K + e + 29) V /\ D' ≠ 0 /\ D' < 10 ^ K /\ (∀ i, i < R -> Fr K D' (p i)) /\ ∀ j, j < C -> Fr K D' (q j) := by
 have hf := z9b (n := 2 ^ 100) (by decide)
 have heR : e <= e * R := Nat.le_mul_of_pos_right e hR0
 have la := ha.1
 have l0 : (a.getD 0 []).length = C := by rw [(ha.2 0 hR0).1, List.length_map, List.length_map, List.length_range]
 have hd : ∀ i, i < R -> ∀ j, j < C -> Dr 2000 (M i j) := fun i hi j hj => y31 ((ha.2 i hi).2 j hj)
 obtain ⟨g, g1, g2⟩ := w6b ha (by omega) (by omega) fuel 0 [] (by omega) (by omega) ⟨rfl, fun i hi => by omega⟩
 have g1 : z2b fuel a (a.length : Int) 0 [] = some (.exit (g, ())) := by rw [la]; exact g1
 have lg := g2.1
 have lg0 := (g2.2 0 hR0).1
 obtain ⟨o1, i1, i2⟩ := wd1
 obtain ⟨ql, k1, i0, j0, hi0, hj0, k2, k3⟩ := w1i (by omega) (by omega) g2 hd fuel 0 ((g.getD 0 []).getD 0 (false, ([], []))) (by omega) (by omega) ⟨0, 0, hR0, hC0, (g2.2 0 hR0).2 0 hC0, fun i j _ _ h => by omega⟩
 have k1 : z1r fuel (g.length : Int) 0 (((g.getD 0 []).getD 0 (false, ([], []))).1) ((((g.getD 0 []).getD 0 (false, ([], []))).2).1) ((((g.getD 0 []).getD 0 (false, ([], []))).2).2) g = some (.exit (ql.1, ql.2.1, ql.2.2, g, ())) := by rw [lg]; exact k1
 have d1 : Dr 1 (1 : Rat) := w14 (n := 1) (by decide) (by decide)
 obtain ⟨qb, b1, b2⟩ := y35 i2 k2 d1 (hd i0 hi0 j0 hj0) (by omega)
 have b1 : z48 fuel o1 (ql.1, (ql.2.1, ql.2.2)) = some qb := b1
 generalize hby : 1 - M i0 j0 = by' at b2
 have dby : Dr 2002 by' := by rw [<- hby]; exact z7d (by omega) (wa4 d1 (hd i0 hi0 j0 hj0))
 obtain ⟨ga, a1, a2⟩ := w97 (by omega) (by omega) b2 (z7d (by omega) dby) hd fuel 0 g (by omega) (by omega) (g2.ext fun r _ s _ => by unfold inc; rw [if_neg (by omega)])
 have a1 : z5g fuel (g.length : Int) 0 g qb.1 qb.2.1 qb.2.2 = some (.exit (ga, qb.1, qb.2.1, qb.2.2, ())) := by rw [lg]; exact a1
 have one1 : Ab 1 1 := ⟨Rat.le_refl, by decide⟩
 have zby : Zd D by' /\ Ab (1 + 10 ^ 26) by' := by
  have e' : by' = 1 + -(M i0 j0) := by rw [<- hby]; grind
  rw [e']
  exact ⟨(Zd.one D hD).add hD (hz i0 hi0 j0 hj0).1.neg, one1.add (hz i0 hi0 j0 hj0).2.neg⟩
 have zA : ∀ i, i < R -> ∀ j, j < C -> Zd D (M i j + by') /\ Ab (10 ^ 27) (M i j + by') := fun i hi j hj =>
  ⟨(hz i hi j hj).1.add hD zby.1, ((hz i hi j hj).2.add zby.2).mono (by decide)⟩
 have hB : 10 ^ 27 * D < 10 ^ (e + 28) := by
  have h1 : 10 ^ 27 * D <= 10 ^ 27 * 10 ^ e := Nat.mul_le_mul_left _ hD2
  have h2 : (10 : Nat) ^ 27 * 10 ^ e = 10 ^ (27 + e) := by rw [<- Nat.pow_add]
  have h3 : (10 : Nat) ^ (27 + e) < 10 ^ (e + 28) := Nat.pow_lt_pow_right (by decide) (by omega)
  exact Nat.lt_of_le_of_lt (Nat.le_trans h1 (Nat.le_of_eq h2)) h3
 have toDr : ∀ {r : Rat}, Zd D r -> Ab (10 ^ 27) r -> Dr (e + 28) r := fun h k => Zd.dr hD (by decide) h k.1 k.2 hB
 have dA : ∀ i, i < R -> ∀ j, j < C -> Dr (e + 28) (M i j + by') := fun i hi j hj => toDr (zA i hi j hj).1 (zA i hi j hj).2
 have dby2 : Dr (e + 28) by' := toDr zby.1 (zby.2.mono (by decide))
 have okA : ∀ i, i < R -> ∀ j, j < C -> OkR (M i j + by') := fun i hi j hj => zu5 (dA i hi j hj) (by omega) (by omega)
 have hout : z6j fuel ga = some (mt R C (fun i j => M i j + by'), 0) := by
  rcases wf8 (by omega) (by omega) a2 (fun i hi j hj => z7d (by omega) (dA i hi j hj)) with ⟨⟨i, j, hi, hj, hn⟩, _⟩ | ⟨_, h⟩
  ·exact absurd (okA i hi j hj) hn
  ·exact h
 have hbs : ∀ i, i < R -> (List.replicate R (1 : Rat)).getD i 0 = 1 := fun i hi => w23 hi
 have hcs : ∀ j, j < C -> (List.replicate C (1 : Rat)).getD j 0 = 1 := fun j hj => w23 hj
 have hcc : ∀ k, cst C (fun j => (List.replicate C (1 : Rat)).getD j 0) k = 0 \/ cst C (fun j => (List.replicate C (1 : Rat)).getD j 0) k = 1 \/ cst C (fun j => (List.replicate C (1 : Rat)).getD j 0) k = -1 := fun k => by
  unfold cst
  by_cases e : k < C
  ·rw [if_pos e]; exact .inr (.inl (hcs k e))
  ·rw [if_neg e]; exact .inl rfl
 have hcxx : ∀ k, cx R C k = 0 \/ cx R C k = 1 \/ cx R C k = -1 := fun k => by
  unfold cx
  by_cases e : k = C + R
  ·rw [if_pos e]; exact .inr (.inr rfl)
  ·rw [if_neg e]; exact .inl rfl
 have hδ : ∀ i, i < R + 1 -> (if i < R then D else 1) ≠ 0 := fun i _ => by
  by_cases e : i < R
  ·rw [if_pos e]; exact hD
  ·rw [if_neg e]; decide
 have hbound := w7y hR hD2 hK
 have ec := w5t hD hbs zA hcc
 have ex := w5t hD hbs zA hcxx
 have hgc := w60 hδ (by decide) ec hbound
 have hgx := w60 hδ (by decide) ex hbound
 have hcom := wv1 hδ (by decide) ec hbound
 have hT0 : ∀ r, r < R -> ∀ s, s < C + R + 2 -> Dr K (lpM R C (fun i j => M i j + by') (fun j => (List.replicate R (1 : Rat)).getD j 0) r s) := fun r hr s hs => by
  have := ex r (by omega) s (by omega)
  unfold gM at this
  rw [if_pos hr, if_pos hr, if_pos hs] at this
  exact z7d (by omega) (toDr this.1 this.2)
 have hTm : Txt (mt R C fun i j => M i j + by') R C (fun i j => M i j + by') := wu1 okA
 have hsc := v1k (bs := List.replicate R 1) (cs := List.replicate C 1) (by omega) (by omega) hTm hR0 List.length_replicate List.length_replicate yy0 yy0
 obtain ⟨out, u1, u2⟩ := wi0 (K := K) (by omega) (by omega) (m := R) (n := C) (by omega) (by omega) hTm List.length_replicate List.length_replicate yy0 yy0 hT0 (fun i hi => by rw [hcs i hi]; exact z7d (by omega) d1) hgc hgx hsc
 unfold z6h
 rw [hck, Option.bind_some, if_neg (by decide), g1]
 dsimp only
 rw [i1, Option.bind_some, if_pos (show (0 : Int) < ((g.length : Nat) : Int) by omega), if_pos (show (0 : Int) < (((g.getD 0 ([] : List Qd)).length : Nat) : Int) by omega), k1]
 dsimp only
 rw [b1, Option.bind_some, a1]
 dsimp only
 rw [hout, Option.bind_some, if_neg (show ¬ ((0 : Int) != 0) = true by decide), if_pos (by omega), la, wt1 (by omega), Option.bind_some, l0, wt1 (by omega), Option.bind_some, wt2, wt2, u1, Option.bind_some]
 rcases u2 with ⟨β, T, h1, h2, h3, h4, rfl⟩ | ⟨y, h1, h2, h3, rfl⟩ | ⟨x, z, h1, h2, h3, h4, h5, rfl⟩
 ·have hdr := h1.dr hgc
  obtain ⟨D0, D1, D2, D3⟩ := h1.com hcom
  have hinj : ∀ i j, i < R -> j < R -> β i = β j -> i = j := fun i j hi hj e => h1.bas.inj hi hj e
  obtain ⟨y1, y2, y3, y4⟩ := we1 h1 h3 h4
  have x1 := we3 h1 h3 h2
  have x0 := yl6 (m := R) (β := β) (T := T) (s := C + R + 1) h2
  have e3 : fs (xv R β T (C + R + 1)) C = T R (C + R + 1) := by
   rw [<- y3]; exact z1h fun j hj => by rw [hcs j hj]; grind
  have e4 : fs (fun j => T R (C + j)) R = T R (C + R + 1) := by
   rw [<- y4]; exact z1h fun j hj => by rw [hbs j hj]; grind
  obtain ⟨hv, hE⟩ := wy2 (M := M) (b := by') (v := T R (C + R + 1)) hC0 (fun j _ => x0 j) y1 (fun i hi => by have := x1 i hi; rw [hbs i hi] at this; exact this) (fun j hj => by have := y2 j hj; rw [hcs j hj] at this; exact this) e3 e4
  have hv0 : T R (C + R + 1) ≠ 0 := by grind
  obtain ⟨D', E1, E2, E3⟩ := (D3 R (by omega) (C + R + 1) (by omega)).div D1 hv0
  have fx : ∀ j, Fr K D0 (xv R β T (C + R + 1) j) := fun j => by
   rcases w78 (T := T) (s := C + R + 1) (v := j) hinj R (Nat.le_refl _) with ⟨_, h⟩ | ⟨i, hi, _, h⟩
   ·rw [h]; exact Fr.zero
   ·rw [h]; exact D3 i (by omega) _ (by omega)
  have ediv : ∀ r : Rat, r * (1 / T R (C + R + 1)) = r / T R (C + R + 1) := fun r => by rw [Rat.div_def, Rat.div_def, Rat.one_mul]
  have fp : ∀ i, i < R -> Fr K D' (T R (C + i) * (1 / T R (C + R + 1))) := fun i hi => by rw [ediv]; exact E3 _ (D3 R (by omega) _ (by omega))
  have fq : ∀ j, j < C -> Fr K D' (xv R β T (C + R + 1) j * (1 / T R (C + R + 1))) := fun j _ => by rw [ediv]; exact E3 _ (fx j)
  have dv := hdr R (by omega) (C + R + 1) (by omega)
  have dw : Dr K (1 / T R (C + R + 1)) := by
   rw [Rat.div_def, Rat.one_mul]; exact wr1 dv hv0
  obtain ⟨qv, v1, v2⟩ := w1c (zu5 dv (by omega) (by omega))
  obtain ⟨qw, w1, w2⟩ := yk2 i2 v2 d1 dv (by omega) hv0
  obtain ⟨lp, p1, p2⟩ := y8w (n := R) (x := fun j => T R (C + j)) (by omega) (fun j hj => z7d (by omega) (hdr R (by omega) _ (by omega))) w2 (z7d (by omega) dw) fuel 0 [] (by omega) (by omega) ⟨rfl, fun i hi => by omega⟩
  obtain ⟨lq, q1, q2⟩ := y8w (n := C) (x := xv R β T (C + R + 1)) (by omega) (fun j hj => (z7d (by omega) ((fx j).dr D1 D2))) w2 (z7d (by omega) dw) fuel 0 [] (by omega) (by omega) ⟨rfl, fun i hi => by omega⟩
  have p1 : z0y fuel (xt R fun j => T R (C + j)) ((xt R fun j => T R (C + j)).length : Int) 0 qw.1 qw.2.1 qw.2.2 [] = some (.exit (lp, qw.1, qw.2.1, qw.2.2, ())) := by rw [yl5]; exact p1
  have q1 : z0y fuel (xt C (xv R β T (C + R + 1))) ((xt C (xv R β T (C + R + 1))).length : Int) 0 qw.1 qw.2.1 qw.2.2 [] = some (.exit (lq, qw.1, qw.2.1, qw.2.2, ())) := by rw [yl5]; exact q1
  obtain ⟨qV, V1, V2⟩ := y35 w2 b2 dw dby (by omega)
  have V1 : z48 fuel (qw.1, (qw.2.1, qw.2.2)) (qb.1, (qb.2.1, qb.2.2)) = some qV := V1
  have dV : Dr (K + e + 29) (1 / T R (C + R + 1) - by') := z7d (by omega) (wa4 dw dby2)
  have hTold : z8a fuel qV = some (rt (1 / T R (C + R + 1) - by'), 0) := by
   unfold z8a
   rw [y8g V2 dV (by omega), if_pos (zu5 dV (by omega) (by omega)), Option.bind_some, if_neg (by decide), w6l V2 dV (by omega), Option.bind_some]
  refine ⟨_, _, _, D', hE, ?_, dV, E1, E2, fp, fq⟩
  rw [if_neg (show ¬ ((0 : Int) != 0) = true by decide)]
  dsimp only
  rw [Option.bind_some, v1, Option.bind_some, w1, Option.bind_some, p1]
  dsimp only
  rw [y4z (K := K) p2 (by omega) (by omega) (by omega) (fun i hi => (fp i hi).dr E1 E2), Option.bind_some, if_neg (show ¬ ((0 : Int) != 0) = true by decide)]
  dsimp only
  rw [q1]
  dsimp only
  rw [y4z (K := K) q2 (by omega) (by omega) (by omega) (fun i hi => (fq i hi).dr E1 E2), Option.bind_some, if_neg (show ¬ ((0 : Int) != 0) = true by decide)]
  dsimp only
  rw [V1, Option.bind_some, hTold, Option.bind_some, if_neg (show ¬ ((0 : Int) != 0) = true by decide)]
 ·exfalso
  have e : fs (fun j => y j * (List.replicate R (1 : Rat)).getD j 0) R = fs y R := z1h fun j hj => by rw [hbs j hj]; grind
  rw [e] at h3
  have := zj1 (n := R) (f := y) fun i hi => (h1 i hi).2
  grind
 ·exfalso
  have e : fs (fun j => (List.replicate C (1 : Rat)).getD j 0 * z j) C = fs z C := z1h fun j hj => by rw [hcs j hj]; grind
  rw [e] at h5
  have h6 : fs z C <= fs (fun k => (M 0 k + by') * z k) C := wm8 fun k hk => by
   have a1 := k3 0 k hR0 hk trivial
   have a2 := (h2 k hk).2
   have a3 : 1 <= M 0 k + by' := by rw [<- hby]; grind
   have := Rat.mul_le_mul_of_nonneg_right a3 a2
   rw [Rat.one_mul] at this
   exact this
  have h7 := h4 0 hR0
  grind
end Go.Proofs.YtcdcoeofhnfjdabGreatDoor
namespace Go.Proofs.YtcdcoeofhnfjdabGreatDoor
open Go Vm
theorem yc0 : z5i fuel = some true := by kernel_rfl
end Go.Proofs.YtcdcoeofhnfjdabGreatDoor
namespace Go.Proofs.YtcdcoeofhnfjdabGreatDoor
open Go Vm
theorem wr4 : z4w fuel [0, 0] = some true := by kernel_rfl
theorem wn1 {rs : List Rat} {i : Nat} (hi : i < rs.length) {d : ByteArray} : (rs.map rt).getD i d = rt (rs.getD i 0) := by
 rw [List.getD_eq_getElem?_getD, List.getD_eq_getElem?_getD, List.getElem?_map, List.getElem?_eq_getElem hi]; rfl
theorem ys1 {C : Nat} (hC : C <= 100) {f : Nat -> Rat} {b u : Rat} (hf : ∀ j, j < C -> OkR (f j)) (hb : OkR b) (hu : OkR u) (h1 : ∀ j, j < C -> OkR (f j * b)) (h2 : ∀ j, j < C -> OkR (f j * b + u)) : ∀ (m i : Nat), i <= C -> C < m + i ->
  z2z m (rt b) (rt u) (((List.range C).map f).map rt) (C : Int) (i : Int) (((List.range i).map fun j => f j * b + u).map rt) = some (.exit (((List.range C).map fun j => f j * b + u).map rt, ()))
 | 0, i, h3, h4 => by omega
 | m + 1, i, h3, h4 => by
  have ll : (((List.range i).map fun j => f j * b + u).map rt).length = i := by rw [List.length_map, List.length_map, List.length_range]
  have l2 : ((List.range C).map f).length = C := by rw [List.length_map, List.length_range]
  have l3 : (((List.range C).map f).map rt).length = C := by rw [List.length_map, l2]
  simp only [z2z]
  by_cases hi : i < C
  ·have e4 : IntKind.i64.wrap ((i : Int) + 1) = ((i + 1 : Nat) : Int) := by rw [w64 _ (by omega) (by omega)]; omega
   have e5 : (((List.range i).map fun j => f j * b + u).map rt) ++ [rt (f i * b + u)] = ((List.range (i + 1)).map fun j => f j * b + u).map rt := by
    rw [List.range_succ, List.map_append, List.map_append]; rfl
   rw [if_pos (by simpa using hi), if_pos (by omega), if_pos (by omega), Int.toNat_natCast, wn1 (by omega), z8n hi, wz2 (hf i hi) hb (h1 i hi), Option.bind_some]
   dsimp only
   rw [wz1 (h1 i hi) hu (h2 i hi), Option.bind_some]
   dsimp only
   rw [wr4, Option.bind_some, if_neg (by decide), if_pos (by omega), e4, e5]
   exact ys1 hC hf hb hu h1 h2 m (i + 1) (by omega) (by omega)
  ·rw [if_neg (by simpa using hi)]
   have : i = C := by omega
   subst this
   rfl
theorem yk4 {a : List (List ByteArray)} {R C : Nat} {M : Nat -> Nat -> Rat} (hR : R <= 100) (hC : C <= 100) (ha : Txt a R C M) {b u : Rat} (hb : OkR b) (hu : OkR u) (h1 : ∀ i, i < R -> ∀ j, j < C -> OkR (M i j * b)) (h2 : ∀ i, i < R -> ∀ j, j < C -> OkR (M i j * b + u)) : ∀ (m i : Nat), i <= R -> R + 1000 < m + i ->
  z2y m (rt b) (rt u) a (R : Int) (i : Int) (mt i C fun i j => M i j * b + u) = some (.exit (mt R C fun i j => M i j * b + u, ()))
 | 0, i, h3, h4 => by omega
 | m + 1, i, h3, h4 => by
  have la := ha.1
  have ll := y2z i C (fun i j => M i j * b + u)
  simp only [z2y]
  by_cases hi : i < R
  ·have e4 : IntKind.i64.wrap ((i : Int) + 1) = ((i + 1 : Nat) : Int) := by rw [w64 _ (by omega) (by omega)]; omega
   obtain ⟨r1, r2⟩ := ha.2 i hi
   have l3 : (((List.range C).map (M i)).map rt).length = C := by rw [List.length_map, List.length_map, List.length_range]
   have k := ys1 hC r2 hb hu (h1 i hi) (h2 i hi) m 0 (by omega) (by omega)
   have k : z2z m (rt b) (rt u) (((List.range C).map (M i)).map rt) (C : Int) 0 [] = some (.exit (((List.range C).map fun j => M i j * b + u).map rt, ())) := k
   have e5 : mt i C (fun i j => M i j * b + u) ++ [(((List.range C).map fun j => M i j * b + u).map rt)] = mt (i + 1) C fun i j => M i j * b + u := by
    unfold mt
    rw [List.range_succ, List.map_append]
    rfl
   rw [if_pos (by simpa using hi), if_pos (by omega), if_pos (by omega), Int.toNat_natCast, r1, l3, k]
   dsimp only
   rw [if_pos (by omega), e4, e5]
   exact yk4 hR hC ha hb hu h1 h2 m (i + 1) (by omega) (by omega)
  ·rw [if_neg (by simpa using hi)]
   have : i = R := by omega
   subst this
   rfl
theorem ys2 {a : List (List ByteArray)} {R C : Nat} {M : Nat -> Nat -> Rat} (hR : R <= 100) (hC : C <= 100) (ha : Txt a R C M) {b u : Rat} (hb : OkR b) (hu : OkR u) (h1 : ∀ i, i < R -> ∀ j, j < C -> OkR (M i j * b)) (h2 : ∀ i, i < R -> ∀ j, j < C -> OkR (M i j * b + u)) :
  z3l fuel a (rt b) (rt u) = some (mt R C (fun i j => M i j * b + u), true) := by
 have hf := z9b (n := 2 ^ 100) (by decide)
 have h := yk4 hR hC ha hb hu h1 h2 fuel 0 (by omega) (by omega)
 have h : z2y fuel (rt b) (rt u) a (R : Int) 0 [] = _ := h
 unfold z3l
 rw [ha.1, h]
theorem wc4 {a : List (List ByteArray)} {R C : Nat} {M : Nat -> Nat -> Rat} (hR0 : 0 < R) (hR : R <= 12) (hC0 : 0 < C) (hC : C <= 12) (ha : Txt a R C M) : z1z fuel a = some 0 := by
 have la := ha.1
 have l0 : (a.getD 0 []).length = C := by rw [(ha.2 0 hR0).1, List.length_map, List.length_map, List.length_range]
 unfold z1z
 rw [if_neg (by rw [decide_eq_true_eq]; omega), w1r ha (by omega) (by omega), Option.bind_some, if_neg (by decide), w2q ha (by omega), Option.bind_some, if_neg (by rw [beq_iff_eq]; omega), if_pos (by omega), if_neg (by rw [decide_eq_true_eq]; omega)]
theorem Eqm.turn {R C : Nat} {M : Nat -> Nat -> Rat} {p q : Nat -> Rat} {V : Rat} (h : Eqm R C M p q V) : Eqm C R (fun i j => M j i * (-1) + 0) q p (-V) := by
 obtain ⟨h1, h2, h3, h4, h5, h6⟩ := h
 refine ⟨h2, h1, h4, h3, fun i hi => ?_, fun j hj => ?_⟩
 ·have e : fs (fun j => (M j i * (-1) + 0) * p j) R = -(fs (fun j => p j * M j i) R) := by
   rw [<- yi0]; exact z1h fun j _ => by grind
  rw [e]; have := h6 i hi; grind
 ·have e : fs (fun i => q i * (M j i * (-1) + 0)) C = -(fs (fun i => M j i * q i) C) := by
   rw [<- yi0]; exact z1h fun i _ => by grind
  rw [e]; have := h5 j hj; grind
theorem Eqm.shift {R C : Nat} {M : Nat -> Nat -> Rat} {p q : Nat -> Rat} {V b u : Rat} (hb : 0 <= b) (h : Eqm R C M p q V) : Eqm R C (fun i j => M i j * b + u) p q (V * b + u) := by
 obtain ⟨h1, h2, h3, h4, h5, h6⟩ := h
 refine ⟨h1, h2, h3, h4, fun i hi => ?_, fun j hj => ?_⟩
 ·have e : fs (fun j => (M i j * b + u) * q j) C = fs (fun j => M i j * q j) C * b + u := by
   have e1 : fs (fun j => (M i j * b + u) * q j) C = fs (fun j => M i j * q j * b + u * q j) C := z1h fun j _ => by grind
   rw [e1, y9r, z9y, z9a, h4]; grind
  rw [e]; have := Rat.mul_le_mul_of_nonneg_right (h5 i hi) hb; grind
 ·have e : fs (fun i => p i * (M i j * b + u)) R = fs (fun i => p i * M i j) R * b + u := by
   have e1 : fs (fun i => p i * (M i j * b + u)) R = fs (fun i => p i * M i j * b + u * p i) R := z1h fun i _ => by grind
   rw [e1, y9r, z9y, z9a, h3]; grind
  rw [e]; have := Rat.mul_le_mul_of_nonneg_right (h6 j hj) hb; grind
end Go.Proofs.YtcdcoeofhnfjdabGreatDoor
namespace Go.Proofs.YtcdcoeofhnfjdabGreatDoor
open Go Vm
theorem w8p {R C : Nat} (hR : R <= 4) (hC : C <= 4) {M : Nat -> Nat -> Rat} (h : ∀ i, i < R -> ∀ j, j < C -> Dr 12 (M i j)) : ∃ D, D ≠ 0 /\ D <= 10 ^ 192 /\ ∀ i, i < R -> ∀ j, j < C -> Zd D (M i j) /\ Ab (10 ^ 12) (M i j) := by
 have h1 : ∀ i, i < R -> pd (fun j => (M i j).den) C ≠ 0 := fun i _ => w4n fun j _ => (M i j).den_nz
 have h2 : ∀ i, i < R -> pd (fun j => (M i j).den) C <= 10 ^ (12 * C) := fun i hi => wy8 fun j hj => Nat.le_of_lt (h i hi j hj).2
 refine ⟨pd (fun i => pd (fun j => (M i j).den) C) R, w4n h1, ?_, fun i hi j hj => ⟨?_, Ab.of_dr (h i hi j hj)⟩⟩
 ·have := wy8 h2
  refine Nat.le_trans this (Nat.pow_le_pow_right (by decide) ?_)
  have : 12 * C * R <= 12 * 4 * 4 := Nat.mul_le_mul (Nat.mul_le_mul_left _ hC) hR
  omega
 ·obtain ⟨e, e0, he⟩ := wg3 hi h1
  obtain ⟨e', e0', he'⟩ := wg3 (δ := fun j => (M i j).den) hj fun j _ => (M i j).den_nz
  rw [he, he']
  exact ((Zd.den (M i j)).more e0').more e0
theorem v0i {B C : Nat} {r s : Rat} (h : Ab B r) (k : Ab C s) : Ab (B * C) (r * s) := Ab.mul h k
theorem wh9 (s : ByteArray) (hs : s.size <= 900000000000000) : (∃ (t e : Int), e ≠ 0 /\ zg7 fuel s = some (t, e)) \/ ∃ r, s = rt r /\ OkR r := by
 rcases y5v s hs with ⟨e, e0, h⟩ | h
 ·left
  unfold zg7
  rw [h, Option.bind_some, if_pos (by simpa using e0)]
  exact ⟨_, e, e0, rfl⟩
 ·exact .inr h
theorem w2b (a : List (List ByteArray)) (x y : ByteArray) (ha : WM a) (hx : x.size <= 900000000000000) (hy : y.size <= 900000000000000) : z3f fuel a x y = some true := by
 unfold z3f
 rw [yc0, Option.bind_some, if_neg (by decide)]
 obtain ⟨r, hr, hs⟩ := w8q (l := [a, [[x, y]]]) (by simp) (fun v hv => by
   rcases List.mem_cons.1 hv with rfl | hv
   · exact ha
   · rw [List.mem_singleton] at hv; subst hv
     exact v06 (by simp) fun v hv => by
       rw [List.mem_singleton] at hv; subst hv
       exact ⟨by simp, fun s hs => by
         rcases List.mem_cons.1 hs with rfl | hs
         · exact hx
         · rw [List.mem_singleton] at hs; subst hs; exact hy⟩) 4
 have hr : z4h fuel 4 [a, [[x, y]]] = some r := hr
 have key : ∀ (t e : Int), zg7 fuel x = some (t, e) -> (e ≠ 0 \/ t <= 0 \/ r = false \/ (∃ e : Int, e ≠ 0 /\ z1z fuel a = some e)) -> True := fun _ _ _ _ => trivial
 rcases wh9 x hx with ⟨t, e, e0, h1⟩ | ⟨b, rfl, hb⟩
 ·rw [h1, Option.bind_some, hr, Option.bind_some]
  cases r with
  | false => rw [if_neg (by decide)]
  | true =>
   rw [if_pos (by decide)]
   rcases yi1 ha with ⟨e', e0', h⟩ | ⟨h, _⟩
   ·rw [h, Option.bind_some, if_neg (by simpa using e0')]
   ·rw [h, Option.bind_some, if_pos (by decide), if_neg (by simpa using e0)]
 ·rw [wo8 hb, Option.bind_some, hr, Option.bind_some]
  cases r with
  | false => rw [if_neg (by decide)]
  | true =>
   have s1 := hs rfl a (by simp)
   have s2 := hs rfl [[rt b, y]] (by simp)
   rw [if_pos (by decide)]
   rcases yi1 ha with ⟨e', e0', h⟩ | ⟨h, R, C, M, hR0, _, hC0, _, hC, hT⟩
   ·rw [h, Option.bind_some, if_neg (by simpa using e0')]
   ·rw [h, Option.bind_some, if_pos (by decide), if_pos (show ((0 : Int) != 0) = false by decide)]
    by_cases hpos : 0 < b
    ·have := yy2.2 hpos
     rw [if_pos (by rw [decide_eq_false_iff_not]; exact this)]
     rcases y5v y hy with ⟨e, e0, h2⟩ | ⟨u, rfl, hu⟩
     ·rw [h2, Option.bind_some, if_pos (by simpa using e0)]
     ·rw [y7k hu, Option.bind_some, if_neg (by decide)]
      have hR : R <= 4 := by rw [<- hT.1]; exact s1.1
      have hC5 : C <= 4 := by rw [<- hC]; exact (s1.2 0 (by rw [hT.1]; exact hR0)).1
      obtain ⟨_, d2⟩ := wp3 (rs := [b, u]) s2 (i := 0) (by simp) rfl
      have db : Dr 12 b := d2 0 (by simp)
      have du : Dr 12 u := d2 1 (by simp)
      have dA := v2q hT s1
      have ok1 : ∀ i, i < R -> ∀ j, j < C -> OkR (M i j * b) := fun i hi j hj => zu5 (y1b (dA i hi j hj) db) (by decide) (by decide)
      have ok2 : ∀ i, i < R -> ∀ j, j < C -> OkR (M i j * b + u) := fun i hi j hj => zu5 (w13 (y1b (dA i hi j hj) db) du) (by decide) (by decide)
      obtain ⟨D, D1, D2, D3⟩ := w8p hR hC5 dA
      have hDW : ∃ DW, DW ≠ 0 /\ DW <= 10 ^ 216 /\ ∀ i, i < R -> ∀ j, j < C -> Zd DW (M i j * b + u) /\ Ab (10 ^ 26) (M i j * b + u) := by
       refine ⟨D * b.den * u.den, Nat.mul_ne_zero (Nat.mul_ne_zero D1 b.den_nz) u.den_nz, ?_, fun i hi j hj => ⟨?_, ?_⟩⟩
       ·have a1 : D * b.den * u.den <= 10 ^ 192 * 10 ^ 12 * 10 ^ 12 := Nat.mul_le_mul (Nat.mul_le_mul D2 (Nat.le_of_lt db.2)) (Nat.le_of_lt du.2)
        have a2 : (10 : Nat) ^ 192 * 10 ^ 12 * 10 ^ 12 = 10 ^ 216 := by rw [<- Nat.pow_add, <- Nat.pow_add]
        exact Nat.le_trans a1 (Nat.le_of_eq a2)
       ·have z1 : Zd (D * b.den * u.den) (M i j * b) := ((D3 i hi j hj).1.mul (Zd.den b)).more u.den_nz
        have z2 : Zd (D * b.den * u.den) u := by
         rw [Nat.mul_comm]
         exact (Zd.den u).more (Nat.mul_ne_zero D1 b.den_nz)
        exact z1.add (Nat.mul_ne_zero (Nat.mul_ne_zero D1 b.den_nz) u.den_nz) z2
       ·exact ((v0i (D3 i hi j hj).2 (Ab.of_dr db)).add (Ab.of_dr du)).mono (by decide)
      obtain ⟨DW, W1, W2, W3⟩ := hDW
      obtain ⟨p, q, V, D', hE, g1, dV, _⟩ := wc2 192 934 hR0 (by omega) hC0 (by omega) hT D1 D2 (by omega) (by omega) (fun i hi j hj => ⟨(D3 i hi j hj).1, (D3 i hi j hj).2.mono (by decide)⟩) h
      have hTw : Txt (mt R C fun i j => M i j * b + u) R C (fun i j => M i j * b + u) := wu1 ok2
      obtain ⟨p', q', V', D'', hE', g2, dV', _⟩ := wc2 216 1030 hR0 (by omega) hC0 (by omega) hTw W1 W2 (by omega) (by omega) W3 (wc4 hR0 (by omega) hC0 (by omega) hTw)
      have hVV : V' = V * b + u := hE'.uniq (hE.shift (Rat.le_of_lt hpos))
      have okV : OkR V := zu5 dV (by decide) (by decide)
      have okV1 : OkR (V * b) := zu5 (y1b dV db) (by decide) (by decide)
      have okV2 : OkR (V * b + u) := zu5 (w13 (y1b dV db) du) (by decide) (by decide)
      have t1 := ys2 (by omega) (by omega) hT hb hu ok1 ok2
      have hTv : Txt [[rt V]] 1 1 (fun _ _ => V) := ⟨rfl, fun i hi => by
        have : i = 0 := by omega
        subst this
        exact ⟨rfl, fun j _ => okV⟩⟩
      have t2 := ys2 (by decide) (by decide) hTv hb hu (fun _ _ _ _ => okV1) (fun _ _ _ _ => okV2)
      rw [t1, Option.bind_some, g1, Option.bind_some]
      dsimp only
      rw [g2, Option.bind_some, t2, Option.bind_some, if_pos rfl, if_pos rfl]
      dsimp only
      rw [wr4, Option.bind_some, if_pos rfl, if_pos (by rw [y2z]; decide), if_pos (by rw [yx3 (by decide)]; decide), hVV]
      show some ((rt (V * b + u)).toList == (rt (V * b + u)).toList) = some true
      simp
    ·rw [if_neg (by rw [decide_eq_false_iff_not]; exact fun h => hpos (yy2.1 h))]
theorem matgameShifts_plain : ∀ x : List (List ByteArray) × (ByteArray × ByteArray), WfL [.slice (.slice .str), .str, .str] x -> z3f fuel x.1 x.2.1 x.2.2 = some true :=
 fun x h => w2b x.1 x.2.1 x.2.2 (v2t h.1) (Nat.le_trans h.2.1 (by decide)) (Nat.le_trans h.2.2 (by decide))
end Go.Proofs.YtcdcoeofhnfjdabGreatDoor
