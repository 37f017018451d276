/- What the pure functions of this claim compute, and what follows from it: part 3. -/
import Derived.Test.YtcdcoeofhnfjdabGreatDoorL2
set_option maxHeartbeats 1000000
set_option linter.unusedVariables false
namespace Go.Proofs.YtcdcoeofhnfjdabGreatDoor
open Go Vm
theorem wy0 {rs : List Rat} {i : Nat} (hi : i < rs.length) {d : ByteArray} : (rs.map rt).getD i d = rt (rs.getD i 0) := by
 rw [List.getD_eq_getElem?_getD, List.getD_eq_getElem?_getD, List.getElem?_map, List.getElem?_eq_getElem hi]; rfl
end Go.Proofs.YtcdcoeofhnfjdabGreatDoor
namespace Go.Proofs.YtcdcoeofhnfjdabGreatDoor
open Go Vm
def Fr (K D : Nat) (r : Rat) : Prop := ∃ z : Int, z.natAbs < 10 ^ K /\ r = mkRat z D
theorem Fr.dr {K D : Nat} (hD : D ≠ 0) (hK : D < 10 ^ K) {r : Rat} (h : Fr K D r) : Dr K r := by
 obtain ⟨z, h1, rfl⟩ := h
 exact ww7 hD h1 hK
theorem Fr.zero {K D : Nat} : Fr K D 0 := ⟨0, Nat.pow_pos (by decide), by rw [Rat.zero_mkRat]⟩
theorem v00 {P B e : Nat} (hP : P ≠ 0) {b : Rat} (hb : Zd P b) (hB : Ab B b) (h0 : b ≠ 0) (he : B * P < 10 ^ e) : ∃ D, D ≠ 0 /\ D < 10 ^ e /\ ∀ a, Zd P a -> Ab B a -> Fr e D (a / b) := by
 obtain ⟨z2, rfl⟩ := hb
 have n2 := yd8 hP hB
 have hz2 : z2 ≠ 0 := fun h => h0 (by rw [h, Rat.zero_mkRat])
 refine ⟨z2.natAbs, by omega, by omega, fun a ha hA => ?_⟩
 obtain ⟨z1, rfl⟩ := ha
 have n1 := yd8 hP hA
 have e1 : mkRat z1 P / mkRat z2 P = mkRat (z1 * z2.sign) z2.natAbs := by
  have h1 : mkRat (z1 * z2.sign) z2.natAbs * mkRat z2 P = mkRat z1 P := by
   rw [Rat.mkRat_mul_mkRat]
   have : z1 * z2.sign * z2 = z1 * (z2.natAbs : Int) := by
    rw [Int.mul_assoc, Int.mul_comm z2.sign, Int.mul_sign_self]
   rw [this, Nat.mul_comm, Rat.mkRat_mul_right (by omega)]
  rw [<- h1, Rat.div_def, Rat.mul_assoc, Rat.mul_inv_cancel _ h0, Rat.mul_one]
 have hs : (z1 * z2.sign).natAbs <= z1.natAbs := by
  rw [Int.natAbs_mul]
  have : z2.sign.natAbs <= 1 := by rw [Int.natAbs_sign_of_ne_zero hz2]; exact Nat.le_refl _
  exact Nat.le_trans (Nat.mul_le_mul_left _ this) (by rw [Nat.mul_one]; exact Nat.le_refl _)
 exact ⟨z1 * z2.sign, by omega, e1⟩
theorem Fr.div {K D : Nat} (hD : D ≠ 0) {v : Rat} (hv : Fr K D v) (h0 : v ≠ 0) : ∃ D', D' ≠ 0 /\ D' < 10 ^ K /\ ∀ r, Fr K D r -> Fr K D' (r / v) := by
 obtain ⟨z2, h2, rfl⟩ := hv
 have hz2 : z2 ≠ 0 := fun h => h0 (by rw [h, Rat.zero_mkRat])
 refine ⟨z2.natAbs, by omega, h2, fun r hr => ?_⟩
 obtain ⟨z1, h1, rfl⟩ := hr
 have e1 : mkRat z1 D / mkRat z2 D = mkRat (z1 * z2.sign) z2.natAbs := by
  have h1 : mkRat (z1 * z2.sign) z2.natAbs * mkRat z2 D = mkRat z1 D := by
   rw [Rat.mkRat_mul_mkRat]
   have : z1 * z2.sign * z2 = z1 * (z2.natAbs : Int) := by
    rw [Int.mul_assoc, Int.mul_comm z2.sign, Int.mul_sign_self]
   rw [this, Nat.mul_comm, Rat.mkRat_mul_right (by omega)]
  rw [<- h1, Rat.div_def, Rat.mul_assoc, Rat.mul_inv_cancel _ h0, Rat.mul_one]
 have hs : (z1 * z2.sign).natAbs <= z1.natAbs := by
  rw [Int.natAbs_mul]
  have : z2.sign.natAbs <= 1 := by rw [Int.natAbs_sign_of_ne_zero hz2]; exact Nat.le_refl _
  exact Nat.le_trans (Nat.mul_le_mul_left _ this) (by rw [Nat.mul_one]; exact Nat.le_refl _)
 exact ⟨z1 * z2.sign, by omega, e1⟩
theorem Fr.sum {K D : Nat} (hD : D ≠ 0) {f : Nat -> Rat} : ∀ n : Nat, (∀ i, i < n -> Fr K D (f i)) -> ∃ z : Int, z.natAbs <= n * 10 ^ K /\ fs f n = mkRat z D
 | 0, _ => ⟨0, by simp, by rw [Rat.zero_mkRat]; rfl⟩
 | n + 1, h => by
  obtain ⟨z, h1, h2⟩ := Fr.sum hD n fun i hi => h i (by omega)
  obtain ⟨y, h3, h4⟩ := h n (by omega)
  refine ⟨z + y, ?_, ?_⟩
  ·have := Int.natAbs_add_le z y
   rw [Nat.succ_mul]; omega
  ·rw [fs, h2, h4]
   have := Rat.mkRat_add_mkRat z y hD hD
   rw [this, <- Int.add_mul, Rat.mkRat_mul_right hD]
def Com (m N K : Nat) (M : Nat -> Nat -> Rat) : Prop := ∀ B T, Bas m N M B T -> Cls m N M B -> ∃ D, D ≠ 0 /\ D < 10 ^ K /\ ∀ r, r < m -> ∀ c, c < N -> Fr K D (T r c)
theorem ww2 {m N K β : Nat} {δ : Nat -> Nat} {M : Nat -> Nat -> Rat} (hδ : ∀ i, i < m -> δ i ≠ 0) (hβ : 1 <= β) (ent : ∀ i, i < m -> ∀ c, c < N -> Zd (δ i) (M i c) /\ Ab β (M i c)) (hx : fc m * β ^ m * pd δ m < 10 ^ K) : Com m N K M := by
 intro B T hB hC
 have hP := w4v hδ
 have a1 : Ab β 1 := by
  have h : Ab 1 1 := ⟨Rat.le_refl, by decide⟩
  exact h.mono hβ
 have entB : ∀ i, i < m -> ∀ q, q < m -> Zd (δ i) (B i q) /\ Ab β (B i q) := fun i hi q hq => by
  rcases hC q hq with ⟨c, hc, h1⟩ | ⟨c, h1⟩
  ·rw [h1 i]; exact ent i hi c hc
  ·rw [h1 i]
   split
   ·exact ⟨Zd.one _ (hδ i hi), a1⟩
   ·exact ⟨Zd.zero, Ab.zero _⟩
 obtain ⟨d1, d2⟩ := yh4 (M := B) hδ entB
 obtain ⟨D, h1, h2, h3⟩ := v00 hP d1 d2 hB.nz hx
 refine ⟨D, h1, h2, fun r hr c hc => ?_⟩
 rw [hB.elem hr hc]
 obtain ⟨n1, n2⟩ := yh4 (M := upd r (fun i => M i c) B) hδ fun i hi q hq => by
  unfold upd
  split
  ·exact ent i hi c hc
  ·exact entB i hi q hq
 exact h3 _ n1 n2
theorem Tab.com {m n N K : Nat} {M : Nat -> Nat -> Rat} {c : Nat -> Rat} {β : Nat -> Nat} {T : Nat -> Nat -> Rat} (h : Tab m n N M c β T) (hg : Com (m + 1) (N + 1) K (gM m N M c)) : ∃ D, D ≠ 0 /\ D < 10 ^ K /\ ∀ r, r < m + 1 -> ∀ k, k < N -> Fr K D (T r k) := by
 obtain ⟨D, h1, h2, h3⟩ := hg _ _ h.big fun q hq => .inl ⟨gβ m N β q, by
   unfold gβ
   split
   · have := h.lt q (by assumption); omega
   · omega, fun _ => rfl⟩
 refine ⟨D, h1, h2, fun r hr k hk => ?_⟩
 have := h3 r hr k (by omega)
 unfold gT at this
 rwa [if_pos hk] at this
theorem wh7 {D : Nat} : ∀ R : Nat, pd (fun i => if i < R then D else 1) (R + 1) = D ^ R
 | 0 => by rw [pd, pd]; rfl
 | R + 1 => by
  rw [pd, if_pos (by omega)]
  have : (fun i => if i + 1 < R + 1 then D else 1) = fun i => if i < R then D else 1 := by
   funext i
   by_cases h : i < R
   ·rw [if_pos h, if_pos (by omega)]
   ·rw [if_neg h, if_neg (by omega)]
  rw [this, wh7 R, Nat.pow_succ, Nat.mul_comm]
end Go.Proofs.YtcdcoeofhnfjdabGreatDoor
namespace Go.Proofs.YtcdcoeofhnfjdabGreatDoor
open Go Vm
theorem w6l {a : List (List ByteArray)} {R C : Nat} {M : Nat -> Nat -> Rat} (h : Txt a R C M) (hR : R <= 100) (hC : C <= 100) : ∀ (m i : Nat) (g : List (List Qd)), i <= R -> R < m + i -> QG i C M g ->
  ∃ g', z2a m a (R : Int) (i : Int) g = some (.exit (g', ())) /\ QG R C M g'
 | 0, i, g, h1, h2, _ => by omega
 | m + 1, i, g, h1, h2, hg => by
  have hl := h.1
  simp only [z2a]
  by_cases hi : i < R
  ·have e4 : IntKind.i64.wrap ((i : Int) + 1) = ((i + 1 : Nat) : Int) := by rw [w64 _ (by omega) (by omega)]; omega
   obtain ⟨h3, h4⟩ := h.2 i hi
   obtain ⟨qs, gq, hq⟩ := yt2 ((List.range C).map (M i)) (by rw [List.length_map, List.length_range]; omega) (fun r hr => by
     obtain ⟨j, hj, rfl⟩ := List.mem_map.1 hr
     exact h4 j (List.mem_range.1 hj))
   have hgl := hg.1
   rw [if_pos (by simpa using hi), if_pos (by omega), if_pos (by omega), Int.toNat_natCast, h3, gq, Option.bind_some, if_pos (by omega), e4]
   refine w6l h hR hC m (i + 1) _ (by omega) (by omega) ⟨by rw [List.length_append, hgl]; rfl, fun k hk => ?_⟩
   by_cases e : k = i
   ·subst e
    rw [y7a hgl.symm]
    have := QF.of hq
    rw [List.length_map, List.length_range] at this
    exact this.ext fun j hj => z8s hj
   ·rw [y2v (by omega)]; exact hg.2 k (by omega)
  ·rw [if_neg (by simpa using hi)]
   have : i = R := by omega
   subst this
   exact ⟨g, rfl, hg⟩
def LE (R C : Nat) (M : Nat -> Nat -> Rat) (q : Qd) (P : Nat -> Nat -> Prop) : Prop := ∃ i0 j0, i0 < R /\ j0 < C /\ QR (M i0 j0) q /\ ∀ i j, i < R -> j < C -> P i j -> M i0 j0 <= M i j
theorem yy1 {R C i : Nat} (hC : C <= 100) (hi : i < R) {M : Nat -> Nat -> Rat} {g : List (List Qd)} (hg : QG R C M g) (hd : ∀ i, i < R -> ∀ j, j < C -> Dr 2000 (M i j)) : ∀ (f j : Nat) (q : Qd), j <= C -> C < f + j -> LE R C M q (fun r s => r < i \/ r = i /\ s < j) ->
  ∃ q', z1d f i (C : Int) (j : Int) q.1 q.2.1 q.2.2 g = some (.exit (q'.1, q'.2.1, q'.2.2, g, ())) /\ LE R C M q' (fun r s => r < i \/ r = i /\ s < C)
 | 0, j, q, h1, h2, _ => by omega
 | f + 1, j, q, h1, h2, hq => by
  have hri := hg.2 i hi
  have li := hri.1
  simp only [z1d]
  by_cases hj : j < C
  ·have e4 : IntKind.i64.wrap ((j : Int) + 1) = ((j + 1 : Nat) : Int) := by rw [w64 _ (by omega) (by omega)]; omega
   obtain ⟨i0, j0, h3, h4, h5, h6⟩ := hq
   have h5' : QR (M i0 j0) (q.1, (q.2.1, q.2.2)) := h5
   rw [if_pos (by simpa using hj), if_pos (by omega), if_pos (show ((j : Nat) : Int) < (((g.getD i ([] : List Qd)).length : Nat) : Int) by omega), Int.toNat_natCast, w4z (hri.at hj) h5' (hd i hi j hj) (hd i0 h3 j0 h4) (by omega), Option.bind_some, e4]
   by_cases c : M i j < M i0 j0
   ·rw [if_pos (by rw [decide_eq_true_eq]; exact z9w.2 (by grind))]
    refine yy1 hC hi hg hd f (j + 1) ((g.getD i []).getD j (false, ([], []))) (by omega) (by omega) ⟨i, j, hi, hj, hri.at hj, fun r s hr hs hp => ?_⟩
    by_cases e : r = i /\ s = j
    ·rw [e.1, e.2]; exact Rat.le_refl
    ·have := h6 r s hr hs (by omega)
     exact Rat.le_trans (Rat.le_of_lt c) this
   ·rw [if_neg (by rw [decide_eq_true_eq]; exact fun h => c (by have := z9w.1 h; grind))]
    refine yy1 hC hi hg hd f (j + 1) q (by omega) (by omega) ⟨i0, j0, h3, h4, h5, fun r s hr hs hp => ?_⟩
    by_cases e : r = i /\ s = j
    ·rw [e.1, e.2]; grind
    ·exact h6 r s hr hs (by omega)
  ·rw [if_neg (by simpa using hj)]
   have : j = C := by omega
   subst this
   exact ⟨q, rfl, hq⟩
theorem w1r {R C : Nat} (hR : R <= 100) (hC : C <= 100) {M : Nat -> Nat -> Rat} {g : List (List Qd)} (hg : QG R C M g) (hd : ∀ i, i < R -> ∀ j, j < C -> Dr 2000 (M i j)) : ∀ (f i : Nat) (q : Qd), i <= R -> R + 1000 < f + i -> LE R C M q (fun r _ => r < i) ->
  ∃ q', z1r f (R : Int) (i : Int) q.1 q.2.1 q.2.2 g = some (.exit (q'.1, q'.2.1, q'.2.2, g, ())) /\ LE R C M q' (fun _ _ => True)
 | 0, i, q, h1, h2, _ => by omega
 | f + 1, i, q, h1, h2, hq => by
  have lg := hg.1
  simp only [z1r]
  by_cases hi : i < R
  ·have e4 : IntKind.i64.wrap ((i : Int) + 1) = ((i + 1 : Nat) : Int) := by rw [w64 _ (by omega) (by omega)]; omega
   have li := (hg.2 i hi).1
   obtain ⟨i0, j0, h3, h4, h5, h6⟩ := hq
   obtain ⟨q', k1, k2⟩ := yy1 hC hi hg hd f 0 q (by omega) (by omega) ⟨i0, j0, h3, h4, h5, fun r s hr hs hp => h6 r s hr hs (by omega)⟩
   have k1 : z1d f i (((g.getD i ([] : List Qd)).length : Nat) : Int) 0 q.1 q.2.1 q.2.2 g = some (.exit (q'.1, q'.2.1, q'.2.2, g, ())) := by rw [li]; exact k1
   obtain ⟨i0, j0, h3, h4, h5, h6⟩ := k2
   rw [if_pos (by simpa using hi), if_pos (by omega), if_pos (by omega), Int.toNat_natCast, k1]
   dsimp only
   rw [e4]
   exact w1r hR hC hg hd f (i + 1) q' (by omega) (by omega) ⟨i0, j0, h3, h4, h5, fun r s hr hs hp => h6 r s hr hs (by omega)⟩
  ·rw [if_neg (by simpa using hi)]
   have : i = R := by omega
   subst this
   obtain ⟨i0, j0, h3, h4, h5, h6⟩ := hq
   exact ⟨q, rfl, i0, j0, h3, h4, h5, fun r s hr hs _ => h6 r s hr hs hr⟩
def inc (b : Rat) (i c : Nat) (M : Nat -> Nat -> Rat) (r s : Nat) : Rat := if r < i \/ r = i /\ s < c then M r s + b else M r s
theorem wr7 {R C i : Nat} (hR : R <= 100) (hC : C <= 100) (hi : i < R) {M : Nat -> Nat -> Rat} {b : Rat} {q : Qd} (hq : QR b q) (hb : Dr 4000 b) (hd : ∀ i, i < R -> ∀ j, j < C -> Dr 2000 (M i j)) : ∀ (f c : Nat) (g : List (List Qd)), c <= C -> C < f + c -> QG R C (inc b i c M) g ->
  ∃ g', z4o f (i : Int) (C : Int) (c : Int) g q.1 q.2.1 q.2.2 = some (.exit (g', q.1, q.2.1, q.2.2, ())) /\ QG R C (inc b i C M) g'
 | 0, c, g, h1, h2, _ => by omega
 | f + 1, c, g, h1, h2, hg => by
  have lg := hg.1
  have hri := hg.2 i hi
  have li := hri.1
  simp only [z4o]
  by_cases hc : c < C
  ·have e4 : IntKind.i64.wrap ((c : Int) + 1) = ((c + 1 : Nat) : Int) := by rw [w64 _ (by omega) (by omega)]; omega
   have qi := hri.at hc
   have e : inc b i c M i c = M i c := by unfold inc; rw [if_neg (by omega)]
   rw [e] at qi
   obtain ⟨y, hy, hqy⟩ := w4y qi hq (hd i hi c hc) hb (by omega)
   have hy : z5m fuel (((g.getD i []).getD c (false, ([], []))).1, (((g.getD i []).getD c (false, ([], []))).2)) (q.1, (q.2.1, q.2.2)) = some y := hy
   simp only [Int.toNat_natCast]
   rw [if_pos (by simpa using hc), if_pos (by omega), if_pos (by omega), if_pos (by omega), if_pos (by omega), if_pos (by omega), if_pos (show ((c : Nat) : Int) < (((g.getD i ([] : List Qd)).length : Nat) : Int) by omega), hy, Option.bind_some, if_pos (by omega), if_pos (show ((c : Nat) : Int) < (((g.getD i ([] : List Qd)).length : Nat) : Int) by omega), e4]
   refine wr7 hR hC hi hq hb hd f (c + 1) _ (by omega) (by omega) ((hg.set hi hc hqy).ext fun r _ s _ => ?_)
   unfold inc
   by_cases e1 : r = i /\ s = c
   ·rw [if_pos e1, if_pos (by omega), e1.1, e1.2]
   ·rw [if_neg e1]
    by_cases e2 : r < i \/ r = i /\ s < c
    ·rw [if_pos e2, if_pos (by omega)]
    ·rw [if_neg e2, if_neg (by omega)]
  ·rw [if_neg (by simpa using hc)]
   have : c = C := by omega
   subst this
   exact ⟨g, rfl, hg⟩
theorem w9i {R C : Nat} (hR : R <= 100) (hC : C <= 100) {M : Nat -> Nat -> Rat} {b : Rat} {q : Qd} (hq : QR b q) (hb : Dr 4000 b) (hd : ∀ i, i < R -> ∀ j, j < C -> Dr 2000 (M i j)) : ∀ (f i : Nat) (g : List (List Qd)), i <= R -> R + 1000 < f + i -> QG R C (inc b i 0 M) g ->
  ∃ g', z5j f (R : Int) (i : Int) g q.1 q.2.1 q.2.2 = some (.exit (g', q.1, q.2.1, q.2.2, ())) /\ QG R C (fun r s => M r s + b) g'
 | 0, i, g, h1, h2, _ => by omega
 | f + 1, i, g, h1, h2, hg => by
  have lg := hg.1
  simp only [z5j]
  by_cases hi : i < R
  ·have e4 : IntKind.i64.wrap ((i : Int) + 1) = ((i + 1 : Nat) : Int) := by rw [w64 _ (by omega) (by omega)]; omega
   have li := (hg.2 i hi).1
   obtain ⟨g', k1, k2⟩ := wr7 hR hC hi hq hb hd f 0 g (by omega) (by omega) hg
   have k1 : z4o f (i : Int) (((g.getD i ([] : List Qd)).length : Nat) : Int) 0 g q.1 q.2.1 q.2.2 = some (.exit (g', q.1, q.2.1, q.2.2, ())) := by rw [li]; exact k1
   rw [if_pos (by simpa using hi), if_pos (by omega), if_pos (by omega), Int.toNat_natCast, k1]
   dsimp only
   rw [e4]
   refine w9i hR hC hq hb hd f (i + 1) g' (by omega) (by omega) (k2.ext fun r _ s hs => ?_)
   unfold inc
   by_cases e2 : r < i \/ r = i /\ s < C
   ·rw [if_pos e2, if_pos (by omega)]
   ·rw [if_neg e2, if_neg (by omega)]
  ·rw [if_neg (by simpa using hi)]
   have : i = R := by omega
   subst this
   exact ⟨g, rfl, hg.ext fun r hr s _ => by unfold inc; rw [if_pos (by omega)]⟩
theorem y97 {n : Nat} (hn : n <= 100) {x : Nat -> Rat} (hx : ∀ j, j < n -> Dr 2000 (x j)) {w : Rat} {q : Qd} (hq : QR w q) (hw : Dr 4000 w) : ∀ (f i : Nat) (l : List Qd), i <= n -> n < f + i -> QF i (fun j => x j * w) l ->
  ∃ l', z0y f (xt n x) (n : Int) (i : Int) q.1 q.2.1 q.2.2 l = some (.exit (l', q.1, q.2.1, q.2.2, ())) /\ QF n (fun j => x j * w) l'
 | 0, i, l, h1, h2, _ => by omega
 | f + 1, i, l, h1, h2, hl => by
  have ll := hl.1
  have lx := ym8 (n := n) (x := x)
  simp only [z0y]
  by_cases hi : i < n
  ·have e4 : IntKind.i64.wrap ((i : Int) + 1) = ((i + 1 : Nat) : Int) := by rw [w64 _ (by omega) (by omega)]; omega
   have ex : (xt n x).getD i ByteArray.empty = rt (x i) := by
    unfold xt
    rw [wy0 (by rw [List.length_map, List.length_range]; exact hi), z8s hi]
   obtain ⟨z, z1, z2⟩ := w1l (y1k (hx i hi) (by omega) (by omega))
   obtain ⟨y, y1, y2⟩ := y65 z2 hq (hx i hi) hw (by omega)
   have y1 : z2n fuel z (q.1, (q.2.1, q.2.2)) = some y := y1
   rw [if_pos (by simpa using hi), if_pos (by omega), if_pos (by omega), Int.toNat_natCast, ex, z1, Option.bind_some, y1, Option.bind_some, if_pos (by omega), e4]
   exact y97 hn hx hq hw f (i + 1) _ (by omega) (by omega) (hl.snoc y2)
  ·rw [if_neg (by simpa using hi)]
   have : i = n := by omega
   subst this
   exact ⟨l, rfl, hl⟩
theorem v2w : z1w fuel [(⟨#[49]⟩ : ByteArray)] ((0 : Nat) : Int) = some (List.replicate 0 (⟨#[49]⟩ : ByteArray)) := by kernel_rfl
theorem v2x : z1w fuel [(⟨#[49]⟩ : ByteArray)] ((1 : Nat) : Int) = some (List.replicate 1 (⟨#[49]⟩ : ByteArray)) := by kernel_rfl
theorem v2y : z1w fuel [(⟨#[49]⟩ : ByteArray)] ((2 : Nat) : Int) = some (List.replicate 2 (⟨#[49]⟩ : ByteArray)) := by kernel_rfl
theorem v2z : z1w fuel [(⟨#[49]⟩ : ByteArray)] ((3 : Nat) : Int) = some (List.replicate 3 (⟨#[49]⟩ : ByteArray)) := by kernel_rfl
theorem v30 : z1w fuel [(⟨#[49]⟩ : ByteArray)] ((4 : Nat) : Int) = some (List.replicate 4 (⟨#[49]⟩ : ByteArray)) := by kernel_rfl
theorem v31 : z1w fuel [(⟨#[49]⟩ : ByteArray)] ((5 : Nat) : Int) = some (List.replicate 5 (⟨#[49]⟩ : ByteArray)) := by kernel_rfl
theorem v32 : z1w fuel [(⟨#[49]⟩ : ByteArray)] ((6 : Nat) : Int) = some (List.replicate 6 (⟨#[49]⟩ : ByteArray)) := by kernel_rfl
theorem wu4 {n : Nat} (hn : n <= 6) : z1w fuel [(⟨#[49]⟩ : ByteArray)] (n : Int) = some (List.replicate n (⟨#[49]⟩ : ByteArray)) := by
 have h : n = 0 \/ n = 1 \/ n = 2 \/ n = 3 \/ n = 4 \/ n = 5 \/ n = 6 := by omega
 rcases h with rfl | rfl | rfl | rfl | rfl | rfl | rfl
 ·exact v2w
 ·exact v2x
 ·exact v2y
 ·exact v2z
 ·exact v30
 ·exact v31
 ·exact v32
theorem wu5 (n : Nat) : List.replicate n (⟨#[49]⟩ : ByteArray) = (List.replicate n (1 : Rat)).map rt := by rw [List.map_replicate, v1v]
end Go.Proofs.YtcdcoeofhnfjdabGreatDoor
namespace Go.Proofs.YtcdcoeofhnfjdabGreatDoor
open Go Vm
def Eqm (R C : Nat) (M : Nat -> Nat -> Rat) (p q : Nat -> Rat) (V : Rat) : Prop :=
 (∀ i, i < R -> 0 <= p i) /\ (∀ j, j < C -> 0 <= q j) /\ fs p R = 1 /\ fs q C = 1 /\ (∀ i, i < R -> fs (fun j => M i j * q j) C <= V) /\ ∀ j, j < C -> V <= fs (fun i => p i * M i j) R
def pay (R C : Nat) (M : Nat -> Nat -> Rat) (p q : Nat -> Rat) : Rat := fs (fun i => p i * fs (fun j => M i j * q j) C) R
theorem wh5 {R C : Nat} {M : Nat -> Nat -> Rat} {p q : Nat -> Rat} {V : Rat} (hp : ∀ i, i < R -> 0 <= p i) (h1 : fs p R = 1) (h : ∀ i, i < R -> fs (fun j => M i j * q j) C <= V) : pay R C M p q <= V := by
 have e : fs (fun i => p i * V) R = V := by rw [za1, h1]; grind
 rw [<- e]
 exact wo2 fun i hi => Rat.mul_le_mul_of_nonneg_left (h i hi) (hp i hi)
theorem wp8 {R C : Nat} {M : Nat -> Nat -> Rat} {p q : Nat -> Rat} : pay R C M p q = fs (fun j => fs (fun i => p i * M i j) R * q j) C := by
 have e1 : pay R C M p q = fs (fun i => fs (fun j => p i * M i j * q j) C) R := z1h fun i _ => by
  rw [<- z9d]
  exact z1h fun j _ => by grind
 have e2 : fs (fun j => fs (fun i => p i * M i j) R * q j) C = fs (fun j => fs (fun i => p i * M i j * q j) R) C := z1h fun j _ => by rw [za1]
 rw [e1, e2]
 exact y8t (fun i j => p i * M i j * q j) C R
theorem wh4 {R C : Nat} {M : Nat -> Nat -> Rat} {p q : Nat -> Rat} {V : Rat} (hq : ∀ j, j < C -> 0 <= q j) (h1 : fs q C = 1) (h : ∀ j, j < C -> V <= fs (fun i => p i * M i j) R) : V <= pay R C M p q := by
 have e : fs (fun j => V * q j) C = V := by rw [z9d, h1]; grind
 rw [wp8, <- e]
 exact wo2 fun j hj => Rat.mul_le_mul_of_nonneg_right (h j hj) (hq j hj)
theorem Eqm.pay {R C : Nat} {M : Nat -> Nat -> Rat} {p q : Nat -> Rat} {V : Rat} (h : Eqm R C M p q V) : pay R C M p q = V :=
 Rat.le_antisymm (wh5 h.1 h.2.2.1 h.2.2.2.2.1) (wh4 h.2.1 h.2.2.2.1 h.2.2.2.2.2)
theorem Eqm.uniq {R C : Nat} {M : Nat -> Nat -> Rat} {p q p' q' : Nat -> Rat} {V V' : Rat} (h : Eqm R C M p q V) (h' : Eqm R C M p' q' V') : V = V' :=
 Rat.le_antisymm (Rat.le_trans (wh4 h'.2.1 h'.2.2.2.1 h.2.2.2.2.2) (wh5 h.1 h.2.2.1 h'.2.2.2.2.1)) (Rat.le_trans (wh4 h.2.1 h.2.2.2.1 h'.2.2.2.2.2) (wh5 h'.1 h'.2.2.1 h.2.2.2.2.1))
theorem wz2 {R C : Nat} (hC : 0 < C) {M : Nat -> Nat -> Rat} {b v : Rat} {x y : Nat -> Rat} (hx : ∀ j, j < C -> 0 <= x j) (hy : ∀ i, i < R -> 0 <= y i) (h1 : ∀ i, i < R -> fs (fun j => (M i j + b) * x j) C <= 1)
  (h2 : ∀ j, j < C -> 1 <= fs (fun i => y i * (M i j + b)) R) (h3 : fs x C = v) (h4 : fs y R = v) : 0 < v /\ Eqm R C M (fun i => y i * (1 / v)) (fun j => x j * (1 / v)) (1 / v - b) := by
 have hv : 0 < v := by
  have h0 := zj7 hy
  rw [h4] at h0
  by_cases c : 0 < v
  ·exact c
  ·exfalso
   have hv0 : v = 0 := by grind
   have hz : ∀ i, i < R -> y i = 0 := fun i hi => by
    have a1 := wx9 hy hi
    have a2 := hy i hi
    rw [h4, hv0] at a1; grind
   have := h2 0 hC
   rw [z1h (g := fun _ => 0) fun i hi => by rw [hz i hi]; grind, z4k] at this
   exact absurd this (by decide)
 have hw : v * (1 / v) = 1 := by
  rw [Rat.div_def, Rat.one_mul, Rat.mul_inv_cancel _ (by grind)]
 have hw0 : 0 <= 1 / v := y8l (by decide) hv
 refine ⟨hv, fun i hi => Rat.mul_nonneg (hy i hi) hw0, fun j hj => Rat.mul_nonneg (hx j hj) hw0, by rw [za1, h4, hw], by rw [za1, h3, hw], fun i hi => ?_, fun j hj => ?_⟩
 ·have e : fs (fun j => M i j * (x j * (1 / v))) C = fs (fun j => (M i j + b) * x j) C * (1 / v) - b := by
   have e1 : fs (fun j => M i j * (x j * (1 / v))) C = fs (fun j => (M i j + b) * x j * (1 / v) - b * (x j * (1 / v))) C := z1h fun j _ => by grind
   rw [e1, ys4, za1, z9d (fun j => x j * (1 / v)), za1, h3, hw]; grind
  have := Rat.mul_le_mul_of_nonneg_right (h1 i hi) hw0
  rw [e]; grind
 ·have e : fs (fun i => y i * (1 / v) * M i j) R = fs (fun i => y i * (M i j + b)) R * (1 / v) - b := by
   have e1 : fs (fun i => y i * (1 / v) * M i j) R = fs (fun i => y i * (M i j + b) * (1 / v) - b * (y i * (1 / v))) R := z1h fun i _ => by grind
   rw [e1, ys4, za1, z9d (fun i => y i * (1 / v)), za1, h4, hw]; grind
  have := Rat.mul_le_mul_of_nonneg_right (h2 j hj) hw0
  rw [e]; grind
theorem ab_one : Ab (10 ^ 27) 1 := by
 have h : Ab 1 1 := ⟨Rat.le_refl, by decide⟩
 exact h.mono (by decide)
theorem w63 {R C D : Nat} (hD : D ≠ 0) {A : Nat -> Nat -> Rat} {b c : Nat -> Rat} (hb : ∀ i, i < R -> b i = 1) (hz : ∀ i, i < R -> ∀ j, j < C -> Zd D (A i j) /\ Ab (10 ^ 27) (A i j)) (hc : ∀ k, c k = 0 \/ c k = 1 \/ c k = -1) :
  ∀ i, i < R + 1 -> ∀ k, k < C + R + 2 + 1 -> Zd (if i < R then D else 1) (gM R (C + R + 2) (lpM R C A b) c i k) /\ Ab (10 ^ 27) (gM R (C + R + 2) (lpM R C A b) c i k) := fun i hi k hk => by
 have ok : ∀ {d : Nat}, d ≠ 0 -> ∀ r : Rat, r = 0 \/ r = 1 \/ r = -1 -> Zd d r /\ Ab (10 ^ 27) r := fun hd r hr => by
  rcases hr with rfl | rfl | rfl
  ·exact ⟨Zd.zero, Ab.zero _⟩
  ·exact ⟨Zd.one _ hd, ab_one⟩
  ·exact ⟨(Zd.one _ hd).neg, ab_one.neg⟩
 unfold gM
 by_cases c1 : i < R
 ·rw [if_pos c1, if_pos c1]
  by_cases c2 : k < C + R + 2
  ·rw [if_pos c2]
   unfold lpM
   by_cases c3 : k < C
   ·rw [if_pos c3]; exact hz i c1 k c3
   ·rw [if_neg c3]
    refine ok hD _ ?_
    by_cases c4 : k < C + R
    ·rw [if_pos c4]; unfold one
     by_cases c5 : i = k - C
     ·rw [if_pos c5]; exact .inr (.inl rfl)
     ·rw [if_neg c5]; exact .inl rfl
    ·rw [if_neg c4]
     by_cases c5 : k = C + R
     ·rw [if_pos c5]; exact .inr (.inr rfl)
     ·rw [if_neg c5, hb i c1]; exact .inr (.inl rfl)
  ·rw [if_neg c2]; exact ⟨Zd.zero, Ab.zero _⟩
 ·rw [if_neg c1, if_neg c1]
  refine ok (by decide) _ ?_
  by_cases c2 : k < C + R + 2
  ·rw [if_pos c2]
   rcases hc k with h | h | h <;> rw [h]
   ·exact .inl (by grind)
   ·exact .inr (.inr rfl)
   ·exact .inr (.inl (by grind))
  ·rw [if_neg c2]; exact .inr (.inl rfl)
theorem w88 {R D e K : Nat} (hR : R <= 5) (hD : D <= 10 ^ e) (hK : e * R + 166 <= K) : fc (R + 1) * (10 ^ 27) ^ (R + 1) * pd (fun i => if i < R then D else 1) (R + 1) < 10 ^ K := by
 rw [wh7]
 have f1 : fc (R + 1) <= 10 ^ 3 := by
  match R, hR with
  | 0, _ => decide
  | 1, _ => decide
  | 2, _ => decide
  | 3, _ => decide
  | 4, _ => decide
  | 5, _ => decide
 have f2 : (10 ^ 27) ^ (R + 1) <= (10 : Nat) ^ 162 := by
  rw [<- Nat.pow_mul]
  exact Nat.pow_le_pow_right (by decide) (by omega)
 have f3 : D ^ R <= 10 ^ (e * R) := by
  rw [Nat.pow_mul]
  exact Nat.pow_le_pow_left hD R
 have f4 : fc (R + 1) * (10 ^ 27) ^ (R + 1) * D ^ R <= 10 ^ 3 * 10 ^ 162 * 10 ^ (e * R) := Nat.mul_le_mul (Nat.mul_le_mul f1 f2) f3
 have f5 : (10 : Nat) ^ 3 * 10 ^ 162 * 10 ^ (e * R) = 10 ^ (3 + 162 + e * R) := by rw [<- Nat.pow_add, <- Nat.pow_add]
 have f6 : (10 : Nat) ^ (3 + 162 + e * R) < 10 ^ K := Nat.pow_lt_pow_right (by decide) (by omega)
 exact Nat.lt_of_le_of_lt (Nat.le_trans f4 (Nat.le_of_eq f5)) f6
end Go.Proofs.YtcdcoeofhnfjdabGreatDoor
namespace Go.Proofs.YtcdcoeofhnfjdabGreatDoor
open Go Vm
theorem v1z {m n : Nat} {A : Nat -> Nat -> Rat} {a : List (List ByteArray)} {bs cs : List Rat} (hm : m <= 40) (hn : n <= 40) (ha : Txt a m n A) (h0 : 0 < m) (hb : bs.length = m) (hc : cs.length = n) (ho : ∀ r, r ∈ bs -> OkR r) (ho' : ∀ r, r ∈ cs -> OkR r) : z6q fuel (a, (bs.map rt, cs.map rt)) = some 0 := by
 have la := ha.1
 unfold z6q
 dsimp only
 rw [List.length_map, List.length_map, if_pos (by rw [decide_eq_false_iff_not]; omega), if_neg (by rw [decide_eq_true_eq]; omega), yk4 ha hm hn, Option.bind_some, if_neg (by decide), yg8 (by omega) ho, Option.bind_some, if_neg (by decide), yg8 (by omega) ho', Option.bind_some, if_neg (by decide),
   if_pos (by rw [bne_eq_false_iff_eq]; omega), if_pos (by rw [decide_eq_true_eq]; omega), ym5 ha (by omega), Option.bind_some, if_neg (by rw [bne_iff_ne]; omega)]
theorem w2c {n k : Nat} (h : k < n) : (List.replicate n (1 : Rat)).getD k 0 = 1 := by
 rw [List.getD_eq_getElem?_getD, List.getElem?_replicate, if_pos h]; rfl
theorem yz0 {n : Nat} : ∀ r, r ∈ List.replicate n (1 : Rat) -> OkR r := fun r hr => by
 rw [List.eq_of_mem_replicate hr]
 exact y1k (k := 1) (w1d (n := 1) (by decide) (by decide)) (by decide) (by decide)
theorem wd5 {a : List (List ByteArray)} {R C D : Nat} (e K : Nat) {M : Nat -> Nat -> Rat} (hR0 : 0 < R) (hR : R <= 5) (hC0 : 0 < C) (hC : C <= 5) (ha : Txt a R C M) (hD : D ≠ 0) (hD2 : D <= 10 ^ e) (hK : e * R + 166 <= K) (hK2 : K + e + 29 <= 1999) (hz : ∀ i, i < R -> ∀ j, j < C -> Zd D (M i j) /\ Ab (10 ^ 26) (M i j)) (hck : z2f fuel a = some 0) :
  ∃ (p q : Nat -> Rat) (V : Rat) (D' : Nat), Eqm R C M p q V /\ z6k fuel a = some ((rt V, (xt R p, xt C q)), 0) /\ Dr (K + e + 29) V /\ D' ≠ 0 /\ D' < 10 ^ K /\ (∀ i, i < R -> Fr K D' (p i)) /\ ∀ j, j < C -> Fr K D' (q j) := by
 have hf := z82 (n := 2 ^ 100) (by decide)
 have heR : e <= e * R := Nat.le_mul_of_pos_right e hR0
 have la := ha.1
 have l0 : (a.getD 0 []).length = C := by rw [(ha.2 0 hR0).1, List.length_map, List.length_map, List.length_range]
 have hd : ∀ i, i < R -> ∀ j, j < C -> Dr 2000 (M i j) := fun i hi j hj => y1t ((ha.2 i hi).2 j hj)
 obtain ⟨g, g1, g2⟩ := w6l ha (by omega) (by omega) fuel 0 [] (by omega) (by omega) ⟨rfl, fun i hi => by omega⟩
 have g1 : z2a fuel a (a.length : Int) 0 [] = some (.exit (g, ())) := by rw [la]; exact g1
 have lg := g2.1
 have lg0 := (g2.2 0 hR0).1
 obtain ⟨o1, i1, i2⟩ := we4
 obtain ⟨ql, k1, i0, j0, hi0, hj0, k2, k3⟩ := w1r (by omega) (by omega) g2 hd fuel 0 ((g.getD 0 []).getD 0 (false, ([], []))) (by omega) (by omega) ⟨0, 0, hR0, hC0, (g2.2 0 hR0).2 0 hC0, fun i j _ _ h => by omega⟩
 have k1 : z1r fuel (g.length : Int) 0 (((g.getD 0 []).getD 0 (false, ([], []))).1) ((((g.getD 0 []).getD 0 (false, ([], []))).2).1) ((((g.getD 0 []).getD 0 (false, ([], []))).2).2) g = some (.exit (ql.1, ql.2.1, ql.2.2, g, ())) := by rw [lg]; exact k1
 have d1 : Dr 1 (1 : Rat) := w1d (n := 1) (by decide) (by decide)
 obtain ⟨qb, b1, b2⟩ := y3h i2 k2 d1 (hd i0 hi0 j0 hj0) (by omega)
 have b1 : z4b fuel o1 (ql.1, (ql.2.1, ql.2.2)) = some qb := b1
 generalize hby : 1 - M i0 j0 = by' at b2
 have dby : Dr 2002 by' := by rw [<- hby]; exact z7v (by omega) (wb7 d1 (hd i0 hi0 j0 hj0))
 obtain ⟨ga, a1, a2⟩ := w9i (by omega) (by omega) b2 (z7v (by omega) dby) hd fuel 0 g (by omega) (by omega) (g2.ext fun r _ s _ => by unfold inc; rw [if_neg (by omega)])
 have a1 : z5j fuel (g.length : Int) 0 g qb.1 qb.2.1 qb.2.2 = some (.exit (ga, qb.1, qb.2.1, qb.2.2, ())) := by rw [lg]; exact a1
 have one1 : Ab 1 1 := ⟨Rat.le_refl, by decide⟩
 have zby : Zd D by' /\ Ab (1 + 10 ^ 26) by' := by
  have e' : by' = 1 + -(M i0 j0) := by rw [<- hby]; grind
  rw [e']
  exact ⟨(Zd.one D hD).add hD (hz i0 hi0 j0 hj0).1.neg, one1.add (hz i0 hi0 j0 hj0).2.neg⟩
 have zA : ∀ i, i < R -> ∀ j, j < C -> Zd D (M i j + by') /\ Ab (10 ^ 27) (M i j + by') := fun i hi j hj =>
  ⟨(hz i hi j hj).1.add hD zby.1, ((hz i hi j hj).2.add zby.2).mono (by decide)⟩
 have hB : 10 ^ 27 * D < 10 ^ (e + 28) := by
  have h1 : 10 ^ 27 * D <= 10 ^ 27 * 10 ^ e := Nat.mul_le_mul_left _ hD2
  have h2 : (10 : Nat) ^ 27 * 10 ^ e = 10 ^ (27 + e) := by rw [<- Nat.pow_add]
  have h3 : (10 : Nat) ^ (27 + e) < 10 ^ (e + 28) := Nat.pow_lt_pow_right (by decide) (by omega)
  exact Nat.lt_of_le_of_lt (Nat.le_trans h1 (Nat.le_of_eq h2)) h3
 have toDr : ∀ {r : Rat}, Zd D r -> Ab (10 ^ 27) r -> Dr (e + 28) r := fun h k => Zd.dr hD (by decide) h k.1 k.2 hB
 have dA : ∀ i, i < R -> ∀ j, j < C -> Dr (e + 28) (M i j + by') := fun i hi j hj => toDr (zA i hi j hj).1 (zA i hi j hj).2
 have dby2 : Dr (e + 28) by' := toDr zby.1 (zby.2.mono (by decide))
 have okA : ∀ i, i < R -> ∀ j, j < C -> OkR (M i j + by') := fun i hi j hj => y1k (dA i hi j hj) (by omega) (by omega)
 have hout : z6m fuel ga = some (mt R C (fun i j => M i j + by'), 0) := by
  rcases wh1 (by omega) (by omega) a2 (fun i hi j hj => z7v (by omega) (dA i hi j hj)) with ⟨⟨i, j, hi, hj, hn⟩, _⟩ | ⟨_, h⟩
  ·exact absurd (okA i hi j hj) hn
  ·exact h
 have hbs : ∀ i, i < R -> (List.replicate R (1 : Rat)).getD i 0 = 1 := fun i hi => w2c hi
 have hcs : ∀ j, j < C -> (List.replicate C (1 : Rat)).getD j 0 = 1 := fun j hj => w2c hj
 have hcc : ∀ k, cst C (fun j => (List.replicate C (1 : Rat)).getD j 0) k = 0 \/ cst C (fun j => (List.replicate C (1 : Rat)).getD j 0) k = 1 \/ cst C (fun j => (List.replicate C (1 : Rat)).getD j 0) k = -1 := fun k => by
  unfold cst
  by_cases e : k < C
  ·rw [if_pos e]; exact .inr (.inl (hcs k e))
  ·rw [if_neg e]; exact .inl rfl
 have hcxx : ∀ k, cx R C k = 0 \/ cx R C k = 1 \/ cx R C k = -1 := fun k => by
  unfold cx
  by_cases e : k = C + R
  ·rw [if_pos e]; exact .inr (.inr rfl)
  ·rw [if_neg e]; exact .inl rfl
 have hδ : ∀ i, i < R + 1 -> (if i < R then D else 1) ≠ 0 := fun i _ => by
  by_cases e : i < R
  ·rw [if_pos e]; exact hD
  ·rw [if_neg e]; decide
 have hbound := w88 hR hD2 hK
 have ec := w63 hD hbs zA hcc
 have ex := w63 hD hbs zA hcxx
 have hgc := w6b hδ (by decide) ec hbound
 have hgx := w6b hδ (by decide) ex hbound
 have hcom := ww2 hδ (by decide) ec hbound
 have hT0 : ∀ r, r < R -> ∀ s, s < C + R + 2 -> Dr K (lpM R C (fun i j => M i j + by') (fun j => (List.replicate R (1 : Rat)).getD j 0) r s) := fun r hr s hs => by
  have := ex r (by omega) s (by omega)
  unfold gM at this
  rw [if_pos hr, if_pos hr, if_pos hs] at this
  exact z7v (by omega) (toDr this.1 this.2)
 have hTm : Txt (mt R C fun i j => M i j + by') R C (fun i j => M i j + by') := wk3 okA
 have hsc := v1z (bs := List.replicate R 1) (cs := List.replicate C 1) (by omega) (by omega) hTm hR0 List.length_replicate List.length_replicate yz0 yz0
 obtain ⟨out, u1, u2⟩ := wj3 (K := K) (by omega) (by omega) (m := R) (n := C) (by omega) (by omega) hTm List.length_replicate List.length_replicate yz0 yz0 hT0 (fun i hi => by rw [hcs i hi]; exact z7v (by omega) d1) hgc hgx hsc
 unfold z6k
 rw [hck, Option.bind_some, if_neg (by decide), g1]
 dsimp only
 rw [i1, Option.bind_some, if_pos (show (0 : Int) < ((g.length : Nat) : Int) by omega), if_pos (show (0 : Int) < (((g.getD 0 ([] : List Qd)).length : Nat) : Int) by omega), k1]
 dsimp only
 rw [b1, Option.bind_some, a1]
 dsimp only
 rw [hout, Option.bind_some, if_neg (show ¬ ((0 : Int) != 0) = true by decide), if_pos (by omega), la, wu4 (by omega), Option.bind_some, l0, wu4 (by omega), Option.bind_some, wu5, wu5, u1, Option.bind_some]
 rcases u2 with ⟨β, T, h1, h2, h3, h4, rfl⟩ | ⟨y, h1, h2, h3, rfl⟩ | ⟨x, z, h1, h2, h3, h4, h5, rfl⟩
 ·have hdr := h1.dr hgc
  obtain ⟨D0, D1, D2, D3⟩ := h1.com hcom
  have hinj : ∀ i j, i < R -> j < R -> β i = β j -> i = j := fun i j hi hj e => h1.bas.inj hi hj e
  obtain ⟨y1, y2, y3, y4⟩ := wf4 h1 h3 h4
  have x1 := wf6 h1 h3 h2
  have x0 := ym9 (m := R) (β := β) (T := T) (s := C + R + 1) h2
  have e3 : fs (xv R β T (C + R + 1)) C = T R (C + R + 1) := by
   rw [<- y3]; exact z1h fun j hj => by rw [hcs j hj]; grind
  have e4 : fs (fun j => T R (C + j)) R = T R (C + R + 1) := by
   rw [<- y4]; exact z1h fun j hj => by rw [hbs j hj]; grind
  obtain ⟨hv, hE⟩ := wz2 (M := M) (b := by') (v := T R (C + R + 1)) hC0 (fun j _ => x0 j) y1 (fun i hi => by have := x1 i hi; rw [hbs i hi] at this; exact this) (fun j hj => by have := y2 j hj; rw [hcs j hj] at this; exact this) e3 e4
  have hv0 : T R (C + R + 1) ≠ 0 := by grind
  obtain ⟨D', E1, E2, E3⟩ := (D3 R (by omega) (C + R + 1) (by omega)).div D1 hv0
  have fx : ∀ j, Fr K D0 (xv R β T (C + R + 1) j) := fun j => by
   rcases w7i (T := T) (s := C + R + 1) (v := j) hinj R (Nat.le_refl _) with ⟨_, h⟩ | ⟨i, hi, _, h⟩
   ·rw [h]; exact Fr.zero
   ·rw [h]; exact D3 i (by omega) _ (by omega)
  have ediv : ∀ r : Rat, r * (1 / T R (C + R + 1)) = r / T R (C + R + 1) := fun r => by rw [Rat.div_def, Rat.div_def, Rat.one_mul]
  have fp : ∀ i, i < R -> Fr K D' (T R (C + i) * (1 / T R (C + R + 1))) := fun i hi => by rw [ediv]; exact E3 _ (D3 R (by omega) _ (by omega))
  have fq : ∀ j, j < C -> Fr K D' (xv R β T (C + R + 1) j * (1 / T R (C + R + 1))) := fun j _ => by rw [ediv]; exact E3 _ (fx j)
  have dv := hdr R (by omega) (C + R + 1) (by omega)
  have dw : Dr K (1 / T R (C + R + 1)) := by
   rw [Rat.div_def, Rat.one_mul]; exact ws5 dv hv0
  obtain ⟨qv, v1, v2⟩ := w1l (y1k dv (by omega) (by omega))
  obtain ⟨qw, w1, w2⟩ := yl3 i2 v2 d1 dv (by omega) hv0
  obtain ⟨lp, p1, p2⟩ := y97 (n := R) (x := fun j => T R (C + j)) (by omega) (fun j hj => z7v (by omega) (hdr R (by omega) _ (by omega))) w2 (z7v (by omega) dw) fuel 0 [] (by omega) (by omega) ⟨rfl, fun i hi => by omega⟩
  obtain ⟨lq, q1, q2⟩ := y97 (n := C) (x := xv R β T (C + R + 1)) (by omega) (fun j hj => (z7v (by omega) ((fx j).dr D1 D2))) w2 (z7v (by omega) dw) fuel 0 [] (by omega) (by omega) ⟨rfl, fun i hi => by omega⟩
  have p1 : z0y fuel (xt R fun j => T R (C + j)) ((xt R fun j => T R (C + j)).length : Int) 0 qw.1 qw.2.1 qw.2.2 [] = some (.exit (lp, qw.1, qw.2.1, qw.2.2, ())) := by rw [ym8]; exact p1
  have q1 : z0y fuel (xt C (xv R β T (C + R + 1))) ((xt C (xv R β T (C + R + 1))).length : Int) 0 qw.1 qw.2.1 qw.2.2 [] = some (.exit (lq, qw.1, qw.2.1, qw.2.2, ())) := by rw [ym8]; exact q1
  obtain ⟨qV, V1, V2⟩ := y3h w2 b2 dw dby (by omega)
  have V1 : z4b fuel (qw.1, (qw.2.1, qw.2.2)) (qb.1, (qb.2.1, qb.2.2)) = some qV := V1
  have dV : Dr (K + e + 29) (1 / T R (C + R + 1) - by') := z7v (by omega) (wb7 dw dby2)
  have hTold : z8g fuel qV = some (rt (1 / T R (C + R + 1) - by'), 0) := by
   unfold z8g
   rw [y8r V2 dV (by omega), if_pos (y1k dV (by omega) (by omega)), Option.bind_some, if_neg (by decide), w24 V2 dV (by omega), Option.bind_some]
  refine ⟨_, _, _, D', hE, ?_, dV, E1, E2, fp, fq⟩
  rw [if_neg (show ¬ ((0 : Int) != 0) = true by decide)]
  dsimp only
  rw [Option.bind_some, v1, Option.bind_some, w1, Option.bind_some, p1]
  dsimp only
  rw [y5a (K := K) p2 (by omega) (by omega) (by omega) (fun i hi => (fp i hi).dr E1 E2), Option.bind_some, if_neg (show ¬ ((0 : Int) != 0) = true by decide)]
  dsimp only
  rw [q1]
  dsimp only
  rw [y5a (K := K) q2 (by omega) (by omega) (by omega) (fun i hi => (fq i hi).dr E1 E2), Option.bind_some, if_neg (show ¬ ((0 : Int) != 0) = true by decide)]
  dsimp only
  rw [V1, Option.bind_some, hTold, Option.bind_some, if_neg (show ¬ ((0 : Int) != 0) = true by decide)]
 ·exfalso
  have e : fs (fun j => y j * (List.replicate R (1 : Rat)).getD j 0) R = fs y R := z1h fun j hj => by rw [hbs j hj]; grind
  rw [e] at h3
  have := zj7 (n := R) (f := y) fun i hi => (h1 i hi).2
  grind
 ·exfalso
  have e : fs (fun j => (List.replicate C (1 : Rat)).getD j 0 * z j) C = fs z C := z1h fun j hj => by rw [hcs j hj]; grind
  rw [e] at h5
  have h6 : fs z C <= fs (fun k => (M 0 k + by') * z k) C := wo2 fun k hk => by
   have a1 := k3 0 k hR0 hk trivial
   have a2 := (h2 k hk).2
   have a3 : 1 <= M 0 k + by' := by rw [<- hby]; grind
   have := Rat.mul_le_mul_of_nonneg_right a3 a2
   rw [Rat.one_mul] at this
   exact this
  have h7 := h4 0 hR0
  grind
end Go.Proofs.YtcdcoeofhnfjdabGreatDoor
namespace Go.Proofs.YtcdcoeofhnfjdabGreatDoor
open Go Vm
theorem yd0 : z5l fuel = some true := by kernel_rfl
theorem wj2q (e0 : Nat) (he0 : 300 <= e0) {R C : Nat} (hR : R <= 5) (hC : C <= 5) {M : Nat -> Nat -> Rat} (h : ∀ i, i < R -> ∀ j, j < C -> Dr 12 (M i j)) : ∃ D, D ≠ 0 /\ D <= 10 ^ e0 /\ ∀ i, i < R -> ∀ j, j < C -> Zd D (M i j) /\ Ab (10 ^ 26) (M i j) := by
 have h1 : ∀ i, i < R -> pd (fun j => (M i j).den) C ≠ 0 := fun i _ => w4v fun j _ => (M i j).den_nz
 have h2 : ∀ i, i < R -> pd (fun j => (M i j).den) C <= 10 ^ (12 * C) := fun i hi => wz8 fun j hj => Nat.le_of_lt (h i hi j hj).2
 refine ⟨pd (fun i => pd (fun j => (M i j).den) C) R, w4v h1, ?_, fun i hi j hj => ⟨?_, ?_⟩⟩
 ·have := wz8 h2
  refine Nat.le_trans this (Nat.pow_le_pow_right (by decide) ?_)
  have : 12 * C * R <= 12 * 5 * 5 := Nat.mul_le_mul (Nat.mul_le_mul_left _ hC) hR
  omega
 ·obtain ⟨e, e1, he⟩ := wh6 hi h1
  obtain ⟨e', e0', he'⟩ := wh6 (δ := fun j => (M i j).den) hj fun j _ => (M i j).den_nz
  rw [he, he']
  exact ((Zd.den (M i j)).more e0').more e1
 ·exact (Ab.of_dr (h i hi j hj)).mono (Nat.pow_le_pow_right (by decide) (by decide))
theorem wj2 {R C : Nat} (hR : R <= 5) (hC : C <= 5) {M : Nat -> Nat -> Rat} (h : ∀ i, i < R -> ∀ j, j < C -> Dr 12 (M i j)) : ∃ D, D ≠ 0 /\ D <= 10 ^ 300 /\ ∀ i, i < R -> ∀ j, j < C -> Zd D (M i j) /\ Ab (10 ^ 26) (M i j) := wj2q 300 (Nat.le_refl _) hR hC h
end Go.Proofs.YtcdcoeofhnfjdabGreatDoor
namespace Go.Proofs.YtcdcoeofhnfjdabGreatDoor
open Go Vm
theorem v1i : z3v fuel [0, 0] = some true := by kernel_rfl
theorem v1j : z3v fuel [0, 0, 0, 0] = some true := by kernel_rfl
theorem wo5 {rs : List Rat} {i : Nat} (hi : i < rs.length) {d : ByteArray} : (rs.map rt).getD i d = rt (rs.getD i 0) := by
 rw [List.getD_eq_getElem?_getD, List.getD_eq_getElem?_getD, List.getElem?_map, List.getElem?_eq_getElem hi]; rfl
theorem yt4 {C : Nat} (hC : C <= 100) {f : Nat -> Rat} {b u : Rat} (hf : ∀ j, j < C -> OkR (f j)) (hb : OkR b) (hu : OkR u) (h1 : ∀ j, j < C -> OkR (f j * b)) (h2 : ∀ j, j < C -> OkR (f j * b + u)) : ∀ (m i : Nat), i <= C -> C < m + i ->
  z2y m (rt b) (rt u) (((List.range C).map f).map rt) (C : Int) (i : Int) (((List.range i).map fun j => f j * b + u).map rt) = some (.exit (((List.range C).map fun j => f j * b + u).map rt, ()))
 | 0, i, h3, h4 => by omega
 | m + 1, i, h3, h4 => by
  have ll : (((List.range i).map fun j => f j * b + u).map rt).length = i := by rw [List.length_map, List.length_map, List.length_range]
  have l2 : ((List.range C).map f).length = C := by rw [List.length_map, List.length_range]
  have l3 : (((List.range C).map f).map rt).length = C := by rw [List.length_map, l2]
  simp only [z2y]
  by_cases hi : i < C
  ·have e4 : IntKind.i64.wrap ((i : Int) + 1) = ((i + 1 : Nat) : Int) := by rw [w64 _ (by omega) (by omega)]; omega
   have e5 : (((List.range i).map fun j => f j * b + u).map rt) ++ [rt (f i * b + u)] = ((List.range (i + 1)).map fun j => f j * b + u).map rt := by
    rw [List.range_succ, List.map_append, List.map_append]; rfl
   rw [if_pos (by simpa using hi), if_pos (by omega), if_pos (by omega), Int.toNat_natCast, wo5 (by omega), z8s hi, v02 (hf i hi) hb (h1 i hi), Option.bind_some]
   dsimp only
   rw [v01 (h1 i hi) hu (h2 i hi), Option.bind_some]
   dsimp only
   rw [v1i, Option.bind_some, if_neg (by decide), if_pos (by omega), e4, e5]
   exact yt4 hC hf hb hu h1 h2 m (i + 1) (by omega) (by omega)
  ·rw [if_neg (by simpa using hi)]
   have : i = C := by omega
   subst this
   rfl
theorem yl6 {a : List (List ByteArray)} {R C : Nat} {M : Nat -> Nat -> Rat} (hR : R <= 100) (hC : C <= 100) (ha : Txt a R C M) {b u : Rat} (hb : OkR b) (hu : OkR u) (h1 : ∀ i, i < R -> ∀ j, j < C -> OkR (M i j * b)) (h2 : ∀ i, i < R -> ∀ j, j < C -> OkR (M i j * b + u)) : ∀ (m i : Nat), i <= R -> R + 1000 < m + i ->
  z2x m (rt b) (rt u) a (R : Int) (i : Int) (mt i C fun i j => M i j * b + u) = some (.exit (mt R C fun i j => M i j * b + u, ()))
 | 0, i, h3, h4 => by omega
 | m + 1, i, h3, h4 => by
  have la := ha.1
  have ll := y3c i C (fun i j => M i j * b + u)
  simp only [z2x]
  by_cases hi : i < R
  ·have e4 : IntKind.i64.wrap ((i : Int) + 1) = ((i + 1 : Nat) : Int) := by rw [w64 _ (by omega) (by omega)]; omega
   obtain ⟨r1, r2⟩ := ha.2 i hi
   have l3 : (((List.range C).map (M i)).map rt).length = C := by rw [List.length_map, List.length_map, List.length_range]
   have k := yt4 hC r2 hb hu (h1 i hi) (h2 i hi) m 0 (by omega) (by omega)
   have k : z2y m (rt b) (rt u) (((List.range C).map (M i)).map rt) (C : Int) 0 [] = some (.exit (((List.range C).map fun j => M i j * b + u).map rt, ())) := k
   have e5 : mt i C (fun i j => M i j * b + u) ++ [(((List.range C).map fun j => M i j * b + u).map rt)] = mt (i + 1) C fun i j => M i j * b + u := by
    unfold mt
    rw [List.range_succ, List.map_append]
    rfl
   rw [if_pos (by simpa using hi), if_pos (by omega), if_pos (by omega), Int.toNat_natCast, r1, l3, k]
   dsimp only
   rw [if_pos (by omega), e4, e5]
   exact yl6 hR hC ha hb hu h1 h2 m (i + 1) (by omega) (by omega)
  ·rw [if_neg (by simpa using hi)]
   have : i = R := by omega
   subst this
   rfl
theorem w8x {a : List (List ByteArray)} {R C : Nat} {M : Nat -> Nat -> Rat} (hR : R <= 100) (hC : C <= 100) (ha : Txt a R C M) {b u : Rat} (hb : OkR b) (hu : OkR u) (h1 : ∀ i, i < R -> ∀ j, j < C -> OkR (M i j * b)) (h2 : ∀ i, i < R -> ∀ j, j < C -> OkR (M i j * b + u)) :
  z55 fuel a (rt b) (rt u) = some (mt R C (fun i j => M i j * b + u), true) := by
 have hf := z82 (n := 2 ^ 100) (by decide)
 have h := yl6 hR hC ha hb hu h1 h2 fuel 0 (by omega) (by omega)
 have h : z2x fuel (rt b) (rt u) a (R : Int) 0 [] = _ := h
 unfold z55
 rw [ha.1, h]
theorem wd7 {a : List (List ByteArray)} {R C : Nat} {M : Nat -> Nat -> Rat} (hR0 : 0 < R) (hR : R <= 12) (hC0 : 0 < C) (hC : C <= 12) (ha : Txt a R C M) : z2f fuel a = some 0 := by
 have la := ha.1
 have l0 : (a.getD 0 []).length = C := by rw [(ha.2 0 hR0).1, List.length_map, List.length_map, List.length_range]
 unfold z2f
 rw [if_neg (by rw [decide_eq_true_eq]; omega), yk4 ha (by omega) (by omega), Option.bind_some, if_neg (by decide), ym5 ha (by omega), Option.bind_some, if_neg (by rw [beq_iff_eq]; omega), if_pos (by omega), if_neg (by rw [decide_eq_true_eq]; omega)]
theorem Eqm.turn {R C : Nat} {M : Nat -> Nat -> Rat} {p q : Nat -> Rat} {V : Rat} (h : Eqm R C M p q V) : Eqm C R (fun i j => M j i * (-1) + 0) q p (-V) := by
 obtain ⟨h1, h2, h3, h4, h5, h6⟩ := h
 refine ⟨h2, h1, h4, h3, fun i hi => ?_, fun j hj => ?_⟩
 ·have e : fs (fun j => (M j i * (-1) + 0) * p j) R = -(fs (fun j => p j * M j i) R) := by
   rw [<- yj0]; exact z1h fun j _ => by grind
  rw [e]; have := h6 i hi; grind
 ·have e : fs (fun i => q i * (M j i * (-1) + 0)) C = -(fs (fun i => M j i * q i) C) := by
   rw [<- yj0]; exact z1h fun i _ => by grind
  rw [e]; have := h5 j hj; grind
theorem Eqm.shift {R C : Nat} {M : Nat -> Nat -> Rat} {p q : Nat -> Rat} {V b u : Rat} (hb : 0 <= b) (h : Eqm R C M p q V) : Eqm R C (fun i j => M i j * b + u) p q (V * b + u) := by
 obtain ⟨h1, h2, h3, h4, h5, h6⟩ := h
 refine ⟨h1, h2, h3, h4, fun i hi => ?_, fun j hj => ?_⟩
 ·have e : fs (fun j => (M i j * b + u) * q j) C = fs (fun j => M i j * q j) C * b + u := by
   have e1 : fs (fun j => (M i j * b + u) * q j) C = fs (fun j => M i j * q j * b + u * q j) C := z1h fun j _ => by grind
   rw [e1, ya2, za1, z9d, h4]; grind
  rw [e]; have := Rat.mul_le_mul_of_nonneg_right (h5 i hi) hb; grind
 ·have e : fs (fun i => p i * (M i j * b + u)) R = fs (fun i => p i * M i j) R * b + u := by
   have e1 : fs (fun i => p i * (M i j * b + u)) R = fs (fun i => p i * M i j * b + u * p i) R := z1h fun i _ => by grind
   rw [e1, ya2, za1, z9d, h3]; grind
  rw [e]; have := Rat.mul_le_mul_of_nonneg_right (h6 j hj) hb; grind
theorem v34 : (⟨#[45, 49]⟩ : ByteArray) = rt (-1) := by
 have h : dt 1 = [49] := by
  unfold dt dig
  rw [if_neg (by decide), y2l (by decide), show 1 / 10 = 0 from rfl, zi3]; rfl
 have e : rtb (-1) = [45, 49] := by
  show (if ((-1 : Int)) < 0 then [45] else []) ++ (dt 1 ++ (if 1 = 1 then [] else 47 :: dt 1)) = [45, 49]
  rw [h]; rfl
 unfold rt
 rw [e]
 rfl
theorem v1s : OkR (-1) := y1k wb5 (by decide) (by decide)
theorem v2u : OkR 0 := y1k (k := 1) (y5q (by decide)) (by decide) (by decide)
theorem w5e (a : List (List ByteArray)) (ha : WM a) : z3j fuel a = some true := by
 unfold z3j
 rw [yd0, Option.bind_some, if_neg (by decide)]
 obtain ⟨r, hr, hs⟩ := w90 (l := [a]) (by simp) (fun v hv => by rw [List.mem_singleton] at hv; subst hv; exact ha) 5
 have hr : z4j fuel 5 [a] = some r := hr
 rw [hr, Option.bind_some]
 cases r with
 | false => rw [if_neg (by decide)]
 | true =>
  have s1 := hs rfl a (by simp)
  rw [if_pos (by decide)]
  rcases w4g ha with ⟨e, e0, h⟩ | ⟨h, R, C, M, hR0, _, hC0, _, hC, hT⟩
  ·rw [h, Option.bind_some, if_pos (by simpa using e0)]
  ·have hR : R <= 5 := by rw [<- hT.1]; exact s1.1
   have hC5 : C <= 5 := by rw [<- hC]; exact (s1.2 0 (by rw [hT.1]; exact hR0)).1
   have dA := v37 hT s1
   obtain ⟨D, D1, D2, D3⟩ := wj2 hR hC5 dA
   obtain ⟨p, q, V, D', hE, g1, dV, _⟩ := wd5 300 1666 hR0 hR hC0 hC5 hT D1 D2 (by omega) (by omega) D3 h
   have hV := y1k dV (by decide) (by decide)
   have t1 := wr3 hT (by omega) (by omega) (by omega)
   have okT : ∀ i, i < C -> ∀ j, j < R -> OkR (M j i) := fun i hi j hj => (hT.2 j hj).2 i hi
   have okW : ∀ i, i < C -> ∀ j, j < R -> OkR (M j i * (-1) + 0) := fun i hi j hj => by
    have e : M j i * (-1) + 0 = -(M j i) := by grind
    rw [e]; exact wg9 (okT i hi j hj)
   have okW1 : ∀ i, i < C -> ∀ j, j < R -> OkR (M j i * (-1)) := fun i hi j hj => by
    have e : M j i * (-1) = -(M j i) := by grind
    rw [e]; exact wg9 (okT i hi j hj)
   have hTt : Txt (mt C R fun i j => M j i) C R (fun i j => M j i) := wk3 okT
   have t2 := w8x (b := -1) (u := 0) (by omega) (by omega) hTt v1s v2u okW1 okW
   have hTw : Txt (mt C R fun i j => M j i * (-1) + 0) C R (fun i j => M j i * (-1) + 0) := wk3 okW
   obtain ⟨p', q', V', D'', hE', g2, _⟩ := wd5 300 1666 hC0 hC5 hR0 hR hTw D1 D2 (by omega) (by omega) (fun i hi j hj => by
     have e : M j i * (-1) + 0 = -(M j i) := by grind
     rw [e]
     exact ⟨(D3 j hj i hi).1.neg, (D3 j hj i hi).2.neg⟩) (wd7 hC0 (by omega) hR0 (by omega) hTw)
   have hVV : V' = -V := hE'.uniq hE.turn
   rw [h, Option.bind_some, if_neg (by decide), t1, Option.bind_some, v34, v06]
   dsimp only
   rw [t2, Option.bind_some, g1, Option.bind_some]
   dsimp only
   rw [g2, Option.bind_some, v03 hV, Option.bind_some, if_pos rfl, v1j, Option.bind_some, if_pos rfl, hVV]
   simp
theorem matgameTurns_plain : ∀ x : List (List ByteArray), WfL [.slice (.slice .str)] x -> z3j fuel x = some true := fun x h => w5e x (v3a h)
end Go.Proofs.YtcdcoeofhnfjdabGreatDoor
