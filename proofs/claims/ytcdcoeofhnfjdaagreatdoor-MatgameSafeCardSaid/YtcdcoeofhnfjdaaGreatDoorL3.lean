/- What the pure functions of this claim compute, and what follows from it: part 3. -/
import Derived.Test.YtcdcoeofhnfjdaaGreatDoorL2
set_option maxHeartbeats 1000000
set_option linter.unusedVariables false
namespace Go.Proofs.YtcdcoeofhnfjdaaGreatDoor
open Go Vm
theorem v0c {us vs : List Rat} {n : Nat} (hn : n <= 40) (hu : us.length = n) (hv : vs.length = n) (ho : ∀ r, r ∈ us -> OkR r) (ho' : ∀ r, r ∈ vs -> OkR r) (h : OkR (fs (fun j => us.getD j 0 * vs.getD j 0) n)) : z7p fuel (us.map rt) (vs.map rt) = some (rt (fs (fun j => us.getD j 0 * vs.getD j 0) n), 0) := by
 obtain ⟨qu, a1, a2⟩ := y2y us (by omega) ho
 obtain ⟨qv, b1, b2⟩ := y2y vs (by omega) ho'
 have a3 := QF.of a2
 have b3 := QF.of b2
 rw [hu] at a3
 rw [hv] at b3
 have du : ∀ i, i < n -> Dr 2000 (us.getD i 0) := fun i hi => zl8 (w1e ho (by omega))
 have dv : ∀ i, i < n -> Dr 2000 (vs.getD i 0) := fun i hi => zl8 (w1e ho' (by omega))
 obtain ⟨q, c1, c2⟩ := y8h hn a3 b3 du dv
 have dd := v0n hn du dv
 unfold z7p
 rw [zf1 (by omega) ho, Option.bind_some, if_neg (by decide), zf1 (by omega) ho', Option.bind_some, if_neg (by decide), if_neg (by rw [bne_iff_ne, List.length_map, List.length_map, hu, hv]; simp), a1, Option.bind_some, b1, Option.bind_some, c1, Option.bind_some, y0q c2 dd (by omega), if_pos h, Option.bind_some, if_neg (by decide), w1g c2 dd (by omega), Option.bind_some]
theorem wv2 {rs : List Rat} {i : Nat} (hi : i < rs.length) {d : ByteArray} : (rs.map rt).getD i d = rt (rs.getD i 0) := by
 rw [List.getD_eq_getElem?_getD, List.getD_eq_getElem?_getD, List.getElem?_map, List.getElem?_eq_getElem hi]; rfl
end Go.Proofs.YtcdcoeofhnfjdaaGreatDoor
namespace Go.Proofs.YtcdcoeofhnfjdaaGreatDoor
open Go Vm
def Fr (K D : Nat) (r : Rat) : Prop := ∃ z : Int, z.natAbs < 10 ^ K /\ r = mkRat z D
theorem Fr.dr {K D : Nat} (hD : D ≠ 0) (hK : D < 10 ^ K) {r : Rat} (h : Fr K D r) : Dr K r := by
 obtain ⟨z, h1, rfl⟩ := h
 exact wt7 hD h1 hK
theorem Fr.zero {K D : Nat} : Fr K D 0 := ⟨0, Nat.pow_pos (by decide), by rw [Rat.zero_mkRat]⟩
theorem wx2 {P B e : Nat} (hP : P ≠ 0) {b : Rat} (hb : Zd P b) (hB : Ab B b) (h0 : b ≠ 0) (he : B * P < 10 ^ e) : ∃ D, D ≠ 0 /\ D < 10 ^ e /\ ∀ a, Zd P a -> Ab B a -> Fr e D (a / b) := by
 obtain ⟨z2, rfl⟩ := hb
 have n2 := yb6 hP hB
 have hz2 : z2 ≠ 0 := fun h => h0 (by rw [h, Rat.zero_mkRat])
 refine ⟨z2.natAbs, by omega, by omega, fun a ha hA => ?_⟩
 obtain ⟨z1, rfl⟩ := ha
 have n1 := yb6 hP hA
 have e1 : mkRat z1 P / mkRat z2 P = mkRat (z1 * z2.sign) z2.natAbs := by
  have h1 : mkRat (z1 * z2.sign) z2.natAbs * mkRat z2 P = mkRat z1 P := by
   rw [Rat.mkRat_mul_mkRat]
   have : z1 * z2.sign * z2 = z1 * (z2.natAbs : Int) := by
    rw [Int.mul_assoc, Int.mul_comm z2.sign, Int.mul_sign_self]
   rw [this, Nat.mul_comm, Rat.mkRat_mul_right (by omega)]
  rw [<- h1, Rat.div_def, Rat.mul_assoc, Rat.mul_inv_cancel _ h0, Rat.mul_one]
 have hs : (z1 * z2.sign).natAbs <= z1.natAbs := by
  rw [Int.natAbs_mul]
  have : z2.sign.natAbs <= 1 := by rw [Int.natAbs_sign_of_ne_zero hz2]; exact Nat.le_refl _
  exact Nat.le_trans (Nat.mul_le_mul_left _ this) (by rw [Nat.mul_one]; exact Nat.le_refl _)
 exact ⟨z1 * z2.sign, by omega, e1⟩
theorem Fr.div {K D : Nat} (hD : D ≠ 0) {v : Rat} (hv : Fr K D v) (h0 : v ≠ 0) : ∃ D', D' ≠ 0 /\ D' < 10 ^ K /\ ∀ r, Fr K D r -> Fr K D' (r / v) := by
 obtain ⟨z2, h2, rfl⟩ := hv
 have hz2 : z2 ≠ 0 := fun h => h0 (by rw [h, Rat.zero_mkRat])
 refine ⟨z2.natAbs, by omega, h2, fun r hr => ?_⟩
 obtain ⟨z1, h1, rfl⟩ := hr
 have e1 : mkRat z1 D / mkRat z2 D = mkRat (z1 * z2.sign) z2.natAbs := by
  have h1 : mkRat (z1 * z2.sign) z2.natAbs * mkRat z2 D = mkRat z1 D := by
   rw [Rat.mkRat_mul_mkRat]
   have : z1 * z2.sign * z2 = z1 * (z2.natAbs : Int) := by
    rw [Int.mul_assoc, Int.mul_comm z2.sign, Int.mul_sign_self]
   rw [this, Nat.mul_comm, Rat.mkRat_mul_right (by omega)]
  rw [<- h1, Rat.div_def, Rat.mul_assoc, Rat.mul_inv_cancel _ h0, Rat.mul_one]
 have hs : (z1 * z2.sign).natAbs <= z1.natAbs := by
  rw [Int.natAbs_mul]
  have : z2.sign.natAbs <= 1 := by rw [Int.natAbs_sign_of_ne_zero hz2]; exact Nat.le_refl _
  exact Nat.le_trans (Nat.mul_le_mul_left _ this) (by rw [Nat.mul_one]; exact Nat.le_refl _)
 exact ⟨z1 * z2.sign, by omega, e1⟩
theorem Fr.sum {K D : Nat} (hD : D ≠ 0) {f : Nat -> Rat} : ∀ n : Nat, (∀ i, i < n -> Fr K D (f i)) -> ∃ z : Int, z.natAbs <= n * 10 ^ K /\ fs f n = mkRat z D
 | 0, _ => ⟨0, by simp, by rw [Rat.zero_mkRat]; rfl⟩
 | n + 1, h => by
  obtain ⟨z, h1, h2⟩ := Fr.sum hD n fun i hi => h i (by omega)
  obtain ⟨y, h3, h4⟩ := h n (by omega)
  refine ⟨z + y, ?_, ?_⟩
  ·have := Int.natAbs_add_le z y
   rw [Nat.succ_mul]; omega
  ·rw [fs, h2, h4]
   have := Rat.mkRat_add_mkRat z y hD hD
   rw [this, <- Int.add_mul, Rat.mkRat_mul_right hD]
def Com (m N K : Nat) (M : Nat -> Nat -> Rat) : Prop := ∀ B T, Bas m N M B T -> Cls m N M B -> ∃ D, D ≠ 0 /\ D < 10 ^ K /\ ∀ r, r < m -> ∀ c, c < N -> Fr K D (T r c)
theorem wt1 {m N K β : Nat} {δ : Nat -> Nat} {M : Nat -> Nat -> Rat} (hδ : ∀ i, i < m -> δ i ≠ 0) (hβ : 1 <= β) (ent : ∀ i, i < m -> ∀ c, c < N -> Zd (δ i) (M i c) /\ Ab β (M i c)) (hx : fc m * β ^ m * pd δ m < 10 ^ K) : Com m N K M := by
 intro B T hB hC
 have hP := w4a hδ
 have a1 : Ab β 1 := by
  have h : Ab 1 1 := ⟨Rat.le_refl, by decide⟩
  exact h.mono hβ
 have entB : ∀ i, i < m -> ∀ q, q < m -> Zd (δ i) (B i q) /\ Ab β (B i q) := fun i hi q hq => by
  rcases hC q hq with ⟨c, hc, h1⟩ | ⟨c, h1⟩
  ·rw [h1 i]; exact ent i hi c hc
  ·rw [h1 i]
   split
   ·exact ⟨Zd.one _ (hδ i hi), a1⟩
   ·exact ⟨Zd.zero, Ab.zero _⟩
 obtain ⟨d1, d2⟩ := yf2 (M := B) hδ entB
 obtain ⟨D, h1, h2, h3⟩ := wx2 hP d1 d2 hB.nz hx
 refine ⟨D, h1, h2, fun r hr c hc => ?_⟩
 rw [hB.elem hr hc]
 obtain ⟨n1, n2⟩ := yf2 (M := upd r (fun i => M i c) B) hδ fun i hi q hq => by
  unfold upd
  split
  ·exact ent i hi c hc
  ·exact entB i hi q hq
 exact h3 _ n1 n2
theorem Tab.com {m n N K : Nat} {M : Nat -> Nat -> Rat} {c : Nat -> Rat} {β : Nat -> Nat} {T : Nat -> Nat -> Rat} (h : Tab m n N M c β T) (hg : Com (m + 1) (N + 1) K (gM m N M c)) : ∃ D, D ≠ 0 /\ D < 10 ^ K /\ ∀ r, r < m + 1 -> ∀ k, k < N -> Fr K D (T r k) := by
 obtain ⟨D, h1, h2, h3⟩ := hg _ _ h.big fun q hq => .inl ⟨gβ m N β q, by
   unfold gβ
   split
   · have := h.lt q (by assumption); omega
   · omega, fun _ => rfl⟩
 refine ⟨D, h1, h2, fun r hr k hk => ?_⟩
 have := h3 r hr k (by omega)
 unfold gT at this
 rwa [if_pos hk] at this
theorem wf0 {D : Nat} : ∀ R : Nat, pd (fun i => if i < R then D else 1) (R + 1) = D ^ R
 | 0 => by rw [pd, pd]; rfl
 | R + 1 => by
  rw [pd, if_pos (by omega)]
  have : (fun i => if i + 1 < R + 1 then D else 1) = fun i => if i < R then D else 1 := by
   funext i
   by_cases h : i < R
   ·rw [if_pos h, if_pos (by omega)]
   ·rw [if_neg h, if_neg (by omega)]
  rw [this, wf0 R, Nat.pow_succ, Nat.mul_comm]
end Go.Proofs.YtcdcoeofhnfjdaaGreatDoor
namespace Go.Proofs.YtcdcoeofhnfjdaaGreatDoor
open Go Vm
theorem w5x {a : List (List ByteArray)} {R C : Nat} {M : Nat -> Nat -> Rat} (h : Txt a R C M) (hR : R <= 100) (hC : C <= 100) : ∀ (m i : Nat) (g : List (List Qd)), i <= R -> R < m + i -> QG i C M g ->
  ∃ g', z2b m a (R : Int) (i : Int) g = some (.exit (g', ())) /\ QG R C M g'
 | 0, i, g, h1, h2, _ => by omega
 | m + 1, i, g, h1, h2, hg => by
  have hl := h.1
  simp only [z2b]
  by_cases hi : i < R
  ·have e4 : IntKind.i64.wrap ((i : Int) + 1) = ((i + 1 : Nat) : Int) := by rw [w64 _ (by omega) (by omega)]; omega
   obtain ⟨h3, h4⟩ := h.2 i hi
   obtain ⟨qs, gq, hq⟩ := y2y ((List.range C).map (M i)) (by rw [List.length_map, List.length_range]; omega) (fun r hr => by
     obtain ⟨j, hj, rfl⟩ := List.mem_map.1 hr
     exact h4 j (List.mem_range.1 hj))
   have hgl := hg.1
   rw [if_pos (by simpa using hi), if_pos (by omega), if_pos (by omega), Int.toNat_natCast, h3, gq, Option.bind_some, if_pos (by omega), e4]
   refine w5x h hR hC m (i + 1) _ (by omega) (by omega) ⟨by rw [List.length_append, hgl]; rfl, fun k hk => ?_⟩
   by_cases e : k = i
   ·subst e
    rw [y6o hgl.symm]
    have := QF.of hq
    rw [List.length_map, List.length_range] at this
    exact this.ext fun j hj => z5q hj
   ·rw [y2e (by omega)]; exact hg.2 k (by omega)
  ·rw [if_neg (by simpa using hi)]
   have : i = R := by omega
   subst this
   exact ⟨g, rfl, hg⟩
def LE (R C : Nat) (M : Nat -> Nat -> Rat) (q : Qd) (P : Nat -> Nat -> Prop) : Prop := ∃ i0 j0, i0 < R /\ j0 < C /\ QR (M i0 j0) q /\ ∀ i j, i < R -> j < C -> P i j -> M i0 j0 <= M i j
theorem yv2 {R C i : Nat} (hC : C <= 100) (hi : i < R) {M : Nat -> Nat -> Rat} {g : List (List Qd)} (hg : QG R C M g) (hd : ∀ i, i < R -> ∀ j, j < C -> Dr 2000 (M i j)) : ∀ (f j : Nat) (q : Qd), j <= C -> C < f + j -> LE R C M q (fun r s => r < i \/ r = i /\ s < j) ->
  ∃ q', z1d f i (C : Int) (j : Int) q.1 q.2.1 q.2.2 g = some (.exit (q'.1, q'.2.1, q'.2.2, g, ())) /\ LE R C M q' (fun r s => r < i \/ r = i /\ s < C)
 | 0, j, q, h1, h2, _ => by omega
 | f + 1, j, q, h1, h2, hq => by
  have hri := hg.2 i hi
  have li := hri.1
  simp only [z1d]
  by_cases hj : j < C
  ·have e4 : IntKind.i64.wrap ((j : Int) + 1) = ((j + 1 : Nat) : Int) := by rw [w64 _ (by omega) (by omega)]; omega
   obtain ⟨i0, j0, h3, h4, h5, h6⟩ := hq
   have h5' : QR (M i0 j0) (q.1, (q.2.1, q.2.2)) := h5
   rw [if_pos (by simpa using hj), if_pos (by omega), if_pos (show ((j : Nat) : Int) < (((g.getD i ([] : List Qd)).length : Nat) : Int) by omega), Int.toNat_natCast, yw1 (hri.at hj) h5' (hd i hi j hj) (hd i0 h3 j0 h4) (by omega), Option.bind_some, e4]
   by_cases c : M i j < M i0 j0
   ·rw [if_pos (by rw [decide_eq_true_eq]; exact z9h.2 (by grind))]
    refine yv2 hC hi hg hd f (j + 1) ((g.getD i []).getD j (false, ([], []))) (by omega) (by omega) ⟨i, j, hi, hj, hri.at hj, fun r s hr hs hp => ?_⟩
    by_cases e : r = i /\ s = j
    ·rw [e.1, e.2]; exact Rat.le_refl
    ·have := h6 r s hr hs (by omega)
     exact Rat.le_trans (Rat.le_of_lt c) this
   ·rw [if_neg (by rw [decide_eq_true_eq]; exact fun h => c (by have := z9h.1 h; grind))]
    refine yv2 hC hi hg hd f (j + 1) q (by omega) (by omega) ⟨i0, j0, h3, h4, h5, fun r s hr hs hp => ?_⟩
    by_cases e : r = i /\ s = j
    ·rw [e.1, e.2]; grind
    ·exact h6 r s hr hs (by omega)
  ·rw [if_neg (by simpa using hj)]
   have : j = C := by omega
   subst this
   exact ⟨q, rfl, hq⟩
theorem w0z {R C : Nat} (hR : R <= 100) (hC : C <= 100) {M : Nat -> Nat -> Rat} {g : List (List Qd)} (hg : QG R C M g) (hd : ∀ i, i < R -> ∀ j, j < C -> Dr 2000 (M i j)) : ∀ (f i : Nat) (q : Qd), i <= R -> R + 1000 < f + i -> LE R C M q (fun r _ => r < i) ->
  ∃ q', z1s f (R : Int) (i : Int) q.1 q.2.1 q.2.2 g = some (.exit (q'.1, q'.2.1, q'.2.2, g, ())) /\ LE R C M q' (fun _ _ => True)
 | 0, i, q, h1, h2, _ => by omega
 | f + 1, i, q, h1, h2, hq => by
  have lg := hg.1
  simp only [z1s]
  by_cases hi : i < R
  ·have e4 : IntKind.i64.wrap ((i : Int) + 1) = ((i + 1 : Nat) : Int) := by rw [w64 _ (by omega) (by omega)]; omega
   have li := (hg.2 i hi).1
   obtain ⟨i0, j0, h3, h4, h5, h6⟩ := hq
   obtain ⟨q', k1, k2⟩ := yv2 hC hi hg hd f 0 q (by omega) (by omega) ⟨i0, j0, h3, h4, h5, fun r s hr hs hp => h6 r s hr hs (by omega)⟩
   have k1 : z1d f i (((g.getD i ([] : List Qd)).length : Nat) : Int) 0 q.1 q.2.1 q.2.2 g = some (.exit (q'.1, q'.2.1, q'.2.2, g, ())) := by rw [li]; exact k1
   obtain ⟨i0, j0, h3, h4, h5, h6⟩ := k2
   rw [if_pos (by simpa using hi), if_pos (by omega), if_pos (by omega), Int.toNat_natCast, k1]
   dsimp only
   rw [e4]
   exact w0z hR hC hg hd f (i + 1) q' (by omega) (by omega) ⟨i0, j0, h3, h4, h5, fun r s hr hs hp => h6 r s hr hs (by omega)⟩
  ·rw [if_neg (by simpa using hi)]
   have : i = R := by omega
   subst this
   obtain ⟨i0, j0, h3, h4, h5, h6⟩ := hq
   exact ⟨q, rfl, i0, j0, h3, h4, h5, fun r s hr hs _ => h6 r s hr hs hr⟩
def inc (b : Rat) (i c : Nat) (M : Nat -> Nat -> Rat) (r s : Nat) : Rat := if r < i \/ r = i /\ s < c then M r s + b else M r s
theorem wo6 {R C i : Nat} (hR : R <= 100) (hC : C <= 100) (hi : i < R) {M : Nat -> Nat -> Rat} {b : Rat} {q : Qd} (hq : QR b q) (hb : Dr 4000 b) (hd : ∀ i, i < R -> ∀ j, j < C -> Dr 2000 (M i j)) : ∀ (f c : Nat) (g : List (List Qd)), c <= C -> C < f + c -> QG R C (inc b i c M) g ->
  ∃ g', z4o f (i : Int) (C : Int) (c : Int) g q.1 q.2.1 q.2.2 = some (.exit (g', q.1, q.2.1, q.2.2, ())) /\ QG R C (inc b i C M) g'
 | 0, c, g, h1, h2, _ => by omega
 | f + 1, c, g, h1, h2, hg => by
  have lg := hg.1
  have hri := hg.2 i hi
  have li := hri.1
  simp only [z4o]
  by_cases hc : c < C
  ·have e4 : IntKind.i64.wrap ((c : Int) + 1) = ((c + 1 : Nat) : Int) := by rw [w64 _ (by omega) (by omega)]; omega
   have qi := hri.at hc
   have e : inc b i c M i c = M i c := by unfold inc; rw [if_neg (by omega)]
   rw [e] at qi
   obtain ⟨y, hy, hqy⟩ := yw0 qi hq (hd i hi c hc) hb (by omega)
   have hy : z5g fuel (((g.getD i []).getD c (false, ([], []))).1, (((g.getD i []).getD c (false, ([], []))).2)) (q.1, (q.2.1, q.2.2)) = some y := hy
   simp only [Int.toNat_natCast]
   rw [if_pos (by simpa using hc), if_pos (by omega), if_pos (by omega), if_pos (by omega), if_pos (by omega), if_pos (by omega), if_pos (show ((c : Nat) : Int) < (((g.getD i ([] : List Qd)).length : Nat) : Int) by omega), hy, Option.bind_some, if_pos (by omega), if_pos (show ((c : Nat) : Int) < (((g.getD i ([] : List Qd)).length : Nat) : Int) by omega), e4]
   refine wo6 hR hC hi hq hb hd f (c + 1) _ (by omega) (by omega) ((hg.set hi hc hqy).ext fun r _ s _ => ?_)
   unfold inc
   by_cases e1 : r = i /\ s = c
   ·rw [if_pos e1, if_pos (by omega), e1.1, e1.2]
   ·rw [if_neg e1]
    by_cases e2 : r < i \/ r = i /\ s < c
    ·rw [if_pos e2, if_pos (by omega)]
    ·rw [if_neg e2, if_neg (by omega)]
  ·rw [if_neg (by simpa using hc)]
   have : c = C := by omega
   subst this
   exact ⟨g, rfl, hg⟩
theorem w8s {R C : Nat} (hR : R <= 100) (hC : C <= 100) {M : Nat -> Nat -> Rat} {b : Rat} {q : Qd} (hq : QR b q) (hb : Dr 4000 b) (hd : ∀ i, i < R -> ∀ j, j < C -> Dr 2000 (M i j)) : ∀ (f i : Nat) (g : List (List Qd)), i <= R -> R + 1000 < f + i -> QG R C (inc b i 0 M) g ->
  ∃ g', z5d f (R : Int) (i : Int) g q.1 q.2.1 q.2.2 = some (.exit (g', q.1, q.2.1, q.2.2, ())) /\ QG R C (fun r s => M r s + b) g'
 | 0, i, g, h1, h2, _ => by omega
 | f + 1, i, g, h1, h2, hg => by
  have lg := hg.1
  simp only [z5d]
  by_cases hi : i < R
  ·have e4 : IntKind.i64.wrap ((i : Int) + 1) = ((i + 1 : Nat) : Int) := by rw [w64 _ (by omega) (by omega)]; omega
   have li := (hg.2 i hi).1
   obtain ⟨g', k1, k2⟩ := wo6 hR hC hi hq hb hd f 0 g (by omega) (by omega) hg
   have k1 : z4o f (i : Int) (((g.getD i ([] : List Qd)).length : Nat) : Int) 0 g q.1 q.2.1 q.2.2 = some (.exit (g', q.1, q.2.1, q.2.2, ())) := by rw [li]; exact k1
   rw [if_pos (by simpa using hi), if_pos (by omega), if_pos (by omega), Int.toNat_natCast, k1]
   dsimp only
   rw [e4]
   refine w8s hR hC hq hb hd f (i + 1) g' (by omega) (by omega) (k2.ext fun r _ s hs => ?_)
   unfold inc
   by_cases e2 : r < i \/ r = i /\ s < C
   ·rw [if_pos e2, if_pos (by omega)]
   ·rw [if_neg e2, if_neg (by omega)]
  ·rw [if_neg (by simpa using hi)]
   have : i = R := by omega
   subst this
   exact ⟨g, rfl, hg.ext fun r hr s _ => by unfold inc; rw [if_pos (by omega)]⟩
theorem y8m {n : Nat} (hn : n <= 100) {x : Nat -> Rat} (hx : ∀ j, j < n -> Dr 2000 (x j)) {w : Rat} {q : Qd} (hq : QR w q) (hw : Dr 4000 w) : ∀ (f i : Nat) (l : List Qd), i <= n -> n < f + i -> QF i (fun j => x j * w) l ->
  ∃ l', z0y f (xt n x) (n : Int) (i : Int) q.1 q.2.1 q.2.2 l = some (.exit (l', q.1, q.2.1, q.2.2, ())) /\ QF n (fun j => x j * w) l'
 | 0, i, l, h1, h2, _ => by omega
 | f + 1, i, l, h1, h2, hl => by
  have ll := hl.1
  have lx := y7n (n := n) (x := x)
  simp only [z0y]
  by_cases hi : i < n
  ·have e4 : IntKind.i64.wrap ((i : Int) + 1) = ((i + 1 : Nat) : Int) := by rw [w64 _ (by omega) (by omega)]; omega
   have ex : (xt n x).getD i ByteArray.empty = rt (x i) := by
    unfold xt
    rw [wv2 (by rw [List.length_map, List.length_range]; exact hi), z5q hi]
   obtain ⟨z, z1, z2⟩ := w3v (zy1 (hx i hi) (by omega) (by omega))
   obtain ⟨y, y1, y2⟩ := y5m z2 hq (hx i hi) hw (by omega)
   have y1 : z31 fuel z (q.1, (q.2.1, q.2.2)) = some y := y1
   rw [if_pos (by simpa using hi), if_pos (by omega), if_pos (by omega), Int.toNat_natCast, ex, z1, Option.bind_some, y1, Option.bind_some, if_pos (by omega), e4]
   exact y8m hn hx hq hw f (i + 1) _ (by omega) (by omega) (hl.snoc y2)
  ·rw [if_neg (by simpa using hi)]
   have : i = n := by omega
   subst this
   exact ⟨l, rfl, hl⟩
theorem v20 : z1v fuel [(⟨#[49]⟩ : ByteArray)] ((0 : Nat) : Int) = some (List.replicate 0 (⟨#[49]⟩ : ByteArray)) := by kernel_rfl
theorem v21 : z1v fuel [(⟨#[49]⟩ : ByteArray)] ((1 : Nat) : Int) = some (List.replicate 1 (⟨#[49]⟩ : ByteArray)) := by kernel_rfl
theorem v22 : z1v fuel [(⟨#[49]⟩ : ByteArray)] ((2 : Nat) : Int) = some (List.replicate 2 (⟨#[49]⟩ : ByteArray)) := by kernel_rfl
theorem v23 : z1v fuel [(⟨#[49]⟩ : ByteArray)] ((3 : Nat) : Int) = some (List.replicate 3 (⟨#[49]⟩ : ByteArray)) := by kernel_rfl
theorem v24 : z1v fuel [(⟨#[49]⟩ : ByteArray)] ((4 : Nat) : Int) = some (List.replicate 4 (⟨#[49]⟩ : ByteArray)) := by kernel_rfl
theorem v25 : z1v fuel [(⟨#[49]⟩ : ByteArray)] ((5 : Nat) : Int) = some (List.replicate 5 (⟨#[49]⟩ : ByteArray)) := by kernel_rfl
theorem v26 : z1v fuel [(⟨#[49]⟩ : ByteArray)] ((6 : Nat) : Int) = some (List.replicate 6 (⟨#[49]⟩ : ByteArray)) := by kernel_rfl
theorem wr1 {n : Nat} (hn : n <= 6) : z1v fuel [(⟨#[49]⟩ : ByteArray)] (n : Int) = some (List.replicate n (⟨#[49]⟩ : ByteArray)) := by
 have h : n = 0 \/ n = 1 \/ n = 2 \/ n = 3 \/ n = 4 \/ n = 5 \/ n = 6 := by omega
 rcases h with rfl | rfl | rfl | rfl | rfl | rfl | rfl
 ·exact v20
 ·exact v21
 ·exact v22
 ·exact v23
 ·exact v24
 ·exact v25
 ·exact v26
theorem wr2 (n : Nat) : List.replicate n (⟨#[49]⟩ : ByteArray) = (List.replicate n (1 : Rat)).map rt := by rw [List.map_replicate, wf7]
end Go.Proofs.YtcdcoeofhnfjdaaGreatDoor
namespace Go.Proofs.YtcdcoeofhnfjdaaGreatDoor
open Go Vm
def Eqm (R C : Nat) (M : Nat -> Nat -> Rat) (p q : Nat -> Rat) (V : Rat) : Prop :=
 (∀ i, i < R -> 0 <= p i) /\ (∀ j, j < C -> 0 <= q j) /\ fs p R = 1 /\ fs q C = 1 /\ (∀ i, i < R -> fs (fun j => M i j * q j) C <= V) /\ ∀ j, j < C -> V <= fs (fun i => p i * M i j) R
def pay (R C : Nat) (M : Nat -> Nat -> Rat) (p q : Nat -> Rat) : Rat := fs (fun i => p i * fs (fun j => M i j * q j) C) R
theorem w68 {R C : Nat} {M : Nat -> Nat -> Rat} {p q : Nat -> Rat} {V : Rat} (hp : ∀ i, i < R -> 0 <= p i) (h1 : fs p R = 1) (h : ∀ i, i < R -> fs (fun j => M i j * q j) C <= V) : pay R C M p q <= V := by
 have e : fs (fun i => p i * V) R = V := by rw [zf6, h1]; grind
 rw [<- e]
 exact wl5 fun i hi => Rat.mul_le_mul_of_nonneg_left (h i hi) (hp i hi)
theorem wn0 {R C : Nat} {M : Nat -> Nat -> Rat} {p q : Nat -> Rat} : pay R C M p q = fs (fun j => fs (fun i => p i * M i j) R * q j) C := by
 have e1 : pay R C M p q = fs (fun i => fs (fun j => p i * M i j * q j) C) R := z1k fun i _ => by
  rw [<- zc6]
  exact z1k fun j _ => by grind
 have e2 : fs (fun j => fs (fun i => p i * M i j) R * q j) C = fs (fun j => fs (fun i => p i * M i j * q j) R) C := z1k fun j _ => by rw [zf6]
 rw [e1, e2]
 exact y88 (fun i j => p i * M i j * q j) C R
theorem w67 {R C : Nat} {M : Nat -> Nat -> Rat} {p q : Nat -> Rat} {V : Rat} (hq : ∀ j, j < C -> 0 <= q j) (h1 : fs q C = 1) (h : ∀ j, j < C -> V <= fs (fun i => p i * M i j) R) : V <= pay R C M p q := by
 have e : fs (fun j => V * q j) C = V := by rw [zc6, h1]; grind
 rw [wn0, <- e]
 exact wl5 fun j hj => Rat.mul_le_mul_of_nonneg_right (h j hj) (hq j hj)
theorem Eqm.pay {R C : Nat} {M : Nat -> Nat -> Rat} {p q : Nat -> Rat} {V : Rat} (h : Eqm R C M p q V) : pay R C M p q = V :=
 Rat.le_antisymm (w68 h.1 h.2.2.1 h.2.2.2.2.1) (w67 h.2.1 h.2.2.2.1 h.2.2.2.2.2)
theorem Eqm.uniq {R C : Nat} {M : Nat -> Nat -> Rat} {p q p' q' : Nat -> Rat} {V V' : Rat} (h : Eqm R C M p q V) (h' : Eqm R C M p' q' V') : V = V' :=
 Rat.le_antisymm (Rat.le_trans (w67 h'.2.1 h'.2.2.2.1 h.2.2.2.2.2) (w68 h.1 h.2.2.1 h'.2.2.2.2.1)) (Rat.le_trans (w67 h.2.1 h.2.2.2.1 h'.2.2.2.2.2) (w68 h'.1 h'.2.2.1 h.2.2.2.2.1))
theorem ww4 {R C : Nat} (hC : 0 < C) {M : Nat -> Nat -> Rat} {b v : Rat} {x y : Nat -> Rat} (hx : ∀ j, j < C -> 0 <= x j) (hy : ∀ i, i < R -> 0 <= y i) (h1 : ∀ i, i < R -> fs (fun j => (M i j + b) * x j) C <= 1)
  (h2 : ∀ j, j < C -> 1 <= fs (fun i => y i * (M i j + b)) R) (h3 : fs x C = v) (h4 : fs y R = v) : 0 < v /\ Eqm R C M (fun i => y i * (1 / v)) (fun j => x j * (1 / v)) (1 / v - b) := by
 have hv : 0 < v := by
  have h0 := zi1 hy
  rw [h4] at h0
  by_cases c : 0 < v
  ·exact c
  ·exfalso
   have hv0 : v = 0 := by grind
   have hz : ∀ i, i < R -> y i = 0 := fun i hi => by
    have a1 := wv0 hy hi
    have a2 := hy i hi
    rw [h4, hv0] at a1; grind
   have := h2 0 hC
   rw [z1k (g := fun _ => 0) fun i hi => by rw [hz i hi]; grind, z4k] at this
   exact absurd this (by decide)
 have hw : v * (1 / v) = 1 := by
  rw [Rat.div_def, Rat.one_mul, Rat.mul_inv_cancel _ (by grind)]
 have hw0 : 0 <= 1 / v := y82 (by decide) hv
 refine ⟨hv, fun i hi => Rat.mul_nonneg (hy i hi) hw0, fun j hj => Rat.mul_nonneg (hx j hj) hw0, by rw [zf6, h4, hw], by rw [zf6, h3, hw], fun i hi => ?_, fun j hj => ?_⟩
 ·have e : fs (fun j => M i j * (x j * (1 / v))) C = fs (fun j => (M i j + b) * x j) C * (1 / v) - b := by
   have e1 : fs (fun j => M i j * (x j * (1 / v))) C = fs (fun j => (M i j + b) * x j * (1 / v) - b * (x j * (1 / v))) C := z1k fun j _ => by grind
   rw [e1, yp7, zf6, zc6 (fun j => x j * (1 / v)), zf6, h3, hw]; grind
  have := Rat.mul_le_mul_of_nonneg_right (h1 i hi) hw0
  rw [e]; grind
 ·have e : fs (fun i => y i * (1 / v) * M i j) R = fs (fun i => y i * (M i j + b)) R * (1 / v) - b := by
   have e1 : fs (fun i => y i * (1 / v) * M i j) R = fs (fun i => y i * (M i j + b) * (1 / v) - b * (y i * (1 / v))) R := z1k fun i _ => by grind
   rw [e1, yp7, zf6, zc6 (fun i => y i * (1 / v)), zf6, h4, hw]; grind
  have := Rat.mul_le_mul_of_nonneg_right (h2 j hj) hw0
  rw [e]; grind
theorem ab_one : Ab (10 ^ 27) 1 := by
 have h : Ab 1 1 := ⟨Rat.le_refl, by decide⟩
 exact h.mono (by decide)
theorem w5g {R C D : Nat} (hD : D ≠ 0) {A : Nat -> Nat -> Rat} {b c : Nat -> Rat} (hb : ∀ i, i < R -> b i = 1) (hz : ∀ i, i < R -> ∀ j, j < C -> Zd D (A i j) /\ Ab (10 ^ 27) (A i j)) (hc : ∀ k, c k = 0 \/ c k = 1 \/ c k = -1) :
  ∀ i, i < R + 1 -> ∀ k, k < C + R + 2 + 1 -> Zd (if i < R then D else 1) (gM R (C + R + 2) (lpM R C A b) c i k) /\ Ab (10 ^ 27) (gM R (C + R + 2) (lpM R C A b) c i k) := fun i hi k hk => by
 have ok : ∀ {d : Nat}, d ≠ 0 -> ∀ r : Rat, r = 0 \/ r = 1 \/ r = -1 -> Zd d r /\ Ab (10 ^ 27) r := fun hd r hr => by
  rcases hr with rfl | rfl | rfl
  ·exact ⟨Zd.zero, Ab.zero _⟩
  ·exact ⟨Zd.one _ hd, ab_one⟩
  ·exact ⟨(Zd.one _ hd).neg, ab_one.neg⟩
 unfold gM
 by_cases c1 : i < R
 ·rw [if_pos c1, if_pos c1]
  by_cases c2 : k < C + R + 2
  ·rw [if_pos c2]
   unfold lpM
   by_cases c3 : k < C
   ·rw [if_pos c3]; exact hz i c1 k c3
   ·rw [if_neg c3]
    refine ok hD _ ?_
    by_cases c4 : k < C + R
    ·rw [if_pos c4]; unfold one
     by_cases c5 : i = k - C
     ·rw [if_pos c5]; exact .inr (.inl rfl)
     ·rw [if_neg c5]; exact .inl rfl
    ·rw [if_neg c4]
     by_cases c5 : k = C + R
     ·rw [if_pos c5]; exact .inr (.inr rfl)
     ·rw [if_neg c5, hb i c1]; exact .inr (.inl rfl)
  ·rw [if_neg c2]; exact ⟨Zd.zero, Ab.zero _⟩
 ·rw [if_neg c1, if_neg c1]
  refine ok (by decide) _ ?_
  by_cases c2 : k < C + R + 2
  ·rw [if_pos c2]
   rcases hc k with h | h | h <;> rw [h]
   ·exact .inl (by grind)
   ·exact .inr (.inr rfl)
   ·exact .inr (.inl (by grind))
  ·rw [if_neg c2]; exact .inr (.inl rfl)
theorem w7k {R D e K : Nat} (hR : R <= 5) (hD : D <= 10 ^ e) (hK : e * R + 166 <= K) : fc (R + 1) * (10 ^ 27) ^ (R + 1) * pd (fun i => if i < R then D else 1) (R + 1) < 10 ^ K := by
 rw [wf0]
 have f1 : fc (R + 1) <= 10 ^ 3 := by
  match R, hR with
  | 0, _ => decide
  | 1, _ => decide
  | 2, _ => decide
  | 3, _ => decide
  | 4, _ => decide
  | 5, _ => decide
 have f2 : (10 ^ 27) ^ (R + 1) <= (10 : Nat) ^ 162 := by
  rw [<- Nat.pow_mul]
  exact Nat.pow_le_pow_right (by decide) (by omega)
 have f3 : D ^ R <= 10 ^ (e * R) := by
  rw [Nat.pow_mul]
  exact Nat.pow_le_pow_left hD R
 have f4 : fc (R + 1) * (10 ^ 27) ^ (R + 1) * D ^ R <= 10 ^ 3 * 10 ^ 162 * 10 ^ (e * R) := Nat.mul_le_mul (Nat.mul_le_mul f1 f2) f3
 have f5 : (10 : Nat) ^ 3 * 10 ^ 162 * 10 ^ (e * R) = 10 ^ (3 + 162 + e * R) := by rw [<- Nat.pow_add, <- Nat.pow_add]
 have f6 : (10 : Nat) ^ (3 + 162 + e * R) < 10 ^ K := Nat.pow_lt_pow_right (by decide) (by omega)
 exact Nat.lt_of_le_of_lt (Nat.le_trans f4 (Nat.le_of_eq f5)) f6
end Go.Proofs.YtcdcoeofhnfjdaaGreatDoor
namespace Go.Proofs.YtcdcoeofhnfjdaaGreatDoor
open Go Vm
theorem v0z {m n : Nat} {A : Nat -> Nat -> Rat} {a : List (List ByteArray)} {bs cs : List Rat} (hm : m <= 40) (hn : n <= 40) (ha : Txt a m n A) (h0 : 0 < m) (hb : bs.length = m) (hc : cs.length = n) (ho : ∀ r, r ∈ bs -> OkR r) (ho' : ∀ r, r ∈ cs -> OkR r) : z6h fuel (a, (bs.map rt, cs.map rt)) = some 0 := by
 have la := ha.1
 unfold z6h
 dsimp only
 rw [List.length_map, List.length_map, if_pos (by rw [decide_eq_false_iff_not]; omega), if_neg (by rw [decide_eq_true_eq]; omega), w18 ha hm hn, Option.bind_some, if_neg (by decide), zf1 (by omega) ho, Option.bind_some, if_neg (by decide), zf1 (by omega) ho', Option.bind_some, if_neg (by decide),
   if_pos (by rw [bne_eq_false_iff_eq]; omega), if_pos (by rw [decide_eq_true_eq]; omega), w2c ha (by omega), Option.bind_some, if_neg (by rw [bne_iff_ne]; omega)]
theorem w1q {n k : Nat} (h : k < n) : (List.replicate n (1 : Rat)).getD k 0 = 1 := by
 rw [List.getD_eq_getElem?_getD, List.getElem?_replicate, if_pos h]; rfl
theorem yw6 {n : Nat} : ∀ r, r ∈ List.replicate n (1 : Rat) -> OkR r := fun r hr => by
 rw [List.eq_of_mem_replicate hr]
 exact zy1 (k := 1) (w0n (n := 1) (by decide) (by decide)) (by decide) (by decide)
theorem wv1 {a : List (List ByteArray)} {R C D : Nat} (e K : Nat) {M : Nat -> Nat -> Rat} (hR0 : 0 < R) (hR : R <= 5) (hC0 : 0 < C) (hC : C <= 5) (ha : Txt a R C M) (hD : D ≠ 0) (hD2 : D <= 10 ^ e) (hK : e * R + 166 <= K) (hK2 : K + e + 29 <= 1999) (hz : ∀ i, i < R -> ∀ j, j < C -> Zd D (M i j) /\ Ab (10 ^ 26) (M i j)) (hck : z2g fuel a = some 0) :
  ∃ (p q : Nat -> Rat) (V : Rat) (D' : Nat), Eqm R C M p q V /\ z5f fuel a = some ((rt V, (xt R p, xt C q)), 0) /\ Dr (K + e + 29) V /\ D' ≠ 0 /\ D' < 10 ^ K /\ (∀ i, i < R -> Fr K D' (p i)) /\ ∀ j, j < C -> Fr K D' (q j) := by
 have hf := z7u (n := 2 ^ 100) (by decide)
 have heR : e <= e * R := Nat.le_mul_of_pos_right e hR0
 have la := ha.1
 have l0 : (a.getD 0 []).length = C := by rw [(ha.2 0 hR0).1, List.length_map, List.length_map, List.length_range]
 have hd : ∀ i, i < R -> ∀ j, j < C -> Dr 2000 (M i j) := fun i hi j hj => zl8 ((ha.2 i hi).2 j hj)
 obtain ⟨g, g1, g2⟩ := w5x ha (by omega) (by omega) fuel 0 [] (by omega) (by omega) ⟨rfl, fun i hi => by omega⟩
 have g1 : z2b fuel a (a.length : Int) 0 [] = some (.exit (g, ())) := by rw [la]; exact g1
 have lg := g2.1
 have lg0 := (g2.2 0 hR0).1
 obtain ⟨o1, i1, i2⟩ := wc0
 obtain ⟨ql, k1, i0, j0, hi0, hj0, k2, k3⟩ := w0z (by omega) (by omega) g2 hd fuel 0 ((g.getD 0 []).getD 0 (false, ([], []))) (by omega) (by omega) ⟨0, 0, hR0, hC0, (g2.2 0 hR0).2 0 hC0, fun i j _ _ h => by omega⟩
 have k1 : z1s fuel (g.length : Int) 0 (((g.getD 0 []).getD 0 (false, ([], []))).1) ((((g.getD 0 []).getD 0 (false, ([], []))).2).1) ((((g.getD 0 []).getD 0 (false, ([], []))).2).2) g = some (.exit (ql.1, ql.2.1, ql.2.2, g, ())) := by rw [lg]; exact k1
 have d1 : Dr 1 (1 : Rat) := w0n (n := 1) (by decide) (by decide)
 obtain ⟨qb, b1, b2⟩ := y2w i2 k2 d1 (hd i0 hi0 j0 hj0) (by omega)
 have b1 : z47 fuel o1 (ql.1, (ql.2.1, ql.2.2)) = some qb := b1
 generalize hby : 1 - M i0 j0 = by' at b2
 have dby : Dr 2002 by' := by rw [<- hby]; exact z5o (by omega) (w9s d1 (hd i0 hi0 j0 hj0))
 obtain ⟨ga, a1, a2⟩ := w8s (by omega) (by omega) b2 (z5o (by omega) dby) hd fuel 0 g (by omega) (by omega) (g2.ext fun r _ s _ => by unfold inc; rw [if_neg (by omega)])
 have a1 : z5d fuel (g.length : Int) 0 g qb.1 qb.2.1 qb.2.2 = some (.exit (ga, qb.1, qb.2.1, qb.2.2, ())) := by rw [lg]; exact a1
 have one1 : Ab 1 1 := ⟨Rat.le_refl, by decide⟩
 have zby : Zd D by' /\ Ab (1 + 10 ^ 26) by' := by
  have e' : by' = 1 + -(M i0 j0) := by rw [<- hby]; grind
  rw [e']
  exact ⟨(Zd.one D hD).add hD (hz i0 hi0 j0 hj0).1.neg, one1.add (hz i0 hi0 j0 hj0).2.neg⟩
 have zA : ∀ i, i < R -> ∀ j, j < C -> Zd D (M i j + by') /\ Ab (10 ^ 27) (M i j + by') := fun i hi j hj =>
  ⟨(hz i hi j hj).1.add hD zby.1, ((hz i hi j hj).2.add zby.2).mono (by decide)⟩
 have hB : 10 ^ 27 * D < 10 ^ (e + 28) := by
  have h1 : 10 ^ 27 * D <= 10 ^ 27 * 10 ^ e := Nat.mul_le_mul_left _ hD2
  have h2 : (10 : Nat) ^ 27 * 10 ^ e = 10 ^ (27 + e) := by rw [<- Nat.pow_add]
  have h3 : (10 : Nat) ^ (27 + e) < 10 ^ (e + 28) := Nat.pow_lt_pow_right (by decide) (by omega)
  exact Nat.lt_of_le_of_lt (Nat.le_trans h1 (Nat.le_of_eq h2)) h3
 have toDr : ∀ {r : Rat}, Zd D r -> Ab (10 ^ 27) r -> Dr (e + 28) r := fun h k => Zd.dr hD (by decide) h k.1 k.2 hB
 have dA : ∀ i, i < R -> ∀ j, j < C -> Dr (e + 28) (M i j + by') := fun i hi j hj => toDr (zA i hi j hj).1 (zA i hi j hj).2
 have dby2 : Dr (e + 28) by' := toDr zby.1 (zby.2.mono (by decide))
 have okA : ∀ i, i < R -> ∀ j, j < C -> OkR (M i j + by') := fun i hi j hj => zy1 (dA i hi j hj) (by omega) (by omega)
 have hout : z6e fuel ga = some (mt R C (fun i j => M i j + by'), 0) := by
  rcases we6 (by omega) (by omega) a2 (fun i hi j hj => z5o (by omega) (dA i hi j hj)) with ⟨⟨i, j, hi, hj, hn⟩, _⟩ | ⟨_, h⟩
  ·exact absurd (okA i hi j hj) hn
  ·exact h
 have hbs : ∀ i, i < R -> (List.replicate R (1 : Rat)).getD i 0 = 1 := fun i hi => w1q hi
 have hcs : ∀ j, j < C -> (List.replicate C (1 : Rat)).getD j 0 = 1 := fun j hj => w1q hj
 have hcc : ∀ k, cst C (fun j => (List.replicate C (1 : Rat)).getD j 0) k = 0 \/ cst C (fun j => (List.replicate C (1 : Rat)).getD j 0) k = 1 \/ cst C (fun j => (List.replicate C (1 : Rat)).getD j 0) k = -1 := fun k => by
  unfold cst
  by_cases e : k < C
  ·rw [if_pos e]; exact .inr (.inl (hcs k e))
  ·rw [if_neg e]; exact .inl rfl
 have hcxx : ∀ k, cx R C k = 0 \/ cx R C k = 1 \/ cx R C k = -1 := fun k => by
  unfold cx
  by_cases e : k = C + R
  ·rw [if_pos e]; exact .inr (.inr rfl)
  ·rw [if_neg e]; exact .inl rfl
 have hδ : ∀ i, i < R + 1 -> (if i < R then D else 1) ≠ 0 := fun i _ => by
  by_cases e : i < R
  ·rw [if_pos e]; exact hD
  ·rw [if_neg e]; decide
 have hbound := w7k hR hD2 hK
 have ec := w5g hD hbs zA hcc
 have ex := w5g hD hbs zA hcxx
 have hgc := w5n hδ (by decide) ec hbound
 have hgx := w5n hδ (by decide) ex hbound
 have hcom := wt1 hδ (by decide) ec hbound
 have hT0 : ∀ r, r < R -> ∀ s, s < C + R + 2 -> Dr K (lpM R C (fun i j => M i j + by') (fun j => (List.replicate R (1 : Rat)).getD j 0) r s) := fun r hr s hs => by
  have := ex r (by omega) s (by omega)
  unfold gM at this
  rw [if_pos hr, if_pos hr, if_pos hs] at this
  exact z5o (by omega) (toDr this.1 this.2)
 have hTm : Txt (mt R C fun i j => M i j + by') R C (fun i j => M i j + by') := v17 okA
 have hsc := v0z (bs := List.replicate R 1) (cs := List.replicate C 1) (by omega) (by omega) hTm hR0 List.length_replicate List.length_replicate yw6 yw6
 obtain ⟨out, u1, u2⟩ := wg6 (K := K) (by omega) (by omega) (m := R) (n := C) (by omega) (by omega) hTm List.length_replicate List.length_replicate yw6 yw6 hT0 (fun i hi => by rw [hcs i hi]; exact z5o (by omega) d1) hgc hgx hsc
 unfold z5f
 rw [hck, Option.bind_some, if_neg (by decide), g1]
 dsimp only
 rw [i1, Option.bind_some, if_pos (show (0 : Int) < ((g.length : Nat) : Int) by omega), if_pos (show (0 : Int) < (((g.getD 0 ([] : List Qd)).length : Nat) : Int) by omega), k1]
 dsimp only
 rw [b1, Option.bind_some, a1]
 dsimp only
 rw [hout, Option.bind_some, if_neg (show ¬ ((0 : Int) != 0) = true by decide), if_pos (by omega), la, wr1 (by omega), Option.bind_some, l0, wr1 (by omega), Option.bind_some, wr2, wr2, u1, Option.bind_some]
 rcases u2 with ⟨β, T, h1, h2, h3, h4, rfl⟩ | ⟨y, h1, h2, h3, rfl⟩ | ⟨x, z, h1, h2, h3, h4, h5, rfl⟩
 ·have hdr := h1.dr hgc
  obtain ⟨D0, D1, D2, D3⟩ := h1.com hcom
  have hinj : ∀ i j, i < R -> j < R -> β i = β j -> i = j := fun i j hi hj e => h1.bas.inj hi hj e
  obtain ⟨y1, y2, y3, y4⟩ := wd0 h1 h3 h4
  have x1 := wd2 h1 h3 h2
  have x0 := yk2 (m := R) (β := β) (T := T) (s := C + R + 1) h2
  have e3 : fs (xv R β T (C + R + 1)) C = T R (C + R + 1) := by
   rw [<- y3]; exact z1k fun j hj => by rw [hcs j hj]; grind
  have e4 : fs (fun j => T R (C + j)) R = T R (C + R + 1) := by
   rw [<- y4]; exact z1k fun j hj => by rw [hbs j hj]; grind
  obtain ⟨hv, hE⟩ := ww4 (M := M) (b := by') (v := T R (C + R + 1)) hC0 (fun j _ => x0 j) y1 (fun i hi => by have := x1 i hi; rw [hbs i hi] at this; exact this) (fun j hj => by have := y2 j hj; rw [hcs j hj] at this; exact this) e3 e4
  have hv0 : T R (C + R + 1) ≠ 0 := by grind
  obtain ⟨D', E1, E2, E3⟩ := (D3 R (by omega) (C + R + 1) (by omega)).div D1 hv0
  have fx : ∀ j, Fr K D0 (xv R β T (C + R + 1) j) := fun j => by
   rcases w6x (T := T) (s := C + R + 1) (v := j) hinj R (Nat.le_refl _) with ⟨_, h⟩ | ⟨i, hi, _, h⟩
   ·rw [h]; exact Fr.zero
   ·rw [h]; exact D3 i (by omega) _ (by omega)
  have ediv : ∀ r : Rat, r * (1 / T R (C + R + 1)) = r / T R (C + R + 1) := fun r => by rw [Rat.div_def, Rat.div_def, Rat.one_mul]
  have fp : ∀ i, i < R -> Fr K D' (T R (C + i) * (1 / T R (C + R + 1))) := fun i hi => by rw [ediv]; exact E3 _ (D3 R (by omega) _ (by omega))
  have fq : ∀ j, j < C -> Fr K D' (xv R β T (C + R + 1) j * (1 / T R (C + R + 1))) := fun j _ => by rw [ediv]; exact E3 _ (fx j)
  have dv := hdr R (by omega) (C + R + 1) (by omega)
  have dw : Dr K (1 / T R (C + R + 1)) := by
   rw [Rat.div_def, Rat.one_mul]; exact wp3 dv hv0
  obtain ⟨qv, v1, v2⟩ := w3v (zy1 dv (by omega) (by omega))
  obtain ⟨qw, w1, w2⟩ := yi9 i2 v2 d1 dv (by omega) hv0
  obtain ⟨lp, p1, p2⟩ := y8m (n := R) (x := fun j => T R (C + j)) (by omega) (fun j hj => z5o (by omega) (hdr R (by omega) _ (by omega))) w2 (z5o (by omega) dw) fuel 0 [] (by omega) (by omega) ⟨rfl, fun i hi => by omega⟩
  obtain ⟨lq, q1, q2⟩ := y8m (n := C) (x := xv R β T (C + R + 1)) (by omega) (fun j hj => (z5o (by omega) ((fx j).dr D1 D2))) w2 (z5o (by omega) dw) fuel 0 [] (by omega) (by omega) ⟨rfl, fun i hi => by omega⟩
  have p1 : z0y fuel (xt R fun j => T R (C + j)) ((xt R fun j => T R (C + j)).length : Int) 0 qw.1 qw.2.1 qw.2.2 [] = some (.exit (lp, qw.1, qw.2.1, qw.2.2, ())) := by rw [y7n]; exact p1
  have q1 : z0y fuel (xt C (xv R β T (C + R + 1))) ((xt C (xv R β T (C + R + 1))).length : Int) 0 qw.1 qw.2.1 qw.2.2 [] = some (.exit (lq, qw.1, qw.2.1, qw.2.2, ())) := by rw [y7n]; exact q1
  obtain ⟨qV, V1, V2⟩ := y2w w2 b2 dw dby (by omega)
  have V1 : z47 fuel (qw.1, (qw.2.1, qw.2.2)) (qb.1, (qb.2.1, qb.2.2)) = some qV := V1
  have dV : Dr (K + e + 29) (1 / T R (C + R + 1) - by') := z5o (by omega) (w9s dw dby2)
  have hTold : zf5 fuel qV = some (rt (1 / T R (C + R + 1) - by'), 0) := by
   unfold zf5
   rw [y0q V2 dV (by omega), if_pos (zy1 dV (by omega) (by omega)), Option.bind_some, if_neg (by decide), w1g V2 dV (by omega), Option.bind_some]
  refine ⟨_, _, _, D', hE, ?_, dV, E1, E2, fp, fq⟩
  rw [if_neg (show ¬ ((0 : Int) != 0) = true by decide)]
  dsimp only
  rw [Option.bind_some, v1, Option.bind_some, w1, Option.bind_some, p1]
  dsimp only
  rw [y4r (K := K) p2 (by omega) (by omega) (by omega) (fun i hi => (fp i hi).dr E1 E2), Option.bind_some, if_neg (show ¬ ((0 : Int) != 0) = true by decide)]
  dsimp only
  rw [q1]
  dsimp only
  rw [y4r (K := K) q2 (by omega) (by omega) (by omega) (fun i hi => (fq i hi).dr E1 E2), Option.bind_some, if_neg (show ¬ ((0 : Int) != 0) = true by decide)]
  dsimp only
  rw [V1, Option.bind_some, hTold, Option.bind_some, if_neg (show ¬ ((0 : Int) != 0) = true by decide)]
 ·exfalso
  have e : fs (fun j => y j * (List.replicate R (1 : Rat)).getD j 0) R = fs y R := z1k fun j hj => by rw [hbs j hj]; grind
  rw [e] at h3
  have := zi1 (n := R) (f := y) fun i hi => (h1 i hi).2
  grind
 ·exfalso
  have e : fs (fun j => (List.replicate C (1 : Rat)).getD j 0 * z j) C = fs z C := z1k fun j hj => by rw [hcs j hj]; grind
  rw [e] at h5
  have h6 : fs z C <= fs (fun k => (M 0 k + by') * z k) C := wl5 fun k hk => by
   have a1 := k3 0 k hR0 hk trivial
   have a2 := (h2 k hk).2
   have a3 : 1 <= M 0 k + by' := by rw [<- hby]; grind
   have := Rat.mul_le_mul_of_nonneg_right a3 a2
   rw [Rat.one_mul] at this
   exact this
  have h7 := h4 0 hR0
  grind
end Go.Proofs.YtcdcoeofhnfjdaaGreatDoor
namespace Go.Proofs.YtcdcoeofhnfjdaaGreatDoor
open Go Vm
theorem ya8 : z5e fuel = some true := by kernel_rfl
theorem wg5q (e0 : Nat) (he0 : 300 <= e0) {R C : Nat} (hR : R <= 5) (hC : C <= 5) {M : Nat -> Nat -> Rat} (h : ∀ i, i < R -> ∀ j, j < C -> Dr 12 (M i j)) : ∃ D, D ≠ 0 /\ D <= 10 ^ e0 /\ ∀ i, i < R -> ∀ j, j < C -> Zd D (M i j) /\ Ab (10 ^ 26) (M i j) := by
 have h1 : ∀ i, i < R -> pd (fun j => (M i j).den) C ≠ 0 := fun i _ => w4a fun j _ => (M i j).den_nz
 have h2 : ∀ i, i < R -> pd (fun j => (M i j).den) C <= 10 ^ (12 * C) := fun i hi => wx0 fun j hj => Nat.le_of_lt (h i hi j hj).2
 refine ⟨pd (fun i => pd (fun j => (M i j).den) C) R, w4a h1, ?_, fun i hi j hj => ⟨?_, ?_⟩⟩
 ·have := wx0 h2
  refine Nat.le_trans this (Nat.pow_le_pow_right (by decide) ?_)
  have : 12 * C * R <= 12 * 5 * 5 := Nat.mul_le_mul (Nat.mul_le_mul_left _ hC) hR
  omega
 ·obtain ⟨e, e1, he⟩ := we9 hi h1
  obtain ⟨e', e0', he'⟩ := we9 (δ := fun j => (M i j).den) hj fun j _ => (M i j).den_nz
  rw [he, he']
  exact ((Zd.den (M i j)).more e0').more e1
 ·exact (Ab.of_dr (h i hi j hj)).mono (Nat.pow_le_pow_right (by decide) (by decide))
theorem wg5 {R C : Nat} (hR : R <= 5) (hC : C <= 5) {M : Nat -> Nat -> Rat} (h : ∀ i, i < R -> ∀ j, j < C -> Dr 12 (M i j)) : ∃ D, D ≠ 0 /\ D <= 10 ^ 300 /\ ∀ i, i < R -> ∀ j, j < C -> Zd D (M i j) /\ Ab (10 ^ 26) (M i j) := wg5q 300 (Nat.le_refl _) hR hC h
theorem yx0 {a : List (List ByteArray)} {R C : Nat} {M : Nat -> Nat -> Rat} (hR : 0 < R) (ha : Txt a R C M) (hck : z2g fuel a = some 0) {x y : List ByteArray} (hx : x.length = R) (hy : y.length = C) (ox : z89 fuel x = some 0) (oy : z89 fuel y = some 0) : z1x fuel a x y = some 0 := by
 have la := ha.1
 have l0 : (a.getD 0 []).length = C := by rw [(ha.2 0 hR).1, List.length_map, List.length_map, List.length_range]
 unfold z1x
 rw [hck, Option.bind_some, if_neg (by decide), if_pos (by rw [bne_eq_false_iff_eq]; omega), if_pos (by omega), if_neg (by rw [bne_iff_ne]; omega), ox, Option.bind_some, if_neg (by decide), oy, Option.bind_some]
theorem w4x {n i : Nat} {x : Nat -> Rat} (h : i < n) : ((List.range n).map x).getD i 0 = x i := z5q h
theorem w7o {a : List (List ByteArray)} {e : Int} (h0 : e ≠ 0) (h : z2g fuel a = some e) : z5f fuel a = some ((ByteArray.empty, ([], [])), e) := by
 unfold z5f
 rw [h, Option.bind_some, if_pos (by simpa using h0)]
end Go.Proofs.YtcdcoeofhnfjdaaGreatDoor
namespace Go.Proofs.YtcdcoeofhnfjdaaGreatDoor
open Go Vm
theorem w1k : ∀ (l : List Rat), psum l = fs (fun i => l.getD i 0) l.length := fun l => by
 have e : l = (List.range l.length).map fun i => l.getD i 0 := by
  refine List.ext_getElem (by rw [List.length_map, List.length_range]) fun i h1 h2 => ?_
  rw [List.getElem_map, List.getElem_range, z2u l i 0 h1]
 have h := yq4 (fun i => l.getD i 0) l.length
 rw [<- e] at h; exact h
theorem wj9 {us vs : List Rat} {n : Nat} (hn : n <= 40) (hu : us.length = n) (hv : vs.length = n) (ho : ∀ r, r ∈ us -> OkR r) (ho' : ∀ r, r ∈ vs -> OkR r) :
  (OkR (fs (fun j => us.getD j 0 * vs.getD j 0) n) /\ z7p fuel (us.map rt) (vs.map rt) = some (rt (fs (fun j => us.getD j 0 * vs.getD j 0) n), 0)) \/ z7p fuel (us.map rt) (vs.map rt) = some (⟨#[]⟩, 2) := by
 by_cases h : OkR (fs (fun j => us.getD j 0 * vs.getD j 0) n)
 ·exact .inl ⟨h, v0c hn hu hv ho ho' h⟩
 ·right
  obtain ⟨qu, a1, a2⟩ := y2y us (by omega) ho
  obtain ⟨qv, b1, b2⟩ := y2y vs (by omega) ho'
  have a3 := QF.of a2
  have b3 := QF.of b2
  rw [hu] at a3
  rw [hv] at b3
  have du : ∀ i, i < n -> Dr 2000 (us.getD i 0) := fun i hi => zl8 (w1e ho (by omega))
  have dv : ∀ i, i < n -> Dr 2000 (vs.getD i 0) := fun i hi => zl8 (w1e ho' (by omega))
  obtain ⟨q, c1, c2⟩ := y8h hn a3 b3 du dv
  have dd := v0n hn du dv
  unfold z7p
  rw [zf1 (by omega) ho, Option.bind_some, if_neg (by decide), zf1 (by omega) ho', Option.bind_some, if_neg (by decide), if_neg (by rw [bne_iff_ne, List.length_map, List.length_map, hu, hv]; simp), a1, Option.bind_some, b1, Option.bind_some, c1, Option.bind_some, y0q c2 dd (by omega), if_neg h, Option.bind_some, if_pos (by decide)]
theorem w69 {a : List (List ByteArray)} {R C : Nat} {M : Nat -> Nat -> Rat} (hR0 : 0 < R) (hR : R <= 40) (hC : C <= 40) (ha : Txt a R C M) (hck : z2g fuel a = some 0) {x y : List ByteArray} (hx : WV x) (hy : WV y) :
  (∃ (t : ByteArray) (e : Int), e ≠ 0 /\ z36 fuel a x y = some (t, e)) \/
  ∃ ps qs : List Rat, x = ps.map rt /\ y = qs.map rt /\ ps.length = R /\ qs.length = C /\ (∀ r, r ∈ ps -> 0 <= r) /\ (∀ r, r ∈ qs -> 0 <= r) /\ psum ps = 1 /\ psum qs = 1 /\
   OkR (pay R C M (fun i => ps.getD i 0) fun j => qs.getD j 0) /\ z36 fuel a x y = some (rt (pay R C M (fun i => ps.getD i 0) fun j => qs.getD j 0), 0) := by
 have la := ha.1
 have l0 : (a.getD 0 []).length = C := by rw [(ha.2 0 hR0).1, List.length_map, List.length_map, List.length_range]
 have bad : ∀ e : Int, e ≠ 0 -> z1x fuel a x y = some e -> ∃ (t : ByteArray) (e : Int), e ≠ 0 /\ z36 fuel a x y = some (t, e) := fun e h0 h => by
  unfold z36
  rw [h, Option.bind_some, if_pos (by simpa using h0)]
  exact ⟨_, e, h0, rfl⟩
 by_cases h1 : x.length = a.length
 ·by_cases h2 : y.length = (a.getD 0 []).length
  ·obtain ⟨e1, o1, k1⟩ := w1c x (Nat.le_trans hx.1 (by decide)) hx.2
   obtain ⟨e2, o2, k2⟩ := w1c y (Nat.le_trans hy.1 (by decide)) hy.2
   by_cases z1 : e1 = 0
   ·by_cases z2 : e2 = 0
    ·obtain ⟨ps, rfl, _, p1, p2⟩ := k1 z1
     obtain ⟨qs, rfl, _, q1, q2⟩ := k2 z2
     rw [List.length_map] at h1 h2
     have lp : ps.length = R := by omega
     have lq : qs.length = C := by omega
     rw [z1] at o1
     rw [z2] at o2
     have hs := yx0 hR0 ha hck (by rw [List.length_map, lp]) (by rw [List.length_map, lq]) o1 o2
     have op : ∀ r, r ∈ ps -> OkR r := fun r hr => (p1 r hr).1
     have oq : ∀ r, r ∈ qs -> OkR r := fun r hr => (q1 r hr).1
     rcases wi9 ha hR hC hR0 lq oq with ⟨_, e, e0, h⟩ | ⟨ok, h⟩
     ·left
      unfold z36
      rw [hs, Option.bind_some, if_neg (by decide), h, Option.bind_some, if_pos (by simpa using e0)]
      exact ⟨_, e, e0, rfl⟩
     ·have lv : ((List.range R).map fun i => fs (fun j => M i j * qs.getD j 0) C).length = R := by rw [List.length_map, List.length_range]
      have ov : ∀ r, r ∈ (List.range R).map (fun i => fs (fun j => M i j * qs.getD j 0) C) -> OkR r := fun r hr => by
       obtain ⟨i, hi, rfl⟩ := List.mem_map.1 hr
       exact ok i (List.mem_range.1 hi)
      have ep : fs (fun i => ps.getD i 0 * ((List.range R).map fun i => fs (fun j => M i j * qs.getD j 0) C).getD i 0) R = pay R C M (fun i => ps.getD i 0) fun j => qs.getD j 0 := z1k fun i hi => by rw [w4x hi]
      have hd := wj9 (n := R) hR lp lv op ov
      rw [ep] at hd
      rcases hd with ⟨g1, g2⟩ | g2
      ·refine .inr ⟨ps, qs, rfl, rfl, lp, lq, fun r hr => (p1 r hr).2, fun r hr => (q1 r hr).2, p2, q2, g1, ?_⟩
       unfold z36
       rw [hs, Option.bind_some, if_neg (by decide), h, Option.bind_some, if_neg (show ¬ ((0 : Int) != 0) = true by decide)]
       dsimp only
       rw [g2, Option.bind_some]
      ·left
       unfold z36
       rw [hs, Option.bind_some, if_neg (by decide), h, Option.bind_some, if_neg (show ¬ ((0 : Int) != 0) = true by decide)]
       dsimp only
       rw [g2, Option.bind_some]
       exact ⟨_, 2, by decide, rfl⟩
    ·left
     refine bad e2 z2 ?_
     unfold z1x
     rw [hck, Option.bind_some, if_neg (by decide), if_pos (by rw [bne_eq_false_iff_eq]; omega), if_pos (by omega), if_neg (by rw [bne_iff_ne]; omega), o1, Option.bind_some, if_neg (by rw [z1]; decide), o2, Option.bind_some]
   ·left
    refine bad e1 z1 ?_
    unfold z1x
    rw [hck, Option.bind_some, if_neg (by decide), if_pos (by rw [bne_eq_false_iff_eq]; omega), if_pos (by omega), if_neg (by rw [bne_iff_ne]; omega), o1, Option.bind_some, if_pos (by simpa using z1)]
  ·left
   refine bad 3 (by decide) ?_
   unfold z1x
   rw [hck, Option.bind_some, if_neg (by decide), if_pos (by rw [bne_eq_false_iff_eq]; omega), if_pos (by omega), if_pos (by rw [bne_iff_ne]; omega)]
 ·left
  refine bad 3 (by decide) ?_
  unfold z1x
  rw [hck, Option.bind_some, if_neg (by decide), if_neg (by rw [bne_eq_false_iff_eq]; omega)]
theorem v1c {n : Nat} (hn : n <= 1000) {x : Nat -> Rat} (h : ∀ j, j < n -> OkR (x j)) : WV (xt n x) := ⟨by rw [y7n]; omega, fun s hs => by
  obtain ⟨r, hr, rfl⟩ := List.mem_map.1 hs
  obtain ⟨j, hj, rfl⟩ := List.mem_map.1 hr
  exact w6h (h j (List.mem_range.1 hj))⟩
theorem yh8 {l l' : List Rat} (h : l.map rt = l'.map rt) : l = l' := (List.map_inj_right fun _ _ h => wr3 h).1 h
theorem yh4 {l : List Rat} (h : ∀ r, r ∈ l -> 0 <= r) : ∀ i, i < l.length -> 0 <= l.getD i 0 := fun i hi => by rw [z2u l i 0 hi]; exact h _ (List.getElem_mem _)
theorem w7n (a : List (List ByteArray)) (x y : List ByteArray) (ha : WM a) (hx : WV x) (hy : WV y) : z3h fuel a x y = some true := by
 unfold z3h
 rw [ya8, Option.bind_some, if_neg (by decide)]
 obtain ⟨r, hr, hs⟩ := w8d (l := [a, [x, y]]) (by simp) (fun v hv => by
   rcases List.mem_cons.1 hv with rfl | hv
   · exact ha
   · rw [List.mem_singleton] at hv; subst hv
     exact wy9 (by simp) fun v hv => by
       rcases List.mem_cons.1 hv with rfl | hv
       · exact hx
       · rw [List.mem_singleton] at hv; subst hv; exact hy) 4
 have hr : z4i fuel 4 [a, [x, y]] = some r := hr
 rw [hr, Option.bind_some]
 cases r with
 | false => rw [if_pos (by decide)]
 | true =>
  have s1 := hs rfl a (by simp)
  rw [if_neg (by decide)]
  rcases w3u ha with ⟨e, e0, h⟩ | ⟨h, R, C, M, hR0, _, hC0, _, hC, hT⟩
  ·rw [w7o e0 h, Option.bind_some, if_pos (by simpa using e0)]
  ·have hR : R <= 4 := by rw [<- hT.1]; exact s1.1
   have hC5 : C <= 4 := by rw [<- hC]; exact (s1.2 0 (by rw [hT.1]; exact hR0)).1
   have dA := v2a hT s1
   obtain ⟨D, D1, D2, D3⟩ := wg5 (R := R) (C := C) (by omega) (by omega) dA
   obtain ⟨p, q, V, D', hE, g1, dV, E1, E2, fp, fq⟩ := wv1 300 1666 hR0 (by omega) hC0 (by omega) hT D1 D2 (by omega) (by omega) D3 h
   have hV := zy1 dV (by decide) (by decide)
   have op : ∀ i, i < R -> OkR (p i) := fun i hi => zy1 ((fp i hi).dr E1 E2) (by decide) (by decide)
   have oq : ∀ i, i < C -> OkR (q i) := fun i hi => zy1 ((fq i hi).dr E1 E2) (by decide) (by decide)
   clear E2 D2 dV
   have k1 := w69 hR0 (by omega) (by omega) hT h (v1c (by omega) op) hy
   have k2 := w69 hR0 (by omega) (by omega) hT h hx (v1c (by omega) oq)
   obtain ⟨p0, q0, p1, q1, e5, e6⟩ := hE
   have two : ∃ r5 : ByteArray × Int, z36 fuel a x (xt C q) = some r5 /\ (r5.2 = 0 -> ∃ r, r5.1 = rt r /\ OkR r /\ r <= V) := by
    rcases k2 with ⟨t, e, e0, k2⟩ | ⟨ps, qs, hps, hqs, lp, lq, pn, qn, ps1, qs1, ok, k2⟩
    ·exact ⟨_, k2, fun h => absurd h e0⟩
    ·refine ⟨_, k2, fun _ => ⟨_, rfl, ok, ?_⟩⟩
     have hq : qs = (List.range C).map q := (yh8 hqs).symm
     refine w68 (fun i hi => yh4 pn i (by omega)) (by rw [<- ps1, w1k, lp]) fun i hi => ?_
     have e : fs (fun j => M i j * qs.getD j 0) C = fs (fun j => M i j * q j) C := z1k fun j hj => by rw [hq, w4x hj]
     rw [e]; exact e5 i hi
   obtain ⟨r5, k2, k3⟩ := two
   have one : ∃ r4 : ByteArray × Int, z36 fuel a (xt R p) y = some r4 /\ (r4.2 = 0 -> ∃ r, r4.1 = rt r /\ OkR r /\ V <= r) := by
    rcases k1 with ⟨t, e, e0, k1⟩ | ⟨ps, qs, hps, hqs, lp, lq, pn, qn, ps1, qs1, ok, k1⟩
    ·exact ⟨_, k1, fun h => absurd h e0⟩
    ·refine ⟨_, k1, fun _ => ⟨_, rfl, ok, ?_⟩⟩
     have hp : ps = (List.range R).map p := (yh8 hps).symm
     refine w67 (fun i hi => yh4 qn i (by omega)) (by rw [<- qs1, w1k, lq]) fun j hj => ?_
     have e : fs (fun i => ps.getD i 0 * M i j) R = fs (fun i => p i * M i j) R := z1k fun i hi => by rw [hp, w4x hi]
     rw [e]; exact e6 j hj
   obtain ⟨r4, k1, k4⟩ := one
   rw [g1, Option.bind_some, if_neg (show ¬ ((0 : Int) != 0) = true by decide)]
   dsimp only
   rw [k1, Option.bind_some, k2, Option.bind_some]
   have fin : (if (r5.2 == 0) = true then (z6m fuel r5.1 (rt V)).bind fun r8 => if (r8.2 != 0) = false then (if decide (r8.1 > 0) = true then some false else some true) else some false else some true) = some true := by
    by_cases z : r5.2 = 0
    ·obtain ⟨r, h1, h2, h3⟩ := k3 z
     rw [if_pos (by simpa using z), h1, yj0 h2 hV, Option.bind_some, if_pos (by simp)]
     have := yv6.2 (show r - V <= 0 by grind)
     rw [if_neg (show ¬ decide ((r - V).num.sign > 0) = true by rw [decide_eq_true_eq]; omega)]
    ·rw [if_neg (by simpa using z)]
   by_cases z : r4.2 = 0
   ·obtain ⟨r, h1, h2, h3⟩ := k4 z
    rw [if_pos (by simpa using z), h1, yj0 h2 hV, Option.bind_some, if_pos (by simp), if_neg (show ¬ decide ((r - V).num.sign < 0) = true by rw [decide_eq_true_eq]; exact zn2.2 (by grind))]
    exact fin
   ·rw [if_neg (by simpa using z)]
    exact fin
theorem matgameSafe_plain : ∀ x : List (List ByteArray) × (List ByteArray × List ByteArray), WfL [.slice (.slice .str), .slice .str, .slice .str] x -> z3h fuel x.1 x.2.1 x.2.2 = some true :=
 fun x h => w7n x.1 x.2.1 x.2.2 (v2d h.1) (v1b h.2.1) (v1b h.2.2)
end Go.Proofs.YtcdcoeofhnfjdaaGreatDoor
