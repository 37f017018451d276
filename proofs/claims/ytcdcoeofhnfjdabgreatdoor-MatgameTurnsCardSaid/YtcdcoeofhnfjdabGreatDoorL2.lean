/- What the pure functions of this claim compute, and what follows from it: part 2. -/
import Derived.Test.YtcdcoeofhnfjdabGreatDoorL1
set_option maxHeartbeats 1000000
set_option linter.unusedVariables false
namespace Go.Proofs.YtcdcoeofhnfjdabGreatDoor
open Go Vm
theorem wm5 {n c d : Nat} (hc : c < n) (hd : d < n) (hne : c ≠ d) (u v : Nat -> Rat) (M : Nat -> Nat -> Rat) : det n (upd c u (upd d v M)) = - det n (upd c v (upd d u M)) := by
 have comm : ∀ (x y : Nat -> Rat), upd c x (upd d y M) = upd d y (upd c x M) := fun x y => by
  funext i k
  unfold upd
  by_cases e1 : k = c
  ·rw [if_pos e1, if_neg (fun e => hne (e1.symm.trans e)), if_pos e1]
  ·rw [if_neg e1]
   by_cases e2 : k = d
   ·rw [if_pos e2, if_pos e2]
   ·rw [if_neg e2, if_neg e2, if_neg e1]
 have same : ∀ x : Nat -> Rat, det n (upd c x (upd d x M)) = 0 := fun x => yx0 hc hd hne fun i _ => by
  unfold upd
  rw [if_pos rfl, if_neg (fun e => hne e.symm), if_pos rfl]
 have h1 := same fun i => 1 * u i + 1 * v i
 rw [zx5 hc, comm, comm, zx5 hd, zx5 hd, <- comm, <- comm, <- comm, <- comm, same, same] at h1
 grind
structure Bas (m N : Nat) (M B R : Nat -> Nat -> Rat) : Prop where
 eq : ∀ i, i < m -> ∀ c, c < N -> fs (fun r => B i r * R r c) m = M i c
 nz : det m B ≠ 0
def sw (p q r : Nat) : Nat := if r = p then q else if r = q then p else r
theorem v38 {p q r m : Nat} (hp : p < m) (hq : q < m) (hr : r < m) : sw p q r < m := by unfold sw; split; exact hq; split; exact hp; exact hr
theorem wx8 {f : Nat -> Rat} {p q : Nat} : ∀ {m : Nat}, p < m -> q < m -> fs (fun r => f (sw p q r)) m = fs f m := by
 have one : ∀ {f : Nat -> Rat} {p v : Nat} {w : Rat} {m : Nat}, p < m -> (∀ r, r ≠ p -> f r = f r) -> fs (fun r => if r = p then w else f r) m = fs f m - f p + w := by
  intro f p v w m
  induction m with
  | zero => intro h; omega
  | succ m ih =>
   intro h _
   rw [fs, fs]
   by_cases e : m = p
   ·subst e
    rw [if_pos rfl, z1h (g := f) fun j hj => by rw [if_neg (by omega)]]; grind
   ·rw [if_neg e, ih (by omega) fun _ _ => rfl]; grind
 intro m hp hq
 by_cases e : p = q
 ·subst e
  refine z1h fun r _ => ?_
  unfold sw
  by_cases h : r = p
  ·rw [if_pos h, h]
  ·rw [if_neg h, if_neg h]
 ·have e1 : fs (fun r => f (sw p q r)) m = fs (fun r => if r = p then f q else (fun r => if r = q then f p else f r) r) m := z1h fun r _ => by
   unfold sw
   by_cases h1 : r = p
   ·rw [if_pos h1, if_pos h1]
   ·rw [if_neg h1, if_neg h1]
    show f (if r = q then p else r) = if r = q then f p else f r
    by_cases h2 : r = q
    ·rw [if_pos h2, if_pos h2]
    ·rw [if_neg h2, if_neg h2]
  rw [e1, one (v := 0) hp fun _ _ => rfl, one (v := 0) hq fun _ _ => rfl, if_neg e]; grind
theorem Bas.swap {m N : Nat} {M B R : Nat -> Nat -> Rat} (h : Bas m N M B R) {p q : Nat} (hp : p < m) (hq : q < m) : Bas m N M (fun i r => B i (sw p q r)) (fun r c => R (sw p q r) c) := by
 refine ⟨fun i hi c hc => ?_, ?_⟩
 ·rw [<- h.eq i hi c hc]
  exact wx8 (f := fun r => B i r * R r c) hp hq
 ·by_cases e : p = q
  ·subst e
   have : (fun i r => B i (sw p p r)) = B := by
    funext i r
    unfold sw
    by_cases h1 : r = p
    ·rw [if_pos h1, h1]
    ·rw [if_neg h1, if_neg h1]
   rw [this]; exact h.nz
  ·have h1 := wm5 hp hq e (fun i => B i p) (fun i => B i q) B
   rw [y1a q B, y1a p B] at h1
   have h2 : upd p (fun i => B i q) (upd q (fun i => B i p) B) = fun i r => B i (sw p q r) := by
    funext i r
    unfold upd sw
    by_cases g1 : r = p
    ·rw [if_pos g1, if_pos g1]
    ·rw [if_neg g1, if_neg g1]
     by_cases g2 : r = q
     ·rw [if_pos g2, if_pos g2]
     ·rw [if_neg g2, if_neg g2]
   have h3 : upd p (fun i => B i p) (upd q (fun i => B i q) B) = B := by rw [y1a q B, y1a p B]
   rw [h2] at h1
   intro h0
   rw [h0] at h1
   exact h.nz (by first | (rw [h1]; grind) | grind)
def piv (p k : Nat) (R : Nat -> Nat -> Rat) (r c : Nat) : Rat := if r = p then R p c / R p k else R r c - R r k * (R p c / R p k)
theorem ws7 {f g : Nat -> Rat} {p : Nat} : ∀ {m : Nat}, p < m -> (∀ r, r < m -> r ≠ p -> f r = g r) -> fs f m = fs g m - g p + f p
 | 0, h, _ => by omega
 | m + 1, h, h1 => by
  rw [fs, fs]
  by_cases e : m = p
  ·subst e
   rw [z1h (g := g) fun r hr => h1 r (by omega) (by omega)]; grind
  ·rw [ws7 (g := g) (by omega) fun r hr => h1 r (by omega), h1 m (by omega) e]; grind
theorem Bas.pivot {m N : Nat} {M B R : Nat -> Nat -> Rat} (h : Bas m N M B R) {p k : Nat} (hp : p < m) (hk : k < N) (h0 : R p k ≠ 0) : Bas m N M (upd p (fun i => M i k) B) (piv p k R) := by
 refine ⟨fun i hi c hc => ?_, ?_⟩
 ·have e1 := h.eq i hi c hc
  have e2 := h.eq i hi k hk
  have h3 : fs (fun r => upd p (fun i => M i k) B i r * piv p k R r c) m = fs (fun r => B i r * R r c - (B i r * R r k) * (R p c / R p k)) m - (B i p * R p c - (B i p * R p k) * (R p c / R p k)) + M i k * (R p c / R p k) := by
   rw [ws7 (g := fun r => B i r * R r c - (B i r * R r k) * (R p c / R p k)) hp fun r _ hr => by
     unfold upd piv
     rw [if_neg hr, if_neg hr]; grind]
   unfold upd piv
   rw [if_pos rfl, if_pos rfl]
  have h4 : fs (fun r => B i r * R r c - (B i r * R r k) * (R p c / R p k)) m = M i c - M i k * (R p c / R p k) := by
   have : (fun r => B i r * R r c - (B i r * R r k) * (R p c / R p k)) = fun r => B i r * R r c + (B i r * R r k) * (-(R p c / R p k)) := by funext r; grind
   rw [this, ya2, za1, e1, e2]; grind
  rw [h3, h4]
  have h5 : R p k * (R p c / R p k) = R p c := by rw [Rat.div_def]; grind
  grind
 ·rw [wa7 (x := fun r => R r k) hp fun i hi => h.eq i hi k hk]
  intro e
  rcases Rat.mul_eq_zero.1 e with e | e
  ·exact h0 e
  ·exact h.nz e
theorem Bas.elem {m N : Nat} {M B R : Nat -> Nat -> Rat} (h : Bas m N M B R) {r c : Nat} (hr : r < m) (hc : c < N) : R r c = det m (upd r (fun i => M i c) B) / det m B := by
 have h1 := wa7 (x := fun r => R r c) (b := fun i => M i c) hr fun i hi => h.eq i hi c hc
 have h2 := h.nz
 rw [h1, Rat.div_def]
 have h2' : det m B * (det m B)⁻¹ = 1 := Rat.mul_inv_cancel _ h2
 grind
end Go.Proofs.YtcdcoeofhnfjdabGreatDoor
namespace Go.Proofs.YtcdcoeofhnfjdabGreatDoor
open Go Vm
theorem Ab.mul {B C : Nat} {r s : Rat} (h : Ab B r) (k : Ab C s) : Ab (B * C) (r * s) := by
 obtain ⟨h1, h2⟩ := h
 obtain ⟨k1, k2⟩ := k
 have a1 : 0 <= (B : Rat) - r := by grind
 have a2 : 0 <= (B : Rat) + r := by grind
 have b1 : 0 <= (C : Rat) - s := by grind
 have b2 : 0 <= (C : Rat) + s := by grind
 have e1 := Rat.mul_nonneg a1 b2
 have e2 := Rat.mul_nonneg a2 b1
 have e3 := Rat.mul_nonneg a1 b1
 have e4 := Rat.mul_nonneg a2 b2
 constructor
 ·rw [Rat.natCast_mul]; grind
 ·rw [Rat.natCast_mul]; grind
theorem Zd.fs {D : Nat} (hD : D ≠ 0) {f : Nat -> Rat} : ∀ {n : Nat}, (∀ j, j < n -> Zd D (f j)) -> Zd D (Go.Proofs.YtcdcoeofhnfjdabGreatDoor.fs f n)
 | 0, _ => Zd.zero
 | n + 1, h => (Zd.fs hD fun j hj => h j (by omega)).add hD (h n (by omega))
theorem Ab.fs {B : Nat} {f : Nat -> Rat} : ∀ {n : Nat}, (∀ j, j < n -> Ab B (f j)) -> Ab (n * B) (Go.Proofs.YtcdcoeofhnfjdabGreatDoor.fs f n)
 | 0, _ => Ab.zero _
 | n + 1, h => ((Ab.fs fun j hj => h j (by omega)).add (h n (by omega))).mono (by rw [Nat.succ_mul]; exact Nat.le_refl _)
def pd (δ : Nat -> Nat) : Nat -> Nat
 | 0 => 1
 | n + 1 => δ 0 * pd (fun i => δ (i + 1)) n
 termination_by n => n
def fc : Nat -> Nat
 | 0 => 1
 | n + 1 => (n + 1) * fc n
theorem w4v : ∀ {n : Nat} {δ : Nat -> Nat}, (∀ i, i < n -> δ i ≠ 0) -> pd δ n ≠ 0
 | 0, _, _ => by simp [pd]
 | n + 1, δ, h => by
  rw [pd]
  exact Nat.mul_ne_zero (h 0 (by omega)) (w4v fun i hi => h (i + 1) (by omega))
theorem wz8 : ∀ {n e : Nat} {δ : Nat -> Nat}, (∀ i, i < n -> δ i <= 10 ^ e) -> pd δ n <= 10 ^ (e * n)
 | 0, _, _, _ => by simp [pd]
 | n + 1, e, δ, h => by
  rw [pd, Nat.mul_succ, Nat.add_comm, Nat.pow_add]
  exact Nat.mul_le_mul (h 0 (by omega)) (wz8 fun i hi => h (i + 1) (by omega))
theorem yh4 : ∀ {n : Nat} {M : Nat -> Nat -> Rat} {δ : Nat -> Nat} {β : Nat}, (∀ i, i < n -> δ i ≠ 0) -> (∀ i, i < n -> ∀ k, k < n -> Zd (δ i) (M i k) /\ Ab β (M i k)) -> Zd (pd δ n) (det n M) /\ Ab (fc n * β ^ n) (det n M)
 | 0, M, δ, β, _, _ => by
  have e : det 0 M = 1 := rfl
  rw [e]
  refine ⟨?_, ?_⟩
  ·rw [pd]; exact Zd.den 1
  ·have h : Ab 1 1 := ⟨Rat.le_refl, by decide⟩
   exact h.mono (by simp [fc])
 | n + 1, M, δ, β, h0, h => by
  have hz : δ 0 * pd (fun i => δ (i + 1)) n ≠ 0 := Nat.mul_ne_zero (h0 0 (by omega)) (w4v fun i hi => h0 (i + 1) (by omega))
  have key : ∀ j, j < n + 1 -> Zd (δ 0 * pd (fun i => δ (i + 1)) n) (sg j * M 0 j * det n fun i k => M (i + 1) (mi j k)) /\ Ab (β * (fc n * β ^ n)) (sg j * M 0 j * det n fun i k => M (i + 1) (mi j k)) := fun j hj => by
   obtain ⟨i1, i2⟩ := yh4 (M := fun i k => M (i + 1) (mi j k)) (δ := fun i => δ (i + 1)) (β := β) (fun i hi => h0 (i + 1) (by omega)) fun i hi k hk => h (i + 1) (by omega) (mi j k) (v1p hk)
   obtain ⟨m1, m2⟩ := h 0 (by omega) j hj
   have s1 : Zd (δ 0) (sg j * M 0 j) /\ Ab β (sg j * M 0 j) := by
    unfold sg
    split
    ·rw [Rat.one_mul]; exact ⟨m1, m2⟩
    ·have : (-1 : Rat) * M 0 j = -(M 0 j) := by grind
     rw [this]; exact ⟨m1.neg, m2.neg⟩
   exact ⟨s1.1.mul i1, s1.2.mul i2⟩
  refine ⟨?_, ?_⟩
  ·rw [pd]
   exact Zd.fs hz fun j hj => (key j hj).1
  ·refine (Ab.fs fun j hj => (key j hj).2).mono (Nat.le_of_eq ?_)
   rw [fc, Nat.pow_succ, Nat.mul_assoc, Nat.mul_left_comm β, Nat.mul_comm β]
theorem yd8 {B P : Nat} (hP : P ≠ 0) {z : Int} (h : Ab B (mkRat z P)) : z.natAbs <= B * P := by
 have e : ((z : Int) : Rat) = mkRat z P * ((P : Nat) : Rat) := by
  have e1 : ((P : Nat) : Rat) = mkRat (P : Int) 1 := by rw [Rat.mkRat_one]; rfl
  have e2 : ((z : Int) : Rat) = mkRat z 1 := (Rat.mkRat_one z).symm
  rw [e1, e2, Rat.mkRat_mul_mkRat, Nat.mul_one]
  have := Rat.mkRat_mul_right (n := z) (d := 1) hP
  rw [Nat.one_mul] at this
  exact this.symm
 have hP0 : (0 : Rat) <= ((P : Nat) : Rat) := by
  have := y8z (Nat.zero_le P)
  exact this
 have u1 := Rat.mul_le_mul_of_nonneg_right h.1 hP0
 have u2 := Rat.mul_le_mul_of_nonneg_right h.2 hP0
 rw [<- e, <- Rat.natCast_mul] at u1
 rw [<- e, Rat.neg_mul, <- Rat.natCast_mul] at u2
 rw [Rat.le_iff, Rat.num_intCast, Rat.den_intCast, Rat.num_natCast, Rat.den_natCast] at u1
 rw [Rat.le_iff, Rat.neg_num, Rat.neg_den, Rat.num_intCast, Rat.den_intCast, Rat.num_natCast, Rat.den_natCast] at u2
 omega
theorem wg3 {z : Int} {D : Nat} : (mkRat z D).num.natAbs <= z.natAbs := by
 by_cases hD : D = 0
 ·subst hD; simp
 ·rw [Rat.num_mkRat, if_neg hD, Int.natAbs_ediv_of_dvd (by exact Int.ofNat_dvd_left.2 (Nat.gcd_dvd_right ..))]
  exact Nat.div_le_self _ _
theorem wz9 {P B e : Nat} (hP : P ≠ 0) {a b : Rat} (ha : Zd P a) (hb : Zd P b) (hA : Ab B a) (hB : Ab B b) (h0 : b ≠ 0) (he : B * P < 10 ^ e) : Dr e (a / b) := by
 obtain ⟨z1, rfl⟩ := ha
 obtain ⟨z2, rfl⟩ := hb
 have n1 := yd8 hP hA
 have n2 := yd8 hP hB
 have hz2 : z2 ≠ 0 := fun h => h0 (by rw [h, Rat.zero_mkRat])
 have e1 : mkRat z1 P / mkRat z2 P = mkRat (z1 * z2.sign) z2.natAbs := by
  have h1 : mkRat (z1 * z2.sign) z2.natAbs * mkRat z2 P = mkRat z1 P := by
   rw [Rat.mkRat_mul_mkRat]
   have : z1 * z2.sign * z2 = z1 * (z2.natAbs : Int) := by
    rw [Int.mul_assoc, Int.mul_comm z2.sign, Int.mul_sign_self]
   rw [this, Nat.mul_comm, Rat.mkRat_mul_right (by omega)]
  rw [<- h1, Rat.div_def, Rat.mul_assoc, Rat.mul_inv_cancel _ h0, Rat.mul_one]
 rw [e1]
 have hs : (z1 * z2.sign).natAbs <= z1.natAbs := by
  rw [Int.natAbs_mul, Int.natAbs_sign_of_ne_zero hz2, Nat.mul_one]
  exact Nat.le_refl _
 refine ⟨?_, ?_⟩
 ·have := wg3 (z := z1 * z2.sign) (D := z2.natAbs)
  omega
 ·rw [Rat.den_mkRat, if_neg (by omega)]
  have := Nat.div_le_self z2.natAbs (z2.natAbs.gcd (z1 * z2.sign).natAbs)
  omega
end Go.Proofs.YtcdcoeofhnfjdabGreatDoor
namespace Go.Proofs.YtcdcoeofhnfjdabGreatDoor
open Go Vm
theorem QG.ext {R C : Nat} {M M' : Nat -> Nat -> Rat} {g : List (List Qd)} (h : QG R C M g) (e : ∀ i, i < R -> ∀ j, j < C -> M i j = M' i j) : QG R C M' g := ⟨h.1, fun i hi => (h.2 i hi).ext (e i hi)⟩
theorem QG.set {R C : Nat} {M : Nat -> Nat -> Rat} {g : List (List Qd)} (h : QG R C M g) {i j : Nat} (hi : i < R) (hj : j < C) {v : Rat} {q : Qd} (hq : QR v q) : QG R C (fun r c => if r = i /\ c = j then v else M r c) (g.set i ((g.getD i []).set j q)) := by
 refine ⟨by rw [List.length_set]; exact h.1, fun r hr => ?_⟩
 by_cases e : r = i
 ·subst e
  rw [yx6 _ _ _ (by rw [h.1]; exact hr)]
  refine ((h.2 r hr).set hj hq).ext fun c _ => ?_
  show _ = if r = r /\ c = j then v else M r c
  by_cases e2 : c = j
  ·rw [if_pos e2, if_pos ⟨rfl, e2⟩]
  ·rw [if_neg e2, if_neg fun h => e2 h.2]
 ·rw [yo7 _ _ e]
  refine (h.2 r hr).ext fun c _ => ?_
  show _ = if r = i /\ c = j then v else M r c
  rw [if_neg fun h => e h.1]
def dv (p k c : Nat) (T : Nat -> Nat -> Rat) (r q : Nat) : Rat := if r = p /\ q < c then T p q / T p k else T r q
def sbt (p i c : Nat) (f : Rat) (V : Nat -> Nat -> Rat) (r q : Nat) : Rat := if r = i /\ q < c then V i q - f * V p q else V r q
def cl (p k i : Nat) (V : Nat -> Nat -> Rat) (r q : Nat) : Rat := if r < i /\ r ≠ p then V r q - V r k * V p q else V r q
end Go.Proofs.YtcdcoeofhnfjdabGreatDoor
namespace Go.Proofs.YtcdcoeofhnfjdabGreatDoor
open Go Vm
end Go.Proofs.YtcdcoeofhnfjdabGreatDoor
namespace Go.Proofs.YtcdcoeofhnfjdabGreatDoor
open Go Vm
def Cls (m N : Nat) (M B : Nat -> Nat -> Rat) : Prop := ∀ r, r < m -> (∃ c, c < N /\ ∀ i, B i r = M i c) \/ (∃ c, ∀ i, B i r = if i = c then 1 else 0)
theorem Cls.swap {m N : Nat} {M B : Nat -> Nat -> Rat} (h : Cls m N M B) {p q : Nat} (hp : p < m) (hq : q < m) : Cls m N M fun i r => B i (sw p q r) := fun r hr => h (sw p q r) (v38 hp hq hr)
theorem Cls.pivot {m N : Nat} {M B : Nat -> Nat -> Rat} (h : Cls m N M B) {p k : Nat} (hk : k < N) : Cls m N M (upd p (fun i => M i k) B) := fun r hr => by
 by_cases e : r = p
 ·refine .inl ⟨k, hk, fun i => ?_⟩
  unfold upd
  rw [if_pos e]
 ·rcases h r hr with ⟨c, hc, h1⟩ | ⟨c, h1⟩
  ·refine .inl ⟨c, hc, fun i => ?_⟩
   unfold upd
   rw [if_neg e, h1 i]
  ·refine .inr ⟨c, fun i => ?_⟩
   unfold upd
   rw [if_neg e, h1 i]
theorem wh6 : ∀ {n : Nat} {δ : Nat -> Nat} {c : Nat}, c < n -> (∀ i, i < n -> δ i ≠ 0) -> ∃ e, e ≠ 0 /\ pd δ n = δ c * e
 | 0, _, _, h, _ => by omega
 | n + 1, δ, c, h, h0 => by
  rw [pd]
  by_cases e : c = 0
  ·subst e
   exact ⟨_, w4v fun i hi => h0 (i + 1) (by omega), rfl⟩
  ·obtain ⟨d, rfl⟩ : ∃ d, c = d + 1 := ⟨c - 1, by omega⟩
   obtain ⟨e, e0, he⟩ := wh6 (δ := fun i => δ (i + 1)) (c := d) (n := n) (by omega) fun i hi => h0 (i + 1) (by omega)
   refine ⟨δ 0 * e, Nat.mul_ne_zero (h0 0 (by omega)) e0, ?_⟩
   rw [he, Nat.mul_left_comm]
theorem Zd.one (D : Nat) (h : D ≠ 0) : Zd D 1 := by
 have := (Zd.den 1).more h
 rwa [show (1 : Rat).den = 1 from rfl, Nat.one_mul] at this
def Good (m N K : Nat) (M : Nat -> Nat -> Rat) : Prop := ∀ B T, Bas m N M B T -> Cls m N M B -> (∀ r, r < m -> ∀ c, c < N -> Dr K (T r c)) /\ Dr K (det m B)
def one (i r : Nat) : Rat := if i = r then 1 else 0
theorem ya3 {f : Nat -> Rat} {c : Nat} : ∀ {n : Nat}, c < n -> fs (fun r => one c r * f r) n = f c
 | 0, h => by omega
 | n + 1, h => by
  rw [fs]
  by_cases e : c = n
  ·have : fs (fun r => one c r * f r) n = fs (fun _ => 0) n := z1h fun r hr => by unfold one; rw [if_neg (by omega)]; grind
   rw [this, z4k, <- e]
   unfold one
   rw [if_pos rfl]; grind
  ·rw [ya3 (by omega)]
   unfold one
   rw [if_neg e]; grind
theorem wb3 : ∀ n : Nat, det n one = 1
 | 0 => rfl
 | n + 1 => by
  rw [det]
  have : fs (fun j => sg j * one 0 j * det n fun i k => one (i + 1) (mi j k)) (n + 1) = fs (fun j => one 0 j * (sg j * det n fun i k => one (i + 1) (mi j k))) (n + 1) := z1h fun j _ => by grind
  rw [this, ya3 (by omega)]
  have e : det n (fun i k => one (i + 1) (mi 0 k)) = det n one := y8k fun i _ k _ => by
   have e0 : mi 0 k = k + 1 := by unfold mi; rw [if_neg (by omega)]
   rw [e0]
   unfold one
   by_cases h : i = k
   ·rw [if_pos (by omega), if_pos h]
   ·rw [if_neg (by omega), if_neg h]
  rw [e, wb3 n]
  unfold sg
  rw [if_pos rfl]; grind
end Go.Proofs.YtcdcoeofhnfjdabGreatDoor
namespace Go.Proofs.YtcdcoeofhnfjdabGreatDoor
open Go Vm
theorem Bas.zero {m N : Nat} {M B R : Nat -> Nat -> Rat} (h : Bas m N M B R) {x : Nat -> Rat} (h0 : ∀ i, i < m -> fs (fun r => B i r * x r) m = 0) {r : Nat} (hr : r < m) : x r = 0 := by
 have h1 := wa7 (x := x) (b := fun _ => 0) hr h0
 have h2 := zx5 hr 0 0 (fun _ => 0) (fun _ => 0) B
 have e : (fun _ : Nat => (0 : Rat) * (fun _ => 0) (0 : Nat) + 0 * (fun _ => 0) (0 : Nat)) = fun _ => 0 := by funext _; grind
 have h2 : det m (upd r (fun _ => 0) B) = 0 := by
  have e2 : (fun i : Nat => (0 : Rat) * (fun _ => 0) i + 0 * (fun _ => 0) i) = fun _ => 0 := by funext _; grind
  rw [e2] at h2
  rw [h2]; grind
 rw [h2] at h1
 rcases Rat.mul_eq_zero.1 h1.symm with h | h'
 ·exact h
 ·exact absurd h' h.nz
theorem Bas.uniq {m N : Nat} {M B R : Nat -> Nat -> Rat} (h : Bas m N M B R) {x x' : Nat -> Rat} (h0 : ∀ i, i < m -> fs (fun r => B i r * x r) m = fs (fun r => B i r * x' r) m) {r : Nat} (hr : r < m) : x r = x' r := by
 have := h.zero (x := fun r => x r + (-1) * x' r) (fun i hi => by
   have e : (fun r => B i r * (x r + (-1) * x' r)) = fun r => B i r * x r + (-1) * (B i r * x' r) := by funext r; grind
   rw [e, ya2, z9d, h0 i hi]; grind) hr
 grind
theorem yj0 {f : Nat -> Rat} (n : Nat) : fs (fun i => -(f i)) n = -(fs f n) := by
 have e : (fun i => -(f i)) = fun i => (-1) * f i := by funext i; grind
 rw [e, z9d]; grind
theorem ys4 {f g : Nat -> Rat} (n : Nat) : fs (fun i => f i - g i) n = fs f n - fs g n := by
 have e : (fun i => f i - g i) = fun i => f i + (-(g i)) := by funext i; grind
 rw [e, ya2, yj0]; grind
structure Tab (m n N : Nat) (M : Nat -> Nat -> Rat) (c : Nat -> Rat) (β : Nat -> Nat) (T : Nat -> Nat -> Rat) : Prop where
 bas : Bas m N M (fun i r => M i (β r)) T
 lt : ∀ i, i < m -> β i < N
 goal : ∃ y : Nat -> Rat, ∀ k, k < N -> T m k = fs (fun j => y j * M j k) m - c k
 zero : ∀ i, i < m -> T m (β i) = 0
section
variable {m n N : Nat} {M : Nat -> Nat -> Rat} {c : Nat -> Rat} {β : Nat -> Nat} {T : Nat -> Nat -> Rat}
theorem Bas.unit (h : Bas m N M (fun i r => M i (β r)) T) {r i : Nat} (hr : r < m) (hi : i < m) (hN : β i < N) : T r (β i) = one r i :=
 h.uniq (x := fun r => T r (β i)) (x' := fun r => one r i) (fun j hj => by
   rw [h.eq j hj _ hN]
   have e : fs (fun r => M j (β r) * one r i) m = fs (fun r => one i r * M j (β r)) m := z1h fun r _ => by
     rw [Rat.mul_comm]
     unfold one
     by_cases e : r = i
     · rw [if_pos e, if_pos e.symm]
     · rw [if_neg e, if_neg fun h => e h.symm]
   rw [e, ya3 hi]) hr
theorem Bas.inj (h : Bas m N M (fun i r => M i (β r)) T) {r i : Nat} (hr : r < m) (hi : i < m) (e : β r = β i) : r = i := by
 apply Decidable.byContradiction
 intro hne
 exact h.nz (yx0 hr hi hne fun j _ => by rw [e])
theorem Bas.comb (h : Bas m N M (fun i r => M i (β r)) T) (hn : n + m <= N) (hM : ∀ i, i < m -> ∀ j, j < m -> M i (n + j) = one i j) {r : Nat} (hr : r < m) {k : Nat} (hk : k < N) : T r k = fs (fun j => T r (n + j) * M j k) m := by
 refine h.uniq (x := fun r => T r k) (x' := fun r => fs (fun j => T r (n + j) * M j k) m) (fun i hi => ?_) hr
 rw [h.eq i hi k hk]
 have e : ∀ r, M i (β r) * fs (fun j => T r (n + j) * M j k) m = fs (fun j => M i (β r) * T r (n + j) * M j k) m := fun r => by
  rw [<- z9d]
  exact z1h fun j _ => by rw [Rat.mul_assoc]
 have e1 : fs (fun r => M i (β r) * fs (fun j => T r (n + j) * M j k) m) m = fs (fun r => fs (fun j => M i (β r) * T r (n + j) * M j k) m) m := z1h fun r _ => e r
 rw [e1, y8t]
 have e2 : fs (fun j => fs (fun r => M i (β r) * T r (n + j) * M j k) m) m = fs (fun j => one i j * M j k) m := z1h fun j hj => by
  rw [za1, h.eq i hi (n + j) (by omega), hM i hi j hj]
 rw [e2, ya3 hi]
def ub (p k : Nat) (β : Nat -> Nat) (r : Nat) : Nat := if r = p then k else β r
theorem Bas.pivot' (h : Bas m N M (fun i r => M i (β r)) T) {p k : Nat} (hp : p < m) (hk : k < N) (h0 : T p k ≠ 0) : Bas m N M (fun i r => M i (ub p k β r)) (piv p k T) := by
 have := h.pivot hp hk h0
 have e : upd p (fun i => M i k) (fun i r => M i (β r)) = fun i r => M i (ub p k β r) := by
  funext i r
  unfold upd ub
  by_cases e : r = p
  ·rw [if_pos e, if_pos e]
  ·rw [if_neg e, if_neg e]
 rwa [e] at this
theorem Tab.pivot (h : Tab m n N M c β T) (hn : n + m <= N) (hM : ∀ i, i < m -> ∀ j, j < m -> M i (n + j) = one i j) {p k : Nat} (hp : p < m) (hk : k < N) (h0 : T p k ≠ 0) : Tab m n N M c (ub p k β) (piv p k T) := by
 refine ⟨h.bas.pivot' hp hk h0, fun i hi => ?_, ?_, fun i hi => ?_⟩
 ·unfold ub
  split
  ·exact hk
  ·exact h.lt i hi
 ·obtain ⟨y, hy⟩ := h.goal
  refine ⟨fun j => y j - T m k / T p k * T p (n + j), fun q hq => ?_⟩
  unfold piv
  rw [if_neg (by omega), hy q hq, h.bas.comb hn hM hp hq]
  have e : (fun j => (y j - T m k / T p k * T p (n + j)) * M j q) = fun j => y j * M j q - (T m k / T p k) * (T p (n + j) * M j q) := by funext j; grind
  rw [e, ys4, z9d]
  simp only [Rat.div_def]; grind
 ·unfold piv
  rw [if_neg (by omega)]
  by_cases e : i = p
  ·have : ub p k β i = k := by unfold ub; rw [if_pos e]
   rw [this, Rat.div_def, Rat.mul_inv_cancel _ h0]; grind
  ·have : ub p k β i = β i := by unfold ub; rw [if_neg e]
   rw [this, h.zero i hi, h.bas.unit hp hi (h.lt i hi)]
   unfold one
   rw [if_neg fun h => e h.symm, Rat.div_def]; grind
theorem Bas.red (h : Bas m N M (fun i r => M i (β r)) T) (hl : ∀ i, i < m -> β i < N) {g y : Nat -> Rat} (hg : ∀ k, k < N -> g k = fs (fun j => y j * M j k) m - c k) {s : Nat} (hs : s < N) : g s - fs (fun i => g (β i) * T i s) m = fs (fun i => c (β i) * T i s) m - c s := by
 have e1 : fs (fun i => g (β i) * T i s) m = fs (fun i => fs (fun j => y j * (M j (β i) * T i s)) m - c (β i) * T i s) m := z1h fun i hi => by
  rw [hg _ (hl i hi)]
  have : fs (fun j => y j * (M j (β i) * T i s)) m = fs (fun j => y j * M j (β i)) m * T i s := by
   rw [<- za1]
   exact z1h fun j _ => by rw [Rat.mul_assoc]
  rw [this]; grind
 have e2 : fs (fun i => fs (fun j => y j * (M j (β i) * T i s)) m) m = fs (fun j => y j * M j s) m := by
  rw [y8t]
  refine z1h fun j hj => ?_
  rw [z9d, h.eq j hj s hs]
 rw [e1, ys4, e2, hg s hs]; grind
theorem Tab.red (h : Tab m n N M c β T) {s : Nat} (hs : s < N) : T m s = fs (fun i => c (β i) * T i s) m - c s := by
 obtain ⟨y, hy⟩ := h.goal
 have := h.bas.red h.lt hy hs
 have e : fs (fun i => T m (β i) * T i s) m = fs (fun _ => 0) m := z1h fun i hi => by rw [h.zero i hi]; grind
 rw [e, z4k] at this
 grind
theorem Tab.two {β' : Nat -> Nat} {T' : Nat -> Nat -> Rat} (h : Tab m n N M c β T) (h' : Tab m n N M c β' T') {s : Nat} (hs : s < N) : T' m s - fs (fun i => T' m (β i) * T i s) m = T m s := by
 obtain ⟨y, hy⟩ := h'.goal
 rw [h.bas.red h.lt hy hs, h.red hs]
end
end Go.Proofs.YtcdcoeofhnfjdabGreatDoor
namespace Go.Proofs.YtcdcoeofhnfjdabGreatDoor
open Go Vm
theorem wu0 : ∀ (L : Nat) (f : Nat -> Nat), (∀ j, j <= L -> f j < L) -> ∃ a b, a < b /\ b <= L /\ f a = f b
 | 0, f, h => by have := h 0 (Nat.le_refl _); omega
 | L + 1, f, h => by
  by_cases c : ∃ a, a <= L /\ f a = f (L + 1)
  ·obtain ⟨a, ha, e⟩ := c
   exact ⟨a, L + 1, by omega, by omega, e⟩
  ·have hne : ∀ a, a <= L -> f a ≠ f (L + 1) := fun a ha e => c ⟨a, ha, e⟩
   obtain ⟨a, b, hab, hb, e⟩ := wu0 L (fun j => if f j = L then f (L + 1) else f j) fun j hj => by
    have h1 := h j (by omega)
    have h2 := h (L + 1) (by omega)
    have h3 := hne j hj
    show (if f j = L then f (L + 1) else f j) < L
    split <;> omega
   refine ⟨a, b, hab, by omega, ?_⟩
   have e : (if f a = L then f (L + 1) else f a) = if f b = L then f (L + 1) else f b := e
   have h1 := hne a (by omega)
   have h2 := hne b (by omega)
   by_cases c1 : f a = L <;> by_cases c2 : f b = L
   ·omega
   ·rw [if_pos c1, if_neg c2] at e; omega
   ·rw [if_neg c1, if_pos c2] at e; omega
   ·rw [if_neg c1, if_neg c2] at e; exact e
def code (f : Nat -> Bool) : Nat -> Nat
 | 0 => 0
 | n + 1 => 2 * code f n + if f n then 1 else 0
theorem wa6 (f : Nat -> Bool) : ∀ n : Nat, code f n < 2 ^ n
 | 0 => Nat.zero_lt_one
 | n + 1 => by
  have := wa6 f n
  rw [code, Nat.pow_succ]
  split <;> omega
theorem code_inj {f g : Nat -> Bool} : ∀ {n : Nat}, code f n = code g n -> ∀ v, v < n -> f v = g v
 | 0, _, v, h => by omega
 | n + 1, h, v, hv => by
  rw [code, code] at h
  have h1 : code f n = code g n /\ f n = g n := by
   cases hf : f n <;> cases hg : g n <;> rw [hf, hg] at h <;> simp only [Bool.false_eq_true, if_false, if_true] at h
   ·exact ⟨by omega, rfl⟩
   ·omega
   ·omega
   ·exact ⟨by omega, rfl⟩
  by_cases e : v = n
  ·rw [e]; exact h1.2
  ·exact code_inj h1.1 v (by omega)
def isb (β : Nat -> Nat) : Nat -> Nat -> Bool
 | 0, _ => false
 | m + 1, v => isb β m v || β m == v
theorem zl6 {β : Nat -> Nat} {v : Nat} : ∀ {m : Nat}, isb β m v = true ↔ ∃ i, i < m /\ β i = v
 | 0 => by simp [isb]
 | m + 1 => by
  rw [isb, Bool.or_eq_true, zl6, beq_iff_eq]
  constructor
  ·rintro (⟨i, hi, e⟩ | e)
   ·exact ⟨i, by omega, e⟩
   ·exact ⟨m, by omega, e⟩
  ·rintro ⟨i, hi, e⟩
   by_cases h : i = m
   ·subst h; exact .inr e
   ·exact .inl ⟨i, by omega, e⟩
theorem change {f : Nat -> Bool} {a b : Nat} (ha : f a = true) (hb : f b = false) : ∀ d, b = a + d -> ∃ j, a <= j /\ j < b /\ f j = true /\ f (j + 1) = false
 | 0, e => by rw [show b = a by omega, ha] at hb; cases hb
 | d + 1, e => by
  by_cases c : f (a + d) = true
  ·exact ⟨a + d, by omega, by omega, c, by rw [show a + d + 1 = b by omega]; exact hb⟩
  ·obtain ⟨j, h1, h2, h3⟩ := change (b := a + d) ha (by simpa using c) d rfl
   exact ⟨j, h1, by omega, h3⟩
theorem yx7 {P : Nat -> Prop} : ∀ n : Nat, (∃ v, v < n /\ P v) -> ∃ t, t < n /\ P t /\ ∀ v, v < n -> P v -> v <= t
 | 0, ⟨v, h, _⟩ => by omega
 | n + 1, h => by
  by_cases c : P n
  ·exact ⟨n, by omega, c, fun v hv _ => by omega⟩
  ·obtain ⟨v, hv, hp⟩ := h
   have : v ≠ n := fun e => c (e ▸ hp)
   obtain ⟨t, h1, h2, h3⟩ := yx7 n ⟨v, by omega, hp⟩
   refine ⟨t, by omega, h2, fun v hv hp => ?_⟩
   have : v ≠ n := fun e => c (e ▸ hp)
   exact h3 v (by omega) hp
def Ent (m cols : Nat) (T : Nat -> Nat -> Rat) (k : Nat) : Prop := k < cols /\ T m k < 0 /\ ∀ q, q < k -> 0 <= T m q
def Lvs (m side : Nat) (β : Nat -> Nat) (T : Nat -> Nat -> Rat) (k p : Nat) : Prop :=
 p < m /\ 0 < T p k /\ ∀ i, i < m -> 0 < T i k -> T p side / T p k <= T i side / T i k /\ (T p side / T p k = T i side / T i k -> β p <= β i)
theorem y8l {a b : Rat} (ha : 0 <= a) (hb : 0 < b) : 0 <= a / b := by
 rw [Rat.div_def]
 exact Rat.mul_nonneg ha (Rat.le_of_lt (Rat.inv_pos.2 hb))
theorem w5y {a b : Rat} (hb : b ≠ 0) : b * (a / b) = a := by
 have := Rat.mul_inv_cancel b hb
 rw [Rat.div_def]; grind
theorem w8y {m side : Nat} {β : Nat -> Nat} {T : Nat -> Nat -> Rat} (h : ∀ i, i < m -> 0 <= T i side) {k p : Nat} (hl : Lvs m side β T k p) : ∀ i, i < m -> 0 <= piv p k T i side := fun i hi => by
 obtain ⟨hp, hpos, hmin⟩ := hl
 have hq := y8l (h p hp) hpos
 unfold piv
 by_cases e : i = p
 ·rw [if_pos e]; exact hq
 ·rw [if_neg e]
  have h1 := h i hi
  by_cases c : 0 < T i k
  ·have h2 := (hmin i hi c).1
   have h3 := Rat.mul_le_mul_of_nonneg_left h2 (Rat.le_of_lt c)
   rw [w5y (a := T i side) (by grind)] at h3
   grind
  ·have c' : 0 <= -(T i k) := by have := Rat.not_lt.1 c; grind
   have h2 := Rat.mul_nonneg c' hq
   grind
section
variable {m n N cols side : Nat} {M : Nat -> Nat -> Rat} {c : Nat -> Rat}
structure Chain (m n N cols side : Nat) (M : Nat -> Nat -> Rat) (c : Nat -> Rat) (L : Nat) (β : Nat -> Nat -> Nat) (T : Nat -> Nat -> Nat -> Rat) (k p : Nat -> Nat) : Prop where
 tab : ∀ j, j <= L -> Tab m n N M c (β j) (T j)
 pos : ∀ j, j <= L -> ∀ i, i < m -> 0 <= T j i side
 lt : ∀ j, j <= L -> ∀ i, i < m -> β j i < cols
 ent : ∀ j, j < L -> Ent m cols (T j) (k j)
 lvs : ∀ j, j < L -> Lvs m side (β j) (T j) (k j) (p j)
 bs : ∀ j, j < L -> β (j + 1) = ub (p j) (k j) (β j)
 ts : ∀ j, j < L -> T (j + 1) = piv (p j) (k j) (T j)
theorem wo2 {f g : Nat -> Rat} {n : Nat} (h : ∀ i, i < n -> f i <= g i) : fs f n <= fs g n := by
 have := zj7 (f := fun i => g i - f i) (n := n) fun i hi => by have := h i hi; grind
 rw [ys4] at this
 grind
theorem wl9 (hcs : cols <= side) (hsN : side < N) {L : Nat} {β : Nat -> Nat -> Nat} {T : Nat -> Nat -> Nat -> Rat} {k p : Nat -> Nat} (h : Chain m n N cols side M c L β T k p) : L < 2 ^ cols := by
 apply Decidable.byContradiction
 intro hL
 obtain ⟨a, b, hab, hb, hcode⟩ := wu0 (2 ^ cols) (fun j => code (isb (β j) m) cols) fun j _ => wa6 _ _
 have hsame : ∀ v, v < cols -> isb (β a) m v = isb (β b) m v := code_inj hcode
 have hbL : b <= L := by omega
 -- values do not fall
 have hval : ∀ j, j < L -> T j m side <= T (j + 1) m side /\ (T j m side = T (j + 1) m side -> T j (p j) side = 0) := fun j hj => by
  obtain ⟨hp, hpos, _⟩ := h.lvs j hj
  obtain ⟨_, hneg, _⟩ := h.ent j hj
  have hq := y8l (h.pos j (by omega) (p j) hp) hpos
  have e : T (j + 1) m side = T j m side - T j m (k j) * (T j (p j) side / T j (p j) (k j)) := by
   rw [h.ts j hj]
   unfold piv
   rw [if_neg (by omega)]
  have h1 : 0 <= -(T j m (k j)) := by grind
  have h2 := Rat.mul_nonneg h1 hq
  refine ⟨by rw [e]; grind, fun e' => ?_⟩
  rw [e] at e'
  have h3 : T j m (k j) * (T j (p j) side / T j (p j) (k j)) = 0 := by grind
  rcases Rat.mul_eq_zero.1 h3 with h4 | h4
  ·grind
  ·have h5 := w5y (a := T j (p j) side) (b := T j (p j) (k j)) (by grind)
   rw [h4] at h5; grind
 have hmono : ∀ d j, j + d <= L -> T j m side <= T (j + d) m side := fun d => by
  induction d with
  | zero => intro j _; exact Rat.le_refl
  | succ d ih =>
   intro j hj
   exact Rat.le_trans (ih j (by omega)) (hval (j + d) (by omega)).1
 have heq : T a m side = T b m side := by
  have h1 := (h.tab a (by omega)).two (h.tab b hbL) hsN
  have h2 : fs (fun i => T b m (β a i) * T a i side) m = fs (fun _ => 0) m := z1h fun i hi => by
   have h3 : isb (β b) m (β a i) = true := by
    rw [<- hsame _ (h.lt a (by omega) i hi)]
    exact zl6.2 ⟨i, hi, rfl⟩
   obtain ⟨i', hi', e'⟩ := zl6.1 h3
   rw [<- e', (h.tab b hbL).zero i' hi']; grind
  rw [h2, z4k] at h1
  grind
 have hconst : ∀ j, a <= j -> j < b -> T j (p j) side = 0 := fun j h1 h2 => by
  refine (hval j (by omega)).2 ?_
  have m1 := hmono (j - a) a (by omega)
  have m2 := (hval j (by omega)).1
  have m3 := hmono (b - (j + 1)) (j + 1) (by omega)
  rw [show a + (j - a) = j by omega] at m1
  rw [show j + 1 + (b - (j + 1)) = b by omega] at m3
  grind
 -- the values of the columns do not change
 have hxv : ∀ j, a <= j -> j < b -> ∀ v, fs (fun i => if β (j + 1) i = v then T (j + 1) i side else 0) m = fs (fun i => if β j i = v then T j i side else 0) m := fun j h1 h2 v => by
  have hz := hconst j h1 h2
  refine z1h fun i hi => ?_
  rw [h.bs j (by omega), h.ts j (by omega)]
  unfold ub piv
  have hz' : T j (p j) side / T j (p j) (k j) = 0 := by rw [hz, Rat.div_def]; grind
  rw [hz']
  by_cases e : i = p j
  ·rw [if_pos e, if_pos e, e, hz]
   by_cases e1 : k j = v <;> by_cases e2 : β j (p j) = v <;> simp [e1, e2]
  ·rw [if_neg e, if_neg e]
   have : T j i side - T j i (k j) * 0 = T j i side := by grind
   rw [this]
 have hxv' : ∀ d j, a <= j -> j + d <= b -> ∀ v, fs (fun i => if β (j + d) i = v then T (j + d) i side else 0) m = fs (fun i => if β j i = v then T j i side else 0) m := fun d => by
  induction d with
  | zero => intro j _ _ v; rfl
  | succ d ih =>
   intro j h1 h2 v
   have := hxv (j + d) (by omega) (by omega) v
   rw [show j + d + 1 = j + (d + 1) by omega] at this
   rw [this]
   exact ih j h1 (by omega) v
 have hinj : ∀ j, j <= L -> ∀ r i, r < m -> i < m -> β j r = β j i -> r = i := fun j hj r i hr hi e => (h.tab j hj).bas.inj hr hi e
 have hat : ∀ j, j <= L -> ∀ i, i < m -> fs (fun r => if β j r = β j i then T j r side else 0) m = T j i side := fun j hj i hi => by
  have e : fs (fun r => if β j r = β j i then T j r side else 0) m = fs (fun r => if r = i then T j i side else 0) m := z1h fun r hr => by
   by_cases e1 : r = i
   ·rw [if_pos e1, if_pos (by rw [e1]), e1]
   ·rw [if_neg e1, if_neg fun e2 => e1 (hinj j hj r i hr hi e2)]
  rw [e, wd3, if_pos hi]
 have hfick : ∀ j j', a <= j -> j <= b -> a <= j' -> j' <= b -> ∀ i, i < m -> isb (β j') m (β j i) = false -> T j i side = 0 := fun j j' h1 h2 h3 h4 i hi hn => by
  have g1 := hxv' (j - a) a (Nat.le_refl _) (by omega) (β j i)
  have g2 := hxv' (j' - a) a (Nat.le_refl _) (by omega) (β j i)
  rw [show a + (j - a) = j by omega, hat j (by omega) i hi] at g1
  rw [show a + (j' - a) = j' by omega] at g2
  have g3 : fs (fun r => if β j' r = β j i then T j' r side else 0) m = fs (fun _ => 0) m := z1h fun r hr => by
   rw [if_neg fun e => ?_]
   have : isb (β j') m (β j i) = true := zl6.2 ⟨r, hr, e⟩
   rw [hn] at this; cases this
  rw [g3, z4k] at g2
  rw [g1, <- g2]
 -- the yx7 column that changes
 have hbasic : ∀ j, j < L -> isb (β j) m (k j) = false /\ isb (β (j + 1)) m (k j) = true := fun j hj => by
  obtain ⟨hp, _, _⟩ := h.lvs j hj
  obtain ⟨_, hneg, _⟩ := h.ent j hj
  constructor
  ·cases hb : isb (β j) m (k j) with
   | false => rfl
   | true =>
    obtain ⟨i, hi, e⟩ := zl6.1 hb
    have := (h.tab j (by omega)).zero i hi
    rw [e] at this
    rw [this] at hneg
    exact absurd hneg (by decide)
  ·rw [h.bs j hj]
   exact zl6.2 ⟨p j, hp, by unfold ub; rw [if_pos rfl]⟩
 obtain ⟨t, htc, ⟨j1, j2, hj1, hj1', hj2, hj2', ht1, ht2⟩, hmax⟩ := yx7 (P := fun v => ∃ j j', a <= j /\ j <= b /\ a <= j' /\ j' <= b /\ isb (β j) m v = true /\ isb (β j') m v = false) cols
  ⟨k a, (h.ent a (by omega)).1, a + 1, a, by omega, by omega, by omega, by omega, (hbasic a (by omega)).2, (hbasic a (by omega)).1⟩
 have hleave : ∃ l, a <= l /\ l < b /\ isb (β l) m t = true /\ isb (β (l + 1)) m t = false := by
  by_cases c : j1 < j2
  ·obtain ⟨l, h1, h2, h3, h4⟩ := change (f := fun j => isb (β j) m t) ht1 ht2 (j2 - j1) (by omega)
   exact ⟨l, by omega, by omega, h3, h4⟩
  ·by_cases hbt : isb (β b) m t = true
   ·have hat' : isb (β a) m t = true := by rw [hsame t htc]; exact hbt
    obtain ⟨l, h1, h2, h3, h4⟩ := change (f := fun j => isb (β j) m t) hat' ht2 (j2 - a) (by omega)
    exact ⟨l, by omega, by omega, h3, h4⟩
   ·obtain ⟨l, h1, h2, h3, h4⟩ := change (f := fun j => isb (β j) m t) ht1 (by simpa using hbt) (b - j1) (by omega)
    exact ⟨l, by omega, by omega, h3, h4⟩
 have henter : ∃ e, a <= e /\ e < b /\ isb (β e) m t = false /\ isb (β (e + 1)) m t = true := by
  have flip : ∀ {x y : Nat}, isb (β x) m t = false -> isb (β y) m t = true -> x < y -> ∃ l, x <= l /\ l < y /\ isb (β l) m t = false /\ isb (β (l + 1)) m t = true := fun {x y} hx hy hxy => by
   obtain ⟨l, h1, h2, h3, h4⟩ := change (f := fun j => !isb (β j) m t) (a := x) (b := y) (by simpa using hx) (by simpa using hy) (y - x) (by omega)
   exact ⟨l, h1, h2, by simpa using h3, by simpa using h4⟩
  by_cases c : j2 < j1
  ·obtain ⟨l, h1, h2, h3⟩ := flip ht2 ht1 c
   exact ⟨l, by omega, by omega, h3⟩
  ·by_cases hbt : isb (β b) m t = true
   ·have : j2 ≠ b := fun e => by rw [e, hbt] at ht2; cases ht2
    obtain ⟨l, h1, h2, h3⟩ := flip ht2 hbt (by omega)
    exact ⟨l, by omega, by omega, h3⟩
   ·have hat' : isb (β a) m t = false := by rw [hsame t htc]; simpa using hbt
    have : j1 ≠ a := fun e => by rw [e, hat'] at ht1; cases ht1
    obtain ⟨l, h1, h2, h3⟩ := flip hat' ht1 (by omega)
    exact ⟨l, by omega, by omega, h3⟩
 obtain ⟨l, l1, l2, l3, l4⟩ := hleave
 obtain ⟨e, e1, e2, e3, e4⟩ := henter
 have hke : k e = t := by
  obtain ⟨i, hi, hi'⟩ := zl6.1 e4
  rw [h.bs e (by omega)] at hi'
  unfold ub at hi'
  by_cases c : i = p e
  ·rw [if_pos c] at hi'; exact hi'
  ·rw [if_neg c] at hi'
   have : isb (β e) m t = true := zl6.2 ⟨i, hi, hi'⟩
   rw [e3] at this; cases this
 obtain ⟨hpl, hppos, hpmin⟩ := h.lvs l (by omega)
 have hpt : β l (p l) = t := by
  obtain ⟨i, hi, hi'⟩ := zl6.1 l3
  by_cases c : i = p l
  ·rw [<- c]; exact hi'
  ·have : isb (β (l + 1)) m t = true := zl6.2 ⟨i, hi, by rw [h.bs l (by omega)]; unfold ub; rw [if_neg c]; exact hi'⟩
   rw [l4] at this; cases this
 obtain ⟨hsc, hsneg, hsfirst⟩ := h.ent l (by omega)
 obtain ⟨_, htneg, htfirst⟩ := h.ent e (by omega)
 rw [hke] at htneg htfirst
 have hbl := hbasic l (by omega)
 have hst : k l < t := by
  have h1 := hmax (k l) hsc ⟨l + 1, l, by omega, by omega, by omega, by omega, hbl.2, hbl.1⟩
  have h2 : k l ≠ t := fun e => by rw [<- e, hbl.1] at l3; cases l3
  omega
 have hes := htfirst (k l) hst
 have htwo := (h.tab l (by omega)).two (h.tab e (by omega)) (s := k l) (by omega)
 have hex : ∃ i, i < m /\ 0 < T e m (β l i) * T l i (k l) := by
  apply Classical.byContradiction
  intro hno
  have h1 : fs (fun i => T e m (β l i) * T l i (k l)) m <= fs (fun _ => 0) m := wo2 fun i hi => by
   have : ¬ 0 < T e m (β l i) * T l i (k l) := fun h => hno ⟨i, hi, h⟩
   grind
  rw [z4k] at h1
  grind
 obtain ⟨i, hi, hpos⟩ := hex
 have hnz : T e m (β l i) ≠ 0 := fun h0 => by rw [h0] at hpos; grind
 have hnb : isb (β e) m (β l i) = false := by
  cases hb : isb (β e) m (β l i) with
  | false => rfl
  | true =>
   obtain ⟨i', hi', e'⟩ := zl6.1 hb
   exact absurd (by rw [<- e']; exact (h.tab e (by omega)).zero i' hi') hnz
 have hlt : β l i < t := by
  have h1 := hmax (β l i) (h.lt l (by omega) i hi) ⟨l, e, by omega, by omega, by omega, by omega, zl6.2 ⟨i, hi, rfl⟩, hnb⟩
  have h2 : β l i ≠ t := fun he => by
   have := hinj l (by omega) i (p l) hi hpl (by rw [he, hpt])
   rw [this, hpt] at hpos
   have g1 : 0 <= -(T e m t) := by grind
   have g2 := Rat.mul_nonneg g1 (Rat.le_of_lt hppos)
   grind
  omega
 have hge := htfirst (β l i) hlt
 have hik : 0 < T l i (k l) := by
  apply Classical.byContradiction
  intro hno
  have g1 : 0 <= -(T l i (k l)) := by grind
  have g2 := Rat.mul_nonneg hge g1
  grind
 have hside := hfick l e (by omega) (by omega) (by omega) (by omega) i hi hnb
 have hp0 := hconst l l1 l2
 have := (hpmin i hi hik).2 (by rw [hside, hp0, Rat.div_def, Rat.div_def]; grind)
 omega
end
end Go.Proofs.YtcdcoeofhnfjdabGreatDoor
namespace Go.Proofs.YtcdcoeofhnfjdabGreatDoor
open Go Vm
theorem w1c : ∀ {m : Nat} {M : Nat -> Nat -> Rat}, (∀ i, i < m -> M i m = 0) -> M m m = 1 -> det (m + 1) M = det m M
 | 0, M, _, h1 => by
  show fs (fun j => sg j * M 0 j * det 0 fun i k => M (i + 1) (mi j k)) 1 = 1
  rw [fs, fs]
  show 0 + sg 0 * M 0 0 * 1 = 1
  rw [h1]
  unfold sg
  rw [if_pos rfl]; grind
 | m + 1, M, h0, h1 => by
  show fs (fun j => sg j * M 0 j * det (m + 1) fun i k => M (i + 1) (mi j k)) (m + 2) = fs (fun j => sg j * M 0 j * det m fun i k => M (i + 1) (mi j k)) (m + 1)
  rw [fs, h0 0 (by omega)]
  have e : fs (fun j => sg j * M 0 j * det (m + 1) fun i k => M (i + 1) (mi j k)) (m + 1) = fs (fun j => sg j * M 0 j * det m fun i k => M (i + 1) (mi j k)) (m + 1) := z1h fun j hj => by
   have em : mi j m = m + 1 := by unfold mi; rw [if_neg (by omega)]
   rw [w1c (m := m) (M := fun i k => M (i + 1) (mi j k)) (fun i hi => by rw [em]; exact h0 (i + 1) (by omega)) (by rw [em]; exact h1)]
  rw [e]; grind
theorem w6b {m N K β : Nat} {δ : Nat -> Nat} {M : Nat -> Nat -> Rat} (hδ : ∀ i, i < m -> δ i ≠ 0) (hβ : 1 <= β) (ent : ∀ i, i < m -> ∀ c, c < N -> Zd (δ i) (M i c) /\ Ab β (M i c)) (hx : fc m * β ^ m * pd δ m < 10 ^ K) : Good m N K M := by
 intro B T hB hC
 have hP := w4v hδ
 have a1 : Ab β 1 := (show Ab 1 1 from ⟨Rat.le_refl, by decide⟩).mono hβ
 have entB : ∀ i, i < m -> ∀ r, r < m -> Zd (δ i) (B i r) /\ Ab β (B i r) := fun i hi r hr => by
  rcases hC r hr with ⟨c, hc, h1⟩ | ⟨c, h1⟩
  ·rw [h1 i]; exact ent i hi c hc
  ·rw [h1 i]
   split
   ·exact ⟨Zd.one _ (hδ i hi), a1⟩
   ·exact ⟨Zd.zero, Ab.zero _⟩
 obtain ⟨d1, d2⟩ := yh4 (M := B) hδ entB
 have hpos : 1 <= fc m * β ^ m := by
  have f0 : ∀ n, 1 <= fc n := fun n => by
   induction n with
   | zero => exact Nat.le_refl _
   | succ n ih => rw [fc]; exact Nat.mul_pos (by omega) ih
  exact Nat.mul_pos (f0 m) (Nat.pow_pos hβ)
 refine ⟨fun r hr c hc => ?_, Zd.dr hP hpos d1 d2.1 d2.2 hx⟩
 rw [hB.elem hr hc]
 obtain ⟨n1, n2⟩ := yh4 (M := upd r (fun i => M i c) B) hδ fun i hi q hq => by
  unfold upd
  split
  ·exact ent i hi c hc
  ·exact entB i hi q hq
 exact wz9 hP n1 d1 n2 d2 hB.nz hx
def gM (m N : Nat) (M : Nat -> Nat -> Rat) (c : Nat -> Rat) (i k : Nat) : Rat := if i < m then (if k < N then M i k else 0) else if k < N then -(c k) else 1
def gT (m N : Nat) (T : Nat -> Nat -> Rat) (r k : Nat) : Rat := if k < N then T r k else if r < m then 0 else 1
def gβ (m N : Nat) (β : Nat -> Nat) (r : Nat) : Nat := if r < m then β r else N
theorem Tab.big {m n N : Nat} {M : Nat -> Nat -> Rat} {c : Nat -> Rat} {β : Nat -> Nat} {T : Nat -> Nat -> Rat} (h : Tab m n N M c β T) : Bas (m + 1) (N + 1) (gM m N M c) (fun i r => gM m N M c i (gβ m N β r)) (gT m N T) := by
 refine ⟨fun i hi k hk => ?_, ?_⟩
 ·rw [fs]
  have e : fs (fun r => gM m N M c i (gβ m N β r) * gT m N T r k) m = fs (fun r => gM m N M c i (β r) * gT m N T r k) m := z1h fun r hr => by
   show gM m N M c i (if r < m then β r else N) * _ = _
   rw [if_pos hr]
  have e0 : gβ m N β m = N := if_neg (Nat.lt_irrefl m)
  rw [e, e0]
  by_cases c1 : i < m
  ·have e1 : fs (fun r => gM m N M c i (β r) * gT m N T r k) m = fs (fun r => M i (β r) * gT m N T r k) m := z1h fun r hr => by
    unfold gM
    rw [if_pos c1, if_pos (h.lt r hr)]
   have e2 : gM m N M c i N = 0 := by unfold gM; rw [if_pos c1, if_neg (Nat.lt_irrefl N)]
   rw [e1, e2]
   by_cases c2 : k < N
   ·have e3 : fs (fun r => M i (β r) * gT m N T r k) m = fs (fun r => M i (β r) * T r k) m := z1h fun r _ => by unfold gT; rw [if_pos c2]
    have e4 : gM m N M c i k = M i k := by unfold gM; rw [if_pos c1, if_pos c2]
    rw [e3, h.bas.eq i c1 k c2, e4]; grind
   ·have e3 : fs (fun r => M i (β r) * gT m N T r k) m = fs (fun _ => 0) m := z1h fun r hr => by unfold gT; rw [if_neg c2, if_pos hr]; grind
    have e4 : gM m N M c i k = 0 := by unfold gM; rw [if_pos c1, if_neg c2]
    rw [e3, z4k, e4]; grind
  ·have e1 : fs (fun r => gM m N M c i (β r) * gT m N T r k) m = fs (fun r => -(c (β r) * gT m N T r k)) m := z1h fun r hr => by
    unfold gM
    rw [if_neg c1, if_pos (h.lt r hr)]; grind
   have e2 : gM m N M c i N = 1 := by unfold gM; rw [if_neg c1, if_neg (Nat.lt_irrefl N)]
   rw [e1, e2, yj0]
   by_cases c2 : k < N
   ·have e3 : fs (fun r => c (β r) * gT m N T r k) m = fs (fun r => c (β r) * T r k) m := z1h fun r _ => by unfold gT; rw [if_pos c2]
    have e4 : gM m N M c i k = -(c k) := by unfold gM; rw [if_neg c1, if_pos c2]
    have e5 : gT m N T m k = T m k := by unfold gT; rw [if_pos c2]
    rw [e3, e4, e5, h.red c2]; grind
   ·have e3 : fs (fun r => c (β r) * gT m N T r k) m = fs (fun _ => 0) m := z1h fun r hr => by unfold gT; rw [if_neg c2, if_pos hr]; grind
    have e4 : gM m N M c i k = 1 := by unfold gM; rw [if_neg c1, if_neg c2]
    have e5 : gT m N T m k = 1 := by unfold gT; rw [if_neg c2, if_neg (Nat.lt_irrefl m)]
    rw [e3, z4k, e4, e5]; grind
 ·have e0 : gβ m N β m = N := if_neg (Nat.lt_irrefl m)
  have z0 : ∀ i, i < m -> gM m N M c i (gβ m N β m) = 0 := fun i hi => by
   rw [e0]
   unfold gM
   rw [if_pos hi, if_neg (Nat.lt_irrefl N)]
  have z1 : gM m N M c m (gβ m N β m) = 1 := by
   rw [e0]
   unfold gM
   rw [if_neg (Nat.lt_irrefl m), if_neg (Nat.lt_irrefl N)]
  rw [w1c z0 z1]
  have e : det m (fun i r => gM m N M c i (gβ m N β r)) = det m fun i r => M i (β r) := y8k fun i hi r hr => by
   unfold gM gβ
   rw [if_pos hi, if_pos hr, if_pos (h.lt r hr)]
  rw [e]; exact h.bas.nz
theorem Tab.dr {m n N K : Nat} {M : Nat -> Nat -> Rat} {c : Nat -> Rat} {β : Nat -> Nat} {T : Nat -> Nat -> Rat} (h : Tab m n N M c β T) (hg : Good (m + 1) (N + 1) K (gM m N M c)) : ∀ r, r < m + 1 -> ∀ k, k < N -> Dr K (T r k) := fun r hr k hk => by
 have := (hg _ _ h.big fun q hq => .inl ⟨gβ m N β q, by
   unfold gβ
   split
   · have := h.lt q (by assumption); omega
   · omega, fun _ => rfl⟩).1 r hr k (by omega)
 unfold gT at this
 rwa [if_pos hk] at this
end Go.Proofs.YtcdcoeofhnfjdabGreatDoor
namespace Go.Proofs.YtcdcoeofhnfjdabGreatDoor
open Go Vm
def lpM (m n : Nat) (A : Nat -> Nat -> Rat) (b : Nat -> Rat) (i k : Nat) : Rat := if k < n then A i k else if k < n + m then one i (k - n) else if k = n + m then -1 else b i
def cst (n : Nat) (c : Nat -> Rat) (k : Nat) : Rat := if k < n then c k else 0
def cx (m n : Nat) (k : Nat) : Rat := if k = n + m then -1 else 0
section
variable {m n : Nat} {A : Nat -> Nat -> Rat} {b : Nat -> Rat}
theorem wp0 {i k : Nat} (h : k < n) : lpM m n A b i k = A i k := if_pos h
theorem yp8 {i j : Nat} (h : j < m) : lpM m n A b i (n + j) = one i j := by
 unfold lpM
 rw [if_neg (by omega), if_pos (by omega), show n + j - n = j by omega]
theorem wz0 {i : Nat} : lpM m n A b i (n + m) = -1 := by
 unfold lpM
 rw [if_neg (by omega), if_neg (by omega), if_pos rfl]
theorem wy9 {i : Nat} : lpM m n A b i (n + m + 1) = b i := by
 unfold lpM
 rw [if_neg (by omega), if_neg (by omega), if_neg (by omega)]
theorem yy3 : Bas m (n + m + 2) (lpM m n A b) (fun i r => lpM m n A b i (n + r)) (lpM m n A b) := by
 refine ⟨fun i hi c _ => ?_, ?_⟩
 ·have e : fs (fun r => lpM m n A b i (n + r) * lpM m n A b r c) m = fs (fun r => one i r * lpM m n A b r c) m := z1h fun r hr => by rw [yp8 hr]
  rw [e, ya3 hi]
 ·have e : det m (fun i r => lpM m n A b i (n + r)) = det m one := y8k fun i _ r hr => yp8 hr
  rw [e, wb3]; decide
def gol (m : Nat) (c : Nat -> Rat) (β : Nat -> Nat) (T : Nat -> Nat -> Rat) (r k : Nat) : Rat := if r = m then fs (fun i => c (β i) * T i k) m - c k else T r k
theorem wk1 {N : Nat} {M T : Nat -> Nat -> Rat} {β : Nat -> Nat} (c : Nat -> Rat) (h : Bas m N M (fun i r => M i (β r)) T) (hn : n + m <= N) (hM : ∀ i, i < m -> ∀ j, j < m -> M i (n + j) = one i j) (hl : ∀ i, i < m -> β i < N) : Tab m n N M c β (gol m c β T) := by
 have er : ∀ r, r < m -> ∀ k, gol m c β T r k = T r k := fun r hr k => by unfold gol; rw [if_neg (by omega)]
 refine ⟨⟨fun i hi k hk => ?_, h.nz⟩, hl, ⟨fun j => fs (fun i => c (β i) * T i (n + j)) m, fun k hk => ?_⟩, fun i hi => ?_⟩
 ·rw [<- h.eq i hi k hk]
  exact z1h fun r hr => by rw [er r hr]
 ·unfold gol
  rw [if_pos rfl]
  have e1 : fs (fun i => c (β i) * T i k) m = fs (fun i => fs (fun j => c (β i) * T i (n + j) * M j k) m) m := z1h fun i hi => by
   rw [h.comb hn hM hi hk, <- z9d]
   exact z1h fun j _ => by rw [Rat.mul_assoc]
  have e2 : fs (fun j => fs (fun i => c (β i) * T i (n + j)) m * M j k) m = fs (fun j => fs (fun i => c (β i) * T i (n + j) * M j k) m) m := z1h fun j _ => by rw [<- za1]
  rw [e1, e2, y8t]
 ·unfold gol
  rw [if_pos rfl]
  have e1 : fs (fun r => c (β r) * T r (β i)) m = fs (fun r => one i r * c (β r)) m := z1h fun r hr => by
   rw [h.unit hr hi (hl i hi), Rat.mul_comm]
   unfold one
   by_cases e : r = i
   ·rw [if_pos e, if_pos e.symm]
   ·rw [if_neg e, if_neg fun h => e h.symm]
  rw [e1, ya3 hi]; grind
theorem Tab.dual {c : Nat -> Rat} {β : Nat -> Nat} {T : Nat -> Nat -> Rat} (h : Tab m n (n + m + 2) (lpM m n A b) c β T) (hc : ∀ j, j < m -> c (n + j) = 0) {k : Nat} (hk : k < n + m + 2) : T m k = fs (fun j => T m (n + j) * lpM m n A b j k) m - c k := by
 obtain ⟨y, hy⟩ := h.goal
 have hy' : ∀ j, j < m -> T m (n + j) = y j := fun j hj => by
  rw [hy (n + j) (by omega), hc j hj]
  have e : fs (fun i => y i * lpM m n A b i (n + j)) m = fs (fun i => one j i * y i) m := z1h fun i _ => by
   rw [yp8 hj, Rat.mul_comm]
   unfold one
   by_cases e : i = j
   ·rw [if_pos e, if_pos e.symm]
   ·rw [if_neg e, if_neg fun h => e h.symm]
  rw [e, ya3 hj]; grind
 rw [hy k hk, z1h fun j hj => by rw [<- hy' j hj]]
theorem wz3 {β : Nat -> Nat} {T : Nat -> Nat -> Rat} (h : Tab m n (n + m + 2) (lpM m n A b) (cx m n) β T) (hpos : ∀ k, k < n + m + 1 -> 0 <= T m k) (hneg : T m (n + m + 1) < 0) :
  (∀ j, j < m -> 0 <= T m (n + j)) /\ (∀ k, k < n -> 0 <= fs (fun j => T m (n + j) * A j k) m) /\ fs (fun j => T m (n + j) * b j) m < 0 := by
 have hc : ∀ j, j < m -> cx m n (n + j) = 0 := fun j hj => by unfold cx; rw [if_neg (by omega)]
 refine ⟨fun j hj => hpos _ (by omega), fun k hk => ?_, ?_⟩
 ·have h1 := h.dual hc (k := k) (by omega)
  have h2 := hpos k (by omega)
  have e : cx m n k = 0 := by unfold cx; rw [if_neg (by omega)]
  rw [h1, e, z1h fun j _ => by rw [wp0 hk]] at h2
  grind
 ·have h1 := h.dual hc (k := n + m + 1) (by omega)
  have e : cx m n (n + m + 1) = 0 := by unfold cx; rw [if_neg (by omega)]
  rw [h1, e, z1h fun j _ => by rw [wy9]] at hneg
  grind
theorem w8k {β : Nat -> Nat} {T : Nat -> Nat -> Rat} (h : Tab m n (n + m + 2) (lpM m n A b) (cx m n) β T) {k : Nat} (hk : k < n + m + 1) (hneg : T m k < 0) (hno : ∀ i, i < m -> ¬ 0 < T i k) : False := by
 have h1 := h.red (s := k) (by omega)
 have h2 : 0 <= fs (fun i => cx m n (β i) * T i k) m := zj7 fun i hi => by
  unfold cx
  have := hno i hi
  split
  ·grind
  ·grind
 have h3 : cx m n k <= 0 := by unfold cx; split <;> decide
 grind
theorem v1n {β : Nat -> Nat} {T : Nat -> Nat -> Rat} (h : Tab m n (n + m + 2) (lpM m n A b) (cx m n) β T) (hp : ∀ i, i < m -> 0 <= T i (n + m + 1)) (hv : ¬ T m (n + m + 1) < 0) {i : Nat} (hi : i < m) (he : β i = n + m) : T i (n + m + 1) = 0 := by
 have h1 := h.red (s := n + m + 1) (by omega)
 have e : cx m n (n + m + 1) = 0 := by unfold cx; rw [if_neg (by omega)]
 have h2 := wx9 (f := fun i => -(cx m n (β i) * T i (n + m + 1))) (n := m) (i := i) (fun r hr => by
   unfold cx
   have := hp r hr
   split <;> grind) hi
 rw [yj0] at h2
 have h3 : cx m n (β i) = -1 := by unfold cx; rw [if_pos he]
 have h2 : -(cx m n (β i) * T i (n + m + 1)) <= -(fs (fun i => cx m n (β i) * T i (n + m + 1)) m) := h2
 rw [h3] at h2
 have := hp i hi
 grind
theorem wp1 {c : Nat -> Rat} {β : Nat -> Nat} {T : Nat -> Nat -> Rat} (h : Tab m n (n + m + 2) (lpM m n A b) c β T) {i : Nat} (hi : i < m) (he : β i = n + m) : ∃ k, k < n + m /\ T i k ≠ 0 := by
 apply Classical.byContradiction
 intro hno
 have h0 : ∀ k, k < n + m -> T i k = 0 := fun k hk => Classical.byContradiction fun h => hno ⟨k, hk, h⟩
 have h1 := h.bas.comb (n := n) (by omega) (fun i _ j hj => yp8 hj) hi (k := β i) (h.lt i hi)
 have h2 : fs (fun j => T i (n + j) * lpM m n A b j (β i)) m = fs (fun _ => 0) m := z1h fun j hj => by rw [h0 _ (by omega)]; grind
 rw [h.bas.unit hi hi (h.lt i hi), h2, z4k] at h1
 unfold one at h1
 rw [if_pos rfl] at h1
 exact absurd h1 (by decide)
def xv (m : Nat) (β : Nat -> Nat) (T : Nat -> Nat -> Rat) (s v : Nat) : Rat := fs (fun i => if β i = v then T i s else 0) m
theorem wl0 {β : Nat -> Nat} {T : Nat -> Nat -> Rat} {s K : Nat} (F : Nat -> Rat) (h : ∀ i, i < m -> β i < K) : fs (fun v => F v * xv m β T s v) K = fs (fun i => F (β i) * T i s) m := by
 have e1 : fs (fun v => F v * xv m β T s v) K = fs (fun v => fs (fun i => F v * (if β i = v then T i s else 0)) m) K := z1h fun v _ => by unfold xv; rw [z9d]
 rw [e1, y8t]
 refine z1h fun i hi => ?_
 have e2 : fs (fun v => F v * (if β i = v then T i s else 0)) K = fs (fun v => if v = β i then F (β i) * T i s else 0) K := z1h fun v _ => by
  by_cases e : v = β i
  ·rw [if_pos e.symm, if_pos e, e]
  ·rw [if_neg fun h => e h.symm, if_neg e]; grind
 rw [e2, wd3, if_pos (h i hi)]
theorem ym9 {β : Nat -> Nat} {T : Nat -> Nat -> Rat} {s : Nat} (h : ∀ i, i < m -> 0 <= T i s) (v : Nat) : 0 <= xv m β T s v := zj7 fun i hi => by
 split
 ·exact h i hi
 ·exact Rat.le_refl
theorem yx4 {f : Nat -> Rat} {n : Nat} : ∀ m : Nat, fs f (n + m) = fs f n + fs (fun j => f (n + j)) m
 | 0 => by simp only [Nat.add_zero, fs]; grind
 | m + 1 => by rw [<- Nat.add_assoc, fs, yx4 m, fs]; grind
theorem wa8 {c : Nat -> Rat} (F : Nat -> Rat) : fs (fun v => cst n c v * F v) (n + m) = fs (fun j => c j * F j) n := by
 rw [yx4]
 have e1 : fs (fun v => cst n c v * F v) n = fs (fun j => c j * F j) n := z1h fun j hj => by unfold cst; rw [if_pos hj]
 have e2 : fs (fun j => cst n c (n + j) * F (n + j)) m = fs (fun _ => 0) m := z1h fun j _ => by unfold cst; rw [if_neg (by omega)]; grind
 rw [e1, e2, z4k]; grind
theorem wf5 {β : Nat -> Nat} {T : Nat -> Nat -> Rat} {c : Nat -> Rat} (h : Tab m n (n + m + 2) (lpM m n A b) c β T) (hl : ∀ i, i < m -> β i < n + m) {s : Nat} (hs : s < n + m + 2) {i : Nat} (hi : i < m) : fs (fun k => A i k * xv m β T s k) n + xv m β T s (n + i) = lpM m n A b i s := by
 have h1 := h.bas.eq i hi s hs
 have h2 := wl0 (T := T) (s := s) (fun k => lpM m n A b i k) hl
 have h2 : fs (fun v => lpM m n A b i v * xv m β T s v) (n + m) = fs (fun r => lpM m n A b i (β r) * T r s) m := h2
 rw [h1, yx4] at h2
 have e1 : fs (fun v => lpM m n A b i v * xv m β T s v) n = fs (fun k => A i k * xv m β T s k) n := z1h fun k hk => by rw [wp0 hk]
 have e2 : fs (fun j => lpM m n A b i (n + j) * xv m β T s (n + j)) m = fs (fun j => one i j * xv m β T s (n + j)) m := z1h fun j hj => by rw [yp8 hj]
 rw [e1, e2, ya3 hi] at h2
 exact h2
theorem wf6 {β : Nat -> Nat} {T : Nat -> Nat -> Rat} {c : Nat -> Rat} (h : Tab m n (n + m + 2) (lpM m n A b) c β T) (hl : ∀ i, i < m -> β i < n + m) (hp : ∀ i, i < m -> 0 <= T i (n + m + 1)) : ∀ i, i < m -> fs (fun k => A i k * xv m β T (n + m + 1) k) n <= b i := fun i hi => by
 have h1 := wf5 h hl (s := n + m + 1) (by omega) hi
 have h2 := ym9 (β := β) hp (n + i)
 rw [wy9] at h1
 grind
theorem wf4 {β : Nat -> Nat} {T : Nat -> Nat -> Rat} {c : Nat -> Rat} (h : Tab m n (n + m + 2) (lpM m n A b) (cst n c) β T) (hl : ∀ i, i < m -> β i < n + m) (hpos : ∀ k, k < n + m -> 0 <= T m k) :
  (∀ j, j < m -> 0 <= T m (n + j)) /\ (∀ k, k < n -> c k <= fs (fun j => T m (n + j) * A j k) m) /\
   fs (fun j => c j * xv m β T (n + m + 1) j) n = T m (n + m + 1) /\ fs (fun j => T m (n + j) * b j) m = T m (n + m + 1) := by
 have hc : ∀ j, j < m -> cst n c (n + j) = 0 := fun j hj => by unfold cst; rw [if_neg (by omega)]
 have ec : cst n c (n + m + 1) = 0 := by unfold cst; rw [if_neg (by omega)]
 refine ⟨fun j hj => hpos _ (by omega), fun k hk => ?_, ?_, ?_⟩
 ·have h1 := h.dual hc (k := k) (by omega)
  have h2 := hpos k (by omega)
  have e : cst n c k = c k := by unfold cst; rw [if_pos hk]
  rw [h1, e, z1h fun j _ => by rw [wp0 hk]] at h2
  grind
 ·rw [<- wa8 (m := m), wl0 (cst n c) hl, h.red (s := n + m + 1) (by omega), ec]; grind
 ·have h1 := h.dual hc (k := n + m + 1) (by omega)
  rw [ec, z1h fun j _ => by rw [wy9]] at h1
  rw [h1]; grind
def ryv (m k : Nat) (β : Nat -> Nat) (T : Nat -> Nat -> Rat) (v : Nat) : Rat := (if v = k then 1 else 0) - xv m β T k v
theorem wz1 {β : Nat -> Nat} {T : Nat -> Nat -> Rat} {c : Nat -> Rat} (h : Tab m n (n + m + 2) (lpM m n A b) (cst n c) β T) (hl : ∀ i, i < m -> β i < n + m) {k : Nat} (hk : k < n + m) (hneg : T m k < 0) (hno : ∀ i, i < m -> ¬ 0 < T i k) :
  (∀ v, 0 <= ryv m k β T v) /\ (∀ i, i < m -> fs (fun v => A i v * ryv m k β T v) n <= 0) /\ 0 < fs (fun v => c v * ryv m k β T v) n := by
 have hx : ∀ v, xv m β T k v <= 0 := fun v => by
  have := zj7 (f := fun i => -(if β i = v then T i k else 0)) (n := m) fun i hi => by
   have := hno i hi
   split <;> grind
  rw [yj0] at this
  unfold xv; grind
 have hr : ∀ v, 0 <= ryv m k β T v := fun v => by
  have := hx v
  unfold ryv
  split <;> grind
 have hat : ∀ F : Nat -> Rat, ∀ K, fs (fun v => F v * ryv m k β T v) K = (if k < K then F k else 0) - fs (fun v => F v * xv m β T k v) K := fun F K => by
  have e : fs (fun v => F v * ryv m k β T v) K = fs (fun v => (if v = k then F k else 0) - F v * xv m β T k v) K := z1h fun v _ => by
   unfold ryv
   by_cases e : v = k
   ·rw [if_pos e, if_pos e, e]; grind
   ·rw [if_neg e, if_neg e]; grind
  rw [e, ys4, wd3]
 refine ⟨hr, fun i hi => ?_, ?_⟩
 ·have h1 := wf5 h hl (s := k) (by omega) hi
  rw [hat]
  have h2 := hx (n + i)
  by_cases c : k < n
  ·rw [if_pos c]
   rw [wp0 c] at h1
   grind
  ·rw [if_neg c]
   have e : lpM m n A b i k = one i (k - n) := by
    have := yp8 (m := m) (n := n) (A := A) (b := b) (i := i) (j := k - n) (by omega)
    rwa [show n + (k - n) = k by omega] at this
   rw [e] at h1
   have hr2 := hr (n + i)
   unfold ryv at hr2
   unfold one at h1
   by_cases e2 : i = k - n
   ·rw [if_pos e2] at h1
    rw [if_pos (by omega)] at hr2
    grind
   ·rw [if_neg e2] at h1
    grind
 ·have h1 := h.red (s := k) (by omega)
  rw [<- wl0 (cst n c) hl, wa8] at h1
  rw [hat]
  unfold cst at h1
  grind
end
end Go.Proofs.YtcdcoeofhnfjdabGreatDoor
namespace Go.Proofs.YtcdcoeofhnfjdabGreatDoor
open Go Vm
theorem pdA {R C K p k : Nat} (hR : R <= 100) (hC : C <= 100) (hK : K <= 4000000) (hp : p < R) {T : Nat -> Nat -> Rat} (h0 : T p k ≠ 0) (hk : k < C) (hd : ∀ r, r < R -> ∀ q, q < C -> Dr K (T r q)) {b : Qd} (hb : QR (T p k) b) {u v : Int} {bl : List Int} : ∀ (m c : Nat) (g : List (List Qd)), c <= C -> C < m + c -> QG R C (dv p k c T) g ->
  ∃ g', z0n m (p : Int) (C : Int) (c : Int) u v b.1 b.2.1 b.2.2 g bl = some (.exit (u, v, b.1, b.2.1, b.2.2, g', bl, ())) /\ QG R C (dv p k C T) g'
 | 0, c, g, h1, h2, hg => by omega
 | m + 1, c, g, h1, h2, hg => by
  have lg := hg.1
  simp only [z0n]
  by_cases hc : c < C
  ·have e4 : IntKind.i64.wrap ((c : Int) + 1) = ((c + 1 : Nat) : Int) := by rw [w64 _ (by omega) (by omega)]; omega
   have hrow := hg.2 p hp
   have lr := hrow.1
   have hq := hrow.at hc
   have e : dv p k c T p c = T p c := by unfold dv; rw [if_neg fun h => Nat.lt_irrefl _ h.2]
   rw [e] at hq
   obtain ⟨y, hy, hqy⟩ := yl3 hq hb (hd p hp c hc) (hd p hp k hk) (by omega) h0
   have hy : z5n fuel (((g.getD p []).getD c (false, ([], []))).1, (((g.getD p []).getD c (false, ([], []))).2)) (b.1, (b.2.1, b.2.2)) = some y := hy
   rw [if_pos (by simpa using hc), if_pos (by omega), if_pos (by omega), if_pos (by omega), if_pos (by omega), if_pos (by omega), Int.toNat_natCast, if_pos (by omega), Int.toNat_natCast, hy, Option.bind_some, if_pos (by omega), if_pos (by omega), e4]
   refine pdA hR hC hK hp h0 hk hd hb m (c + 1) _ (by omega) (by omega) ((hg.set hp hc hqy).ext fun r _ q _ => ?_)
   unfold dv
   by_cases e1 : r = p
   ·by_cases e2 : q = c
    ·rw [if_pos ⟨e1, e2⟩, if_pos ⟨e1, by omega⟩, e2]
    ·rw [if_neg fun h => e2 h.2]
     by_cases e3 : q < c
     ·rw [if_pos ⟨e1, e3⟩, if_pos ⟨e1, by omega⟩]
     ·rw [if_neg fun h => e3 h.2, if_neg fun h => by have := h.2; omega]
   ·rw [if_neg fun h => e1 h.1, if_neg fun h => e1 h.1, if_neg fun h => e1 h.1]
  ·rw [if_neg (by simpa using hc)]
   have : c = C := by omega
   subst this
   exact ⟨g, rfl, hg⟩
theorem psA {R C K p i : Nat} (hR : R <= 100) (hC : C <= 100) (hK : K <= 8000000) (hp : p < R) (hi : i < R) (hne : i ≠ p) {V : Nat -> Nat -> Rat} {f : Rat} (hf : Dr K f) (hd : ∀ r, r < R -> ∀ q, q < C -> Dr K (V r q)) {b : Qd} (hb : QR f b) {u v : Int} {bl : List Int} : ∀ (m c : Nat) (g : List (List Qd)), c <= C -> C < m + c -> QG R C (sbt p i c f V) g ->
  ∃ g', z0j m (p : Int) (i : Int) (C : Int) (c : Int) u v b.1 b.2.1 b.2.2 g bl = some (.exit (u, v, b.1, b.2.1, b.2.2, g', bl, ())) /\ QG R C (sbt p i C f V) g'
 | 0, c, g, h1, h2, hg => by omega
 | m + 1, c, g, h1, h2, hg => by
  have lg := hg.1
  simp only [z0j]
  by_cases hc : c < C
  ·have e4 : IntKind.i64.wrap ((c : Int) + 1) = ((c + 1 : Nat) : Int) := by rw [w64 _ (by omega) (by omega)]; omega
   have hri := hg.2 i hi
   have hrp := hg.2 p hp
   have li := hri.1
   have lp := hrp.1
   have qi := hri.at hc
   have qp := hrp.at hc
   have e1 : sbt p i c f V i c = V i c := by unfold sbt; rw [if_neg fun h => Nat.lt_irrefl _ h.2]
   have e2 : sbt p i c f V p c = V p c := by unfold sbt; rw [if_neg fun h => hne h.1.symm]
   rw [e1] at qi
   rw [e2] at qp
   obtain ⟨x, hx, hqx⟩ := y65 hb qp hf (hd p hp c hc) (by omega)
   obtain ⟨y, hy, hqy⟩ := y3h qi hqx (hd i hi c hc) (y9y hf (hd p hp c hc)) (by omega)
   have hx : z2n fuel (b.1, (b.2.1, b.2.2)) (((g.getD p []).getD c (false, ([], []))).1, (((g.getD p []).getD c (false, ([], []))).2)) = some x := hx
   rw [if_pos (by simpa using hc), if_pos (by omega), if_pos (by omega), if_pos (by omega), if_pos (by omega), if_pos (by omega), Int.toNat_natCast, if_pos (by omega), if_pos (by omega), if_pos (by omega), if_pos (by omega), Int.toNat_natCast, if_pos (by omega), Int.toNat_natCast, hx, Option.bind_some, hy, Option.bind_some, if_pos (by omega), if_pos (by omega), e4]
   refine psA hR hC hK hp hi hne hf hd hb m (c + 1) _ (by omega) (by omega) ((hg.set hi hc hqy).ext fun r _ q _ => ?_)
   unfold sbt
   by_cases e1 : r = i
   ·by_cases e2 : q = c
    ·rw [if_pos ⟨e1, e2⟩, if_pos ⟨e1, by omega⟩, e2]
    ·rw [if_neg fun h => e2 h.2]
     by_cases e3 : q < c
     ·rw [if_pos ⟨e1, e3⟩, if_pos ⟨e1, by omega⟩]
     ·rw [if_neg fun h => e3 h.2, if_neg fun h => by have := h.2; omega]
   ·rw [if_neg fun h => e1 h.1, if_neg fun h => e1 h.1, if_neg fun h => e1 h.1]
  ·rw [if_neg (by simpa using hc)]
   have : c = C := by omega
   subst this
   exact ⟨g, rfl, hg⟩
theorem pcA {R C K p k : Nat} (hR : R <= 100) (hC : C <= 100) (hK : K <= 8000000) (hp : p < R) (hk : k < C) {V : Nat -> Nat -> Rat} (hd : ∀ r, r < R -> ∀ q, q < C -> Dr K (V r q)) (hd' : ∀ r, r < R -> ∀ q, q < C -> Dr K (cl p k R V r q)) {u v : Int} {bl : List Int} : ∀ (m i : Nat) (g : List (List Qd)), i <= R -> R + 200 < m + i -> QG R C (cl p k i V) g ->
  ∃ g', z08 m (p : Int) (k : Int) (R : Int) (i : Int) u v g bl = some (.exit (u, v, g', bl, ())) /\ QG R C (cl p k R V) g'
 | 0, i, g, h1, h2, hg => by omega
 | m + 1, i, g, h1, h2, hg => by
  have lg := hg.1
  simp only [z08]
  by_cases hi : i < R
  ·have e4 : IntKind.i64.wrap ((i : Int) + 1) = ((i + 1 : Nat) : Int) := by rw [w64 _ (by omega) (by omega)]; omega
   have hri := hg.2 i hi
   have li := hri.1
   have qi := hri.at hk
   have ei : ∀ q, cl p k i V i q = V i q := fun q => by unfold cl; rw [if_neg fun h => Nat.lt_irrefl _ h.1]
   have ep : ∀ j q, cl p k j V p q = V p q := fun j q => by unfold cl; rw [if_neg fun h => h.2 rfl]
   rw [ei] at qi
   rw [e4, if_pos (by simpa using hi), if_pos (by omega), if_pos (by omega), if_pos (by omega), Int.toNat_natCast, if_pos (by rw [li]; omega), Int.toNat_natCast]
   by_cases hip : i = p
   ·rw [if_neg (by rw [beq_eq_false_iff_ne]; omega)]
    refine pcA hR hC hK hp hk hd hd' m (i + 1) _ (by omega) (by omega) (hg.ext fun r _ q _ => ?_)
    unfold cl
    by_cases h : r < i /\ r ≠ p
    ·rw [if_pos h, if_pos ⟨by omega, h.2⟩]
    ·rw [if_neg h, if_neg fun h' => h ⟨by have := h'.1; have := h'.2; omega, h'.2⟩]
   ·have hs := z9v qi
    rw [if_pos (by rw [beq_eq_false_iff_ne]; omega), hs, Option.bind_some]
    by_cases hz : V i k = 0
    ·rw [if_pos (by rw [hz]; rfl)]
     refine pcA hR hC hK hp hk hd hd' m (i + 1) _ (by omega) (by omega) (hg.ext fun r _ q _ => ?_)
     unfold cl
     by_cases h : r < i /\ r ≠ p
     ·rw [if_pos h, if_pos ⟨by omega, h.2⟩]
     ·rw [if_neg h]
      by_cases h' : r < i + 1 /\ r ≠ p
      ·have : r = i := by have := h'.1; have := h'.2; omega
       rw [if_pos h', this, hz]; grind
      ·rw [if_neg h']
    ·have hsn : ¬ ((V i k).num.sign == 0) = true := fun h => hz (Rat.num_eq_zero.1 (Int.sign_eq_zero_iff_zero.1 (by simpa using h)))
     obtain ⟨g', h3, h4⟩ := psA (u := u) (v := v) (bl := bl) (V := cl p k i V) (f := V i k) (b := (g.getD i []).getD k (false, ([], []))) hR hC hK hp hi hip (hd i hi k hk) (fun r hr q hq => by
         have a1 := hd r hr q hq
         have a2 := hd' r hr q hq
         unfold cl at a2 ⊢
         by_cases h : r < i /\ r ≠ p
         · rw [if_pos ⟨hr, h.2⟩] at a2; rw [if_pos h]; exact a2
         · rw [if_neg h]; exact a1) qi m 0 g (by omega) (by omega) (hg.ext fun r _ q _ => by unfold sbt; rw [if_neg fun h => by have := h.2; omega])
     have h3 : z0j m (p : Int) (i : Int) ((g.getD i []).length : Int) 0 u v (((g.getD i []).getD k (false, ([], []))).1) ((((g.getD i []).getD k (false, ([], []))).2).1) ((((g.getD i []).getD k (false, ([], []))).2).2) g bl = some (.exit (u, v, (((g.getD i []).getD k (false, ([], []))).1), ((((g.getD i []).getD k (false, ([], []))).2).1), ((((g.getD i []).getD k (false, ([], []))).2).2), g', bl, ())) := by rw [li]; exact h3
     rw [if_neg hsn, if_pos (by omega), if_pos (by omega), h3]
     refine pcA hR hC hK hp hk hd hd' m (i + 1) g' (by omega) (by omega) (h4.ext fun r _ q hq => ?_)
     unfold sbt
     by_cases h : r = i
     ·rw [if_pos ⟨h, hq⟩, ei, ep, h]
      unfold cl
      rw [if_pos ⟨by omega, hip⟩]
     ·rw [if_neg fun h' => h h'.1]
      unfold cl
      by_cases h' : r < i /\ r ≠ p
      ·rw [if_pos h', if_pos ⟨by omega, h'.2⟩]
      ·rw [if_neg h', if_neg fun h'' => h' ⟨by have := h''.1; omega, h''.2⟩]
  ·rw [if_neg (by simpa using hi)]
   have : i = R := by omega
   subst this
   exact ⟨g, rfl, hg⟩
theorem pvA {R C K p k : Nat} (hR : R <= 100) (hC : C <= 100) (hK : K <= 4000000) (hp : p < R) (hk : k < C) {T : Nat -> Nat -> Rat} (h0 : T p k ≠ 0) (hd : ∀ r, r < R -> ∀ q, q < C -> Dr K (T r q)) (hd' : ∀ r, r < R -> ∀ q, q < C -> Dr K (piv p k T r q)) {g : List (List Qd)} (hg : QG R C T g) {m : Nat} (hm : 400 < m) {u v : Int} {bl : List Int} :
  ∃ g1 g2, z0n m (p : Int) ((g.getD p []).length : Int) 0 u v ((g.getD p []).getD k (false, ([], []))).1 ((g.getD p []).getD k (false, ([], []))).2.1 ((g.getD p []).getD k (false, ([], []))).2.2 g bl
    = some (.exit (u, v, ((g.getD p []).getD k (false, ([], []))).1, ((g.getD p []).getD k (false, ([], []))).2.1, ((g.getD p []).getD k (false, ([], []))).2.2, g1, bl, ())) /\
   z08 m (p : Int) (k : Int) (g1.length : Int) 0 u v g1 bl = some (.exit (u, v, g2, bl, ())) /\ QG R C (piv p k T) g2 := by
 have hb : QR (T p k) ((g.getD p []).getD k (false, ([], []))) := (hg.2 p hp).2 k hk
 obtain ⟨g1, h1, h2⟩ := pdA (u := u) (v := v) (bl := bl) hR hC hK hp h0 hk hd hb m 0 g (by omega) (by omega) (hg.ext fun r _ q _ => by unfold dv; rw [if_neg fun h => by have := h.2; omega])
 have ecl : ∀ r, r < R -> ∀ q, q < C -> cl p k R (dv p k C T) r q = piv p k T r q := fun r hr q hq => by
  unfold cl piv
  by_cases h : r = p
  ·rw [if_neg fun h' => h'.2 h, if_pos h]
   unfold dv
   rw [if_pos ⟨h, hq⟩]
  ·rw [if_pos ⟨hr, h⟩, if_neg h]
   unfold dv
   rw [if_neg fun h' => h h'.1, if_neg fun h' => h h'.1, if_pos ⟨rfl, hq⟩]
 obtain ⟨g2, h3, h4⟩ := pcA (u := u) (v := v) (bl := bl) hR hC (K := K) (by omega) hp hk (V := dv p k C T) (fun r hr q hq => by
     unfold dv
     by_cases h : r = p /\ q < C
     · rw [if_pos h]
       have := hd' r hr q hq
       unfold piv at this
       rw [if_pos h.1] at this
       exact this
     · rw [if_neg h]; exact hd r hr q hq) (fun r hr q hq => by rw [ecl r hr q hq]; exact hd' r hr q hq) m 0 g1 (by omega) (by omega) (h2.ext fun r _ q _ => by unfold cl; rw [if_neg fun h => by have := h.1; omega])
 refine ⟨g1, g2, ?_, ?_, h4.ext ecl⟩
 ·rw [(hg.2 p hp).1]; exact h1
 ·rw [h2.1]; exact h3
theorem pdB {R C K p k : Nat} (hR : R <= 100) (hC : C <= 100) (hK : K <= 4000000) (hp : p < R) {T : Nat -> Nat -> Rat} (h0 : T p k ≠ 0) (hk : k < C) (hd : ∀ r, r < R -> ∀ q, q < C -> Dr K (T r q)) {b : Qd} (hb : QR (T p k) b) {u v : Int} {bl : List Int} : ∀ (m c : Nat) (g : List (List Qd)), c <= C -> C < m + c -> QG R C (dv p k c T) g ->
  ∃ g', z09 m (p : Int) (C : Int) (c : Int) u v b.1 b.2.1 b.2.2 g bl = some (.exit (u, v, b.1, b.2.1, b.2.2, g', bl, ())) /\ QG R C (dv p k C T) g'
 | 0, c, g, h1, h2, hg => by omega
 | m + 1, c, g, h1, h2, hg => by
  have lg := hg.1
  simp only [z09]
  by_cases hc : c < C
  ·have e4 : IntKind.i64.wrap ((c : Int) + 1) = ((c + 1 : Nat) : Int) := by rw [w64 _ (by omega) (by omega)]; omega
   have hrow := hg.2 p hp
   have lr := hrow.1
   have hq := hrow.at hc
   have e : dv p k c T p c = T p c := by unfold dv; rw [if_neg fun h => Nat.lt_irrefl _ h.2]
   rw [e] at hq
   obtain ⟨y, hy, hqy⟩ := yl3 hq hb (hd p hp c hc) (hd p hp k hk) (by omega) h0
   have hy : z5n fuel (((g.getD p []).getD c (false, ([], []))).1, (((g.getD p []).getD c (false, ([], []))).2)) (b.1, (b.2.1, b.2.2)) = some y := hy
   rw [if_pos (by simpa using hc), if_pos (by omega), if_pos (by omega), if_pos (by omega), if_pos (by omega), if_pos (by omega), Int.toNat_natCast, if_pos (by omega), Int.toNat_natCast, hy, Option.bind_some, if_pos (by omega), if_pos (by omega), e4]
   refine pdB hR hC hK hp h0 hk hd hb m (c + 1) _ (by omega) (by omega) ((hg.set hp hc hqy).ext fun r _ q _ => ?_)
   unfold dv
   by_cases e1 : r = p
   ·by_cases e2 : q = c
    ·rw [if_pos ⟨e1, e2⟩, if_pos ⟨e1, by omega⟩, e2]
    ·rw [if_neg fun h => e2 h.2]
     by_cases e3 : q < c
     ·rw [if_pos ⟨e1, e3⟩, if_pos ⟨e1, by omega⟩]
     ·rw [if_neg fun h => e3 h.2, if_neg fun h => by have := h.2; omega]
   ·rw [if_neg fun h => e1 h.1, if_neg fun h => e1 h.1, if_neg fun h => e1 h.1]
  ·rw [if_neg (by simpa using hc)]
   have : c = C := by omega
   subst this
   exact ⟨g, rfl, hg⟩
theorem psB {R C K p i : Nat} (hR : R <= 100) (hC : C <= 100) (hK : K <= 8000000) (hp : p < R) (hi : i < R) (hne : i ≠ p) {V : Nat -> Nat -> Rat} {f : Rat} (hf : Dr K f) (hd : ∀ r, r < R -> ∀ q, q < C -> Dr K (V r q)) {b : Qd} (hb : QR f b) {u v : Int} {bl : List Int} : ∀ (m c : Nat) (g : List (List Qd)), c <= C -> C < m + c -> QG R C (sbt p i c f V) g ->
  ∃ g', z0b m (p : Int) (i : Int) (C : Int) (c : Int) u v b.1 b.2.1 b.2.2 g bl = some (.exit (u, v, b.1, b.2.1, b.2.2, g', bl, ())) /\ QG R C (sbt p i C f V) g'
 | 0, c, g, h1, h2, hg => by omega
 | m + 1, c, g, h1, h2, hg => by
  have lg := hg.1
  simp only [z0b]
  by_cases hc : c < C
  ·have e4 : IntKind.i64.wrap ((c : Int) + 1) = ((c + 1 : Nat) : Int) := by rw [w64 _ (by omega) (by omega)]; omega
   have hri := hg.2 i hi
   have hrp := hg.2 p hp
   have li := hri.1
   have lp := hrp.1
   have qi := hri.at hc
   have qp := hrp.at hc
   have e1 : sbt p i c f V i c = V i c := by unfold sbt; rw [if_neg fun h => Nat.lt_irrefl _ h.2]
   have e2 : sbt p i c f V p c = V p c := by unfold sbt; rw [if_neg fun h => hne h.1.symm]
   rw [e1] at qi
   rw [e2] at qp
   obtain ⟨x, hx, hqx⟩ := y65 hb qp hf (hd p hp c hc) (by omega)
   obtain ⟨y, hy, hqy⟩ := y3h qi hqx (hd i hi c hc) (y9y hf (hd p hp c hc)) (by omega)
   have hx : z2n fuel (b.1, (b.2.1, b.2.2)) (((g.getD p []).getD c (false, ([], []))).1, (((g.getD p []).getD c (false, ([], []))).2)) = some x := hx
   rw [if_pos (by simpa using hc), if_pos (by omega), if_pos (by omega), if_pos (by omega), if_pos (by omega), if_pos (by omega), Int.toNat_natCast, if_pos (by omega), if_pos (by omega), if_pos (by omega), if_pos (by omega), Int.toNat_natCast, if_pos (by omega), Int.toNat_natCast, hx, Option.bind_some, hy, Option.bind_some, if_pos (by omega), if_pos (by omega), e4]
   refine psB hR hC hK hp hi hne hf hd hb m (c + 1) _ (by omega) (by omega) ((hg.set hi hc hqy).ext fun r _ q _ => ?_)
   unfold sbt
   by_cases e1 : r = i
   ·by_cases e2 : q = c
    ·rw [if_pos ⟨e1, e2⟩, if_pos ⟨e1, by omega⟩, e2]
    ·rw [if_neg fun h => e2 h.2]
     by_cases e3 : q < c
     ·rw [if_pos ⟨e1, e3⟩, if_pos ⟨e1, by omega⟩]
     ·rw [if_neg fun h => e3 h.2, if_neg fun h => by have := h.2; omega]
   ·rw [if_neg fun h => e1 h.1, if_neg fun h => e1 h.1, if_neg fun h => e1 h.1]
  ·rw [if_neg (by simpa using hc)]
   have : c = C := by omega
   subst this
   exact ⟨g, rfl, hg⟩
theorem pcB {R C K p k : Nat} (hR : R <= 100) (hC : C <= 100) (hK : K <= 8000000) (hp : p < R) (hk : k < C) {V : Nat -> Nat -> Rat} (hd : ∀ r, r < R -> ∀ q, q < C -> Dr K (V r q)) (hd' : ∀ r, r < R -> ∀ q, q < C -> Dr K (cl p k R V r q)) {u v : Int} {bl : List Int} : ∀ (m i : Nat) (g : List (List Qd)), i <= R -> R + 200 < m + i -> QG R C (cl p k i V) g ->
  ∃ g', z04 m (p : Int) (k : Int) (R : Int) (i : Int) u v g bl = some (.exit (u, v, g', bl, ())) /\ QG R C (cl p k R V) g'
 | 0, i, g, h1, h2, hg => by omega
 | m + 1, i, g, h1, h2, hg => by
  have lg := hg.1
  simp only [z04]
  by_cases hi : i < R
  ·have e4 : IntKind.i64.wrap ((i : Int) + 1) = ((i + 1 : Nat) : Int) := by rw [w64 _ (by omega) (by omega)]; omega
   have hri := hg.2 i hi
   have li := hri.1
   have qi := hri.at hk
   have ei : ∀ q, cl p k i V i q = V i q := fun q => by unfold cl; rw [if_neg fun h => Nat.lt_irrefl _ h.1]
   have ep : ∀ j q, cl p k j V p q = V p q := fun j q => by unfold cl; rw [if_neg fun h => h.2 rfl]
   rw [ei] at qi
   rw [e4, if_pos (by simpa using hi), if_pos (by omega), if_pos (by omega), if_pos (by omega), Int.toNat_natCast, if_pos (by rw [li]; omega), Int.toNat_natCast]
   by_cases hip : i = p
   ·rw [if_neg (by rw [beq_eq_false_iff_ne]; omega)]
    refine pcB hR hC hK hp hk hd hd' m (i + 1) _ (by omega) (by omega) (hg.ext fun r _ q _ => ?_)
    unfold cl
    by_cases h : r < i /\ r ≠ p
    ·rw [if_pos h, if_pos ⟨by omega, h.2⟩]
    ·rw [if_neg h, if_neg fun h' => h ⟨by have := h'.1; have := h'.2; omega, h'.2⟩]
   ·have hs := z9v qi
    rw [if_pos (by rw [beq_eq_false_iff_ne]; omega), hs, Option.bind_some]
    by_cases hz : V i k = 0
    ·rw [if_pos (by rw [hz]; rfl)]
     refine pcB hR hC hK hp hk hd hd' m (i + 1) _ (by omega) (by omega) (hg.ext fun r _ q _ => ?_)
     unfold cl
     by_cases h : r < i /\ r ≠ p
     ·rw [if_pos h, if_pos ⟨by omega, h.2⟩]
     ·rw [if_neg h]
      by_cases h' : r < i + 1 /\ r ≠ p
      ·have : r = i := by have := h'.1; have := h'.2; omega
       rw [if_pos h', this, hz]; grind
      ·rw [if_neg h']
    ·have hsn : ¬ ((V i k).num.sign == 0) = true := fun h => hz (Rat.num_eq_zero.1 (Int.sign_eq_zero_iff_zero.1 (by simpa using h)))
     obtain ⟨g', h3, h4⟩ := psB (u := u) (v := v) (bl := bl) (V := cl p k i V) (f := V i k) (b := (g.getD i []).getD k (false, ([], []))) hR hC hK hp hi hip (hd i hi k hk) (fun r hr q hq => by
         have a1 := hd r hr q hq
         have a2 := hd' r hr q hq
         unfold cl at a2 ⊢
         by_cases h : r < i /\ r ≠ p
         · rw [if_pos ⟨hr, h.2⟩] at a2; rw [if_pos h]; exact a2
         · rw [if_neg h]; exact a1) qi m 0 g (by omega) (by omega) (hg.ext fun r _ q _ => by unfold sbt; rw [if_neg fun h => by have := h.2; omega])
     have h3 : z0b m (p : Int) (i : Int) ((g.getD i []).length : Int) 0 u v (((g.getD i []).getD k (false, ([], []))).1) ((((g.getD i []).getD k (false, ([], []))).2).1) ((((g.getD i []).getD k (false, ([], []))).2).2) g bl = some (.exit (u, v, (((g.getD i []).getD k (false, ([], []))).1), ((((g.getD i []).getD k (false, ([], []))).2).1), ((((g.getD i []).getD k (false, ([], []))).2).2), g', bl, ())) := by rw [li]; exact h3
     rw [if_neg hsn, if_pos (by omega), if_pos (by omega), h3]
     refine pcB hR hC hK hp hk hd hd' m (i + 1) g' (by omega) (by omega) (h4.ext fun r _ q hq => ?_)
     unfold sbt
     by_cases h : r = i
     ·rw [if_pos ⟨h, hq⟩, ei, ep, h]
      unfold cl
      rw [if_pos ⟨by omega, hip⟩]
     ·rw [if_neg fun h' => h h'.1]
      unfold cl
      by_cases h' : r < i /\ r ≠ p
      ·rw [if_pos h', if_pos ⟨by omega, h'.2⟩]
      ·rw [if_neg h', if_neg fun h'' => h' ⟨by have := h''.1; omega, h''.2⟩]
  ·rw [if_neg (by simpa using hi)]
   have : i = R := by omega
   subst this
   exact ⟨g, rfl, hg⟩
theorem pvB {R C K p k : Nat} (hR : R <= 100) (hC : C <= 100) (hK : K <= 4000000) (hp : p < R) (hk : k < C) {T : Nat -> Nat -> Rat} (h0 : T p k ≠ 0) (hd : ∀ r, r < R -> ∀ q, q < C -> Dr K (T r q)) (hd' : ∀ r, r < R -> ∀ q, q < C -> Dr K (piv p k T r q)) {g : List (List Qd)} (hg : QG R C T g) {m : Nat} (hm : 400 < m) {u v : Int} {bl : List Int} :
  ∃ g1 g2, z09 m (p : Int) ((g.getD p []).length : Int) 0 u v ((g.getD p []).getD k (false, ([], []))).1 ((g.getD p []).getD k (false, ([], []))).2.1 ((g.getD p []).getD k (false, ([], []))).2.2 g bl
    = some (.exit (u, v, ((g.getD p []).getD k (false, ([], []))).1, ((g.getD p []).getD k (false, ([], []))).2.1, ((g.getD p []).getD k (false, ([], []))).2.2, g1, bl, ())) /\
   z04 m (p : Int) (k : Int) (g1.length : Int) 0 u v g1 bl = some (.exit (u, v, g2, bl, ())) /\ QG R C (piv p k T) g2 := by
 have hb : QR (T p k) ((g.getD p []).getD k (false, ([], []))) := (hg.2 p hp).2 k hk
 obtain ⟨g1, h1, h2⟩ := pdB (u := u) (v := v) (bl := bl) hR hC hK hp h0 hk hd hb m 0 g (by omega) (by omega) (hg.ext fun r _ q _ => by unfold dv; rw [if_neg fun h => by have := h.2; omega])
 have ecl : ∀ r, r < R -> ∀ q, q < C -> cl p k R (dv p k C T) r q = piv p k T r q := fun r hr q hq => by
  unfold cl piv
  by_cases h : r = p
  ·rw [if_neg fun h' => h'.2 h, if_pos h]
   unfold dv
   rw [if_pos ⟨h, hq⟩]
  ·rw [if_pos ⟨hr, h⟩, if_neg h]
   unfold dv
   rw [if_neg fun h' => h h'.1, if_neg fun h' => h h'.1, if_pos ⟨rfl, hq⟩]
 obtain ⟨g2, h3, h4⟩ := pcB (u := u) (v := v) (bl := bl) hR hC (K := K) (by omega) hp hk (V := dv p k C T) (fun r hr q hq => by
     unfold dv
     by_cases h : r = p /\ q < C
     · rw [if_pos h]
       have := hd' r hr q hq
       unfold piv at this
       rw [if_pos h.1] at this
       exact this
     · rw [if_neg h]; exact hd r hr q hq) (fun r hr q hq => by rw [ecl r hr q hq]; exact hd' r hr q hq) m 0 g1 (by omega) (by omega) (h2.ext fun r _ q _ => by unfold cl; rw [if_neg fun h => by have := h.1; omega])
 refine ⟨g1, g2, ?_, ?_, h4.ext ecl⟩
 ·rw [(hg.2 p hp).1]; exact h1
 ·rw [h2.1]; exact h3
theorem pdC {R C K p k : Nat} (hR : R <= 100) (hC : C <= 100) (hK : K <= 4000000) (hp : p < R) {T : Nat -> Nat -> Rat} (h0 : T p k ≠ 0) (hk : k < C) (hd : ∀ r, r < R -> ∀ q, q < C -> Dr K (T r q)) {b : Qd} (hb : QR (T p k) b) {u v : Int} {bl : List Int} : ∀ (m c : Nat) (g : List (List Qd)), c <= C -> C < m + c -> QG R C (dv p k c T) g ->
  ∃ g', z06 m (p : Int) (C : Int) (c : Int) u v b.1 b.2.1 b.2.2 g bl = some (.exit (u, v, b.1, b.2.1, b.2.2, g', bl, ())) /\ QG R C (dv p k C T) g'
 | 0, c, g, h1, h2, hg => by omega
 | m + 1, c, g, h1, h2, hg => by
  have lg := hg.1
  simp only [z06]
  by_cases hc : c < C
  ·have e4 : IntKind.i64.wrap ((c : Int) + 1) = ((c + 1 : Nat) : Int) := by rw [w64 _ (by omega) (by omega)]; omega
   have hrow := hg.2 p hp
   have lr := hrow.1
   have hq := hrow.at hc
   have e : dv p k c T p c = T p c := by unfold dv; rw [if_neg fun h => Nat.lt_irrefl _ h.2]
   rw [e] at hq
   obtain ⟨y, hy, hqy⟩ := yl3 hq hb (hd p hp c hc) (hd p hp k hk) (by omega) h0
   have hy : z5n fuel (((g.getD p []).getD c (false, ([], []))).1, (((g.getD p []).getD c (false, ([], []))).2)) (b.1, (b.2.1, b.2.2)) = some y := hy
   rw [if_pos (by simpa using hc), if_pos (by omega), if_pos (by omega), if_pos (by omega), if_pos (by omega), if_pos (by omega), Int.toNat_natCast, if_pos (by omega), Int.toNat_natCast, hy, Option.bind_some, if_pos (by omega), if_pos (by omega), e4]
   refine pdC hR hC hK hp h0 hk hd hb m (c + 1) _ (by omega) (by omega) ((hg.set hp hc hqy).ext fun r _ q _ => ?_)
   unfold dv
   by_cases e1 : r = p
   ·by_cases e2 : q = c
    ·rw [if_pos ⟨e1, e2⟩, if_pos ⟨e1, by omega⟩, e2]
    ·rw [if_neg fun h => e2 h.2]
     by_cases e3 : q < c
     ·rw [if_pos ⟨e1, e3⟩, if_pos ⟨e1, by omega⟩]
     ·rw [if_neg fun h => e3 h.2, if_neg fun h => by have := h.2; omega]
   ·rw [if_neg fun h => e1 h.1, if_neg fun h => e1 h.1, if_neg fun h => e1 h.1]
  ·rw [if_neg (by simpa using hc)]
   have : c = C := by omega
   subst this
   exact ⟨g, rfl, hg⟩
theorem psC {R C K p i : Nat} (hR : R <= 100) (hC : C <= 100) (hK : K <= 8000000) (hp : p < R) (hi : i < R) (hne : i ≠ p) {V : Nat -> Nat -> Rat} {f : Rat} (hf : Dr K f) (hd : ∀ r, r < R -> ∀ q, q < C -> Dr K (V r q)) {b : Qd} (hb : QR f b) {u v : Int} {bl : List Int} : ∀ (m c : Nat) (g : List (List Qd)), c <= C -> C < m + c -> QG R C (sbt p i c f V) g ->
  ∃ g', z05 m (p : Int) (i : Int) (C : Int) (c : Int) u v b.1 b.2.1 b.2.2 g bl = some (.exit (u, v, b.1, b.2.1, b.2.2, g', bl, ())) /\ QG R C (sbt p i C f V) g'
 | 0, c, g, h1, h2, hg => by omega
 | m + 1, c, g, h1, h2, hg => by
  have lg := hg.1
  simp only [z05]
  by_cases hc : c < C
  ·have e4 : IntKind.i64.wrap ((c : Int) + 1) = ((c + 1 : Nat) : Int) := by rw [w64 _ (by omega) (by omega)]; omega
   have hri := hg.2 i hi
   have hrp := hg.2 p hp
   have li := hri.1
   have lp := hrp.1
   have qi := hri.at hc
   have qp := hrp.at hc
   have e1 : sbt p i c f V i c = V i c := by unfold sbt; rw [if_neg fun h => Nat.lt_irrefl _ h.2]
   have e2 : sbt p i c f V p c = V p c := by unfold sbt; rw [if_neg fun h => hne h.1.symm]
   rw [e1] at qi
   rw [e2] at qp
   obtain ⟨x, hx, hqx⟩ := y65 hb qp hf (hd p hp c hc) (by omega)
   obtain ⟨y, hy, hqy⟩ := y3h qi hqx (hd i hi c hc) (y9y hf (hd p hp c hc)) (by omega)
   have hx : z2n fuel (b.1, (b.2.1, b.2.2)) (((g.getD p []).getD c (false, ([], []))).1, (((g.getD p []).getD c (false, ([], []))).2)) = some x := hx
   rw [if_pos (by simpa using hc), if_pos (by omega), if_pos (by omega), if_pos (by omega), if_pos (by omega), if_pos (by omega), Int.toNat_natCast, if_pos (by omega), if_pos (by omega), if_pos (by omega), if_pos (by omega), Int.toNat_natCast, if_pos (by omega), Int.toNat_natCast, hx, Option.bind_some, hy, Option.bind_some, if_pos (by omega), if_pos (by omega), e4]
   refine psC hR hC hK hp hi hne hf hd hb m (c + 1) _ (by omega) (by omega) ((hg.set hi hc hqy).ext fun r _ q _ => ?_)
   unfold sbt
   by_cases e1 : r = i
   ·by_cases e2 : q = c
    ·rw [if_pos ⟨e1, e2⟩, if_pos ⟨e1, by omega⟩, e2]
    ·rw [if_neg fun h => e2 h.2]
     by_cases e3 : q < c
     ·rw [if_pos ⟨e1, e3⟩, if_pos ⟨e1, by omega⟩]
     ·rw [if_neg fun h => e3 h.2, if_neg fun h => by have := h.2; omega]
   ·rw [if_neg fun h => e1 h.1, if_neg fun h => e1 h.1, if_neg fun h => e1 h.1]
  ·rw [if_neg (by simpa using hc)]
   have : c = C := by omega
   subst this
   exact ⟨g, rfl, hg⟩
theorem pcC {R C K p k : Nat} (hR : R <= 100) (hC : C <= 100) (hK : K <= 8000000) (hp : p < R) (hk : k < C) {V : Nat -> Nat -> Rat} (hd : ∀ r, r < R -> ∀ q, q < C -> Dr K (V r q)) (hd' : ∀ r, r < R -> ∀ q, q < C -> Dr K (cl p k R V r q)) {u v : Int} {bl : List Int} : ∀ (m i : Nat) (g : List (List Qd)), i <= R -> R + 200 < m + i -> QG R C (cl p k i V) g ->
  ∃ g', z02 m (p : Int) (k : Int) (R : Int) (i : Int) u v g bl = some (.exit (u, v, g', bl, ())) /\ QG R C (cl p k R V) g'
 | 0, i, g, h1, h2, hg => by omega
 | m + 1, i, g, h1, h2, hg => by
  have lg := hg.1
  simp only [z02]
  by_cases hi : i < R
  ·have e4 : IntKind.i64.wrap ((i : Int) + 1) = ((i + 1 : Nat) : Int) := by rw [w64 _ (by omega) (by omega)]; omega
   have hri := hg.2 i hi
   have li := hri.1
   have qi := hri.at hk
   have ei : ∀ q, cl p k i V i q = V i q := fun q => by unfold cl; rw [if_neg fun h => Nat.lt_irrefl _ h.1]
   have ep : ∀ j q, cl p k j V p q = V p q := fun j q => by unfold cl; rw [if_neg fun h => h.2 rfl]
   rw [ei] at qi
   rw [e4, if_pos (by simpa using hi), if_pos (by omega), if_pos (by omega), if_pos (by omega), Int.toNat_natCast, if_pos (by rw [li]; omega), Int.toNat_natCast]
   by_cases hip : i = p
   ·rw [if_neg (by rw [beq_eq_false_iff_ne]; omega)]
    refine pcC hR hC hK hp hk hd hd' m (i + 1) _ (by omega) (by omega) (hg.ext fun r _ q _ => ?_)
    unfold cl
    by_cases h : r < i /\ r ≠ p
    ·rw [if_pos h, if_pos ⟨by omega, h.2⟩]
    ·rw [if_neg h, if_neg fun h' => h ⟨by have := h'.1; have := h'.2; omega, h'.2⟩]
   ·have hs := z9v qi
    rw [if_pos (by rw [beq_eq_false_iff_ne]; omega), hs, Option.bind_some]
    by_cases hz : V i k = 0
    ·rw [if_pos (by rw [hz]; rfl)]
     refine pcC hR hC hK hp hk hd hd' m (i + 1) _ (by omega) (by omega) (hg.ext fun r _ q _ => ?_)
     unfold cl
     by_cases h : r < i /\ r ≠ p
     ·rw [if_pos h, if_pos ⟨by omega, h.2⟩]
     ·rw [if_neg h]
      by_cases h' : r < i + 1 /\ r ≠ p
      ·have : r = i := by have := h'.1; have := h'.2; omega
       rw [if_pos h', this, hz]; grind
      ·rw [if_neg h']
    ·have hsn : ¬ ((V i k).num.sign == 0) = true := fun h => hz (Rat.num_eq_zero.1 (Int.sign_eq_zero_iff_zero.1 (by simpa using h)))
     obtain ⟨g', h3, h4⟩ := psC (u := u) (v := v) (bl := bl) (V := cl p k i V) (f := V i k) (b := (g.getD i []).getD k (false, ([], []))) hR hC hK hp hi hip (hd i hi k hk) (fun r hr q hq => by
         have a1 := hd r hr q hq
         have a2 := hd' r hr q hq
         unfold cl at a2 ⊢
         by_cases h : r < i /\ r ≠ p
         · rw [if_pos ⟨hr, h.2⟩] at a2; rw [if_pos h]; exact a2
         · rw [if_neg h]; exact a1) qi m 0 g (by omega) (by omega) (hg.ext fun r _ q _ => by unfold sbt; rw [if_neg fun h => by have := h.2; omega])
     have h3 : z05 m (p : Int) (i : Int) ((g.getD i []).length : Int) 0 u v (((g.getD i []).getD k (false, ([], []))).1) ((((g.getD i []).getD k (false, ([], []))).2).1) ((((g.getD i []).getD k (false, ([], []))).2).2) g bl = some (.exit (u, v, (((g.getD i []).getD k (false, ([], []))).1), ((((g.getD i []).getD k (false, ([], []))).2).1), ((((g.getD i []).getD k (false, ([], []))).2).2), g', bl, ())) := by rw [li]; exact h3
     rw [if_neg hsn, if_pos (by omega), if_pos (by omega), h3]
     refine pcC hR hC hK hp hk hd hd' m (i + 1) g' (by omega) (by omega) (h4.ext fun r _ q hq => ?_)
     unfold sbt
     by_cases h : r = i
     ·rw [if_pos ⟨h, hq⟩, ei, ep, h]
      unfold cl
      rw [if_pos ⟨by omega, hip⟩]
     ·rw [if_neg fun h' => h h'.1]
      unfold cl
      by_cases h' : r < i /\ r ≠ p
      ·rw [if_pos h', if_pos ⟨by omega, h'.2⟩]
      ·rw [if_neg h', if_neg fun h'' => h' ⟨by have := h''.1; omega, h''.2⟩]
  ·rw [if_neg (by simpa using hi)]
   have : i = R := by omega
   subst this
   exact ⟨g, rfl, hg⟩
theorem pvC {R C K p k : Nat} (hR : R <= 100) (hC : C <= 100) (hK : K <= 4000000) (hp : p < R) (hk : k < C) {T : Nat -> Nat -> Rat} (h0 : T p k ≠ 0) (hd : ∀ r, r < R -> ∀ q, q < C -> Dr K (T r q)) (hd' : ∀ r, r < R -> ∀ q, q < C -> Dr K (piv p k T r q)) {g : List (List Qd)} (hg : QG R C T g) {m : Nat} (hm : 400 < m) {u v : Int} {bl : List Int} :
  ∃ g1 g2, z06 m (p : Int) ((g.getD p []).length : Int) 0 u v ((g.getD p []).getD k (false, ([], []))).1 ((g.getD p []).getD k (false, ([], []))).2.1 ((g.getD p []).getD k (false, ([], []))).2.2 g bl
    = some (.exit (u, v, ((g.getD p []).getD k (false, ([], []))).1, ((g.getD p []).getD k (false, ([], []))).2.1, ((g.getD p []).getD k (false, ([], []))).2.2, g1, bl, ())) /\
   z02 m (p : Int) (k : Int) (g1.length : Int) 0 u v g1 bl = some (.exit (u, v, g2, bl, ())) /\ QG R C (piv p k T) g2 := by
 have hb : QR (T p k) ((g.getD p []).getD k (false, ([], []))) := (hg.2 p hp).2 k hk
 obtain ⟨g1, h1, h2⟩ := pdC (u := u) (v := v) (bl := bl) hR hC hK hp h0 hk hd hb m 0 g (by omega) (by omega) (hg.ext fun r _ q _ => by unfold dv; rw [if_neg fun h => by have := h.2; omega])
 have ecl : ∀ r, r < R -> ∀ q, q < C -> cl p k R (dv p k C T) r q = piv p k T r q := fun r hr q hq => by
  unfold cl piv
  by_cases h : r = p
  ·rw [if_neg fun h' => h'.2 h, if_pos h]
   unfold dv
   rw [if_pos ⟨h, hq⟩]
  ·rw [if_pos ⟨hr, h⟩, if_neg h]
   unfold dv
   rw [if_neg fun h' => h h'.1, if_neg fun h' => h h'.1, if_pos ⟨rfl, hq⟩]
 obtain ⟨g2, h3, h4⟩ := pcC (u := u) (v := v) (bl := bl) hR hC (K := K) (by omega) hp hk (V := dv p k C T) (fun r hr q hq => by
     unfold dv
     by_cases h : r = p /\ q < C
     · rw [if_pos h]
       have := hd' r hr q hq
       unfold piv at this
       rw [if_pos h.1] at this
       exact this
     · rw [if_neg h]; exact hd r hr q hq) (fun r hr q hq => by rw [ecl r hr q hq]; exact hd' r hr q hq) m 0 g1 (by omega) (by omega) (h2.ext fun r _ q _ => by unfold cl; rw [if_neg fun h => by have := h.1; omega])
 refine ⟨g1, g2, ?_, ?_, h4.ext ecl⟩
 ·rw [(hg.2 p hp).1]; exact h1
 ·rw [h2.1]; exact h3
end Go.Proofs.YtcdcoeofhnfjdabGreatDoor
namespace Go.Proofs.YtcdcoeofhnfjdabGreatDoor
open Go Vm
def bL (m : Nat) (β : Nat -> Nat) : List Int := (List.range m).map fun i => ((β i : Nat) : Int)
theorem z5w {m : Nat} {β : Nat -> Nat} : (bL m β).length = m := by simp [bL]
theorem yg4 {m : Nat} {β : Nat -> Nat} {i : Nat} (h : i < m) : (bL m β).getD i 0 = ((β i : Nat) : Int) := by
 rw [List.getD_eq_getElem?_getD, bL, List.getElem?_map, List.getElem?_range h]; rfl
theorem wv9 {m : Nat} {β : Nat -> Nat} : bL m β ++ [((β m : Nat) : Int)] = bL (m + 1) β := by
 unfold bL; rw [List.range_succ, List.map_append]; rfl
theorem w5q {m : Nat} {β : Nat -> Nat} {p k : Nat} (_ : p < m) : (bL m β).set p ((k : Nat) : Int) = bL m (ub p k β) := by
 apply List.ext_getElem
 ·simp [bL]
 ·intro i h1 h2
  rw [List.getElem_set]
  simp only [bL, List.getElem_map, List.getElem_range, ub]
  by_cases e : p = i
  ·rw [if_pos e, if_pos e.symm]
  ·rw [if_neg e, if_neg fun h => e h.symm]
theorem yl7 {n m : Nat} (hn : n <= 100) (hm : m <= 100) (g : List (List Qd)) (bl : List Int) : z1n fuel (g, (bl, ((n : Int), (m : Int)))) = some ((n + m + 1 : Nat) : Int) := by
 unfold z1n
 simp only
 have e1 : IntKind.i64.wrap ((n : Int) + (m : Int)) = ((n + m : Nat) : Int) := by rw [w64 _ (by omega) (by omega)]; omega
 rw [e1, w64 _ (by omega) (by omega)]
 congr 1
theorem wq6 {r : Rat} : ¬ r.num.sign <= 0 ↔ 0 < r := by
 rw [w6r]
 exact ⟨fun h => by grind, fun h h' => by grind⟩
theorem zt8 {r : Rat} : (r.num.sign == 0) = true ↔ r = 0 := by
 rw [beq_iff_eq, Int.sign_eq_zero_iff_zero, Rat.num_eq_zero]
theorem z9w {r : Rat} : r.num.sign < 0 ↔ r < 0 := by
 have := y91 (r := r)
 constructor
 ·intro h
  have h2 : ¬ 0 <= r := fun h3 => this.2 h3 h
  grind
 ·intro h
  by_cases c : r.num.sign < 0
  ·exact c
  ·have := this.1 c; grind
def LI (side k : Nat) (β : Nat -> Nat) (T : Nat -> Nat -> Rat) (best : Int) (q : Qd) (i : Nat) : Prop :=
 (best = -1 /\ ∀ j, j < i -> ¬ 0 < T j k) \/ ∃ p, p < i /\ best = ((p : Nat) : Int) /\ 0 < T p k /\ QR (T p side / T p k) q /\ ∀ j, j < i -> 0 < T j k -> T p side / T p k <= T j side / T j k /\ (T p side / T p k = T j side / T j k -> β p <= β j)
theorem z88 {R C K m n k : Nat} (hm : m <= 100) (hn : n <= 100) (hR : m <= R) (hC : C = n + m + 2) (hK : K <= 4000000) {T : Nat -> Nat -> Rat} {β : Nat -> Nat} {g : List (List Qd)} (hg : QG R C T g) (hk : k < C) (hd : ∀ r, r < R -> ∀ q, q < C -> Dr K (T r q)) :
  ∀ (f i : Nat) (best : Int) (q : Qd), i <= m -> m < f + i -> LI (n + m + 1) k β T best q i ->
  ∃ best' q', z11 f (g, (bL m β, ((n : Int), (m : Int)))) (k : Int) best (m : Int) (i : Int) q.1 q.2.1 q.2.2 = some (.exit (best', q'.1, q'.2.1, q'.2.2, ())) /\ LI (n + m + 1) k β T best' q' m
 | 0, i, best, q, h1, h2, _ => by omega
 | f + 1, i, best, q, h1, h2, hL => by
  have lg := hg.1
  have lb := z5w (m := m) (β := β)
  simp only [z11]
  by_cases hi : i < m
  ·have e4 : IntKind.i64.wrap ((i : Int) + 1) = ((i + 1 : Nat) : Int) := by rw [w64 _ (by omega) (by omega)]; omega
   have hri := hg.2 i (by omega)
   have li := hri.1
   have qk := hri.at hk
   have qs := hri.at (i := n + m + 1) (by omega)
   rw [if_pos (by simpa using hi), if_pos (by omega), if_pos (by omega), if_pos (by omega), Int.toNat_natCast, if_pos (by omega), Int.toNat_natCast, z9v qk, Option.bind_some, e4]
   by_cases hpos : 0 < T i k
   ·obtain ⟨z, hz, hqz⟩ := yl3 qs qk (hd i (by omega) _ (by omega)) (hd i (by omega) _ hk) (by omega) (by grind)
    have dz := ws4 (hd i (by omega) (n + m + 1) (by omega)) (hd i (by omega) _ hk) (show T i k ≠ 0 by grind)
    have keep : best = -1 /\ (∀ j, j < i -> ¬ 0 < T j k) -> LI (n + m + 1) k β T (i : Int) z (i + 1) := fun hh => .inr ⟨i, by omega, rfl, hpos, hqz, fun j hj hj0 => by
      by_cases e : j = i
      · subst e; exact ⟨Rat.le_refl, fun _ => Nat.le_refl _⟩
      · exact absurd hj0 (hh.2 j (by omega))⟩
    have hdec : ¬ decide ((T i k).num.sign <= 0) = true := by simpa using wq6.2 hpos
    rw [if_neg hdec, if_pos (by omega), if_pos (by omega), if_pos (by omega), if_pos (by omega), if_pos (by omega), if_pos (by omega), yl7 hn hm, Option.bind_some, if_pos (by omega), if_pos (by omega), Int.toNat_natCast, hz, Option.bind_some]
    rcases hL with ⟨rfl, hno⟩ | ⟨p, hp, rfl, hp0, hqp, hmin⟩
    ·rw [if_neg (by simp)]
     exact z88 hm hn hR hC hK hg hk hd f (i + 1) _ z (by omega) (by omega) (keep ⟨rfl, hno⟩)
    ·have dp := ws4 (hd p (by omega) (n + m + 1) (by omega)) (hd p (by omega) _ hk) (show T p k ≠ 0 by grind)
     have hc := w4z hqz hqp dz dp (by omega)
     have hc : z4w fuel z (q.1, (q.2.1, q.2.2)) = _ := hc
     have new : (T i (n + m + 1) / T i k < T p (n + m + 1) / T p k \/ (T i (n + m + 1) / T i k = T p (n + m + 1) / T p k /\ β i < β p)) -> LI (n + m + 1) k β T (i : Int) z (i + 1) := fun hh => .inr ⟨i, by omega, rfl, hpos, hqz, fun j hj hj0 => by
       by_cases e : j = i
       · subst e; exact ⟨Rat.le_refl, fun _ => Nat.le_refl _⟩
       · obtain ⟨a1, a2⟩ := hmin j (by omega) hj0
         rcases hh with hh | ⟨hh, hb⟩
         · exact ⟨Rat.le_trans (Rat.le_of_lt hh) a1, fun e => by grind⟩
         · rw [hh]; exact ⟨a1, fun e => by have := a2 e; omega⟩⟩
     have old : (T p (n + m + 1) / T p k < T i (n + m + 1) / T i k \/ (T i (n + m + 1) / T i k = T p (n + m + 1) / T p k /\ ¬ β i < β p)) -> LI (n + m + 1) k β T (p : Int) q (i + 1) := fun hh => .inr ⟨p, by omega, rfl, hp0, hqp, fun j hj hj0 => by
       by_cases e : j = i
       · subst e
         rcases hh with hh | ⟨hh, hb⟩
         · exact ⟨Rat.le_of_lt hh, fun e => by grind⟩
         · exact ⟨by rw [hh]; exact Rat.le_refl, fun _ => by omega⟩
       · exact hmin j (by omega) hj0⟩
     rw [if_pos (by simp), hc, Option.bind_some]
     by_cases c1 : T i (n + m + 1) / T i k < T p (n + m + 1) / T p k
     ·have : (T i (n + m + 1) / T i k - T p (n + m + 1) / T p k).num.sign < 0 := z9w.2 (by grind)
      rw [if_neg (by rw [decide_eq_false_iff_not]; exact fun h => h this)]
      exact z88 hm hn hR hC hK hg hk hd f (i + 1) _ z (by omega) (by omega) (new (.inl c1))
     ·have hs : ¬ (T i (n + m + 1) / T i k - T p (n + m + 1) / T p k).num.sign < 0 := fun h => c1 (by have := z9w.1 h; grind)
      rw [if_pos (by rw [decide_eq_false_iff_not]; exact hs)]
      by_cases c2 : T i (n + m + 1) / T i k = T p (n + m + 1) / T p k
      ·rw [if_pos (zt8.2 (by grind)), if_pos (by omega), if_pos (by omega), if_pos (by omega), if_pos (by omega), Int.toNat_natCast, yg4 hi, yg4 (by omega)]
       by_cases c3 : β i < β p
       ·rw [if_pos (by simpa using c3)]
        exact z88 hm hn hR hC hK hg hk hd f (i + 1) _ z (by omega) (by omega) (new (.inr ⟨c2, c3⟩))
       ·rw [if_neg (by simpa using c3)]
        exact z88 hm hn hR hC hK hg hk hd f (i + 1) _ q (by omega) (by omega) (old (.inr ⟨c2, c3⟩))
      ·rw [if_neg fun h => c2 (by have := zt8.1 h; grind)]
       exact z88 hm hn hR hC hK hg hk hd f (i + 1) _ q (by omega) (by omega) (old (.inl (by grind)))
   ·have hdec : decide ((T i k).num.sign <= 0) = true := by
     rw [decide_eq_true_eq, w6r]; grind
    rw [if_pos hdec]
    refine z88 hm hn hR hC hK hg hk hd f (i + 1) _ q (by omega) (by omega) ?_
    rcases hL with ⟨e, hno⟩ | ⟨p, hp, e, hp0, hqp, hmin⟩
    ·exact .inl ⟨e, fun j hj => by
       by_cases e : j = i
       · subst e; exact hpos
       · exact hno j (by omega)⟩
    ·exact .inr ⟨p, by omega, e, hp0, hqp, fun j hj hj0 => by
       by_cases e : j = i
       · subst e; exact absurd hj0 hpos
       · exact hmin j (by omega) hj0⟩
  ·rw [if_neg (by simpa using hi)]
   have : i = m := by omega
   subst this
   exact ⟨best, q, rfl, hL⟩
theorem ys6 {R C K m n k : Nat} (hm : m <= 100) (hn : n <= 100) (hR : m <= R) (hC : C = n + m + 2) (hK : K <= 4000000) {T : Nat -> Nat -> Rat} {β : Nat -> Nat} {g : List (List Qd)} (hg : QG R C T g) (hk : k < C) (hd : ∀ r, r < R -> ∀ q, q < C -> Dr K (T r q)) :
  (z37 fuel (g, (bL m β, ((n : Int), (m : Int)))) (k : Int) = some (-1) /\ ∀ j, j < m -> ¬ 0 < T j k) \/ ∃ p, z37 fuel (g, (bL m β, ((n : Int), (m : Int)))) (k : Int) = some ((p : Nat) : Int) /\ Lvs m (n + m + 1) β T k p := by
 unfold z37
 obtain ⟨best, q, h1, h2⟩ := z88 (β := β) hm hn hR hC hK hg hk hd fuel 0 (-1) (false, ([], [])) (by omega) (by have := z82 (n := 2 ^ 100) (by decide); omega) (.inl ⟨rfl, fun j hj => by omega⟩)
 have h1 : z11 fuel (g, (bL m β, ((n : Int), (m : Int)))) (k : Int) (-1) (m : Int) 0 false [] [] = some (.exit (best, q.1, q.2.1, q.2.2, ())) := h1
 simp only
 rw [h1]
 rcases h2 with ⟨rfl, h2⟩ | ⟨p, hp, rfl, hp0, hq, hmin⟩
 ·exact .inl ⟨rfl, h2⟩
 ·exact .inr ⟨p, rfl, hp, hp0, hmin⟩
end Go.Proofs.YtcdcoeofhnfjdabGreatDoor
namespace Go.Proofs.YtcdcoeofhnfjdabGreatDoor
open Go Vm
theorem Chain.snoc {m n N cols side L : Nat} {M : Nat -> Nat -> Rat} {c : Nat -> Rat} {β : Nat -> Nat -> Nat} {T : Nat -> Nat -> Nat -> Rat} {k p : Nat -> Nat} (h : Chain m n N cols side M c L β T k p)
  (hn : n + m <= N) (hM : ∀ i, i < m -> ∀ j, j < m -> M i (n + j) = one i j) (hcN : cols <= N) {q r : Nat} (he : Ent m cols (T L) q) (hl : Lvs m side (β L) (T L) q r) :
  ∃ β' T' k' p', Chain m n N cols side M c (L + 1) β' T' k' p' /\ β' (L + 1) = ub r q (β L) /\ T' (L + 1) = piv r q (T L) := by
 have hq : q < N := Nat.lt_of_lt_of_le he.1 hcN
 have h0 : T L r q ≠ 0 := by have := hl.2.1; grind
 have ht := (h.tab L (Nat.le_refl _)).pivot hn hM hl.1 hq h0
 have hs := w8y (h.pos L (Nat.le_refl _)) hl
 refine ⟨fun j => if j <= L then β j else ub r q (β L), fun j => if j <= L then T j else piv r q (T L), fun j => if j < L then k j else q, fun j => if j < L then p j else r, ⟨fun j hj => ?_, fun j hj i hi => ?_, fun j hj i hi => ?_, fun j hj => ?_, fun j hj => ?_, fun j hj => ?_, fun j hj => ?_⟩, ?_, ?_⟩
 ·show Tab m n N M c (if j <= L then β j else ub r q (β L)) (if j <= L then T j else piv r q (T L))
  by_cases e : j <= L
  ·rw [if_pos e, if_pos e]; exact h.tab j e
  ·rw [if_neg e, if_neg e]; exact ht
 ·show 0 <= (if j <= L then T j else piv r q (T L)) i side
  by_cases e : j <= L
  ·rw [if_pos e]; exact h.pos j e i hi
  ·rw [if_neg e]; exact hs i hi
 ·show (if j <= L then β j else ub r q (β L)) i < cols
  by_cases e : j <= L
  ·rw [if_pos e]; exact h.lt j e i hi
  ·rw [if_neg e]; unfold ub
   by_cases e2 : i = r
   ·rw [if_pos e2]; exact he.1
   ·rw [if_neg e2]; exact h.lt L (Nat.le_refl _) i hi
 ·show Ent m cols (if j <= L then T j else piv r q (T L)) (if j < L then k j else q)
  rw [if_pos (show j <= L by omega)]
  by_cases e : j < L
  ·rw [if_pos e]; exact h.ent j e
  ·rw [if_neg e, show j = L by omega]; exact he
 ·show Lvs m side (if j <= L then β j else ub r q (β L)) (if j <= L then T j else piv r q (T L)) (if j < L then k j else q) (if j < L then p j else r)
  rw [if_pos (show j <= L by omega), if_pos (show j <= L by omega)]
  by_cases e : j < L
  ·rw [if_pos e, if_pos e]; exact h.lvs j e
  ·rw [if_neg e, if_neg e, show j = L by omega]; exact hl
 ·show (if j + 1 <= L then β (j + 1) else ub r q (β L)) = ub (if j < L then p j else r) (if j < L then k j else q) (if j <= L then β j else ub r q (β L))
  rw [if_pos (show j <= L by omega)]
  by_cases e : j < L
  ·rw [if_pos e, if_pos e, if_pos (show j + 1 <= L by omega)]; exact h.bs j e
  ·rw [if_neg e, if_neg e, if_neg (show ¬ j + 1 <= L by omega), show j = L by omega]
 ·show (if j + 1 <= L then T (j + 1) else piv r q (T L)) = piv (if j < L then p j else r) (if j < L then k j else q) (if j <= L then T j else piv r q (T L))
  rw [if_pos (show j <= L by omega)]
  by_cases e : j < L
  ·rw [if_pos e, if_pos e, if_pos (show j + 1 <= L by omega)]; exact h.ts j e
  ·rw [if_neg e, if_neg e, if_neg (show ¬ j + 1 <= L by omega), show j = L by omega]
 ·show (if L + 1 <= L then β (L + 1) else ub r q (β L)) = _
  rw [if_neg (by omega)]
 ·show (if L + 1 <= L then T (L + 1) else piv r q (T L)) = _
  rw [if_neg (by omega)]
theorem rsA {R C m n cols : Nat} (hC : C <= 100) (hR : m < R) (hR' : R <= 100) (hcs : cols <= C) {T : Nat -> Nat -> Rat} {g : List (List Qd)} (hg : QG R C T g) {bl : List Int} : ∀ (f k : Nat), k <= cols -> cols < f + k -> (∀ q, q < k -> 0 <= T m q) ->
  ∃ k' : Nat, z1e f (cols : Int) (k : Int) (n : Int) (m : Int) g bl = some (.exit ((k' : Int), (n : Int), (m : Int), g, bl, ())) /\ ((k' = cols /\ ∀ q, q < cols -> 0 <= T m q) \/ Ent m cols T k')
 | 0, k, h1, h2, _ => by omega
 | f + 1, k, h1, h2, hk => by
  have lg := hg.1
  simp only [z1e]
  by_cases hc : k < cols
  ·have e4 : IntKind.i64.wrap ((k : Int) + 1) = ((k + 1 : Nat) : Int) := by rw [w64 _ (by omega) (by omega)]; omega
   have hr := hg.2 m hR
   have lr := hr.1
   have hq := hr.at (i := k) (by omega)
   rw [if_pos (by simpa using hc), if_pos (by omega), if_pos (by omega), if_pos (by omega), Int.toNat_natCast, if_pos (by omega), Int.toNat_natCast, z9v hq, Option.bind_some, e4]
   by_cases c : 0 <= T m k
   ·have := y91.2 c
    rw [if_pos (by rw [decide_eq_true_eq]; omega)]
    refine rsA hC hR hR' hcs hg f (k + 1) (by omega) (by omega) fun q hq => ?_
    by_cases e : q = k
    ·subst e; exact c
    ·exact hk q (by omega)
   ·have : (T m k).num.sign < 0 := z9w.2 (by grind)
    rw [if_neg (by rw [decide_eq_true_eq]; omega)]
    exact ⟨k, rfl, .inr ⟨hc, by grind, hk⟩⟩
  ·rw [if_neg (by simpa using hc)]
   have : k = cols := by omega
   subst this
   exact ⟨k, rfl, .inl ⟨rfl, hk⟩⟩
theorem v3f {K m n cols : Nat} (hm : m <= 20) (hn : n <= 20) (hK : K <= 4000000) {M : Nat -> Nat -> Rat} {c : Nat -> Rat} (hM : ∀ i, i < m -> ∀ j, j < m -> M i (n + j) = one i j) (hgood : Good (m + 1) (n + m + 2 + 1) K (gM m (n + m + 2) M c)) (hcs : cols <= n + m + 1) :
  ∀ (f L : Nat) (β : Nat -> Nat -> Nat) (T : Nat -> Nat -> Nat -> Rat) (k p : Nat -> Nat), Chain m n (n + m + 2) cols (n + m + 1) M c L β T k p -> 2 ^ cols + 1000 <= f + L -> ∀ g : List (List Qd), QG (m + 1) (n + m + 2) (T L) g ->
  ∃ (r : Int) (β' : Nat -> Nat) (T' : Nat -> Nat -> Rat) (g' : List (List Qd)), z12 f (cols : Int) (n : Int) (m : Int) g (bL m (β L)) = some (.ret (r, (n : Int), (m : Int), g', bL m β', ())) /\ Tab m n (n + m + 2) M c β' T' /\
   (∀ i, i < m -> 0 <= T' i (n + m + 1)) /\ (∀ i, i < m -> β' i < cols) /\ QG (m + 1) (n + m + 2) T' g' /\ ((r = -1 /\ ∀ q, q < cols -> 0 <= T' m q) \/ ∃ q : Nat, r = (q : Int) /\ q < cols /\ T' m q < 0 /\ ∀ i, i < m -> ¬ 0 < T' i q)
 | 0, L, β, T, k, p, hch, hf, g, hg => by have := wl9 hcs (by omega) hch; omega
 | f + 1, L, β, T, k, p, hch, hf, g, hg => by
  have hL := wl9 hcs (by omega) hch
  have lg := hg.1
  have htab := hch.tab L (Nat.le_refl _)
  have hdr := htab.dr hgood
  have lb := z5w (m := m) (β := β L)
  have e2 : cols < 2 ^ cols := Nat.lt_two_pow_self
  obtain ⟨q, s1, s2⟩ := rsA (n := n) (m := m) (cols := cols) (bl := bL m (β L)) (by omega) (by omega) (by omega) (by omega) hg f 0 (by omega) (by omega) (fun q hq => by omega)
  have s1 : z1e f (cols : Int) 0 (n : Int) (m : Int) g (bL m (β L)) = _ := s1
  simp only [z12]
  rw [s1]
  simp only
  rcases s2 with ⟨rfl, s2⟩ | he
  ·rw [if_pos (by simp)]
   exact ⟨-1, β L, T L, g, rfl, htab, hch.pos L (Nat.le_refl _), hch.lt L (Nat.le_refl _), hg, .inl ⟨rfl, s2⟩⟩
  ·have hq := he.1
   rw [if_neg (show ¬ (((q : Nat) : Int) == ((cols : Nat) : Int)) = true by rw [beq_iff_eq]; omega)]
   rcases ys6 (β := β L) (m := m) (n := n) (k := q) (by omega) (by omega) (by omega) rfl hK hg (by omega) hdr with ⟨l1, l2⟩ | ⟨r, l1, hl⟩
   ·rw [l1, Option.bind_some, if_pos (by decide)]
    exact ⟨(q : Int), β L, T L, g, rfl, htab, hch.pos L (Nat.le_refl _), hch.lt L (Nat.le_refl _), hg, .inr ⟨q, rfl, hq, he.2.1, l2⟩⟩
   ·have hr := hl.1
    have lr := (hg.2 r (by omega)).1
    have h0 : T L r q ≠ 0 := by have := hl.2.1; grind
    obtain ⟨β', T', k', p', c1, c2, c3⟩ := hch.snoc (by omega) hM (by omega) he hl
    have hdr' := (c1.tab (L + 1) (Nat.le_refl _)).dr hgood
    rw [c3] at hdr'
    obtain ⟨g1, g2, v1, v2, v3⟩ := pvA (u := (n : Int)) (v := (m : Int)) (bl := bL m (β L)) (p := r) (k := q) (R := m + 1) (C := n + m + 2) (by omega) (by omega) hK (by omega) (by omega) h0 hdr hdr' hg (m := f) (by omega)
    rw [l1, Option.bind_some, if_neg (show ¬ decide (((r : Nat) : Int) < 0) = true by rw [decide_eq_true_eq]; omega), if_pos (by omega), if_pos (by omega), if_pos (by omega)]
    simp only [Int.toNat_natCast]
    rw [if_pos (show ((q : Nat) : Int) < (((g.getD r ([] : List Qd)).length : Nat) : Int) by omega), if_pos (by omega), if_pos (by omega), v1]
    simp only
    rw [v2]
    simp only
    rw [if_pos (by omega), if_pos (by omega), w5q hr, <- c2]
    exact v3f hm hn hK hM hgood hcs f (L + 1) β' T' k' p' c1 (by omega) g2 (by rw [c3]; exact v3)
theorem rsC {R C m n cols : Nat} (hC : C <= 100) (hR : m < R) (hR' : R <= 100) (hcs : cols <= C) {T : Nat -> Nat -> Rat} {g : List (List Qd)} (hg : QG R C T g) {bl : List Int} : ∀ (f k : Nat), k <= cols -> cols < f + k -> (∀ q, q < k -> 0 <= T m q) ->
  ∃ k' : Nat, z0g f (cols : Int) (k : Int) (n : Int) (m : Int) g bl = some (.exit ((k' : Int), (n : Int), (m : Int), g, bl, ())) /\ ((k' = cols /\ ∀ q, q < cols -> 0 <= T m q) \/ Ent m cols T k')
 | 0, k, h1, h2, _ => by omega
 | f + 1, k, h1, h2, hk => by
  have lg := hg.1
  simp only [z0g]
  by_cases hc : k < cols
  ·have e4 : IntKind.i64.wrap ((k : Int) + 1) = ((k + 1 : Nat) : Int) := by rw [w64 _ (by omega) (by omega)]; omega
   have hr := hg.2 m hR
   have lr := hr.1
   have hq := hr.at (i := k) (by omega)
   rw [if_pos (by simpa using hc), if_pos (by omega), if_pos (by omega), if_pos (by omega), Int.toNat_natCast, if_pos (by omega), Int.toNat_natCast, z9v hq, Option.bind_some, e4]
   by_cases c : 0 <= T m k
   ·have := y91.2 c
    rw [if_pos (by rw [decide_eq_true_eq]; omega)]
    refine rsC hC hR hR' hcs hg f (k + 1) (by omega) (by omega) fun q hq => ?_
    by_cases e : q = k
    ·subst e; exact c
    ·exact hk q (by omega)
   ·have : (T m k).num.sign < 0 := z9w.2 (by grind)
    rw [if_neg (by rw [decide_eq_true_eq]; omega)]
    exact ⟨k, rfl, .inr ⟨hc, by grind, hk⟩⟩
  ·rw [if_neg (by simpa using hc)]
   have : k = cols := by omega
   subst this
   exact ⟨k, rfl, .inl ⟨rfl, hk⟩⟩
theorem v3g {K m n cols : Nat} (hm : m <= 20) (hn : n <= 20) (hK : K <= 4000000) {M : Nat -> Nat -> Rat} {c : Nat -> Rat} (hM : ∀ i, i < m -> ∀ j, j < m -> M i (n + j) = one i j) (hgood : Good (m + 1) (n + m + 2 + 1) K (gM m (n + m + 2) M c)) (hcs : cols <= n + m + 1) :
  ∀ (f L : Nat) (β : Nat -> Nat -> Nat) (T : Nat -> Nat -> Nat -> Rat) (k p : Nat -> Nat), Chain m n (n + m + 2) cols (n + m + 1) M c L β T k p -> 2 ^ cols + 1000 <= f + L -> ∀ g : List (List Qd), QG (m + 1) (n + m + 2) (T L) g ->
  ∃ (r : Int) (β' : Nat -> Nat) (T' : Nat -> Nat -> Rat) (g' : List (List Qd)), z0p f (cols : Int) (n : Int) (m : Int) g (bL m (β L)) = some (.ret (r, (n : Int), (m : Int), g', bL m β', ())) /\ Tab m n (n + m + 2) M c β' T' /\
   (∀ i, i < m -> 0 <= T' i (n + m + 1)) /\ (∀ i, i < m -> β' i < cols) /\ QG (m + 1) (n + m + 2) T' g' /\ ((r = -1 /\ ∀ q, q < cols -> 0 <= T' m q) \/ ∃ q : Nat, r = (q : Int) /\ q < cols /\ T' m q < 0 /\ ∀ i, i < m -> ¬ 0 < T' i q)
 | 0, L, β, T, k, p, hch, hf, g, hg => by have := wl9 hcs (by omega) hch; omega
 | f + 1, L, β, T, k, p, hch, hf, g, hg => by
  have hL := wl9 hcs (by omega) hch
  have lg := hg.1
  have htab := hch.tab L (Nat.le_refl _)
  have hdr := htab.dr hgood
  have lb := z5w (m := m) (β := β L)
  have e2 : cols < 2 ^ cols := Nat.lt_two_pow_self
  obtain ⟨q, s1, s2⟩ := rsC (n := n) (m := m) (cols := cols) (bl := bL m (β L)) (by omega) (by omega) (by omega) (by omega) hg f 0 (by omega) (by omega) (fun q hq => by omega)
  have s1 : z0g f (cols : Int) 0 (n : Int) (m : Int) g (bL m (β L)) = _ := s1
  simp only [z0p]
  rw [s1]
  simp only
  rcases s2 with ⟨rfl, s2⟩ | he
  ·rw [if_pos (by simp)]
   exact ⟨-1, β L, T L, g, rfl, htab, hch.pos L (Nat.le_refl _), hch.lt L (Nat.le_refl _), hg, .inl ⟨rfl, s2⟩⟩
  ·have hq := he.1
   rw [if_neg (show ¬ (((q : Nat) : Int) == ((cols : Nat) : Int)) = true by rw [beq_iff_eq]; omega)]
   rcases ys6 (β := β L) (m := m) (n := n) (k := q) (by omega) (by omega) (by omega) rfl hK hg (by omega) hdr with ⟨l1, l2⟩ | ⟨r, l1, hl⟩
   ·rw [l1, Option.bind_some, if_pos (by decide)]
    exact ⟨(q : Int), β L, T L, g, rfl, htab, hch.pos L (Nat.le_refl _), hch.lt L (Nat.le_refl _), hg, .inr ⟨q, rfl, hq, he.2.1, l2⟩⟩
   ·have hr := hl.1
    have lr := (hg.2 r (by omega)).1
    have h0 : T L r q ≠ 0 := by have := hl.2.1; grind
    obtain ⟨β', T', k', p', c1, c2, c3⟩ := hch.snoc (by omega) hM (by omega) he hl
    have hdr' := (c1.tab (L + 1) (Nat.le_refl _)).dr hgood
    rw [c3] at hdr'
    obtain ⟨g1, g2, v1, v2, v3⟩ := pvC (u := (n : Int)) (v := (m : Int)) (bl := bL m (β L)) (p := r) (k := q) (R := m + 1) (C := n + m + 2) (by omega) (by omega) hK (by omega) (by omega) h0 hdr hdr' hg (m := f) (by omega)
    rw [l1, Option.bind_some, if_neg (show ¬ decide (((r : Nat) : Int) < 0) = true by rw [decide_eq_true_eq]; omega), if_pos (by omega), if_pos (by omega), if_pos (by omega)]
    simp only [Int.toNat_natCast]
    rw [if_pos (show ((q : Nat) : Int) < (((g.getD r ([] : List Qd)).length : Nat) : Int) by omega), if_pos (by omega), if_pos (by omega), v1]
    simp only
    rw [v2]
    simp only
    rw [if_pos (by omega), if_pos (by omega), w5q hr, <- c2]
    exact v3g hm hn hK hM hgood hcs f (L + 1) β' T' k' p' c1 (by omega) g2 (by rw [c3]; exact v3)
end Go.Proofs.YtcdcoeofhnfjdabGreatDoor
namespace Go.Proofs.YtcdcoeofhnfjdabGreatDoor
open Go Vm
theorem we4 : ∃ q, z6n fuel 1 = some q /\ QR 1 q := ⟨(false, (zs (cn 1), zs (cn 1))), by
  unfold z6n
  rw [if_neg (by decide), of_one]; rfl, by decide, by rfl, .inl (by rfl)⟩
theorem wt1 : ∃ q, z6n fuel (-1) = some q /\ QR (-1) q := ⟨(true, (zs (cn 1), zs (cn 1))), by
  unfold z6n
  have e : IntKind.i64.wrap (0 - (-1)) = 1 := by decide
  rw [if_pos (by decide), e, of_one]; rfl, by decide, by rfl, .inl (by rfl)⟩
theorem QF.copy {n C : Nat} {f : Nat -> Rat} {qs : List Qd} (h : QF n f qs) (hn : n <= C) :
  QF C (fun k => if k < n then f k else 0) (qs.take (List.replicate C ((false, ([], [])) : Qd)).length ++ (List.replicate C ((false, ([], [])) : Qd)).drop qs.length) := by
 have hl := h.1
 have e : qs.take (List.replicate C ((false, ([], [])) : Qd)).length = qs := List.take_of_length_le (by rw [List.length_replicate]; omega)
 rw [e]
 refine ⟨by simp [hl]; omega, fun k hk => ?_⟩
 show QR (if k < n then f k else 0) _
 by_cases c : k < n
 ·rw [if_pos c, y2v (by omega)]; exact h.2 k c
 ·rw [if_neg c, List.getD_eq_getElem?_getD, List.getElem?_append_right (by omega), List.drop_replicate, List.getElem?_replicate, if_pos (by omega)]
  exact y3g
theorem yt8 {m n : Nat} (hm : m <= 40) (hn : n <= 40) {A : Nat -> Nat -> Rat} {b : Nat -> Rat} {G : List (List Qd)} {B : List Qd} (hG : QG m n A G) (hB : QF m b B) : ∀ (f i : Nat) (g : List (List Qd)), i <= m -> m < f + i -> QG i (n + m + 2) (lpM m n A b) g ->
  ∃ g', z1s f (m : Int) (i : Int) (n : Int) (m : Int) G B g (bL i fun j => n + j) = some (.exit ((n : Int), (m : Int), G, B, g', bL m (fun j => n + j), ())) /\ QG m (n + m + 2) (lpM m n A b) g'
 | 0, i, g, h1, h2, _ => by omega
 | f + 1, i, g, h1, h2, hg => by
  have lG := hG.1
  have lB := hB.1
  have lg := hg.1
  have lb := z5w (m := i) (β := fun j => n + j)
  simp only [z1s]
  by_cases hi : i < m
  ·have e4 : IntKind.i64.wrap ((i : Int) + 1) = ((i + 1 : Nat) : Int) := by rw [w64 _ (by omega) (by omega)]; omega
   have e5 : IntKind.i64.wrap ((n : Int) + (m : Int)) = ((n + m : Nat) : Int) := by rw [w64 _ (by omega) (by omega)]; omega
   have e6 : IntKind.i64.wrap (((n + m : Nat) : Int) + 2) = ((n + m + 2 : Nat) : Int) := by rw [w64 _ (by omega) (by omega)]; omega
   have e7 : IntKind.i64.wrap (((n + m : Nat) : Int) + 1) = ((n + m + 1 : Nat) : Int) := by rw [w64 _ (by omega) (by omega)]; omega
   have e8 : IntKind.i64.wrap ((n : Int) + (i : Int)) = ((n + i : Nat) : Int) := by rw [w64 _ (by omega) (by omega)]; omega
   obtain ⟨q1, i1, j1⟩ := we4
   obtain ⟨q2, i2, j2⟩ := wt1
   have hr := (hG.2 i hi).copy (C := n + m + 2) (by omega)
   have hb := hB.at hi
   have hrow := ((hr.set (i := n + i) (by omega) j1).set (i := n + m) (by omega) j2).set (i := n + m + 1) (by omega) hb
   have l0 := hr.1
   rw [e5, e6, e7, e8, e4, if_pos (by simpa using hi)]
   simp only [Int.toNat_natCast]
   rw [if_pos (by omega), if_pos (by omega), if_pos (by omega), if_pos (by omega), if_pos (by omega), i1, Option.bind_some, if_pos (by omega), if_pos (show (((n + i : Nat) : Nat) : Int) < ((((G.getD i []).take (List.replicate (n + m + 2) ((false, ([], [])) : Qd)).length ++ (List.replicate (n + m + 2) ((false, ([], [])) : Qd)).drop (G.getD i []).length).length : Nat) : Int) by omega), i2, Option.bind_some, if_pos (by omega),
     if_pos (by rw [List.length_set]; exact (show (((n + m : Nat) : Nat) : Int) < ((((G.getD i []).take (List.replicate (n + m + 2) ((false, ([], [])) : Qd)).length ++ (List.replicate (n + m + 2) ((false, ([], [])) : Qd)).drop (G.getD i []).length).length : Nat) : Int) by omega)), if_pos (by omega), if_pos (by omega), if_pos (by omega),
     if_pos (by rw [List.length_set, List.length_set]; exact (show (((n + m + 1 : Nat) : Nat) : Int) < ((((G.getD i []).take (List.replicate (n + m + 2) ((false, ([], [])) : Qd)).length ++ (List.replicate (n + m + 2) ((false, ([], [])) : Qd)).drop (G.getD i []).length).length : Nat) : Int) by omega)), if_pos (by omega), if_pos (by omega)]
   have eb : bL i (fun j => n + j) ++ [((n + i : Nat) : Int)] = bL (i + 1) fun j => n + j := wv9 (m := i) (β := fun j => n + j)
   rw [eb]
   refine yt8 hm hn hG hB f (i + 1) _ (by omega) (by omega) (hg.snoc (hrow.ext fun k hk => ?_))
   unfold lpM one
   by_cases c1 : k < n
   ·rw [if_neg (by omega), if_neg (by omega), if_neg (by omega), if_pos c1, if_pos c1]
   ·rw [if_neg c1, if_neg c1]
    by_cases c2 : k < n + m
    ·rw [if_neg (by omega), if_neg (by omega), if_pos c2]
     by_cases c3 : k = n + i
     ·rw [if_pos c3, if_pos (by omega)]
     ·rw [if_neg c3, if_neg (by omega)]
    ·rw [if_neg c2]
     by_cases c3 : k = n + m
     ·rw [if_neg (by omega), if_pos c3, if_pos c3]
     ·rw [if_pos (by omega), if_neg c3]
  ·rw [if_neg (by simpa using hi)]
   have : i = m := by omega
   subst this
   exact ⟨g, rfl, hg⟩
def AI (side : Nat) (T : Nat -> Nat -> Rat) (a : Int) (i : Nat) : Prop := (a = -1 /\ ∀ j, j < i -> 0 <= T j side) \/ ∃ p, p < i /\ a = ((p : Nat) : Int) /\ T p side < 0 /\ ∀ j, j < i -> T p side <= T j side
theorem y03 {R K m n : Nat} (hm : m <= 40) (hn : n <= 40) (hR : m <= R) (hR' : R <= 100) (hK : K <= 4000000) {T : Nat -> Nat -> Rat} {g : List (List Qd)} (hg : QG R (n + m + 2) T g) (hd : ∀ r, r < R -> ∀ q, q < n + m + 2 -> Dr K (T r q)) {bl : List Int} : ∀ (f i : Nat) (a : Int), i <= m -> m < f + i -> AI (n + m + 1) T a i ->
  ∃ a', z0k f a (m : Int) (i : Int) (n : Int) (m : Int) g bl = some (.exit (a', (n : Int), (m : Int), g, bl, ())) /\ AI (n + m + 1) T a' m
 | 0, i, a, h1, h2, _ => by omega
 | f + 1, i, a, h1, h2, ha => by
  have lg := hg.1
  simp only [z0k]
  by_cases hi : i < m
  ·have e4 : IntKind.i64.wrap ((i : Int) + 1) = ((i + 1 : Nat) : Int) := by rw [w64 _ (by omega) (by omega)]; omega
   have hri := hg.2 i (by omega)
   have li := hri.1
   have qi := hri.at (i := n + m + 1) (by omega)
   rw [if_pos (by simpa using hi), if_pos (by omega), if_pos (by omega), yl7 (by omega) (by omega), Option.bind_some, if_pos (by omega), Int.toNat_natCast, if_pos (by omega), Int.toNat_natCast, z9v qi, Option.bind_some, e4]
   by_cases c : T i (n + m + 1) < 0
   ·rw [if_pos (by rw [decide_eq_true_eq]; exact z9w.2 c)]
    rcases ha with ⟨rfl, hno⟩ | ⟨p, hp, rfl, hp0, hmin⟩
    ·rw [if_neg (by decide)]
     refine y03 hm hn hR hR' hK hg hd f (i + 1) _ (by omega) (by omega) (.inr ⟨i, by omega, rfl, c, fun j hj => ?_⟩)
     by_cases e : j = i
     ·subst e; exact Rat.le_refl
     ·have := hno j (by omega); grind
    ·have hrp := hg.2 p (by omega)
     have lp := hrp.1
     have qp := hrp.at (i := n + m + 1) (by omega)
     rw [if_pos (show decide (((p : Nat) : Int) < 0) = false by rw [decide_eq_false_iff_not]; omega), if_pos (by omega), if_pos (by omega), Option.bind_some, if_pos (by omega), if_pos (show ((n + m + 1 : Nat) : Int) < (((g.getD (Int.toNat ((p : Nat) : Int)) ([] : List Qd)).length : Nat) : Int) by rw [Int.toNat_natCast]; omega)]
     simp only [Int.toNat_natCast]
     rw [w4z qi qp (hd i (by omega) _ (by omega)) (hd p (by omega) _ (by omega)) (by omega), Option.bind_some]
     by_cases c2 : T i (n + m + 1) < T p (n + m + 1)
     ·rw [if_pos (by rw [decide_eq_true_eq]; exact z9w.2 (by grind))]
      refine y03 hm hn hR hR' hK hg hd f (i + 1) _ (by omega) (by omega) (.inr ⟨i, by omega, rfl, c, fun j hj => ?_⟩)
      by_cases e : j = i
      ·subst e; exact Rat.le_refl
      ·have := hmin j (by omega); grind
     ·rw [if_neg (by rw [decide_eq_true_eq]; exact fun h => c2 (by have := z9w.1 h; grind))]
      refine y03 hm hn hR hR' hK hg hd f (i + 1) _ (by omega) (by omega) (.inr ⟨p, by omega, rfl, hp0, fun j hj => ?_⟩)
      by_cases e : j = i
      ·subst e; grind
      ·exact hmin j (by omega)
   ·rw [if_neg (by rw [decide_eq_true_eq]; exact fun h => c (z9w.1 h))]
    refine y03 hm hn hR hR' hK hg hd f (i + 1) _ (by omega) (by omega) ?_
    rcases ha with ⟨e, hno⟩ | ⟨p, hp, e, hp0, hmin⟩
    ·exact .inl ⟨e, fun j hj => by
       by_cases e : j = i
       · subst e; grind
       · exact hno j (by omega)⟩
    ·exact .inr ⟨p, by omega, e, hp0, fun j hj => by
       by_cases e : j = i
       · subst e; grind
       · exact hmin j (by omega)⟩
  ·rw [if_neg (by simpa using hi)]
   have : i = m := by omega
   subst this
   exact ⟨a, rfl, ha⟩
theorem y19 {R m n : Nat} (hm : m <= 40) (hn : n <= 40) (hR : m <= R) (hR' : R <= 100) {T : Nat -> Nat -> Rat} {β : Nat -> Nat} {g : List (List Qd)} (hg : QG R (n + m + 2) T g) (hinj : ∀ i j, i < m -> j < m -> β i = β j -> i = j) : ∀ (f i : Nat) (x : List Qd), i <= m -> m < f + i -> QF n (xv i β T (n + m + 1)) x ->
  ∃ x', z0l f (m : Int) (i : Int) (n : Int) (m : Int) x (bL m β) g = some (.exit (x', (n : Int), (m : Int), bL m β, g, ())) /\ QF n (xv m β T (n + m + 1)) x'
 | 0, i, x, h1, h2, _ => by omega
 | f + 1, i, x, h1, h2, hx => by
  have lg := hg.1
  have lx := hx.1
  have lb := z5w (m := m) (β := β)
  simp only [z0l]
  by_cases hi : i < m
  ·have e4 : IntKind.i64.wrap ((i : Int) + 1) = ((i + 1 : Nat) : Int) := by rw [w64 _ (by omega) (by omega)]; omega
   have hri := hg.2 i (by omega)
   have li := hri.1
   have qi := hri.at (i := n + m + 1) (by omega)
   rw [if_pos (by simpa using hi), if_pos (by omega), if_pos (by omega), Int.toNat_natCast, yg4 hi, e4]
   by_cases c : β i < n
   ·rw [if_pos (by simpa using c), if_pos (by omega), if_pos (by omega), yl7 (by omega) (by omega), Option.bind_some, if_pos (by omega), if_pos (show ((n + m + 1 : Nat) : Int) < (((g.getD i ([] : List Qd)).length : Nat) : Int) by omega), if_pos (by omega), if_pos (by omega)]
    simp only [Int.toNat_natCast]
    refine y19 hm hn hR hR' hg hinj f (i + 1) _ (by omega) (by omega) ((hx.set c qi).ext fun v hv => ?_)
    show (if v = β i then T i (n + m + 1) else xv i β T (n + m + 1) v) = fs (fun j => if β j = v then T j (n + m + 1) else 0) (i + 1)
    rw [fs]
    by_cases e : v = β i
    ·have h0 : fs (fun j => if β j = v then T j (n + m + 1) else 0) i = 0 := by
      rw [z1h (g := fun _ => 0) fun j hj => if_neg fun h => by have := hinj j i (by omega) hi (h.trans e); omega]; exact z4k i
     rw [if_pos e, h0, if_pos e.symm]; grind
    ·rw [if_neg e, if_neg fun h => e h.symm]
     unfold xv; grind
   ·rw [if_neg (by simpa using c)]
    refine y19 hm hn hR hR' hg hinj f (i + 1) _ (by omega) (by omega) (hx.ext fun v hv => ?_)
    show xv i β T (n + m + 1) v = fs (fun j => if β j = v then T j (n + m + 1) else 0) (i + 1)
    rw [fs, if_neg fun h => c (by omega)]
    unfold xv; grind
  ·rw [if_neg (by simpa using hi)]
   have : i = m := by omega
   subst this
   exact ⟨x, rfl, hx⟩
theorem yd9 {R m n k : Nat} (hm : m <= 40) (hn : n <= 40) (hR : m <= R) (hR' : R <= 100) (hk : k < n + m + 2) {T : Nat -> Nat -> Rat} {β : Nat -> Nat} {g : List (List Qd)} (hg : QG R (n + m + 2) T g) (hinj : ∀ i j, i < m -> j < m -> β i = β j -> i = j) (hbk : ∀ i, i < m -> β i ≠ k) : ∀ (f i : Nat) (x : List Qd), i <= m -> m < f + i -> QF n (ryv i k β T) x ->
  ∃ x', z1k f (k : Int) (m : Int) (i : Int) (n : Int) (m : Int) x (bL m β) g = some (.exit (x', (n : Int), (m : Int), bL m β, g, ())) /\ QF n (ryv m k β T) x'
 | 0, i, x, h1, h2, _ => by omega
 | f + 1, i, x, h1, h2, hx => by
  have lg := hg.1
  have lx := hx.1
  have lb := z5w (m := m) (β := β)
  simp only [z1k]
  by_cases hi : i < m
  ·have e4 : IntKind.i64.wrap ((i : Int) + 1) = ((i + 1 : Nat) : Int) := by rw [w64 _ (by omega) (by omega)]; omega
   have hri := hg.2 i (by omega)
   have li := hri.1
   have qi := hri.at hk
   obtain ⟨z, hz, hqz⟩ := yl2 qi
   rw [if_pos (by simpa using hi), if_pos (by omega), if_pos (by omega), Int.toNat_natCast, yg4 hi, e4]
   by_cases c : β i < n
   ·rw [if_pos (by simpa using c), if_pos (by omega), if_pos (by omega), if_pos (by omega), if_pos (show ((k : Nat) : Int) < (((g.getD i ([] : List Qd)).length : Nat) : Int) by omega)]
    simp only [Int.toNat_natCast]
    rw [hz, Option.bind_some, if_pos (by omega), if_pos (by omega)]
    refine yd9 hm hn hR hR' hk hg hinj hbk f (i + 1) _ (by omega) (by omega) ((hx.set c hqz).ext fun v hv => ?_)
    show (if v = β i then -(T i k) else (if v = k then 1 else 0) - fs (fun j => if β j = v then T j k else 0) i) = (if v = k then 1 else 0) - fs (fun j => if β j = v then T j k else 0) (i + 1)
    rw [fs]
    by_cases e : v = β i
    ·have h0 : fs (fun j => if β j = v then T j k else 0) i = 0 := by
      rw [z1h (g := fun _ => 0) fun j hj => if_neg fun h => by have := hinj j i (by omega) hi (h.trans e); omega]; exact z4k i
     rw [if_pos e, h0, if_pos e.symm, if_neg fun h => hbk i hi (by omega)]; grind
    ·rw [if_neg e, if_neg (fun h => e h.symm : ¬ β i = v)]
     grind
   ·rw [if_neg (by simpa using c)]
    refine yd9 hm hn hR hR' hk hg hinj hbk f (i + 1) _ (by omega) (by omega) (hx.ext fun v hv => ?_)
    show (if v = k then 1 else 0) - fs (fun j => if β j = v then T j k else 0) i = (if v = k then 1 else 0) - fs (fun j => if β j = v then T j k else 0) (i + 1)
    rw [fs, if_neg (show ¬ β i = v from fun h => c (by omega))]
    grind
  ·rw [if_neg (by simpa using hi)]
   have : i = m := by omega
   subst this
   exact ⟨x, rfl, hx⟩
def gl (m : Nat) (c : Nat -> Rat) (β : Nat -> Nat) (T : Nat -> Nat -> Rat) (i r s : Nat) : Rat := if r = m then -(c s) - fs (fun j => -(c (β j)) * T j s) i else T r s
theorem ws9 {m N : Nat} {c : Nat -> Rat} {β : Nat -> Nat} {T : Nat -> Nat -> Rat} : ∀ r, r < m + 1 -> ∀ s, s < N -> gl m c β T m r s = gol m c β T r s := fun r _ s _ => by
 unfold gl gol
 by_cases e : r = m
 ·rw [if_pos e, if_pos e]
  have h : fs (fun j => -(c (β j)) * T j s) m = -(fs (fun j => c (β j) * T j s) m) := by
   rw [<- yj0]; exact z1h fun j _ => by grind
  rw [h]; grind
 ·rw [if_neg e, if_neg e]
theorem v1l {m N K i : Nat} {c : Nat -> Rat} {β : Nat -> Nat} {T : Nat -> Nat -> Rat} (hi : i <= m) (hm : m <= 20) (hl : ∀ j, j < m -> β j < N) (hc : ∀ s, s < N -> Dr K (c s)) (hT : ∀ r, r < m -> ∀ s, s < N -> Dr K (T r s)) : ∀ r, r < m + 1 -> ∀ s, s < N -> Dr (50 * K + 100) (gl m c β T i r s) := fun r hr s hs => by
 unfold gl
 by_cases e : r = m
 ·rw [if_pos e]
  have h1 : Dr ((K + K + 1) * i + 1) (fs (fun j => -(c (β j)) * T j s) i) := v15 fun j hj => y9y (y74 (hc _ (hl j (by omega)))) (hT j (by omega) s hs)
  have h3 : (K + K + 1) * i <= (K + K + 1) * 20 := Nat.mul_le_mul_left _ (by omega)
  exact z7v (by omega) (wb7 (y74 (hc s hs)) h1)
 ·rw [if_neg e]; exact z7v (by omega) (hT r (by omega) s hs)
theorem gnS {L C : Nat} (hL : L <= C) (hC : C <= 100) {c : Nat -> Rat} {cl : List Qd} (hc : QF L c cl) : ∀ (f k : Nat) (l : List Qd), k <= L -> L < f + k -> QF C (fun j => if j < k then -(c j) else 0) l ->
  ∃ l', z0t f (L : Int) (k : Int) l cl = some (.exit (l', cl, ())) /\ QF C (fun j => if j < L then -(c j) else 0) l'
 | 0, k, l, h1, h2, _ => by omega
 | f + 1, k, l, h1, h2, hl => by
  have lc := hc.1
  have ll := hl.1
  simp only [z0t]
  by_cases hk : k < L
  ·have e4 : IntKind.i64.wrap ((k : Int) + 1) = ((k + 1 : Nat) : Int) := by rw [w64 _ (by omega) (by omega)]; omega
   obtain ⟨z, hz, hqz⟩ := yl2 (hc.at hk)
   rw [if_pos (by simpa using hk), if_pos (by omega), if_pos (by omega), Int.toNat_natCast, hz, Option.bind_some, if_pos (by omega), if_pos (by omega), e4]
   refine gnS hL hC hc f (k + 1) _ (by omega) (by omega) ((hl.set (i := k) (by omega) hqz).ext fun j hj => ?_)
   show (if j = k then -(c k) else if j < k then -(c j) else 0) = if j < k + 1 then -(c j) else 0
   by_cases e : j = k
   ·rw [if_pos e, if_pos (by omega), e]
   ·rw [if_neg e]
    by_cases e2 : j < k
    ·rw [if_pos e2, if_pos (by omega)]
    ·rw [if_neg e2, if_neg (by omega)]
  ·rw [if_neg (by simpa using hk)]
   have : k = L := by omega
   subst this
   exact ⟨l, rfl, hl⟩
theorem gsS {R C K p i : Nat} (hR : R <= 100) (hC : C <= 100) (hK : K <= 8000000) (hp : p < R) (hi : i < R) (hne : i ≠ p) {V : Nat -> Nat -> Rat} {f : Rat} (hf : Dr K f) (hd : ∀ r, r < R -> ∀ q, q < C -> Dr K (V r q)) {b : Qd} (hb : QR f b) {u v : Int} {bl : List Int} : ∀ (m c : Nat) (g : List (List Qd)), c <= C -> C < m + c -> QG R C (sbt p i c f V) g ->
  ∃ g', z15 m i (p : Int) (C : Int) (c : Int) u v g b.1 b.2.1 b.2.2 bl = some (.exit (i, u, v, g', b.1, b.2.1, b.2.2, bl, ())) /\ QG R C (sbt p i C f V) g'
 | 0, c, g, h1, h2, hg => by omega
 | m + 1, c, g, h1, h2, hg => by
  have lg := hg.1
  simp only [z15]
  by_cases hc : c < C
  ·have e4 : IntKind.i64.wrap ((c : Int) + 1) = ((c + 1 : Nat) : Int) := by rw [w64 _ (by omega) (by omega)]; omega
   have hri := hg.2 i hi
   have hrp := hg.2 p hp
   have li := hri.1
   have lp := hrp.1
   have qi := hri.at hc
   have qp := hrp.at hc
   have e1 : sbt p i c f V i c = V i c := by unfold sbt; rw [if_neg fun h => Nat.lt_irrefl _ h.2]
   have e2 : sbt p i c f V p c = V p c := by unfold sbt; rw [if_neg fun h => hne h.1.symm]
   rw [e1] at qi
   rw [e2] at qp
   obtain ⟨x, hx, hqx⟩ := y65 hb qp hf (hd p hp c hc) (by omega)
   obtain ⟨y, hy, hqy⟩ := y3h qi hqx (hd i hi c hc) (y9y hf (hd p hp c hc)) (by omega)
   have hx : z2n fuel (b.1, (b.2.1, b.2.2)) (((g.getD p []).getD c (false, ([], []))).1, (((g.getD p []).getD c (false, ([], []))).2)) = some x := hx
   simp only [Int.toNat_natCast]
   rw [if_pos (by simpa using hc), if_pos (by omega), if_pos (show ((c : Nat) : Int) < (((g.getD i ([] : List Qd)).length : Nat) : Int) by omega), if_pos (by omega), if_pos (by omega), if_pos (by omega), if_pos (show ((c : Nat) : Int) < (((g.getD p ([] : List Qd)).length : Nat) : Int) by omega), hx, Option.bind_some, hy, Option.bind_some, if_pos (by omega), if_pos (show ((c : Nat) : Int) < (((g.getD i ([] : List Qd)).length : Nat) : Int) by omega), e4]
   refine gsS hR hC hK hp hi hne hf hd hb m (c + 1) _ (by omega) (by omega) ((hg.set hi hc hqy).ext fun r _ q _ => ?_)
   unfold sbt
   by_cases e1 : r = i
   ·by_cases e2 : q = c
    ·rw [if_pos ⟨e1, e2⟩, if_pos ⟨e1, by omega⟩, e2]
    ·rw [if_neg fun h => e2 h.2]
     by_cases e3 : q < c
     ·rw [if_pos ⟨e1, e3⟩, if_pos ⟨e1, by omega⟩]
     ·rw [if_neg fun h => e3 h.2, if_neg fun h => by have := h.2; omega]
   ·rw [if_neg fun h => e1 h.1, if_neg fun h => e1 h.1, if_neg fun h => e1 h.1]
  ·rw [if_neg (by simpa using hc)]
   have : c = C := by omega
   subst this
   exact ⟨g, rfl, hg⟩
theorem goS {m n N K : Nat} (hm : m <= 20) (hN : N <= 100) (hK : K <= 100000) {M : Nat -> Nat -> Rat} {c : Nat -> Rat} {β : Nat -> Nat} {T : Nat -> Nat -> Rat} (hb : Bas m N M (fun i r => M i (β r)) T) (hl : ∀ j, j < m -> β j < N) (hc : ∀ s, s < N -> Dr K (c s)) (hT : ∀ r, r < m -> ∀ s, s < N -> Dr K (T r s)) :
  ∀ (f i : Nat) (g : List (List Qd)), i <= m -> m + 1000 < f + i -> QG (m + 1) N (gl m c β T i) g -> ∃ g', z0q f m (m : Int) (i : Int) (n : Int) (m : Int) g (bL m β) = some (.exit ((n : Int), (m : Int), g', bL m β, ())) /\ QG (m + 1) N (gol m c β T) g'
 | 0, i, g, h1, h2, _ => by omega
 | f + 1, i, g, h1, h2, hg => by
  have lg := hg.1
  have lb := z5w (m := m) (β := β)
  simp only [z0q]
  by_cases hi : i < m
  ·have e4 : IntKind.i64.wrap ((i : Int) + 1) = ((i + 1 : Nat) : Int) := by rw [w64 _ (by omega) (by omega)]; omega
   have hrm := hg.2 m (by omega)
   have lm := hrm.1
   have hbi := hl i hi
   have qm := hrm.at hbi
   have ef : gl m c β T i m (β i) = -(c (β i)) := by
    unfold gl
    rw [if_pos rfl, z1h (g := fun _ => 0) fun j hj => by rw [hb.unit (by omega) hi hbi]; unfold one; rw [if_neg (by omega)]; grind, z4k]; grind
   rw [ef] at qm
   have hnext : ∀ r, r < m + 1 -> ∀ s, s < N -> gl m c β T (i + 1) r s = if r = m then gl m c β T i m s - -(c (β i)) * T i s else T r s := fun r hr s hs => by
    unfold gl
    by_cases e : r = m
    ·rw [if_pos e, if_pos e, fs, if_pos rfl]; grind
    ·rw [if_neg e, if_neg e]
   have e0 : ∀ r, r ≠ m -> ∀ s, gl m c β T i r s = T r s := fun r hr s => by unfold gl; rw [if_neg hr]
   simp only [Int.toNat_natCast]
   rw [if_pos (by simpa using hi), if_pos (by omega), if_pos (by omega), yg4 hi, if_pos (by omega), Int.toNat_natCast, if_pos (show ((β i : Nat) : Int) < (((g.getD m ([] : List Qd)).length : Nat) : Int) by omega), z9v qm, Option.bind_some, e4]
   by_cases z : c (β i) = 0
   ·rw [if_pos (zt8.2 (by grind))]
    refine goS hm hN hK hb hl hc hT f (i + 1) g (by omega) (by omega) (hg.ext fun r hr s hs => ?_)
    rw [hnext r hr s hs]
    by_cases e : r = m
    ·rw [if_pos e, z, e]; grind
    ·rw [if_neg e, e0 r e]
   ·rw [if_neg fun h => z (by have := zt8.1 h; grind)]
    have hdr := v1l (i := i) (by omega) hm hl hc hT
    obtain ⟨g', h3, h4⟩ := gsS (u := (n : Int)) (v := (m : Int)) (bl := bL m β) (p := i) (i := m) (V := gl m c β T i) (R := m + 1) (C := N) (K := 50 * K + 100) (by omega) hN (by omega) (by omega) (by omega) (by omega) (z7v (by omega) (y74 (hc _ hbi))) hdr qm f 0 g (by omega) (by omega) (hg.ext fun r _ q _ => by unfold sbt; rw [if_neg fun h => by have := h.2; omega])
    have h3 : z15 f m (i : Int) (((g.getD m ([] : List Qd)).length : Nat) : Int) 0 (n : Int) (m : Int) g (((g.getD m []).getD (β i) (false, ([], []))).1) ((((g.getD m []).getD (β i) (false, ([], []))).2).1) ((((g.getD m []).getD (β i) (false, ([], []))).2).2) (bL m β) = some (.exit (m, (n : Int), (m : Int), g', (((g.getD m []).getD (β i) (false, ([], []))).1), ((((g.getD m []).getD (β i) (false, ([], []))).2).1), ((((g.getD m []).getD (β i) (false, ([], []))).2).2), bL m β, ())) := by rw [lm]; exact h3
    rw [h3]
    refine goS hm hN hK hb hl hc hT f (i + 1) g' (by omega) (by omega) (h4.ext fun r hr s hs => ?_)
    rw [hnext r hr s hs]
    unfold sbt
    by_cases e : r = m
    ·rw [if_pos ⟨e, hs⟩, if_pos e, e0 i (by omega)]
    ·rw [if_neg fun h => e h.1, if_neg e, e0 r e]
  ·rw [if_neg (by simpa using hi)]
   have : i = m := by omega
   subst this
   exact ⟨g, rfl, hg.ext ws9⟩
theorem gnF {L C : Nat} (hL : L <= C) (hC : C <= 100) {c : Nat -> Rat} {cl : List Qd} (hc : QF L c cl) : ∀ (f k : Nat) (l : List Qd), k <= L -> L < f + k -> QF C (fun j => if j < k then -(c j) else 0) l ->
  ∃ l', z0f f (L : Int) (k : Int) l cl = some (.exit (l', cl, ())) /\ QF C (fun j => if j < L then -(c j) else 0) l'
 | 0, k, l, h1, h2, _ => by omega
 | f + 1, k, l, h1, h2, hl => by
  have lc := hc.1
  have ll := hl.1
  simp only [z0f]
  by_cases hk : k < L
  ·have e4 : IntKind.i64.wrap ((k : Int) + 1) = ((k + 1 : Nat) : Int) := by rw [w64 _ (by omega) (by omega)]; omega
   obtain ⟨z, hz, hqz⟩ := yl2 (hc.at hk)
   rw [if_pos (by simpa using hk), if_pos (by omega), if_pos (by omega), Int.toNat_natCast, hz, Option.bind_some, if_pos (by omega), if_pos (by omega), e4]
   refine gnF hL hC hc f (k + 1) _ (by omega) (by omega) ((hl.set (i := k) (by omega) hqz).ext fun j hj => ?_)
   show (if j = k then -(c k) else if j < k then -(c j) else 0) = if j < k + 1 then -(c j) else 0
   by_cases e : j = k
   ·rw [if_pos e, if_pos (by omega), e]
   ·rw [if_neg e]
    by_cases e2 : j < k
    ·rw [if_pos e2, if_pos (by omega)]
    ·rw [if_neg e2, if_neg (by omega)]
  ·rw [if_neg (by simpa using hk)]
   have : k = L := by omega
   subst this
   exact ⟨l, rfl, hl⟩
theorem gsF {R C K p i : Nat} (hR : R <= 100) (hC : C <= 100) (hK : K <= 8000000) (hp : p < R) (hi : i < R) (hne : i ≠ p) {V : Nat -> Nat -> Rat} {f : Rat} (hf : Dr K f) (hd : ∀ r, r < R -> ∀ q, q < C -> Dr K (V r q)) {b : Qd} (hb : QR f b) {u v : Int} {bl : List Int} : ∀ (m c : Nat) (g : List (List Qd)), c <= C -> C < m + c -> QG R C (sbt p i c f V) g ->
  ∃ g', z0e m i (p : Int) (C : Int) (c : Int) u v g b.1 b.2.1 b.2.2 bl = some (.exit (i, u, v, g', b.1, b.2.1, b.2.2, bl, ())) /\ QG R C (sbt p i C f V) g'
 | 0, c, g, h1, h2, hg => by omega
 | m + 1, c, g, h1, h2, hg => by
  have lg := hg.1
  simp only [z0e]
  by_cases hc : c < C
  ·have e4 : IntKind.i64.wrap ((c : Int) + 1) = ((c + 1 : Nat) : Int) := by rw [w64 _ (by omega) (by omega)]; omega
   have hri := hg.2 i hi
   have hrp := hg.2 p hp
   have li := hri.1
   have lp := hrp.1
   have qi := hri.at hc
   have qp := hrp.at hc
   have e1 : sbt p i c f V i c = V i c := by unfold sbt; rw [if_neg fun h => Nat.lt_irrefl _ h.2]
   have e2 : sbt p i c f V p c = V p c := by unfold sbt; rw [if_neg fun h => hne h.1.symm]
   rw [e1] at qi
   rw [e2] at qp
   obtain ⟨x, hx, hqx⟩ := y65 hb qp hf (hd p hp c hc) (by omega)
   obtain ⟨y, hy, hqy⟩ := y3h qi hqx (hd i hi c hc) (y9y hf (hd p hp c hc)) (by omega)
   have hx : z2n fuel (b.1, (b.2.1, b.2.2)) (((g.getD p []).getD c (false, ([], []))).1, (((g.getD p []).getD c (false, ([], []))).2)) = some x := hx
   simp only [Int.toNat_natCast]
   rw [if_pos (by simpa using hc), if_pos (by omega), if_pos (show ((c : Nat) : Int) < (((g.getD i ([] : List Qd)).length : Nat) : Int) by omega), if_pos (by omega), if_pos (by omega), if_pos (by omega), if_pos (show ((c : Nat) : Int) < (((g.getD p ([] : List Qd)).length : Nat) : Int) by omega), hx, Option.bind_some, hy, Option.bind_some, if_pos (by omega), if_pos (show ((c : Nat) : Int) < (((g.getD i ([] : List Qd)).length : Nat) : Int) by omega), e4]
   refine gsF hR hC hK hp hi hne hf hd hb m (c + 1) _ (by omega) (by omega) ((hg.set hi hc hqy).ext fun r _ q _ => ?_)
   unfold sbt
   by_cases e1 : r = i
   ·by_cases e2 : q = c
    ·rw [if_pos ⟨e1, e2⟩, if_pos ⟨e1, by omega⟩, e2]
    ·rw [if_neg fun h => e2 h.2]
     by_cases e3 : q < c
     ·rw [if_pos ⟨e1, e3⟩, if_pos ⟨e1, by omega⟩]
     ·rw [if_neg fun h => e3 h.2, if_neg fun h => by have := h.2; omega]
   ·rw [if_neg fun h => e1 h.1, if_neg fun h => e1 h.1, if_neg fun h => e1 h.1]
  ·rw [if_neg (by simpa using hc)]
   have : c = C := by omega
   subst this
   exact ⟨g, rfl, hg⟩
theorem goF {m n N K : Nat} (hm : m <= 20) (hN : N <= 100) (hK : K <= 100000) {M : Nat -> Nat -> Rat} {c : Nat -> Rat} {β : Nat -> Nat} {T : Nat -> Nat -> Rat} (hb : Bas m N M (fun i r => M i (β r)) T) (hl : ∀ j, j < m -> β j < N) (hc : ∀ s, s < N -> Dr K (c s)) (hT : ∀ r, r < m -> ∀ s, s < N -> Dr K (T r s)) :
  ∀ (f i : Nat) (g : List (List Qd)), i <= m -> m + 1000 < f + i -> QG (m + 1) N (gl m c β T i) g -> ∃ g', z0a f m (m : Int) (i : Int) (n : Int) (m : Int) g (bL m β) = some (.exit ((n : Int), (m : Int), g', bL m β, ())) /\ QG (m + 1) N (gol m c β T) g'
 | 0, i, g, h1, h2, _ => by omega
 | f + 1, i, g, h1, h2, hg => by
  have lg := hg.1
  have lb := z5w (m := m) (β := β)
  simp only [z0a]
  by_cases hi : i < m
  ·have e4 : IntKind.i64.wrap ((i : Int) + 1) = ((i + 1 : Nat) : Int) := by rw [w64 _ (by omega) (by omega)]; omega
   have hrm := hg.2 m (by omega)
   have lm := hrm.1
   have hbi := hl i hi
   have qm := hrm.at hbi
   have ef : gl m c β T i m (β i) = -(c (β i)) := by
    unfold gl
    rw [if_pos rfl, z1h (g := fun _ => 0) fun j hj => by rw [hb.unit (by omega) hi hbi]; unfold one; rw [if_neg (by omega)]; grind, z4k]; grind
   rw [ef] at qm
   have hnext : ∀ r, r < m + 1 -> ∀ s, s < N -> gl m c β T (i + 1) r s = if r = m then gl m c β T i m s - -(c (β i)) * T i s else T r s := fun r hr s hs => by
    unfold gl
    by_cases e : r = m
    ·rw [if_pos e, if_pos e, fs, if_pos rfl]; grind
    ·rw [if_neg e, if_neg e]
   have e0 : ∀ r, r ≠ m -> ∀ s, gl m c β T i r s = T r s := fun r hr s => by unfold gl; rw [if_neg hr]
   simp only [Int.toNat_natCast]
   rw [if_pos (by simpa using hi), if_pos (by omega), if_pos (by omega), yg4 hi, if_pos (by omega), Int.toNat_natCast, if_pos (show ((β i : Nat) : Int) < (((g.getD m ([] : List Qd)).length : Nat) : Int) by omega), z9v qm, Option.bind_some, e4]
   by_cases z : c (β i) = 0
   ·rw [if_pos (zt8.2 (by grind))]
    refine goF hm hN hK hb hl hc hT f (i + 1) g (by omega) (by omega) (hg.ext fun r hr s hs => ?_)
    rw [hnext r hr s hs]
    by_cases e : r = m
    ·rw [if_pos e, z, e]; grind
    ·rw [if_neg e, e0 r e]
   ·rw [if_neg fun h => z (by have := zt8.1 h; grind)]
    have hdr := v1l (i := i) (by omega) hm hl hc hT
    obtain ⟨g', h3, h4⟩ := gsF (u := (n : Int)) (v := (m : Int)) (bl := bL m β) (p := i) (i := m) (V := gl m c β T i) (R := m + 1) (C := N) (K := 50 * K + 100) (by omega) hN (by omega) (by omega) (by omega) (by omega) (z7v (by omega) (y74 (hc _ hbi))) hdr qm f 0 g (by omega) (by omega) (hg.ext fun r _ q _ => by unfold sbt; rw [if_neg fun h => by have := h.2; omega])
    have h3 : z0e f m (i : Int) (((g.getD m ([] : List Qd)).length : Nat) : Int) 0 (n : Int) (m : Int) g (((g.getD m []).getD (β i) (false, ([], []))).1) ((((g.getD m []).getD (β i) (false, ([], []))).2).1) ((((g.getD m []).getD (β i) (false, ([], []))).2).2) (bL m β) = some (.exit (m, (n : Int), (m : Int), g', (((g.getD m []).getD (β i) (false, ([], []))).1), ((((g.getD m []).getD (β i) (false, ([], []))).2).1), ((((g.getD m []).getD (β i) (false, ([], []))).2).2), bL m β, ())) := by rw [lm]; exact h3
    rw [h3]
    refine goF hm hN hK hb hl hc hT f (i + 1) g' (by omega) (by omega) (h4.ext fun r hr s hs => ?_)
    rw [hnext r hr s hs]
    unfold sbt
    by_cases e : r = m
    ·rw [if_pos ⟨e, hs⟩, if_pos e, e0 i (by omega)]
    ·rw [if_neg fun h => e h.1, if_neg e, e0 r e]
  ·rw [if_neg (by simpa using hi)]
   have : i = m := by omega
   subst this
   exact ⟨g, rfl, hg.ext ws9⟩
end Go.Proofs.YtcdcoeofhnfjdabGreatDoor
namespace Go.Proofs.YtcdcoeofhnfjdabGreatDoor
open Go Vm
def tl (ct : List ByteArray) (u v : Int) (g : List (List Qd)) (bl : List Int) : Option ((Int × ((List ByteArray) × ((List ByteArray) × ((List ByteArray) × ByteArray)))) × Int) :=
 (z2m fuel ct).bind fun r6 =>
 if (0 : Int) <= IntKind.i64.wrap ((IntKind.i64.wrap (u + v)) + 2) then
  if IntKind.i64.wrap ((IntKind.i64.wrap (u + v)) + 2) <= IntKind.i64.wrap ((IntKind.i64.wrap (u + v)) + 2) then
   if (IntKind.i64.wrap ((IntKind.i64.wrap (u + v)) + 2)) * 56 <= 281474976710656 then
    match z0t fuel (r6.length : Int) 0 (List.replicate ((IntKind.i64.wrap ((IntKind.i64.wrap (u + v)) + 2)).toNat) ((false, ([], [])) : Qd)) r6 with
    | none => none
    | some (.exit d7) =>
     if (0 : Int) <= v then
      if v <= g.length then
       if ((g.take v.toNat).length + 1) * 24 <= 140737488355328 then
        match z0q fuel ((g.take v.toNat).length) (bl.length : Int) 0 u v ((g.take v.toNat) ++ [d7.1]) bl with
        | none => none
        | some (.exit d8) =>
         match z12 fuel (IntKind.i64.wrap (d8.1 + d8.2.1)) d8.1 d8.2.1 d8.2.2.1 d8.2.2.2.1 with
         | none => none
         | some (.exit d9) =>
          none
         | some (.ret d9) =>
          if (0 : Int) <= d9.2.1 then
           if d9.2.1 <= d9.2.1 then
            if d9.2.1 * 56 <= 281474976710656 then
             match z0l fuel (d9.2.2.2.2.1.length : Int) 0 d9.2.1 d9.2.2.1 (List.replicate d9.2.1.toNat ((false, ([], [])) : Qd)) d9.2.2.2.2.1 d9.2.2.2.1 with
             | none => none
             | some (.exit d10) =>
              if decide (d9.1 < 0) = true then
               if (0 : Int) <= d10.2.2.1 then
                if d10.2.2.1 < d10.2.2.2.2.1.length then
                 if (0 : Int) <= IntKind.i64.wrap (d10.2.1 + d10.2.2.1) then
                  if IntKind.i64.wrap (d10.2.1 + d10.2.2.1) <= (d10.2.2.2.2.1.getD d10.2.2.1.toNat []).length then
                   if (0 : Int) <= d10.2.1 then
                    if d10.2.1 <= IntKind.i64.wrap (d10.2.1 + d10.2.2.1) then
                     if (0 : Int) <= d10.2.2.1 then
                      if d10.2.2.1 < d10.2.2.2.2.1.length then
                       (z1n fuel (d10.2.2.2.2.1, (d10.2.2.2.1, (d10.2.1, d10.2.2.1)))).bind fun r11 =>
                       if (0 : Int) <= r11 then
                        if r11 < (d10.2.2.2.2.1.getD d10.2.2.1.toNat []).length then
                         (z14 fuel 0 d10.1 (((d10.2.2.2.2.1.getD d10.2.2.1.toNat []).take (IntKind.i64.wrap (d10.2.1 + d10.2.2.1)).toNat).drop d10.2.1.toNat) [] (((d10.2.2.2.2.1.getD d10.2.2.1.toNat []).getD r11.toNat (false, ([], []))).1, (((d10.2.2.2.2.1.getD d10.2.2.1.toNat []).getD r11.toNat (false, ([], []))).2))).bind fun r12 =>
                         some (r12.1, r12.2)
                        else none
                       else none
                      else none
                     else none
                    else none
                   else none
                  else none
                 else none
                else none
               else none
              else
               if (0 : Int) <= d10.2.1 then
                if d10.2.1 <= d10.2.1 then
                 if d10.2.1 * 56 <= 281474976710656 then
                  if decide (d9.1 < d10.2.1) = true then
                   (z6n fuel 1).bind fun r13 =>
                   if (0 : Int) <= d9.1 then
                    if d9.1 < (List.replicate d10.2.1.toNat ((false, ([], [])) : Qd)).length then
                     match z1k fuel d9.1 (d10.2.2.2.1.length : Int) 0 d10.2.1 d10.2.2.1 ((List.replicate d10.2.1.toNat ((false, ([], [])) : Qd)).set d9.1.toNat r13) d10.2.2.2.1 d10.2.2.2.2.1 with
                     | none => none
                     | some (.exit d14) =>
                      (z14 fuel 2 d10.1 [] d14.1 (false, ([], []))).bind fun r15 =>
                      some (r15.1, r15.2)
                     | some (.ret d14) =>
                      none
                    else none
                   else none
                  else
                   match z1k fuel d9.1 (d10.2.2.2.1.length : Int) 0 d10.2.1 d10.2.2.1 (List.replicate d10.2.1.toNat ((false, ([], [])) : Qd)) d10.2.2.2.1 d10.2.2.2.2.1 with
                   | none => none
                   | some (.exit d16) =>
                    (z14 fuel 2 d10.1 [] d16.1 (false, ([], []))).bind fun r17 =>
                    some (r17.1, r17.2)
                   | some (.ret d16) =>
                    none
                 else none
                else none
               else none
             | some (.ret d10) =>
              none
            else none
           else none
          else none
        | some (.ret d8) =>
         none
       else none
      else none
     else none
    | some (.ret d7) =>
     none
   else none
  else none
 else none
def xt (n : Nat) (x : Nat -> Rat) : List ByteArray := ((List.range n).map x).map rt
theorem y5a {n K : Nat} {x : Nat -> Rat} {qs : List Qd} (h : QF n x qs) (hn : n <= 1000) (h1 : 1 <= K) (hK : K <= 2000) (hd : ∀ i, i < n -> Dr K (x i)) : z3g fuel qs = some (xt n x, 0) := by
 have e : ∀ i, i < n -> ((List.range n).map x).getD i 0 = x i := fun i hi => z8s hi
 rcases w6t h.list (K := K) (by omega) (by rw [List.length_map, List.length_range]; omega) (fun i hi => by
   rw [List.length_map, List.length_range] at hi; rw [e i hi]; exact hd i hi) with ⟨⟨j, hj, hb⟩, _⟩ | ⟨_, h2⟩
 ·rw [List.length_map, List.length_range] at hj
  rw [e j hj] at hb
  exact absurd (y1k (hd j hj) h1 hK) hb
 ·exact h2
theorem wi0 (x : Nat -> Rat) : QF 0 x [] := ⟨rfl, fun i hi => by omega⟩
theorem w55 {n m K : Nat} {x y : Nat -> Rat} {v : Rat} {xs ys : List Qd} {q : Qd} (hx : QF n x xs) (hy : QF m y ys) (hq : QR v q) (hn : n <= 1000) (hm : m <= 1000) (h1 : 1 <= K) (hK : K <= 2000) (dx : ∀ i, i < n -> Dr K (x i)) (dy : ∀ i, i < m -> Dr K (y i)) (dv : Dr K v) :
  z14 fuel 0 xs ys [] q = some ((0, (xt n x, (xt m y, ([], rt v)))), 0) := by
 unfold z14
 have e3 := y5a (wi0 fun _ => 0) (by omega) h1 hK (fun i hi => by omega)
 rw [y5a hx hn h1 hK dx, Option.bind_some, if_neg (by simp), y5a hy hm h1 hK dy, Option.bind_some, if_neg (by simp), e3, Option.bind_some, if_neg (by simp), y8r hq dv (by omega), if_pos (y1k dv h1 hK), Option.bind_some, if_neg (by simp), if_pos (by simp), w24 hq dv (by omega), Option.bind_some]
 rfl
theorem w57 {m K : Nat} {y : Nat -> Rat} {ys : List Qd} (hy : QF m y ys) (hm : m <= 1000) (h1 : 1 <= K) (hK : K <= 2000) (dy : ∀ i, i < m -> Dr K (y i)) :
  z14 fuel 1 [] ys [] (false, ([], [])) = some ((1, ([], (xt m y, ([], ByteArray.empty)))), 0) := by
 unfold z14
 have e3 := y5a (wi0 fun _ => 0) (by omega) h1 hK (fun i hi => by omega)
 have d0 : Dr K 0 := y5q h1
 rw [e3, Option.bind_some, if_neg (by simp), y5a hy hm h1 hK dy, Option.bind_some, if_neg (by simp), Option.bind_some, if_neg (by simp), y8r y3g d0 (by omega), if_pos (y1k d0 h1 hK), Option.bind_some, if_neg (by simp), if_neg (by simp)]
 rfl
theorem w56 {n K : Nat} {x z : Nat -> Rat} {xs zs : List Qd} (hx : QF n x xs) (hz : QF n z zs) (hn : n <= 1000) (h1 : 1 <= K) (hK : K <= 2000) (dx : ∀ i, i < n -> Dr K (x i)) (dz : ∀ i, i < n -> Dr K (z i)) :
  z14 fuel 2 xs [] zs (false, ([], [])) = some ((2, (xt n x, ([], (xt n z, ByteArray.empty)))), 0) := by
 unfold z14
 have e3 := y5a (wi0 fun _ => 0) (by omega) h1 hK (fun i hi => by omega)
 have d0 : Dr K 0 := y5q h1
 rw [y5a hx hn h1 hK dx, Option.bind_some, if_neg (by simp), e3, Option.bind_some, if_neg (by simp), y5a hz hn h1 hK dz, Option.bind_some, if_neg (by simp), y8r y3g d0 (by omega), if_pos (y1k d0 h1 hK), Option.bind_some, if_neg (by simp), if_neg (by simp)]
 rfl
def Sol (m n : Nat) (A : Nat -> Nat -> Rat) (b c : Nat -> Rat) (out : (Int × ((List ByteArray) × ((List ByteArray) × ((List ByteArray) × ByteArray)))) × Int) : Prop :=
 (∃ (x y : Nat -> Rat) (v : Rat), (∀ j, j < n -> Dr 1400 (x j) /\ 0 <= x j) /\ (∀ j, j < m -> Dr 1400 (y j) /\ 0 <= y j) /\ Dr 1400 v /\ (∀ i, i < m -> fs (fun k => A i k * x k) n <= b i) /\ (∀ k, k < n -> c k <= fs (fun j => y j * A j k) m) /\
     fs (fun j => c j * x j) n = v /\ fs (fun j => y j * b j) m = v /\ out = ((0, (xt n x, (xt m y, ([], rt v)))), 0)) \/
 (∃ y : Nat -> Rat, (∀ j, j < m -> Dr 1400 (y j) /\ 0 <= y j) /\ (∀ k, k < n -> 0 <= fs (fun j => y j * A j k) m) /\ fs (fun j => y j * b j) m < 0 /\ out = ((1, ([], (xt m y, ([], ByteArray.empty)))), 0)) \/
 (∃ x z : Nat -> Rat, (∀ j, j < n -> Dr 1400 (x j) /\ 0 <= x j) /\ (∀ j, j < n -> Dr 1400 (z j) /\ 0 <= z j) /\ (∀ i, i < m -> fs (fun k => A i k * x k) n <= b i) /\ (∀ i, i < m -> fs (fun k => A i k * z k) n <= 0) /\ 0 < fs (fun j => c j * z j) n /\
     out = ((2, (xt n x, ([], (xt n z, ByteArray.empty)))), 0))
def Raw (K m n : Nat) (A : Nat -> Nat -> Rat) (b c : Nat -> Rat) (out : (Int × ((List ByteArray) × ((List ByteArray) × ((List ByteArray) × ByteArray)))) × Int) : Prop :=
 (∃ (β : Nat -> Nat) (T : Nat -> Nat -> Rat), Tab m n (n + m + 2) (lpM m n A b) (cst n c) β T /\ (∀ i, i < m -> 0 <= T i (n + m + 1)) /\ (∀ i, i < m -> β i < n + m) /\ (∀ q, q < n + m -> 0 <= T m q) /\
     out = ((0, (xt n (xv m β T (n + m + 1)), (xt m (fun j => T m (n + j)), ([], rt (T m (n + m + 1)))))), 0)) \/
 (∃ y : Nat -> Rat, (∀ j, j < m -> Dr K (y j) /\ 0 <= y j) /\ (∀ k, k < n -> 0 <= fs (fun j => y j * A j k) m) /\ fs (fun j => y j * b j) m < 0 /\ out = ((1, ([], (xt m y, ([], ByteArray.empty)))), 0)) \/
 (∃ x z : Nat -> Rat, (∀ j, j < n -> Dr K (x j) /\ 0 <= x j) /\ (∀ j, j < n -> Dr K (z j) /\ 0 <= z j) /\ (∀ i, i < m -> fs (fun k => A i k * x k) n <= b i) /\ (∀ i, i < m -> fs (fun k => A i k * z k) n <= 0) /\ 0 < fs (fun j => c j * z j) n /\
     out = ((2, (xt n x, ([], (xt n z, ByteArray.empty)))), 0))
theorem w7i {β : Nat -> Nat} {T : Nat -> Nat -> Rat} {s v m : Nat} (hinj : ∀ i j, i < m -> j < m -> β i = β j -> i = j) : ∀ i, i <= m -> ((∀ j, j < i -> β j ≠ v) /\ xv i β T s v = 0) \/ ∃ j, j < i /\ β j = v /\ xv i β T s v = T j s
 | 0, _ => .inl ⟨fun j hj => by omega, rfl⟩
 | i + 1, hi => by
  have e : xv (i + 1) β T s v = xv i β T s v + if β i = v then T i s else 0 := rfl
  rcases w7i hinj i (by omega) with ⟨h1, h2⟩ | ⟨j, h1, h2, h3⟩
  ·by_cases c : β i = v
   ·exact .inr ⟨i, by omega, c, by rw [e, h2, if_pos c]; grind⟩
   ·exact .inl ⟨fun j hj => by
      by_cases e : j = i
      · rw [e]; exact c
      · exact h1 j (by omega), by rw [e, h2, if_neg c]; grind⟩
  ·refine .inr ⟨j, by omega, h2, ?_⟩
   rw [e, h3, if_neg fun h => by have := hinj i j (by omega) (by omega) (h.trans h2.symm); omega]; grind
theorem v29 {K : Nat} {β : Nat -> Nat} {T : Nat -> Nat -> Rat} {s v m : Nat} (h1 : 1 <= K) (hinj : ∀ i j, i < m -> j < m -> β i = β j -> i = j) (hd : ∀ i, i < m -> Dr K (T i s)) : Dr K (xv m β T s v) := by
 rcases w7i (T := T) (s := s) (v := v) hinj m (Nat.le_refl _) with ⟨_, h⟩ | ⟨j, h2, _, h⟩
 ·rw [h]; exact y5q h1
 ·rw [h]; exact hd j h2
theorem wu2 {N a k : Nat} {f : Nat -> Rat} {qs : List Qd} (h : QF N f qs) (ha : a + k <= N) : QF k (fun j => f (a + j)) ((qs.take (a + k)).drop a) := by
 have hl := h.1
 refine ⟨by rw [List.length_drop, List.length_take]; omega, fun j hj => ?_⟩
 have := h.2 (a + j) (by omega)
 rw [List.getD_eq_getElem?_getD] at this ⊢
 rw [List.getElem?_drop, List.getElem?_take, if_pos (by omega)]
 exact this
theorem QG.take {R C m : Nat} {T : Nat -> Nat -> Rat} {g : List (List Qd)} (h : QG R C T g) (hm : m <= R) : QG m C T (g.take m) := by
 have hl := h.1
 refine ⟨by rw [List.length_take]; omega, fun i hi => ?_⟩
 have := h.2 i (by omega)
 rw [List.getD_eq_getElem?_getD] at this ⊢
 rw [List.getElem?_take, if_pos (by omega)]
 exact this
theorem wv0 {m n K R : Nat} (hm : m <= 6) (hn : n <= 6) (hK1 : 12 <= K) (hK : K <= 1999) {A : Nat -> Nat -> Rat} {b : Nat -> Rat} {cs : List Rat} (hcl : cs.length = n) (hco : ∀ r, r ∈ cs -> OkR r) (hcd : ∀ j, j < n -> Dr K (cs.getD j 0))
  (hgood : Good (m + 1) (n + m + 2 + 1) K (gM m (n + m + 2) (lpM m n A b) (cst n fun j => cs.getD j 0))) {β : Nat -> Nat} {T : Nat -> Nat -> Rat} (hb : Bas m (n + m + 2) (lpM m n A b) (fun i r => lpM m n A b i (β r)) T)
  (hl : ∀ i, i < m -> β i < n + m) (hpos : ∀ i, i < m -> 0 <= T i (n + m + 1)) (hT : ∀ r, r < m -> ∀ s, s < n + m + 2 -> Dr K (T r s)) {g : List (List Qd)} (hR : m <= R) (hR' : R <= 7) (hg : QG R (n + m + 2) T g) :
  ∃ out, tl (cs.map rt) (n : Int) (m : Int) g (bL m β) = some out /\ Raw K m n A b (fun j => cs.getD j 0) out := by
 have hf := z82 (n := 2 ^ 100) (by decide)
 have lg := hg.1
 have lb := z5w (m := m) (β := β)
 have e5 : IntKind.i64.wrap ((n : Int) + (m : Int)) = ((n + m : Nat) : Int) := by rw [w64 _ (by omega) (by omega)]; omega
 have e6 : IntKind.i64.wrap (((n + m : Nat) : Int) + 2) = ((n + m + 2 : Nat) : Int) := by rw [w64 _ (by omega) (by omega)]; omega
 obtain ⟨cl, hc1, hc2⟩ := yt2 cs (by omega) hco
 have hc2 := QF.of hc2
 rw [hcl] at hc2
 have lcl := hc2.1
 obtain ⟨l, hl1, hl2⟩ := gnS (L := n) (C := n + m + 2) (by omega) (by omega) hc2 fuel 0 (List.replicate (n + m + 2) (false, ([], []))) (by omega) (by omega) ((QF.rep (n + m + 2)).ext fun j hj => by rw [if_neg (by omega)])
 have ltk : (g.take m).length = m := by rw [List.length_take]; omega
 have hM : ∀ i, i < m -> ∀ j, j < m -> lpM m n A b i (n + j) = one i j := fun i _ j hj => yp8 hj
 have hl' : ∀ i, i < m -> β i < n + m + 2 := fun i hi => by have := hl i hi; omega
 have hgl : QG (m + 1) (n + m + 2) (gl m (cst n fun j => cs.getD j 0) β T 0) (g.take m ++ [l]) := by
  have h0 : QG m (n + m + 2) (gl m (cst n fun j => cs.getD j 0) β T 0) (g.take m) := (hg.take hR).ext fun r hr s _ => by unfold gl; rw [if_neg (by omega)]
  refine h0.snoc (hl2.ext fun s _ => ?_)
  unfold gl cst
  rw [if_pos rfl]
  show (if s < n then -(cs.getD s 0) else 0) = -(if s < n then cs.getD s 0 else 0) - 0
  by_cases e : s < n
  ·rw [if_pos e, if_pos e]; grind
  ·rw [if_neg e, if_neg e]; grind
 obtain ⟨g1, q1, q2⟩ := goS (m := m) (n := n) (N := n + m + 2) (K := K) (by omega) (by omega) (by omega) hb hl' (fun s _ => by
   unfold cst
   by_cases e : s < n
   · rw [if_pos e]; exact hcd s e
   · rw [if_neg e]; exact y5q (by omega)) hT fuel 0 _ (by omega) (by omega) hgl
 have htab := wk1 (n := n) (cst n fun j => cs.getD j 0) hb (by omega) hM hl'
 have hch : Chain m n (n + m + 2) (n + m) (n + m + 1) (lpM m n A b) (cst n fun j => cs.getD j 0) 0 (fun _ => β) (fun _ => gol m (cst n fun j => cs.getD j 0) β T) (fun _ => 0) (fun _ => 0) :=
  ⟨fun _ _ => htab, fun _ _ i hi => by unfold gol; rw [if_neg (by omega)]; exact hpos i hi, fun _ _ i hi => hl i hi, fun j hj => by omega, fun j hj => by omega, fun j hj => by omega, fun j hj => by omega⟩
 have hp2 : 2 ^ (n + m) <= 2 ^ 12 := Nat.pow_le_pow_right (by decide) (by omega)
 obtain ⟨r, β', T', g', r1, r2, r3, r4, r5, r6⟩ := v3f (K := K) (m := m) (n := n) (cols := n + m) (by omega) (by omega) (by omega) hM hgood (by omega) fuel 0 _ _ _ _ hch (by omega) g1 q2
 have hdr := r2.dr hgood
 have hbas := r2.bas
 have hinj : ∀ i j, i < m -> j < m -> β' i = β' j -> i = j := fun i j hi hj e => hbas.inj hi hj e
 have lg' := r5.1
 have lrow := (r5.2 m (by omega)).1
 have lb' := z5w (m := m) (β := β')
 obtain ⟨x', x1, x2⟩ := y19 (R := m + 1) (m := m) (n := n) (by omega) (by omega) (by omega) (by omega) (β := β') r5 hinj fuel 0 (List.replicate n (false, ([], []))) (by omega) (by omega) (QF.rep n)
 have dx : ∀ j, j < n -> Dr K (xv m β' T' (n + m + 1) j) := fun j _ => v29 (by omega) hinj fun i hi => hdr i (by omega) _ (by omega)
 have px := ym9 (m := m) (β := β') (T := T') (s := n + m + 1) r3
 have hfeas := wf6 r2 r4 r3
 have hl1 : z0t fuel (cl.length : Int) 0 (List.replicate (n + m + 2) ((false, ([], [])) : Qd)) cl = some (.exit (l, cl, ())) := by rw [lcl]; exact hl1
 have q1 : z0q fuel ((g.take m).length) ((bL m β).length : Int) 0 (n : Int) (m : Int) (g.take m ++ [l]) (bL m β) = some (.exit ((n : Int), (m : Int), g1, bL m β, ())) := by rw [ltk, lb]; exact q1
 have x1 : z0l fuel ((bL m β').length : Int) 0 (n : Int) (m : Int) (List.replicate n ((false, ([], [])) : Qd)) (bL m β') g' = some (.exit (x', (n : Int), (m : Int), bL m β', g', ())) := by rw [lb']; exact x1
 unfold tl
 rw [hc1, Option.bind_some, e5, e6]
 simp only [Int.toNat_natCast]
 rw [if_pos (by omega), if_pos (by omega), if_pos (by omega), hl1]
 simp only
 rw [if_pos (by omega), if_pos (by omega), if_pos (by omega), q1]
 simp only
 rw [e5, r1]
 simp only [Int.toNat_natCast]
 rw [if_pos (show (0 : Int) <= (n : Int) by omega), if_pos (show (n : Int) <= (n : Int) by omega), if_pos (show (n : Int) * 56 <= 281474976710656 by omega), x1]
 simp only [Int.toNat_natCast]
 rcases r6 with ⟨rfl, hq⟩ | ⟨q, rfl, hq1, hq2, hq3⟩
 ·obtain ⟨y1, y2, y3, y4⟩ := wf4 r2 r4 hq
  have hy := wu2 (r5.2 m (by omega)) (a := n) (k := m) (by omega)
  have hv := (r5.2 m (by omega)).at (i := n + m + 1) (by omega)
  have hres := w55 (K := K) x2 hy hv (by omega) (by omega) (by omega) (by omega) dx (fun j hj => hdr m (by omega) _ (by omega)) (hdr m (by omega) _ (by omega))
  rw [if_pos (show decide ((-1 : Int) < 0) = true by decide), e5]
  simp only [Int.toNat_natCast]
  rw [if_pos (show (0 : Int) <= (m : Int) by omega), if_pos (show (m : Int) < ((g'.length : Nat) : Int) by omega), if_pos (show (0 : Int) <= ((n + m : Nat) : Int) by omega), if_pos (show ((n + m : Nat) : Int) <= (((g'.getD m ([] : List Qd)).length : Nat) : Int) by omega), if_pos (show (0 : Int) <= (n : Int) by omega), if_pos (show (n : Int) <= ((n + m : Nat) : Int) by omega), if_pos (show (0 : Int) <= (m : Int) by omega), if_pos (show (m : Int) < ((g'.length : Nat) : Int) by omega), yl7 (by omega) (by omega), Option.bind_some, if_pos (by omega), if_pos (show ((n + m + 1 : Nat) : Int) < (((g'.getD m ([] : List Qd)).length : Nat) : Int) by omega)]
  simp only [Int.toNat_natCast]
  rw [hres, Option.bind_some]
  exact ⟨_, rfl, .inl ⟨β', T', r2, r3, r4, hq, rfl⟩⟩
 ·have hbk : ∀ i, i < m -> β' i ≠ q := fun i hi e => by have := r2.zero i hi; rw [e] at this; grind
  obtain ⟨z1, z2, z3⟩ := wz1 r2 r4 hq1 hq2 hq3
  have dz : ∀ j, j < n -> Dr K (ryv m q β' T' j) := fun j _ => by
   unfold ryv
   by_cases e : j = q
   ·rcases w7i (T := T') (s := q) (v := j) hinj m (Nat.le_refl _) with ⟨_, h⟩ | ⟨i, h2, h3, _⟩
    ·rw [h, if_pos e]
     have : (1 : Rat) - 0 = 1 := by grind
     rw [this]
     exact w1d (n := 1) (Nat.lt_of_lt_of_le (by decide : 1 < 10 ^ 1) (Nat.pow_le_pow_right (by decide) (by omega))) (by omega)
    ·exact absurd (h3.trans e) (hbk i h2)
   ·rw [if_neg e]
    have : (0 : Rat) - xv m β' T' q j = -(xv m β' T' q j) := by grind
    rw [this]
    exact y74 (v29 (by omega) hinj fun i hi => hdr i (by omega) _ (by omega))
  have fin : ∀ zs, QF n (ryv m q β' T') zs -> ∃ out, ((z14 fuel 2 x' [] zs (false, ([], []))).bind fun r => some (r.1, r.2)) = some out /\ Raw K m n A b (fun j => cs.getD j 0) out := fun zs hz => by
   rw [w56 (K := K) x2 hz (by omega) (by omega) (by omega) dx dz, Option.bind_some]
   exact ⟨_, rfl, .inr (.inr ⟨_, _, fun j hj => ⟨dx j hj, px j⟩, fun j hj => ⟨dz j hj, z1 j⟩, hfeas, z2, z3, rfl⟩)⟩
  rw [if_neg (show ¬ decide (((q : Nat) : Int) < 0) = true by rw [decide_eq_true_eq]; omega), if_pos (show (0 : Int) <= (n : Int) by omega), if_pos (show (n : Int) <= (n : Int) by omega), if_pos (show (n : Int) * 56 <= 281474976710656 by omega)]
  have lrep : (List.replicate n ((false, ([], [])) : Qd)).length = n := List.length_replicate
  by_cases c : q < n
  ·obtain ⟨o1, i1, i2⟩ := we4
   obtain ⟨zs, w1, w2⟩ := yd9 (R := m + 1) (m := m) (n := n) (k := q) (by omega) (by omega) (by omega) (by omega) (by omega) r5 hinj hbk fuel 0 ((List.replicate n (false, ([], []))).set q o1) (by omega) (by omega) (((QF.rep n).set c i2).ext fun v _ => by
     show (if v = q then 1 else 0) = (if v = q then 1 else 0) - 0
     grind)
   have w1 : z1k fuel (q : Int) ((bL m β').length : Int) 0 (n : Int) (m : Int) ((List.replicate n ((false, ([], [])) : Qd)).set q o1) (bL m β') g' = some (.exit (zs, (n : Int), (m : Int), bL m β', g', ())) := by rw [lb']; exact w1
   rw [if_pos (show decide (((q : Nat) : Int) < (n : Int)) = true by rw [decide_eq_true_eq]; omega), i1, Option.bind_some, if_pos (by omega), if_pos (show ((q : Nat) : Int) < (((List.replicate n ((false, ([], [])) : Qd)).length : Nat) : Int) by omega)]
   simp only [Int.toNat_natCast]
   rw [w1]
   exact fin zs w2
  ·obtain ⟨zs, w1, w2⟩ := yd9 (R := m + 1) (m := m) (n := n) (k := q) (by omega) (by omega) (by omega) (by omega) (by omega) r5 hinj hbk fuel 0 (List.replicate n (false, ([], []))) (by omega) (by omega) ((QF.rep n).ext fun v hv => by
     show (0 : Rat) = (if v = q then 1 else 0) - 0
     rw [if_neg (by omega)]; grind)
   have w1 : z1k fuel (q : Int) ((bL m β').length : Int) 0 (n : Int) (m : Int) (List.replicate n ((false, ([], [])) : Qd)) (bL m β') g' = some (.exit (zs, (n : Int), (m : Int), bL m β', g', ())) := by rw [lb']; exact w1
   rw [if_neg (show ¬ decide (((q : Nat) : Int) < (n : Int)) = true by rw [decide_eq_true_eq]; omega), w1]
   exact fin zs w2
end Go.Proofs.YtcdcoeofhnfjdabGreatDoor
namespace Go.Proofs.YtcdcoeofhnfjdabGreatDoor
open Go Vm
variable {m n K : Nat} {A : Nat -> Nat -> Rat} {b : Nat -> Rat}
theorem w1e (hm : m <= 20) (hn : n <= 20) (hK : K <= 4000000) (hgood : Good (m + 1) (n + m + 2 + 1) K (gM m (n + m + 2) (lpM m n A b) (cx m n))) {β : Nat -> Nat} {T : Nat -> Nat -> Rat} (ht : Tab m n (n + m + 2) (lpM m n A b) (cx m n) β T) {i : Nat} (hi : i < m) {g : List (List Qd)} (hg : QG (m + 1) (n + m + 2) T g) :
  ∀ (f k : Nat), n + m + 1000 < f + k -> (∃ q, k <= q /\ q < n + m /\ T i q ≠ 0) -> ∃ (q : Nat) (g' : List (List Qd)), q < n + m /\ T i q ≠ 0 /\
   z10 f (i : Int) ((n + m : Nat) : Int) (k : Int) (n : Int) (m : Int) g (bL m β) = some (.exit ((n : Int), (m : Int), g', bL m (ub i q β), ())) /\ QG (m + 1) (n + m + 2) (piv i q T) g'
 | 0, k, h, ⟨q, h1, h2, _⟩ => by omega
 | f + 1, k, h, ⟨q, h1, h2, h3⟩ => by
  have lg := hg.1
  have lb := z5w (m := m) (β := β)
  have hri := hg.2 i (by omega)
  have li := hri.1
  have qk := hri.at (i := k) (by omega)
  have e4 : IntKind.i64.wrap ((k : Int) + 1) = ((k + 1 : Nat) : Int) := by rw [w64 _ (by omega) (by omega)]; omega
  simp only [z10]
  simp only [Int.toNat_natCast]
  rw [if_pos (show decide (((k : Nat) : Int) < ((n + m : Nat) : Int)) = true by rw [decide_eq_true_eq]; omega), if_pos (by omega), if_pos (by omega), if_pos (by omega), if_pos (show ((k : Nat) : Int) < (((g.getD i ([] : List Qd)).length : Nat) : Int) by omega), z9v qk, Option.bind_some, e4]
  by_cases z : T i k = 0
  ·rw [if_neg (by rw [z]; decide)]
   exact w1e hm hn hK hgood ht hi hg f (k + 1) (by omega) ⟨q, by
     by_cases e : q = k
     · rw [e] at h3; exact absurd z h3
     · omega, h2, h3⟩
  ·have hs : ((T i k).num.sign != 0) = true := by
    rw [bne_iff_ne]
    intro h
    exact z (zt8.1 (by rw [h]; rfl))
   have hdr := ht.dr hgood
   have ht' := ht.pivot (by omega) (fun i _ j hj => yp8 hj) hi (show k < n + m + 2 by omega) z
   obtain ⟨g1, g2, v1, v2, v3⟩ := pvB (u := (n : Int)) (v := (m : Int)) (bl := bL m β) (p := i) (k := k) (R := m + 1) (C := n + m + 2) (by omega) (by omega) hK (by omega) (by omega) z hdr (ht'.dr hgood) hg (m := f) (by omega)
   rw [if_pos hs, if_pos (by omega), if_pos (by omega), if_pos (by omega), if_pos (show ((k : Nat) : Int) < (((g.getD i ([] : List Qd)).length : Nat) : Int) by omega), if_pos (by omega), if_pos (by omega), v1]
   simp only
   rw [v2]
   simp only
   rw [if_pos (by omega), if_pos (by omega), w5q hi]
   exact ⟨k, g2, by omega, z, rfl, v3⟩
theorem yh8 (hm : m <= 20) (hn : n <= 20) (hK : K <= 4000000) (hgood : Good (m + 1) (n + m + 2 + 1) K (gM m (n + m + 2) (lpM m n A b) (cx m n))) : ∀ (f i : Nat) (β : Nat -> Nat) (T : Nat -> Nat -> Rat) (g : List (List Qd)), i <= m -> n + m + 3000 < f + i ->
  Tab m n (n + m + 2) (lpM m n A b) (cx m n) β T -> (∀ j, j < m -> 0 <= T j (n + m + 1)) -> ¬ T m (n + m + 1) < 0 -> (∀ j, j < m -> β j < n + m + 1) -> (∀ j, j < i -> β j < n + m) -> QG (m + 1) (n + m + 2) T g ->
  ∃ β' T' g', z0s f ((n + m : Nat) : Int) (m : Int) (i : Int) (n : Int) (m : Int) (bL m β) g = some (.exit ((n : Int), (m : Int), bL m β', g', ())) /\ Tab m n (n + m + 2) (lpM m n A b) (cx m n) β' T' /\
   (∀ j, j < m -> 0 <= T' j (n + m + 1)) /\ (∀ j, j < m -> β' j < n + m) /\ QG (m + 1) (n + m + 2) T' g'
 | 0, i, β, T, g, h1, h2, _, _, _, _, _, _ => by omega
 | f + 1, i, β, T, g, h1, h2, ht, hpos, hv, hl, hli, hg => by
  have lb := z5w (m := m) (β := β)
  simp only [z0s]
  by_cases hi : i < m
  ·have e4 : IntKind.i64.wrap ((i : Int) + 1) = ((i + 1 : Nat) : Int) := by rw [w64 _ (by omega) (by omega)]; omega
   rw [if_pos (by simpa using hi), if_pos (by omega), if_pos (by omega), Int.toNat_natCast, yg4 hi, e4]
   have hbi := hl i hi
   by_cases c : β i = n + m
   ·have ha := v1n ht hpos hv hi c
    obtain ⟨q0, d1, d2⟩ := wp1 ht hi c
    obtain ⟨q, g', k1, k2, k3, k4⟩ := w1e hm hn hK hgood ht hi hg f 0 (by omega) ⟨q0, by omega, d1, d2⟩
    have k3 : z10 f (i : Int) ((n + m : Nat) : Int) 0 (n : Int) (m : Int) g (bL m β) = some (.exit ((n : Int), (m : Int), g', bL m (ub i q β), ())) := k3
    have hsame : ∀ j, piv i q T j (n + m + 1) = T j (n + m + 1) := fun j => by
     unfold piv
     have z : T i (n + m + 1) / T i q = 0 := by rw [ha, Rat.div_def, Rat.zero_mul]
     by_cases e : j = i
     ·rw [if_pos e, z, e, ha]
     ·rw [if_neg e, z]; grind
    have hub : ∀ j, ub i q β j = if j = i then q else β j := fun j => rfl
    rw [if_neg (by rw [bne_iff_ne, c]; exact fun h => h rfl), k3]
    simp only
    refine yh8 hm hn hK hgood f (i + 1) (ub i q β) (piv i q T) g' (by omega) (by omega) (ht.pivot (by omega) (fun i _ j hj => yp8 hj) hi (show q < n + m + 2 by omega) k2) (fun j hj => by rw [hsame]; exact hpos j hj) (by rw [hsame]; exact hv) (fun j hj => ?_) (fun j hj => ?_) k4
    ·rw [hub]
     by_cases e : j = i
     ·rw [if_pos e]; omega
     ·rw [if_neg e]; exact hl j hj
    ·rw [hub]
     by_cases e : j = i
     ·rw [if_pos e]; exact k1
     ·rw [if_neg e]; exact hli j (by omega)
   ·rw [if_pos (by rw [bne_iff_ne]; omega)]
    refine yh8 hm hn hK hgood f (i + 1) β T g (by omega) (by omega) ht hpos hv hl (fun j hj => ?_) hg
    by_cases e : j = i
    ·subst e; omega
    ·exact hli j (by omega)
  ·rw [if_neg (by simpa using hi)]
   have : i = m := by omega
   subst this
   exact ⟨β, T, g, rfl, ht, hpos, hli, hg⟩
end Go.Proofs.YtcdcoeofhnfjdabGreatDoor
namespace Go.Proofs.YtcdcoeofhnfjdabGreatDoor
open Go Vm
theorem wm8 : Dr 12 1 := w1d (n := 1) (by decide) (by decide)
theorem wb5 : Dr 12 (-1) := y74 wm8
theorem v2l {m n : Nat} : ∀ k, Dr 12 (cx m n k) := fun k => by
 unfold cx
 by_cases e : k = n + m
 ·rw [if_pos e]; exact wb5
 ·rw [if_neg e]; exact y5q (by decide)
theorem wj3 {K : Nat} (hK1 : 12 <= K) (hK : K <= 1999) {a : List (List ByteArray)} {bs cs : List Rat} {A : Nat -> Nat -> Rat} {m n : Nat} (hm : m <= 6) (hn : n <= 6) (ha : Txt a m n A) (hbl : bs.length = m) (hcl : cs.length = n) (hbo : ∀ r, r ∈ bs -> OkR r) (hco : ∀ r, r ∈ cs -> OkR r)
  (hT0 : ∀ r, r < m -> ∀ s, s < n + m + 2 -> Dr K (lpM m n A (fun j => bs.getD j 0) r s)) (hc : ∀ i, i < n -> Dr K (cs.getD i 0)) (hgc : Good (m + 1) (n + m + 2 + 1) K (gM m (n + m + 2) (lpM m n A fun j => bs.getD j 0) (cst n fun j => cs.getD j 0)))
  (hgx : Good (m + 1) (n + m + 2 + 1) K (gM m (n + m + 2) (lpM m n A fun j => bs.getD j 0) (cx m n))) (hck : z6q fuel (a, (bs.map rt, cs.map rt)) = some 0) :
  ∃ out, ze1 fuel (a, (bs.map rt, cs.map rt)) = some out /\ Raw K m n A (fun j => bs.getD j 0) (fun j => cs.getD j 0) out := by
 have hf := z82 (n := 2 ^ 100) (by decide)
 have la := ha.1
 have e5 : IntKind.i64.wrap ((n : Int) + (m : Int)) = ((n + m : Nat) : Int) := by rw [w64 _ (by omega) (by omega)]; omega
 have e6 : IntKind.i64.wrap (((n + m : Nat) : Int) + 2) = ((n + m + 2 : Nat) : Int) := by rw [w64 _ (by omega) (by omega)]; omega
 have e7 : IntKind.i64.wrap (((n + m : Nat) : Int) + 1) = ((n + m + 1 : Nat) : Int) := by rw [w64 _ (by omega) (by omega)]; omega
 obtain ⟨G, g1, g2⟩ := wt0 ha (by omega) (by omega)
 obtain ⟨B, b1, b2⟩ := yt2 bs (by omega) hbo
 have b2 := QF.of b2
 rw [hbl] at b2
 obtain ⟨g, s1, s2⟩ := yt8 (m := m) (n := n) (by omega) (by omega) g2 b2 fuel 0 [] (by omega) (by omega) ⟨rfl, fun i hi => by omega⟩
 have s1 : z1s fuel (a.length : Int) 0 ((cs.map rt).length : Int) (a.length : Int) G B [] [] = some (.exit ((n : Int), (m : Int), G, B, g, bL m (fun j => n + j), ())) := by rw [la, List.length_map, hcl]; exact s1
 obtain ⟨at', f1, f2⟩ := y03 (K := K) (m := m) (n := n) (by omega) (by omega) (Nat.le_refl _) (by omega) (by omega) s2 hT0 (bl := bL m fun j => n + j) fuel 0 (-1) (by omega) (by omega) (.inl ⟨rfl, fun j hj => by omega⟩)
 have f1 : z0k fuel (-1) (m : Int) 0 (n : Int) (m : Int) g (bL m fun j => n + j) = some (.exit (at', (n : Int), (m : Int), g, bL m (fun j => n + j), ())) := f1
 have lg := s2.1
 unfold ze1
 rw [hck, Option.bind_some, if_neg (by decide)]
 dsimp only
 rw [g1, Option.bind_some, b1, Option.bind_some, s1]
 dsimp only
 rw [f1]
 dsimp only
 rcases f2 with ⟨rfl, hno⟩ | ⟨p, hp, rfl, hp0, hmin⟩
 ·rw [if_pos (show decide ((-1 : Int) < 0) = true by decide)]
  have := wv0 (K := K) hm hn hK1 hK hcl hco hc hgc yy3 (fun i hi => by omega) (fun i hi => hno i hi) hT0 (Nat.le_refl _) (by omega) s2
  exact this
 ·rw [if_neg (show ¬ decide (((p : Nat) : Int) < 0) = true by rw [decide_eq_true_eq]; omega), e5, e7, e6]
  obtain ⟨o1, i1, i2⟩ := wt1
  have hcx : QF (n + m + 1) (cx m n) ((List.replicate (n + m + 1) (false, ([], []))).set (n + m) o1) := ((QF.rep (n + m + 1)).set (by omega) i2).ext fun v _ => rfl
  have lcx := hcx.1
  obtain ⟨l, h1, h2⟩ := gnF (L := n + m + 1) (C := n + m + 2) (by omega) (by omega) hcx fuel 0 (List.replicate (n + m + 2) (false, ([], []))) (by omega) (by omega) ((QF.rep (n + m + 2)).ext fun j hj => by rw [if_neg (by omega)])
  have h1 : z0f fuel (((List.replicate (n + m + 1) ((false, ([], [])) : Qd)).set (n + m) o1).length : Int) 0 (List.replicate (n + m + 2) ((false, ([], [])) : Qd)) ((List.replicate (n + m + 1) ((false, ([], [])) : Qd)).set (n + m) o1) = some (.exit (l, (List.replicate (n + m + 1) ((false, ([], [])) : Qd)).set (n + m) o1, ())) := by rw [lcx]; exact h1
  have ltk : (g.take m).length = m := by rw [List.length_take]; omega
  have lb := z5w (m := m) (β := fun j => n + j)
  have hgl : QG (m + 1) (n + m + 2) (gl m (cx m n) (fun j => n + j) (lpM m n A fun j => bs.getD j 0) 0) (g.take m ++ [l]) := by
   have h0 : QG m (n + m + 2) (gl m (cx m n) (fun j => n + j) (lpM m n A fun j => bs.getD j 0) 0) (g.take m) := (s2.take (Nat.le_refl _)).ext fun r hr s _ => by unfold gl; rw [if_neg (by omega)]
   refine h0.snoc (h2.ext fun s hs => ?_)
   unfold gl
   rw [if_pos rfl]
   show (if s < n + m + 1 then -(cx m n s) else 0) = -(cx m n s) - 0
   by_cases e : s < n + m + 1
   ·rw [if_pos e]; grind
   ·rw [if_neg e]; unfold cx; rw [if_neg (by omega)]; grind
  obtain ⟨g3, q1, q2⟩ := goF (m := m) (n := n) (N := n + m + 2) (K := K) (by omega) (by omega) (by omega) (yy3 (m := m) (n := n) (A := A) (b := fun j => bs.getD j 0)) (fun j hj => by omega) (fun s _ => z7v (by omega) (v2l s)) hT0 fuel 0 _ (by omega) (by omega) hgl
  have q1 : z0a fuel ((g.take m).length) ((bL m fun j => n + j).length : Int) 0 (n : Int) (m : Int) (g.take m ++ [l]) (bL m fun j => n + j) = some (.exit ((n : Int), (m : Int), g3, bL m (fun j => n + j), ())) := by rw [ltk, lb]; exact q1
  have hM : ∀ i, i < m -> ∀ j, j < m -> lpM m n A (fun j => bs.getD j 0) i (n + j) = one i j := fun i _ j hj => yp8 hj
  have htab := wk1 (n := n) (cx m n) (yy3 (m := m) (n := n) (A := A) (b := fun j => bs.getD j 0)) (by omega) hM (fun i hi => by omega)
  have hne : gol m (cx m n) (fun j => n + j) (lpM m n A fun j => bs.getD j 0) p (n + m) ≠ 0 := by
   unfold gol; rw [if_neg (by omega), wz0]; decide
  have htab' := htab.pivot (by omega) hM hp (show n + m < n + m + 2 by omega) hne
  obtain ⟨g4, g5, v1, v2, v3⟩ := pvB (u := (n : Int)) (v := (m : Int)) (bl := bL m fun j => n + j) (p := p) (k := n + m) (R := m + 1) (C := n + m + 2) (by omega) (by omega) (K := K) (by omega) (by omega) (by omega) hne (htab.dr hgx) (htab'.dr hgx) q2 (m := fuel) (by omega)
  have hpos' : ∀ i, i < m -> 0 <= piv p (n + m) (gol m (cx m n) (fun j => n + j) (lpM m n A fun j => bs.getD j 0)) i (n + m + 1) := fun i hi => by
   have ge : ∀ r, r < m -> ∀ s, gol m (cx m n) (fun j => n + j) (lpM m n A fun j => bs.getD j 0) r s = lpM m n A (fun j => bs.getD j 0) r s := fun r hr s => by unfold gol; rw [if_neg (by omega)]
   unfold piv
   rw [ge i hi, ge p hp, ge p hp, ge i hi, wz0, wz0]
   have hm1 := hmin i hi
   by_cases e : i = p
   ·rw [if_pos e]; grind
   ·rw [if_neg e]; grind
  have hch : Chain m n (n + m + 2) (n + m + 1) (n + m + 1) (lpM m n A fun j => bs.getD j 0) (cx m n) 0 (fun _ => ub p (n + m) fun j => n + j) (fun _ => piv p (n + m) (gol m (cx m n) (fun j => n + j) (lpM m n A fun j => bs.getD j 0))) (fun _ => 0) (fun _ => 0) :=
   ⟨fun _ _ => htab', fun _ _ i hi => hpos' i hi, fun _ _ i hi => by
     show ub p (n + m) (fun j => n + j) i < n + m + 1
     unfold ub
     by_cases e : i = p
     · rw [if_pos e]; omega
     · rw [if_neg e]; show n + i < n + m + 1; omega, fun j hj => by omega, fun j hj => by omega, fun j hj => by omega, fun j hj => by omega⟩
  have hp2 : 2 ^ (n + m + 1) <= 2 ^ 13 := Nat.pow_le_pow_right (by decide) (by omega)
  obtain ⟨r, β', T', g', r1, r2, r3, r4, r5, r6⟩ := v3g (K := K) (m := m) (n := n) (cols := n + m + 1) (by omega) (by omega) (by omega) hM hgx (by omega) fuel 0 _ _ _ _ hch (by omega) g5 v3
  have r6 : r = -1 /\ ∀ q, q < n + m + 1 -> 0 <= T' m q := by
   rcases r6 with h | ⟨q, _, hq1, hq2, hq3⟩
   ·exact h
   ·exact (w8k r2 hq1 hq2 hq3).elim
  have hdr := r2.dr hgx
  have lg' := r5.1
  have lrow := (r5.2 m (by omega)).1
  have lb' := z5w (m := m) (β := β')
  have lg3 := q2.1
  have lrp := (q2.2 p (by omega)).1
  have qs := (r5.2 m (by omega)).at (i := n + m + 1) (by omega)
  have hl0 : (List.replicate (n + m + 1) ((false, ([], [])) : Qd)).length = n + m + 1 := List.length_replicate
  simp only [Int.toNat_natCast]
  rw [if_pos (show (0 : Int) <= ((n + m + 1 : Nat) : Int) by omega), if_pos (Int.le_refl _), if_pos (show ((n + m + 1 : Nat) : Int) * 56 <= 281474976710656 by omega), i1, Option.bind_some, if_pos (show (0 : Int) <= ((n + m : Nat) : Int) by omega), if_pos (show ((n + m : Nat) : Int) < (((List.replicate (n + m + 1) ((false, ([], [])) : Qd)).length : Nat) : Int) by omega),
    if_pos (show (0 : Int) <= ((n + m + 2 : Nat) : Int) by omega), if_pos (Int.le_refl _), if_pos (show ((n + m + 2 : Nat) : Int) * 56 <= 281474976710656 by omega), h1]
  dsimp only
  rw [if_pos (show (0 : Int) <= (m : Int) by omega), if_pos (show (m : Int) <= ((g.length : Nat) : Int) by omega), if_pos (show ((g.take m).length + 1) * 24 <= 140737488355328 by omega), q1]
  dsimp only
  rw [if_pos (show (0 : Int) <= (p : Int) by omega), if_pos (show (p : Int) < ((g3.length : Nat) : Int) by omega), if_pos (show (0 : Int) <= ((n + m : Nat) : Int) by omega), if_pos (show ((n + m : Nat) : Int) < (((g3.getD p ([] : List Qd)).length : Nat) : Int) by omega), if_pos (show (0 : Int) <= (p : Int) by omega), if_pos (show (p : Int) < ((g3.length : Nat) : Int) by omega), v1]
  dsimp only
  rw [v2]
  dsimp only
  rw [if_pos (show (0 : Int) <= (p : Int) by omega), if_pos (show (p : Int) < (((bL m fun j => n + j).length : Nat) : Int) by omega), w5q hp, r1]
  dsimp only
  simp only [Int.toNat_natCast]
  rw [if_pos (show (0 : Int) <= (m : Int) by omega), if_pos (show (m : Int) < ((g'.length : Nat) : Int) by omega), yl7 (by omega) (by omega), Option.bind_some, if_pos (show (0 : Int) <= ((n + m + 1 : Nat) : Int) by omega), if_pos (show ((n + m + 1 : Nat) : Int) < (((g'.getD m ([] : List Qd)).length : Nat) : Int) by omega)]
  simp only [Int.toNat_natCast]
  rw [z9v qs, Option.bind_some]
  by_cases hv : T' m (n + m + 1) < 0
  ·obtain ⟨n1, n2, n3⟩ := wz3 r2 r6.2 hv
   have hy := wu2 (r5.2 m (by omega)) (a := n) (k := m) (by omega)
   have hres := w57 (K := K) hy (by omega) (by omega) (by omega) (fun j hj => hdr m (by omega) _ (by omega))
   rw [if_pos (by rw [decide_eq_true_eq]; exact z9w.2 hv), if_pos (show (0 : Int) <= (m : Int) by omega), if_pos (show (m : Int) < ((g'.length : Nat) : Int) by omega), e5, if_pos (show (0 : Int) <= ((n + m : Nat) : Int) by omega), if_pos (show ((n + m : Nat) : Int) <= (((g'.getD m ([] : List Qd)).length : Nat) : Int) by omega), if_pos (show (0 : Int) <= (n : Int) by omega), if_pos (show (n : Int) <= ((n + m : Nat) : Int) by omega)]
   simp only [Int.toNat_natCast]
   rw [hres, Option.bind_some]
   exact ⟨_, rfl, .inr (.inl ⟨_, fun j hj => ⟨hdr m (by omega) _ (by omega), n1 j hj⟩, n2, n3, rfl⟩)⟩
  ·obtain ⟨β2, T2, g6, d1, d2, d3, d4, d5⟩ := yh8 (K := K) (m := m) (n := n) (by omega) (by omega) (by omega) hgx fuel 0 β' T' g' (by omega) (by omega) r2 r3 hv r4 (fun j hj => by omega) r5
   have d1 : z0s fuel ((n + m : Nat) : Int) ((bL m β').length : Int) 0 (n : Int) (m : Int) (bL m β') g' = some (.exit ((n : Int), (m : Int), bL m β2, g6, ())) := by rw [lb']; exact d1
   rw [if_neg (by rw [decide_eq_true_eq]; exact fun h => hv (z9w.1 h)), d1]
   dsimp only
   have := wv0 (K := K) hm hn hK1 hK hcl hco hc hgc d2.bas d4 d3 (fun r hr s hs => d2.dr hgx r (by omega) s hs) (R := m + 1) (by omega) (by omega) d5
   exact this
end Go.Proofs.YtcdcoeofhnfjdabGreatDoor
namespace Go.Proofs.YtcdcoeofhnfjdabGreatDoor
open Go Vm
theorem yg8 {rs : List Rat} (hl : rs.length <= 40) (ho : ∀ r, r ∈ rs -> OkR r) : z1v fuel (rs.map rt) = some 0 := by
 unfold z1v
 rw [if_neg (by rw [decide_eq_true_eq, List.length_map]; omega), y5o _ (by omega) ho, Option.bind_some]
def RS (m : Nat) (B : Nat -> Rat) (o : Option (List Qd)) : Prop := (∃ qs, o = some qs /\ QF m B qs) \/ (o = none /\ ∀ i, i < m -> B i = 0)
end Go.Proofs.YtcdcoeofhnfjdabGreatDoor
namespace Go.Proofs.YtcdcoeofhnfjdabGreatDoor
open Go Vm
theorem ym8 {n : Nat} {x : Nat -> Rat} : (xt n x).length = n := by rw [xt, List.length_map, List.length_map, List.length_range]
structure Prob (m n : Nat) (A : Nat -> Nat -> Rat) (b c : Nat -> Rat) (a : List (List ByteArray)) (bs cs : List Rat) : Prop where
 hm : m <= 40
 hn : n <= 40
 ha : Txt a m n A
 bl : bs.length = m
 cl : cs.length = n
 bo : ∀ r, r ∈ bs -> OkR r
 co : ∀ r, r ∈ cs -> OkR r
 eb : b = fun j => bs.getD j 0
 ec : c = fun j => cs.getD j 0
 ck : z6q fuel (a, (bs.map rt, cs.map rt)) = some 0
theorem v1r {rs : List Rat} (ho : ∀ r, r ∈ rs -> OkR r) {i : Nat} (hi : i < rs.length) : OkR (rs.getD i 0) := ho _ (by rw [z3d rs i 0 hi]; exact List.getElem_mem _)
section
variable {m n : Nat} {A : Nat -> Nat -> Rat} {b c : Nat -> Rat} {a : List (List ByteArray)} {bs cs : List Rat}
theorem Prob.dA (h : Prob m n A b c a bs cs) : ∀ i, i < m -> ∀ k, k < n -> Dr 2000 (A i k) := fun i hi k hk => y1t ((h.ha.2 i hi).2 k hk)
theorem Prob.db (h : Prob m n A b c a bs cs) : ∀ i, i < m -> Dr 2000 (b i) := fun i hi => by rw [h.eb]; exact y1t (v1r h.bo (by rw [h.bl]; exact hi))
theorem Prob.rows (h : Prob m n A b c a bs cs) : ∃ g qb qc, z69 fuel a = some g /\ QG m n A g /\ z2m fuel (bs.map rt) = some qb /\ QF m b qb /\ z2m fuel (cs.map rt) = some qc /\ QF n c qc := by
 have := h.hm
 have := h.hn
 have e1 := h.bl
 have e2 := h.cl
 obtain ⟨g, g1, g2⟩ := wt0 h.ha (by omega) (by omega)
 obtain ⟨qb, b1, b2⟩ := yt2 bs (by omega) h.bo
 obtain ⟨qc, c1, c2⟩ := yt2 cs (by omega) h.co
 have b2 := QF.of b2
 have c2 := QF.of c2
 rw [e1] at b2
 rw [e2] at c2
 exact ⟨g, qb, qc, g1, g2, b1, by rw [h.eb]; exact b2, c1, by rw [h.ec]; exact c2⟩
end
end Go.Proofs.YtcdcoeofhnfjdabGreatDoor
namespace Go.Proofs.YtcdcoeofhnfjdabGreatDoor
open Go Vm
def WV (v : List ByteArray) : Prop := v.length <= 140737488351232 /\ ∀ s, s ∈ v -> s.size <= 900000000000000
theorem v37 {N : Nat} {a : List (List ByteArray)} {R C : Nat} {M : Nat -> Nat -> Rat} (h : Txt a R C M) (s : Sm N a) : ∀ i, i < R -> ∀ j, j < C -> Dr 12 (M i j) := by
 intro i hi j hj
 have h1 := (s.2 i (by rw [h.1]; exact hi)).2 (rt (M i j)) (by
   rw [(h.2 i hi).1]
   exact List.mem_map_of_mem (List.mem_map_of_mem (List.mem_range.2 hj)))
 rw [v05] at h1
 exact z7v h1 (v16 _)
end Go.Proofs.YtcdcoeofhnfjdabGreatDoor
