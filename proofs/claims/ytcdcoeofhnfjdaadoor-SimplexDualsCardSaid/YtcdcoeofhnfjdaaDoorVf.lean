/- How large the numbers of an elimination are. -/
import Derived.Test.YtcdcoeofhnfjdaaDoorVe
namespace Go.Proofs.YtcdcoeofhnfjdaaDoor
open Go Vm
def Cls (m N : Nat) (M B : Nat → Nat → Rat) : Prop := ∀ r, r < m → (∃ c, c < N ∧ ∀ i, B i r = M i c) ∨ (∃ c, ∀ i, B i r = if i = c then 1 else 0)
theorem Cls.swap {m N : Nat} {M B : Nat → Nat → Rat} (h : Cls m N M B) {p q : Nat} (hp : p < m) (hq : q < m) : Cls m N M fun i r => B i (sw p q r) := fun r hr => h (sw p q r) (wj7 hp hq hr)
theorem Cls.pivot {m N : Nat} {M B : Nat → Nat → Rat} (h : Cls m N M B) {p k : Nat} (hk : k < N) : Cls m N M (upd p (fun i => M i k) B) := fun r hr => by
 by_cases e : r = p
 ·refine .inl ⟨k, hk, fun i => ?_⟩
  unfold upd
  rw [if_pos e]
 ·rcases h r hr with ⟨c, hc, h1⟩ | ⟨c, h1⟩
  ·refine .inl ⟨c, hc, fun i => ?_⟩
   unfold upd
   rw [if_neg e, h1 i]
  ·refine .inr ⟨c, fun i => ?_⟩
   unfold upd
   rw [if_neg e, h1 i]
theorem w8k : ∀ {n : Nat} {δ : Nat → Nat} {c : Nat}, c < n → (∀ i, i < n → δ i ≠ 0) → ∃ e, e ≠ 0 ∧ pd δ n = δ c * e
 | 0, _, _, h, _ => by omega
 | n + 1, δ, c, h, h0 => by
  rw [pd]
  by_cases e : c = 0
  ·subst e
   exact ⟨_, w5d fun i hi => h0 (i + 1) (by omega), rfl⟩
  ·obtain ⟨d, rfl⟩ : ∃ d, c = d + 1 := ⟨c - 1, by omega⟩
   obtain ⟨e, e0, he⟩ := w8k (δ := fun i => δ (i + 1)) (c := d) (n := n) (by omega) fun i hi => h0 (i + 1) (by omega)
   refine ⟨δ 0 * e, Nat.mul_ne_zero (h0 0 (by omega)) e0, ?_⟩
   rw [he, Nat.mul_left_comm]
theorem wi6 : ∀ {n : Nat}, n ≤ 40 → fc n ≤ 10 ^ 48 := by
 have mono : ∀ {n : Nat}, fc n ≤ fc (n + 1) := fun {n} => by rw [fc]; exact Nat.le_mul_of_pos_left _ (by omega)
 have mono2 : ∀ (d n : Nat), fc n ≤ fc (n + d) := fun d => by
  induction d with
  | zero => exact fun n => Nat.le_refl _
  | succ d ih => exact fun n => Nat.le_trans (ih n) mono
 intro n h
 have h1 := mono2 (40 - n) n
 rw [show n + (40 - n) = 40 by omega] at h1
 exact Nat.le_trans h1 (by decide)
theorem Zd.one (D : Nat) (h : D ≠ 0) : Zd D 1 := by
 have := (Zd.den 1).more h
 rwa [show (1 : Rat).den = 1 from rfl, Nat.one_mul] at this
def Good (m N K : Nat) (M : Nat → Nat → Rat) : Prop := ∀ B T, Bas m N M B T → Cls m N M B → (∀ r, r < m → ∀ c, c < N → Dr K (T r c)) ∧ Dr K (det m B)
theorem w9m {m N s K : Nat} (hm : m ≤ 40) {M : Nat → Nat → Rat} (h : ∀ i, i < m → ∀ c, c < N → Dr s (M i c)) (hK : s * N * m + s * m + 49 ≤ K) : Good m N K M := by
 intro B T hB hC
 have hδ : ∀ i, i < m → pd (fun c => (M i c).den) N ≠ 0 := fun i _ => w5d fun c _ => (M i c).den_nz
 have hP := w5d hδ
 have hPle : pd (fun i => pd (fun c => (M i c).den) N) m ≤ 10 ^ (s * N * m) := wa3 fun i hi => wa3 fun c hc => Nat.le_of_lt (h i hi c hc).2
 have hx : fc m * (10 ^ s) ^ m * pd (fun i => pd (fun c => (M i c).den) N) m < 10 ^ K := by
  have h1 : fc m * (10 ^ s) ^ m * pd (fun i => pd (fun c => (M i c).den) N) m ≤ 10 ^ 48 * 10 ^ (s * m) * 10 ^ (s * N * m) := Nat.mul_le_mul (Nat.mul_le_mul (wi6 hm) (Nat.le_of_eq (Nat.pow_mul 10 s m).symm)) hPle
  rw [← Nat.pow_add, ← Nat.pow_add] at h1
  exact Nat.lt_of_le_of_lt h1 (Nat.pow_lt_pow_right (by decide) (by omega))
 have ent : ∀ i, i < m → ∀ c, c < N → Zd (pd (fun c => (M i c).den) N) (M i c) ∧ Ab (10 ^ s) (M i c) := fun i hi c hc => by
  refine ⟨?_, Ab.of_dr (h i hi c hc)⟩
  obtain ⟨e, e0, he⟩ := w8k (δ := fun c => (M i c).den) hc fun c _ => (M i c).den_nz
  rw [he]
  exact (Zd.den _).more e0
 have a1 : Ab (10 ^ s) 1 := (show Ab 1 1 from ⟨Rat.le_refl, by decide⟩).mono (Nat.one_le_pow _ _ (by decide))
 have entB : ∀ i, i < m → ∀ r, r < m → Zd (pd (fun c => (M i c).den) N) (B i r) ∧ Ab (10 ^ s) (B i r) := fun i hi r hr => by
  rcases hC r hr with ⟨c, hc, h1⟩ | ⟨c, h1⟩
  ·rw [h1 i]; exact ent i hi c hc
  ·rw [h1 i]
   split
   ·exact ⟨Zd.one _ (hδ i hi), a1⟩
   ·exact ⟨Zd.zero, Ab.zero _⟩
 obtain ⟨d1, d2⟩ := yt6 (M := B) hδ entB
 have hpos : 1 ≤ fc m * (10 ^ s) ^ m := by
  have f0 : ∀ n, 1 ≤ fc n := fun n => by
   induction n with
   | zero => exact Nat.le_refl _
   | succ n ih => rw [fc]; exact Nat.mul_pos (by omega) ih
  exact Nat.mul_pos (f0 m) (Nat.pow_pos (Nat.pow_pos (by decide)))
 refine ⟨fun r hr c hc => ?_, Zd.dr hP hpos d1 d2.1 d2.2 hx⟩
 rw [hB.elem hr hc]
 obtain ⟨n1, n2⟩ := yt6 (M := upd r (fun i => M i c) B) hδ fun i hi q hq => by
  unfold upd
  split
  ·exact ent i hi c hc
  ·exact entB i hi q hq
 exact wa5 hP n1 d1 n2 d2 hB.nz hx
def one (i r : Nat) : Rat := if i = r then 1 else 0
theorem y6w {f : Nat → Rat} {c : Nat} : ∀ {n : Nat}, c < n → fs (fun r => one c r * f r) n = f c
 | 0, h => by omega
 | n + 1, h => by
  rw [fs]
  by_cases e : c = n
  ·have : fs (fun r => one c r * f r) n = fs (fun _ => 0) n := z1r fun r hr => by unfold one; rw [if_neg (by omega)]; grind
   rw [this, z43, ← e]
   unfold one
   rw [if_pos rfl]; grind
  ·rw [y6w (by omega)]
   unfold one
   rw [if_neg e]; grind
theorem w3s : ∀ n : Nat, det n one = 1
 | 0 => rfl
 | n + 1 => by
  rw [det]
  have : fs (fun j => sg j * one 0 j * det n fun i k => one (i + 1) (mi j k)) (n + 1) = fs (fun j => one 0 j * (sg j * det n fun i k => one (i + 1) (mi j k))) (n + 1) := z1r fun j _ => by grind
  rw [this, y6w (by omega)]
  have e : det n (fun i k => one (i + 1) (mi 0 k)) = det n one := y5a fun i _ k _ => by
   have e0 : mi 0 k = k + 1 := by unfold mi; rw [if_neg (by omega)]
   rw [e0]
   unfold one
   by_cases h : i = k
   ·rw [if_pos (by omega), if_pos h]
   ·rw [if_neg (by omega), if_neg h]
  rw [e, w3s n]
  unfold sg
  rw [if_pos rfl]; grind
end Go.Proofs.YtcdcoeofhnfjdaaDoor
