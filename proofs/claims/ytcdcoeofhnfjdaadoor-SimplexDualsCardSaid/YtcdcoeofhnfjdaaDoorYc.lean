/- How large the numbers of a tableau are. -/
import Derived.Test.YtcdcoeofhnfjdaaDoorYb
namespace Go.Proofs.YtcdcoeofhnfjdaaDoor
open Go Vm
theorem yl2 : ∀ {m : Nat} {M : Nat → Nat → Rat}, (∀ i, i < m → M i m = 0) → M m m = 1 → det (m + 1) M = det m M
 | 0, M, _, h1 => by
  show fs (fun j => sg j * M 0 j * det 0 fun i k => M (i + 1) (mi j k)) 1 = 1
  rw [fs, fs]
  show 0 + sg 0 * M 0 0 * 1 = 1
  rw [h1]
  unfold sg
  rw [if_pos rfl]; grind
 | m + 1, M, h0, h1 => by
  show fs (fun j => sg j * M 0 j * det (m + 1) fun i k => M (i + 1) (mi j k)) (m + 2) = fs (fun j => sg j * M 0 j * det m fun i k => M (i + 1) (mi j k)) (m + 1)
  rw [fs, h0 0 (by omega)]
  have e : fs (fun j => sg j * M 0 j * det (m + 1) fun i k => M (i + 1) (mi j k)) (m + 1) = fs (fun j => sg j * M 0 j * det m fun i k => M (i + 1) (mi j k)) (m + 1) := z1r fun j hj => by
   have em : mi j m = m + 1 := by unfold mi; rw [if_neg (by omega)]
   rw [yl2 (m := m) (M := fun i k => M (i + 1) (mi j k)) (fun i hi => by rw [em]; exact h0 (i + 1) (by omega)) (by rw [em]; exact h1)]
  rw [e]; grind
def gM (m N : Nat) (M : Nat → Nat → Rat) (c : Nat → Rat) (i k : Nat) : Rat := if i < m then (if k < N then M i k else 0) else if k < N then -(c k) else 1
def gT (m N : Nat) (T : Nat → Nat → Rat) (r k : Nat) : Rat := if k < N then T r k else if r < m then 0 else 1
def gβ (m N : Nat) (β : Nat → Nat) (r : Nat) : Nat := if r < m then β r else N
theorem Tab.big {m n N : Nat} {M : Nat → Nat → Rat} {c : Nat → Rat} {β : Nat → Nat} {T : Nat → Nat → Rat} (h : Tab m n N M c β T) : Bas (m + 1) (N + 1) (gM m N M c) (fun i r => gM m N M c i (gβ m N β r)) (gT m N T) := by
 refine ⟨fun i hi k hk => ?_, ?_⟩
 ·rw [fs]
  have e : fs (fun r => gM m N M c i (gβ m N β r) * gT m N T r k) m = fs (fun r => gM m N M c i (β r) * gT m N T r k) m := z1r fun r hr => by
   show gM m N M c i (if r < m then β r else N) * _ = _
   rw [if_pos hr]
  have e0 : gβ m N β m = N := if_neg (Nat.lt_irrefl m)
  rw [e, e0]
  by_cases c1 : i < m
  ·have e1 : fs (fun r => gM m N M c i (β r) * gT m N T r k) m = fs (fun r => M i (β r) * gT m N T r k) m := z1r fun r hr => by
    unfold gM
    rw [if_pos c1, if_pos (h.lt r hr)]
   have e2 : gM m N M c i N = 0 := by unfold gM; rw [if_pos c1, if_neg (Nat.lt_irrefl N)]
   rw [e1, e2]
   by_cases c2 : k < N
   ·have e3 : fs (fun r => M i (β r) * gT m N T r k) m = fs (fun r => M i (β r) * T r k) m := z1r fun r _ => by unfold gT; rw [if_pos c2]
    have e4 : gM m N M c i k = M i k := by unfold gM; rw [if_pos c1, if_pos c2]
    rw [e3, h.bas.eq i c1 k c2, e4]; grind
   ·have e3 : fs (fun r => M i (β r) * gT m N T r k) m = fs (fun _ => 0) m := z1r fun r hr => by unfold gT; rw [if_neg c2, if_pos hr]; grind
    have e4 : gM m N M c i k = 0 := by unfold gM; rw [if_pos c1, if_neg c2]
    rw [e3, z43, e4]; grind
  ·have e1 : fs (fun r => gM m N M c i (β r) * gT m N T r k) m = fs (fun r => -(c (β r) * gT m N T r k)) m := z1r fun r hr => by
    unfold gM
    rw [if_neg c1, if_pos (h.lt r hr)]; grind
   have e2 : gM m N M c i N = 1 := by unfold gM; rw [if_neg c1, if_neg (Nat.lt_irrefl N)]
   rw [e1, e2, y8t]
   by_cases c2 : k < N
   ·have e3 : fs (fun r => c (β r) * gT m N T r k) m = fs (fun r => c (β r) * T r k) m := z1r fun r _ => by unfold gT; rw [if_pos c2]
    have e4 : gM m N M c i k = -(c k) := by unfold gM; rw [if_neg c1, if_pos c2]
    have e5 : gT m N T m k = T m k := by unfold gT; rw [if_pos c2]
    rw [e3, e4, e5, h.red c2]; grind
   ·have e3 : fs (fun r => c (β r) * gT m N T r k) m = fs (fun _ => 0) m := z1r fun r hr => by unfold gT; rw [if_neg c2, if_pos hr]; grind
    have e4 : gM m N M c i k = 1 := by unfold gM; rw [if_neg c1, if_neg c2]
    have e5 : gT m N T m k = 1 := by unfold gT; rw [if_neg c2, if_neg (Nat.lt_irrefl m)]
    rw [e3, z43, e4, e5]; grind
 ·have e0 : gβ m N β m = N := if_neg (Nat.lt_irrefl m)
  have z0 : ∀ i, i < m → gM m N M c i (gβ m N β m) = 0 := fun i hi => by
   rw [e0]
   unfold gM
   rw [if_pos hi, if_neg (Nat.lt_irrefl N)]
  have z1 : gM m N M c m (gβ m N β m) = 1 := by
   rw [e0]
   unfold gM
   rw [if_neg (Nat.lt_irrefl m), if_neg (Nat.lt_irrefl N)]
  rw [yl2 z0 z1]
  have e : det m (fun i r => gM m N M c i (gβ m N β r)) = det m fun i r => M i (β r) := y5a fun i hi r hr => by
   unfold gM gβ
   rw [if_pos hi, if_pos hr, if_pos (h.lt r hr)]
  rw [e]; exact h.bas.nz
theorem Tab.dr {m n N K : Nat} {M : Nat → Nat → Rat} {c : Nat → Rat} {β : Nat → Nat} {T : Nat → Nat → Rat} (h : Tab m n N M c β T) (hg : Good (m + 1) (N + 1) K (gM m N M c)) : ∀ r, r < m + 1 → ∀ k, k < N → Dr K (T r k) := fun r hr k hk => by
 have := (hg _ _ h.big fun q hq => .inl ⟨gβ m N β q, by
   unfold gβ
   split
   · have := h.lt q (by assumption); omega
   · omega, fun _ => rfl⟩).1 r hr k (by omega)
 unfold gT at this
 rwa [if_pos hk] at this
end Go.Proofs.YtcdcoeofhnfjdaaDoor
