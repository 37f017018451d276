/- Numbers whose texts may be: what Check, Read and Of make of them. -/
import Derived.Test.YtcdcoeofhnfjdaaDoorNf
import Derived.Test.YtcdcoeofhnfjdaaDoorVmD
namespace Go.Proofs.YtcdcoeofhnfjdaaDoor
open Go Vm
def Ok (n : Nat) : Prop := (dig n).length ≤ 2000
instance (n : Nat) : Decidable (Ok n) := inferInstanceAs (Decidable ((dig n).length ≤ 2000))
theorem w8e {n k : Nat} (h : (dig n).length ≤ 9 * k) (hk : k ≤ 4194304) : Sz n := Nat.le_trans (w3j h) hk
theorem w57 {n : Nat} (h : Ok n) : Sz n := w8e (k := 223) (by unfold Ok at h; omega) (by decide)
theorem w7f {n k : Nat} (h : n < 10 ^ k) (h1 : 1 ≤ k) (hk : k ≤ 2000) : Ok n := Nat.le_trans ((z44 n k h1).2 h) hk
theorem yk4 {n : Nat} (h : Ok n) : z61 fuel (txt n) = some 0 := by
 unfold Ok at h
 rw [w6j n (by omega), if_pos h]
theorem y19 {n : Nat} (h : Ok n) : z3s fuel (txt n) = some (zs (cn n)) := wa6 n (by unfold Ok at h; omega)
theorem ne0 {e : Int} (h : e ≠ 0) : (e != 0) = true := by simpa using h
theorem sz8 {n : Nat} (h : Sz n) : (cn n).length ≤ 8388608 := by unfold Sz at h; omega
theorem y1c : (⟨#[48]⟩ : ByteArray) = txt 0 := by
 have : dt 0 = [48] := by simp [dt, dig]
 unfold txt
 rw [this]
 rfl
theorem ze7 {n k : Nat} (h : n < 10 ^ k) (hk : k ≤ 37000001) : Sz n := by
 have h1 : n < 10 ^ (k + 1) := Nat.lt_of_lt_of_le h (Nat.pow_le_pow_right (by decide) (by omega))
 have h2 := (z44 n (k + 1) (by omega)).2 h1
 exact w8e (k := 4194304) (by omega) (Nat.le_refl _)
theorem w56 : ∀ (m n : Nat) (out : List Nat), n < 9223372036854775808 → (cn n).length < m → out.length + (cn n).length ≤ 10000000 →
  zi0 m (n : Int) (zs out) = some (.exit (zs (out ++ cn n), ()))
 | 0, n, out, h1, h2, h3 => by omega
 | m + 1, n, out, h1, h2, h3 => by
  simp only [zi0]
  by_cases h0 : n = 0
  ·subst h0
   rw [if_neg (by decide), z4p, List.append_nil]
  ·rw [y1t h0, List.length_cons] at h2 h3
   rw [if_pos (by simp; omega), z1f, if_pos (by omega), yp9, yq1, i64n (by omega), u32n (by omega), y0y, w56 m (n / 1000000000) (out ++ [n % 1000000000]) (by omega) (by omega) (by simp; omega), y1t h0, List.append_assoc]
   rfl
theorem wj1 {n : Nat} (h : n < 9223372036854775808) : z5u fuel (n : Int) = some (zs (cn n)) := by
 unfold z5u
 have hf := zr1
 have hl : (cn n).length ≤ 19 := w6l (k := 19) (Nat.lt_of_lt_of_le h (by decide))
 have := w56 fuel n [] h (by omega) (by simp; omega)
 have : zi0 fuel (n : Int) [] = _ := this
 rw [this]
 rfl
theorem of_one : z5u fuel 1 = some (zs (cn 1)) := wj1 (n := 1) (by decide)
end Go.Proofs.YtcdcoeofhnfjdaaDoor
