/- Numbers whose texts may be: what Check, Read and Of make of them. -/
import Derived.Test.YtcdcoeofhnfjdaaDoorNf
import Derived.Test.YtcdcoeofhnfjdaaDoorVmD
namespace Go.Proofs.YtcdcoeofhnfjdaaDoor
open Go Vm
def Ok (n : Nat) : Prop := (dig n).length ≤ 2000
instance (n : Nat) : Decidable (Ok n) := inferInstanceAs (Decidable ((dig n).length ≤ 2000))
theorem w8t {n k : Nat} (h : (dig n).length ≤ 9 * k) (hk : k ≤ 4194304) : Sz n := Nat.le_trans (w41 h) hk
theorem w5p {n : Nat} (h : Ok n) : Sz n := w8t (k := 223) (by unfold Ok at h; omega) (by decide)
theorem w7v {n k : Nat} (h : n < 10 ^ k) (h1 : 1 ≤ k) (hk : k ≤ 2000) : Ok n := Nat.le_trans ((z42 n k h1).2 h) hk
theorem ym1 {n : Nat} (h : Ok n) : z68 fuel (txt n) = some 0 := by
 unfold Ok at h
 rw [w6z n (by omega), if_pos h]
theorem y1e {n : Nat} (h : Ok n) : z3r fuel (txt n) = some (zs (cn n)) := wb9 n (by unfold Ok at h; omega)
theorem ne0 {e : Int} (h : e ≠ 0) : (e != 0) = true := by simpa using h
theorem sz8 {n : Nat} (h : Sz n) : (cn n).length ≤ 8388608 := by unfold Sz at h; omega
theorem y1h : (⟨#[48]⟩ : ByteArray) = txt 0 := by
 have : dt 0 = [48] := by simp [dt, dig]
 unfold txt
 rw [this]
 rfl
theorem ze5 {n k : Nat} (h : n < 10 ^ k) (hk : k ≤ 37000001) : Sz n := by
 have h1 : n < 10 ^ (k + 1) := Nat.lt_of_lt_of_le h (Nat.pow_le_pow_right (by decide) (by omega))
 have h2 := (z42 n (k + 1) (by omega)).2 h1
 exact w8t (k := 4194304) (by omega) (Nat.le_refl _)
theorem w5o : ∀ (m n : Nat) (out : List Nat), n < 9223372036854775808 → (cn n).length < m → out.length + (cn n).length ≤ 10000000 →
  zh8 m (n : Int) (zs out) = some (.exit (zs (out ++ cn n), ()))
 | 0, n, out, h1, h2, h3 => by omega
 | m + 1, n, out, h1, h2, h3 => by
  simp only [zh8]
  by_cases h0 : n = 0
  ·subst h0
   rw [if_neg (by decide), z4u, List.append_nil]
  ·rw [y20 h0, List.length_cons] at h2 h3
   rw [if_pos (by simp; omega), z1i, if_pos (by omega), yr5, yr7, i64n (by omega), u32n (by omega), y10, w5o m (n / 1000000000) (out ++ [n % 1000000000]) (by omega) (by omega) (by simp; omega), y20 h0, List.append_assoc]
   rfl
theorem wk5 {n : Nat} (h : n < 9223372036854775808) : z65 fuel (n : Int) = some (zs (cn n)) := by
 unfold z65
 have hf := zr2
 have hl : (cn n).length ≤ 19 := w71 (k := 19) (Nat.lt_of_lt_of_le h (by decide))
 have := w5o fuel n [] h (by omega) (by simp; omega)
 have : zh8 fuel (n : Int) [] = _ := this
 rw [this]
 rfl
theorem of_one : z65 fuel 1 = some (zs (cn 1)) := wk5 (n := 1) (by decide)
end Go.Proofs.YtcdcoeofhnfjdaaDoor
