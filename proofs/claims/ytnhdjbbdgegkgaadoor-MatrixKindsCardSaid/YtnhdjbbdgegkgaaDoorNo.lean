/- Numbers whose texts may be: what Check, Read and Of make of them. -/
import Derived.Test.YtnhdjbbdgegkgaaDoorNf
import Derived.Test.YtnhdjbbdgegkgaaDoorVmD
namespace Go.Proofs.YtnhdjbbdgegkgaaDoor
open Go Vm
def Ok (n : Nat) : Prop := (dig n).length ≤ 2000
instance (n : Nat) : Decidable (Ok n) := inferInstanceAs (Decidable ((dig n).length ≤ 2000))
theorem len_of {n k : Nat} (h : (dig n).length ≤ 9 * k) (hk : k ≤ 4194304) : Sz n := Nat.le_trans (cn_of_dig h) hk
theorem ok_sz {n : Nat} (h : Ok n) : Sz n := len_of (k := 223) (by unfold Ok at h; omega) (by decide)
theorem ok_lt {n k : Nat} (h : n < 10 ^ k) (h1 : 1 ≤ k) (hk : k ≤ 2000) : Ok n := Nat.le_trans ((dig_length n k h1).2 h) hk
theorem check_txt {n : Nat} (h : Ok n) : f_nat_Check fuel (txt n) = some 0 := by
 unfold Ok at h
 rw [check_ok n (by omega), if_pos h]
theorem read_txt {n : Nat} (h : Ok n) : f_nat_Read fuel (txt n) = some (zs (cn n)) := read_ok n (by unfold Ok at h; omega)
theorem ne0 {e : Int} (h : e ≠ 0) : (e != 0) = true := by simpa using h
theorem sz8 {n : Nat} (h : Sz n) : (cn n).length ≤ 8388608 := by unfold Sz at h; omega
theorem txt_zero : (⟨#[48]⟩ : ByteArray) = txt 0 := by
 have : dt 0 = [48] := by simp [dt, dig]
 unfold txt
 rw [this]
 rfl
theorem sz_lt {n k : Nat} (h : n < 10 ^ k) (hk : k ≤ 37000001) : Sz n := by
 have h1 : n < 10 ^ (k + 1) := Nat.lt_of_lt_of_le h (Nat.pow_le_pow_right (by decide) (by omega))
 have h2 := (dig_length n (k + 1) (by omega)).2 h1
 exact len_of (k := 4194304) (by omega) (Nat.le_refl _)
theorem of_loop : ∀ (m n : Nat) (out : List Nat), n < 9223372036854775808 → (cn n).length < m → out.length + (cn n).length ≤ 10000000 →
  l_nat_Of_2 m (n : Int) (zs out) = some (.exit (zs (out ++ cn n), ()))
 | 0, n, out, h1, h2, h3 => by omega
 | m + 1, n, out, h1, h2, h3 => by
  simp only [l_nat_Of_2]
  by_cases h0 : n = 0
  ·subst h0
   rw [if_neg (by decide), cn_zero, List.append_nil]
  ·rw [cn_pos h0, List.length_cons] at h2 h3
   rw [if_pos (by simp; omega), length_zs, if_pos (by omega), tdivB, tmodB, i64n (by omega), u32n (by omega), zs_snoc, of_loop m (n / 1000000000) (out ++ [n % 1000000000]) (by omega) (by omega) (by simp; omega), cn_pos h0, List.append_assoc]
   rfl
theorem of_ok {n : Nat} (h : n < 9223372036854775808) : f_nat_Of fuel (n : Int) = some (zs (cn n)) := by
 unfold f_nat_Of
 have hf := fuel40
 have hl : (cn n).length ≤ 19 := cn_of_lt (k := 19) (Nat.lt_of_lt_of_le h (by decide))
 have := of_loop fuel n [] h (by omega) (by simp; omega)
 have : l_nat_Of_2 fuel (n : Int) [] = _ := this
 rw [this]
 rfl
theorem of_one : f_nat_Of fuel 1 = some (zs (cn 1)) := of_ok (n := 1) (by decide)
end Go.Proofs.YtnhdjbbdgegkgaaDoor
