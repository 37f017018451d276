/- Matrices: transposed, applied, compared; small ones. -/
import Derived.Test.YtcdcoeofhnfjdaaDoorXb
namespace Go.Proofs.YtcdcoeofhnfjdaaDoor
open Go Vm
theorem w0v (x : ByteArray) : (!(x.toList == x.toList)) = false := by simp
theorem y7q (f : Nat → Rat) (s : Rat) : ∀ n : Nat, fs (fun i => f i * s) n = fs f n * s
 | 0 => by simp only [fs]; grind
 | n + 1 => by rw [fs, fs, y7q f s n]; grind
theorem zk5 (f : Nat → Rat) (s : Rat) : ∀ n : Nat, fs (fun i => s * f i) n = s * fs f n
 | 0 => by simp only [fs]; grind
 | n + 1 => by rw [fs, fs, zk5 f s n]; grind
theorem z4i : ∀ n : Nat, fs (fun _ => 0) n = 0
 | 0 => rfl
 | n + 1 => by rw [fs, z4i n]; grind
theorem y7p (f : Nat → Nat → Rat) (m : Nat) : ∀ n : Nat, fs (fun i => fs (f i) m) n = fs (fun j => fs (fun i => f i j) n) m
 | 0 => by simp only [fs]; rw [z4i]
 | n + 1 => by
  rw [fs, y7p f m n, ← y9d]
  rfl
def Sm (n : Nat) (a : List (List ByteArray)) : Prop := a.length ≤ n ∧ ∀ k, k < a.length → (a.getD k []).length ≤ n ∧ ∀ x, x ∈ a.getD k [] → x.size ≤ 12
theorem y9r {l : List (List (List ByteArray))} (hl : l.length ≤ 10) (hw : ∀ a, a ∈ l → WM a) (n : Nat) : ∀ (m i : Nat), i ≤ l.length → 2 ^ 60 < m + i → (∀ a, a ∈ l.take i → Sm n a) →
  ∃ r : Bool, (match z2y m l (l.length : Int) (i : Int) (n : Int) with
    | none => none
    | some (.exit _) => some true
    | some (.ret d) => some d.1) = some r ∧ (r = true → ∀ a, a ∈ l → Sm n a)
 | 0, i, h1, h2, _ => by omega
 | m + 1, i, h1, h2, h3 => by
  simp only [z2y]
  by_cases hi : i < l.length
  ·have e4 : IntKind.i64.wrap ((i : Int) + 1) = ((i + 1 : Nat) : Int) := by rw [w64 _ (by omega) (by omega)]; omega
   have hmem : l.getD i [] ∈ l := by rw [z33 l i [] hi]; exact List.getElem_mem hi
   have ha := hw _ hmem
   have hla := ha.len
   rw [if_pos (by simpa using hi), if_pos (by omega), if_pos (by omega), Int.toNat_natCast, e4]
   by_cases c1 : (l.getD i []).length ≤ n
   ·rw [if_pos (by rw [decide_eq_false_iff_not]; omega)]
    rcases w7v ha n m 0 (by omega) (by omega) (fun k hk => by omega) with ⟨k, d, g⟩ | ⟨h, g⟩
    ·have g : z03 m (l.getD i []) ((l.getD i []).length : Int) 0 (n : Int) = _ := g
     rw [g]
     simp only
     rw [if_pos (decide_eq_true (show (k : Int) ≥ 0 by omega))]
     exact ⟨false, rfl, fun h => by cases h⟩
    ·have g : z03 m (l.getD i []) ((l.getD i []).length : Int) 0 (n : Int) = _ := g
     rw [g]
     simp only
     refine y9r hl hw n m (i + 1) (by omega) (by omega) fun a hm => ?_
     rw [List.take_succ_eq_append_getElem hi, List.mem_append, List.mem_singleton] at hm
     rcases hm with hm | rfl
     ·exact h3 a hm
     ·rw [← z33 l i [] hi]; exact ⟨c1, h⟩
   ·rw [if_neg (by rw [decide_eq_false_iff_not]; omega)]
    exact ⟨false, rfl, fun h => by cases h⟩
  ·rw [if_neg (by simpa using hi)]
   rw [List.take_of_length_le (by omega)] at h3
   exact ⟨true, rfl, fun _ => h3⟩
theorem w1t {l : List (List (List ByteArray))} (hl : l.length ≤ 10) (hw : ∀ a, a ∈ l → WM a) (n : Nat) : ∃ r : Bool, z43 fuel (n : Int) l = some r ∧ (r = true → ∀ a, a ∈ l → Sm n a) := by
 have hf := z70 (n := 2 ^ 100) (by decide)
 obtain ⟨r, h1, h2⟩ := y9r hl hw n fuel 0 (by omega) (by omega) (fun a ha => by simp at ha)
 unfold z43
 exact ⟨r, h1, h2⟩
end Go.Proofs.YtcdcoeofhnfjdaaDoor
