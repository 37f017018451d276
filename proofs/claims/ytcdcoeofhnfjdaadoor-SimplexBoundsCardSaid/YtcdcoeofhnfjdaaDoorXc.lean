/- Matrices: transposed, applied, compared; small ones. -/
import Derived.Test.YtcdcoeofhnfjdaaDoorXb
namespace Go.Proofs.YtcdcoeofhnfjdaaDoor
open Go Vm
theorem y5x (f : Nat → Rat) (s : Rat) : ∀ n : Nat, fs (fun i => f i * s) n = fs f n * s
 | 0 => by simp only [fs]; grind
 | n + 1 => by rw [fs, fs, y5x f s n]; grind
theorem zk1 (f : Nat → Rat) (s : Rat) : ∀ n : Nat, fs (fun i => s * f i) n = s * fs f n
 | 0 => by simp only [fs]; grind
 | n + 1 => by rw [fs, fs, zk1 f s n]; grind
theorem z4d : ∀ n : Nat, fs (fun _ => 0) n = 0
 | 0 => rfl
 | n + 1 => by rw [fs, z4d n]; grind
theorem y5w (f : Nat → Nat → Rat) (m : Nat) : ∀ n : Nat, fs (fun i => fs (f i) m) n = fs (fun j => fs (fun i => f i j) n) m
 | 0 => by simp only [fs]; rw [z4d]
 | n + 1 => by
  rw [fs, y5w f m n, ← yd1]
  rfl
def Sm (n : Nat) (a : List (List ByteArray)) : Prop := a.length ≤ n ∧ ∀ k, k < a.length → (a.getD k []).length ≤ n ∧ ∀ x, x ∈ a.getD k [] → x.size ≤ 12
theorem ye3 {l : List (List (List ByteArray))} (hl : l.length ≤ 10) (hw : ∀ a, a ∈ l → WM a) (n : Nat) : ∀ (m i : Nat), i ≤ l.length → 2 ^ 60 < m + i → (∀ a, a ∈ l.take i → Sm n a) →
  ∃ r : Bool, (match z35 m l (l.length : Int) (i : Int) (n : Int) with
    | none => none
    | some (.exit _) => some true
    | some (.ret d) => some d.1) = some r ∧ (r = true → ∀ a, a ∈ l → Sm n a)
 | 0, i, h1, h2, _ => by omega
 | m + 1, i, h1, h2, h3 => by
  simp only [z35]
  by_cases hi : i < l.length
  ·have e4 : IntKind.i64.wrap ((i : Int) + 1) = ((i + 1 : Nat) : Int) := by rw [w64 _ (by omega) (by omega)]; omega
   have hmem : l.getD i [] ∈ l := by rw [z37 l i [] hi]; exact List.getElem_mem hi
   have ha := hw _ hmem
   have hla := ha.len
   rw [if_pos (by simpa using hi), if_pos (by omega), if_pos (by omega), Int.toNat_natCast, e4]
   by_cases c1 : (l.getD i []).length ≤ n
   ·rw [if_pos (by rw [decide_eq_false_iff_not]; omega)]
    rcases w95 ha n m 0 (by omega) (by omega) (fun k hk => by omega) with ⟨k, d, g⟩ | ⟨h, g⟩
    ·have g : z03 m (l.getD i []) ((l.getD i []).length : Int) 0 (n : Int) = _ := g
     rw [g]
     simp only
     rw [if_pos (decide_eq_true (show (k : Int) ≥ 0 by omega))]
     exact ⟨false, rfl, fun h => by cases h⟩
    ·have g : z03 m (l.getD i []) ((l.getD i []).length : Int) 0 (n : Int) = _ := g
     rw [g]
     simp only
     refine ye3 hl hw n m (i + 1) (by omega) (by omega) fun a hm => ?_
     rw [List.take_succ_eq_append_getElem hi, List.mem_append, List.mem_singleton] at hm
     rcases hm with hm | rfl
     ·exact h3 a hm
     ·rw [← z37 l i [] hi]; exact ⟨c1, h⟩
   ·rw [if_neg (by rw [decide_eq_false_iff_not]; omega)]
    exact ⟨false, rfl, fun h => by cases h⟩
  ·rw [if_neg (by simpa using hi)]
   rw [List.take_of_length_le (by omega)] at h3
   exact ⟨true, rfl, fun _ => h3⟩
theorem w36 {l : List (List (List ByteArray))} (hl : l.length ≤ 10) (hw : ∀ a, a ∈ l → WM a) (n : Nat) : ∃ r : Bool, z4a fuel (n : Int) l = some r ∧ (r = true → ∀ a, a ∈ l → Sm n a) := by
 have hf := z79 (n := 2 ^ 100) (by decide)
 obtain ⟨r, h1, h2⟩ := ye3 hl hw n fuel 0 (by omega) (by omega) (fun a ha => by simp at ha)
 unfold z4a
 exact ⟨r, h1, h2⟩
end Go.Proofs.YtcdcoeofhnfjdaaDoor
