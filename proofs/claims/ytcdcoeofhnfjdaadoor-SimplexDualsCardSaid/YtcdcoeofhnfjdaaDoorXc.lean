/- Matrices: transposed, applied, compared; small ones. -/
import Derived.Test.YtcdcoeofhnfjdaaDoorXb
namespace Go.Proofs.YtcdcoeofhnfjdaaDoor
open Go Vm
theorem w1c {a : List (List ByteArray)} {R C k : Nat} {M : Nat → Nat → Rat} (ha : Txt a R C M) (hR : R ≤ 100) (hk : k < C) : ∀ (m i : Nat), i ≤ R → R < m + i →
  z3e m (k : Int) a (R : Int) (i : Int) (((List.range i).map fun j => M j k).map rt) = some (.exit (((List.range R).map fun j => M j k).map rt, ()))
 | 0, i, h1, h2 => by omega
 | m + 1, i, h1, h2 => by
  have la := ha.1
  simp only [z3e]
  by_cases hi : i < R
  ·have e4 : IntKind.i64.wrap ((i : Int) + 1) = ((i + 1 : Nat) : Int) := by rw [w64 _ (by omega) (by omega)]; omega
   obtain ⟨r1, r2⟩ := ha.2 i hi
   have l1 : (a.getD i []).length = C := by rw [r1, List.length_map, List.length_map, List.length_range]
   have e5 : (a.getD i []).getD k ByteArray.empty = rt (M i k) := by
    rw [r1, z36 _ k _ (by rw [List.length_map, List.length_map, List.length_range]; exact hk), List.getElem_map, List.getElem_map, List.getElem_range]
   rw [if_pos (by simpa using hi), if_pos (by omega), if_pos (by omega), if_pos (by omega), Int.toNat_natCast, if_pos (by omega), if_pos (by rw [List.length_map, List.length_map, List.length_range]; omega), e4, Int.toNat_natCast, e5]
   have := w1c ha hR hk m (i + 1) (by omega) (by omega)
   rw [List.range_succ, List.map_append, List.map_append] at this
   exact this
  ·rw [if_neg (by simpa using hi)]
   have : i = R := by omega
   subst this
   rfl
theorem yq3 {a : List (List ByteArray)} {R C : Nat} {M : Nat → Nat → Rat} (ha : Txt a R C M) (hR : R ≤ 100) (hC : C ≤ 100) : ∀ (m k : Nat), k ≤ C → C + 200 < m + k →
  z3t m a (C : Int) (k : Int) (mt k R fun i j => M j i) = some (.exit (mt C R fun i j => M j i, ()))
 | 0, k, h1, h2 => by omega
 | m + 1, k, h1, h2 => by
  have la := ha.1
  simp only [z3t]
  by_cases hk : k < C
  ·have e4 : IntKind.i64.wrap ((k : Int) + 1) = ((k + 1 : Nat) : Int) := by rw [w64 _ (by omega) (by omega)]; omega
   have g := w1c ha hR hk m 0 (by omega) (by omega)
   have g : z3e m (k : Int) a (a.length : Int) 0 [] = some (.exit (((List.range R).map fun j => M j k).map rt, ())) := by rw [la]; exact g
   rw [if_pos (by simpa using hk), g]
   simp only
   rw [if_pos (by rw [zr6]; omega), e4]
   have := yq3 ha hR hC m (k + 1) (by omega) (by omega)
   have e : mt (k + 1) R (fun i j => M j i) = mt k R (fun i j => M j i) ++ [((List.range R).map fun j => M j k).map rt] := by unfold mt; rw [List.range_succ, List.map_append]; rfl
   rw [e] at this
   exact this
  ·rw [if_neg (by simpa using hk)]
   have : k = C := by omega
   subst this
   rfl
theorem w7u {a : List (List ByteArray)} {R C : Nat} {M : Nat → Nat → Rat} (ha : Txt a R C M) (hR : R ≤ 40) (hC : C ≤ 40) (h0 : R = 0 → C = 0) : z6q fuel a = some (mt C R fun i j => M j i, 0) := by
 have hf := z82 (n := 2 ^ 100) (by decide)
 have g := yq3 ha (by omega) (by omega) fuel 0 (by omega) (by omega)
 have g : z3t fuel a (C : Int) 0 [] = _ := g
 unfold z6q
 rw [yn2 ha hR hC, Option.bind_some, if_neg (by decide), y9l ha h0, Option.bind_some, g]
theorem y5h (f : Nat → Rat) (s : Rat) : ∀ n : Nat, fs (fun i => f i * s) n = fs f n * s
 | 0 => by simp only [fs]; grind
 | n + 1 => by rw [fs, fs, y5h f s n]; grind
theorem zk1 (f : Nat → Rat) (s : Rat) : ∀ n : Nat, fs (fun i => s * f i) n = s * fs f n
 | 0 => by simp only [fs]; grind
 | n + 1 => by rw [fs, fs, zk1 f s n]; grind
theorem z43 : ∀ n : Nat, fs (fun _ => 0) n = 0
 | 0 => rfl
 | n + 1 => by rw [fs, z43 n]; grind
theorem y5g (f : Nat → Nat → Rat) (m : Nat) : ∀ n : Nat, fs (fun i => fs (f i) m) n = fs (fun j => fs (fun i => f i j) n) m
 | 0 => by simp only [fs]; rw [z43]
 | n + 1 => by
  rw [fs, y5g f m n, ← yb9]
  rfl
def Sm (n : Nat) (a : List (List ByteArray)) : Prop := a.length ≤ n ∧ ∀ k, k < a.length → (a.getD k []).length ≤ n ∧ ∀ x, x ∈ a.getD k [] → x.size ≤ 12
theorem yd0 {l : List (List (List ByteArray))} (hl : l.length ≤ 10) (hw : ∀ a, a ∈ l → WM a) (n : Nat) : ∀ (m i : Nat), i ≤ l.length → 2 ^ 60 < m + i → (∀ a, a ∈ l.take i → Sm n a) →
  ∃ r : Bool, (match z37 m l (l.length : Int) (i : Int) (n : Int) with
    | none => none
    | some (.exit _) => some true
    | some (.ret d) => some d.1) = some r ∧ (r = true → ∀ a, a ∈ l → Sm n a)
 | 0, i, h1, h2, _ => by omega
 | m + 1, i, h1, h2, h3 => by
  simp only [z37]
  by_cases hi : i < l.length
  ·have e4 : IntKind.i64.wrap ((i : Int) + 1) = ((i + 1 : Nat) : Int) := by rw [w64 _ (by omega) (by omega)]; omega
   have hmem : l.getD i [] ∈ l := by rw [z36 l i [] hi]; exact List.getElem_mem hi
   have ha := hw _ hmem
   have hla := ha.len
   rw [if_pos (by simpa using hi), if_pos (by omega), if_pos (by omega), Int.toNat_natCast, e4]
   by_cases c1 : (l.getD i []).length ≤ n
   ·rw [if_pos (by rw [decide_eq_false_iff_not]; omega)]
    rcases w8q ha n m 0 (by omega) (by omega) (fun k hk => by omega) with ⟨k, d, g⟩ | ⟨h, g⟩
    ·have g : z03 m (l.getD i []) ((l.getD i []).length : Int) 0 (n : Int) = _ := g
     rw [g]
     simp only
     rw [if_pos (decide_eq_true (show (k : Int) ≥ 0 by omega))]
     exact ⟨false, rfl, fun h => by cases h⟩
    ·have g : z03 m (l.getD i []) ((l.getD i []).length : Int) 0 (n : Int) = _ := g
     rw [g]
     simp only
     refine yd0 hl hw n m (i + 1) (by omega) (by omega) fun a hm => ?_
     rw [List.take_succ_eq_append_getElem hi, List.mem_append, List.mem_singleton] at hm
     rcases hm with hm | rfl
     ·exact h3 a hm
     ·rw [← z36 l i [] hi]; exact ⟨c1, h⟩
   ·rw [if_neg (by rw [decide_eq_false_iff_not]; omega)]
    exact ⟨false, rfl, fun h => by cases h⟩
  ·rw [if_neg (by simpa using hi)]
   rw [List.take_of_length_le (by omega)] at h3
   exact ⟨true, rfl, fun _ => h3⟩
theorem w2n {l : List (List (List ByteArray))} (hl : l.length ≤ 10) (hw : ∀ a, a ∈ l → WM a) (n : Nat) : ∃ r : Bool, z4a fuel (n : Int) l = some r ∧ (r = true → ∀ a, a ∈ l → Sm n a) := by
 have hf := z82 (n := 2 ^ 100) (by decide)
 obtain ⟨r, h1, h2⟩ := yd0 hl hw n fuel 0 (by omega) (by omega) (fun a ha => by simp at ha)
 unfold z4a
 exact ⟨r, h1, h2⟩
end Go.Proofs.YtcdcoeofhnfjdaaDoor
