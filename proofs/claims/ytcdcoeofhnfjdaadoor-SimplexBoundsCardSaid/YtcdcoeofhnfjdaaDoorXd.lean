/- The plain laws of MatrixTurns and MatrixRing. -/
import Derived.Test.YtcdcoeofhnfjdaaDoorXc
namespace Go.Proofs.YtcdcoeofhnfjdaaDoor
open Go Vm
theorem y5k {R n : Nat} (hR : R ≤ 100) (hn : n ≤ 40) {M : Nat → Nat → Rat} {V : Nat → Rat} {g : List (List Qd)} {x : List Qd} (hg : QG R n M g) (hx : QF n V x) (hM : ∀ i, i < R → ∀ j, j < n → Dr 2000 (M i j)) (hV : ∀ j, j < n → Dr 2000 (V j)) :
  ∀ (m i : Nat) (out : List Qd), i ≤ R → R < m + i → QF i (fun i => fs (fun j => M i j * V j) n) out → ∃ out', z3g m x (R : Int) (i : Int) out g = some (.exit (out', g, ())) ∧ QF R (fun i => fs (fun j => M i j * V j) n) out'
 | 0, i, out, h1, h2, _ => by omega
 | m + 1, i, out, h1, h2, ho => by
  have lg := hg.1
  have lo := ho.1
  simp only [z3g]
  by_cases hi : i < R
  ·have e4 : IntKind.i64.wrap ((i : Int) + 1) = ((i + 1 : Nat) : Int) := by rw [w64 _ (by omega) (by omega)]; omega
   obtain ⟨q, h3, h4⟩ := yd8 hn (hg.2 i hi) hx (hM i hi) hV
   rw [if_pos (by simpa using hi), if_pos (by omega), if_pos (by omega), Int.toNat_natCast, h3, Option.bind_some, if_pos (by omega), e4]
   exact y5k hR hn hg hx hM hV m (i + 1) _ (by omega) (by omega) (ho.snoc h4)
  ·rw [if_neg (by simpa using hi)]
   have : i = R := by omega
   subst this
   exact ⟨out, rfl, ho⟩
theorem w6v {a : List (List ByteArray)} {R n : Nat} {M : Nat → Nat → Rat} (ha : Txt a R n M) (hR : R ≤ 40) (hn : n ≤ 40) (h0 : 0 < R) {vs : List Rat} (hv : vs.length = n) (hvo : ∀ r, r ∈ vs → OkR r) :
  ((∃ i, i < R ∧ ¬ OkR (fs (fun j => M i j * vs.getD j 0) n)) ∧ ∃ e : Int, e ≠ 0 ∧ z52 fuel a (vs.map rt) = some ([], e)) ∨
  ((∀ i, i < R → OkR (fs (fun j => M i j * vs.getD j 0) n)) ∧ z52 fuel a (vs.map rt) = some (((List.range R).map fun i => fs (fun j => M i j * vs.getD j 0) n).map rt, 0)) := by
 have hf := z79 (n := 2 ^ 100) (by decide)
 have hM : ∀ i, i < R → ∀ j, j < n → Dr 2000 (M i j) := fun i hi j hj => y2n ((ha.2 i hi).2 j hj)
 have hV : ∀ j, j < n → Dr 2000 (vs.getD j 0) := fun j hj => y2n (hvo _ (by rw [z37 vs j 0 (by omega)]; exact List.getElem_mem _))
 obtain ⟨qs, r1, r2⟩ := y54 vs (by omega) hvo
 have r3 := QF.of r2
 rw [hv] at r3
 obtain ⟨g, g1, g2⟩ := w0w ha (by omega) (by omega)
 obtain ⟨out, o1, o2⟩ := y5k (by omega) hn g2 r3 hM hV fuel 0 [] (by omega) (by omega) ⟨rfl, fun i hi => by omega⟩
 have o1 : z3g fuel qs (R : Int) 0 [] g = _ := o1
 have hcv : z15 fuel (vs.map rt) = some 0 := by
  unfold z15
  rw [if_neg (by rw [decide_eq_true_eq, List.length_map]; omega), zu0 _ (by omega) hvo, Option.bind_some]
 unfold z52
 rw [yo9 ha hR hn, Option.bind_some, if_neg (by decide), hcv, Option.bind_some, if_neg (by decide), ys2 ha (by omega), Option.bind_some, if_neg (by rw [bne_iff_ne, List.length_map, hv]; simp), r1, Option.bind_some, g1, Option.bind_some, g2.1, o1]
 simp only
 have hl : ((List.range R).map fun i => fs (fun j => M i j * vs.getD j 0) n).length = R := by rw [List.length_map, List.length_range]
 rcases w1a o2.list (K := 170000) (by omega) (by omega) (fun i hi => by
     rw [hl] at hi
     rw [zb4 hi]
     exact wk6 (B := fun j _ => vs.getD j 0) (K := 1) hn hM (fun j hj _ _ => hV j hj) i hi 0 (by decide)) with ⟨⟨i, hi, hn'⟩, e, e0, g3⟩ | ⟨hok, g3⟩
 ·rw [hl] at hi
  rw [zb4 hi] at hn'
  rw [g3]; exact .inl ⟨⟨i, hi, hn'⟩, e, e0, rfl⟩
 ·rw [g3]
  refine .inr ⟨fun i hi => ?_, rfl⟩
  have := hok i (by rw [hl]; exact hi)
  rw [zb4 hi] at this
  exact this
end Go.Proofs.YtcdcoeofhnfjdaaDoor
