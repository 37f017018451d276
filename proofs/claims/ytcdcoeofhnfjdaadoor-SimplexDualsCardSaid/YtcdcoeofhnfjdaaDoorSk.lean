/- The simplex method: Verify. -/
import Derived.Test.YtcdcoeofhnfjdaaDoorSj
namespace Go.Proofs.YtcdcoeofhnfjdaaDoor
open Go Vm
structure Prob (m n : Nat) (A : Nat → Nat → Rat) (b c : Nat → Rat) (a : List (List ByteArray)) (bs cs : List Rat) : Prop where
 hm : m ≤ 40
 hn : n ≤ 40
 ha : Txt a m n A
 bl : bs.length = m
 cl : cs.length = n
 bo : ∀ r, r ∈ bs → OkR r
 co : ∀ r, r ∈ cs → OkR r
 eb : b = fun j => bs.getD j 0
 ec : c = fun j => cs.getD j 0
 ck : z2c fuel (a, (bs.map rt, cs.map rt)) = some 0
theorem w58 {rs : List Rat} (ho : ∀ r, r ∈ rs → OkR r) {i : Nat} (hi : i < rs.length) : OkR (rs.getD i 0) := ho _ (by rw [z36 rs i 0 hi]; exact List.getElem_mem _)
section
variable {m n : Nat} {A : Nat → Nat → Rat} {b c : Nat → Rat} {a : List (List ByteArray)} {bs cs : List Rat}
theorem Prob.dA (h : Prob m n A b c a bs cs) : ∀ i, i < m → ∀ k, k < n → Dr 2000 (A i k) := fun i hi k hk => w0r ((h.ha.2 i hi).2 k hk)
theorem Prob.db (h : Prob m n A b c a bs cs) : ∀ i, i < m → Dr 2000 (b i) := fun i hi => by rw [h.eb]; exact w0r (w58 h.bo (by rw [h.bl]; exact hi))
theorem Prob.dc (h : Prob m n A b c a bs cs) : ∀ i, i < n → Dr 2000 (c i) := fun i hi => by rw [h.ec]; exact w0r (w58 h.co (by rw [h.cl]; exact hi))
theorem Prob.rows (h : Prob m n A b c a bs cs) : ∃ g qb qc, za1 fuel a = some g ∧ QG m n A g ∧ z31 fuel (bs.map rt) = some qb ∧ QF m b qb ∧ z31 fuel (cs.map rt) = some qc ∧ QF n c qc := by
 have := h.hm
 have := h.hn
 have e1 := h.bl
 have e2 := h.cl
 obtain ⟨g, g1, g2⟩ := w89 h.ha (by omega) (by omega)
 obtain ⟨qb, b1, b2⟩ := yo7 bs (by omega) h.bo
 obtain ⟨qc, c1, c2⟩ := yo7 cs (by omega) h.co
 have b2 := QF.of b2
 have c2 := QF.of c2
 rw [e1] at b2
 rw [e2] at c2
 exact ⟨g, qb, qc, g1, g2, b1, by rw [h.eb]; exact b2, c1, by rw [h.ec]; exact c2⟩
end
end Go.Proofs.YtcdcoeofhnfjdaaDoor
