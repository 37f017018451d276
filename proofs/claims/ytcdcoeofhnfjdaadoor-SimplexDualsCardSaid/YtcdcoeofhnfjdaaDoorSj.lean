/- The simplex method: what is checked, and the parts of Verify. -/
import Derived.Test.YtcdcoeofhnfjdaaDoorSg
namespace Go.Proofs.YtcdcoeofhnfjdaaDoor
open Go Vm
theorem y8a {rs : List Rat} (hl : rs.length ≤ 40) (ho : ∀ r, r ∈ rs → OkR r) : z2b fuel (rs.map rt) = some 0 := by
 unfold z2b
 rw [if_neg (by rw [decide_eq_true_eq, List.length_map]; omega), y89 _ (by omega) ho, Option.bind_some]
theorem yx4 {a : List (List ByteArray)} (ha : WM a) {b c : List ByteArray} (hb : b.length ≤ 4611686018427387904) (hbs : ∀ s, s ∈ b → s.size ≤ 900000000000000) (hc : c.length ≤ 4611686018427387904) (hcs : ∀ s, s ∈ c → s.size ≤ 900000000000000) :
  (∃ e : Int, e ≠ 0 ∧ z2c fuel (a, (b, c)) = some e) ∨
  (z2c fuel (a, (b, c)) = some 0 ∧ ∃ (bs cs : List Rat) (A : Nat → Nat → Rat), b = bs.map rt ∧ c = cs.map rt ∧ (∀ r, r ∈ bs → OkR r) ∧ (∀ r, r ∈ cs → OkR r) ∧ bs.length = a.length ∧ Txt a a.length cs.length A ∧ a.length ≤ 40 ∧ cs.length ≤ 40) := by
 unfold z2c
 dsimp only
 by_cases h1 : a.length ≤ 40
 ·rw [if_pos (by rw [decide_eq_false_iff_not]; omega)]
  by_cases h2 : c.length ≤ 40
  ·rw [if_neg (by rw [decide_eq_true_eq]; omega)]
   rcases yv8 ha with ⟨e, e0, g⟩ | ⟨g, _, _, M, hM⟩
   ·rw [g, Option.bind_some, if_pos (by simpa using e0)]
    exact .inl ⟨e, e0, rfl⟩
   ·rw [g, Option.bind_some, if_neg (by decide)]
    rcases zh1 b hb hbs with ⟨e, e0, g⟩ | ⟨g, b40, bs, rfl, hbo⟩
    ·rw [g, Option.bind_some, if_pos (by simpa using e0)]
     exact .inl ⟨e, e0, rfl⟩
    ·rw [g, Option.bind_some, if_neg (by decide)]
     rcases zh1 c hc hcs with ⟨e, e0, g⟩ | ⟨g, c40, cs, rfl, hco⟩
     ·rw [g, Option.bind_some, if_pos (by simpa using e0)]
      exact .inl ⟨e, e0, rfl⟩
     ·rw [g, Option.bind_some, if_neg (by decide)]
      rw [List.length_map, List.length_map]
      by_cases h3 : a.length = bs.length
      ·rw [if_pos (by rw [bne_eq_false_iff_eq]; omega)]
       by_cases h4 : 0 < a.length
       ·rw [if_pos (by rw [decide_eq_true_eq]; omega), y9l hM (by omega), Option.bind_some]
        by_cases h5 : (a.getD 0 []).length = cs.length
        ·rw [if_neg (by rw [bne_iff_ne]; omega)]
         exact .inr ⟨rfl, bs, cs, M, rfl, rfl, hbo, hco, h3.symm, by rw [← h5]; exact hM, h1, by rw [List.length_map] at h2; exact h2⟩
        ·rw [if_pos (by rw [bne_iff_ne]; omega)]
         exact .inl ⟨3, by decide, rfl⟩
       ·rw [if_neg (by rw [decide_eq_true_eq]; omega)]
        exact .inr ⟨rfl, bs, cs, M, rfl, rfl, hbo, hco, h3.symm, ⟨rfl, fun i hi => by omega⟩, h1, by rw [List.length_map] at h2; exact h2⟩
      ·rw [if_neg (by rw [bne_eq_false_iff_eq]; omega)]
       exact .inl ⟨3, by decide, rfl⟩
  ·rw [if_pos (by rw [decide_eq_true_eq]; omega)]
   exact .inl ⟨2, by decide, rfl⟩
 ·rw [if_neg (by rw [decide_eq_false_iff_not]; omega)]
  exact .inl ⟨2, by decide, rfl⟩
def RS (m : Nat) (B : Nat → Rat) (o : Option (List Qd)) : Prop := (∃ qs, o = some qs ∧ QF m B qs) ∨ (o = none ∧ ∀ i, i < m → B i = 0)
end Go.Proofs.YtcdcoeofhnfjdaaDoor
