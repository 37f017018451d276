/- The simplex method: what is checked, and the parts of Verify. -/
import Derived.Test.YtcdcoeofhnfjdaaDoorSg
namespace Go.Proofs.YtcdcoeofhnfjdaaDoor
open Go Vm
theorem y77 {rs : List Rat} (hl : rs.length ≤ 40) (ho : ∀ r, r ∈ rs → OkR r) : z17 fuel (rs.map rt) = some 0 := by
 unfold z17
 rw [if_neg (by rw [decide_eq_true_eq, List.length_map]; omega), yp4 _ (by omega) ho, Option.bind_some]
theorem yu2 {a : List (List ByteArray)} (ha : WM a) {b c : List ByteArray} (hb : b.length ≤ 4611686018427387904) (hbs : ∀ s, s ∈ b → s.size ≤ 900000000000000) (hc : c.length ≤ 4611686018427387904) (hcs : ∀ s, s ∈ c → s.size ≤ 900000000000000) :
  (∃ e : Int, e ≠ 0 ∧ z2t fuel (a, (b, c)) = some e) ∨
  (z2t fuel (a, (b, c)) = some 0 ∧ ∃ (bs cs : List Rat) (A : Nat → Nat → Rat), b = bs.map rt ∧ c = cs.map rt ∧ (∀ r, r ∈ bs → OkR r) ∧ (∀ r, r ∈ cs → OkR r) ∧ bs.length = a.length ∧ Txt a a.length cs.length A ∧ a.length ≤ 40 ∧ cs.length ≤ 40) := by
 unfold z2t
 dsimp only
 by_cases h1 : a.length ≤ 40
 ·rw [if_pos (by rw [decide_eq_false_iff_not]; omega)]
  by_cases h2 : c.length ≤ 40
  ·rw [if_neg (by rw [decide_eq_true_eq]; omega)]
   rcases ys4 ha with ⟨e, e0, g⟩ | ⟨g, _, _, M, hM⟩
   ·rw [g, Option.bind_some, if_pos (by simpa using e0)]
    exact .inl ⟨e, e0, rfl⟩
   ·rw [g, Option.bind_some, if_neg (by decide)]
    rcases zp9 b hb hbs with ⟨e, e0, g⟩ | ⟨g, b40, bs, rfl, hbo⟩
    ·rw [g, Option.bind_some, if_pos (by simpa using e0)]
     exact .inl ⟨e, e0, rfl⟩
    ·rw [g, Option.bind_some, if_neg (by decide)]
     rcases zp9 c hc hcs with ⟨e, e0, g⟩ | ⟨g, c40, cs, rfl, hco⟩
     ·rw [g, Option.bind_some, if_pos (by simpa using e0)]
      exact .inl ⟨e, e0, rfl⟩
     ·rw [g, Option.bind_some, if_neg (by decide)]
      rw [List.length_map, List.length_map]
      by_cases h3 : a.length = bs.length
      ·rw [if_pos (by rw [bne_eq_false_iff_eq]; omega)]
       by_cases h4 : 0 < a.length
       ·rw [if_pos (by rw [decide_eq_true_eq]; omega), w5c hM (by omega), Option.bind_some]
        by_cases h5 : (a.getD 0 []).length = cs.length
        ·rw [if_neg (by rw [bne_iff_ne]; omega)]
         exact .inr ⟨rfl, bs, cs, M, rfl, rfl, hbo, hco, h3.symm, by rw [← h5]; exact hM, h1, by rw [List.length_map] at h2; exact h2⟩
        ·rw [if_pos (by rw [bne_iff_ne]; omega)]
         exact .inl ⟨3, by decide, rfl⟩
       ·rw [if_neg (by rw [decide_eq_true_eq]; omega)]
        exact .inr ⟨rfl, bs, cs, M, rfl, rfl, hbo, hco, h3.symm, ⟨rfl, fun i hi => by omega⟩, h1, by rw [List.length_map] at h2; exact h2⟩
      ·rw [if_neg (by rw [bne_eq_false_iff_eq]; omega)]
       exact .inl ⟨3, by decide, rfl⟩
  ·rw [if_pos (by rw [decide_eq_true_eq]; omega)]
   exact .inl ⟨2, by decide, rfl⟩
 ·rw [if_neg (by rw [decide_eq_false_iff_not]; omega)]
  exact .inl ⟨2, by decide, rfl⟩
theorem y3p {n : Nat} (hn : n ≤ 1000) {f : Nat → Rat} {qs : List Qd} (hq : QF n f qs) : ∀ (m i : Nat), i ≤ n → n < m + i → (∀ j, j < i → 0 ≤ f j) →
  (z2p m qs (n : Int) (i : Int) = some (.exit ()) ∧ ∀ j, j < n → 0 ≤ f j) ∨ (z2p m qs (n : Int) (i : Int) = some (.ret (true, ())) ∧ ∃ j, j < n ∧ f j < 0)
 | 0, i, h1, h2, _ => by omega
 | m + 1, i, h1, h2, h3 => by
  have lq := hq.1
  simp only [z2p]
  by_cases hi : i < n
  ·have e4 : IntKind.i64.wrap ((i : Int) + 1) = ((i + 1 : Nat) : Int) := by rw [w64 _ (by omega) (by omega)]; omega
   rw [if_pos (by simpa using hi), if_pos (by omega), if_pos (by omega), Int.toNat_natCast, z4s (hq.at hi), Option.bind_some, e4]
   by_cases c : f i < 0
   ·rw [if_pos (by rw [decide_eq_true_eq]; exact z5h.2 c)]
    exact .inr ⟨rfl, i, hi, c⟩
   ·rw [if_neg (by rw [decide_eq_true_eq]; exact fun h => c (z5h.1 h))]
    refine y3p hn hq m (i + 1) (by omega) (by omega) fun j hj => ?_
    by_cases e : j = i
    ·subst e; grind
    ·exact h3 j (by omega)
  ·rw [if_neg (by simpa using hi)]
   have : i = n := by omega
   subst this
   exact .inl ⟨rfl, h3⟩
theorem z9p {n : Nat} (hn : n ≤ 1000) {f : Nat → Rat} {qs : List Qd} (hq : QF n f qs) : ∃ r, z3f fuel qs = some r ∧ (r = false ↔ ∀ j, j < n → 0 ≤ f j) := by
 have hf := z70 (n := 2 ^ 100) (by decide)
 unfold z3f
 rw [hq.1]
 rcases y3p hn hq fuel 0 (by omega) (by omega) (fun j hj => by omega) with ⟨h1, h2⟩ | ⟨h1, j, h2, h3⟩
 ·have h1 : z2p fuel qs (n : Int) 0 = _ := h1
  rw [h1]; exact ⟨false, rfl, fun _ => h2, fun _ => rfl⟩
 ·have h1 : z2p fuel qs (n : Int) 0 = _ := h1
  rw [h1]; exact ⟨true, rfl, fun h => (by cases h), fun h => by have := h j h2; grind⟩
theorem y88 {n : Nat} (hn : n ≤ 40) {f g : Nat → Rat} {a b : List Qd} (ha : QF n f a) (hb : QF n g b) (hf : ∀ i, i < n → Dr 2000 (f i)) (hg : ∀ i, i < n → Dr 2000 (g i)) : ∀ (m i : Nat) (q : Qd), i ≤ n → n < m + i → QR (fs (fun i => f i * g i) i) q →
  ∃ q', z4a m b a (n : Int) (i : Int) q.1 q.2.1 q.2.2 = some (.exit (q'.1, q'.2.1, q'.2.2, ())) ∧ QR (fs (fun i => f i * g i) n) q'
 | 0, i, q, h1, h2, _ => by omega
 | m + 1, i, q, h1, h2, hq => by
  have la := ha.1
  have lb := hb.1
  simp only [z4a]
  by_cases hi : i < n
  ·have e4 : IntKind.i64.wrap ((i : Int) + 1) = ((i + 1 : Nat) : Int) := by rw [w64 _ (by omega) (by omega)]; omega
   have d1 : Dr ((2000 + 2000 + 1) * i + 1) (fs (fun i => f i * g i) i) := w32 fun j hj => zs5 (hf j (by omega)) (hg j (by omega))
   have hd : (2000 + 2000 + 1) * i ≤ (2000 + 2000 + 1) * 40 := Nat.mul_le_mul_left _ (by omega)
   obtain ⟨x, hx, hqx⟩ := y27 (ha.at hi) (hb.at hi) (hf i hi) (hg i hi) (by omega)
   obtain ⟨y, hy, hqy⟩ := yt0 hq hqx d1 (zs5 (hf i hi) (hg i hi)) (by omega)
   have hy : z6w fuel (q.1, (q.2.1, q.2.2)) x = some y := hy
   rw [if_pos (by simpa using hi), if_pos (by omega), if_pos (by omega), if_pos (by omega), if_pos (by omega), Int.toNat_natCast, hx, Option.bind_some, hy, Option.bind_some, e4]
   exact y88 hn ha hb hf hg m (i + 1) y (by omega) (by omega) hqy
  ·rw [if_neg (by simpa using hi)]
   have : i = n := by omega
   subst this
   exact ⟨q, rfl, hq⟩
theorem w67 {n : Nat} (hn : n ≤ 40) {f g : Nat → Rat} (hf : ∀ i, i < n → Dr 2000 (f i)) (hg : ∀ i, i < n → Dr 2000 (g i)) : Dr 170000 (fs (fun i => f i * g i) n) := by
 have d1 : Dr ((2000 + 2000 + 1) * n + 1) (fs (fun i => f i * g i) n) := w32 fun j hj => zs5 (hf j (by omega)) (hg j (by omega))
 have hd : (2000 + 2000 + 1) * n ≤ (2000 + 2000 + 1) * 40 := Nat.mul_le_mul_left _ (by omega)
 exact z6r (by omega) d1
theorem zy4 {n : Nat} (hn : n ≤ 40) {f g : Nat → Rat} {a b : List Qd} (ha : QF n f a) (hb : QF n g b) (hf : ∀ i, i < n → Dr 2000 (f i)) (hg : ∀ i, i < n → Dr 2000 (g i)) : ∃ q, z3q fuel a b = some q ∧ QR (fs (fun i => f i * g i) n) q := by
 have hfu := z70 (n := 2 ^ 100) (by decide)
 unfold z3q
 rw [ha.1]
 obtain ⟨q, h1, h2⟩ := y88 hn ha hb hf hg fuel 0 (false, ([], [])) (by omega) (by omega) zk8
 have h1 : z4a fuel b a (n : Int) 0 false [] [] = _ := h1
 rw [h1]
 exact ⟨q, rfl, h2⟩
def RS (m : Nat) (B : Nat → Rat) (o : Option (List Qd)) : Prop := (∃ qs, o = some qs ∧ QF m B qs) ∨ (o = none ∧ ∀ i, i < m → B i = 0)
theorem y49 {m n : Nat} (hm : m ≤ 40) (hn : n ≤ 40) {A : Nat → Nat → Rat} {x B : Nat → Rat} {g : List (List Qd)} {xs : List Qd} {o : Option (List Qd)} (hg : QG m n A g) (hx : QF n x xs) (ho : RS m B o) (hA : ∀ i, i < m → ∀ k, k < n → Dr 2000 (A i k)) (hxd : ∀ k, k < n → Dr 2000 (x k)) (hB : ∀ i, i < m → Dr 2000 (B i)) :
  ∀ (f i : Nat), i ≤ m → m < f + i → (∀ j, j < i → fs (fun k => A j k * x k) n ≤ B j) →
  (z30 f xs o g (m : Int) (i : Int) = some (.exit ()) ∧ ∀ j, j < m → fs (fun k => A j k * x k) n ≤ B j) ∨ (z30 f xs o g (m : Int) (i : Int) = some (.ret (false, ())) ∧ ∃ j, j < m ∧ ¬ fs (fun k => A j k * x k) n ≤ B j)
 | 0, i, h1, h2, _ => by omega
 | f + 1, i, h1, h2, h3 => by
  have lg := hg.1
  simp only [z30]
  by_cases hi : i < m
  ·have e4 : IntKind.i64.wrap ((i : Int) + 1) = ((i + 1 : Nat) : Int) := by rw [w64 _ (by omega) (by omega)]; omega
   obtain ⟨q, q1, q2⟩ := zy4 hn (hg.2 i hi) hx (hA i hi) hxd
   have dq := w67 hn (hA i hi) hxd
   have go : (fs (fun k => A i k * x k) n ≤ B i) → ∀ j, j < i + 1 → fs (fun k => A j k * x k) n ≤ B j := fun h j hj => by
    by_cases e : j = i
    ·subst e; exact h
    ·exact h3 j (by omega)
   rw [if_pos (by simpa using hi), if_pos (by omega), if_pos (by omega), Int.toNat_natCast, q1, Option.bind_some, e4]
   rcases ho with ⟨qs, rfl, hqs⟩ | ⟨rfl, h0⟩
   ·have lqs := hqs.1
    obtain ⟨z, z1, z2⟩ := zy2 q2 (hqs.at hi) dq (hB i hi) (by omega)
    rw [if_pos (by rfl), if_pos (by omega), if_pos (show ((i : Nat) : Int) < (((Option.getD (some qs) ([] : List Qd)).length : Nat) : Int) by rw [Option.getD_some]; omega), Option.getD_some, z1, Option.bind_some, z4s z2, Option.bind_some]
    by_cases c : fs (fun k => A i k * x k) n ≤ B i
    ·have := y6i (r := fs (fun k => A i k * x k) n - B i)
     have := this.2 (by grind)
     rw [if_neg (by rw [decide_eq_true_eq]; omega)]
     exact y49 hm hn hg hx (.inl ⟨qs, rfl, hqs⟩) hA hxd hB f (i + 1) (by omega) (by omega) (go c)
    ·have := y6m (r := fs (fun k => A i k * x k) n - B i)
     have := this.2 (by grind)
     rw [if_pos (by rw [decide_eq_true_eq]; omega)]
     exact .inr ⟨rfl, i, hi, c⟩
   ·have hz := h0 i hi
    rw [if_neg (by simp), z4s q2, Option.bind_some]
    by_cases c : fs (fun k => A i k * x k) n ≤ B i
    ·have := y6i (r := fs (fun k => A i k * x k) n)
     have := this.2 (by rw [hz] at c; exact c)
     rw [if_neg (by rw [decide_eq_true_eq]; omega)]
     exact y49 hm hn hg hx (.inr ⟨rfl, h0⟩) hA hxd hB f (i + 1) (by omega) (by omega) (go c)
    ·have := y6m (r := fs (fun k => A i k * x k) n)
     have := this.2 (by grind)
     rw [if_pos (by rw [decide_eq_true_eq]; omega)]
     exact .inr ⟨rfl, i, hi, c⟩
  ·rw [if_neg (by simpa using hi)]
   have : i = m := by omega
   subst this
   exact .inl ⟨rfl, h3⟩
theorem yb0 {m n : Nat} (hm : m ≤ 40) (hn : n ≤ 40) {A : Nat → Nat → Rat} {x B : Nat → Rat} {g : List (List Qd)} {xs : List Qd} {o : Option (List Qd)} (hg : QG m n A g) (hx : QF n x xs) (ho : RS m B o) (hA : ∀ i, i < m → ∀ k, k < n → Dr 2000 (A i k)) (hxd : ∀ k, k < n → Dr 2000 (x k)) (hB : ∀ i, i < m → Dr 2000 (B i)) :
  ∃ r, z5w fuel g xs o = some r ∧ (r = true ↔ ∀ j, j < m → fs (fun k => A j k * x k) n ≤ B j) := by
 have hf := z70 (n := 2 ^ 100) (by decide)
 unfold z5w
 rw [hg.1]
 rcases y49 hm hn hg hx ho hA hxd hB fuel 0 (by omega) (by omega) (fun j hj => by omega) with ⟨h1, h2⟩ | ⟨h1, j, h2, h3⟩
 ·have h1 : z30 fuel xs o g (m : Int) 0 = _ := h1
  rw [h1]; exact ⟨true, rfl, fun _ => h2, fun _ => rfl⟩
 ·have h1 : z30 fuel xs o g (m : Int) 0 = _ := h1
  rw [h1]; exact ⟨false, rfl, fun h => (by cases h), fun h => absurd (h j h2) h3⟩
theorem yg7 {m n : Nat} (hm : m ≤ 40) (hn : n ≤ 40) {A : Nat → Nat → Rat} {x B : Nat → Rat} {g : List (List Qd)} {xs bs : List Qd} (hg : QG m n A g) (hx : QF n x xs) (ho : QF m B bs) (hA : ∀ i, i < m → ∀ k, k < n → Dr 2000 (A i k)) (hxd : ∀ k, k < n → Dr 2000 (x k)) (hB : ∀ i, i < m → Dr 2000 (B i)) :
  ∃ r, z6b g xs bs = some r ∧ (r = true ↔ ∀ j, j < m → fs (fun k => A j k * x k) n ≤ B j) := by
 obtain ⟨r, r1, r2⟩ := yb0 hm hn hg hx (.inl ⟨bs, rfl, ho⟩) hA hxd hB
 refine ⟨r, ?_, r2⟩
 unfold z6b
 rw [r1, Option.bind_some]
 by_cases e : bs.isEmpty = true
 ·have h0 : m = 0 := by rw [← ho.1, List.isEmpty_iff.1 e]; rfl
  obtain ⟨r', s1, s2⟩ := yb0 (o := none) hm hn hg hx (.inr ⟨rfl, fun i hi => by omega⟩) hA hxd hB
  have e1 : r = true := r2.2 fun j hj => by omega
  have e2 : r' = true := s2.2 fun j hj => by omega
  rw [if_pos e, s1, e1, e2, if_pos rfl]
 ·rw [if_neg e]
theorem yv9 {m n k : Nat} (hm : m ≤ 40) (hk : k < n) (hn : n ≤ 1000) {A : Nat → Nat → Rat} {y : Nat → Rat} {g : List (List Qd)} {ys : List Qd} (hg : QG m n A g) (hy : QF m y ys) (hA : ∀ i, i < m → Dr 2000 (A i k)) (hyd : ∀ i, i < m → Dr 2000 (y i)) : ∀ (f i : Nat) (q : Qd), i ≤ m → m < f + i → QR (fs (fun i => y i * A i k) i) q →
  ∃ q', z4x f ys (k : Int) g (m : Int) (i : Int) q.1 q.2.1 q.2.2 = some (.exit (q'.1, q'.2.1, q'.2.2, ())) ∧ QR (fs (fun i => y i * A i k) m) q'
 | 0, i, q, h1, h2, _ => by omega
 | f + 1, i, q, h1, h2, hq => by
  have lg := hg.1
  have ly := hy.1
  simp only [z4x]
  by_cases hi : i < m
  ·have e4 : IntKind.i64.wrap ((i : Int) + 1) = ((i + 1 : Nat) : Int) := by rw [w64 _ (by omega) (by omega)]; omega
   have hr := hg.2 i hi
   have lr := hr.1
   have d1 : Dr ((2000 + 2000 + 1) * i + 1) (fs (fun i => y i * A i k) i) := w32 fun j hj => zs5 (hyd j (by omega)) (hA j (by omega))
   have hd : (2000 + 2000 + 1) * i ≤ (2000 + 2000 + 1) * 40 := Nat.mul_le_mul_left _ (by omega)
   obtain ⟨x, hx, hqx⟩ := y27 (hy.at hi) (hr.at hk) (hyd i hi) (hA i hi) (by omega)
   obtain ⟨z, hz, hqz⟩ := yt0 hq hqx d1 (zs5 (hyd i hi) (hA i hi)) (by omega)
   have hz : z6w fuel (q.1, (q.2.1, q.2.2)) x = some z := hz
   simp only [Int.toNat_natCast]
   rw [if_pos (by simpa using hi), if_pos (by omega), if_pos (by omega), if_pos (by omega), if_pos (by omega), if_pos (by omega), if_pos (show ((k : Nat) : Int) < (((g.getD i ([] : List Qd)).length : Nat) : Int) by omega), hx, Option.bind_some, hz, Option.bind_some, e4]
   exact yv9 hm hk hn hg hy hA hyd f (i + 1) z (by omega) (by omega) hqz
  ·rw [if_neg (by simpa using hi)]
   have : i = m := by omega
   subst this
   exact ⟨q, rfl, hq⟩
theorem y48 {m n : Nat} (hm : m ≤ 40) (hn : n ≤ 40) {A : Nat → Nat → Rat} {y B : Nat → Rat} {g : List (List Qd)} {ys : List Qd} {o : Option (List Qd)} (hg : QG m n A g) (hy : QF m y ys) (ho : RS n B o) (hA : ∀ i, i < m → ∀ k, k < n → Dr 2000 (A i k)) (hyd : ∀ k, k < m → Dr 2000 (y k)) (hB : ∀ i, i < n → Dr 2000 (B i)) :
  ∀ (f i : Nat), i ≤ n → n + 1000 < f + i → (∀ j, j < i → B j ≤ fs (fun k => y k * A k j) m) →
  (z2z f g ys o (n : Int) (i : Int) = some (.exit ()) ∧ ∀ j, j < n → B j ≤ fs (fun k => y k * A k j) m) ∨ (z2z f g ys o (n : Int) (i : Int) = some (.ret (false, ())) ∧ ∃ j, j < n ∧ ¬ B j ≤ fs (fun k => y k * A k j) m)
 | 0, i, h1, h2, _ => by omega
 | f + 1, i, h1, h2, h3 => by
  have lg := hg.1
  simp only [z2z]
  by_cases hi : i < n
  ·have e4 : IntKind.i64.wrap ((i : Int) + 1) = ((i + 1 : Nat) : Int) := by rw [w64 _ (by omega) (by omega)]; omega
   obtain ⟨q, q1, q2⟩ := yv9 hm hi (by omega) hg hy (fun j hj => hA j hj i hi) hyd f 0 (false, ([], [])) (by omega) (by omega) zk8
   have q1 : z4x f ys (i : Int) g (g.length : Int) 0 false [] [] = some (.exit (q.1, q.2.1, q.2.2, ())) := by rw [lg]; exact q1
   have q2 : QR (fs (fun j => y j * A j i) m) (q.1, (q.2.1, q.2.2)) := q2
   have dq := w67 hm hyd (fun j hj => hA j hj i hi)
   have go : (B i ≤ fs (fun k => y k * A k i) m) → ∀ j, j < i + 1 → B j ≤ fs (fun k => y k * A k j) m := fun h j hj => by
    by_cases e : j = i
    ·subst e; exact h
    ·exact h3 j (by omega)
   rw [if_pos (by simpa using hi), q1]
   dsimp only
   rw [e4]
   rcases ho with ⟨qs, rfl, hqs⟩ | ⟨rfl, h0⟩
   ·have lqs := hqs.1
    obtain ⟨z, z1, z2⟩ := zy2 q2 (hqs.at hi) dq (hB i hi) (by omega)
    rw [if_pos (by rfl), if_pos (by omega), if_pos (show ((i : Nat) : Int) < (((Option.getD (some qs) ([] : List Qd)).length : Nat) : Int) by rw [Option.getD_some]; omega), Option.getD_some, Int.toNat_natCast, z1, Option.bind_some, z4s z2, Option.bind_some]
    by_cases c : B i ≤ fs (fun k => y k * A k i) m
    ·rw [if_neg (by rw [decide_eq_true_eq]; exact fun h => by have := z5h.1 h; grind)]
     exact y48 hm hn hg hy (.inl ⟨qs, rfl, hqs⟩) hA hyd hB f (i + 1) (by omega) (by omega) (go c)
    ·rw [if_pos (by rw [decide_eq_true_eq]; exact z5h.2 (by grind))]
     exact .inr ⟨rfl, i, hi, c⟩
   ·have hz := h0 i hi
    rw [if_neg (by simp), z4s q2, Option.bind_some]
    by_cases c : B i ≤ fs (fun k => y k * A k i) m
    ·rw [if_neg (by rw [decide_eq_true_eq]; exact fun h => by have := z5h.1 h; grind)]
     exact y48 hm hn hg hy (.inr ⟨rfl, h0⟩) hA hyd hB f (i + 1) (by omega) (by omega) (go c)
    ·rw [if_pos (by rw [decide_eq_true_eq]; exact z5h.2 (by grind))]
     exact .inr ⟨rfl, i, hi, c⟩
  ·rw [if_neg (by simpa using hi)]
   have : i = n := by omega
   subst this
   exact .inl ⟨rfl, h3⟩
theorem ya4 {m n : Nat} (hm : m ≤ 40) (hn : n ≤ 40) {A : Nat → Nat → Rat} {y B : Nat → Rat} {g : List (List Qd)} {ys : List Qd} {o : Option (List Qd)} (hg : QG m n A g) (hy : QF m y ys) (ho : RS n B o) (hA : ∀ i, i < m → ∀ k, k < n → Dr 2000 (A i k)) (hyd : ∀ k, k < m → Dr 2000 (y k)) (hB : ∀ i, i < n → Dr 2000 (B i)) :
  ∃ r, z5v fuel g ys o (n : Int) = some r ∧ (r = true ↔ ∀ j, j < n → B j ≤ fs (fun k => y k * A k j) m) := by
 have hf := z70 (n := 2 ^ 100) (by decide)
 unfold z5v
 rcases y48 hm hn hg hy ho hA hyd hB fuel 0 (by omega) (by omega) (fun j hj => by omega) with ⟨h1, h2⟩ | ⟨h1, j, h2, h3⟩
 ·have h1 : z2z fuel g ys o (n : Int) 0 = _ := h1
  rw [h1]; exact ⟨true, rfl, fun _ => h2, fun _ => rfl⟩
 ·have h1 : z2z fuel g ys o (n : Int) 0 = _ := h1
  rw [h1]; exact ⟨false, rfl, fun h => (by cases h), fun h => absurd (h j h2) h3⟩
theorem w23 {m n : Nat} (hm : m ≤ 40) (hn : n ≤ 40) {A : Nat → Nat → Rat} {y B : Nat → Rat} {g : List (List Qd)} {ys bs : List Qd} (hg : QG m n A g) (hy : QF m y ys) (ho : QF n B bs) (hA : ∀ i, i < m → ∀ k, k < n → Dr 2000 (A i k)) (hyd : ∀ k, k < m → Dr 2000 (y k)) (hB : ∀ i, i < n → Dr 2000 (B i)) :
  ∃ r, z86 g ys bs (n : Int) = some r ∧ (r = true ↔ ∀ j, j < n → B j ≤ fs (fun k => y k * A k j) m) := by
 obtain ⟨r, r1, r2⟩ := ya4 hm hn hg hy (.inl ⟨bs, rfl, ho⟩) hA hyd hB
 refine ⟨r, ?_, r2⟩
 unfold z86
 rw [r1, Option.bind_some]
 by_cases e : bs.isEmpty = true
 ·have h0 : n = 0 := by rw [← ho.1, List.isEmpty_iff.1 e]; rfl
  obtain ⟨r', s1, s2⟩ := ya4 (o := none) hm hn hg hy (.inr ⟨rfl, fun i hi => by omega⟩) hA hyd hB
  have e1 : r = true := r2.2 fun j hj => by omega
  have e2 : r' = true := s2.2 fun j hj => by omega
  rw [if_pos e, s1, e1, e2, if_pos rfl]
 ·rw [if_neg e]
end Go.Proofs.YtcdcoeofhnfjdaaDoor
