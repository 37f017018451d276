/- The simplex method: the first tableau, the last row for a value, what is read off. -/
import Derived.Test.YtcdcoeofhnfjdaaDoorSc
namespace Go.Proofs.YtcdcoeofhnfjdaaDoor
open Go Vm
theorem w8b : ∃ q, z6z fuel 1 = some q ∧ QR 1 q := ⟨(false, (zs (cn 1), zs (cn 1))), by
  unfold z6z
  rw [if_neg (by decide), of_one]; rfl, by decide, by rfl, .inl (by rfl)⟩
theorem w8a : ∃ q, z6z fuel (-1) = some q ∧ QR (-1) q := ⟨(true, (zs (cn 1), zs (cn 1))), by
  unfold z6z
  have e : IntKind.i64.wrap (0 - (-1)) = 1 := by decide
  rw [if_pos (by decide), e, of_one]; rfl, by decide, by rfl, .inl (by rfl)⟩
theorem QF.copy {n C : Nat} {f : Nat → Rat} {qs : List Qd} (h : QF n f qs) (hn : n ≤ C) :
  QF C (fun k => if k < n then f k else 0) (qs.take (List.replicate C ((false, ([], [])) : Qd)).length ++ (List.replicate C ((false, ([], [])) : Qd)).drop qs.length) := by
 have hl := h.1
 have e : qs.take (List.replicate C ((false, ([], [])) : Qd)).length = qs := List.take_of_length_le (by rw [List.length_replicate]; omega)
 rw [e]
 refine ⟨by simp [hl]; omega, fun k hk => ?_⟩
 show QR (if k < n then f k else 0) _
 by_cases c : k < n
 ·rw [if_pos c, y43 (by omega)]; exact h.2 k c
 ·rw [if_neg c, List.getD_eq_getElem?_getD, List.getElem?_append_right (by omega), List.drop_replicate, List.getElem?_replicate, if_pos (by omega)]
  exact y0t
theorem yd1 {m n : Nat} (hm : m ≤ 40) (hn : n ≤ 40) {A : Nat → Nat → Rat} {b : Nat → Rat} {G : List (List Qd)} {B : List Qd} (hG : QG m n A G) (hB : QF m b B) : ∀ (f i : Nat) (g : List (List Qd)), i ≤ m → m < f + i → QG i (n + m + 2) (lpM m n A b) g →
  ∃ g', z1p f (m : Int) (i : Int) (n : Int) (m : Int) G B g (bL i fun j => n + j) = some (.exit ((n : Int), (m : Int), G, B, g', bL m (fun j => n + j), ())) ∧ QG m (n + m + 2) (lpM m n A b) g'
 | 0, i, g, h1, h2, _ => by omega
 | f + 1, i, g, h1, h2, hg => by
  have lG := hG.1
  have lB := hB.1
  have lg := hg.1
  have lb := z5a (m := i) (β := fun j => n + j)
  simp only [z1p]
  by_cases hi : i < m
  ·have e4 : IntKind.i64.wrap ((i : Int) + 1) = ((i + 1 : Nat) : Int) := by rw [w64 _ (by omega) (by omega)]; omega
   have e5 : IntKind.i64.wrap ((n : Int) + (m : Int)) = ((n + m : Nat) : Int) := by rw [w64 _ (by omega) (by omega)]; omega
   have e6 : IntKind.i64.wrap (((n + m : Nat) : Int) + 2) = ((n + m + 2 : Nat) : Int) := by rw [w64 _ (by omega) (by omega)]; omega
   have e7 : IntKind.i64.wrap (((n + m : Nat) : Int) + 1) = ((n + m + 1 : Nat) : Int) := by rw [w64 _ (by omega) (by omega)]; omega
   have e8 : IntKind.i64.wrap ((n : Int) + (i : Int)) = ((n + i : Nat) : Int) := by rw [w64 _ (by omega) (by omega)]; omega
   obtain ⟨q1, i1, j1⟩ := w8b
   obtain ⟨q2, i2, j2⟩ := w8a
   have hr := (hG.2 i hi).copy (C := n + m + 2) (by omega)
   have hb := hB.at hi
   have hrow := ((hr.set (i := n + i) (by omega) j1).set (i := n + m) (by omega) j2).set (i := n + m + 1) (by omega) hb
   have l0 := hr.1
   rw [e5, e6, e7, e8, e4, if_pos (by simpa using hi)]
   simp only [Int.toNat_natCast]
   rw [if_pos (by omega), if_pos (by omega), if_pos (by omega), if_pos (by omega), if_pos (by omega), i1, Option.bind_some, if_pos (by omega), if_pos (show (((n + i : Nat) : Nat) : Int) < ((((G.getD i []).take (List.replicate (n + m + 2) ((false, ([], [])) : Qd)).length ++ (List.replicate (n + m + 2) ((false, ([], [])) : Qd)).drop (G.getD i []).length).length : Nat) : Int) by omega), i2, Option.bind_some, if_pos (by omega),
     if_pos (by rw [List.length_set]; exact (show (((n + m : Nat) : Nat) : Int) < ((((G.getD i []).take (List.replicate (n + m + 2) ((false, ([], [])) : Qd)).length ++ (List.replicate (n + m + 2) ((false, ([], [])) : Qd)).drop (G.getD i []).length).length : Nat) : Int) by omega)), if_pos (by omega), if_pos (by omega), if_pos (by omega),
     if_pos (by rw [List.length_set, List.length_set]; exact (show (((n + m + 1 : Nat) : Nat) : Int) < ((((G.getD i []).take (List.replicate (n + m + 2) ((false, ([], [])) : Qd)).length ++ (List.replicate (n + m + 2) ((false, ([], [])) : Qd)).drop (G.getD i []).length).length : Nat) : Int) by omega)), if_pos (by omega), if_pos (by omega)]
   have eb : bL i (fun j => n + j) ++ [((n + i : Nat) : Int)] = bL (i + 1) fun j => n + j := w91 (m := i) (β := fun j => n + j)
   rw [eb]
   refine yd1 hm hn hG hB f (i + 1) _ (by omega) (by omega) (hg.snoc (hrow.ext fun k hk => ?_))
   unfold lpM one
   by_cases c1 : k < n
   ·rw [if_neg (by omega), if_neg (by omega), if_neg (by omega), if_pos c1, if_pos c1]
   ·rw [if_neg c1, if_neg c1]
    by_cases c2 : k < n + m
    ·rw [if_neg (by omega), if_neg (by omega), if_pos c2]
     by_cases c3 : k = n + i
     ·rw [if_pos c3, if_pos (by omega)]
     ·rw [if_neg c3, if_neg (by omega)]
    ·rw [if_neg c2]
     by_cases c3 : k = n + m
     ·rw [if_neg (by omega), if_pos c3, if_pos c3]
     ·rw [if_pos (by omega), if_neg c3]
  ·rw [if_neg (by simpa using hi)]
   have : i = m := by omega
   subst this
   exact ⟨g, rfl, hg⟩
def AI (side : Nat) (T : Nat → Nat → Rat) (a : Int) (i : Nat) : Prop := (a = -1 ∧ ∀ j, j < i → 0 ≤ T j side) ∨ ∃ p, p < i ∧ a = ((p : Nat) : Int) ∧ T p side < 0 ∧ ∀ j, j < i → T p side ≤ T j side
theorem zq9 {R K m n : Nat} (hm : m ≤ 40) (hn : n ≤ 40) (hR : m ≤ R) (hR' : R ≤ 100) (hK : K ≤ 4000000) {T : Nat → Nat → Rat} {g : List (List Qd)} (hg : QG R (n + m + 2) T g) (hd : ∀ r, r < R → ∀ q, q < n + m + 2 → Dr K (T r q)) {bl : List Int} : ∀ (f i : Nat) (a : Int), i ≤ m → m < f + i → AI (n + m + 1) T a i →
  ∃ a', z0i f a (m : Int) (i : Int) (n : Int) (m : Int) g bl = some (.exit (a', (n : Int), (m : Int), g, bl, ())) ∧ AI (n + m + 1) T a' m
 | 0, i, a, h1, h2, _ => by omega
 | f + 1, i, a, h1, h2, ha => by
  have lg := hg.1
  simp only [z0i]
  by_cases hi : i < m
  ·have e4 : IntKind.i64.wrap ((i : Int) + 1) = ((i + 1 : Nat) : Int) := by rw [w64 _ (by omega) (by omega)]; omega
   have hri := hg.2 i (by omega)
   have li := hri.1
   have qi := hri.at (i := n + m + 1) (by omega)
   rw [if_pos (by simpa using hi), if_pos (by omega), if_pos (by omega), y9d (by omega) (by omega), Option.bind_some, if_pos (by omega), Int.toNat_natCast, if_pos (by omega), Int.toNat_natCast, z8f qi, Option.bind_some, e4]
   by_cases c : T i (n + m + 1) < 0
   ·rw [if_pos (by rw [decide_eq_true_eq]; exact zc4.2 c)]
    rcases ha with ⟨rfl, hno⟩ | ⟨p, hp, rfl, hp0, hmin⟩
    ·rw [if_neg (by decide)]
     refine zq9 hm hn hR hR' hK hg hd f (i + 1) _ (by omega) (by omega) (.inr ⟨i, by omega, rfl, c, fun j hj => ?_⟩)
     by_cases e : j = i
     ·subst e; exact Rat.le_refl
     ·have := hno j (by omega); grind
    ·have hrp := hg.2 p (by omega)
     have lp := hrp.1
     have qp := hrp.at (i := n + m + 1) (by omega)
     rw [if_pos (show decide (((p : Nat) : Int) < 0) = false by rw [decide_eq_false_iff_not]; omega), if_pos (by omega), if_pos (by omega), Option.bind_some, if_pos (by omega), if_pos (show ((n + m + 1 : Nat) : Int) < (((g.getD (Int.toNat ((p : Nat) : Int)) ([] : List Qd)).length : Nat) : Int) by rw [Int.toNat_natCast]; omega)]
     simp only [Int.toNat_natCast]
     rw [w5g qi qp (hd i (by omega) _ (by omega)) (hd p (by omega) _ (by omega)) (by omega), Option.bind_some]
     by_cases c2 : T i (n + m + 1) < T p (n + m + 1)
     ·rw [if_pos (by rw [decide_eq_true_eq]; exact zc4.2 (by grind))]
      refine zq9 hm hn hR hR' hK hg hd f (i + 1) _ (by omega) (by omega) (.inr ⟨i, by omega, rfl, c, fun j hj => ?_⟩)
      by_cases e : j = i
      ·subst e; exact Rat.le_refl
      ·have := hmin j (by omega); grind
     ·rw [if_neg (by rw [decide_eq_true_eq]; exact fun h => c2 (by have := zc4.1 h; grind))]
      refine zq9 hm hn hR hR' hK hg hd f (i + 1) _ (by omega) (by omega) (.inr ⟨p, by omega, rfl, hp0, fun j hj => ?_⟩)
      by_cases e : j = i
      ·subst e; grind
      ·exact hmin j (by omega)
   ·rw [if_neg (by rw [decide_eq_true_eq]; exact fun h => c (zc4.1 h))]
    refine zq9 hm hn hR hR' hK hg hd f (i + 1) _ (by omega) (by omega) ?_
    rcases ha with ⟨e, hno⟩ | ⟨p, hp, e, hp0, hmin⟩
    ·exact .inl ⟨e, fun j hj => by
       by_cases e : j = i
       · subst e; grind
       · exact hno j (by omega)⟩
    ·exact .inr ⟨p, by omega, e, hp0, fun j hj => by
       by_cases e : j = i
       · subst e; grind
       · exact hmin j (by omega)⟩
  ·rw [if_neg (by simpa using hi)]
   have : i = m := by omega
   subst this
   exact ⟨a, rfl, ha⟩
theorem zv4 {R m n : Nat} (hm : m ≤ 40) (hn : n ≤ 40) (hR : m ≤ R) (hR' : R ≤ 100) {T : Nat → Nat → Rat} {β : Nat → Nat} {g : List (List Qd)} (hg : QG R (n + m + 2) T g) (hinj : ∀ i j, i < m → j < m → β i = β j → i = j) : ∀ (f i : Nat) (x : List Qd), i ≤ m → m < f + i → QF n (xv i β T (n + m + 1)) x →
  ∃ x', z0j f (m : Int) (i : Int) (n : Int) (m : Int) x (bL m β) g = some (.exit (x', (n : Int), (m : Int), bL m β, g, ())) ∧ QF n (xv m β T (n + m + 1)) x'
 | 0, i, x, h1, h2, _ => by omega
 | f + 1, i, x, h1, h2, hx => by
  have lg := hg.1
  have lx := hx.1
  have lb := z5a (m := m) (β := β)
  simp only [z0j]
  by_cases hi : i < m
  ·have e4 : IntKind.i64.wrap ((i : Int) + 1) = ((i + 1 : Nat) : Int) := by rw [w64 _ (by omega) (by omega)]; omega
   have hri := hg.2 i (by omega)
   have li := hri.1
   have qi := hri.at (i := n + m + 1) (by omega)
   rw [if_pos (by simpa using hi), if_pos (by omega), if_pos (by omega), Int.toNat_natCast, y85 hi, e4]
   by_cases c : β i < n
   ·rw [if_pos (by simpa using c), if_pos (by omega), if_pos (by omega), y9d (by omega) (by omega), Option.bind_some, if_pos (by omega), if_pos (show ((n + m + 1 : Nat) : Int) < (((g.getD i ([] : List Qd)).length : Nat) : Int) by omega), if_pos (by omega), if_pos (by omega)]
    simp only [Int.toNat_natCast]
    refine zv4 hm hn hR hR' hg hinj f (i + 1) _ (by omega) (by omega) ((hx.set c qi).ext fun v hv => ?_)
    show (if v = β i then T i (n + m + 1) else xv i β T (n + m + 1) v) = fs (fun j => if β j = v then T j (n + m + 1) else 0) (i + 1)
    rw [fs]
    by_cases e : v = β i
    ·have h0 : fs (fun j => if β j = v then T j (n + m + 1) else 0) i = 0 := by
      rw [z1r (g := fun _ => 0) fun j hj => if_neg fun h => by have := hinj j i (by omega) hi (h.trans e); omega]; exact z43 i
     rw [if_pos e, h0, if_pos e.symm]; grind
    ·rw [if_neg e, if_neg fun h => e h.symm]
     unfold xv; grind
   ·rw [if_neg (by simpa using c)]
    refine zv4 hm hn hR hR' hg hinj f (i + 1) _ (by omega) (by omega) (hx.ext fun v hv => ?_)
    show xv i β T (n + m + 1) v = fs (fun j => if β j = v then T j (n + m + 1) else 0) (i + 1)
    rw [fs, if_neg fun h => c (by omega)]
    unfold xv; grind
  ·rw [if_neg (by simpa using hi)]
   have : i = m := by omega
   subst this
   exact ⟨x, rfl, hx⟩
theorem y7m {R m n k : Nat} (hm : m ≤ 40) (hn : n ≤ 40) (hR : m ≤ R) (hR' : R ≤ 100) (hk : k < n + m + 2) {T : Nat → Nat → Rat} {β : Nat → Nat} {g : List (List Qd)} (hg : QG R (n + m + 2) T g) (hinj : ∀ i j, i < m → j < m → β i = β j → i = j) (hbk : ∀ i, i < m → β i ≠ k) : ∀ (f i : Nat) (x : List Qd), i ≤ m → m < f + i → QF n (ryv i k β T) x →
  ∃ x', z1j f (k : Int) (m : Int) (i : Int) (n : Int) (m : Int) x (bL m β) g = some (.exit (x', (n : Int), (m : Int), bL m β, g, ())) ∧ QF n (ryv m k β T) x'
 | 0, i, x, h1, h2, _ => by omega
 | f + 1, i, x, h1, h2, hx => by
  have lg := hg.1
  have lx := hx.1
  have lb := z5a (m := m) (β := β)
  simp only [z1j]
  by_cases hi : i < m
  ·have e4 : IntKind.i64.wrap ((i : Int) + 1) = ((i + 1 : Nat) : Int) := by rw [w64 _ (by omega) (by omega)]; omega
   have hri := hg.2 i (by omega)
   have li := hri.1
   have qi := hri.at hk
   obtain ⟨z, hz, hqz⟩ := y9a qi
   rw [if_pos (by simpa using hi), if_pos (by omega), if_pos (by omega), Int.toNat_natCast, y85 hi, e4]
   by_cases c : β i < n
   ·rw [if_pos (by simpa using c), if_pos (by omega), if_pos (by omega), if_pos (by omega), if_pos (show ((k : Nat) : Int) < (((g.getD i ([] : List Qd)).length : Nat) : Int) by omega)]
    simp only [Int.toNat_natCast]
    rw [hz, Option.bind_some, if_pos (by omega), if_pos (by omega)]
    refine y7m hm hn hR hR' hk hg hinj hbk f (i + 1) _ (by omega) (by omega) ((hx.set c hqz).ext fun v hv => ?_)
    show (if v = β i then -(T i k) else (if v = k then 1 else 0) - fs (fun j => if β j = v then T j k else 0) i) = (if v = k then 1 else 0) - fs (fun j => if β j = v then T j k else 0) (i + 1)
    rw [fs]
    by_cases e : v = β i
    ·have h0 : fs (fun j => if β j = v then T j k else 0) i = 0 := by
      rw [z1r (g := fun _ => 0) fun j hj => if_neg fun h => by have := hinj j i (by omega) hi (h.trans e); omega]; exact z43 i
     rw [if_pos e, h0, if_pos e.symm, if_neg fun h => hbk i hi (by omega)]; grind
    ·rw [if_neg e, if_neg (fun h => e h.symm : ¬ β i = v)]
     grind
   ·rw [if_neg (by simpa using c)]
    refine y7m hm hn hR hR' hk hg hinj hbk f (i + 1) _ (by omega) (by omega) (hx.ext fun v hv => ?_)
    show (if v = k then 1 else 0) - fs (fun j => if β j = v then T j k else 0) i = (if v = k then 1 else 0) - fs (fun j => if β j = v then T j k else 0) (i + 1)
    rw [fs, if_neg (show ¬ β i = v from fun h => c (by omega))]
    grind
  ·rw [if_neg (by simpa using hi)]
   have : i = m := by omega
   subst this
   exact ⟨x, rfl, hx⟩
def gl (m : Nat) (c : Nat → Rat) (β : Nat → Nat) (T : Nat → Nat → Rat) (i r s : Nat) : Rat := if r = m then -(c s) - fs (fun j => -(c (β j)) * T j s) i else T r s
theorem w88 {m N : Nat} {c : Nat → Rat} {β : Nat → Nat} {T : Nat → Nat → Rat} : ∀ r, r < m + 1 → ∀ s, s < N → gl m c β T m r s = gol m c β T r s := fun r _ s _ => by
 unfold gl gol
 by_cases e : r = m
 ·rw [if_pos e, if_pos e]
  have h : fs (fun j => -(c (β j)) * T j s) m = -(fs (fun j => c (β j) * T j s) m) := by
   rw [← y8t]; exact z1r fun j _ => by grind
  rw [h]; grind
 ·rw [if_neg e, if_neg e]
theorem wf4 {m N K i : Nat} {c : Nat → Rat} {β : Nat → Nat} {T : Nat → Nat → Rat} (hi : i ≤ m) (hm : m ≤ 20) (hl : ∀ j, j < m → β j < N) (hc : ∀ s, s < N → Dr K (c s)) (hT : ∀ r, r < m → ∀ s, s < N → Dr K (T r s)) : ∀ r, r < m + 1 → ∀ s, s < N → Dr (50 * K + 100) (gl m c β T i r s) := fun r hr s hs => by
 unfold gl
 by_cases e : r = m
 ·rw [if_pos e]
  have h1 : Dr ((K + K + 1) * i + 1) (fs (fun j => -(c (β j)) * T j s) i) := wd9 fun j hj => y8j (zp9 (hc _ (hl j (by omega)))) (hT j (by omega) s hs)
  have h3 : (K + K + 1) * i ≤ (K + K + 1) * 20 := Nat.mul_le_mul_left _ (by omega)
  exact z80 (by omega) (we2 (zp9 (hc s hs)) h1)
 ·rw [if_neg e]; exact z80 (by omega) (hT r (by omega) s hs)
theorem gnS {L C : Nat} (hL : L ≤ C) (hC : C ≤ 100) {c : Nat → Rat} {cl : List Qd} (hc : QF L c cl) : ∀ (f k : Nat) (l : List Qd), k ≤ L → L < f + k → QF C (fun j => if j < k then -(c j) else 0) l →
  ∃ l', z0t f (L : Int) (k : Int) l cl = some (.exit (l', cl, ())) ∧ QF C (fun j => if j < L then -(c j) else 0) l'
 | 0, k, l, h1, h2, _ => by omega
 | f + 1, k, l, h1, h2, hl => by
  have lc := hc.1
  have ll := hl.1
  simp only [z0t]
  by_cases hk : k < L
  ·have e4 : IntKind.i64.wrap ((k : Int) + 1) = ((k + 1 : Nat) : Int) := by rw [w64 _ (by omega) (by omega)]; omega
   obtain ⟨z, hz, hqz⟩ := y9a (hc.at hk)
   rw [if_pos (by simpa using hk), if_pos (by omega), if_pos (by omega), Int.toNat_natCast, hz, Option.bind_some, if_pos (by omega), if_pos (by omega), e4]
   refine gnS hL hC hc f (k + 1) _ (by omega) (by omega) ((hl.set (i := k) (by omega) hqz).ext fun j hj => ?_)
   show (if j = k then -(c k) else if j < k then -(c j) else 0) = if j < k + 1 then -(c j) else 0
   by_cases e : j = k
   ·rw [if_pos e, if_pos (by omega), e]
   ·rw [if_neg e]
    by_cases e2 : j < k
    ·rw [if_pos e2, if_pos (by omega)]
    ·rw [if_neg e2, if_neg (by omega)]
  ·rw [if_neg (by simpa using hk)]
   have : k = L := by omega
   subst this
   exact ⟨l, rfl, hl⟩
theorem gsS {R C K p i : Nat} (hR : R ≤ 100) (hC : C ≤ 100) (hK : K ≤ 8000000) (hp : p < R) (hi : i < R) (hne : i ≠ p) {V : Nat → Nat → Rat} {f : Rat} (hf : Dr K f) (hd : ∀ r, r < R → ∀ q, q < C → Dr K (V r q)) {b : Qd} (hb : QR f b) {u v : Int} {bl : List Int} : ∀ (m c : Nat) (g : List (List Qd)), c ≤ C → C < m + c → QG R C (sbt p i c f V) g →
  ∃ g', z14 m i (p : Int) (C : Int) (c : Int) u v g b.1 b.2.1 b.2.2 bl = some (.exit (i, u, v, g', b.1, b.2.1, b.2.2, bl, ())) ∧ QG R C (sbt p i C f V) g'
 | 0, c, g, h1, h2, hg => by omega
 | m + 1, c, g, h1, h2, hg => by
  have lg := hg.1
  simp only [z14]
  by_cases hc : c < C
  ·have e4 : IntKind.i64.wrap ((c : Int) + 1) = ((c + 1 : Nat) : Int) := by rw [w64 _ (by omega) (by omega)]; omega
   have hri := hg.2 i hi
   have hrp := hg.2 p hp
   have li := hri.1
   have lp := hrp.1
   have qi := hri.at hc
   have qp := hrp.at hc
   have e1 : sbt p i c f V i c = V i c := by unfold sbt; rw [if_neg fun h => Nat.lt_irrefl _ h.2]
   have e2 : sbt p i c f V p c = V p c := by unfold sbt; rw [if_neg fun h => hne h.1.symm]
   rw [e1] at qi
   rw [e2] at qp
   obtain ⟨x, hx, hqx⟩ := y99 hb qp hf (hd p hp c hc) (by omega)
   obtain ⟨y, hy, hqy⟩ := y5s qi hqx (hd i hi c hc) (y8j hf (hd p hp c hc)) (by omega)
   have hx : z3a fuel (b.1, (b.2.1, b.2.2)) (((g.getD p []).getD c (false, ([], []))).1, (((g.getD p []).getD c (false, ([], []))).2)) = some x := hx
   simp only [Int.toNat_natCast]
   rw [if_pos (by simpa using hc), if_pos (by omega), if_pos (show ((c : Nat) : Int) < (((g.getD i ([] : List Qd)).length : Nat) : Int) by omega), if_pos (by omega), if_pos (by omega), if_pos (by omega), if_pos (show ((c : Nat) : Int) < (((g.getD p ([] : List Qd)).length : Nat) : Int) by omega), hx, Option.bind_some, hy, Option.bind_some, if_pos (by omega), if_pos (show ((c : Nat) : Int) < (((g.getD i ([] : List Qd)).length : Nat) : Int) by omega), e4]
   refine gsS hR hC hK hp hi hne hf hd hb m (c + 1) _ (by omega) (by omega) ((hg.set hi hc hqy).ext fun r _ q _ => ?_)
   unfold sbt
   by_cases e1 : r = i
   ·by_cases e2 : q = c
    ·rw [if_pos ⟨e1, e2⟩, if_pos ⟨e1, by omega⟩, e2]
    ·rw [if_neg fun h => e2 h.2]
     by_cases e3 : q < c
     ·rw [if_pos ⟨e1, e3⟩, if_pos ⟨e1, by omega⟩]
     ·rw [if_neg fun h => e3 h.2, if_neg fun h => by have := h.2; omega]
   ·rw [if_neg fun h => e1 h.1, if_neg fun h => e1 h.1, if_neg fun h => e1 h.1]
  ·rw [if_neg (by simpa using hc)]
   have : c = C := by omega
   subst this
   exact ⟨g, rfl, hg⟩
theorem goS {m n N K : Nat} (hm : m ≤ 20) (hN : N ≤ 100) (hK : K ≤ 100000) {M : Nat → Nat → Rat} {c : Nat → Rat} {β : Nat → Nat} {T : Nat → Nat → Rat} (hb : Bas m N M (fun i r => M i (β r)) T) (hl : ∀ j, j < m → β j < N) (hc : ∀ s, s < N → Dr K (c s)) (hT : ∀ r, r < m → ∀ s, s < N → Dr K (T r s)) :
  ∀ (f i : Nat) (g : List (List Qd)), i ≤ m → m + 1000 < f + i → QG (m + 1) N (gl m c β T i) g → ∃ g', z0n f m (m : Int) (i : Int) (n : Int) (m : Int) g (bL m β) = some (.exit ((n : Int), (m : Int), g', bL m β, ())) ∧ QG (m + 1) N (gol m c β T) g'
 | 0, i, g, h1, h2, _ => by omega
 | f + 1, i, g, h1, h2, hg => by
  have lg := hg.1
  have lb := z5a (m := m) (β := β)
  simp only [z0n]
  by_cases hi : i < m
  ·have e4 : IntKind.i64.wrap ((i : Int) + 1) = ((i + 1 : Nat) : Int) := by rw [w64 _ (by omega) (by omega)]; omega
   have hrm := hg.2 m (by omega)
   have lm := hrm.1
   have hbi := hl i hi
   have qm := hrm.at hbi
   have ef : gl m c β T i m (β i) = -(c (β i)) := by
    unfold gl
    rw [if_pos rfl, z1r (g := fun _ => 0) fun j hj => by rw [hb.unit (by omega) hi hbi]; unfold one; rw [if_neg (by omega)]; grind, z43]; grind
   rw [ef] at qm
   have hnext : ∀ r, r < m + 1 → ∀ s, s < N → gl m c β T (i + 1) r s = if r = m then gl m c β T i m s - -(c (β i)) * T i s else T r s := fun r hr s hs => by
    unfold gl
    by_cases e : r = m
    ·rw [if_pos e, if_pos e, fs, if_pos rfl]; grind
    ·rw [if_neg e, if_neg e]
   have e0 : ∀ r, r ≠ m → ∀ s, gl m c β T i r s = T r s := fun r hr s => by unfold gl; rw [if_neg hr]
   simp only [Int.toNat_natCast]
   rw [if_pos (by simpa using hi), if_pos (by omega), if_pos (by omega), y85 hi, if_pos (by omega), Int.toNat_natCast, if_pos (show ((β i : Nat) : Int) < (((g.getD m ([] : List Qd)).length : Nat) : Int) by omega), z8f qm, Option.bind_some, e4]
   by_cases z : c (β i) = 0
   ·rw [if_pos (zl2.2 (by grind))]
    refine goS hm hN hK hb hl hc hT f (i + 1) g (by omega) (by omega) (hg.ext fun r hr s hs => ?_)
    rw [hnext r hr s hs]
    by_cases e : r = m
    ·rw [if_pos e, z, e]; grind
    ·rw [if_neg e, e0 r e]
   ·rw [if_neg fun h => z (by have := zl2.1 h; grind)]
    have hdr := wf4 (i := i) (by omega) hm hl hc hT
    obtain ⟨g', h3, h4⟩ := gsS (u := (n : Int)) (v := (m : Int)) (bl := bL m β) (p := i) (i := m) (V := gl m c β T i) (R := m + 1) (C := N) (K := 50 * K + 100) (by omega) hN (by omega) (by omega) (by omega) (by omega) (z80 (by omega) (zp9 (hc _ hbi))) hdr qm f 0 g (by omega) (by omega) (hg.ext fun r _ q _ => by unfold sbt; rw [if_neg fun h => by have := h.2; omega])
    have h3 : z14 f m (i : Int) (((g.getD m ([] : List Qd)).length : Nat) : Int) 0 (n : Int) (m : Int) g (((g.getD m []).getD (β i) (false, ([], []))).1) ((((g.getD m []).getD (β i) (false, ([], []))).2).1) ((((g.getD m []).getD (β i) (false, ([], []))).2).2) (bL m β) = some (.exit (m, (n : Int), (m : Int), g', (((g.getD m []).getD (β i) (false, ([], []))).1), ((((g.getD m []).getD (β i) (false, ([], []))).2).1), ((((g.getD m []).getD (β i) (false, ([], []))).2).2), bL m β, ())) := by rw [lm]; exact h3
    rw [h3]
    refine goS hm hN hK hb hl hc hT f (i + 1) g' (by omega) (by omega) (h4.ext fun r hr s hs => ?_)
    rw [hnext r hr s hs]
    unfold sbt
    by_cases e : r = m
    ·rw [if_pos ⟨e, hs⟩, if_pos e, e0 i (by omega)]
    ·rw [if_neg fun h => e h.1, if_neg e, e0 r e]
  ·rw [if_neg (by simpa using hi)]
   have : i = m := by omega
   subst this
   exact ⟨g, rfl, hg.ext w88⟩
theorem gnF {L C : Nat} (hL : L ≤ C) (hC : C ≤ 100) {c : Nat → Rat} {cl : List Qd} (hc : QF L c cl) : ∀ (f k : Nat) (l : List Qd), k ≤ L → L < f + k → QF C (fun j => if j < k then -(c j) else 0) l →
  ∃ l', z0f f (L : Int) (k : Int) l cl = some (.exit (l', cl, ())) ∧ QF C (fun j => if j < L then -(c j) else 0) l'
 | 0, k, l, h1, h2, _ => by omega
 | f + 1, k, l, h1, h2, hl => by
  have lc := hc.1
  have ll := hl.1
  simp only [z0f]
  by_cases hk : k < L
  ·have e4 : IntKind.i64.wrap ((k : Int) + 1) = ((k + 1 : Nat) : Int) := by rw [w64 _ (by omega) (by omega)]; omega
   obtain ⟨z, hz, hqz⟩ := y9a (hc.at hk)
   rw [if_pos (by simpa using hk), if_pos (by omega), if_pos (by omega), Int.toNat_natCast, hz, Option.bind_some, if_pos (by omega), if_pos (by omega), e4]
   refine gnF hL hC hc f (k + 1) _ (by omega) (by omega) ((hl.set (i := k) (by omega) hqz).ext fun j hj => ?_)
   show (if j = k then -(c k) else if j < k then -(c j) else 0) = if j < k + 1 then -(c j) else 0
   by_cases e : j = k
   ·rw [if_pos e, if_pos (by omega), e]
   ·rw [if_neg e]
    by_cases e2 : j < k
    ·rw [if_pos e2, if_pos (by omega)]
    ·rw [if_neg e2, if_neg (by omega)]
  ·rw [if_neg (by simpa using hk)]
   have : k = L := by omega
   subst this
   exact ⟨l, rfl, hl⟩
theorem gsF {R C K p i : Nat} (hR : R ≤ 100) (hC : C ≤ 100) (hK : K ≤ 8000000) (hp : p < R) (hi : i < R) (hne : i ≠ p) {V : Nat → Nat → Rat} {f : Rat} (hf : Dr K f) (hd : ∀ r, r < R → ∀ q, q < C → Dr K (V r q)) {b : Qd} (hb : QR f b) {u v : Int} {bl : List Int} : ∀ (m c : Nat) (g : List (List Qd)), c ≤ C → C < m + c → QG R C (sbt p i c f V) g →
  ∃ g', z0e m i (p : Int) (C : Int) (c : Int) u v g b.1 b.2.1 b.2.2 bl = some (.exit (i, u, v, g', b.1, b.2.1, b.2.2, bl, ())) ∧ QG R C (sbt p i C f V) g'
 | 0, c, g, h1, h2, hg => by omega
 | m + 1, c, g, h1, h2, hg => by
  have lg := hg.1
  simp only [z0e]
  by_cases hc : c < C
  ·have e4 : IntKind.i64.wrap ((c : Int) + 1) = ((c + 1 : Nat) : Int) := by rw [w64 _ (by omega) (by omega)]; omega
   have hri := hg.2 i hi
   have hrp := hg.2 p hp
   have li := hri.1
   have lp := hrp.1
   have qi := hri.at hc
   have qp := hrp.at hc
   have e1 : sbt p i c f V i c = V i c := by unfold sbt; rw [if_neg fun h => Nat.lt_irrefl _ h.2]
   have e2 : sbt p i c f V p c = V p c := by unfold sbt; rw [if_neg fun h => hne h.1.symm]
   rw [e1] at qi
   rw [e2] at qp
   obtain ⟨x, hx, hqx⟩ := y99 hb qp hf (hd p hp c hc) (by omega)
   obtain ⟨y, hy, hqy⟩ := y5s qi hqx (hd i hi c hc) (y8j hf (hd p hp c hc)) (by omega)
   have hx : z3a fuel (b.1, (b.2.1, b.2.2)) (((g.getD p []).getD c (false, ([], []))).1, (((g.getD p []).getD c (false, ([], []))).2)) = some x := hx
   simp only [Int.toNat_natCast]
   rw [if_pos (by simpa using hc), if_pos (by omega), if_pos (show ((c : Nat) : Int) < (((g.getD i ([] : List Qd)).length : Nat) : Int) by omega), if_pos (by omega), if_pos (by omega), if_pos (by omega), if_pos (show ((c : Nat) : Int) < (((g.getD p ([] : List Qd)).length : Nat) : Int) by omega), hx, Option.bind_some, hy, Option.bind_some, if_pos (by omega), if_pos (show ((c : Nat) : Int) < (((g.getD i ([] : List Qd)).length : Nat) : Int) by omega), e4]
   refine gsF hR hC hK hp hi hne hf hd hb m (c + 1) _ (by omega) (by omega) ((hg.set hi hc hqy).ext fun r _ q _ => ?_)
   unfold sbt
   by_cases e1 : r = i
   ·by_cases e2 : q = c
    ·rw [if_pos ⟨e1, e2⟩, if_pos ⟨e1, by omega⟩, e2]
    ·rw [if_neg fun h => e2 h.2]
     by_cases e3 : q < c
     ·rw [if_pos ⟨e1, e3⟩, if_pos ⟨e1, by omega⟩]
     ·rw [if_neg fun h => e3 h.2, if_neg fun h => by have := h.2; omega]
   ·rw [if_neg fun h => e1 h.1, if_neg fun h => e1 h.1, if_neg fun h => e1 h.1]
  ·rw [if_neg (by simpa using hc)]
   have : c = C := by omega
   subst this
   exact ⟨g, rfl, hg⟩
theorem goF {m n N K : Nat} (hm : m ≤ 20) (hN : N ≤ 100) (hK : K ≤ 100000) {M : Nat → Nat → Rat} {c : Nat → Rat} {β : Nat → Nat} {T : Nat → Nat → Rat} (hb : Bas m N M (fun i r => M i (β r)) T) (hl : ∀ j, j < m → β j < N) (hc : ∀ s, s < N → Dr K (c s)) (hT : ∀ r, r < m → ∀ s, s < N → Dr K (T r s)) :
  ∀ (f i : Nat) (g : List (List Qd)), i ≤ m → m + 1000 < f + i → QG (m + 1) N (gl m c β T i) g → ∃ g', z09 f m (m : Int) (i : Int) (n : Int) (m : Int) g (bL m β) = some (.exit ((n : Int), (m : Int), g', bL m β, ())) ∧ QG (m + 1) N (gol m c β T) g'
 | 0, i, g, h1, h2, _ => by omega
 | f + 1, i, g, h1, h2, hg => by
  have lg := hg.1
  have lb := z5a (m := m) (β := β)
  simp only [z09]
  by_cases hi : i < m
  ·have e4 : IntKind.i64.wrap ((i : Int) + 1) = ((i + 1 : Nat) : Int) := by rw [w64 _ (by omega) (by omega)]; omega
   have hrm := hg.2 m (by omega)
   have lm := hrm.1
   have hbi := hl i hi
   have qm := hrm.at hbi
   have ef : gl m c β T i m (β i) = -(c (β i)) := by
    unfold gl
    rw [if_pos rfl, z1r (g := fun _ => 0) fun j hj => by rw [hb.unit (by omega) hi hbi]; unfold one; rw [if_neg (by omega)]; grind, z43]; grind
   rw [ef] at qm
   have hnext : ∀ r, r < m + 1 → ∀ s, s < N → gl m c β T (i + 1) r s = if r = m then gl m c β T i m s - -(c (β i)) * T i s else T r s := fun r hr s hs => by
    unfold gl
    by_cases e : r = m
    ·rw [if_pos e, if_pos e, fs, if_pos rfl]; grind
    ·rw [if_neg e, if_neg e]
   have e0 : ∀ r, r ≠ m → ∀ s, gl m c β T i r s = T r s := fun r hr s => by unfold gl; rw [if_neg hr]
   simp only [Int.toNat_natCast]
   rw [if_pos (by simpa using hi), if_pos (by omega), if_pos (by omega), y85 hi, if_pos (by omega), Int.toNat_natCast, if_pos (show ((β i : Nat) : Int) < (((g.getD m ([] : List Qd)).length : Nat) : Int) by omega), z8f qm, Option.bind_some, e4]
   by_cases z : c (β i) = 0
   ·rw [if_pos (zl2.2 (by grind))]
    refine goF hm hN hK hb hl hc hT f (i + 1) g (by omega) (by omega) (hg.ext fun r hr s hs => ?_)
    rw [hnext r hr s hs]
    by_cases e : r = m
    ·rw [if_pos e, z, e]; grind
    ·rw [if_neg e, e0 r e]
   ·rw [if_neg fun h => z (by have := zl2.1 h; grind)]
    have hdr := wf4 (i := i) (by omega) hm hl hc hT
    obtain ⟨g', h3, h4⟩ := gsF (u := (n : Int)) (v := (m : Int)) (bl := bL m β) (p := i) (i := m) (V := gl m c β T i) (R := m + 1) (C := N) (K := 50 * K + 100) (by omega) hN (by omega) (by omega) (by omega) (by omega) (z80 (by omega) (zp9 (hc _ hbi))) hdr qm f 0 g (by omega) (by omega) (hg.ext fun r _ q _ => by unfold sbt; rw [if_neg fun h => by have := h.2; omega])
    have h3 : z0e f m (i : Int) (((g.getD m ([] : List Qd)).length : Nat) : Int) 0 (n : Int) (m : Int) g (((g.getD m []).getD (β i) (false, ([], []))).1) ((((g.getD m []).getD (β i) (false, ([], []))).2).1) ((((g.getD m []).getD (β i) (false, ([], []))).2).2) (bL m β) = some (.exit (m, (n : Int), (m : Int), g', (((g.getD m []).getD (β i) (false, ([], []))).1), ((((g.getD m []).getD (β i) (false, ([], []))).2).1), ((((g.getD m []).getD (β i) (false, ([], []))).2).2), bL m β, ())) := by rw [lm]; exact h3
    rw [h3]
    refine goF hm hN hK hb hl hc hT f (i + 1) g' (by omega) (by omega) (h4.ext fun r hr s hs => ?_)
    rw [hnext r hr s hs]
    unfold sbt
    by_cases e : r = m
    ·rw [if_pos ⟨e, hs⟩, if_pos e, e0 i (by omega)]
    ·rw [if_neg fun h => e h.1, if_neg e, e0 r e]
  ·rw [if_neg (by simpa using hi)]
   have : i = m := by omega
   subst this
   exact ⟨g, rfl, hg.ext w88⟩
end Go.Proofs.YtcdcoeofhnfjdaaDoor
