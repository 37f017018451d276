/- The simplex method from a first solution on. -/
import Derived.Test.YtcdcoeofhnfjdaaDoorSd
namespace Go.Proofs.YtcdcoeofhnfjdaaDoor
open Go Vm
def tl (ct : List ByteArray) (u v : Int) (g : List (List Qd)) (bl : List Int) : Option ((Int × ((List ByteArray) × ((List ByteArray) × ((List ByteArray) × ByteArray)))) × Int) :=
 (z31 fuel ct).bind fun r6 =>
 if (0 : Int) ≤ IntKind.i64.wrap ((IntKind.i64.wrap (u + v)) + 2) then
  if IntKind.i64.wrap ((IntKind.i64.wrap (u + v)) + 2) ≤ IntKind.i64.wrap ((IntKind.i64.wrap (u + v)) + 2) then
   if (IntKind.i64.wrap ((IntKind.i64.wrap (u + v)) + 2)) * 56 ≤ 281474976710656 then
    match z0t fuel (r6.length : Int) 0 (List.replicate ((IntKind.i64.wrap ((IntKind.i64.wrap (u + v)) + 2)).toNat) ((false, ([], [])) : Qd)) r6 with
    | none => none
    | some (.exit d7) =>
     if (0 : Int) ≤ v then
      if v ≤ g.length then
       if ((g.take v.toNat).length + 1) * 24 ≤ 140737488355328 then
        match z0n fuel ((g.take v.toNat).length) (bl.length : Int) 0 u v ((g.take v.toNat) ++ [d7.1]) bl with
        | none => none
        | some (.exit d8) =>
         match z11 fuel (IntKind.i64.wrap (d8.1 + d8.2.1)) d8.1 d8.2.1 d8.2.2.1 d8.2.2.2.1 with
         | none => none
         | some (.exit d9) =>
          none
         | some (.ret d9) =>
          if (0 : Int) ≤ d9.2.1 then
           if d9.2.1 ≤ d9.2.1 then
            if d9.2.1 * 56 ≤ 281474976710656 then
             match z0j fuel (d9.2.2.2.2.1.length : Int) 0 d9.2.1 d9.2.2.1 (List.replicate d9.2.1.toNat ((false, ([], [])) : Qd)) d9.2.2.2.2.1 d9.2.2.2.1 with
             | none => none
             | some (.exit d10) =>
              if decide (d9.1 < 0) = true then
               if (0 : Int) ≤ d10.2.2.1 then
                if d10.2.2.1 < d10.2.2.2.2.1.length then
                 if (0 : Int) ≤ IntKind.i64.wrap (d10.2.1 + d10.2.2.1) then
                  if IntKind.i64.wrap (d10.2.1 + d10.2.2.1) ≤ (d10.2.2.2.2.1.getD d10.2.2.1.toNat []).length then
                   if (0 : Int) ≤ d10.2.1 then
                    if d10.2.1 ≤ IntKind.i64.wrap (d10.2.1 + d10.2.2.1) then
                     if (0 : Int) ≤ d10.2.2.1 then
                      if d10.2.2.1 < d10.2.2.2.2.1.length then
                       (z1m fuel (d10.2.2.2.2.1, (d10.2.2.2.1, (d10.2.1, d10.2.2.1)))).bind fun r11 =>
                       if (0 : Int) ≤ r11 then
                        if r11 < (d10.2.2.2.2.1.getD d10.2.2.1.toNat []).length then
                         (z13 fuel 0 d10.1 (((d10.2.2.2.2.1.getD d10.2.2.1.toNat []).take (IntKind.i64.wrap (d10.2.1 + d10.2.2.1)).toNat).drop d10.2.1.toNat) [] (((d10.2.2.2.2.1.getD d10.2.2.1.toNat []).getD r11.toNat (false, ([], []))).1, (((d10.2.2.2.2.1.getD d10.2.2.1.toNat []).getD r11.toNat (false, ([], []))).2))).bind fun r12 =>
                         some (r12.1, r12.2)
                        else none
                       else none
                      else none
                     else none
                    else none
                   else none
                  else none
                 else none
                else none
               else none
              else
               if (0 : Int) ≤ d10.2.1 then
                if d10.2.1 ≤ d10.2.1 then
                 if d10.2.1 * 56 ≤ 281474976710656 then
                  if decide (d9.1 < d10.2.1) = true then
                   (z6z fuel 1).bind fun r13 =>
                   if (0 : Int) ≤ d9.1 then
                    if d9.1 < (List.replicate d10.2.1.toNat ((false, ([], [])) : Qd)).length then
                     match z1j fuel d9.1 (d10.2.2.2.1.length : Int) 0 d10.2.1 d10.2.2.1 ((List.replicate d10.2.1.toNat ((false, ([], [])) : Qd)).set d9.1.toNat r13) d10.2.2.2.1 d10.2.2.2.2.1 with
                     | none => none
                     | some (.exit d14) =>
                      (z13 fuel 2 d10.1 [] d14.1 (false, ([], []))).bind fun r15 =>
                      some (r15.1, r15.2)
                     | some (.ret d14) =>
                      none
                    else none
                   else none
                  else
                   match z1j fuel d9.1 (d10.2.2.2.1.length : Int) 0 d10.2.1 d10.2.2.1 (List.replicate d10.2.1.toNat ((false, ([], [])) : Qd)) d10.2.2.2.1 d10.2.2.2.2.1 with
                   | none => none
                   | some (.exit d16) =>
                    (z13 fuel 2 d10.1 [] d16.1 (false, ([], []))).bind fun r17 =>
                    some (r17.1, r17.2)
                   | some (.ret d16) =>
                    none
                 else none
                else none
               else none
             | some (.ret d10) =>
              none
            else none
           else none
          else none
        | some (.ret d8) =>
         none
       else none
      else none
     else none
    | some (.ret d7) =>
     none
   else none
  else none
 else none
def xt (n : Nat) (x : Nat → Rat) : List ByteArray := ((List.range n).map x).map rt
theorem y6y {n K : Nat} {x : Nat → Rat} {qs : List Qd} (h : QF n x qs) (hn : n ≤ 1000) (h1 : 1 ≤ K) (hK : K ≤ 2000) (hd : ∀ i, i < n → Dr K (x i)) : z5z fuel qs = some (xt n x, 0) := by
 have e : ∀ i, i < n → ((List.range n).map x).getD i 0 = x i := fun i hi => y5t hi
 rcases w7g h.list (K := K) (by omega) (by rw [List.length_map, List.length_range]; omega) (fun i hi => by
   rw [List.length_map, List.length_range] at hi; rw [e i hi]; exact hd i hi) with ⟨⟨j, hj, hb⟩, _⟩ | ⟨_, h2⟩
 ·rw [List.length_map, List.length_range] at hj
  rw [e j hj] at hb
  exact absurd (yl3 (hd j hj) h1 hK) hb
 ·exact h2
theorem w5h (x : Nat → Rat) : QF 0 x [] := ⟨rfl, fun i hi => by omega⟩
theorem yw9 {n m K : Nat} {x y : Nat → Rat} {v : Rat} {xs ys : List Qd} {q : Qd} (hx : QF n x xs) (hy : QF m y ys) (hq : QR v q) (hn : n ≤ 1000) (hm : m ≤ 1000) (h1 : 1 ≤ K) (hK : K ≤ 2000) (dx : ∀ i, i < n → Dr K (x i)) (dy : ∀ i, i < m → Dr K (y i)) (dv : Dr K v) :
  z13 fuel 0 xs ys [] q = some ((0, (xt n x, (xt m y, ([], rt v)))), 0) := by
 unfold z13
 have e3 := y6y (w5h fun _ => 0) (by omega) h1 hK (fun i hi => by omega)
 rw [y6y hx hn h1 hK dx, Option.bind_some, if_neg (by simp), y6y hy hm h1 hK dy, Option.bind_some, if_neg (by simp), e3, Option.bind_some, if_neg (by simp), yg0 hq dv (by omega), if_pos (yl3 dv h1 hK), Option.bind_some, if_neg (by simp), if_pos (by simp), w5a hq dv (by omega), Option.bind_some]
 rfl
theorem yx1 {m K : Nat} {y : Nat → Rat} {ys : List Qd} (hy : QF m y ys) (hm : m ≤ 1000) (h1 : 1 ≤ K) (hK : K ≤ 2000) (dy : ∀ i, i < m → Dr K (y i)) :
  z13 fuel 1 [] ys [] (false, ([], [])) = some ((1, ([], (xt m y, ([], ByteArray.empty)))), 0) := by
 unfold z13
 have e3 := y6y (w5h fun _ => 0) (by omega) h1 hK (fun i hi => by omega)
 have d0 : Dr K 0 := zu3 h1
 rw [e3, Option.bind_some, if_neg (by simp), y6y hy hm h1 hK dy, Option.bind_some, if_neg (by simp), Option.bind_some, if_neg (by simp), yg0 y0t d0 (by omega), if_pos (yl3 d0 h1 hK), Option.bind_some, if_neg (by simp), if_neg (by simp)]
 rfl
theorem yx0 {n K : Nat} {x z : Nat → Rat} {xs zs : List Qd} (hx : QF n x xs) (hz : QF n z zs) (hn : n ≤ 1000) (h1 : 1 ≤ K) (hK : K ≤ 2000) (dx : ∀ i, i < n → Dr K (x i)) (dz : ∀ i, i < n → Dr K (z i)) :
  z13 fuel 2 xs [] zs (false, ([], [])) = some ((2, (xt n x, ([], (xt n z, ByteArray.empty)))), 0) := by
 unfold z13
 have e3 := y6y (w5h fun _ => 0) (by omega) h1 hK (fun i hi => by omega)
 have d0 : Dr K 0 := zu3 h1
 rw [y6y hx hn h1 hK dx, Option.bind_some, if_neg (by simp), e3, Option.bind_some, if_neg (by simp), y6y hz hn h1 hK dz, Option.bind_some, if_neg (by simp), yg0 y0t d0 (by omega), if_pos (yl3 d0 h1 hK), Option.bind_some, if_neg (by simp), if_neg (by simp)]
 rfl
def Sol (m n : Nat) (A : Nat → Nat → Rat) (b c : Nat → Rat) (out : (Int × ((List ByteArray) × ((List ByteArray) × ((List ByteArray) × ByteArray)))) × Int) : Prop :=
 (∃ (x y : Nat → Rat) (v : Rat), (∀ j, j < n → Dr 1400 (x j) ∧ 0 ≤ x j) ∧ (∀ j, j < m → Dr 1400 (y j) ∧ 0 ≤ y j) ∧ Dr 1400 v ∧ (∀ i, i < m → fs (fun k => A i k * x k) n ≤ b i) ∧ (∀ k, k < n → c k ≤ fs (fun j => y j * A j k) m) ∧
     fs (fun j => c j * x j) n = v ∧ fs (fun j => y j * b j) m = v ∧ out = ((0, (xt n x, (xt m y, ([], rt v)))), 0)) ∨
 (∃ y : Nat → Rat, (∀ j, j < m → Dr 1400 (y j) ∧ 0 ≤ y j) ∧ (∀ k, k < n → 0 ≤ fs (fun j => y j * A j k) m) ∧ fs (fun j => y j * b j) m < 0 ∧ out = ((1, ([], (xt m y, ([], ByteArray.empty)))), 0)) ∨
 (∃ x z : Nat → Rat, (∀ j, j < n → Dr 1400 (x j) ∧ 0 ≤ x j) ∧ (∀ j, j < n → Dr 1400 (z j) ∧ 0 ≤ z j) ∧ (∀ i, i < m → fs (fun k => A i k * x k) n ≤ b i) ∧ (∀ i, i < m → fs (fun k => A i k * z k) n ≤ 0) ∧ 0 < fs (fun j => c j * z j) n ∧
     out = ((2, (xt n x, ([], (xt n z, ByteArray.empty)))), 0))
theorem w6a {β : Nat → Nat} {T : Nat → Nat → Rat} {s v m : Nat} (hinj : ∀ i j, i < m → j < m → β i = β j → i = j) : ∀ i, i ≤ m → ((∀ j, j < i → β j ≠ v) ∧ xv i β T s v = 0) ∨ ∃ j, j < i ∧ β j = v ∧ xv i β T s v = T j s
 | 0, _ => .inl ⟨fun j hj => by omega, rfl⟩
 | i + 1, hi => by
  have e : xv (i + 1) β T s v = xv i β T s v + if β i = v then T i s else 0 := rfl
  rcases w6a hinj i (by omega) with ⟨h1, h2⟩ | ⟨j, h1, h2, h3⟩
  ·by_cases c : β i = v
   ·exact .inr ⟨i, by omega, c, by rw [e, h2, if_pos c]; grind⟩
   ·exact .inl ⟨fun j hj => by
      by_cases e : j = i
      · rw [e]; exact c
      · exact h1 j (by omega), by rw [e, h2, if_neg c]; grind⟩
  ·refine .inr ⟨j, by omega, h2, ?_⟩
   rw [e, h3, if_neg fun h => by have := hinj i j (by omega) (by omega) (h.trans h2.symm); omega]; grind
theorem wh6 {K : Nat} {β : Nat → Nat} {T : Nat → Nat → Rat} {s v m : Nat} (h1 : 1 ≤ K) (hinj : ∀ i j, i < m → j < m → β i = β j → i = j) (hd : ∀ i, i < m → Dr K (T i s)) : Dr K (xv m β T s v) := by
 rcases w6a (T := T) (s := s) (v := v) hinj m (Nat.le_refl _) with ⟨_, h⟩ | ⟨j, h2, _, h⟩
 ·rw [h]; exact zu3 h1
 ·rw [h]; exact hd j h2
theorem w8n {N a k : Nat} {f : Nat → Rat} {qs : List Qd} (h : QF N f qs) (ha : a + k ≤ N) : QF k (fun j => f (a + j)) ((qs.take (a + k)).drop a) := by
 have hl := h.1
 refine ⟨by rw [List.length_drop, List.length_take]; omega, fun j hj => ?_⟩
 have := h.2 (a + j) (by omega)
 rw [List.getD_eq_getElem?_getD] at this ⊢
 rw [List.getElem?_drop, List.getElem?_take, if_pos (by omega)]
 exact this
theorem QG.take {R C m : Nat} {T : Nat → Nat → Rat} {g : List (List Qd)} (h : QG R C T g) (hm : m ≤ R) : QG m C T (g.take m) := by
 have hl := h.1
 refine ⟨by rw [List.length_take]; omega, fun i hi => ?_⟩
 have := h.2 i (by omega)
 rw [List.getD_eq_getElem?_getD] at this ⊢
 rw [List.getElem?_take, if_pos (by omega)]
 exact this
theorem wh0 {m n K R : Nat} (hm : m ≤ 6) (hn : n ≤ 6) (hK : K = 1393) {A : Nat → Nat → Rat} {b : Nat → Rat} {cs : List Rat} (hcl : cs.length = n) (hco : ∀ r, r ∈ cs → OkR r) (hcd : ∀ j, j < n → Dr 12 (cs.getD j 0))
  (hgood : Good (m + 1) (n + m + 2 + 1) K (gM m (n + m + 2) (lpM m n A b) (cst n fun j => cs.getD j 0))) {β : Nat → Nat} {T : Nat → Nat → Rat} (hb : Bas m (n + m + 2) (lpM m n A b) (fun i r => lpM m n A b i (β r)) T)
  (hl : ∀ i, i < m → β i < n + m) (hpos : ∀ i, i < m → 0 ≤ T i (n + m + 1)) (hT : ∀ r, r < m → ∀ s, s < n + m + 2 → Dr K (T r s)) {g : List (List Qd)} (hR : m ≤ R) (hR' : R ≤ 7) (hg : QG R (n + m + 2) T g) :
  ∃ out, tl (cs.map rt) (n : Int) (m : Int) g (bL m β) = some out ∧ Sol m n A b (fun j => cs.getD j 0) out := by
 have hf := z82 (n := 2 ^ 100) (by decide)
 have lg := hg.1
 have lb := z5a (m := m) (β := β)
 have e5 : IntKind.i64.wrap ((n : Int) + (m : Int)) = ((n + m : Nat) : Int) := by rw [w64 _ (by omega) (by omega)]; omega
 have e6 : IntKind.i64.wrap (((n + m : Nat) : Int) + 2) = ((n + m + 2 : Nat) : Int) := by rw [w64 _ (by omega) (by omega)]; omega
 obtain ⟨cl, hc1, hc2⟩ := yo7 cs (by omega) hco
 have hc2 := QF.of hc2
 rw [hcl] at hc2
 have lcl := hc2.1
 obtain ⟨l, hl1, hl2⟩ := gnS (L := n) (C := n + m + 2) (by omega) (by omega) hc2 fuel 0 (List.replicate (n + m + 2) (false, ([], []))) (by omega) (by omega) ((QF.rep (n + m + 2)).ext fun j hj => by rw [if_neg (by omega)])
 have ltk : (g.take m).length = m := by rw [List.length_take]; omega
 have hM : ∀ i, i < m → ∀ j, j < m → lpM m n A b i (n + j) = one i j := fun i _ j hj => ya0 hj
 have hl' : ∀ i, i < m → β i < n + m + 2 := fun i hi => by have := hl i hi; omega
 have hgl : QG (m + 1) (n + m + 2) (gl m (cst n fun j => cs.getD j 0) β T 0) (g.take m ++ [l]) := by
  have h0 : QG m (n + m + 2) (gl m (cst n fun j => cs.getD j 0) β T 0) (g.take m) := (hg.take hR).ext fun r hr s _ => by unfold gl; rw [if_neg (by omega)]
  refine h0.snoc (hl2.ext fun s _ => ?_)
  unfold gl cst
  rw [if_pos rfl]
  show (if s < n then -(cs.getD s 0) else 0) = -(if s < n then cs.getD s 0 else 0) - 0
  by_cases e : s < n
  ·rw [if_pos e, if_pos e]; grind
  ·rw [if_neg e, if_neg e]; grind
 obtain ⟨g1, q1, q2⟩ := goS (m := m) (n := n) (N := n + m + 2) (K := K) (by omega) (by omega) (by omega) hb hl' (fun s _ => by
   unfold cst
   by_cases e : s < n
   · rw [if_pos e]; exact z80 (by omega) (hcd s e)
   · rw [if_neg e]; exact zu3 (by omega)) hT fuel 0 _ (by omega) (by omega) hgl
 have htab := w62 (n := n) (cst n fun j => cs.getD j 0) hb (by omega) hM hl'
 have hch : Chain m n (n + m + 2) (n + m) (n + m + 1) (lpM m n A b) (cst n fun j => cs.getD j 0) 0 (fun _ => β) (fun _ => gol m (cst n fun j => cs.getD j 0) β T) (fun _ => 0) (fun _ => 0) :=
  ⟨fun _ _ => htab, fun _ _ i hi => by unfold gol; rw [if_neg (by omega)]; exact hpos i hi, fun _ _ i hi => hl i hi, fun j hj => by omega, fun j hj => by omega, fun j hj => by omega, fun j hj => by omega⟩
 have hp2 : 2 ^ (n + m) ≤ 2 ^ 12 := Nat.pow_le_pow_right (by decide) (by omega)
 obtain ⟨r, β', T', g', r1, r2, r3, r4, r5, r6⟩ := runA (K := K) (m := m) (n := n) (cols := n + m) (by omega) (by omega) (by omega) hM hgood (by omega) fuel 0 _ _ _ _ hch (by omega) g1 q2
 have hdr := r2.dr hgood
 have hbas := r2.bas
 have hinj : ∀ i j, i < m → j < m → β' i = β' j → i = j := fun i j hi hj e => hbas.inj hi hj e
 have lg' := r5.1
 have lrow := (r5.2 m (by omega)).1
 have lb' := z5a (m := m) (β := β')
 obtain ⟨x', x1, x2⟩ := zv4 (R := m + 1) (m := m) (n := n) (by omega) (by omega) (by omega) (by omega) (β := β') r5 hinj fuel 0 (List.replicate n (false, ([], []))) (by omega) (by omega) (QF.rep n)
 have dx : ∀ j, j < n → Dr K (xv m β' T' (n + m + 1) j) := fun j _ => wh6 (by omega) hinj fun i hi => hdr i (by omega) _ (by omega)
 have px := yq8 (m := m) (β := β') (T := T') (s := n + m + 1) r3
 have hfeas := w9w r2 r4 r3
 have hl1 : z0t fuel (cl.length : Int) 0 (List.replicate (n + m + 2) ((false, ([], [])) : Qd)) cl = some (.exit (l, cl, ())) := by rw [lcl]; exact hl1
 have q1 : z0n fuel ((g.take m).length) ((bL m β).length : Int) 0 (n : Int) (m : Int) (g.take m ++ [l]) (bL m β) = some (.exit ((n : Int), (m : Int), g1, bL m β, ())) := by rw [ltk, lb]; exact q1
 have x1 : z0j fuel ((bL m β').length : Int) 0 (n : Int) (m : Int) (List.replicate n ((false, ([], [])) : Qd)) (bL m β') g' = some (.exit (x', (n : Int), (m : Int), bL m β', g', ())) := by rw [lb']; exact x1
 unfold tl
 rw [hc1, Option.bind_some, e5, e6]
 simp only [Int.toNat_natCast]
 rw [if_pos (by omega), if_pos (by omega), if_pos (by omega), hl1]
 simp only
 rw [if_pos (by omega), if_pos (by omega), if_pos (by omega), q1]
 simp only
 rw [e5, r1]
 simp only [Int.toNat_natCast]
 rw [if_pos (show (0 : Int) ≤ (n : Int) by omega), if_pos (show (n : Int) ≤ (n : Int) by omega), if_pos (show (n : Int) * 56 ≤ 281474976710656 by omega), x1]
 simp only [Int.toNat_natCast]
 rcases r6 with ⟨rfl, hq⟩ | ⟨q, rfl, hq1, hq2, hq3⟩
 ·obtain ⟨y1, y2, y3, y4⟩ := w9v r2 r4 hq
  have hy := w8n (r5.2 m (by omega)) (a := n) (k := m) (by omega)
  have hv := (r5.2 m (by omega)).at (i := n + m + 1) (by omega)
  have hres := yw9 (K := K) x2 hy hv (by omega) (by omega) (by omega) (by omega) dx (fun j hj => hdr m (by omega) _ (by omega)) (hdr m (by omega) _ (by omega))
  rw [if_pos (show decide ((-1 : Int) < 0) = true by decide), e5]
  simp only [Int.toNat_natCast]
  rw [if_pos (show (0 : Int) ≤ (m : Int) by omega), if_pos (show (m : Int) < ((g'.length : Nat) : Int) by omega), if_pos (show (0 : Int) ≤ ((n + m : Nat) : Int) by omega), if_pos (show ((n + m : Nat) : Int) ≤ (((g'.getD m ([] : List Qd)).length : Nat) : Int) by omega), if_pos (show (0 : Int) ≤ (n : Int) by omega), if_pos (show (n : Int) ≤ ((n + m : Nat) : Int) by omega), if_pos (show (0 : Int) ≤ (m : Int) by omega), if_pos (show (m : Int) < ((g'.length : Nat) : Int) by omega), y9d (by omega) (by omega), Option.bind_some, if_pos (by omega), if_pos (show ((n + m + 1 : Nat) : Int) < (((g'.getD m ([] : List Qd)).length : Nat) : Int) by omega)]
  simp only [Int.toNat_natCast]
  rw [hres, Option.bind_some]
  exact ⟨_, rfl, .inl ⟨_, _, _, fun j hj => ⟨z80 (by omega) (dx j hj), px j⟩, fun j hj => ⟨z80 (by omega) (hdr m (by omega) _ (by omega)), y1 j hj⟩, z80 (by omega) (hdr m (by omega) _ (by omega)), hfeas, y2, y3, y4, rfl⟩⟩
 ·have hbk : ∀ i, i < m → β' i ≠ q := fun i hi e => by have := r2.zero i hi; rw [e] at this; grind
  obtain ⟨z1, z2, z3⟩ := w9x r2 r4 hq1 hq2 hq3
  have dz : ∀ j, j < n → Dr K (ryv m q β' T' j) := fun j _ => by
   unfold ryv
   by_cases e : j = q
   ·rcases w6a (T := T') (s := q) (v := j) hinj m (Nat.le_refl _) with ⟨_, h⟩ | ⟨i, h2, h3, _⟩
    ·rw [h, if_pos e]
     have : (1 : Rat) - 0 = 1 := by grind
     rw [this]
     exact w3v (n := 1) (Nat.lt_of_lt_of_le (by decide : 1 < 10 ^ 1) (Nat.pow_le_pow_right (by decide) (by omega))) (by omega)
    ·exact absurd (h3.trans e) (hbk i h2)
   ·rw [if_neg e]
    have : (0 : Rat) - xv m β' T' q j = -(xv m β' T' q j) := by grind
    rw [this]
    exact zp9 (wh6 (by omega) hinj fun i hi => hdr i (by omega) _ (by omega))
  have fin : ∀ zs, QF n (ryv m q β' T') zs → ∃ out, ((z13 fuel 2 x' [] zs (false, ([], []))).bind fun r => some (r.1, r.2)) = some out ∧ Sol m n A b (fun j => cs.getD j 0) out := fun zs hz => by
   rw [yx0 (K := K) x2 hz (by omega) (by omega) (by omega) dx dz, Option.bind_some]
   exact ⟨_, rfl, .inr (.inr ⟨_, _, fun j hj => ⟨z80 (by omega) (dx j hj), px j⟩, fun j hj => ⟨z80 (by omega) (dz j hj), z1 j⟩, hfeas, z2, z3, rfl⟩)⟩
  rw [if_neg (show ¬ decide (((q : Nat) : Int) < 0) = true by rw [decide_eq_true_eq]; omega), if_pos (show (0 : Int) ≤ (n : Int) by omega), if_pos (show (n : Int) ≤ (n : Int) by omega), if_pos (show (n : Int) * 56 ≤ 281474976710656 by omega)]
  have lrep : (List.replicate n ((false, ([], [])) : Qd)).length = n := List.length_replicate
  by_cases c : q < n
  ·obtain ⟨o1, i1, i2⟩ := w8b
   obtain ⟨zs, w1, w2⟩ := y7m (R := m + 1) (m := m) (n := n) (k := q) (by omega) (by omega) (by omega) (by omega) (by omega) r5 hinj hbk fuel 0 ((List.replicate n (false, ([], []))).set q o1) (by omega) (by omega) (((QF.rep n).set c i2).ext fun v _ => by
     show (if v = q then 1 else 0) = (if v = q then 1 else 0) - 0
     grind)
   have w1 : z1j fuel (q : Int) ((bL m β').length : Int) 0 (n : Int) (m : Int) ((List.replicate n ((false, ([], [])) : Qd)).set q o1) (bL m β') g' = some (.exit (zs, (n : Int), (m : Int), bL m β', g', ())) := by rw [lb']; exact w1
   rw [if_pos (show decide (((q : Nat) : Int) < (n : Int)) = true by rw [decide_eq_true_eq]; omega), i1, Option.bind_some, if_pos (by omega), if_pos (show ((q : Nat) : Int) < (((List.replicate n ((false, ([], [])) : Qd)).length : Nat) : Int) by omega)]
   simp only [Int.toNat_natCast]
   rw [w1]
   exact fin zs w2
  ·obtain ⟨zs, w1, w2⟩ := y7m (R := m + 1) (m := m) (n := n) (k := q) (by omega) (by omega) (by omega) (by omega) (by omega) r5 hinj hbk fuel 0 (List.replicate n (false, ([], []))) (by omega) (by omega) ((QF.rep n).ext fun v hv => by
     show (0 : Rat) = (if v = q then 1 else 0) - 0
     rw [if_neg (by omega)]; grind)
   have w1 : z1j fuel (q : Int) ((bL m β').length : Int) 0 (n : Int) (m : Int) (List.replicate n ((false, ([], [])) : Qd)) (bL m β') g' = some (.exit (zs, (n : Int), (m : Int), bL m β', g', ())) := by rw [lb']; exact w1
   rw [if_neg (show ¬ decide (((q : Nat) : Int) < (n : Int)) = true by rw [decide_eq_true_eq]; omega), w1]
   exact fin zs w2
end Go.Proofs.YtcdcoeofhnfjdaaDoor
