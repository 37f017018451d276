/- The pivot of the simplex method on a tableau: its three copies. -/
import Derived.Test.YtcdcoeofhnfjdaaDoorYd
namespace Go.Proofs.YtcdcoeofhnfjdaaDoor
open Go Vm
theorem pdA {R C K p k : Nat} (hR : R ≤ 100) (hC : C ≤ 100) (hK : K ≤ 4000000) (hp : p < R) {T : Nat → Nat → Rat} (h0 : T p k ≠ 0) (hk : k < C) (hd : ∀ r, r < R → ∀ q, q < C → Dr K (T r q)) {b : Qd} (hb : QR (T p k) b) {u v : Int} {bl : List Int} : ∀ (m c : Nat) (g : List (List Qd)), c ≤ C → C < m + c → QG R C (dv p k c T) g →
  ∃ g', z0k m (p : Int) (C : Int) (c : Int) u v b.1 b.2.1 b.2.2 g bl = some (.exit (u, v, b.1, b.2.1, b.2.2, g', bl, ())) ∧ QG R C (dv p k C T) g'
 | 0, c, g, h1, h2, hg => by omega
 | m + 1, c, g, h1, h2, hg => by
  have lg := hg.1
  simp only [z0k]
  by_cases hc : c < C
  ·have e4 : IntKind.i64.wrap ((c : Int) + 1) = ((c + 1 : Nat) : Int) := by rw [w64 _ (by omega) (by omega)]; omega
   have hrow := hg.2 p hp
   have lr := hrow.1
   have hq := hrow.at hc
   have e : dv p k c T p c = T p c := by unfold dv; rw [if_neg fun h => Nat.lt_irrefl _ h.2]
   rw [e] at hq
   obtain ⟨y, hy, hqy⟩ := yg9 hq hb (hd p hp c hc) (hd p hp k hk) (by omega) h0
   have hy : z5m fuel (((g.getD p []).getD c (false, ([], []))).1, (((g.getD p []).getD c (false, ([], []))).2)) (b.1, (b.2.1, b.2.2)) = some y := hy
   rw [if_pos (by simpa using hc), if_pos (by omega), if_pos (by omega), if_pos (by omega), if_pos (by omega), if_pos (by omega), Int.toNat_natCast, if_pos (by omega), Int.toNat_natCast, hy, Option.bind_some, if_pos (by omega), if_pos (by omega), e4]
   refine pdA hR hC hK hp h0 hk hd hb m (c + 1) _ (by omega) (by omega) ((hg.set hp hc hqy).ext fun r _ q _ => ?_)
   unfold dv
   by_cases e1 : r = p
   ·by_cases e2 : q = c
    ·rw [if_pos ⟨e1, e2⟩, if_pos ⟨e1, by omega⟩, e2]
    ·rw [if_neg fun h => e2 h.2]
     by_cases e3 : q < c
     ·rw [if_pos ⟨e1, e3⟩, if_pos ⟨e1, by omega⟩]
     ·rw [if_neg fun h => e3 h.2, if_neg fun h => by have := h.2; omega]
   ·rw [if_neg fun h => e1 h.1, if_neg fun h => e1 h.1, if_neg fun h => e1 h.1]
  ·rw [if_neg (by simpa using hc)]
   have : c = C := by omega
   subst this
   exact ⟨g, rfl, hg⟩
theorem psA {R C K p i : Nat} (hR : R ≤ 100) (hC : C ≤ 100) (hK : K ≤ 8000000) (hp : p < R) (hi : i < R) (hne : i ≠ p) {V : Nat → Nat → Rat} {f : Rat} (hf : Dr K f) (hd : ∀ r, r < R → ∀ q, q < C → Dr K (V r q)) {b : Qd} (hb : QR f b) {u v : Int} {bl : List Int} : ∀ (m c : Nat) (g : List (List Qd)), c ≤ C → C < m + c → QG R C (sbt p i c f V) g →
  ∃ g', z0h m (p : Int) (i : Int) (C : Int) (c : Int) u v b.1 b.2.1 b.2.2 g bl = some (.exit (u, v, b.1, b.2.1, b.2.2, g', bl, ())) ∧ QG R C (sbt p i C f V) g'
 | 0, c, g, h1, h2, hg => by omega
 | m + 1, c, g, h1, h2, hg => by
  have lg := hg.1
  simp only [z0h]
  by_cases hc : c < C
  ·have e4 : IntKind.i64.wrap ((c : Int) + 1) = ((c + 1 : Nat) : Int) := by rw [w64 _ (by omega) (by omega)]; omega
   have hri := hg.2 i hi
   have hrp := hg.2 p hp
   have li := hri.1
   have lp := hrp.1
   have qi := hri.at hc
   have qp := hrp.at hc
   have e1 : sbt p i c f V i c = V i c := by unfold sbt; rw [if_neg fun h => Nat.lt_irrefl _ h.2]
   have e2 : sbt p i c f V p c = V p c := by unfold sbt; rw [if_neg fun h => hne h.1.symm]
   rw [e1] at qi
   rw [e2] at qp
   obtain ⟨x, hx, hqx⟩ := y99 hb qp hf (hd p hp c hc) (by omega)
   obtain ⟨y, hy, hqy⟩ := y5s qi hqx (hd i hi c hc) (y8j hf (hd p hp c hc)) (by omega)
   have hx : z3a fuel (b.1, (b.2.1, b.2.2)) (((g.getD p []).getD c (false, ([], []))).1, (((g.getD p []).getD c (false, ([], []))).2)) = some x := hx
   rw [if_pos (by simpa using hc), if_pos (by omega), if_pos (by omega), if_pos (by omega), if_pos (by omega), if_pos (by omega), Int.toNat_natCast, if_pos (by omega), if_pos (by omega), if_pos (by omega), if_pos (by omega), Int.toNat_natCast, if_pos (by omega), Int.toNat_natCast, hx, Option.bind_some, hy, Option.bind_some, if_pos (by omega), if_pos (by omega), e4]
   refine psA hR hC hK hp hi hne hf hd hb m (c + 1) _ (by omega) (by omega) ((hg.set hi hc hqy).ext fun r _ q _ => ?_)
   unfold sbt
   by_cases e1 : r = i
   ·by_cases e2 : q = c
    ·rw [if_pos ⟨e1, e2⟩, if_pos ⟨e1, by omega⟩, e2]
    ·rw [if_neg fun h => e2 h.2]
     by_cases e3 : q < c
     ·rw [if_pos ⟨e1, e3⟩, if_pos ⟨e1, by omega⟩]
     ·rw [if_neg fun h => e3 h.2, if_neg fun h => by have := h.2; omega]
   ·rw [if_neg fun h => e1 h.1, if_neg fun h => e1 h.1, if_neg fun h => e1 h.1]
  ·rw [if_neg (by simpa using hc)]
   have : c = C := by omega
   subst this
   exact ⟨g, rfl, hg⟩
theorem pcA {R C K p k : Nat} (hR : R ≤ 100) (hC : C ≤ 100) (hK : K ≤ 8000000) (hp : p < R) (hk : k < C) {V : Nat → Nat → Rat} (hd : ∀ r, r < R → ∀ q, q < C → Dr K (V r q)) (hd' : ∀ r, r < R → ∀ q, q < C → Dr K (cl p k R V r q)) {u v : Int} {bl : List Int} : ∀ (m i : Nat) (g : List (List Qd)), i ≤ R → R + 200 < m + i → QG R C (cl p k i V) g →
  ∃ g', z07 m (p : Int) (k : Int) (R : Int) (i : Int) u v g bl = some (.exit (u, v, g', bl, ())) ∧ QG R C (cl p k R V) g'
 | 0, i, g, h1, h2, hg => by omega
 | m + 1, i, g, h1, h2, hg => by
  have lg := hg.1
  simp only [z07]
  by_cases hi : i < R
  ·have e4 : IntKind.i64.wrap ((i : Int) + 1) = ((i + 1 : Nat) : Int) := by rw [w64 _ (by omega) (by omega)]; omega
   have hri := hg.2 i hi
   have li := hri.1
   have qi := hri.at hk
   have ei : ∀ q, cl p k i V i q = V i q := fun q => by unfold cl; rw [if_neg fun h => Nat.lt_irrefl _ h.1]
   have ep : ∀ j q, cl p k j V p q = V p q := fun j q => by unfold cl; rw [if_neg fun h => h.2 rfl]
   rw [ei] at qi
   rw [e4, if_pos (by simpa using hi), if_pos (by omega), if_pos (by omega), if_pos (by omega), Int.toNat_natCast, if_pos (by rw [li]; omega), Int.toNat_natCast]
   by_cases hip : i = p
   ·rw [if_neg (by rw [beq_eq_false_iff_ne]; omega)]
    refine pcA hR hC hK hp hk hd hd' m (i + 1) _ (by omega) (by omega) (hg.ext fun r _ q _ => ?_)
    unfold cl
    by_cases h : r < i ∧ r ≠ p
    ·rw [if_pos h, if_pos ⟨by omega, h.2⟩]
    ·rw [if_neg h, if_neg fun h' => h ⟨by have := h'.1; have := h'.2; omega, h'.2⟩]
   ·have hs := z8f qi
    rw [if_pos (by rw [beq_eq_false_iff_ne]; omega), hs, Option.bind_some]
    by_cases hz : V i k = 0
    ·rw [if_pos (by rw [hz]; rfl)]
     refine pcA hR hC hK hp hk hd hd' m (i + 1) _ (by omega) (by omega) (hg.ext fun r _ q _ => ?_)
     unfold cl
     by_cases h : r < i ∧ r ≠ p
     ·rw [if_pos h, if_pos ⟨by omega, h.2⟩]
     ·rw [if_neg h]
      by_cases h' : r < i + 1 ∧ r ≠ p
      ·have : r = i := by have := h'.1; have := h'.2; omega
       rw [if_pos h', this, hz]; grind
      ·rw [if_neg h']
    ·have hsn : ¬ ((V i k).num.sign == 0) = true := fun h => hz (Rat.num_eq_zero.1 (Int.sign_eq_zero_iff_zero.1 (by simpa using h)))
     obtain ⟨g', h3, h4⟩ := psA (u := u) (v := v) (bl := bl) (V := cl p k i V) (f := V i k) (b := (g.getD i []).getD k (false, ([], []))) hR hC hK hp hi hip (hd i hi k hk) (fun r hr q hq => by
         have a1 := hd r hr q hq
         have a2 := hd' r hr q hq
         unfold cl at a2 ⊢
         by_cases h : r < i ∧ r ≠ p
         · rw [if_pos ⟨hr, h.2⟩] at a2; rw [if_pos h]; exact a2
         · rw [if_neg h]; exact a1) qi m 0 g (by omega) (by omega) (hg.ext fun r _ q _ => by unfold sbt; rw [if_neg fun h => by have := h.2; omega])
     have h3 : z0h m (p : Int) (i : Int) ((g.getD i []).length : Int) 0 u v (((g.getD i []).getD k (false, ([], []))).1) ((((g.getD i []).getD k (false, ([], []))).2).1) ((((g.getD i []).getD k (false, ([], []))).2).2) g bl = some (.exit (u, v, (((g.getD i []).getD k (false, ([], []))).1), ((((g.getD i []).getD k (false, ([], []))).2).1), ((((g.getD i []).getD k (false, ([], []))).2).2), g', bl, ())) := by rw [li]; exact h3
     rw [if_neg hsn, if_pos (by omega), if_pos (by omega), h3]
     refine pcA hR hC hK hp hk hd hd' m (i + 1) g' (by omega) (by omega) (h4.ext fun r _ q hq => ?_)
     unfold sbt
     by_cases h : r = i
     ·rw [if_pos ⟨h, hq⟩, ei, ep, h]
      unfold cl
      rw [if_pos ⟨by omega, hip⟩]
     ·rw [if_neg fun h' => h h'.1]
      unfold cl
      by_cases h' : r < i ∧ r ≠ p
      ·rw [if_pos h', if_pos ⟨by omega, h'.2⟩]
      ·rw [if_neg h', if_neg fun h'' => h' ⟨by have := h''.1; omega, h''.2⟩]
  ·rw [if_neg (by simpa using hi)]
   have : i = R := by omega
   subst this
   exact ⟨g, rfl, hg⟩
theorem pvA {R C K p k : Nat} (hR : R ≤ 100) (hC : C ≤ 100) (hK : K ≤ 4000000) (hp : p < R) (hk : k < C) {T : Nat → Nat → Rat} (h0 : T p k ≠ 0) (hd : ∀ r, r < R → ∀ q, q < C → Dr K (T r q)) (hd' : ∀ r, r < R → ∀ q, q < C → Dr K (piv p k T r q)) {g : List (List Qd)} (hg : QG R C T g) {m : Nat} (hm : 400 < m) {u v : Int} {bl : List Int} :
  ∃ g1 g2, z0k m (p : Int) ((g.getD p []).length : Int) 0 u v ((g.getD p []).getD k (false, ([], []))).1 ((g.getD p []).getD k (false, ([], []))).2.1 ((g.getD p []).getD k (false, ([], []))).2.2 g bl
    = some (.exit (u, v, ((g.getD p []).getD k (false, ([], []))).1, ((g.getD p []).getD k (false, ([], []))).2.1, ((g.getD p []).getD k (false, ([], []))).2.2, g1, bl, ())) ∧
   z07 m (p : Int) (k : Int) (g1.length : Int) 0 u v g1 bl = some (.exit (u, v, g2, bl, ())) ∧ QG R C (piv p k T) g2 := by
 have hb : QR (T p k) ((g.getD p []).getD k (false, ([], []))) := (hg.2 p hp).2 k hk
 obtain ⟨g1, h1, h2⟩ := pdA (u := u) (v := v) (bl := bl) hR hC hK hp h0 hk hd hb m 0 g (by omega) (by omega) (hg.ext fun r _ q _ => by unfold dv; rw [if_neg fun h => by have := h.2; omega])
 have ecl : ∀ r, r < R → ∀ q, q < C → cl p k R (dv p k C T) r q = piv p k T r q := fun r hr q hq => by
  unfold cl piv
  by_cases h : r = p
  ·rw [if_neg fun h' => h'.2 h, if_pos h]
   unfold dv
   rw [if_pos ⟨h, hq⟩]
  ·rw [if_pos ⟨hr, h⟩, if_neg h]
   unfold dv
   rw [if_neg fun h' => h h'.1, if_neg fun h' => h h'.1, if_pos ⟨rfl, hq⟩]
 obtain ⟨g2, h3, h4⟩ := pcA (u := u) (v := v) (bl := bl) hR hC (K := K) (by omega) hp hk (V := dv p k C T) (fun r hr q hq => by
     unfold dv
     by_cases h : r = p ∧ q < C
     · rw [if_pos h]
       have := hd' r hr q hq
       unfold piv at this
       rw [if_pos h.1] at this
       exact this
     · rw [if_neg h]; exact hd r hr q hq) (fun r hr q hq => by rw [ecl r hr q hq]; exact hd' r hr q hq) m 0 g1 (by omega) (by omega) (h2.ext fun r _ q _ => by unfold cl; rw [if_neg fun h => by have := h.1; omega])
 refine ⟨g1, g2, ?_, ?_, h4.ext ecl⟩
 ·rw [(hg.2 p hp).1]; exact h1
 ·rw [h2.1]; exact h3
theorem pdB {R C K p k : Nat} (hR : R ≤ 100) (hC : C ≤ 100) (hK : K ≤ 4000000) (hp : p < R) {T : Nat → Nat → Rat} (h0 : T p k ≠ 0) (hk : k < C) (hd : ∀ r, r < R → ∀ q, q < C → Dr K (T r q)) {b : Qd} (hb : QR (T p k) b) {u v : Int} {bl : List Int} : ∀ (m c : Nat) (g : List (List Qd)), c ≤ C → C < m + c → QG R C (dv p k c T) g →
  ∃ g', z08 m (p : Int) (C : Int) (c : Int) u v b.1 b.2.1 b.2.2 g bl = some (.exit (u, v, b.1, b.2.1, b.2.2, g', bl, ())) ∧ QG R C (dv p k C T) g'
 | 0, c, g, h1, h2, hg => by omega
 | m + 1, c, g, h1, h2, hg => by
  have lg := hg.1
  simp only [z08]
  by_cases hc : c < C
  ·have e4 : IntKind.i64.wrap ((c : Int) + 1) = ((c + 1 : Nat) : Int) := by rw [w64 _ (by omega) (by omega)]; omega
   have hrow := hg.2 p hp
   have lr := hrow.1
   have hq := hrow.at hc
   have e : dv p k c T p c = T p c := by unfold dv; rw [if_neg fun h => Nat.lt_irrefl _ h.2]
   rw [e] at hq
   obtain ⟨y, hy, hqy⟩ := yg9 hq hb (hd p hp c hc) (hd p hp k hk) (by omega) h0
   have hy : z5m fuel (((g.getD p []).getD c (false, ([], []))).1, (((g.getD p []).getD c (false, ([], []))).2)) (b.1, (b.2.1, b.2.2)) = some y := hy
   rw [if_pos (by simpa using hc), if_pos (by omega), if_pos (by omega), if_pos (by omega), if_pos (by omega), if_pos (by omega), Int.toNat_natCast, if_pos (by omega), Int.toNat_natCast, hy, Option.bind_some, if_pos (by omega), if_pos (by omega), e4]
   refine pdB hR hC hK hp h0 hk hd hb m (c + 1) _ (by omega) (by omega) ((hg.set hp hc hqy).ext fun r _ q _ => ?_)
   unfold dv
   by_cases e1 : r = p
   ·by_cases e2 : q = c
    ·rw [if_pos ⟨e1, e2⟩, if_pos ⟨e1, by omega⟩, e2]
    ·rw [if_neg fun h => e2 h.2]
     by_cases e3 : q < c
     ·rw [if_pos ⟨e1, e3⟩, if_pos ⟨e1, by omega⟩]
     ·rw [if_neg fun h => e3 h.2, if_neg fun h => by have := h.2; omega]
   ·rw [if_neg fun h => e1 h.1, if_neg fun h => e1 h.1, if_neg fun h => e1 h.1]
  ·rw [if_neg (by simpa using hc)]
   have : c = C := by omega
   subst this
   exact ⟨g, rfl, hg⟩
theorem psB {R C K p i : Nat} (hR : R ≤ 100) (hC : C ≤ 100) (hK : K ≤ 8000000) (hp : p < R) (hi : i < R) (hne : i ≠ p) {V : Nat → Nat → Rat} {f : Rat} (hf : Dr K f) (hd : ∀ r, r < R → ∀ q, q < C → Dr K (V r q)) {b : Qd} (hb : QR f b) {u v : Int} {bl : List Int} : ∀ (m c : Nat) (g : List (List Qd)), c ≤ C → C < m + c → QG R C (sbt p i c f V) g →
  ∃ g', z0b m (p : Int) (i : Int) (C : Int) (c : Int) u v b.1 b.2.1 b.2.2 g bl = some (.exit (u, v, b.1, b.2.1, b.2.2, g', bl, ())) ∧ QG R C (sbt p i C f V) g'
 | 0, c, g, h1, h2, hg => by omega
 | m + 1, c, g, h1, h2, hg => by
  have lg := hg.1
  simp only [z0b]
  by_cases hc : c < C
  ·have e4 : IntKind.i64.wrap ((c : Int) + 1) = ((c + 1 : Nat) : Int) := by rw [w64 _ (by omega) (by omega)]; omega
   have hri := hg.2 i hi
   have hrp := hg.2 p hp
   have li := hri.1
   have lp := hrp.1
   have qi := hri.at hc
   have qp := hrp.at hc
   have e1 : sbt p i c f V i c = V i c := by unfold sbt; rw [if_neg fun h => Nat.lt_irrefl _ h.2]
   have e2 : sbt p i c f V p c = V p c := by unfold sbt; rw [if_neg fun h => hne h.1.symm]
   rw [e1] at qi
   rw [e2] at qp
   obtain ⟨x, hx, hqx⟩ := y99 hb qp hf (hd p hp c hc) (by omega)
   obtain ⟨y, hy, hqy⟩ := y5s qi hqx (hd i hi c hc) (y8j hf (hd p hp c hc)) (by omega)
   have hx : z3a fuel (b.1, (b.2.1, b.2.2)) (((g.getD p []).getD c (false, ([], []))).1, (((g.getD p []).getD c (false, ([], []))).2)) = some x := hx
   rw [if_pos (by simpa using hc), if_pos (by omega), if_pos (by omega), if_pos (by omega), if_pos (by omega), if_pos (by omega), Int.toNat_natCast, if_pos (by omega), if_pos (by omega), if_pos (by omega), if_pos (by omega), Int.toNat_natCast, if_pos (by omega), Int.toNat_natCast, hx, Option.bind_some, hy, Option.bind_some, if_pos (by omega), if_pos (by omega), e4]
   refine psB hR hC hK hp hi hne hf hd hb m (c + 1) _ (by omega) (by omega) ((hg.set hi hc hqy).ext fun r _ q _ => ?_)
   unfold sbt
   by_cases e1 : r = i
   ·by_cases e2 : q = c
    ·rw [if_pos ⟨e1, e2⟩, if_pos ⟨e1, by omega⟩, e2]
    ·rw [if_neg fun h => e2 h.2]
     by_cases e3 : q < c
     ·rw [if_pos ⟨e1, e3⟩, if_pos ⟨e1, by omega⟩]
     ·rw [if_neg fun h => e3 h.2, if_neg fun h => by have := h.2; omega]
   ·rw [if_neg fun h => e1 h.1, if_neg fun h => e1 h.1, if_neg fun h => e1 h.1]
  ·rw [if_neg (by simpa using hc)]
   have : c = C := by omega
   subst this
   exact ⟨g, rfl, hg⟩
theorem pcB {R C K p k : Nat} (hR : R ≤ 100) (hC : C ≤ 100) (hK : K ≤ 8000000) (hp : p < R) (hk : k < C) {V : Nat → Nat → Rat} (hd : ∀ r, r < R → ∀ q, q < C → Dr K (V r q)) (hd' : ∀ r, r < R → ∀ q, q < C → Dr K (cl p k R V r q)) {u v : Int} {bl : List Int} : ∀ (m i : Nat) (g : List (List Qd)), i ≤ R → R + 200 < m + i → QG R C (cl p k i V) g →
  ∃ g', z04 m (p : Int) (k : Int) (R : Int) (i : Int) u v g bl = some (.exit (u, v, g', bl, ())) ∧ QG R C (cl p k R V) g'
 | 0, i, g, h1, h2, hg => by omega
 | m + 1, i, g, h1, h2, hg => by
  have lg := hg.1
  simp only [z04]
  by_cases hi : i < R
  ·have e4 : IntKind.i64.wrap ((i : Int) + 1) = ((i + 1 : Nat) : Int) := by rw [w64 _ (by omega) (by omega)]; omega
   have hri := hg.2 i hi
   have li := hri.1
   have qi := hri.at hk
   have ei : ∀ q, cl p k i V i q = V i q := fun q => by unfold cl; rw [if_neg fun h => Nat.lt_irrefl _ h.1]
   have ep : ∀ j q, cl p k j V p q = V p q := fun j q => by unfold cl; rw [if_neg fun h => h.2 rfl]
   rw [ei] at qi
   rw [e4, if_pos (by simpa using hi), if_pos (by omega), if_pos (by omega), if_pos (by omega), Int.toNat_natCast, if_pos (by rw [li]; omega), Int.toNat_natCast]
   by_cases hip : i = p
   ·rw [if_neg (by rw [beq_eq_false_iff_ne]; omega)]
    refine pcB hR hC hK hp hk hd hd' m (i + 1) _ (by omega) (by omega) (hg.ext fun r _ q _ => ?_)
    unfold cl
    by_cases h : r < i ∧ r ≠ p
    ·rw [if_pos h, if_pos ⟨by omega, h.2⟩]
    ·rw [if_neg h, if_neg fun h' => h ⟨by have := h'.1; have := h'.2; omega, h'.2⟩]
   ·have hs := z8f qi
    rw [if_pos (by rw [beq_eq_false_iff_ne]; omega), hs, Option.bind_some]
    by_cases hz : V i k = 0
    ·rw [if_pos (by rw [hz]; rfl)]
     refine pcB hR hC hK hp hk hd hd' m (i + 1) _ (by omega) (by omega) (hg.ext fun r _ q _ => ?_)
     unfold cl
     by_cases h : r < i ∧ r ≠ p
     ·rw [if_pos h, if_pos ⟨by omega, h.2⟩]
     ·rw [if_neg h]
      by_cases h' : r < i + 1 ∧ r ≠ p
      ·have : r = i := by have := h'.1; have := h'.2; omega
       rw [if_pos h', this, hz]; grind
      ·rw [if_neg h']
    ·have hsn : ¬ ((V i k).num.sign == 0) = true := fun h => hz (Rat.num_eq_zero.1 (Int.sign_eq_zero_iff_zero.1 (by simpa using h)))
     obtain ⟨g', h3, h4⟩ := psB (u := u) (v := v) (bl := bl) (V := cl p k i V) (f := V i k) (b := (g.getD i []).getD k (false, ([], []))) hR hC hK hp hi hip (hd i hi k hk) (fun r hr q hq => by
         have a1 := hd r hr q hq
         have a2 := hd' r hr q hq
         unfold cl at a2 ⊢
         by_cases h : r < i ∧ r ≠ p
         · rw [if_pos ⟨hr, h.2⟩] at a2; rw [if_pos h]; exact a2
         · rw [if_neg h]; exact a1) qi m 0 g (by omega) (by omega) (hg.ext fun r _ q _ => by unfold sbt; rw [if_neg fun h => by have := h.2; omega])
     have h3 : z0b m (p : Int) (i : Int) ((g.getD i []).length : Int) 0 u v (((g.getD i []).getD k (false, ([], []))).1) ((((g.getD i []).getD k (false, ([], []))).2).1) ((((g.getD i []).getD k (false, ([], []))).2).2) g bl = some (.exit (u, v, (((g.getD i []).getD k (false, ([], []))).1), ((((g.getD i []).getD k (false, ([], []))).2).1), ((((g.getD i []).getD k (false, ([], []))).2).2), g', bl, ())) := by rw [li]; exact h3
     rw [if_neg hsn, if_pos (by omega), if_pos (by omega), h3]
     refine pcB hR hC hK hp hk hd hd' m (i + 1) g' (by omega) (by omega) (h4.ext fun r _ q hq => ?_)
     unfold sbt
     by_cases h : r = i
     ·rw [if_pos ⟨h, hq⟩, ei, ep, h]
      unfold cl
      rw [if_pos ⟨by omega, hip⟩]
     ·rw [if_neg fun h' => h h'.1]
      unfold cl
      by_cases h' : r < i ∧ r ≠ p
      ·rw [if_pos h', if_pos ⟨by omega, h'.2⟩]
      ·rw [if_neg h', if_neg fun h'' => h' ⟨by have := h''.1; omega, h''.2⟩]
  ·rw [if_neg (by simpa using hi)]
   have : i = R := by omega
   subst this
   exact ⟨g, rfl, hg⟩
theorem pvB {R C K p k : Nat} (hR : R ≤ 100) (hC : C ≤ 100) (hK : K ≤ 4000000) (hp : p < R) (hk : k < C) {T : Nat → Nat → Rat} (h0 : T p k ≠ 0) (hd : ∀ r, r < R → ∀ q, q < C → Dr K (T r q)) (hd' : ∀ r, r < R → ∀ q, q < C → Dr K (piv p k T r q)) {g : List (List Qd)} (hg : QG R C T g) {m : Nat} (hm : 400 < m) {u v : Int} {bl : List Int} :
  ∃ g1 g2, z08 m (p : Int) ((g.getD p []).length : Int) 0 u v ((g.getD p []).getD k (false, ([], []))).1 ((g.getD p []).getD k (false, ([], []))).2.1 ((g.getD p []).getD k (false, ([], []))).2.2 g bl
    = some (.exit (u, v, ((g.getD p []).getD k (false, ([], []))).1, ((g.getD p []).getD k (false, ([], []))).2.1, ((g.getD p []).getD k (false, ([], []))).2.2, g1, bl, ())) ∧
   z04 m (p : Int) (k : Int) (g1.length : Int) 0 u v g1 bl = some (.exit (u, v, g2, bl, ())) ∧ QG R C (piv p k T) g2 := by
 have hb : QR (T p k) ((g.getD p []).getD k (false, ([], []))) := (hg.2 p hp).2 k hk
 obtain ⟨g1, h1, h2⟩ := pdB (u := u) (v := v) (bl := bl) hR hC hK hp h0 hk hd hb m 0 g (by omega) (by omega) (hg.ext fun r _ q _ => by unfold dv; rw [if_neg fun h => by have := h.2; omega])
 have ecl : ∀ r, r < R → ∀ q, q < C → cl p k R (dv p k C T) r q = piv p k T r q := fun r hr q hq => by
  unfold cl piv
  by_cases h : r = p
  ·rw [if_neg fun h' => h'.2 h, if_pos h]
   unfold dv
   rw [if_pos ⟨h, hq⟩]
  ·rw [if_pos ⟨hr, h⟩, if_neg h]
   unfold dv
   rw [if_neg fun h' => h h'.1, if_neg fun h' => h h'.1, if_pos ⟨rfl, hq⟩]
 obtain ⟨g2, h3, h4⟩ := pcB (u := u) (v := v) (bl := bl) hR hC (K := K) (by omega) hp hk (V := dv p k C T) (fun r hr q hq => by
     unfold dv
     by_cases h : r = p ∧ q < C
     · rw [if_pos h]
       have := hd' r hr q hq
       unfold piv at this
       rw [if_pos h.1] at this
       exact this
     · rw [if_neg h]; exact hd r hr q hq) (fun r hr q hq => by rw [ecl r hr q hq]; exact hd' r hr q hq) m 0 g1 (by omega) (by omega) (h2.ext fun r _ q _ => by unfold cl; rw [if_neg fun h => by have := h.1; omega])
 refine ⟨g1, g2, ?_, ?_, h4.ext ecl⟩
 ·rw [(hg.2 p hp).1]; exact h1
 ·rw [h2.1]; exact h3
theorem pdC {R C K p k : Nat} (hR : R ≤ 100) (hC : C ≤ 100) (hK : K ≤ 4000000) (hp : p < R) {T : Nat → Nat → Rat} (h0 : T p k ≠ 0) (hk : k < C) (hd : ∀ r, r < R → ∀ q, q < C → Dr K (T r q)) {b : Qd} (hb : QR (T p k) b) {u v : Int} {bl : List Int} : ∀ (m c : Nat) (g : List (List Qd)), c ≤ C → C < m + c → QG R C (dv p k c T) g →
  ∃ g', z06 m (p : Int) (C : Int) (c : Int) u v b.1 b.2.1 b.2.2 g bl = some (.exit (u, v, b.1, b.2.1, b.2.2, g', bl, ())) ∧ QG R C (dv p k C T) g'
 | 0, c, g, h1, h2, hg => by omega
 | m + 1, c, g, h1, h2, hg => by
  have lg := hg.1
  simp only [z06]
  by_cases hc : c < C
  ·have e4 : IntKind.i64.wrap ((c : Int) + 1) = ((c + 1 : Nat) : Int) := by rw [w64 _ (by omega) (by omega)]; omega
   have hrow := hg.2 p hp
   have lr := hrow.1
   have hq := hrow.at hc
   have e : dv p k c T p c = T p c := by unfold dv; rw [if_neg fun h => Nat.lt_irrefl _ h.2]
   rw [e] at hq
   obtain ⟨y, hy, hqy⟩ := yg9 hq hb (hd p hp c hc) (hd p hp k hk) (by omega) h0
   have hy : z5m fuel (((g.getD p []).getD c (false, ([], []))).1, (((g.getD p []).getD c (false, ([], []))).2)) (b.1, (b.2.1, b.2.2)) = some y := hy
   rw [if_pos (by simpa using hc), if_pos (by omega), if_pos (by omega), if_pos (by omega), if_pos (by omega), if_pos (by omega), Int.toNat_natCast, if_pos (by omega), Int.toNat_natCast, hy, Option.bind_some, if_pos (by omega), if_pos (by omega), e4]
   refine pdC hR hC hK hp h0 hk hd hb m (c + 1) _ (by omega) (by omega) ((hg.set hp hc hqy).ext fun r _ q _ => ?_)
   unfold dv
   by_cases e1 : r = p
   ·by_cases e2 : q = c
    ·rw [if_pos ⟨e1, e2⟩, if_pos ⟨e1, by omega⟩, e2]
    ·rw [if_neg fun h => e2 h.2]
     by_cases e3 : q < c
     ·rw [if_pos ⟨e1, e3⟩, if_pos ⟨e1, by omega⟩]
     ·rw [if_neg fun h => e3 h.2, if_neg fun h => by have := h.2; omega]
   ·rw [if_neg fun h => e1 h.1, if_neg fun h => e1 h.1, if_neg fun h => e1 h.1]
  ·rw [if_neg (by simpa using hc)]
   have : c = C := by omega
   subst this
   exact ⟨g, rfl, hg⟩
theorem psC {R C K p i : Nat} (hR : R ≤ 100) (hC : C ≤ 100) (hK : K ≤ 8000000) (hp : p < R) (hi : i < R) (hne : i ≠ p) {V : Nat → Nat → Rat} {f : Rat} (hf : Dr K f) (hd : ∀ r, r < R → ∀ q, q < C → Dr K (V r q)) {b : Qd} (hb : QR f b) {u v : Int} {bl : List Int} : ∀ (m c : Nat) (g : List (List Qd)), c ≤ C → C < m + c → QG R C (sbt p i c f V) g →
  ∃ g', z05 m (p : Int) (i : Int) (C : Int) (c : Int) u v b.1 b.2.1 b.2.2 g bl = some (.exit (u, v, b.1, b.2.1, b.2.2, g', bl, ())) ∧ QG R C (sbt p i C f V) g'
 | 0, c, g, h1, h2, hg => by omega
 | m + 1, c, g, h1, h2, hg => by
  have lg := hg.1
  simp only [z05]
  by_cases hc : c < C
  ·have e4 : IntKind.i64.wrap ((c : Int) + 1) = ((c + 1 : Nat) : Int) := by rw [w64 _ (by omega) (by omega)]; omega
   have hri := hg.2 i hi
   have hrp := hg.2 p hp
   have li := hri.1
   have lp := hrp.1
   have qi := hri.at hc
   have qp := hrp.at hc
   have e1 : sbt p i c f V i c = V i c := by unfold sbt; rw [if_neg fun h => Nat.lt_irrefl _ h.2]
   have e2 : sbt p i c f V p c = V p c := by unfold sbt; rw [if_neg fun h => hne h.1.symm]
   rw [e1] at qi
   rw [e2] at qp
   obtain ⟨x, hx, hqx⟩ := y99 hb qp hf (hd p hp c hc) (by omega)
   obtain ⟨y, hy, hqy⟩ := y5s qi hqx (hd i hi c hc) (y8j hf (hd p hp c hc)) (by omega)
   have hx : z3a fuel (b.1, (b.2.1, b.2.2)) (((g.getD p []).getD c (false, ([], []))).1, (((g.getD p []).getD c (false, ([], []))).2)) = some x := hx
   rw [if_pos (by simpa using hc), if_pos (by omega), if_pos (by omega), if_pos (by omega), if_pos (by omega), if_pos (by omega), Int.toNat_natCast, if_pos (by omega), if_pos (by omega), if_pos (by omega), if_pos (by omega), Int.toNat_natCast, if_pos (by omega), Int.toNat_natCast, hx, Option.bind_some, hy, Option.bind_some, if_pos (by omega), if_pos (by omega), e4]
   refine psC hR hC hK hp hi hne hf hd hb m (c + 1) _ (by omega) (by omega) ((hg.set hi hc hqy).ext fun r _ q _ => ?_)
   unfold sbt
   by_cases e1 : r = i
   ·by_cases e2 : q = c
    ·rw [if_pos ⟨e1, e2⟩, if_pos ⟨e1, by omega⟩, e2]
    ·rw [if_neg fun h => e2 h.2]
     by_cases e3 : q < c
     ·rw [if_pos ⟨e1, e3⟩, if_pos ⟨e1, by omega⟩]
     ·rw [if_neg fun h => e3 h.2, if_neg fun h => by have := h.2; omega]
   ·rw [if_neg fun h => e1 h.1, if_neg fun h => e1 h.1, if_neg fun h => e1 h.1]
  ·rw [if_neg (by simpa using hc)]
   have : c = C := by omega
   subst this
   exact ⟨g, rfl, hg⟩
theorem pcC {R C K p k : Nat} (hR : R ≤ 100) (hC : C ≤ 100) (hK : K ≤ 8000000) (hp : p < R) (hk : k < C) {V : Nat → Nat → Rat} (hd : ∀ r, r < R → ∀ q, q < C → Dr K (V r q)) (hd' : ∀ r, r < R → ∀ q, q < C → Dr K (cl p k R V r q)) {u v : Int} {bl : List Int} : ∀ (m i : Nat) (g : List (List Qd)), i ≤ R → R + 200 < m + i → QG R C (cl p k i V) g →
  ∃ g', z02 m (p : Int) (k : Int) (R : Int) (i : Int) u v g bl = some (.exit (u, v, g', bl, ())) ∧ QG R C (cl p k R V) g'
 | 0, i, g, h1, h2, hg => by omega
 | m + 1, i, g, h1, h2, hg => by
  have lg := hg.1
  simp only [z02]
  by_cases hi : i < R
  ·have e4 : IntKind.i64.wrap ((i : Int) + 1) = ((i + 1 : Nat) : Int) := by rw [w64 _ (by omega) (by omega)]; omega
   have hri := hg.2 i hi
   have li := hri.1
   have qi := hri.at hk
   have ei : ∀ q, cl p k i V i q = V i q := fun q => by unfold cl; rw [if_neg fun h => Nat.lt_irrefl _ h.1]
   have ep : ∀ j q, cl p k j V p q = V p q := fun j q => by unfold cl; rw [if_neg fun h => h.2 rfl]
   rw [ei] at qi
   rw [e4, if_pos (by simpa using hi), if_pos (by omega), if_pos (by omega), if_pos (by omega), Int.toNat_natCast, if_pos (by rw [li]; omega), Int.toNat_natCast]
   by_cases hip : i = p
   ·rw [if_neg (by rw [beq_eq_false_iff_ne]; omega)]
    refine pcC hR hC hK hp hk hd hd' m (i + 1) _ (by omega) (by omega) (hg.ext fun r _ q _ => ?_)
    unfold cl
    by_cases h : r < i ∧ r ≠ p
    ·rw [if_pos h, if_pos ⟨by omega, h.2⟩]
    ·rw [if_neg h, if_neg fun h' => h ⟨by have := h'.1; have := h'.2; omega, h'.2⟩]
   ·have hs := z8f qi
    rw [if_pos (by rw [beq_eq_false_iff_ne]; omega), hs, Option.bind_some]
    by_cases hz : V i k = 0
    ·rw [if_pos (by rw [hz]; rfl)]
     refine pcC hR hC hK hp hk hd hd' m (i + 1) _ (by omega) (by omega) (hg.ext fun r _ q _ => ?_)
     unfold cl
     by_cases h : r < i ∧ r ≠ p
     ·rw [if_pos h, if_pos ⟨by omega, h.2⟩]
     ·rw [if_neg h]
      by_cases h' : r < i + 1 ∧ r ≠ p
      ·have : r = i := by have := h'.1; have := h'.2; omega
       rw [if_pos h', this, hz]; grind
      ·rw [if_neg h']
    ·have hsn : ¬ ((V i k).num.sign == 0) = true := fun h => hz (Rat.num_eq_zero.1 (Int.sign_eq_zero_iff_zero.1 (by simpa using h)))
     obtain ⟨g', h3, h4⟩ := psC (u := u) (v := v) (bl := bl) (V := cl p k i V) (f := V i k) (b := (g.getD i []).getD k (false, ([], []))) hR hC hK hp hi hip (hd i hi k hk) (fun r hr q hq => by
         have a1 := hd r hr q hq
         have a2 := hd' r hr q hq
         unfold cl at a2 ⊢
         by_cases h : r < i ∧ r ≠ p
         · rw [if_pos ⟨hr, h.2⟩] at a2; rw [if_pos h]; exact a2
         · rw [if_neg h]; exact a1) qi m 0 g (by omega) (by omega) (hg.ext fun r _ q _ => by unfold sbt; rw [if_neg fun h => by have := h.2; omega])
     have h3 : z05 m (p : Int) (i : Int) ((g.getD i []).length : Int) 0 u v (((g.getD i []).getD k (false, ([], []))).1) ((((g.getD i []).getD k (false, ([], []))).2).1) ((((g.getD i []).getD k (false, ([], []))).2).2) g bl = some (.exit (u, v, (((g.getD i []).getD k (false, ([], []))).1), ((((g.getD i []).getD k (false, ([], []))).2).1), ((((g.getD i []).getD k (false, ([], []))).2).2), g', bl, ())) := by rw [li]; exact h3
     rw [if_neg hsn, if_pos (by omega), if_pos (by omega), h3]
     refine pcC hR hC hK hp hk hd hd' m (i + 1) g' (by omega) (by omega) (h4.ext fun r _ q hq => ?_)
     unfold sbt
     by_cases h : r = i
     ·rw [if_pos ⟨h, hq⟩, ei, ep, h]
      unfold cl
      rw [if_pos ⟨by omega, hip⟩]
     ·rw [if_neg fun h' => h h'.1]
      unfold cl
      by_cases h' : r < i ∧ r ≠ p
      ·rw [if_pos h', if_pos ⟨by omega, h'.2⟩]
      ·rw [if_neg h', if_neg fun h'' => h' ⟨by have := h''.1; omega, h''.2⟩]
  ·rw [if_neg (by simpa using hi)]
   have : i = R := by omega
   subst this
   exact ⟨g, rfl, hg⟩
theorem pvC {R C K p k : Nat} (hR : R ≤ 100) (hC : C ≤ 100) (hK : K ≤ 4000000) (hp : p < R) (hk : k < C) {T : Nat → Nat → Rat} (h0 : T p k ≠ 0) (hd : ∀ r, r < R → ∀ q, q < C → Dr K (T r q)) (hd' : ∀ r, r < R → ∀ q, q < C → Dr K (piv p k T r q)) {g : List (List Qd)} (hg : QG R C T g) {m : Nat} (hm : 400 < m) {u v : Int} {bl : List Int} :
  ∃ g1 g2, z06 m (p : Int) ((g.getD p []).length : Int) 0 u v ((g.getD p []).getD k (false, ([], []))).1 ((g.getD p []).getD k (false, ([], []))).2.1 ((g.getD p []).getD k (false, ([], []))).2.2 g bl
    = some (.exit (u, v, ((g.getD p []).getD k (false, ([], []))).1, ((g.getD p []).getD k (false, ([], []))).2.1, ((g.getD p []).getD k (false, ([], []))).2.2, g1, bl, ())) ∧
   z02 m (p : Int) (k : Int) (g1.length : Int) 0 u v g1 bl = some (.exit (u, v, g2, bl, ())) ∧ QG R C (piv p k T) g2 := by
 have hb : QR (T p k) ((g.getD p []).getD k (false, ([], []))) := (hg.2 p hp).2 k hk
 obtain ⟨g1, h1, h2⟩ := pdC (u := u) (v := v) (bl := bl) hR hC hK hp h0 hk hd hb m 0 g (by omega) (by omega) (hg.ext fun r _ q _ => by unfold dv; rw [if_neg fun h => by have := h.2; omega])
 have ecl : ∀ r, r < R → ∀ q, q < C → cl p k R (dv p k C T) r q = piv p k T r q := fun r hr q hq => by
  unfold cl piv
  by_cases h : r = p
  ·rw [if_neg fun h' => h'.2 h, if_pos h]
   unfold dv
   rw [if_pos ⟨h, hq⟩]
  ·rw [if_pos ⟨hr, h⟩, if_neg h]
   unfold dv
   rw [if_neg fun h' => h h'.1, if_neg fun h' => h h'.1, if_pos ⟨rfl, hq⟩]
 obtain ⟨g2, h3, h4⟩ := pcC (u := u) (v := v) (bl := bl) hR hC (K := K) (by omega) hp hk (V := dv p k C T) (fun r hr q hq => by
     unfold dv
     by_cases h : r = p ∧ q < C
     · rw [if_pos h]
       have := hd' r hr q hq
       unfold piv at this
       rw [if_pos h.1] at this
       exact this
     · rw [if_neg h]; exact hd r hr q hq) (fun r hr q hq => by rw [ecl r hr q hq]; exact hd' r hr q hq) m 0 g1 (by omega) (by omega) (h2.ext fun r _ q _ => by unfold cl; rw [if_neg fun h => by have := h.1; omega])
 refine ⟨g1, g2, ?_, ?_, h4.ext ecl⟩
 ·rw [(hg.2 p hp).1]; exact h1
 ·rw [h2.1]; exact h3
end Go.Proofs.YtcdcoeofhnfjdaaDoor
