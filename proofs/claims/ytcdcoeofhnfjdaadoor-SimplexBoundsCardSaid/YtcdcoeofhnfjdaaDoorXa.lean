/- Matrices multiplied, turned and compared. -/
import Derived.Test.YtcdcoeofhnfjdaaDoorMb
namespace Go.Proofs.YtcdcoeofhnfjdaaDoor
open Go Vm
def mt (R C : Nat) (M : Nat → Nat → Rat) : List (List ByteArray) := (List.range R).map fun i => ((List.range C).map (M i)).map rt
theorem w5k (R C : Nat) (M : Nat → Nat → Rat) : (mt R C M).length = R := by unfold mt; rw [List.length_map, List.length_range]
theorem wh4 {R C : Nat} {M : Nat → Nat → Rat} {i : Nat} (h : i < R) : (mt R C M).getD i [] = ((List.range C).map (M i)).map rt := by
 unfold mt
 rw [List.getD_eq_getElem?_getD, List.getElem?_map, List.getElem?_range h]; rfl
theorem Txt.eq {a : List (List ByteArray)} {R C : Nat} {M : Nat → Nat → Rat} (h : Txt a R C M) : a = mt R C M := by
 refine List.ext_getElem (by rw [w5k]; exact h.1) fun i h1 h2 => ?_
 have hi : i < R := by rw [← h.1]; exact h1
 have e1 := (h.2 i hi).1
 have e2 := wh4 (C := C) (M := M) hi
 rw [z37 a i [] h1] at e1
 rw [z37 _ i [] h2] at e2
 rw [e1, e2]
theorem ys2 {a : List (List ByteArray)} {R C : Nat} {M : Nat → Nat → Rat} (h : Txt a R C M) (h0 : R = 0 → C = 0) : z6m fuel a = some (C : Int) := by
 unfold z6m
 have hl := h.1
 by_cases c : R = 0
 ·rw [if_pos (by rw [beq_iff_eq]; omega), h0 c]; rfl
 ·rw [if_neg (by rw [beq_iff_eq]; omega), if_pos (by omega), (h.2 0 (by omega)).1, List.length_map, List.length_map, List.length_range]
theorem yo9 {a : List (List ByteArray)} {R C : Nat} {M : Nat → Nat → Rat} (h : Txt a R C M) (hR : R ≤ 40) (hC : C ≤ 40) : z53 fuel a = some 0 := by
 have key : ∀ (m i : Nat), i ≤ R → R < m + i → ∃ d, z2q m a a (R : Int) (i : Int) = some (.exit d) := by
  intro m
  induction m with
  | zero => intro i h1 h2; omega
  | succ m ih =>
   intro i h1 h2
   have hl := h.1
   simp only [z2q]
   by_cases hi : i < R
   ·have e4 : IntKind.i64.wrap ((i : Int) + 1) = ((i + 1 : Nat) : Int) := by rw [w64 _ (by omega) (by omega)]; omega
    obtain ⟨r1, r2⟩ := h.2 i hi
    have l1 : (a.getD i []).length = C := by rw [r1, List.length_map, List.length_map, List.length_range]
    have l0 : (a.getD 0 []).length = C := by rw [(h.2 0 (by omega)).1, List.length_map, List.length_map, List.length_range]
    rw [if_pos (by simpa using hi), if_pos (by omega), if_pos (by omega), if_pos (by omega), Int.toNat_natCast, e4, if_neg (by rw [bne_iff_ne]; omega), r1]
    rcases z9h (((List.range C).map (M i)).map rt) (by rw [List.length_map, List.length_map, List.length_range]; omega) (fun s hs => by
      obtain ⟨r, hr, rfl⟩ := List.mem_map.1 hs
      obtain ⟨j, hj, rfl⟩ := List.mem_map.1 hr
      exact w81 (r2 j (List.mem_range.1 hj))) with ⟨e, e0, g⟩ | ⟨g, _⟩
    ·exfalso
     unfold z15 at g
     rw [if_neg (by rw [decide_eq_true_eq, List.length_map, List.length_map, List.length_range]; omega)] at g
     rw [zu0 _ (by rw [List.length_map, List.length_range]; omega) (fun r hr => by
       obtain ⟨j, hj, rfl⟩ := List.mem_map.1 hr
       exact r2 j (List.mem_range.1 hj))] at g
     cases g; exact e0 rfl
    ·rw [g, Option.bind_some, if_neg (by decide)]
     exact ih (i + 1) (by omega) (by omega)
   ·rw [if_neg (by simpa using hi)]; exact ⟨_, rfl⟩
 have hf := z79 (n := 2 ^ 100) (by decide)
 obtain ⟨d, g⟩ := key fuel 0 (by omega) (by omega)
 have g : z2q fuel a a (R : Int) 0 = _ := g
 unfold z53
 rw [h.1, if_neg (by rw [decide_eq_true_eq]; omega), g]
theorem y7c {n : Nat} (hn : n ≤ 40) {f g : Nat → Rat} {a b : List Qd} (ha : QF n f a) (hb : QF n g b) (hf : ∀ i, i < n → Dr 2000 (f i)) (hg : ∀ i, i < n → Dr 2000 (g i)) : ∀ (m i : Nat) (q : Qd), i ≤ n → n < m + i → QR (fs (fun i => f i * g i) i) q →
  ∃ q', z4g m b a (n : Int) (i : Int) q.1 q.2.1 q.2.2 = some (.exit (q'.1, q'.2.1, q'.2.2, ())) ∧ QR (fs (fun i => f i * g i) n) q'
 | 0, i, q, h1, h2, _ => by omega
 | m + 1, i, q, h1, h2, hq => by
  have la := ha.1
  have lb := hb.1
  simp only [z4g]
  by_cases hi : i < n
  ·have e4 : IntKind.i64.wrap ((i : Int) + 1) = ((i + 1 : Nat) : Int) := by rw [w64 _ (by omega) (by omega)]; omega
   obtain ⟨y, hy, hqy⟩ := y66 (ha.at hi) (hb.at hi) (hf i hi) (hg i hi) (by omega)
   have hfs : Dr 170000 (fs (fun i => f i * g i) i) := z5w (by
     have : (4000 + 1) * i ≤ 4001 * 40 := Nat.mul_le_mul_left _ (by omega)
     omega) (w2b (k := 4000) (n := i) fun j hj => z5w (by omega) (zx0 (hf j (by omega)) (hg j (by omega))))
   obtain ⟨x, hx, hqx⟩ := w5x hq hqy hfs (zx0 (hf i hi) (hg i hi)) (by omega)
   have hx : z76 fuel (q.1, (q.2.1, q.2.2)) y = some x := hx
   rw [if_pos (by simpa using hi), if_pos (by omega), if_pos (by omega), if_pos (by omega), if_pos (by omega), Int.toNat_natCast, hy, Option.bind_some, hx, Option.bind_some, e4]
   exact y7c hn ha hb hf hg m (i + 1) x (by omega) (by omega) hqx
  ·rw [if_neg (by simpa using hi)]
   have : i = n := by omega
   subst this
   exact ⟨q, rfl, hq⟩
theorem yd8 {n : Nat} (hn : n ≤ 40) {f g : Nat → Rat} {a b : List Qd} (ha : QF n f a) (hb : QF n g b) (hf : ∀ i, i < n → Dr 2000 (f i)) (hg : ∀ i, i < n → Dr 2000 (g i)) : ∃ q, z6i fuel a b = some q ∧ QR (fs (fun i => f i * g i) n) q := by
 have hfu := z79 (n := 2 ^ 100) (by decide)
 obtain ⟨q, h1, h2⟩ := y7c hn ha hb hf hg fuel 0 (false, [], []) (by omega) (by omega) zv3
 have h1 : z4g fuel b a (n : Int) 0 false [] [] = _ := h1
 unfold z6i
 rw [ha.1, h1]
 exact ⟨_, rfl, h2⟩
end Go.Proofs.YtcdcoeofhnfjdaaDoor
