/- The simplex method: what Solve gives is accepted. -/
import Derived.Test.YtcdcoeofhnfjdaaDoorSk
namespace Go.Proofs.YtcdcoeofhnfjdaaDoor
open Go Vm
theorem y69 : z4z fuel = some true := by kernel_rfl
def WV (v : List ByteArray) : Prop := v.length ≤ 140737488351232 ∧ ∀ s, s ∈ v → s.size ≤ 900000000000000
theorem we0 {v : List ByteArray} (h : Wf (.slice .str) v) : WV v := by
 have h1 : v.length * 16 ≤ 140737488351232 := h.1
 exact ⟨by omega, fun s hs => Nat.le_trans (h.2 s hs) (by decide)⟩
theorem w9l {l : List (List ByteArray)} (hl : l.length ≤ 1000) (h : ∀ v, v ∈ l → WV v) : WM l := ⟨by omega, fun x hx => (h x hx).1, fun x hx => (h x hx).2⟩
theorem w0g {N i : Nat} {l : List (List ByteArray)} (h : Sm N l) (hi : i < l.length) {rs : List Rat} (e : l.getD i [] = rs.map rt) : rs.length ≤ N ∧ ∀ j, j < rs.length → Dr 12 (rs.getD j 0) := by
 obtain ⟨h1, h2⟩ := h.2 i hi
 rw [e] at h1 h2
 rw [List.length_map] at h1
 refine ⟨h1, fun j hj => ?_⟩
 have h3 := h2 (rt (rs.getD j 0)) (List.mem_map_of_mem (by rw [z33 rs j 0 hj]; exact List.getElem_mem _))
 rw [w4q] at h3
 exact z6r h3 (w77 _)
theorem wg1 {N : Nat} {a : List (List ByteArray)} {R C : Nat} {M : Nat → Nat → Rat} (h : Txt a R C M) (s : Sm N a) : ∀ i, i < R → ∀ j, j < C → Dr 12 (M i j) := by
 intro i hi j hj
 have h1 := (s.2 i (by rw [h.1]; exact hi)).2 (rt (M i j)) (by
   rw [(h.2 i hi).1]
   exact List.mem_map_of_mem (List.mem_map_of_mem (List.mem_range.2 hj)))
 rw [w4q] at h1
 exact z6r h1 (w77 _)
theorem yu6 {N : Nat} (hN : N ≤ 6) {a : List (List ByteArray)} (ha : WM a) {b c : List ByteArray} (hb : WV b) (hc : WV c) {l : List (List ByteArray)} (s1 : Sm N a) (s2 : Sm N l) (l0 : 0 < l.length) (l1 : 1 < l.length) (e0 : l.getD 0 [] = b) (e1 : l.getD 1 [] = c) :
  (∃ e : Int, e ≠ 0 ∧ z2t fuel (a, (b, c)) = some e ∧ z44 fuel (a, (b, c)) = some ((0, ([], ([], ([], ByteArray.empty)))), e)) ∨
  ∃ (bs cs : List Rat) (m n : Nat) (A : Nat → Nat → Rat) (out : _), b = bs.map rt ∧ c = cs.map rt ∧ m ≤ N ∧ n ≤ N ∧ Prob m n A (fun j => bs.getD j 0) (fun j => cs.getD j 0) a bs cs ∧ (∀ i, i < m → ∀ k, k < n → Dr 12 (A i k)) ∧ (∀ i, i < m → Dr 12 (bs.getD i 0)) ∧ (∀ i, i < n → Dr 12 (cs.getD i 0)) ∧
   z44 fuel (a, (b, c)) = some out ∧ Sol m n A (fun j => bs.getD j 0) (fun j => cs.getD j 0) out := by
 rcases yu2 ha (Nat.le_trans hb.1 (by decide)) hb.2 (Nat.le_trans hc.1 (by decide)) hc.2 with ⟨e, h0, h1⟩ | ⟨h1, bs, cs, A, rfl, rfl, hbo, hco, hbl, hA, ha40, hc40⟩
 ·refine .inl ⟨e, h0, h1, ?_⟩
  unfold z44
  rw [h1, Option.bind_some, if_pos (by simpa using h0)]
 ·obtain ⟨lb, db⟩ := w0g s2 l0 e0
  obtain ⟨lc, dc⟩ := w0g s2 l1 e1
  have dA := wg1 hA s1
  have lm : a.length ≤ N := s1.1
  rw [hbl] at db
  obtain ⟨out, o1, o2⟩ := w6r (by omega) (by omega) hA hbl rfl hbo hco dA db dc h1
  exact .inr ⟨bs, cs, a.length, cs.length, A, out, rfl, rfl, lm, lc, ⟨ha40, hc40, hA, hbl, rfl, hbo, hco, rfl, rfl, h1⟩, dA, db, dc, o1, o2⟩
theorem ys9 (a : List (List ByteArray)) (b c : List ByteArray) (ha : WM a) (hb : WV b) (hc : WV c) : z34 fuel (a, (b, c)) = some true := by
 unfold z34
 dsimp only
 rw [y69, Option.bind_some, if_neg (by decide)]
 obtain ⟨r, hr, hs⟩ := w1t (l := [a, [b, c]]) (by simp) (fun x hx => by
   rcases List.mem_cons.1 hx with rfl | hx
   · exact ha
   · rw [List.mem_singleton] at hx; subst hx
     exact w9l (by simp) fun v hv => by
       rcases List.mem_cons.1 hv with rfl | hv
       · exact hb
       · rw [List.mem_singleton] at hv; subst hv; exact hc) 6
 have hr : z43 fuel 6 [a, [b, c]] = some r := hr
 rw [hr, Option.bind_some]
 cases r with
 | false => rw [if_pos (by decide)]
 | true =>
  have hs := hs rfl
  rw [if_neg (by decide)]
  rcases yu6 (Nat.le_refl 6) ha hb hc (hs a (by simp)) (hs [b, c] (by simp)) (by simp) (by simp) rfl rfl with ⟨e, e0, h1, h2⟩ | ⟨bs, cs, m, n, A, out, rfl, rfl, hm, hn, hp, dA, db, dc, h2, hS⟩
  ·rw [h2, Option.bind_some, if_pos (by simpa using e0), h1, Option.bind_some, if_pos (by simp)]
   rfl
  ·rw [h2, Option.bind_some]
   have ok : ∀ {k : Nat} {x : Nat → Rat}, (∀ j, j < k → Dr 1400 (x j) ∧ 0 ≤ x j) → ∀ j, j < k → OkR (x j) := fun h j hj => y9a (h j hj).1 (by decide) (by decide)
   rcases hS with ⟨x, y, v, hx, hy, hv, k1, k2, k3, k4, rfl⟩ | ⟨y, hy, k1, k2, rfl⟩ | ⟨x, z, hx, hz, k1, k2, k3, rfl⟩
   ·obtain ⟨e, v1, _, v2⟩ := yv0 hp (ok hx) (ok hy) (y9a hv (by decide) (by decide))
    have k4 : fs (fun j => bs.getD j 0 * y j) m = v := by rw [← k4]; exact z1x fun j _ => Rat.mul_comm _ _
    have := v2.2 ⟨fun j hj => (hx j hj).2, fun j hj => (hy j hj).2, k1, k2, k3, k4⟩
    rw [if_neg (by simp)]
    dsimp only
    rw [v1, this, Option.bind_some]; rfl
   ·rw [if_neg (by simp)]
    dsimp only
    rw [yv2 hp (ok hy) (fun j hj => (hy j hj).2) k1 (by rw [z1x (g := fun j => y j * bs.getD j 0) fun j _ => Rat.mul_comm _ _]; exact k2), Option.bind_some]; rfl
   ·rw [if_neg (by simp)]
    dsimp only
    rw [yv1 hp (ok hx) (ok hz) (fun j hj => (hx j hj).2) (fun j hj => (hz j hj).2) k1 k2 k3, Option.bind_some]; rfl
theorem simplexProves_plain : ∀ x : List (List ByteArray) × (List ByteArray × List ByteArray), WfL [.pair (.slice (.slice .str)) (.pair (.slice .str) (.slice .str))] x → z34 fuel x = some true :=
 fun x h => ys9 x.1 x.2.1 x.2.2 (wg4 h.1) (we0 h.2.1) (we0 h.2.2)
end Go.Proofs.YtcdcoeofhnfjdaaDoor
