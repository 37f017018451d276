/- Sequences of choices as blocks: one for each information set. Plain facts. -/
import Derived.Test.YtbcooccafbccdaaGreatDoorTc
namespace Go.Proofs.YtbcooccafbccdaaGreatDoor
open Go Vm
abbrev Sq := Int × (Int × Int)
abbrev Bk := Int × (Nat × Nat)
def blkAt (q : Bk) (c n : Nat) : List Sq := (List.range' c n).map fun (c : Nat) => (q.1, ((c : Int), (q.2.2 : Int)))
abbrev blk (q : Bk) : List Sq := blkAt q 0 q.2.1
def tot (bs : List Bk) : Nat := (bs.map fun q => q.2.1).sum
def sqs (bs : List Bk) : List Sq := (-1, (-1, -1)) :: bs.flatMap blk
theorem tot_nil : tot [] = 0 := rfl
theorem tot_cons (q : Bk) (bs : List Bk) : tot (q :: bs) = q.2.1 + tot bs := rfl
theorem tot_append (a b : List Bk) : tot (a ++ b) = tot a + tot b := by simp [tot]
theorem blk_length (q : Bk) : (blk q).length = q.2.1 := by simp [blkAt]
theorem flat_length (bs : List Bk) : (bs.flatMap blk).length = tot bs := by
 induction bs with
 | nil => rfl
 | cons q bs ih => rw [List.flatMap_cons, List.length_append, blk_length, ih, tot_cons]
theorem sqs_length (bs : List Bk) : (sqs bs).length = tot bs + 1 := by rw [sqs, List.length_cons, flat_length]
abbrev sz0 : Sq := (0, (0, 0))
theorem blk_at (q : Bk) (c : Nat) (h : c < q.2.1) : (blk q).getD c sz0 = (q.1, ((c : Int), (q.2.2 : Int))) := by
 simp only [blk, blkAt]
 rw [List.getD_eq_getElem?_getD, List.getElem?_map, List.getElem?_range' h]
 simp
theorem sqs_at (pre post : List Bk) (q : Bk) (c : Nat) (h : c < q.2.1) : (sqs (pre ++ q :: post)).getD (tot pre + c + 1) sz0 = (q.1, ((c : Int), (q.2.2 : Int))) := by
 rw [List.getD_eq_getElem?_getD, sqs, List.getElem?_cons_succ, List.flatMap_append, List.flatMap_cons, List.getElem?_append_right (by rw [flat_length]; omega), flat_length, show tot pre + c - tot pre = c by omega,
   List.getElem?_append_left (by rw [blk_length]; exact h), ← List.getD_eq_getElem?_getD, blk_at q c h]
theorem place : ∀ {bs : List Bk} {k : Nat}, k < tot bs → ∃ pre q post c, bs = pre ++ q :: post ∧ c < q.2.1 ∧ k = tot pre + c
 | [], k, h => by rw [tot_nil] at h; omega
 | q :: bs, k, h => by
  rw [tot_cons] at h
  by_cases hk : k < q.2.1
  ·exact ⟨[], q, bs, k, rfl, hk, by rw [tot_nil]; omega⟩
  ·obtain ⟨pre, q', post, c, e, h1, h2⟩ := place (bs := bs) (k := k - q.2.1) (by omega)
   exact ⟨q :: pre, q', post, c, by rw [e]; rfl, h1, by rw [tot_cons]; omega⟩
def BefOk : Nat → List Bk → Prop
 | _, [] => True
 | n, q :: bs => q.2.2 < n ∧ BefOk (n + q.2.1) bs
theorem befOk_at : ∀ {pre : List Bk} {n : Nat} {q : Bk} {post : List Bk}, BefOk n (pre ++ q :: post) → q.2.2 < n + tot pre
 | [], n, q, post, h => by rw [tot_nil]; exact h.1
 | p :: pre, n, q, post, h => by
  have := befOk_at (pre := pre) h.2
  rw [tot_cons]; omega
theorem befOk_snoc : ∀ {bs : List Bk} {n : Nat} {q : Bk}, BefOk n bs → q.2.2 < n + tot bs → BefOk n (bs ++ [q])
 | [], n, q, _, h => ⟨by rw [tot_nil] at h; exact h, trivial⟩
 | p :: bs, n, q, h1, h2 => ⟨h1.1, befOk_snoc h1.2 (by rw [tot_cons] at h2; omega)⟩
def fst? (bs : List Bk) (x : Int) : Option Nat :=
 match bs with
 | [] => none
 | q :: bs => if q.1 = x then some 0 else (fst? bs x).map (q.2.1 + ·)
theorem fst?_some : ∀ {bs : List Bk} {x : Int} {k : Nat}, fst? bs x = some k → ∃ pre q post, bs = pre ++ q :: post ∧ q.1 = x ∧ k = tot pre ∧ x ∉ pre.map (·.1)
 | [], x, k, h => by cases h
 | q :: bs, x, k, h => by
  simp only [fst?] at h
  split at h
  ·rename_i e
   cases h
   exact ⟨[], q, bs, rfl, e, rfl, by simp⟩
  ·rename_i e
   simp only [Option.map_eq_some_iff] at h
   obtain ⟨k', h1, rfl⟩ := h
   obtain ⟨pre, q', post, h2, h3, h4, h5⟩ := fst?_some h1
   refine ⟨q :: pre, q', post, by rw [h2]; rfl, h3, by rw [tot_cons, h4], ?_⟩
   rw [List.map_cons, List.mem_cons]
   exact fun h => h.elim (fun h => e h.symm) h5
theorem fst?_none : ∀ {bs : List Bk} {x : Int}, fst? bs x = none → x ∉ bs.map (·.1)
 | [], x, _ => by simp
 | q :: bs, x, h => by
  simp only [fst?] at h
  split at h
  ·cases h
  ·rename_i e
   simp only [Option.map_eq_none_iff] at h
   rw [List.map_cons, List.mem_cons]
   exact fun h' => h'.elim (fun h => e h.symm) (fst?_none h)
theorem fst?_append {a b : List Bk} {x : Int} {k : Nat} (h : fst? a x = some k) : fst? (a ++ b) x = some k := by
 induction a generalizing k with
 | nil => cases h
 | cons q a ih =>
  simp only [fst?, List.cons_append] at h ⊢
  split at h
  ·rename_i e; rw [if_pos e]; exact h
  ·rename_i e
   rw [if_neg e]
   simp only [Option.map_eq_some_iff] at h
   obtain ⟨k', h1, rfl⟩ := h
   rw [ih h1]; rfl
theorem fst?_snoc {a : List Bk} {q : Bk} (h : q.1 ∉ a.map (·.1)) : fst? (a ++ [q]) q.1 = some (tot a) := by
 induction a with
 | nil => simp [fst?, tot_nil]
 | cons p a ih =>
  rw [List.map_cons, List.mem_cons] at h
  simp only [fst?, List.cons_append]
  rw [if_neg (fun e => h (.inl e.symm)), ih (fun x => h (.inr x)), tot_cons]; rfl
theorem flat_mem {bs : List Bk} {s : Sq} (h : s ∈ bs.flatMap blk) : s.1 ∈ bs.map (·.1) := by
 rw [List.mem_flatMap] at h
 obtain ⟨q, h1, h2⟩ := h
 simp only [blkAt, List.mem_map] at h2
 obtain ⟨c, _, rfl⟩ := h2
 exact List.mem_map_of_mem h1
end Go.Proofs.YtbcooccafbccdaaGreatDoor
