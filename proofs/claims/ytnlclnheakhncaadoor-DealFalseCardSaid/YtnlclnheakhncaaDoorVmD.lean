/- A small machine over the model, and that its runs tell what the model does: part 4. -/
import Derived.Test.YtnlclnheakhncaaDoorVmC
import Derived.OrdersHeld
import Derived.KernelRfl
import Derived.OpenShut
import Derived.SizedLaws
import Derived.ChangeArms
import Derived.Carry
import Derived.RowKit
import Derived.ChangeShapes
import Derived.ChangeOld
import Derived.Handed
import Derived.LaidMore
import Derived.Stop.Joined
import Derived.IntWalk
import Derived.Laws.Strings
import Derived.Shelf.Strings.OnBuilder
import Derived.Shelf.Strings.Count
import Derived.Shelf.Strings.Search2
import Derived.Shelf.Strings.Search3
import Derived.Shelf.Small.Strs
/- Regions whose order is drawn: soundness. -/
namespace Vm
open Go

theorem grows_value {P : Program} {s : Sem Value} (h : Grows P s) : ∀ w n w', (do Pure.pure (Next.value (← s)) : Sem Next).run P w = .ok n w' → (∃ x, n = .value x) ∧ Grow w w' := by
  intro w n w' e
  rw [Sem.run_bind] at e
  cases hr : s.run P w with
  | ok y w1 => rw [hr] at e; cases e; exact ⟨⟨y, rfl⟩, h _ _ _ hr⟩
  | halt a w1 => rw [hr] at e; cases e

section
variable {ρ : Type} {P : Program} {E : Env} {Pr : Nat → Prop} {w0 : St} {w : World} {stk : List (Array Value)} {s : MS} {a : Act} {G : Gh} {o : Oper} {Q : Exit → Act → World → Prop} {K : AV → MS → Option ρ} {r : ρ}

theorem wp_and_grow {N : Act → World → Prop} (hg : ∀ n w', (execOp a.eval o).run P w = .ok n w' → (∃ x, n = .value x) ∧ Grow w w') (h : o.wp P a w N Q) : o.wp P a w (fun a' w' => N a' w' ∧ Grow w w') Q := by
  unfold Oper.wp at h ⊢
  cases hr : (execOp a.eval o).run P w with
  | ok n w' =>
    obtain ⟨⟨x, rfl⟩, hg⟩ := hg n w' hr
    rw [hr] at h
    exact ⟨h, hg⟩
  | halt x w' =>
    rw [hr] at h
    cases x <;> exact h

theorem calm_grow (hE : EOk P E) (hS : SpecsOk P E) (hP : ∀ b, Pr b → b < w0.heap.size) {inl : Inl ρ} (hI : InlOk P Pr w0 inl) (k : Rel Pr w0 stk s a.tmps w G) {still : Bool} (h : exec E inl still o s K = some r) (hc : calm E o = true) :
    o.wp P a w (fun a' w' => Done Pr w0 stk o a K r a' w' ∧ Grow w w') Q := by
  have hw := exec_sound (Q := Q) hE hS hP hI k h
  unfold calm at hc
  rw [Bool.or_eq_true] at hc
  rcases hc with hc | hc
  · obtain ⟨any, hy⟩ := Option.isSome_iff_exists.1 hc
    obtain ⟨z, hz⟩ := yields hE hS hP hI k h hy
    refine wp_and_grow (fun n w' e => ?_) hw
    rw [hz w (.inr (Grow.refl w))] at e
    cases e
    exact ⟨⟨_, rfl⟩, Grow.refl w⟩
  · split at hc
    · rename_i ho
      exact wp_and_grow (fun n w' e => grows_value (Grows.alloc _) w n w' (by unfold execOp at e; simp only [ho] at e; exact e)) hw
    · rename_i ho
      exact wp_and_grow (fun n w' e => grows_value (Grows.box _ _) w n w' (by unfold execOp at e; simp only [ho] at e; exact e)) hw
    · rename_i ho
      exact wp_and_grow (fun n w' e => grows_value (Grows.build _ _) w n w' (by unfold execOp at e; simp only [ho] at e; exact e)) hw
    · rename_i ho
      exact wp_and_grow (fun n w' e => grows_value (Grows.buildSlice _ _ _) w n w' (by unfold execOp at e; simp only [ho] at e; exact e)) hw
    · rename_i ho
      exact wp_and_grow (fun n w' e => grows_value (Grows.makeSlice _ _ _) w n w' (by unfold execOp at e; simp only [ho] at e; exact e)) hw
    · rename_i ho
      exact wp_and_grow (fun n w' e => grows_value (s := Instr.makeFunc _ _ _) (Grows.pure _) w n w' (by unfold execOp at e; simp only [ho] at e; exact e)) hw
    · rename_i c ho
      split at hc
      · rename_i g hcal
        obtain ⟨sp, hsp⟩ := Option.isSome_iff_exists.1 hc
        obtain ⟨h1, h2⟩ := hS g sp hsp
        unfold exec at h
        simp only [ho, hcal] at h
        have hg : s.ev (.func g) = .one (.func g) := rfl
        rw [hg] at h
        simp only at h
        unfold callAny at h
        rw [hsp] at h
        obtain ⟨hl, hr⟩ := ev_args k c.args
        have hcall := callSpec_grow hP k h2 hl hr h
        have hf : a.eval (.func g) = .func (.func g) #[] #[] := rfl
        have hd : (resolve a.eval c o.type).run P w = .ok { target := .fn (.func g) #[], args := #[] ++ c.args.map a.eval } w := by
          unfold resolve
          simp only [hcal, hf, Deferred.ofValue, Sem.run_pure]
        have hrun : (execOp a.eval o).run P w = .ok (.enter g (c.args.map a.eval)) w := by
          unfold execOp
          simp only [ho, Sem.run_bind, hd, Result.andThen_ok, invoke]
          unfold entered at h1
          unfold callFunc
          split at h1
          · rename_i fn hfn
            simp only [Bool.and_eq_true, Bool.not_eq_true'] at h1
            obtain ⟨h3, h4⟩ := h1
            have h4' : ¬ (fn.name = "runtime.NumGoroutine") := by simpa using h4
            have h3' : ¬ (fn.body = none) := by cases hb : fn.body with | none => simp [hb] at h3 | some c => simp
            simp [program, Sem.run, hfn, h4', h3']
          · cases h1
        unfold Oper.wp
        rw [hrun, Oper.upon_enter]
        refine hcall.mono fun e w' he => ?_
        cases e with
        | returned v =>
          obtain ⟨⟨av, s', G', g1, g2, g3⟩, g4⟩ := he
          exact ⟨⟨av, s', v, G', rfl, g1, g2, g3⟩, g4⟩
        | panicked _ => exact he.1.elim
        | outgrown => exact he.1.elim
      · cases hc
    · cases hc

/-- One operation and its guard, and what it leaves as it is. -/
theorem wpOp_execG (hE : EOk P E) (hS : SpecsOk P E) (hP : ∀ b, Pr b → b < w0.heap.size) {inl : Inl ρ} (hI : InlOk P Pr w0 inl) {ops : Array Oper} {K : MS → Option ρ} {D : Nat → Prop} (k : Rel Pr w0 stk s a.tmps w G) {i : Nat} (hi : ops[i]? = some o)
    (hd : ∀ t, o.dst = some t → t < a.tmps.size) (hD : ∀ t, o.dst = some t → D t) (h : execG E inl ops.toList o s K = some r) :
    wpOp P ops Q i (fun a' w' => Then Pr w0 stk D a K r a' w' ∧ (calm E o = true → Grow w w')) a w ∧
    ∀ any, yc E o = some any → ∃ v, YieldsIf P ops (fun w2 => any = true ∨ Grow w w2) o v a ∧ Then Pr w0 stk D a K r (a.put o.dst v) w := by
  have go : ∀ {s : MS} {still : Bool}, Rel Pr w0 stk s a.tmps w G → exec E inl still o s (fun v s => K (s.put o.dst v)) = some r →
      o.wp P a w (fun a' w' => Then Pr w0 stk D a K r a' w' ∧ (calm E o = true → Grow w w')) Q ∧
      ∀ any, yc E o = some any → ∃ v, YV P o a w any v ∧ Then Pr w0 stk D a K r (a.put o.dst v) w := by
    intro s still k h
    have conv : ∀ {Q : Exit → Act → World → Prop} {a' : Act} {w' : World}, Done Pr w0 stk o a (fun v s => K (s.put o.dst v)) r a' w' → Then Pr w0 stk D a K r a' w' := by
      rintro Q a' w' ⟨v, s', x, G', e, k', hx, hK⟩
      subst e
      exact ⟨s'.put o.dst v, G', k'.putO (a := a) hd hx, put_same a hD _, put_defers .., hK⟩
    constructor
    · cases hc : calm E o with
      | true => exact wp_next (calm_grow hE hS hP hI k h hc) fun a' w' ⟨h1, h2⟩ => ⟨conv (Q := Q) h1, fun _ => h2⟩
      | false => exact wp_next (exec_sound hE hS hP hI k h) fun a' w' h1 => ⟨conv (Q := Q) h1, fun e => by cases e⟩
    · intro any hy
      obtain ⟨z, hz⟩ := yields hE hS hP hI k h hy
      have hw := exec_sound (Q := fun _ _ _ => False) hE hS hP hI k h
      unfold Oper.wp at hw
      rw [hz w (.inr (Grow.refl w))] at hw
      exact ⟨z, hz, conv (Q := Q) hw⟩
  unfold execG at h
  unfold wpOp
  simp only [hi]
  split at h
  · rename_i hg
    obtain ⟨h1, h2⟩ := go k h
    have hw : Region.wanted o (yielded ops a.tmps) = true := by simp [Region.wanted, hg]
    rw [hw]
    exact ⟨.inl h1, fun any hy => let ⟨v, hv, ht⟩ := h2 any hy; ⟨v, .inl ⟨hw, fun w2 hw2 => hv w2 hw2⟩, ht⟩⟩
  · rename_i j want hg
    split at h
    · rename_i d hj
      split at h
      · rename_i b hb
        have kb := k.get d
        rw [hb] at kb
        have hv : a.tmps.getD d undef = .bool b := inv_bool kb
        have hy : yielded ops a.tmps j = some b := by
          have hlt : d < a.tmps.size := by
            rcases Nat.lt_or_ge d a.tmps.size with h | h
            · exact h
            · rw [Array.getD, dif_neg (by omega)] at hv; exact absurd hv (undef_not_bool b)
          unfold yielded
          rw [Array.getElem?_toList] at hj
          rw [hj]
          have : a.tmps[d]? = some (.bool b) := by
            rw [Array.getElem?_eq_getElem hlt]; rw [Array.getD, dif_pos hlt] at hv; exact congrArg some hv
          simp [this]
        have hwt : Region.wanted o (yielded ops a.tmps) = (some b == some want) := by simp [Region.wanted, hg, hy]
        rw [hwt]
        split at h
        · rename_i e
          obtain ⟨h1, h2⟩ := go (k.retell (d := d) (v := b1 want) (by rw [hv, e]; exact rd_bool)) h
          have e' : (some b == some want) = true := by simp [e]
          rw [e']
          exact ⟨.inl h1, fun any hy => let ⟨v, hv, ht⟩ := h2 any hy; ⟨v, .inl ⟨hwt.trans e', fun w2 hw2 => hv w2 hw2⟩, ht⟩⟩
        · rename_i e
          have hbw : b = !want := by
            have e : ¬ (b = want) := e
            cases b <;> cases want <;> first | rfl | exact absurd rfl e
          have e' : (some b == some want) = false := by rw [hbw]; cases want <;> rfl
          rw [e']
          have ht : Then Pr w0 stk D a K r (a.put o.dst undef) w :=
            ⟨_, G, (k.retell (d := d) (v := b1 !want) (by rw [hv, hbw]; exact rd_bool)).putO (a := a) hd (x := undef) (v := .tup []) rd_skip, put_same a hD _, put_defers .., h⟩
          exact ⟨⟨ht, fun _ => Grow.refl w⟩, fun any _ => ⟨undef, .inr ⟨hwt.trans e', rfl⟩, ht⟩⟩
      · rename_i hb
        have hwt := skip_wanted k hg hj hb
        rw [hwt]
        have ht : Then Pr w0 stk D a K r (a.put o.dst undef) w := ⟨_, G, k.putO (a := a) hd (x := undef) (v := .tup []) rd_skip, put_same a hD _, put_defers .., h⟩
        exact ⟨⟨ht, fun _ => Grow.refl w⟩, fun any _ => ⟨undef, .inr ⟨hwt, rfl⟩, ht⟩⟩
      · cases h
    · cases h

end

/-! Orders. -/
/-- What comes before an operation by the edges. -/
inductive Bef (ops : Array Oper) : Nat → Nat → Prop where
  | edge {j : Nat} {o : Oper} {e : Edge} : ops[j]? = some o → e ∈ o.after → Region.binds .any e = true → Bef ops j e.on
  | step {j i : Nat} {o : Oper} {e : Edge} : ops[j]? = some o → e ∈ o.after → Region.binds .any e = true → Bef ops e.on i → Bef ops j i

theorem befores_sound (ops : Array Oper) : ∀ (j i : Nat), i ∈ (befores ops.toList).getD j [] → Bef ops j i := by
  -- what the rounds have put together holds of the operations that they have passed
  have inner : ∀ (es : List Edge) (acc : List (List Nat)) (l : List Nat) (i : Nat), i ∈ es.foldl (fun l e => if Region.binds .any e then e.on :: (acc.getD e.on [] ++ l) else l) l →
      i ∈ l ∨ ∃ e, e ∈ es ∧ Region.binds .any e = true ∧ (i = e.on ∨ i ∈ acc.getD e.on []) := by
    intro es acc
    induction es with
    | nil => intro l i h; exact .inl h
    | cons e es ih =>
      intro l i h
      rw [List.foldl_cons] at h
      rcases ih _ i h with h | ⟨e', he', hb, h⟩
      · split at h
        · rename_i hb
          rcases List.mem_cons.1 h with h | h
          · exact .inr ⟨e, List.mem_cons_self .., hb, .inl h⟩
          · rcases List.mem_append.1 h with h | h
            · exact .inr ⟨e, List.mem_cons_self .., hb, .inr h⟩
            · exact .inl h
        · exact .inl h
      · exact .inr ⟨e', List.mem_cons_of_mem _ he', hb, h⟩
  have outer : ∀ (l : List Oper) (acc : List (List Nat)), (∀ j, l[j]? = ops[acc.length + j]?) → (∀ j i, i ∈ acc.getD j [] → Bef ops j i) →
      ∀ j i, i ∈ (l.foldl (fun acc o => acc ++ [o.after.toList.foldl (fun l e => if Region.binds .any e then e.on :: (acc.getD e.on [] ++ l) else l) []]) acc).getD j [] → Bef ops j i := by
    intro l
    induction l with
    | nil => intro acc _ h; exact h
    | cons o l ih =>
      intro acc hl h
      rw [List.foldl_cons]
      refine ih _ (fun j => ?_) fun j i hi => ?_
      · have := hl (j + 1)
        rw [List.getElem?_cons_succ] at this
        rw [this, List.length_append, List.length_singleton]
        congr 1; omega
      · rw [List.getD_eq_getElem?_getD] at hi
        by_cases hj : j < acc.length
        · rw [List.getElem?_append_left hj, ← List.getD_eq_getElem?_getD] at hi
          exact h j i hi
        · rw [List.getElem?_append_right (by omega)] at hi
          by_cases hj' : j = acc.length
          · subst hj'
            rw [Nat.sub_self] at hi
            have ho : ops[acc.length]? = some o := by have := hl 0; simpa using this.symm
            rcases inner _ acc [] i hi with hi | ⟨e, he, hb, hi⟩
            · cases hi
            · have he' : e ∈ o.after := by simpa using he
              rcases hi with rfl | hi
              · exact .edge ho he' hb
              · exact .step ho he' hb (h _ _ hi)
          · have : ([o.after.toList.foldl (fun l e => if Region.binds .any e then e.on :: (acc.getD e.on [] ++ l) else l) []] : List (List Nat))[j - acc.length]? = none := by
              rw [List.getElem?_eq_none]; simp; omega
            rw [this] at hi; cases hi
  intro j i h
  exact outer ops.toList [] (fun j => by simp) (fun j i h => by simp at h) j i h

def Down (ops : Array Oper) (listed : Array Bool) : Prop :=
  ∀ k, listed.getD k false = true → ∀ o, ops[k]? = some o → ∀ e ∈ o.after, Region.binds .any e = true → listed.getD e.on false = true

theorem down_bef {ops : Array Oper} {listed : Array Bool} (hd : Down ops listed) {j i : Nat} (h : Bef ops j i) : listed.getD j false = true → listed.getD i false = true := by
  induction h with
  | edge ho he hb => exact fun hl => hd _ hl _ ho _ he hb
  | step ho he hb _ ih => exact fun hl => ih (hd _ hl _ ho _ he hb)

theorem ready_bef {ops : Array Oper} {listed : Array Bool} (hd : Down ops listed) {j i : Nat} (hj : j ∈ Region.ready .any ops listed) (h : Bef ops j i) : listed.getD i false = true := by
  obtain ⟨_, o, ho, hall⟩ := mem_ready.1 hj
  cases h with
  | edge ho' he hb => rw [ho] at ho'; cases ho'; exact hall _ he hb
  | step ho' he hb hr => rw [ho] at ho'; cases ho'; exact down_bef hd hr (hall _ he hb)

theorem down_set {ops : Array Oper} {listed : Array Bool} (hd : Down ops listed) {j : Nat} (hj : j ∈ Region.ready .any ops listed) : Down ops (listed.setIfInBounds j true) := by
  intro k hk o ho e he hb
  by_cases hkj : k = j
  · subst hkj
    obtain ⟨_, o', ho', hall⟩ := mem_ready.1 hj
    rw [ho] at ho'; cases ho'
    exact getD_set_true (hall e he hb)
  · refine getD_set_true (hd k ?_ o ho e he hb)
    have := Go.getD_set_ne (listed := listed) (i := j) (j := k) false (Ne.symm hkj)
    rw [this] at hk
    exact hk

/-- Whatever order is picked from here on; behind each operation that is calm the world has only grown. -/
def wpAnyC (P : Program) (E : Env) (ops : Array Oper) (Q : Exit → Act → World → Prop) : Nat → Array Bool → Act → World → Prop
  | 0, listed, a, w => Region.ready .any ops listed = [] ∧ Q .normal a w
  | fuel + 1, listed, a, w =>
    (Region.ready .any ops listed = [] → Q .normal a w) ∧
    ∀ i ∈ Region.ready .any ops listed, wpOp P ops Q i (fun a' w' => ((∀ o, ops[i]? = some o → calm E o = true → Grow w w')) ∧ wpAnyC P E ops Q fuel (listed.setIfInBounds i true) a' w') a w

section
variable {P : Program} {E : Env} {ops : Array Oper} {Q : Exit → Act → World → Prop}

theorem wpAny_of_C : ∀ (fuel : Nat) (listed : Array Bool) (a : Act) (w : World), wpAnyC P E ops Q fuel listed a w → wpAny P .any ops Q fuel listed a w
  | 0, _, _, _, h => h
  | fuel + 1, _, _, _, h => ⟨h.1, fun i hi => wpOp_mono (fun a' w' h' => wpAny_of_C fuel _ a' w' h'.2) (h.2 i hi)⟩

theorem wpAnyC_first {i : Nat} {oi : Oper} {v : Value} {any : Bool} (hi : ops[i]? = some oi) (hsel : ∀ (j : Nat) (o : Oper) cs b, ops[j]? = some o → o.op ≠ .select cs b)
    (hQ : ∀ c a w, ¬ Q (.panic c) a w) (_ : calm E oi = true) :
    ∀ (fuel : Nat) (listed : Array Bool) (a : Act) (w : World), Down ops listed →
      (∀ j oj, ops[j]? = some oj → j ≠ i → listed.getD j true = false → ¬ Bef ops j i → oi.apart ops oj = true ∧ (any = true ∨ calm E oj = true)) →
      i ∈ Region.ready .any ops listed → YieldsIf P ops (fun w2 => any = true ∨ Grow w w2) oi v a →
      wpAnyC P E ops Q fuel (listed.setIfInBounds i true) (a.put oi.dst v) w → wpAnyC P E ops Q (fuel + 1) listed a w := by
  intro fuel
  induction fuel with
  | zero =>
    intro listed a w _ _ hr hy H
    refine ⟨fun h => (by rw [h] at hr; cases hr), fun j hj => ?_⟩
    by_cases hji : j = i
    · subst hji; exact hy.wpOp hi (.inr (Grow.refl w)) ⟨fun _ _ _ => Grow.refl w, H⟩
    · have := ready_mono hj hji
      rw [H.1] at this
      cases this
  | succ fuel ih =>
    intro listed a w hdn hfree hr hy H
    refine ⟨fun h => (by rw [h] at hr; cases hr), fun j hj => ?_⟩
    by_cases hji : j = i
    · subst hji; exact hy.wpOp hi (.inr (Grow.refl w)) ⟨fun _ _ _ => Grow.refl w, H⟩
    · have h1 := H.2 j (ready_mono hj hji)
      obtain ⟨hjun, oj, hoj, hall⟩ := mem_ready.1 hj
      have hnot : ¬ Bef ops j i := fun hb => by
        have h1 := ready_bef hdn hj hb
        have h0 := (mem_ready.1 hr).1
        rcases Nat.lt_or_ge i listed.size with h' | h'
        · simp [h'] at h0 h1; rw [h0] at h1; cases h1
        · simp [Array.getElem?_eq_none h'] at h1
      obtain ⟨hap, hany⟩ := hfree j oj hoj hji hjun hnot
      have h2 := wpOp_putIf hoj hap (fun cs b => hsel i oi cs b hi) (fun cs b => hsel j oj cs b hoj) (fun c a w h => absurd h (hQ c _ w)) hy h1
      refine wpOp_mono (fun a' w' ⟨h3, h4, h5⟩ => ⟨h4, ih (listed.setIfInBounds j true) a' w' (down_set hdn hj) ?_ (ready_mono hr (Ne.symm hji)) ?_ ?_⟩) h2
      · intro k ok hk hki hun hno
        refine hfree k ok hk hki ?_ hno
        by_cases hjk : j = k
        · subst hjk; exact hjun
        · rw [Go.getD_set_ne true hjk] at hun; exact hun
      · unfold YieldsIf at h3 ⊢
        refine h3.imp (fun ⟨g1, g2⟩ => ⟨g1, fun w2 hw2 => g2 w2 ?_⟩) id
        rcases hw2 with hw2 | hw2
        · exact .inl hw2
        · rcases hany with ha | hc
          · exact .inl ha
          · exact .inr ((h4 oj hoj hc).trans hw2)
      · rw [Array.setIfInBounds_comm _ _ hji]
        exact h5

theorem wpAnyC_one {i : Nat} {fuel : Nat} {listed : Array Bool} {a : Act} {w : World} (hr : Region.ready .any ops listed = [i])
    (h : wpOp P ops Q i (fun a' w' => ((∀ o, ops[i]? = some o → calm E o = true → Grow w w')) ∧ wpAnyC P E ops Q fuel (listed.setIfInBounds i true) a' w') a w) : wpAnyC P E ops Q (fuel + 1) listed a w :=
  ⟨fun h0 => (by rw [hr] at h0; cases h0), fun j hj => (by rw [hr, List.mem_singleton] at hj; subst hj; exact h)⟩

theorem wpAnyC_done {listed : Array Bool} {a : Act} {w : World} (hr : Region.ready .any ops listed = []) (h : Q .normal a w) : ∀ fuel, wpAnyC P E ops Q fuel listed a w
  | 0 => ⟨hr, h⟩
  | _ + 1 => ⟨fun _ => h, by rw [hr]; simp⟩

theorem canFirst_spec {bf : List (List Nat)} {listed : Array Bool} {i : Nat} (hb : ∀ j i, i ∈ bf.getD j [] → Bef ops j i) (h : canFirst E ops bf listed i = true) :
    ∃ oi any, ops[i]? = some oi ∧ yc E oi = some any ∧ ∀ j oj, ops[j]? = some oj → j ≠ i → listed.getD j true = false → ¬ Bef ops j i → oi.apart ops oj = true ∧ (any = true ∨ calm E oj = true) := by
  unfold canFirst at h
  split at h
  · cases h
  · rename_i oi hoi
    split at h
    · cases h
    · rename_i any hy
      refine ⟨oi, any, hoi, hy, fun j oj hj hji hun hno => ?_⟩
      rw [List.all_eq_true] at h
      have h1 := h j (List.mem_range.2 (Array.getElem?_eq_some_iff.1 hj).1)
      have hnb : (bf.getD j []).contains i = false := by
        cases hc : (bf.getD j []).contains i with
        | false => rfl
        | true => exact absurd (hb j i (List.contains_iff_mem.1 hc)) hno
      have hji' : (j == i) = false := by simpa using hji
      simp only [hj, hun, hnb, hji', Bool.false_or, Bool.and_eq_true, Bool.or_eq_true] at h1
      exact h1

end

/-! Slices that are made in whatever order. -/
def setAll (l : List Nat) (listed : Array Bool) : Array Bool := l.foldl (fun a i => a.setIfInBounds i true) listed
theorem setAll_size : ∀ (l : List Nat) (listed : Array Bool), (setAll l listed).size = listed.size
  | [], _ => rfl
  | i :: l, listed => by
    show (setAll l (listed.setIfInBounds i true)).size = _
    rw [setAll_size l, Array.size_setIfInBounds]
theorem setAll_getD : ∀ (l : List Nat) (listed : Array Bool) (k : Nat) (d : Bool), (setAll l listed).getD k d = if k ∈ l ∧ k < listed.size then true else listed.getD k d
  | [], listed, k, d => by simp [setAll]
  | i :: l, listed, k, d => by
    show (setAll l (listed.setIfInBounds i true)).getD k d = _
    rw [setAll_getD l, Array.size_setIfInBounds]
    by_cases hk : k < listed.size
    · by_cases hl : k ∈ l
      · rw [if_pos ⟨hl, hk⟩, if_pos ⟨List.mem_cons_of_mem _ hl, hk⟩]
      · rw [if_neg (fun h => hl h.1)]
        by_cases hi : k = i
        · subst hi
          rw [if_pos ⟨List.mem_cons_self .., hk⟩]
          simp [Array.getD, hk]
        · rw [if_neg (fun h => by rcases List.mem_cons.1 h.1 with h | h; exact hi h; exact hl h), Go.getD_set_ne d (Ne.symm hi)]
    · rw [if_neg (fun h => hk h.2), if_neg (fun h => hk h.2)]
      simp [Array.getD, hk]
theorem setAll_same {l l' : List Nat} {listed : Array Bool} (h : ∀ k, k ∈ l ↔ k ∈ l') : setAll l listed = setAll l' listed := by
  apply Array.ext
  · rw [setAll_size, setAll_size]
  · intro k h1 h2
    have e1 := setAll_getD l listed k false
    have e2 := setAll_getD l' listed k false
    rw [Array.getD, dif_pos h1] at e1
    rw [Array.getD, dif_pos h2] at e2
    have e1 : (setAll l listed)[k] = _ := e1
    have e2 : (setAll l' listed)[k] = _ := e2
    rw [e1, e2]
    simp only [h k]

def mkOf (E : Env) (s : MS) (o : Oper) (x : Mk) : Prop :=
  ∃ t len cap e l c te, o.op = .makeSlice t len cap ∧ o.dst = some x.d ∧ o.guard = none ∧ E.kd? t = some (.slice e) ∧ s.ev len = .one (.val (.int .i64) l) ∧ s.ev cap = .one (.val (.int .i64) c) ∧ E.ti e = some te ∧
    (te.ty.sz ≠ 0 ∧ te.bytes ≠ 0) ∧ 0 ≤ (l : Int) ∧ (l : Int) ≤ c ∧ (c : Int) * te.bytes ≤ 281474976710656 ∧ x.id = s.nm (some x.d) ∧ x.ob = zeroRow te.kd te.ty (Int.toNat l)
theorem zeroRow_has (k : Kd) (t : Ty) (n i : Nat) : (zeroRow k t n).has i = false := by
  unfold zeroRow
  split <;> rfl

section
variable {ρ : Type} {P : Program} {E : Env} {Pr : Nat → Prop} {w0 : St} {stk : List (Array Value)}

theorem mkOf_still {s : MS} {o : Oper} {x : Mk} (h : mkOf E s o x) : x.still := by
  obtain ⟨t, len, cap, e, l, c, te, h1, h2, h3, h4, h5, h6, h7, h8, h9, h10, h11, h12, h13⟩ := h
  intro i
  rw [h13]; exact zeroRow_has _ _ _ _
theorem mkOf_exec {s : MS} {o : Oper} {x : Mk} (h : mkOf E s o x) {inl : Inl ρ} {all : List Oper} {K : MS → Option ρ} : execG E inl all o s K = K (x.step s) := by
  have hs := mkOf_still h
  obtain ⟨t, len, cap, e, l, c, te, h1, h2, h3, h4, h5, h6, h7, h8, h9, h10, h11, h12, h13⟩ := h
  obtain ⟨d, id, ob⟩ := x
  simp only at h2 h12 h13
  subst h12 h13
  unfold execG exec
  simp only [h3, h1, h2, h4, h5, h6, h7]
  rw [if_pos h8, if_pos h9, if_pos h10, if_pos h11]
  unfold MS.mk?
  have : (zeroRow te.kd te.ty (Int.toNat l)).has (s.nm (some d)) = false := hs _
  simp only [this, Bool.false_eq_true, if_false]
  rfl
theorem exec_mkOf {s : MS} {o : Oper} {d : Nat} {ts : List Nat} (hm : mkPart o = some (d, ts)) {inl : Inl ρ} {all : List Oper} {K : MS → Option ρ} {r : ρ} (h : execG E inl all o s K = some r) : ∃ x : Mk, x.d = d ∧ mkOf E s o x ∧ K (x.step s) = some r := by
  unfold mkPart at hm
  split at hm
  · rename_i t len cap d' ho hg hd
    simp only [Option.some.injEq, Prod.mk.injEq] at hm
    obtain ⟨rfl, _⟩ := hm
    have h0 := h
    unfold execG exec at h
    simp only [hg, ho, hd] at h
    split at h
    · rename_i e l c hk hl hc
      split at h
      · rename_i te hte
        split at h
        · rename_i h8
          split at h
          · rename_i h9
            split at h
            · rename_i h10
              split at h
              · rename_i h11
                have hx : mkOf E s o ⟨d', s.nm (some d'), zeroRow te.kd te.ty (Int.toNat l)⟩ := ⟨t, len, cap, e, l, c, te, ho, hd, hg, hk, hl, hc, hte, h8, h9, h10, h11, rfl, rfl⟩
                rw [mkOf_exec hx] at h0
                exact ⟨_, rfl, hx, h0⟩
              · cases h
            · cases h
          · cases h
        · cases h
      · cases h
    · cases h
  · cases hm

theorem step_get (y : Mk) (s : MS) (t : Nat) (h : t ≠ y.d) (k : IntKind) (n : Int) : (y.step s).get t = .one (.val (.int k) n) ↔ s.get t = .one (.val (.int k) n) := by
  unfold MS.get
  rw [step_slots, if_neg h]
  cases look t s.slots with
  | none => simp
  | some v =>
    simp only [Option.map_some, Option.getD_some]
    by_cases hv : v.has y.id = true
    · rw [if_pos hv]
      constructor
      · intro e; cases e
      · intro e; rw [e] at hv; cases hv
    · rw [if_neg hv]
theorem step_ev (y : Mk) (s : MS) (x : Operand) (h : ∀ t, x = .tmp t → t ≠ y.d) (k : IntKind) (n : Int) : (y.step s).ev x = .one (.val (.int k) n) ↔ s.ev x = .one (.val (.int k) n) := by
  cases x with
  | tmp t => exact step_get y s t (h t rfl) k n
  | _ => exact Iff.rfl
theorem step_nm (y : Mk) (s : MS) (d : Option Nat) : (y.step s).nm d = s.nm d := by
  unfold MS.nm
  rw [step_saved, List.length_map]
theorem mkOf_step {y : Mk} {s : MS} {o : Oper} {x : Mk} {d : Nat} {ts : List Nat} (hm : mkPart o = some (d, ts)) (hy : y.d ∉ ts) : mkOf E (y.step s) o x ↔ mkOf E s o x := by
  have hts : ∀ t len cap, o.op = .makeSlice t len cap → (∀ u, len = .tmp u → u ≠ y.d) ∧ ∀ u, cap = .tmp u → u ≠ y.d := by
    intro t len cap ho
    unfold mkPart at hm
    rw [ho] at hm
    split at hm
    · rename_i t' len' cap' d' ho' _ _
      cases ho'
      simp only [Option.some.injEq, Prod.mk.injEq] at hm
      obtain ⟨_, rfl⟩ := hm
      constructor
      · rintro u rfl rfl
        exact hy (by simp)
      · rintro u rfl rfl
        apply hy
        cases len <;> simp
    · cases hm
  unfold mkOf
  constructor
  · rintro ⟨t, len, cap, e, l, c, te, h1, h2, h3, h4, h5, h6, h7⟩
    obtain ⟨g1, g2⟩ := hts t len cap h1
    rw [step_nm] at h7
    exact ⟨t, len, cap, e, l, c, te, h1, h2, h3, h4, (step_ev y s len g1 _ _).1 h5, (step_ev y s cap g2 _ _).1 h6, h7⟩
  · rintro ⟨t, len, cap, e, l, c, te, h1, h2, h3, h4, h5, h6, h7⟩
    obtain ⟨g1, g2⟩ := hts t len cap h1
    rw [← step_nm y s] at h7
    exact ⟨t, len, cap, e, l, c, te, h1, h2, h3, h4, (step_ev y s len g1 _ _).2 h5, (step_ev y s cap g2 _ _).2 h6, h7⟩
theorem mkOf_steps {o : Oper} {x : Mk} {d : Nat} {ts : List Nat} (hm : mkPart o = some (d, ts)) : ∀ (l : List Mk) (s : MS), (∀ y, y ∈ l → y.d ∉ ts) → (mkOf E (steps l s) o x ↔ mkOf E s o x)
  | [], _, _ => Iff.rfl
  | y :: l, s, h => (mkOf_steps hm l (y.step s) fun z hz => h z (List.mem_cons_of_mem _ hz)).trans (mkOf_step hm (h y (List.mem_cons_self ..)))
theorem mkOf_alike {s s' : MS} {o : Oper} {x : Mk} (ha : Alike s s') (h : mkOf E s o x) : mkOf E s' o x := by
  obtain ⟨t, len, cap, e, l, c, te, h1, h2, h3, h4, h5, h6, h7, h8, h9, h10, h11, h12, h13⟩ := h
  have hev : ∀ x, s.ev x = s'.ev x := fun x => by
    cases x with
    | tmp t => exact ha.get t
    | _ => rfl
  exact ⟨t, len, cap, e, l, c, te, h1, h2, h3, h4, hev len ▸ h5, hev cap ▸ h6, h7, h8, h9, h10, h11, by rw [← ha.nm]; exact h12, h13⟩

theorem plan_pend {ops : Array Oper} {bf : List (List Nat)} : ∀ (p : List Nat) (n : Nat) (listed : Array Bool) (order : List Nat), plan E ops bf n listed p = some order →
    ∃ m order', n = p.length + m ∧ order = p ++ order' ∧ plan E ops bf m (setAll p listed) [] = some order'
  | [], n, listed, order, h => ⟨n, order, by simp, rfl, h⟩
  | i :: p, 0, listed, order, h => by simp [plan] at h
  | i :: p, n + 1, listed, order, h => by
    simp only [plan, Option.map_eq_some_iff] at h
    obtain ⟨o1, h1, rfl⟩ := h
    obtain ⟨m, o2, g1, rfl, g3⟩ := plan_pend p n _ o1 h1
    exact ⟨m, o2, by simp [g1]; omega, rfl, g3⟩

/-- The run of the operations in one order, told by what each one makes. -/
theorem run_mks {ops : Array Oper} {inl : Inl ρ} {K : MS → Option ρ} {r : ρ} : ∀ (L : List Nat) (rest : List Oper) (s : MS), (∀ i, i ∈ L → ∃ o d ts, ops[i]? = some o ∧ mkPart o = some (d, ts)) →
    execs E inl ops.toList (L.filterMap (fun i => ops[i]?) ++ rest) s K = some r → ∃ fx : List Mk, fx.length = L.length ∧ execs E inl ops.toList rest (steps fx s) K = some r ∧
      ∀ (j : Nat) (i : Nat) (x : Mk), L[j]? = some i → fx[j]? = some x → ∃ o d ts, ops[i]? = some o ∧ mkPart o = some (d, ts) ∧ x.d = d ∧ mkOf E (steps (fx.take j) s) o x
  | [], rest, s, _, h => ⟨[], rfl, h, fun j i x h => by simp at h⟩
  | i :: L, rest, s, hL, h => by
    obtain ⟨o, d, ts, ho, hm⟩ := hL i (List.mem_cons_self ..)
    rw [List.filterMap_cons, ho, List.cons_append] at h
    simp only [execs] at h
    obtain ⟨x, hd, hx, h⟩ := exec_mkOf hm h
    obtain ⟨fx, h1, h2, h3⟩ := run_mks L rest (x.step s) (fun k hk => hL k (List.mem_cons_of_mem _ hk)) h
    refine ⟨x :: fx, by simp [h1], h2, fun j k y hj hy => ?_⟩
    cases j with
    | zero =>
      simp only [List.getElem?_cons_zero, Option.some.injEq] at hj hy
      subst hj hy
      exact ⟨o, d, ts, ho, hm, hd, hx⟩
    | succ j =>
      simp only [List.getElem?_cons_succ] at hj hy
      exact h3 j k y hj hy
end

section
variable {P : Program} {E : Env} {Pr : Nat → Prop} {w0 : St} {stk : List (Array Value)}

theorem inl_none_ok : InlOk P Pr w0 (fun _ _ _ _ => none : Inl MS) := by
  intro f avs s K r stk tm w G vs h
  cases h

theorem par_any (hE : EOk P E) (hS : SpecsOk P E) (hP : ∀ b, Pr b → b < w0.heap.size) {ops : Array Oper} {n : Nat} (hd : dstsOK n ops.toList = true) {D : Nat → Prop} (hDs : ∀ o, o ∈ ops.toList → ∀ t, o.dst = some t → D t)
    {Q : Exit → Act → World → Prop} {L : List Nat} {F : Nat → Mk} {s0 : MS} {a0 : Act}
    (hF : ∀ i, i ∈ L → ∃ o d ts, ops[i]? = some o ∧ mkPart o = some (d, ts) ∧ mkOf E s0 o (F i) ∧ ∀ j, j ∈ L → (F j).d ∉ ts) (hap : Apart (L.map F)) {listed0 : Array Bool} {fuelR : Nat}
    (hrest : ∀ a w G, Rel Pr w0 stk (steps (L.map F) s0) a.tmps w G → Same D a0 a → a.defers = a0.defers → a.tmps.size = n → wpAnyC P E ops Q fuelR (setAll L listed0) a w) :
    ∀ (m : Nat) (rem done : List Nat) (listed : Array Bool) (s : MS) (a : Act) (w : World) (G : Gh), rem.length = m → (done ++ rem).Perm L → rem.Nodup → listed = setAll done listed0 → Down ops listed → (∀ i, i ∈ rem → i ∈ Region.ready .any ops listed) →
      (∀ k o, ops[k]? = some o → listed.getD k true = false → k ∉ L → ∀ i, i ∈ L → Bef ops k i) → (∀ i, i ∈ done → listed.getD i true = true) →
      Alike s (steps (done.map F) s0) → Rel Pr w0 stk s a.tmps w G → Same D a0 a → a.defers = a0.defers → a.tmps.size = n → wpAnyC P E ops Q (m + fuelR) listed a w
  | 0, rem, done, listed, s, a, w, G, hm, hperm, _, hl, _, _, _, _, hal, hr, hsame, hdef, hn => by
    obtain rfl := List.length_eq_zero_iff.1 hm
    rw [List.append_nil] at hperm
    have hst : ∀ x, x ∈ done.map F → x.still := fun x hx => by
      obtain ⟨i, hi, rfl⟩ := List.mem_map.1 hx
      obtain ⟨o, d, ts, _, _, h, _⟩ := hF i (hperm.mem_iff.1 hi)
      exact mkOf_still h
    have hap' : Apart (done.map F) := (List.Perm.pairwise_iff (R := fun x y : Mk => x.d ≠ y.d ∧ x.id ≠ y.id) (fun {a b} h => ⟨fun e => h.1 e.symm, fun e => h.2 e.symm⟩) (hperm.map F)).2 hap
    have := hrest a w G (hr.alike (hal.trans (steps_perm (hperm.map F) s0 hap' hst))) hsame hdef hn
    rw [Nat.zero_add, hl, setAll_same fun k => hperm.mem_iff]
    exact this
  | m + 1, rem, done, listed, s, a, w, G, hm, hperm, hnd, hl, hdn, hrd, hbar, hdone, hal, hr, hsame, hdef, hn => by
    have hmem : ∀ i, i ∈ rem → i ∈ L := fun i hi => hperm.mem_iff.1 (List.mem_append_right _ hi)
    obtain ⟨i0, rem0, hrem⟩ : ∃ i0 rem0, rem = i0 :: rem0 := by
      cases rem with
      | nil => simp at hm
      | cons i0 rem0 => exact ⟨i0, rem0, rfl⟩
    have h0 : i0 ∈ rem := by rw [hrem]; exact List.mem_cons_self ..
    rw [show m + 1 + fuelR = (m + fuelR) + 1 by omega]
    refine ⟨fun e => (by have := hrd i0 h0; rw [e] at this; cases this), fun i hi => ?_⟩
    have hun := (mem_ready.1 hi).1
    have hiL : i ∈ L := by
      apply Decidable.of_not_not
      intro hno
      obtain ⟨_, oi, hoi, _⟩ := mem_ready.1 hi
      have hb := ready_bef hdn hi (hbar i oi hoi hun hno i0 (hmem i0 h0))
      have hu0 := (mem_ready.1 (hrd i0 h0)).1
      rcases Nat.lt_or_ge i0 listed.size with h' | h'
      · simp [h'] at hb hu0; rw [hu0] at hb; cases hb
      · simp [Array.getElem?_eq_none h'] at hu0
    have hir : i ∈ rem := by
      rcases List.mem_append.1 (hperm.mem_iff.2 hiL) with h | h
      · rw [hdone i h] at hun; cases hun
      · exact h
    obtain ⟨o, d, ts, ho, hmk, hof, hts⟩ := hF i hiL
    have hof' : mkOf E s o (F i) := mkOf_alike hal.symm ((mkOf_steps hmk (done.map F) s0 fun y hy => by
      obtain ⟨j, hj, rfl⟩ := List.mem_map.1 hy
      exact hts j (hperm.mem_iff.1 (List.mem_append_left _ hj))).2 hof)
    have hex : execG E (fun _ _ _ _ => none : Inl MS) ops.toList o s some = some ((F i).step s) := mkOf_exec hof'
    have hol : o ∈ ops.toList := List.mem_of_getElem? (by rw [Array.getElem?_toList]; exact ho)
    have hdo : ∀ t, o.dst = some t → t < a.tmps.size := by
      intro t ht
      unfold dstsOK at hd
      rw [List.all_eq_true] at hd
      have := hd o hol
      rw [ht] at this
      rw [hn]; simpa using this
    refine wpOp_mono (fun a' w' ⟨h1, h2⟩ => ⟨fun o' ho' hc => ?_, ?_⟩) (wpOp_execG (Q := Q) hE hS hP inl_none_ok hr ho hdo (hDs o hol) hex).1
    · rw [ho] at ho'; cases ho'
      exact h2 hc
    · obtain ⟨s', G', hr', hs', hdf', hK⟩ := h1
      cases hK
      have hpe : (done ++ [i] ++ rem.erase i).Perm L := by
        rw [List.append_assoc]
        refine List.Perm.trans (List.Perm.append_left done ?_) hperm
        exact (List.perm_cons_erase hir).symm
      refine par_any hE hS hP hd hDs hF hap hrest m (rem.erase i) (done ++ [i]) (listed.setIfInBounds i true) ((F i).step s) a' w' G' (by rw [List.length_erase_of_mem hir, hm]; rfl) hpe (hnd.erase i) ?_ (down_set hdn hi) ?_ ?_ ?_ ?_ hr' (hsame.trans hs') (hdf'.trans hdef) (hs'.1.trans hn)
      · rw [hl]
        unfold setAll
        rw [List.foldl_append]
        rfl
      · intro j hj
        have hji : j ≠ i := fun e => by subst e; exact (List.Nodup.not_mem_erase hnd) hj
        exact ready_mono (hrd j (List.mem_of_mem_erase hj)) hji
      · intro k ok hok hk hkL j hj
        refine hbar k ok hok ?_ hkL j hj
        by_cases hki : i = k
        · subst hki; exact absurd hiL hkL
        · rw [Go.getD_set_ne true hki] at hk; exact hk
      · intro j hj
        rcases List.mem_append.1 hj with hj | hj
        · by_cases hji : i = j
          · subst hji; rw [hdone i hj] at hun; cases hun
          · rw [Go.getD_set_ne true hji]; exact hdone j hj
        · rw [List.mem_singleton] at hj
          subst hj
          rcases Nat.lt_or_ge j listed.size with h' | h'
          · simp [h']
          · simp [h']
      · rw [List.map_append]
        unfold steps
        rw [List.foldl_append]
        exact step_congr _ hal

end

section
variable {ρ : Type} {P : Program} {E : Env} {Pr : Nat → Prop} {w0 : St} {stk : List (Array Value)}

theorem plan_sound (hE : EOk P E) (hS : SpecsOk P E) (hP : ∀ b, Pr b → b < w0.heap.size) {inl : Inl ρ} (hI : InlOk P Pr w0 inl) {ops : Array Oper} {n : Nat} (hd : dstsOK n ops.toList = true) {D : Nat → Prop} (hDs : ∀ o, o ∈ ops.toList → ∀ t, o.dst = some t → D t) (hs : Region.noSelect ops = true)
    {bf : List (List Nat)} (hb : ∀ j i, i ∈ bf.getD j [] → Bef ops j i) {Q : Exit → Act → World → Prop} (hQ : ∀ c a w, ¬ Q (.panic c) a w) {r : ρ} :
    ∀ (fuel : Nat) (listed : Array Bool) (order : List Nat) {s : MS} {a : Act} {w : World} {G : Gh} {K : MS → Option ρ}, plan E ops bf fuel listed [] = some order → Down ops listed → Rel Pr w0 stk s a.tmps w G → a.tmps.size = n →
      execs E inl ops.toList (order.filterMap fun i => ops[i]?) s K = some r → (∀ a' w', Then Pr w0 stk D a K r a' w' → Q .normal a' w') → wpAnyC P E ops Q fuel listed a w
  | 0, listed, order, s, a, w, G, K, hpl, hdn, k, hn, h, hfin => by
    unfold plan at hpl
    split at hpl
    · rename_i hr
      cases hpl
      exact ⟨List.isEmpty_iff.1 (by simpa using hr), hfin a w ⟨s, G, k, Same.refl _ _, rfl, h⟩⟩
    · cases hpl
  | fuel + 1, listed, order, s, a, w, G, K, hpl, hdn, k, hn, h, hfin => by
    have hdo : ∀ (i : Nat) (o : Oper), ops[i]? = some o → ∀ t, o.dst = some t → t < a.tmps.size := by
      intro i o ho t ht
      unfold dstsOK at hd
      rw [List.all_eq_true] at hd
      have := hd o (List.mem_of_getElem? (by rw [Array.getElem?_toList]; exact ho))
      rw [ht] at this
      rw [hn]; simpa using this
    have next : ∀ {i : Nat} {o : Oper} {order : List Nat} {a' : Act} {w' : World}, i ∈ Region.ready .any ops listed → plan E ops bf fuel (listed.setIfInBounds i true) [] = some order →
        Then Pr w0 stk D a (fun s => execs E inl ops.toList (order.filterMap fun i => ops[i]?) s K) r a' w' → wpAnyC P E ops Q fuel (listed.setIfInBounds i true) a' w' := by
      rintro i o order a' w' hi hpl ⟨s', G', k', hs1, hdf, hK⟩
      exact plan_sound hE hS hP hI hd hDs hs hb hQ fuel _ order hpl (down_set hdn hi) k' (hs1.1.trans hn) hK fun a'' w'' ⟨s2, G2, k2, hs2, hd2, hK2⟩ => hfin a'' w'' ⟨s2, G2, k2, hs1.trans hs2, hd2.trans hdf, hK2⟩
    unfold plan at hpl
    split at hpl
    · rename_i hr
      cases hpl
      exact wpAnyC_done hr (hfin a w ⟨s, G, k, Same.refl _ _, rfl, h⟩) _
    · rename_i i hr
      simp only [Option.map_eq_some_iff] at hpl
      obtain ⟨order', hpl, rfl⟩ := hpl
      have hi : i ∈ Region.ready .any ops listed := by rw [hr]; simp
      obtain ⟨_, o, ho, _⟩ := mem_ready.1 hi
      rw [List.filterMap_cons, ho] at h
      refine wpAnyC_one hr (wpOp_mono (fun a' w' ⟨h1, h2⟩ => ⟨fun o' ho' hc => ?_, next (o := o) hi hpl h1⟩) (wpOp_execG (Q := Q) hE hS hP hI k ho (hdo i o ho) (hDs o (List.mem_of_getElem? (by rw [Array.getElem?_toList]; exact ho))) h).1)
      rw [ho] at ho'; cases ho'
      exact h2 hc
    · rename_i i0 p hr1 hr2
      split at hpl
      · rename_i i hf
        simp only [Option.map_eq_some_iff] at hpl
        obtain ⟨order', hpl, rfl⟩ := hpl
        have hi : i ∈ Region.ready .any ops listed := by rw [hr2]; exact List.mem_of_find?_eq_some hf
        obtain ⟨oi, any, ho, hy, hfree⟩ := canFirst_spec hb (List.find?_some hf)
        rw [List.filterMap_cons, ho] at h
        obtain ⟨v, hyv, ht⟩ := (wpOp_execG (Q := Q) hE hS hP hI k ho (hdo i oi ho) (hDs oi (List.mem_of_getElem? (by rw [Array.getElem?_toList]; exact ho))) h).2 any hy
        exact wpAnyC_first ho (Region.noSelect_spec hs) hQ (by unfold calm; rw [hy]; rfl) fuel listed a w hdn hfree hi hyv (next (o := oi) hi hpl ht)
      · split at hpl
        · rename_i hok
          simp only [Option.map_eq_some_iff] at hpl
          obtain ⟨order', hpl, rfl⟩ := hpl
          obtain ⟨m, order'', hfuel, rfl, hpl'⟩ := plan_pend p fuel _ order' hpl
          have hpl' : plan E ops bf m (setAll (i0 :: p) listed) [] = some order'' := hpl'
          have hLr : ∀ i, i ∈ i0 :: p ↔ i ∈ Region.ready .any ops listed := fun i => by rw [hr2]
          have hLn : (i0 :: p).Nodup := by
            rw [← hr2]
            unfold Region.ready
            exact List.Pairwise.filter _ List.nodup_range
          unfold parOK at hok
          rw [Bool.and_eq_true, List.all_eq_true, List.all_eq_true] at hok
          obtain ⟨hok1, hok2⟩ := hok
          have hpart : ∀ i, i ∈ i0 :: p → ∃ o d ts, ops[i]? = some o ∧ mkPart o = some (d, ts) ∧ ∀ j, j ∈ i0 :: p → ∃ o' d' ts', ops[j]? = some o' ∧ mkPart o' = some (d', ts') ∧ (i = j ∨ d ≠ d') ∧ d' ∉ ts := by
            intro i hi
            have h1 := hok1 i hi
            split at h1
            · cases h1
            · rename_i d ts hmk
              obtain ⟨o, ho, hmk⟩ := Option.bind_eq_some_iff.1 hmk
              refine ⟨o, d, ts, ho, hmk, fun j hj => ?_⟩
              rw [List.all_eq_true] at h1
              have h2 := h1 j hj
              split at h2
              · cases h2
              · rename_i d' ts' hmk'
                obtain ⟨o', ho', hmk'⟩ := Option.bind_eq_some_iff.1 hmk'
                simp only [Bool.and_eq_true, Bool.or_eq_true, beq_iff_eq, bne_iff_ne, Bool.not_eq_true'] at h2
                exact ⟨o', d', ts', ho', hmk', h2.1, by simpa using h2.2⟩
          have hbar : ∀ k o, ops[k]? = some o → listed.getD k true = false → k ∉ i0 :: p → ∀ i, i ∈ i0 :: p → Bef ops k i := by
            intro k o hko hk hkL i hi
            have hks : k < ops.size := (Array.getElem?_eq_some_iff.1 hko).1
            have h1 := hok2 k (List.mem_range.2 hks)
            have hc : (i0 :: p).contains k = false := by
              cases hc : (i0 :: p).contains k with
              | false => rfl
              | true => exact absurd (List.contains_iff_mem.1 hc) hkL
            rw [hk, hc, Bool.false_or, Bool.false_or, List.all_eq_true] at h1
            exact hb k i (List.contains_iff_mem.1 (h1 i hi))
          rw [show i0 :: (p ++ order'') = (i0 :: p) ++ order'' from rfl, List.filterMap_append] at h
          obtain ⟨fx, hlen, hrun, hfx⟩ := run_mks (i0 :: p) _ s (fun i hi => let ⟨o, d, ts, h1, h2, _⟩ := hpart i hi; ⟨o, d, ts, h1, h2⟩) h
          -- what each one makes, ahead of all
          have hat : ∀ (j i : Nat) (x : Mk), (i0 :: p)[j]? = some i → fx[j]? = some x → ∃ o d ts, ops[i]? = some o ∧ mkPart o = some (d, ts) ∧ x.d = d ∧ mkOf E s o x := by
            intro j i x hj hx
            obtain ⟨o, d, ts, h1, h2, h3, h4⟩ := hfx j i x hj hx
            refine ⟨o, d, ts, h1, h2, h3, (mkOf_steps h2 (fx.take j) s fun y hy => ?_).1 h4⟩
            obtain ⟨j', hj', hy'⟩ := List.getElem_of_mem (List.mem_of_mem_take hy)
            have hj2 : j' < (i0 :: p).length := by rw [← hlen]; exact hj'
            obtain ⟨o2, d2, ts2, g1, g2, g3, _⟩ := hfx j' _ y (List.getElem?_eq_getElem hj2) (by rw [List.getElem?_eq_getElem hj', hy'])
            obtain ⟨o3, d3, ts3, e1, e2, e3⟩ := hpart i (List.mem_of_getElem? hj)
            rw [h1] at e1; cases e1
            rw [h2] at e2; cases e2
            obtain ⟨o4, d4, ts4, f1, f2, _, f4⟩ := e3 _ (List.getElem_mem hj2)
            rw [g1] at f1; cases f1
            rw [g2] at f2; cases f2
            rw [g3]; exact f4
          let F : Nat → Mk := fun i => fx.getD ((i0 :: p).idxOf i) ⟨0, 0, .box []⟩
          have hFx : (i0 :: p).map F = fx := by
            apply List.ext_getElem
            · rw [List.length_map, hlen]
            · intro j h1 h2
              rw [List.length_map] at h1
              rw [List.getElem_map]
              show fx.getD ((i0 :: p).idxOf (i0 :: p)[j]) _ = _
              rw [List.Nodup.idxOf_getElem hLn, List.getD_eq_getElem?_getD, List.getElem?_eq_getElem h2]
              rfl
          have hFi : ∀ i, i ∈ i0 :: p → ∃ o d ts, ops[i]? = some o ∧ mkPart o = some (d, ts) ∧ (F i).d = d ∧ mkOf E s o (F i) := by
            intro i hi
            obtain ⟨j, hj, rfl⟩ := List.getElem_of_mem hi
            have hj' : j < fx.length := by rw [hlen]; exact hj
            have : F (i0 :: p)[j] = fx[j] := by
              show fx.getD ((i0 :: p).idxOf (i0 :: p)[j]) _ = _
              rw [List.Nodup.idxOf_getElem hLn, List.getD_eq_getElem?_getD, List.getElem?_eq_getElem hj']
              rfl
            rw [this]
            exact hat j _ _ (List.getElem?_eq_getElem hj) (List.getElem?_eq_getElem hj')
          have hnmd : ∀ i, i ∈ i0 :: p → (F i).id = s.nm (some (F i).d) := by
            intro i hi
            obtain ⟨o, d, ts, _, _, _, t, len, cap, e, l, c, te, q1, q2, q3, q4, q5, q6, q7, q8, q9, q10, q11, q12, q13⟩ := hFi i hi
            exact q12
          have hdd : ∀ i, i ∈ i0 :: p → ∀ j, j ∈ i0 :: p → i ≠ j → (F i).d ≠ (F j).d := by
            intro i hi j hj hij
            obtain ⟨o, d, ts, h1, h2, h3, _⟩ := hFi i hi
            obtain ⟨o', d', ts', h1', h2', h3', _⟩ := hFi j hj
            obtain ⟨o3, d3, ts3, e1, e2, e3⟩ := hpart i hi
            rw [h1] at e1; cases e1
            rw [h2] at e2; cases e2
            obtain ⟨o4, d4, ts4, f1, f2, f3, _⟩ := e3 j hj
            rw [h1'] at f1; cases f1
            rw [h2'] at f2; cases f2
            rw [h3, h3']
            exact f3.resolve_left hij
          have hap : Apart ((i0 :: p).map F) := by
            unfold Apart
            rw [List.pairwise_map]
            refine List.Pairwise.imp_of_mem (fun {a b} ha hb' hne => ?_) (List.nodup_iff_pairwise_ne.1 hLn)
            have hdne := hdd a ha b hb' hne
            refine ⟨hdne, ?_⟩
            rw [hnmd a ha, hnmd b hb']
            unfold MS.nm
            simp only [Option.getD_some]
            omega
          have := par_any (n := n) (Q := Q) (a0 := a) (listed0 := listed) (fuelR := m) hE hS hP hd hDs (L := i0 :: p) (F := F) (s0 := s)
            (fun i hi => by
              obtain ⟨o, d, ts, h1, h2, _, h4⟩ := hFi i hi
              refine ⟨o, d, ts, h1, h2, h4, fun j hj => ?_⟩
              obtain ⟨o3, d3, ts3, e1, e2, e3⟩ := hpart i hi
              rw [h1] at e1; cases e1
              rw [h2] at e2; cases e2
              obtain ⟨o4, d4, ts4, f1, f2, _, f4⟩ := e3 j hj
              obtain ⟨o', d', ts', h1', h2', h3', _⟩ := hFi j hj
              rw [h1'] at f1; cases f1
              rw [h2'] at f2; cases f2
              rw [h3']; exact f4) hap
            (fun a' w' G' hr' hs' hdf' hn' => by
              rw [hFx] at hr'
              exact plan_sound hE hS hP hI hd hDs hs hb hQ m _ order'' hpl' (by
                have : ∀ (l : List Nat) (listed : Array Bool), Down ops listed → (∀ i, i ∈ l → i ∈ Region.ready .any ops listed) → l.Nodup → Down ops (setAll l listed) := by
                  intro l
                  induction l with
                  | nil => intro listed h _ _; exact h
                  | cons i l ih =>
                    intro listed hd' hr'' hnd
                    have hnd := List.nodup_cons.1 hnd
                    exact ih (listed.setIfInBounds i true) (down_set hd' (hr'' i (List.mem_cons_self ..))) (fun j hj => ready_mono (hr'' j (List.mem_cons_of_mem _ hj)) fun e => hnd.1 (e ▸ hj)) hnd.2
                exact this _ _ hdn (fun i hi => (hLr i).1 hi) hLn) hr' hn' hrun fun a'' w'' ⟨s2, G2, k2, hs2, hd2, hK2⟩ => hfin a'' w'' ⟨s2, G2, k2, hs'.trans hs2, hd2.trans hdf', hK2⟩)
            (i0 :: p).length (i0 :: p) [] listed s a w G rfl (List.Perm.refl _) hLn rfl hdn (fun i hi => (hLr i).1 hi) hbar (fun i hi => by cases hi) (Alike.refl s) k (Same.refl _ _) rfl hn
          rw [show fuel + 1 = (i0 :: p).length + m by rw [List.length_cons, hfuel]; omega]
          exact this
        · cases hpl
termination_by fuel => fuel
decreasing_by all_goals omega

/-- Regions whose order is drawn are sound. -/
theorem draws_ok (hE : EOk P E) (hS : SpecsOk P E) (hm : P.follows .mixedOrders = true) : DrawsOk P E := by
  intro L k path n ρ Pr w0 stk inl id ops hP hI s a w G K r hr hn h
  simp only [code] at h
  split at h
  · rename_i hd
    split at h
    · rename_i order hpl
      unfold planOf at hpl
      split at hpl
      · rename_i hs
        refine wp_region_any hm (wpAny_of_C (E := E) _ _ _ _ ?_)
        have hr' : Rel Pr w0 stk s a.tmps { w with drawn := w.drawn + 1 } G := hr.mono ⟨rfl, rfl, rfl, Nat.le_refl _, fun _ _ => rfl⟩ (fun _ _ => rfl) (fun _ h => h) hr.isz (fun id o b ho hb => ⟨rfl, (hr.sep id o b ho hb).2.1⟩) hr.old
        exact plan_sound (K := fun s => K .normal s) hE hS hP hI hd (D := fun t => t ∈ dsts (.region id ops true)) (fun o ho t ht => List.mem_filterMap.2 ⟨o, ho, ht⟩) hs (befores_sound ops) (fun c a w ⟨x, e, _⟩ => by cases x <;> cases e) _ _ order hpl (fun k hk => by
          exfalso
          rw [Array.getD_eq_getD_getElem?, Array.getElem?_replicate] at hk
          split at hk <;> cases hk) hr' hn h fun a' w' ht => ⟨.normal, rfl, ht⟩
      · cases hpl
    · cases h
  · cases h

end
end Vm

/- What is known of the program's types is checked by computation. -/
namespace Vm
open Go

/-- Cells of a type's zero value at the head of a list; what is left. -/
def rdZ : Ty → List Value → Option (List Value)
  | .bool, .bool false :: r => some r
  | .int k, .int k' n :: r => if k = k' ∧ n = 0 then some r else none
  | .str, .string s :: r => if s.size = 0 then some r else none
  | .err, .nilIface :: r => some r
  | .slice _, .slice none n c :: r => if n = 0 ∧ c = 0 then some r else none
  | .nsl _, .slice none n c :: r => if n = 0 ∧ c = 0 then some r else none
  | .unit, r => some r
  | .pair a b, r => (rdZ a r).bind (rdZ b)
  | .arr n t, r => n.rec (some r) fun _ o => o.bind (rdZ t)
  | .opq, v :: r => if cell1 v then some r else none
  | _, _ => none

theorem rdZ_sound (w : World) (I : Nat → Prop) : ∀ {t : Ty} {cs r : List Value}, rdZ t cs = some r → ∃ c1, cs = c1 ++ r ∧ Rd w I t t.zero c1 := by
  intro t
  induction t with
  | bool =>
    intro cs r h
    unfold rdZ at h
    split at h <;> first | contradiction | (cases h; exact ⟨[.bool false], rfl, rfl⟩)
  | int k =>
    intro cs r h
    unfold rdZ at h
    split at h <;> try contradiction
    rename_i he; cases he
    split at h
    · rename_i hc; obtain ⟨rfl, rfl⟩ := hc; cases h; exact ⟨[.int _ 0], rfl, rfl⟩
    · cases h
  | str =>
    intro cs r h
    unfold rdZ at h
    split at h <;> try contradiction
    rename_i s r' he
    split at h
    · rename_i hs
      cases h
      have : s = ByteArray.empty := by
        obtain ⟨d⟩ := s
        have : d.size = 0 := hs
        rw [Array.size_eq_zero_iff] at this
        subst this; rfl
      subst this
      exact ⟨[.string ByteArray.empty], rfl, rfl⟩
    · cases h
  | err =>
    intro cs r h
    unfold rdZ at h
    split at h <;> first | contradiction | (cases h; exact ⟨[.nilIface], rfl, .nilIface, rfl, fun _ => rfl, fun h => by cases h⟩)
  | slice t _ =>
    intro cs r h
    unfold rdZ at h
    split at h <;> try contradiction
    split at h
    · rename_i hc; obtain ⟨rfl, rfl⟩ := hc; cases h; exact ⟨[.slice none 0 0], rfl, none, 0, 0, rfl, rfl, rfl, rfl⟩
    · cases h
  | nsl t _ =>
    intro cs r h
    unfold rdZ at h
    split at h <;> try contradiction
    split at h
    · rename_i hc; obtain ⟨rfl, rfl⟩ := hc; cases h; exact ⟨[.slice none 0 0], rfl, none, 0, 0, rfl, ⟨rfl, rfl, rfl⟩, by simp [Ty.zero]⟩
    · cases h
  | unit =>
    intro cs r h
    simp only [rdZ, Option.some.injEq] at h
    subst h
    exact ⟨[], rfl, rfl⟩
  | pair a b iha ihb =>
    intro cs r h
    simp only [rdZ, Option.bind_eq_some_iff] at h
    obtain ⟨m, h1, h2⟩ := h
    obtain ⟨c1, rfl, g1⟩ := iha h1
    obtain ⟨c2, rfl, g2⟩ := ihb h2
    exact ⟨c1 ++ c2, by simp, c1, c2, rfl, g1, g2⟩
  | arr n t ih =>
    intro cs r h
    have key : ∀ (n : Nat) {r : List Value}, (n.rec (some cs) fun _ o => o.bind (rdZ t) : Option (List Value)) = some r → ∃ c1, cs = c1 ++ r ∧ ArRd (Rd w I t) (List.replicate n t.zero) c1 := by
      intro n
      induction n with
      | zero => intro r h; cases h; exact ⟨[], rfl, rfl⟩
      | succ n ihn =>
        intro r h
        simp only [Option.bind_eq_some_iff] at h
        obtain ⟨m, h1, h2⟩ := h
        obtain ⟨c1, rfl, g1⟩ := ihn h1
        obtain ⟨c2, rfl, g2⟩ := ih h2
        refine ⟨c1 ++ c2, by simp, ?_⟩
        have app : ∀ {xs : List t.den} {c1 c2 : List Value} {y : t.den}, ArRd (Rd w I t) xs c1 → Rd w I t y c2 → ArRd (Rd w I t) (xs ++ [y]) (c1 ++ c2) := by
          intro xs
          induction xs with
          | nil => intro c1 c2 y h1 h2; have h1 : c1 = [] := h1; subst h1; exact ⟨c2, [], by simp, h2, rfl⟩
          | cons x xs ihx => rintro c1 c2 y ⟨d1, d2, rfl, e1, e2⟩ h2; exact ⟨d1, d2 ++ c2, by simp, e1, ihx e2 h2⟩
        rw [show List.replicate (n + 1) t.zero = List.replicate n t.zero ++ [t.zero] from List.replicate_succ']
        exact app g1 g2
    obtain ⟨c1, h1, h2⟩ := key n h
    exact ⟨c1, h1, by simp [Ty.zero], h2⟩
  | opq =>
    intro cs r h
    unfold rdZ at h
    split at h <;> try contradiction
    rename_i v _ _
    split at h
    · rename_i hv; cases h; exact ⟨[v], rfl, v, rfl, hv⟩
    · cases h
  | nat =>
    intro cs r h
    simp [rdZ] at h

/-- Leaves of a zero value. -/
def ZL : LV → Prop
  | .val t x => x = t.zero
  | .nil => True
  | .nilp => True
  | _ => False
theorem zeroL_Z {E : Env} : ∀ {n : Nat} {t : TypeId} {l : List LV}, E.zeroL n t = some l → ∀ v, v ∈ l → ZL v
  | 0, _, _, h => by simp [Env.zeroL] at h
  | n + 1, t, l, h => by
    simp only [Env.zeroL, Option.bind_eq_some_iff] at h
    obtain ⟨i, hi, h⟩ := h
    split at h
    · cases h; intro v hv; rw [List.mem_singleton] at hv; subst hv; rfl
    · cases h; intro v hv; rw [List.mem_singleton] at hv; subst hv; trivial
    · cases h; intro v hv; rw [List.mem_singleton] at hv; subst hv; trivial
    · rename_i fs _
      simp only [Option.map_eq_some_iff] at h
      obtain ⟨ls, h1, rfl⟩ := h
      have key : ∀ {fs : List Nat} {ls : List (List LV)}, fs.mapM (E.zeroL n) = some ls → ∀ l, l ∈ ls → ∀ v, v ∈ l → ZL v := by
        intro fs
        induction fs with
        | nil => intro ls h l hl; simp at h; subst h; cases hl
        | cons f fs ih =>
          intro ls h l hl
          rw [List.mapM_cons] at h
          simp only [Option.bind_eq_bind, Option.bind_eq_some_iff, Option.pure_def, Option.some.injEq] at h
          obtain ⟨a, ha, b, hb, rfl⟩ := h
          rcases List.mem_cons.1 hl with rfl | hl
          · exact zeroL_Z ha
          · exact ih hb l hl
      intro v hv
      obtain ⟨l, hl, hv⟩ := List.mem_flatten.1 hv
      exact key h1 l hl v hv
    · simp only [Option.map_eq_some_iff] at h
      obtain ⟨u, hu, rfl⟩ := h
      intro v hv; rw [List.mem_singleton] at hv; subst hv; rfl
    · cases h

def lsZ : List LV → List Value → Bool
  | [], [] => true
  | .val t _ :: l, cs => match rdZ t cs with
    | some r => lsZ l r
    | none => false
  | .nil :: l, .slice none n c :: cs => decide (n = 0 ∧ c = 0) && lsZ l cs
  | .nilp :: l, .pointer none :: cs => lsZ l cs
  | _, _ => false

theorem lsZ_sound (w : World) (I : Nat → Prop) (h : Hv) : ∀ {l : List LV} {cs : List Value}, (∀ v, v ∈ l → ZL v) → lsZ l cs = true → LsRd w I h l cs
  | [], [], _, _ => rfl
  | .val t x :: l, cs, hz, hl => by
    have hx : x = t.zero := hz _ (List.mem_cons_self ..)
    subst hx
    simp only [lsZ] at hl
    split at hl
    · rename_i r hr
      obtain ⟨c1, rfl, g⟩ := rdZ_sound w I hr
      exact ⟨c1, r, rfl, g, lsZ_sound w I h (fun v hv => hz v (List.mem_cons_of_mem _ hv)) hl⟩
    · cases hl
  | .nil :: l, cs, hz, hl => by
    unfold lsZ at hl
    split at hl <;> try contradiction
    · rename_i he; cases he
    · rename_i he; cases he
      simp only [Bool.and_eq_true, decide_eq_true_eq] at hl
      obtain ⟨⟨rfl, rfl⟩, hl⟩ := hl
      exact ⟨[.slice none 0 0], _, rfl, rfl, lsZ_sound w I h (fun v hv => hz v (List.mem_cons_of_mem _ hv)) hl⟩
    · rename_i he; cases he
  | .nilp :: l, cs, hz, hl => by
    unfold lsZ at hl
    split at hl <;> try contradiction
    · rename_i he; cases he
    · rename_i he; cases he
    · rename_i he; cases he
      exact ⟨[.pointer none], _, rfl, rfl, lsZ_sound w I h (fun v hv => hz v (List.mem_cons_of_mem _ hv)) hl⟩
  | [], _ :: _, _, hl => by simp [lsZ] at hl
  | .own _ :: _, _, hz, _ => (hz _ (List.mem_cons_self ..)).elim
  | .pre _ _ :: _, _, hz, _ => (hz _ (List.mem_cons_self ..)).elim
  | .pbox _ _ :: _, _, hz, _ => (hz _ (List.mem_cons_self ..)).elim
  | .pboxA _ _ _ _ _ :: _, _, hz, _ => (hz _ (List.mem_cons_self ..)).elim
  | .pbuf _ _ _ _ :: _, _, hz, _ => (hz _ (List.mem_cons_self ..)).elim
  | .pimm _ _ :: _, _, hz, _ => (hz _ (List.mem_cons_self ..)).elim
  | .clos _ :: _, _, hz, _ => (hz _ (List.mem_cons_self ..)).elim
  | .func _ :: _, _, hz, _ => (hz _ (List.mem_cons_self ..)).elim

def infoOk (P : Program) (E : Env) (t : TypeId) (ti : TI) : Bool :=
  match P.info? t with
  | none => false
  | some i => decide (i.size = ti.ty.sz) && decide (i.bytes = ti.bytes) && match i.zero with
    | none => false
    | some z => (match z with | .agg _ => ti.ty.agg | z => !ti.ty.agg && cell1 z) && (match rdZ ti.ty z.cells.toList with | some [] => true | _ => false) && match E.zeroL 20 t with
      | none => true
      | some l => lsZ l z.cells.toList

def fieldOk (E : Env) (ti : TI) (fs : List Nat) (i : Nat) (f : Field) : Bool :=
  match fs[i]?, E.fieldAt fs i with
  | some t', some (n, t'') => decide (t'' = t') && decide (f.type = t') && decide (f.offset = n) && match fieldOff ti.ty fs.length i, E.ty? t' with
    | some (m, u), some u' => decide (m = n ∧ u = u')
    | _, _ => false
  | _, _ => false

def undOk (P : Program) (E : Env) (t : TypeId) (ti : TI) : Bool :=
  match P.underlying t with
  | none => false
  | some d => decide ((match d with | .struct _ | .array _ _ => true | _ => false) = ti.ty.agg) && match ti.kd, d with
    | .sc, .bool => decide (ti.ty = .bool)
    | .sc, .int k => decide (ti.ty = .int k)
    | .sc, .string => decide (ti.ty = .str)
    | .sc, .interface _ => decide (ti.ty = .err)
    | .slice e, .slice e' => decide (e' = e) && match E.ti e with
      | some te => decide (ti.ty = .slice te.ty ∨ ti.ty = .nsl te.ty)
      | none => false
    | .st fs, .struct fields => decide ((fs.map fun t => (E.sz t).getD 0).sum = ti.ty.sz) && decide (fields.size = fs.length) && (List.range fields.size).all fun i => match fields[i]? with
      | some f => fieldOk E ti fs i f
      | none => true
    | .ar n e, .array n' e' => decide (n' = n ∧ e' = e) && match E.ti e with
      | some te => decide (ti.ty = .arr n te.ty)
      | none => false
    | .ptr e, .pointer e' => decide (e' = e ∧ ti.ty = .opq)
    | .other, _ => decide (ti.ty = .opq)
    | _, _ => false

theorem infoOk_spec {P : Program} {E : Env} {t : TypeId} {ti : TI} (h : infoOk P E t ti = true) : ∃ i, P.info? t = some i ∧ i.size = ti.ty.sz ∧ i.bytes = ti.bytes ∧ ∃ z, i.zero = some z ∧ (if ti.ty.agg then ∃ cs, z = .agg cs else cell1 z = true) ∧
    (∀ w I, Rd w I ti.ty ti.ty.zero z.cells.toList) ∧ ∀ l, E.zeroL 20 t = some l → ∀ w I h, LsRd w I h l z.cells.toList := by
  unfold infoOk at h
  split at h
  · cases h
  · rename_i i hi
    simp only [Bool.and_eq_true, decide_eq_true_eq] at h
    obtain ⟨⟨h1, h2⟩, h3⟩ := h
    split at h3
    · cases h3
    · rename_i z hz
      simp only [Bool.and_eq_true] at h3
      obtain ⟨⟨h4, h5⟩, h6⟩ := h3
      refine ⟨i, hi, h1, h2, z, hz, ?_, fun w I => ?_, fun l hl w I hv => ?_⟩
      · split at h4
        · rw [h4]; exact ⟨_, rfl⟩
        · simp only [Bool.and_eq_true, Bool.not_eq_true'] at h4
          rw [h4.1]; exact h4.2
      · split at h5
        · rename_i hr
          obtain ⟨c1, e, g⟩ := rdZ_sound w I hr
          rw [List.append_nil] at e
          rw [e]; exact g
        · cases h5
      · rw [hl] at h6
        exact lsZ_sound w I hv (zeroL_Z hl) h6

theorem undOk_spec {P : Program} {E : Env} {t : TypeId} {ti : TI} (h : undOk P E t ti = true) : ∃ d, P.underlying t = some d ∧ (match d with | .struct _ | .array _ _ => true | _ => false) = ti.ty.agg ∧ match ti.kd with
    | .sc => match ti.ty with
      | .bool => d = .bool
      | .int k => d = .int k
      | .str => d = .string
      | .err => ∃ ms, d = .interface ms
      | _ => False
    | .slice e => d = .slice e ∧ ∃ te, E.ti e = some te ∧ (ti.ty = .slice te.ty ∨ ti.ty = .nsl te.ty)
    | .st fs => (fs.map fun t => (E.sz t).getD 0).sum = ti.ty.sz ∧ ∃ fields, d = .struct fields ∧ fields.size = fs.length ∧ ∀ i f, fields[i]? = some f → ∃ t' n, fs[i]? = some t' ∧ E.fieldAt fs i = some (n, t') ∧ f.type = t' ∧ f.offset = n ∧
        fieldOff ti.ty fs.length i = (E.ty? t').map fun u => (n, u)
    | .ar n e => d = .array n e ∧ ∃ te, E.ti e = some te ∧ ti.ty = .arr n te.ty
    | .ptr e => d = .pointer e ∧ ti.ty = .opq
    | .other => ti.ty = .opq := by
  unfold undOk at h
  split at h
  · cases h
  · rename_i d hd
    rw [Bool.and_eq_true, decide_eq_true_eq] at h
    obtain ⟨h1, h2⟩ := h
    refine ⟨d, hd, h1, ?_⟩
    obtain ⟨ty, kd, bytes⟩ := ti
    simp only at h2 ⊢
    split at h2
    · simp only [decide_eq_true_eq] at h2; subst h2; rfl
    · simp only [decide_eq_true_eq] at h2; subst h2; rfl
    · simp only [decide_eq_true_eq] at h2; subst h2; rfl
    · simp only [decide_eq_true_eq] at h2; subst h2; exact ⟨_, rfl⟩
    · rename_i e e'
      simp only [Bool.and_eq_true, decide_eq_true_eq] at h2
      obtain ⟨rfl, h2⟩ := h2
      refine ⟨rfl, ?_⟩
      split at h2
      · rename_i te hte; exact ⟨te, hte, by simpa using h2⟩
      · cases h2
    · rename_i fs fields
      simp only [Bool.and_eq_true, decide_eq_true_eq] at h2
      obtain ⟨⟨h3, h4⟩, h5⟩ := h2
      refine ⟨h3, fields, rfl, h4, fun i f hf => ?_⟩
      rw [List.all_eq_true] at h5
      have h6 := h5 i (List.mem_range.2 (Array.getElem?_eq_some_iff.1 hf).1)
      rw [hf] at h6
      simp only [fieldOk] at h6
      split at h6
      · rename_i t' n t'' e1 e2
        simp only [Bool.and_eq_true, decide_eq_true_eq] at h6
        obtain ⟨⟨⟨rfl, h7⟩, h8⟩, h9⟩ := h6
        refine ⟨_, n, e1, e2, h7, h8, ?_⟩
        split at h9
        · rename_i m u u' e3 e4
          simp only [decide_eq_true_eq] at h9
          obtain ⟨rfl, rfl⟩ := h9
          rw [e3, e4]; rfl
        · cases h9
      · cases h6
    · rename_i n e n' e'
      simp only [Bool.and_eq_true, decide_eq_true_eq] at h2
      obtain ⟨⟨rfl, rfl⟩, h2⟩ := h2
      refine ⟨rfl, ?_⟩
      split at h2
      · rename_i te hte; exact ⟨te, hte, by simpa using h2⟩
      · cases h2
    · simp only [decide_eq_true_eq] at h2; obtain ⟨rfl, rfl⟩ := h2; exact ⟨rfl, rfl⟩
    · simpa using h2
    · cases h2

/-- The check of what is known of the types. -/
def teOk (P : Program) (E : Env) : Bool := E.te.all fun p => infoOk P E p.1 p.2 && undOk P E p.1 p.2

theorem eok_of {P : Program} {E : Env} (h : teOk P E = true) : EOk P E := by
  refine ⟨fun t ti ht => ?_⟩
  unfold teOk at h
  rw [List.all_eq_true] at h
  have := h _ (look_mem ht)
  rw [Bool.and_eq_true] at this
  exact ⟨infoOk_spec this.1, undOk_spec this.2⟩

/-- The table of types alone. -/
theorem fieldAt_te (te : TE) (sp sp' : List (FuncId × Spec)) (bd bd' : List (FuncId × Func)) : ∀ (l : List Nat) (i : Nat), Env.fieldAt ⟨te, sp, bd⟩ l i = Env.fieldAt ⟨te, sp', bd'⟩ l i
  | [], _ => rfl
  | _ :: _, 0 => rfl
  | t :: r, i + 1 => by simp only [Env.fieldAt, fieldAt_te te sp sp' bd bd' r i]; rfl
theorem zeroL_te (te : TE) (sp sp' : List (FuncId × Spec)) (bd bd' : List (FuncId × Func)) : ∀ (n : Nat), Env.zeroL ⟨te, sp, bd⟩ n = Env.zeroL ⟨te, sp', bd'⟩ n
  | 0 => rfl
  | n + 1 => by funext t; simp only [Env.zeroL, zeroL_te te sp sp' bd bd' n]; rfl
theorem eok_te {P : Program} {te : TE} {sp sp' : List (FuncId × Spec)} {bd bd' : List (FuncId × Func)} (k : EOk P ⟨te, sp, bd⟩) : EOk P ⟨te, sp', bd'⟩ := by
  refine ⟨fun t ti ht => ?_⟩
  obtain ⟨⟨i, h1, h2, h3, z, h4, h5, h6, h7⟩, hu⟩ := k.te t ti ht
  refine ⟨⟨i, h1, h2, h3, z, h4, h5, h6, fun l hl => h7 l (by rw [zeroL_te te sp sp' bd bd' 20]; exact hl)⟩, ?_⟩
  obtain ⟨d, g1, g2, g3⟩ := hu
  refine ⟨d, g1, g2, ?_⟩
  split at g3
  · exact g3
  · exact g3
  · rename_i fs _
    obtain ⟨e1, fields, e2, e3, e4⟩ := g3
    refine ⟨e1, fields, e2, e3, fun i f hf => ?_⟩
    obtain ⟨t', n, q1, q2, q3⟩ := e4 i f hf
    exact ⟨t', n, q1, by rw [← fieldAt_te te sp sp' bd bd' fs i]; exact q2, q3⟩
  · exact g3
  · exact g3
  · exact g3

end Vm

/- What the printed texts lean on. -/
namespace Vm
open Go

/-- Rounds enough for any run. -/
@[irreducible] def fuel : Nat := 2 ^ 250

section
variable {P : Program} {E : Env} {L : Loops}

theorem stepsI_end {path : List FuncId} {n : Nat} {c : Code} {i : Nat} (h : (loops c).length = i) : StepsI E L path n c i [] := h

/-- A function that asks whether its argument is nil. -/
theorem holds_nsl {f : FuncId} {t : Ty} {rs : List RM} {g : Option (List t.den) → Option (denR rs)} {g' : List t.den → Option (denR rs)} (h : Spec.holds P f { ps := [.nsl t], rs := rs, f := g })
    (hg : ∀ xs r, g' xs = some r → g (some xs) = some r ∧ (xs = [] → g none = some r)) : Spec.holds P f { ps := [.slice t], rs := rs, f := g' } := by
  intro w I vs x r hI hargs hr
  obtain ⟨v, hv, ⟨A, n, c, hc, hs⟩, hag⟩ := hargs
  obtain ⟨h1, h2⟩ := hg x r hr
  cases A with
  | none =>
    have hx : x = [] := hs.2.1
    exact h w I vs none r hI ⟨v, hv, ⟨none, n, c, hc, by rw [hx] at hs; exact hs, by simp⟩, hag⟩ (h2 hx)
  | some a => exact h w I vs (some x) r hI ⟨v, hv, ⟨some a, n, c, hc, hs, by simp⟩, hag⟩ h1

def SpecsL (P : Program) : List (FuncId × Spec) → Prop
  | [] => True
  | (f, c) :: r => (entered P f = true ∧ c.holds P f) ∧ SpecsL P r
theorem specs_ok (h : SpecsL P E.spec) : SpecsOk P E := by
  have key : ∀ {l : List (FuncId × Spec)}, SpecsL P l → ∀ f c, look f l = some c → entered P f = true ∧ c.holds P f := by
    intro l
    induction l with
    | nil => intro _ f c hl; simp [look] at hl
    | cons p l ih =>
      obtain ⟨g, d⟩ := p
      rintro ⟨h1, h2⟩ f c hl
      by_cases e : f = g
      · subst e; rw [look_cons_eq] at hl; cases hl; exact h1
      · rw [look_cons_ne _ _ e] at hl; exact ih h2 f c hl
  exact fun f c hl => key h f c hl

def BodiesL (P : Program) : List (FuncId × Func) → Prop
  | [] => True
  | (f, fn) :: r => P.funcs[f]? = some fn ∧ entered P f = true ∧ BodiesL P r
theorem bodies_ok (h : BodiesL P E.body) : BodiesOk P E := by
  have key : ∀ {l : List (FuncId × Func)}, BodiesL P l → ∀ f c, look f l = some c → P.funcs[f]? = some c ∧ entered P f = true := by
    intro l
    induction l with
    | nil => intro _ f c hl; simp [look] at hl
    | cons p l ih =>
      obtain ⟨g, d⟩ := p
      rintro ⟨h1, h2, h3⟩ f c hl
      by_cases e : f = g
      · subst e; rw [look_cons_eq] at hl; cases hl; exact ⟨h1, h2⟩
      · rw [look_cons_ne _ _ e] at hl; exact ih h3 f c hl
  exact fun f c hl => key h f c hl
theorem bodies_none (h : E.body = []) : BodiesOk P E := bodies_ok (by rw [h]; trivial)

def BodiesSt (E : Env) (L : Loops) : List (FuncId × Func) → Prop
  | [] => True
  | (f, fn) :: r => (∀ path, Stepped E L (f :: path) fn.ntmps (bodyOf fn)) ∧ BodiesSt E L r
theorem bodies_stepped (h : BodiesSt E L E.body) : BodiesStepped E L := by
  have key : ∀ {l : List (FuncId × Func)}, BodiesSt E L l → ∀ f fn, look f l = some fn → ∀ path, Stepped E L (f :: path) fn.ntmps (bodyOf fn) := by
    intro l
    induction l with
    | nil => intro _ f c hl; simp [look] at hl
    | cons p l ih =>
      obtain ⟨g, d⟩ := p
      rintro ⟨h1, h2⟩ f c hl
      by_cases e : f = g
      · subst e; rw [look_cons_eq] at hl; cases hl; exact h1
      · rw [look_cons_ne _ _ e] at hl; exact ih h2 f c hl
  intro f fn c path hl hc
  have := key h f fn hl path
  unfold bodyOf at this
  rw [hc] at this
  exact this
theorem bodies_stepped_none (h : E.body = []) : BodiesStepped E L := bodies_stepped (by rw [h]; trivial)

def StList (E : Env) (L : Loops) (f : FuncId) (n : Nat) (c : Code) : List (List FuncId) → Prop
  | [] => True
  | p :: r => Stepped E L (f :: p) n c ∧ StList E L f n c r
theorem stepped_paths {f : FuncId} {n : Nat} {c : Code} (ps : List (List FuncId)) (h : StList E L f n c ps) (hk : (L.all fun q => match q.1 with | g :: p => decide (g ≠ f) || ps.contains p | [] => true) = true) :
    ∀ path, Stepped E L (f :: path) n c := by
  intro path
  by_cases hp : path ∈ ps
  · have key : ∀ {ps : List (List FuncId)}, StList E L f n c ps → path ∈ ps → Stepped E L (f :: path) n c := by
      intro ps
      induction ps with
      | nil => intro _ h; cases h
      | cons p ps ih =>
        rintro ⟨h1, h2⟩ hm
        rcases List.mem_cons.1 hm with rfl | hm
        · exact h1
        · exact ih h2 hm
    exact key h hp
  · refine stepped_none ?_
    have key : ∀ {M : Loops}, (M.all fun q => match q.1 with | g :: p => decide (g ≠ f) || ps.contains p | [] => true) = true → lookP (f :: path) M = none := by
      intro M
      induction M with
      | nil => intro _; rfl
      | cons q M ih =>
        intro h
        rw [List.all_cons, Bool.and_eq_true] at h
        obtain ⟨q, a⟩ := q
        simp only [lookP]
        split
        · rename_i e
          subst e
          have h1 := h.1
          simp only [ne_eq, not_true_eq_false, decide_false, Bool.false_or] at h1
          exact absurd (List.contains_iff_mem.1 h1) hp
        · exact ih h.2
    exact key hk

end
end Vm

/- Rows: what is read of an argument is plain data. -/
namespace Vm
open Go

/-- At least so many bytes. -/
def Ty.bytes0 : Ty → Nat
  | .bool => 1
  | .int k => k.bits / 8
  | .str => 16
  | .slice _ => 24
  | .pair a b => a.bytes0 + b.bytes0
  | .arr n t => n * t.bytes0
  | _ => 0

/-- Plain data as it may come in. -/
def Wf : (t : Ty) → t.den → Prop
  | .int k, n => k.min ≤ n ∧ n ≤ k.max
  | .str, s => s.size ≤ 140737488351232
  | .slice t, xs => xs.length * t.bytes0 ≤ 140737488351232 ∧ ∀ x, x ∈ xs → Wf t x
  | .pair a b, x => Wf a x.1 ∧ Wf b x.2
  | .arr n t, xs => xs.length = n ∧ ∀ x, x ∈ xs → Wf t x
  | _, _ => True

def stTyE (E : Env) : List Nat → Option Ty
  | [] => some .unit
  | [t] => E.ty? t
  | t :: t' :: r => (E.ty? t).bind fun a => (stTyE E (t' :: r)).map fun b => .pair a b

/-- Types whose values are read as plain data. -/
def plainOk (E : Env) : Nat → TypeId → Bool
  | 0, _ => false
  | n + 1, t => match E.ti t with
    | none => false
    | some ti => match ti.kd with
      | .sc => match ti.ty with
        | .bool | .int _ | .str => true
        | _ => false
      | .slice e => plainOk E n e && match E.ti e with
        | some te => decide (te.ty.sz ≠ 0) && decide (ti.ty = .slice te.ty) && decide (te.ty.bytes0 ≤ te.bytes)
        | none => false
      | .st fs => decide (stTyE E fs = some ti.ty) && fs.all (plainOk E n)
      | .ar _ e => plainOk E n e
      | _ => false

section
variable {P : Program} {E : Env} {w : World} {H : Type} {enc : TypeId × Value → H}

abbrev All (w : World) (b : Nat) : Prop := b < w.heap.size

theorem cellsOf_ty (hE : EOk P E) {t : TypeId} {ti : TI} (h : E.ti t = some ti) : P.cellsOf t = ti.ty.sz ∧ P.bytesOf t = ti.bytes := by
  obtain ⟨i, h1, h2, h3, _⟩ := (hE.te t ti h).info
  unfold Program.cellsOf Program.bytesOf
  rw [h1]
  exact ⟨h2, h3⟩

theorem list_of {α : Type} {Q : Nat → α → Prop} : ∀ (n : Nat), (∀ i, i < n → ∃ y, Q i y) → ∃ xs : List α, xs.length = n ∧ ∀ i y, xs[i]? = some y → Q i y
  | 0, _ => ⟨[], rfl, by simp⟩
  | n + 1, h => by
    obtain ⟨xs, h1, h2⟩ := list_of n fun i hi => h i (by omega)
    obtain ⟨y, hy⟩ := h n (by omega)
    refine ⟨xs ++ [y], by simp [h1], fun i z hz => ?_⟩
    by_cases hi : i < n
    · rw [List.getElem?_append_left (by omega)] at hz; exact h2 i z hz
    · have := (List.getElem?_eq_some_iff.1 hz).1
      have hi' : i = n := by simp [h1] at this; omega
      subst hi'
      rw [List.getElem?_append_right (by omega), h1] at hz
      simp at hz
      subst hz; exact hy

theorem mapM_at {α β : Type} {f : α → Option β} : ∀ {l : List α} {r : List β}, l.mapM f = some r → r.length = l.length ∧ ∀ (i : Nat) (x : α), l[i]? = some x → f x = r[i]?
  | [], r, h => by simp at h; subst h; exact ⟨rfl, by simp⟩
  | a :: l, r, h => by
    rw [List.mapM_cons] at h
    simp only [Option.bind_eq_bind, Option.bind_eq_some_iff, Option.pure_def, Option.some.injEq] at h
    obtain ⟨b, hb, m, hm, rfl⟩ := h
    obtain ⟨h1, h2⟩ := mapM_at hm
    refine ⟨by simp [h1], fun i x hx => ?_⟩
    cases i with
    | zero => simp only [List.getElem?_cons_zero, Option.some.injEq] at hx; subst hx; exact hb
    | succ i => exact h2 i x hx

theorem cells_drop {a : Addr} {n : Nat} {cs : List Value} (h : w.cells? 0 a n = some cs) (hn : 0 < n) : ∃ C T fz, w.heap[a.block]? = some (.cells C T fz) ∧ a.spot = none ∧ a.off + n ≤ C.size ∧ cs = (C.toList.drop a.off).take n ∧ a.block < w.heap.size := by
  unfold World.cells? at h
  simp only [Nat.zero_le, if_true] at h
  obtain ⟨hl, hat⟩ := mapM_at h
  have hl : cs.length = n := by simpa using hl
  have hat : ∀ i, i < n → w.cell? (a.add i) = cs[i]? := by
    intro i hi
    exact hat i i (by simp [hi])
  have h0 := hat 0 hn
  rw [List.getElem?_eq_getElem (by omega)] at h0
  unfold World.cell? at h0
  cases hb : w.heap[(a.add 0).block]? with
  | none => rw [hb] at h0; cases h0
  | some o =>
    rw [hb] at h0
    cases o with
    | cells C T fz =>
      have hblk : ∀ i, (a.add i).block = a.block := fun i => by unfold Addr.add; split <;> rfl
      rw [hblk] at hb
      have hsp : a.spot = none := by
        cases hs : a.spot with
        | none => rfl
        | some s =>
          exfalso
          have : (a.add 0).spot.isSome = true := by unfold Addr.add; simp [hs]
          simp [this] at h0
      have hadd : ∀ i, a.add i = ⟨a.block, a.off + i, none⟩ := fun i => by
        obtain ⟨b, o, s⟩ := a
        simp only at hsp
        subst hsp
        exact addr_add b o i
      have hC : ∀ i, i < n → C[a.off + i]? = cs[i]? := by
        intro i hi
        have := hat i hi
        rw [hadd i] at this
        unfold World.cell? at this
        simp only [hb] at this
        simpa using this
      have hsz : a.off + n ≤ C.size := by
        have := hC (n - 1) (by omega)
        rw [List.getElem?_eq_getElem (by omega)] at this
        have := (Array.getElem?_eq_some_iff.1 this).1
        omega
      refine ⟨C, T, fz, hb, hsp, hsz, ?_, (Array.getElem?_eq_some_iff.1 hb).1⟩
      apply List.ext_getElem?
      intro i
      by_cases hi : i < n
      · rw [← hC i hi, List.getElem?_take_of_lt hi, List.getElem?_drop, Array.getElem?_toList]
      · rw [List.getElem?_eq_none (by omega), List.getElem?_eq_none (by simp; omega)]
    | _ => simp at h0

theorem rd_fields {I : Nat → Prop} : ∀ (fs : List Nat) (T : Ty) (cs : List Value), stTyE E fs = some T → cs.length = T.sz →
    (∀ (i : Nat) (n t' : Nat), E.fieldAt fs i = some (n, t') → ∃ u, E.ty? t' = some u ∧ ∃ y : u.den, Rd w I u y ((cs.drop n).take u.sz) ∧ Wf u y) → ∃ y : T.den, Rd w I T y cs ∧ Wf T y
  | [], T, cs, h, hl, _ => by
    simp only [stTyE, Option.some.injEq] at h
    subst h
    exact ⟨(), List.length_eq_zero_iff.1 hl, trivial⟩
  | [t], T, cs, h, hl, hf => by
    simp only [stTyE] at h
    obtain ⟨u, hu, y, hy, hw⟩ := hf 0 0 t rfl
    rw [h] at hu; cases hu
    rw [List.drop_zero, List.take_of_length_le (by omega)] at hy
    exact ⟨y, hy, hw⟩
  | t :: t' :: r, T, cs, h, hl, hf => by
    simp only [stTyE, Option.bind_eq_some_iff, Option.map_eq_some_iff] at h
    obtain ⟨a, ha, b, hb, rfl⟩ := h
    obtain ⟨u, hu, y, hy, hw⟩ := hf 0 0 t rfl
    rw [ha] at hu; cases hu
    simp only [Ty.sz] at hl
    obtain ⟨z, hz, hz'⟩ := rd_fields (t' :: r) b (cs.drop a.sz) hb (by simp; omega) (fun i n t2 h2 => by
      have : E.fieldAt (t :: t' :: r) (i + 1) = some (a.sz + n, t2) := by
        simp only [Env.fieldAt, Env.sz, ha, Option.map_some, Option.bind_some]
        rw [h2]; rfl
      obtain ⟨u, hu, y, hy, hw⟩ := hf (i + 1) _ _ this
      exact ⟨u, hu, y, by rw [List.drop_drop]; exact hy, hw⟩)
    rw [List.drop_zero] at hy
    exact ⟨(y, z), ⟨_, _, (List.take_append_drop a.sz cs).symm, hy, hz⟩, hw, hz'⟩

theorem arRd_of {α : Type} {R : α → List Value → Prop} {sz : Nat} : ∀ {xs : List α} {cs : List Value}, cs.length = xs.length * sz → (∀ (i : Nat) (x : α), xs[i]? = some x → R x ((cs.drop (i * sz)).take sz)) → ArRd R xs cs
  | [], cs, hl, _ => List.length_eq_zero_iff.1 (by simpa using hl)
  | x :: xs, cs, hl, h => by
    have h0 := h 0 x rfl
    rw [Nat.zero_mul, List.drop_zero] at h0
    simp only [List.length_cons, Nat.add_mul, Nat.one_mul] at hl
    refine ⟨cs.take sz, cs.drop sz, (List.take_append_drop sz cs).symm, h0, arRd_of (sz := sz) (by rw [List.length_drop]; omega) fun i y hy => ?_⟩
    have := h (i + 1) y hy
    rw [List.drop_drop]
    rw [Nat.add_mul, Nat.one_mul, Nat.add_comm] at this
    exact this

theorem weightsAll_mem {e : TypeId} : ∀ {ds : List (DataW H)} {d : DataW H}, d ∈ ds → ∀ n, n ∈ d.weights P e → n ∈ DataW.weightsAll P e ds
  | d0 :: ds, d, hd, n, hn => by
    simp only [DataW.weightsAll, List.mem_append]
    rcases List.mem_cons.1 hd with rfl | hd
    · exact .inl hn
    · exact .inr (weightsAll_mem hd n hn)
  | [], _, hd, _, _ => by cases hd

theorem reach_eq : reachBytes = 140737488351232 := by decide

/-- What the rows read of an argument is plain data. -/
theorem trod_rd (hE : EOk P E) : ∀ (fuel n : Nat) {t : TypeId} {ti : TI} {cs : List Value} {x : DataW H × List MemPlace}, E.ti t = some ti → plainOk E n t = true → DataW.trod enc P w 0 (fun _ => true) true fuel t cs = some x →
    (∀ m, m ∈ x.1.weights P t → m ≤ reachBytes) → ∃ y : ti.ty.den, Rd w (All w) ti.ty y cs ∧ Wf ti.ty y
  | fuel, 0, t, ti, cs, x, _, hp, _, _ => by simp [plainOk] at hp
  | 0, n + 1, t, ti, cs, x, _, _, h, _ => by simp [DataW.trod] at h
  | fuel + 1, n + 1, t, ti, cs, x, ht, hp, h, hwt => by
    obtain ⟨d, hd, _, hm⟩ := (hE.te t ti ht).und
    have hcell := (cellsOf_ty hE ht).1
    simp only [plainOk, ht] at hp
    obtain ⟨ty, kd, bytes⟩ := ti
    simp only at hp hm hcell ⊢
    cases kd with
    | sc =>
      simp only at hp hm
      cases ty <;> simp only at hp hm <;> try contradiction
      · subst hm
        obtain ⟨b, rfl, _⟩ := DataW.trod_bool hd h
        exact ⟨b, rfl, trivial⟩
      · subst hm
        obtain ⟨k, rfl, _, hwf⟩ := DataW.trod_int hd h
        simp only [Lit.wf, Bool.and_eq_true, decide_eq_true_eq] at hwf
        exact ⟨k, rfl, hwf⟩
      · subst hm
        obtain ⟨s, rfl, rfl, _⟩ := DataW.trod_string hd h
        refine ⟨s, rfl, ?_⟩
        have := hwt s.data.toList.length (by simp [DataW.weights])
        rw [reach_eq, Array.length_toList] at this
        exact this
    | slice e =>
      simp only [Bool.and_eq_true] at hp hm
      obtain ⟨hpe, hp⟩ := hp
      cases hte : E.ti e with
      | none => rw [hte] at hp; cases hp
      | some te =>
        rw [hte] at hp
        simp only [Bool.and_eq_true, decide_eq_true_eq] at hp
        obtain ⟨⟨hsz, hty⟩, hby⟩ := hp
        subst hty
        obtain ⟨rfl, _⟩ := hm
        obtain ⟨hce, hbe⟩ := cellsOf_ty hE hte
        rcases DataW.trod_slice hd h with ⟨rfl, rfl⟩ | ⟨a, len, cap, elems, rest, n', hn', rfl, rfl, _, hl, _, hel, hat, hrest, _⟩
        · exact ⟨[], ⟨none, 0, 0, rfl, rfl, rfl, rfl⟩, by simp [Wf]⟩
        · cases hn'
          rw [hce] at hat hrest
          obtain ⟨hrl, hrat⟩ := hrest rfl
          have hbound : len * te.ty.bytes0 ≤ 140737488351232 := by
            have := hwt ((elems.map (·.1)).length + (rest.map (·.1)).length |> (· * P.bytesOf e)) (by simp [DataW.weights, hd])
            rw [reach_eq, hbe] at this
            simp only [List.length_map, hel] at this
            have h1 : len * te.ty.bytes0 ≤ len * te.bytes := Nat.mul_le_mul_left _ hby
            have h2 : len * te.bytes ≤ (len + rest.length) * te.bytes := Nat.mul_le_mul_right _ (by omega)
            omega
          have each : ∀ i, i < len → ∃ y : te.ty.den, (∃ c, w.cells? 0 (a.add (i * te.ty.sz)) te.ty.sz = some c ∧ Rd w (All w) te.ty y c) ∧ Wf te.ty y := by
            intro i hi
            have h1 := hat i hi
            rw [List.getElem?_eq_getElem (by omega), Option.bind_eq_some_iff] at h1
            obtain ⟨c, hc, h1⟩ := h1
            obtain ⟨y, hy, hw⟩ := trod_rd hE fuel n hte hpe h1 (fun m hm => hwt m (by
              simp only [DataW.weights, hd]
              refine List.mem_cons_of_mem _ (List.mem_append_left _ (weightsAll_mem (d := (elems[i]'(by omega)).1) ?_ m hm))
              exact List.mem_map.2 ⟨_, List.getElem_mem _, rfl⟩))
            exact ⟨y, ⟨c, hc, hy⟩, hw⟩
          obtain ⟨xs, hxl, hxs⟩ := list_of len each
          refine ⟨xs, ⟨some a, len, cap, rfl, hxl.symm, hl, ?_⟩, by rw [hxl]; exact hbound, fun z hz => ?_⟩
          · by_cases hcap : cap = 0
            · exact .inl hcap
            · right
              have hall : ∀ i, i < cap → ∃ c, w.cells? 0 (a.add (i * te.ty.sz)) te.ty.sz = some c := by
                intro i hi
                by_cases hil : i < len
                · obtain ⟨_, ⟨c, hc, _⟩, _⟩ := each i hil; exact ⟨c, hc⟩
                · have h1 := hrat (i - len) (by omega)
                  rw [show len + (i - len) = i by omega, List.getElem?_eq_getElem (by omega), Option.bind_eq_some_iff] at h1
                  obtain ⟨c, hc, _⟩ := h1
                  exact ⟨c, hc⟩
              have hpos : 0 < te.ty.sz := Nat.pos_of_ne_zero hsz
              obtain ⟨c0, hc0⟩ := hall 0 (by omega)
              obtain ⟨C, T, fz, g1, g2, g3, g4, g5⟩ := cells_drop hc0 hpos
              have hsp : a.spot = none := by
                cases hs : a.spot with
                | none => rfl
                | some s => unfold Addr.add at g2; simp [hs] at g2
              obtain ⟨ab, ao, asp⟩ := a
              simp only at hsp
              subst hsp
              simp only [addr_add] at g1 g5 hall hxs
              refine ⟨rfl, g5, C, T, fz, g1, ?_, fun i z hz => ?_⟩
              · obtain ⟨c1, hc1⟩ := hall (cap - 1) (by omega)
                obtain ⟨C', T', fz', q1, _, q3, _⟩ := cells_drop hc1 hpos
                rw [g1] at q1; cases q1
                have : (cap - 1) * te.ty.sz + te.ty.sz = cap * te.ty.sz := by rw [← Nat.succ_mul]; congr 1; omega
                simp only at q3 ⊢; omega
              · obtain ⟨⟨c, hc, hy⟩, _⟩ := hxs i z hz
                obtain ⟨C', T', fz', q1, _, _, q4, _⟩ := cells_drop hc hpos
                rw [g1] at q1; cases q1
                rw [q4] at hy
                exact hy
          · obtain ⟨i, hi⟩ := List.getElem?_of_mem hz
            exact (hxs i z hi).2
    | st fs =>
      simp only [Bool.and_eq_true, decide_eq_true_eq] at hp hm
      obtain ⟨hst, hall⟩ := hp
      obtain ⟨_, fields, rfl, hfl, hfs⟩ := hm
      obtain ⟨xs, n', hn', rfl, hlen, hxl, hat⟩ := DataW.trod_struct hd h
      cases hn'
      refine rd_fields fs ty cs hst (by rw [hlen, hcell]) fun i off t' hf => ?_
      have hi : i < fs.length := by
        have key : ∀ (l : List Nat) (i : Nat) {q}, E.fieldAt l i = some q → i < l.length := by
          intro l
          induction l with
          | nil => intro i q h; simp [Env.fieldAt] at h
          | cons t l ih =>
            intro i q h
            cases i with
            | zero => simp
            | succ i =>
              simp only [Env.fieldAt, Option.bind_eq_some_iff, Option.map_eq_some_iff] at h
              obtain ⟨_, _, p, hp, _⟩ := h
              have := ih i hp
              simp; omega
        exact key fs i hf
      have hfi : fields[i]? = some fields[i] := Array.getElem?_eq_getElem (by omega)
      obtain ⟨t2, off2, q1, q2, q3, q4, _⟩ := hfs i _ hfi
      rw [hf] at q2; cases q2
      have hmem : t' ∈ fs := List.mem_of_getElem? q1
      rw [List.all_eq_true] at hall
      have hpt := hall t' hmem
      have ⟨ti2, hti2⟩ : ∃ ti2, E.ti t' = some ti2 := by
        cases n with
        | zero => simp [plainOk] at hpt
        | succ n =>
          simp only [plainOk] at hpt
          cases hh : E.ti t' with
          | none => rw [hh] at hpt; cases hpt
          | some ti2 => exact ⟨ti2, rfl⟩
      have h1 := hat i _ hfi
      rw [List.getElem?_eq_getElem (by omega), q3, q4, (cellsOf_ty hE hti2).1] at h1
      obtain ⟨y, hy, hw⟩ := trod_rd hE fuel n hti2 hpt h1 (fun m hm => hwt m (by
        simp only [DataW.weights, hd]
        refine DataW.weights_mem_each (j := i) (t := t') (d := (xs[i]'(by omega)).1) ?_ ?_ m hm
        · rw [List.getElem?_map, Array.getElem?_toList, hfi]; simp [q3]
        · rw [List.getElem?_map, List.getElem?_eq_getElem (by omega)]; rfl))
      exact ⟨ti2.ty, by unfold Env.ty?; rw [hti2]; rfl, y, hy, hw⟩
    | ar m e =>
      simp only at hp hm
      obtain ⟨rfl, te, hte, rfl⟩ := hm
      obtain ⟨hce, _⟩ := cellsOf_ty hE hte
      obtain ⟨xs, n', hn', rfl, hlen, hxl, hat⟩ := DataW.trod_array hd h
      cases hn'
      rw [hce] at hat
      have each : ∀ i, i < m → ∃ y : te.ty.den, Rd w (All w) te.ty y ((cs.drop (i * te.ty.sz)).take te.ty.sz) ∧ Wf te.ty y := by
        intro i hi
        have h1 := hat i hi
        rw [List.getElem?_eq_getElem (by omega)] at h1
        exact trod_rd hE fuel n hte hp h1 (fun q hq => hwt q (by
          simp only [DataW.weights, hd]
          refine weightsAll_mem (d := (xs[i]'(by omega)).1) ?_ q hq
          exact List.mem_map.2 ⟨_, List.getElem_mem _, rfl⟩))
      obtain ⟨ys, hyl, hys⟩ := list_of m each
      refine ⟨ys, ⟨hyl, arRd_of (sz := te.ty.sz) (by rw [hlen, hcell, hyl]; rfl) fun i x hx => (hys i x hx).1⟩, hyl, fun z hz => ?_⟩
      obtain ⟨i, hi⟩ := List.getElem?_of_mem hz
      exact (hys i z hi).2
    | ptr e => simp at hp
    | other => simp at hp

end
end Vm

/- Rows: a law out of the contract of its function and the plain law. -/
namespace Vm
open Go
open Go.RowKit (Below Below.trod shut_bool)

def WfL : (ps : List Ty) → denL ps → Prop
  | [], _ => True
  | [t], x => Wf t x
  | t :: t' :: r, x => Wf t x.1 ∧ WfL (t' :: r) x.2

def psOk (E : Env) : List TypeId → Option (List Ty)
  | [] => some []
  | t :: r => if plainOk E 12 t then (E.ty? t).bind fun u => (psOk E r).map (u :: ·) else none

section
variable {P : Program} {E : Env} {w : World} {H : Type} {enc : TypeId × Value → H}

theorem okWide_form (hE : EOk P E) {n : Nat} {t : TypeId} {ti : TI} (ht : E.ti t = some ti) (hp : plainOk E n t = true) {v : Value} {r : Reach} {base : Nat} (h : Value.okWide P w r base t v) :
    if ti.ty.agg then ∃ cs, v = .agg cs else cell1 v = true := by
  obtain ⟨d, hd, ha, hm⟩ := (hE.te t ti ht).und
  unfold Value.okWide at h
  rw [hd] at h
  rw [← ha]
  cases n with
  | zero => simp [plainOk] at hp
  | succ n =>
    simp only [plainOk, ht] at hp
    obtain ⟨ty, kd, bytes⟩ := ti
    simp only at hp hm
    cases kd with
    | sc =>
      simp only at hp hm
      cases ty <;> simp only at hp hm <;> try contradiction
      all_goals
        subst hm
        simp only [Bool.false_eq_true, if_false]
        unfold Cell.okWide at h
        rw [hd] at h
        cases v <;> first
          | rfl
          | (simp only [Cell.ok, hd] at h; done)
          | (simp [Cell.ok, hd] at h; done)
    | slice e =>
      obtain ⟨rfl, _⟩ := hm
      simp only [Bool.false_eq_true, if_false]
      unfold Cell.okWide at h
      rw [hd] at h
      cases v <;> first
        | rfl
        | (simp [Cell.ok, hd] at h; done)
    | st fs =>
      obtain ⟨_, fields, rfl, _⟩ := hm
      simp only [if_true]
      obtain ⟨cs, rfl, _⟩ := h
      exact ⟨cs, rfl⟩
    | ar m e =>
      obtain ⟨rfl, _⟩ := hm
      simp only [if_true]
      obtain ⟨cs, rfl, _⟩ := h
      exact ⟨cs, rfl⟩
    | ptr e => simp at hp
    | other => simp at hp

theorem ti_of_ty {t : TypeId} {u : Ty} (h : E.ty? t = some u) : ∃ ti, E.ti t = some ti ∧ ti.ty = u := ty?_some h

/-- All arguments are plain data. -/
theorem args_of (hE : EOk P E) : ∀ {ts : List TypeId} {ps : List Ty} {vs : List Value} {ds : List (DataW H)} {pl : List MemPlace}, psOk E ts = some ps → DataW.TrodAll enc P w 0 (fun _ => true) true ts vs ds pl →
    (∀ (j : Nat) t v, ts[j]? = some t → vs[j]? = some v → ∃ r base, Value.okWide P w r base t v) → (∀ m, m ∈ DataW.weightsEach P ts ds → m ≤ reachBytes) → ∃ x : denL ps, ArgsRd w (All w) ps x vs ∧ WfL ps x
  | [], ps, vs, ds, pl, hp, h, _, _ => by
    simp only [psOk, Option.some.injEq] at hp
    subst hp
    obtain ⟨rfl, _, _⟩ := Go.ChangeShapes.trodAll_nil h
    exact ⟨(), rfl, trivial⟩
  | t :: ts, ps, vs, ds, pl, hp, h, hv, hw => by
    simp only [psOk] at hp
    split at hp
    · rename_i hpl
      simp only [Option.bind_eq_some_iff, Option.map_eq_some_iff] at hp
      obtain ⟨u, hu, us, hus, rfl⟩ := hp
      obtain ⟨v, vs', d, ds', p, q, rfl, rfl, _, hd, hrest⟩ := Go.ChangeShapes.trodAll_cons h
      obtain ⟨ti, hti, rfl⟩ := ti_of_ty hu
      obtain ⟨r, base, hok⟩ := hv 0 t v rfl rfl
      have hform := okWide_form hE hti hpl hok
      obtain ⟨fuel, hf⟩ := hd
      obtain ⟨y, hy, hyw⟩ := trod_rd hE fuel 12 hti hpl hf (fun m hm => hw m (by simp only [DataW.weightsEach, List.mem_append]; exact .inl hm))
      obtain ⟨z, hz, hzw⟩ := args_of hE hus hrest (fun j t v h1 h2 => hv (j + 1) t v h1 h2) (fun m hm => hw m (by simp only [DataW.weightsEach, List.mem_append]; exact .inr hm))
      cases us with
      | nil =>
        have : vs' = [] := hz
        subst this
        exact ⟨y, ⟨v, rfl, hy, hform⟩, hyw⟩
      | cons u2 us => exact ⟨(y, z), ⟨v, vs', rfl, ⟨hy, hform⟩, hz⟩, hyw, hzw⟩
    · cases hp

/-- Arguments read behind the call as they did. -/
theorem args_stay (hl : laidOutB P = true) {w' : World} (hb : Below w.heap.size w w') : ∀ {ts : List TypeId} {vs : List Value} {ds : List (DataW H)} {pl : List MemPlace}, (ts.all fun t => P.readableRec t && decide (t < P.types.size)) = true →
    DataW.TrodAll enc P w 0 (fun _ => true) true ts vs ds pl → DataW.TrodAll enc P w' 0 (fun b => decide (b < w.heap.size)) true ts vs ds pl
  | [], vs, ds, pl, _, h => by
    obtain ⟨rfl, rfl, rfl⟩ := Go.ChangeShapes.trodAll_nil h
    exact rfl
  | t :: ts, vs, ds, pl, ht, h => by
    rw [List.all_cons, Bool.and_eq_true, Bool.and_eq_true, decide_eq_true_eq] at ht
    obtain ⟨v, vs', d, ds', p, q, rfl, rfl, rfl, hd, hrest⟩ := Go.ChangeShapes.trodAll_cons h
    exact ⟨p, q, Below.trod hl ht.1.1 ht.1.2 hd hb (by obtain ⟨m, hm⟩ := hd; exact DataW.trod_lt m _ _ _ hm), args_stay hl hb ht.2 hrest, rfl⟩

theorem trodAll_length : ∀ {ts : List TypeId} {vs : List Value} {ds : List (DataW H)} {pl : List MemPlace} {b : Nat} {sp : Nat → Bool} {hd : Bool}, DataW.TrodAll enc P w b sp hd ts vs ds pl → ds.length = ts.length
  | [], vs, ds, pl, b, sp, hd, h => by
    obtain ⟨_, rfl, _⟩ := Go.ChangeShapes.trodAll_nil h
    rfl
  | t :: ts, vs, ds, pl, b, sp, hd, h => by
    obtain ⟨v, vs', d, ds', p, q, rfl, rfl, rfl, _, hrest⟩ := Go.ChangeShapes.trodAll_cons h
    simp [trodAll_length hrest]

end

/-- A law's run, out of the contract of its function and the plain law. -/
theorem law_lifted {H : Type} {enc : TypeId × Value → H} {C : Checked} {os : Os} {f : FuncId} {fn : Func} {s : ChangeSpec} {conds : List PathCond} {E : Env} {ps : List Ty} {tb : TypeId} {g : denL ps → Option (denR [RM.imm .bool])}
    (own : ownKnob C.prog.godebug = none) (started : os.Started) (noInit : C.prog.inits.idxOf? f = none) (hfn : C.prog.funcs[f]? = some fn)
    (witness : ∃ (w : World) (tape : Tape) (i : Input), w.os = os ∧ (w.forCall tape i).Shaped C.prog ∧ i.vars = [] ∧ Input.okWide C.prog (w.forCall tape i) .any w.heap.size f i ∧
      s.pre6 enc C.prog fn conds false (w.forCall tape i).memory i.args ∧ ({} : Assume).holds C.prog (lone (Frame.enter C.prog f i.args .normal) [] (w.forCall tape i)))
    (hE : EOk C.prog E) (hlaid : laidOutB C.prog = true) (hread : (fn.params.toList.all fun t => C.prog.readableRec t && decide (t < C.prog.types.size)) = true) (hps : psOk E fn.params.toList = some ps)
    (hres : fn.resultTypes = #[tb]) (hbool : C.prog.underlying tb = some .bool) (hvars : s.vars = [])
    (hs : ∀ ds : List (DataW H), ds.length = fn.params.toList.length → (s.fn H (ds ++ [])).results = [.lit (.bool true)] ∧ (s.fn H (ds ++ [])).args = ds ∧ (s.fn H (ds ++ [])).vars = [])
    (hspec : Spec.holds C.prog f { ps := ps, rs := [.imm .bool], f := g }) (hlaw : ∀ x, WfL ps x → g x = some true) :
    ReturnsInHanded {} C os f .any (s.pre6 enc C.prog fn conds false) (s.post enc C.prog fn false true false false) := by
  refine returnsInHanded_of_change_sized own started noInit hfn witness ?_
  intro W base args ds gs before hval hW hcnd hsz _
  have hW' := hW
  obtain ⟨p, q, hA, hV, rfl, hfz, hnd⟩ := hW
  rw [hvars] at hV
  obtain ⟨rfl, rfl⟩ := Go.ChangeShapes.trodVars_none hV
  have hvt : s.plain.varTypes C.prog = [] := by
    have : s.plain.vars = s.vars := rfl
    unfold DataSpec.varTypes
    rw [this, hvars]
    rfl
  rw [hvt, List.append_nil, List.append_nil] at hsz
  rw [List.all_eq_true] at hsz
  obtain ⟨x, hx, hxw⟩ := args_of hE hps hA (fun j t v h1 h2 => ⟨_, _, hval j t v (by simpa using h1) (by simpa using h2)⟩) (fun m hm => by simpa using hsz m hm)
  refine (hspec W (All W) args x true (fun _ h => h) hx (hlaw x hxw)).mono fun e W' he => ?_
  cases e with
  | panicked _ => exact he.elim
  | outgrown => exact he.elim
  | returned v =>
    obtain ⟨hg, I', ys, bs, rfl, _, _, _, y, rfl, _, hy⟩ := he
    have hy1 : y = .bool true := by
      obtain ⟨h1, h2⟩ := hy
      simp only [Ty.agg, Bool.false_eq_true, if_false] at h2
      rw [cells_cell1 h2] at h1
      simpa [Rd] using h1
    subst hy1
    have bel : Below W.heap.size W W' := ⟨hg.os, hg.tape, hg.output, hg.size, hg.block⟩
    obtain ⟨e1, e2, e3⟩ := hs ds (trodAll_length hA)
    refine ⟨_, rfl, ds, [], _, [], p ++ [], [], hW', ?_, ?_, ?_, bel.frame _, fun h => by cases h⟩
    · rw [e1, hres]
      exact Go.ChangeShapes.trodAll_mk1 (shut_bool hbool _)
    · rw [e2]
      rw [List.append_nil]
      exact args_stay hlaid bel hread hA
    · rw [e3, hvars]
      exact rfl

end Vm

/- Rows that list package-level variables: a law out of the contract of its function and the plain law. -/
namespace Vm
open Go
open Go.RowKit (Below Below.trod shut_bool)

/-- A law's run whose row lists variables, out of the contract of its function and the plain law. -/
theorem law_laid {H : Type} {enc : TypeId × Value → H} {C : Checked} {os : Os} {f : FuncId} {fn : Func} {s : ChangeSpec} {conds : List PathCond} {E : Env} {ps : List Ty} {tb : TypeId} {g : denL ps → Option (denR [RM.imm .bool])} {laid : List (String × DataW Unit)}
    (own : ownKnob C.prog.godebug = none) (started : os.Started) (noInit : C.prog.inits.idxOf? f = none) (hfn : C.prog.funcs[f]? = some fn)
    (witness : ∃ (w : World) (tape : Tape) (i : Input), w.os = os ∧ (w.forCall tape i).Shaped C.prog ∧ i.vars = [] ∧ Input.okWide C.prog (w.forCall tape i) .any w.heap.size f i ∧
      ((s.pre enc C.prog fn conds false (w.forCall tape i).memory i.args ∧ laidMetH C.prog laid (w.forCall tape i).memory) ∧ sizedMet enc C.prog fn (OpenSpec.ofChange s) false (w.forCall tape i).memory i.args) ∧ ({} : Assume).holds C.prog (lone (Frame.enter C.prog f i.args .normal) [] (w.forCall tape i)))
    (hE : EOk C.prog E) (hlaid : laidOutB C.prog = true) (hread : (fn.params.toList.all fun t => C.prog.readableRec t && decide (t < C.prog.types.size)) = true) (hps : psOk E fn.params.toList = some ps)
    (hres : fn.resultTypes = #[tb]) (hbool : C.prog.underlying tb = some .bool) (hvars : s.vars = [])
    (hs : ∀ ds : List (DataW H), ds.length = fn.params.toList.length → (s.fn H (ds ++ [])).results = [.lit (.bool true)] ∧ (s.fn H (ds ++ [])).args = ds ∧ (s.fn H (ds ++ [])).vars = [])
    (hspec : Spec.holds C.prog f { ps := ps, rs := [.imm .bool], f := g }) (hlaw : ∀ x, WfL ps x → g x = some true) :
    ReturnsInHanded {} C os f .any (fun w args => (s.pre enc C.prog fn conds false w args ∧ laidMetH C.prog laid w) ∧ sizedMet enc C.prog fn (OpenSpec.ofChange s) false w args) (s.post enc C.prog fn false true false false) := by
  refine returnsInHanded_of_change_and (X := fun w _ => laidMetH C.prog laid w) (fun _ _ _ hh h => h.of_heap hh) own started noInit hfn witness ?_
  intro W base args ds gs before hval hW hcnd hsz _ _
  have hW' := hW
  obtain ⟨p, q, hA, hV, rfl, hfz, hnd⟩ := hW
  rw [hvars] at hV
  obtain ⟨rfl, rfl⟩ := Go.ChangeShapes.trodVars_none hV
  have hvt : s.plain.varTypes C.prog = [] := by
    have : s.plain.vars = s.vars := rfl
    unfold DataSpec.varTypes
    rw [this, hvars]
    rfl
  rw [hvt, List.append_nil, List.append_nil] at hsz
  rw [List.all_eq_true] at hsz
  obtain ⟨x, hx, hxw⟩ := args_of hE hps hA (fun j t v h1 h2 => ⟨_, _, hval j t v (by simpa using h1) (by simpa using h2)⟩) (fun m hm => by simpa using hsz m hm)
  refine (hspec W (All W) args x true (fun _ h => h) hx (hlaw x hxw)).mono fun e W' he => ?_
  cases e with
  | panicked _ => exact he.elim
  | outgrown => exact he.elim
  | returned v =>
    obtain ⟨hg, I', ys, bs, rfl, _, _, _, y, rfl, _, hy⟩ := he
    have hy1 : y = .bool true := by
      obtain ⟨h1, h2⟩ := hy
      simp only [Ty.agg, Bool.false_eq_true, if_false] at h2
      rw [cells_cell1 h2] at h1
      simpa [Rd] using h1
    subst hy1
    have bel : Below W.heap.size W W' := ⟨hg.os, hg.tape, hg.output, hg.size, hg.block⟩
    obtain ⟨e1, e2, e3⟩ := hs ds (trodAll_length hA)
    refine ⟨_, rfl, ds, [], _, [], p ++ [], [], hW', ?_, ?_, ?_, bel.frame _, fun h => by cases h⟩
    · rw [e1, hres]
      exact Go.ChangeShapes.trodAll_mk1 (shut_bool hbool _)
    · rw [e2]
      rw [List.append_nil]
      exact args_stay hlaid bel hread hA
    · rw [e3, hvars]
      exact rfl

end Vm

/- Plain facts that many plain laws lean on. -/
namespace Vm
open Go

theorem w64 (n : Int) (h1 : -9223372036854775808 ≤ n) (h2 : n ≤ 9223372036854775807) : IntKind.i64.wrap n = n := Go.IntWalk.i64_in n ⟨h1, h2⟩
theorem fuel_big : 2 ^ 200 ≤ fuel := by unfold fuel; decide
theorem fuel_ge {n : Nat} (h : n ≤ 2 ^ 200) : n ≤ fuel := Nat.le_trans h fuel_big
/-- Fuel as a successor of enough. -/
theorem fuel_split {n : Nat} (h : n ≤ 2 ^ 200) : ∃ m, fuel = m + n := ⟨fuel - n, (Nat.sub_add_cancel (fuel_ge h)).symm⟩

/-- Natural numbers as whole numbers. -/
abbrev zs (l : List Nat) : List Int := l.map Int.ofNat

theorem getD_zs (l : List Nat) (i : Nat) : (zs l).getD i 0 = ((l.getD i 0 : Nat) : Int) := by
  simp only [List.getD_eq_getElem?_getD, List.getElem?_map]
  cases l[i]? <;> rfl
theorem set_zs (l : List Nat) (i n : Nat) : (zs l).set i (n : Int) = zs (l.set i n) := by
  rw [show ((n : Nat) : Int) = Int.ofNat n from rfl, ← List.map_set]
theorem length_zs (l : List Nat) : (zs l).length = l.length := by simp
/-- A list of numbers that are not negative. -/
theorem exists_zs : ∀ {l : List Int}, (∀ x, x ∈ l → 0 ≤ x) → ∃ k : List Nat, l = zs k
  | [], _ => ⟨[], rfl⟩
  | x :: l, h => by
    obtain ⟨k, rfl⟩ := exists_zs fun y hy => h y (List.mem_cons_of_mem _ hy)
    have := h x (List.mem_cons_self ..)
    exact ⟨x.toNat :: k, by simp [Int.toNat_of_nonneg this]⟩

theorem getD_eq {α : Type} (l : List α) (i : Nat) (d : α) (h : i < l.length) : l.getD i d = l[i] := by
  rw [List.getD_eq_getElem?_getD, List.getElem?_eq_getElem h]; rfl
theorem getD_set_eq' {α : Type} (l : List α) (i : Nat) (x d : α) (h : i < l.length) : (l.set i x).getD i d = x := by
  rw [List.getD_eq_getElem?_getD, List.getElem?_set_self h]; rfl
theorem getD_set_ne' {α : Type} (l : List α) (i j : Nat) (x d : α) (h : i ≠ j) : (l.set i x).getD j d = l.getD j d := by
  rw [List.getD_eq_getElem?_getD, List.getElem?_set_ne h, ← List.getD_eq_getElem?_getD]
theorem set_getD {α : Type} (l : List α) (i : Nat) (d : α) : l.set i (l.getD i d) = l := by
  by_cases h : i < l.length
  · rw [getD_eq l i d h]; exact List.set_getElem_self h
  · rw [List.set_eq_of_length_le (by omega)]

end Vm

/- Lists of counts. -/
namespace Vm
open Go

/-! Counts as functions. -/
/-- The first k values. -/
def vec (k : Nat) (f : Nat → Nat) : List Nat := (List.range k).map f
theorem vec_length (k : Nat) (f : Nat → Nat) : (vec k f).length = k := by simp [vec]
theorem vec_getD (k : Nat) (f : Nat → Nat) (c : Nat) (h : c < k) : (vec k f).getD c 0 = f c := by
  simp [vec, List.getD_eq_getElem?_getD, h]
def upd (f : Nat → Nat) (c x : Nat) : Nat → Nat := fun i => if i = c then x else f i
theorem vec_set (k : Nat) (f : Nat → Nat) (c x : Nat) : (vec k f).set c x = vec k (upd f c x) := by
  apply List.ext_getElem
  · simp [vec]
  · intro i h1 h2
    simp only [vec, List.length_set, List.length_map, List.length_range] at h1
    simp only [vec, List.getElem_set, List.getElem_map, List.getElem_range, upd]
    by_cases e : c = i
    · subst e; simp
    · have : i ≠ c := fun h => e h.symm
      simp [e, this]
theorem vec_congr {k : Nat} {f g : Nat → Nat} (h : ∀ i, i < k → f i = g i) : vec k f = vec k g := by
  apply List.map_congr_left
  intro i hi
  exact h i (List.mem_range.1 hi)

def sumTo : Nat → (Nat → Nat) → Nat
  | 0, _ => 0
  | n + 1, f => sumTo n f + f n
theorem sumTo_congr {f g : Nat → Nat} : ∀ {n : Nat}, (∀ i, i < n → f i = g i) → sumTo n f = sumTo n g
  | 0, _ => rfl
  | n + 1, h => by simp only [sumTo]; rw [sumTo_congr fun i hi => h i (by omega), h n (by omega)]
theorem sumTo_mono {f : Nat → Nat} {a b : Nat} (h : a ≤ b) : sumTo a f ≤ sumTo b f := by
  induction h with
  | refl => exact Nat.le_refl _
  | step h ih => exact Nat.le_trans ih (Nat.le_add_right _ _)
theorem vec_succ (k : Nat) (f : Nat → Nat) : vec (k + 1) f = vec k f ++ [f k] := by simp [vec, List.range_succ]
theorem vec_sum (f : Nat → Nat) : ∀ k, (vec k f).sum = sumTo k f
  | 0 => rfl
  | k + 1 => by rw [vec_succ, List.sum_append, vec_sum f k]; simp [sumTo]
theorem sumTo_dec (f : Nat → Nat) (c : Nat) (hf : 0 < f c) : ∀ k, c < k → sumTo k f = sumTo k (upd f c (f c - 1)) + 1
  | 0, h => by omega
  | k + 1, h => by
    simp only [sumTo]
    by_cases e : c = k
    · subst e
      have h1 : sumTo c f = sumTo c (upd f c (f c - 1)) := sumTo_congr fun i hi => by simp [upd, show i ≠ c by omega]
      simp only [upd, if_true] at h1 ⊢
      rw [← h1]; omega
    · have ih := sumTo_dec f c hf k (by omega)
      have h3 : upd f c (f c - 1) k = f k := by simp [upd, show k ≠ c by omega]
      rw [ih, h3]; omega

def cnt (ks : List Nat) : Nat → Nat := fun c => ks.count c
theorem cnt_cons (c : Nat) (ks : List Nat) : cnt ks = upd (cnt (c :: ks)) c (cnt (c :: ks) c - 1) := by
  funext i
  unfold upd cnt
  by_cases e : i = c
  · subst e; simp
  · have : c ≠ i := fun h => e h.symm
    simp [e, this]
theorem cnt_self (c : Nat) (ks : List Nat) : 0 < cnt (c :: ks) c := by simp [cnt]
theorem sum_cnt : ∀ (ks : List Nat) (k : Nat), (∀ c, c ∈ ks → c < k) → sumTo k (cnt ks) = ks.length
  | [], k, _ => by
    have : sumTo k (cnt []) = 0 := by
      induction k with
      | zero => rfl
      | succ k ih => simp only [sumTo]; rw [ih (by simp)]; simp [cnt]
    simpa using this
  | c :: ks, k, h => by
    rw [sumTo_dec (cnt (c :: ks)) c (cnt_self c ks) k (h c (List.mem_cons_self ..)), ← cnt_cons, sum_cnt ks k fun d hd => h d (List.mem_cons_of_mem _ hd)]
    rfl

theorem cnt_cons_eq (c : Nat) (ks : List Nat) (i : Nat) : cnt (c :: ks) i = cnt ks i + if i = c then 1 else 0 := by
  unfold cnt
  rw [List.count_cons]
  by_cases e : i = c
  · subst e; simp
  · have e' : c ≠ i := fun h => e h.symm
    simp [e, e']
theorem rep_vec (n : Nat) : List.replicate n (0 : Int) = zs (vec n fun _ => 0) := by
  induction n with
  | zero => rfl
  | succ n ih => rw [List.replicate_succ', ih, vec_succ, zs, zs, List.map_append]; rfl
theorem mem_zs {c : Nat} {ks : List Nat} : (c : Int) ∈ zs ks ↔ c ∈ ks := by
  simp only [zs, List.mem_map]
  constructor
  · rintro ⟨d, h, e⟩
    have : d = c := Int.ofNat.inj e
    rwa [← this]
  · intro h; exact ⟨c, h, rfl⟩
theorem zs_inj {a b : List Nat} (h : zs a = zs b) : a = b := List.map_inj_right (fun _ _ h => Int.ofNat.inj h) |>.1 h
theorem getD_mid {α : Type} (L : List α) (x : α) (R : List α) (d : α) : (L ++ x :: R).getD L.length d = x := by
  rw [List.getD_eq_getElem?_getD, List.getElem?_append_right (Nat.le_refl _), Nat.sub_self]; rfl
theorem set_mid {α : Type} (L : List α) (x : α) (R : List α) (y : α) : (L ++ x :: R).set L.length y = L ++ y :: R := by
  rw [List.set_append_right _ _ (Nat.le_refl _), Nat.sub_self]; rfl
theorem snoc_cases {α : Type} (l : List α) : l = [] ∨ ∃ p a, l = p ++ [a] := by
  rcases List.eq_nil_or_concat l with rfl | ⟨p, a, rfl⟩
  · exact .inl rfl
  · exact .inr ⟨p, a, by simp⟩

end Vm

/- Natural numbers as digits in the base 10^9: plain mathematics. -/
namespace Vm
open Go

theorem u64n {n : Nat} (h : n < 18446744073709551616) : IntKind.u64.wrap (n : Int) = (n : Int) := Go.IntWalk.u64_in _ (by omega)
theorem u32n {n : Nat} (h : n < 4294967296) : IntKind.u32.wrap (n : Int) = (n : Int) := Go.IntWalk.u32_in _ (by omega)
theorem i64n {n : Nat} (h : n < 9223372036854775808) : IntKind.i64.wrap (n : Int) = (n : Int) := Go.IntWalk.i64_in _ (by omega)
theorem u8n {n : Nat} (h : n < 256) : IntKind.u8.wrap (n : Int) = (n : Int) := Go.IntWalk.u8_in _ (by omega)
theorem tdivB (n : Nat) : (n : Int).tdiv 1000000000 = ((n / 1000000000 : Nat) : Int) := rfl
theorem tmodB (n : Nat) : (n : Int).tmod 1000000000 = ((n % 1000000000 : Nat) : Int) := rfl
theorem tdivN (n m : Nat) : (n : Int).tdiv (m : Int) = ((n / m : Nat) : Int) := rfl
theorem tmodN (n m : Nat) : (n : Int).tmod (m : Int) = ((n % m : Nat) : Int) := rfl

theorem zs_snoc (l : List Nat) (n : Nat) : zs l ++ [(n : Int)] = zs (l ++ [n]) := by rw [zs, zs, List.map_append]; rfl
theorem zs_one (n : Nat) : [(n : Int)] = zs [n] := rfl
theorem zs_take (l : List Nat) (n : Nat) : (zs l).take n = zs (l.take n) := by rw [zs, zs, List.map_take]
theorem zs_rep (n : Nat) : List.replicate n (0 : Int) = zs (List.replicate n 0) := by rw [zs, List.map_replicate]; rfl
theorem getD_take (l : List Nat) (n i : Nat) (h : i < n) : (l.take n).getD i 0 = l.getD i 0 := by
  simp only [List.getD_eq_getElem?_getD, List.getElem?_take]; rw [if_pos h]

/-- The value of digits, the least significant one first. -/
def vl : List Nat → Nat
  | [] => 0
  | d :: l => d + 1000000000 * vl l
def Dg (l : List Nat) : Prop := ∀ d, d ∈ l → d < 1000000000
/-- The digits of a number. -/
def cn (n : Nat) : List Nat := if n = 0 then [] else n % 1000000000 :: cn (n / 1000000000)
termination_by n
decreasing_by exact Nat.div_lt_self (by omega) (by decide)

theorem cn_zero : cn 0 = [] := by rw [cn]; rfl
theorem cn_pos {n : Nat} (h : n ≠ 0) : cn n = n % 1000000000 :: cn (n / 1000000000) := by rw [cn, if_neg h]
theorem vl_cn (n : Nat) : vl (cn n) = n := by
  induction n using Nat.strongRecOn with
  | ind n ih =>
    by_cases h : n = 0
    · subst h; rw [cn_zero]; rfl
    · rw [cn_pos h, vl, ih _ (Nat.div_lt_self (by omega) (by decide))]
      omega
theorem dg_nil : Dg [] := fun d h => by cases h
theorem dg_cons {d : Nat} {l : List Nat} : Dg (d :: l) ↔ d < 1000000000 ∧ Dg l := by
  simp [Dg]
theorem dg_append {a b : List Nat} : Dg (a ++ b) ↔ Dg a ∧ Dg b := by
  simp only [Dg, List.mem_append]
  exact ⟨fun h => ⟨fun d hd => h d (.inl hd), fun d hd => h d (.inr hd)⟩, fun h d hd => hd.elim (h.1 d) (h.2 d)⟩
theorem dg_cn (n : Nat) : Dg (cn n) := by
  induction n using Nat.strongRecOn with
  | ind n ih =>
    by_cases h : n = 0
    · subst h; rw [cn_zero]; exact dg_nil
    · rw [cn_pos h, dg_cons]
      exact ⟨Nat.mod_lt _ (by decide), ih _ (Nat.div_lt_self (by omega) (by decide))⟩
theorem dg_take {l : List Nat} (h : Dg l) (n : Nat) : Dg (l.take n) := fun d hd => h d (List.mem_of_mem_take hd)
theorem dg_drop {l : List Nat} (h : Dg l) (n : Nat) : Dg (l.drop n) := fun d hd => h d (List.mem_of_mem_drop hd)
theorem dg_set {l : List Nat} (h : Dg l) {i x : Nat} (hx : x < 1000000000) : Dg (l.set i x) := fun d hd => by
  rcases List.mem_or_eq_of_mem_set hd with hd | rfl
  · exact h d hd
  · exact hx
theorem dg_getD {l : List Nat} (h : Dg l) (i : Nat) : l.getD i 0 < 1000000000 := by
  by_cases hi : i < l.length
  · rw [getD_eq l i 0 hi]; exact h _ (List.getElem_mem hi)
  · rw [List.getD_eq_getElem?_getD, List.getElem?_eq_none (by omega)]; decide
theorem dg_rep (n : Nat) : Dg (List.replicate n 0) := fun d hd => by
  have := List.eq_of_mem_replicate hd; omega

theorem pow_succ9 (n : Nat) : 1000000000 ^ (n + 1) = 1000000000 * 1000000000 ^ n := by rw [Nat.pow_succ, Nat.mul_comm]
theorem pos9 (n : Nat) : 0 < 1000000000 ^ n := Nat.pow_pos (by decide)
theorem vl_append : ∀ (a b : List Nat), vl (a ++ b) = vl a + 1000000000 ^ a.length * vl b
  | [], b => by simp [vl]
  | d :: a, b => by
    rw [List.cons_append, vl, vl_append a b, vl, List.length_cons, pow_succ9, Nat.mul_add, Nat.mul_assoc]; omega
theorem vl_rep : ∀ n, vl (List.replicate n 0) = 0
  | 0 => rfl
  | n + 1 => by rw [List.replicate_succ, vl, vl_rep n]
theorem vl_lt : ∀ {l : List Nat}, Dg l → vl l < 1000000000 ^ l.length
  | [], _ => by simp [vl]
  | d :: l, h => by
    have h := dg_cons.1 h
    have := vl_lt h.2
    rw [vl, List.length_cons, pow_succ9]
    omega
theorem vl_split (l : List Nat) (n : Nat) (h : n ≤ l.length) : vl l = vl (l.take n) + 1000000000 ^ n * vl (l.drop n) := by
  have := vl_append (l.take n) (l.drop n)
  rw [List.take_append_drop, List.length_take, Nat.min_eq_left h] at this
  exact this
theorem vl_drop (l : List Nat) (i : Nat) (h : i < l.length) : vl (l.drop i) = l.getD i 0 + 1000000000 * vl (l.drop (i + 1)) := by
  rw [List.drop_eq_getElem_cons h, vl, getD_eq l i 0 h]
theorem vl_set : ∀ (l : List Nat) (i x : Nat), i < l.length → vl (l.set i x) + 1000000000 ^ i * l.getD i 0 = vl l + 1000000000 ^ i * x
  | [], i, x, h => by simp at h
  | d :: l, 0, x, h => by simp [vl]; omega
  | d :: l, i + 1, x, h => by
    have ih := vl_set l i x (by simpa using h)
    rw [List.set_cons_succ, vl, vl, List.getD_cons_succ, pow_succ9, Nat.mul_assoc, Nat.mul_assoc]
    omega
theorem cn_snoc : ∀ (l : List Nat) (d : Nat), Dg (l ++ [d]) → d ≠ 0 → cn (vl (l ++ [d])) = l ++ [d]
  | [], d, h, h0 => by
    have := (dg_cons.1 h).1
    simp only [List.nil_append, vl, Nat.mul_zero, Nat.add_zero]
    rw [cn_pos h0, Nat.mod_eq_of_lt this, Nat.div_eq_of_lt this, cn_zero]
  | e :: l, d, h, h0 => by
    have h := dg_cons.1 (show Dg (e :: (l ++ [d])) from h)
    have ih := cn_snoc l d h.2 h0
    rw [List.cons_append, vl]
    have hv : vl (l ++ [d]) ≠ 0 := fun e => by rw [e, cn_zero] at ih; simp at ih
    rw [cn_pos (by omega), show (e + 1000000000 * vl (l ++ [d])) % 1000000000 = e by omega, show (e + 1000000000 * vl (l ++ [d])) / 1000000000 = vl (l ++ [d]) by omega, ih]
/-- A list of digits without a leading zero is that of its value. -/
theorem cn_vl {l : List Nat} (h : Dg l) (h0 : ∀ p, l ≠ p ++ [0]) : cn (vl l) = l := by
  rcases snoc_cases l with rfl | ⟨p, a, rfl⟩
  · exact cn_zero
  · exact cn_snoc p a h fun e => by subst e; exact h0 p rfl
theorem vl_snoc0 (p : List Nat) : vl (p ++ [0]) = vl p := by rw [vl_append]; simp [vl]
theorem cn_inj {a b : Nat} (h : cn a = cn b) : a = b := by rw [← vl_cn a, h, vl_cn]
theorem cn_length (n k : Nat) : (cn n).length ≤ k ↔ n < 1000000000 ^ k := by
  induction k generalizing n with
  | zero =>
    by_cases h : n = 0
    · subst h; simp [cn_zero]
    · rw [cn_pos h]; simp; omega
  | succ k ih =>
    by_cases h : n = 0
    · subst h; rw [cn_zero]; simpa using pos9 (k + 1)
    · rw [cn_pos h, List.length_cons, Nat.add_le_add_iff_right, ih, pow_succ9, Nat.mul_comm, Nat.div_lt_iff_lt_mul (by decide)]
theorem cn_top {n : Nat} {p : List Nat} {d : Nat} (h : cn n = p ++ [d]) : d ≠ 0 := by
  rintro rfl
  have h1 : vl p = n := by rw [← vl_snoc0, ← h, vl_cn]
  have hd : Dg p := (dg_append.1 (h ▸ dg_cn n)).1
  have h2 : (cn n).length ≤ p.length := (cn_length n _).2 (h1 ▸ vl_lt hd)
  rw [h] at h2
  simp at h2
  omega
theorem cn_len_pos {n : Nat} (h : n ≠ 0) : 0 < (cn n).length := by rw [cn_pos h]; simp
theorem cn_ge {n : Nat} (h : n ≠ 0) : 1000000000 ^ ((cn n).length - 1) ≤ n := by
  apply Nat.le_of_not_lt
  intro hl
  have := (cn_length n _).2 hl
  have := cn_len_pos h
  omega
theorem cn_lt (n : Nat) : n < 1000000000 ^ (cn n).length := (cn_length n _).1 (Nat.le_refl _)
theorem cn_eq_nil {n : Nat} : cn n = [] ↔ n = 0 := ⟨fun h => by rw [← vl_cn n, h]; rfl, fun h => by subst h; exact cn_zero⟩
theorem cn_len_zero {n : Nat} : (cn n).length = 0 ↔ n = 0 := by rw [List.length_eq_zero_iff, cn_eq_nil]

/-- What trim does. -/
theorem trim_stop {l : List Nat} {i : Nat} (h : Dg l) (hi : i < l.length) (h0 : l.getD i 0 ≠ 0) : l.take (i + 1) = cn (vl (l.take (i + 1))) := by
  refine (cn_vl (dg_take h _) fun p e => h0 ?_).symm
  have hl : (l.take (i + 1)).length = i + 1 := by rw [List.length_take]; omega
  have h1 : (l.take (i + 1)).getD i 0 = l.getD i 0 := by
    simp only [List.getD_eq_getElem?_getD, List.getElem?_take]; rw [if_pos (by omega)]
  rw [← h1, e]
  rw [e] at hl
  simp at hl
  have := getD_mid p 0 [] (0 : Nat)
  rwa [hl] at this
theorem trim_step {l : List Nat} {i : Nat} (hi : i < l.length) (h0 : l.getD i 0 = 0) : vl (l.take (i + 1)) = vl (l.take i) := by
  have : l.take (i + 1) = l.take i ++ [0] := by
    rw [List.take_succ_eq_append_getElem hi, ← getD_eq l i 0 hi, h0]
  rw [this, vl_snoc0]

/-- The order of numbers is that of their digits, from the top. -/
theorem vl_cmp {a b : List Nat} (ha : Dg a) (_ : Dg b) {i : Nat} (h1 : i < a.length) (h2 : i < b.length) (hd : vl (a.drop (i + 1)) = vl (b.drop (i + 1))) (hl : a.getD i 0 < b.getD i 0) : vl a < vl b := by
  rw [vl_split a i (by omega), vl_split b i (by omega), vl_drop a i h1, vl_drop b i h2, hd]
  have := vl_lt (dg_take ha i)
  rw [List.length_take, Nat.min_eq_left (by omega)] at this
  have h3 : 1000000000 ^ i * (a.getD i 0 + 1000000000 * vl (b.drop (i + 1))) + 1000000000 ^ i ≤ 1000000000 ^ i * (b.getD i 0 + 1000000000 * vl (b.drop (i + 1))) := by
    rw [← Nat.mul_succ]
    exact Nat.mul_le_mul_left _ (by omega)
  omega
theorem len_lt {a b : Nat} (h : (cn a).length < (cn b).length) : a < b := by
  have h1 := cn_lt a
  have hb : b ≠ 0 := fun e => by subst e; rw [cn_zero] at h; simp at h
  have h2 := cn_ge hb
  have : 1000000000 ^ (cn a).length ≤ 1000000000 ^ ((cn b).length - 1) := Nat.pow_le_pow_right (by decide) (by omega)
  omega
theorem cn_of_len {l : List Nat} (h : Dg l) (hl : l.length ≤ (cn (vl l)).length) : cn (vl l) = l := by
  refine cn_vl h fun p e => ?_
  subst e
  rw [vl_snoc0] at hl
  have := (cn_length (vl p) p.length).2 (vl_lt (dg_append.1 h).1)
  simp at hl
  omega
theorem cn_mono {a b : Nat} (h : a ≤ b) : (cn a).length ≤ (cn b).length := (cn_length a _).2 (Nat.lt_of_le_of_lt h (cn_lt b))

end Vm

/- Texts as lists of bytes, and the decimal texts of numbers: plain mathematics. -/
namespace Vm
open Go

/-- The text of bytes. -/
def sb (l : List Nat) : ByteArray := ⟨(l.map UInt8.ofNat).toArray⟩
/-- The bytes of a text. -/
def bt (s : ByteArray) : List Nat := s.data.toList.map UInt8.toNat
def By (l : List Nat) : Prop := ∀ c, c ∈ l → c < 256

theorem by_bt (s : ByteArray) : By (bt s) := fun c hc => by
  obtain ⟨d, _, rfl⟩ := List.mem_map.1 hc
  exact d.toNat_lt
theorem sb_bt (s : ByteArray) : sb (bt s) = s := by
  cases s with
  | mk a =>
    unfold sb bt
    congr 1
    apply Array.ext'
    simp [List.map_map, Function.comp_def, UInt8.ofNat_toNat]
theorem bt_sb {l : List Nat} (h : By l) : bt (sb l) = l := by
  unfold sb bt
  simp only [List.map_map]
  refine (List.map_congr_left (g := id) fun c hc => ?_).trans (List.map_id l)
  exact UInt8.toNat_ofNat_of_lt (h c hc)
theorem sb_size (l : List Nat) : (sb l).size = l.length := by simp [sb, ByteArray.size]
theorem sb_bytes {l : List Nat} (h : By l) : ((sb l).data.toList.map fun c => (c.toNat : Int)) = zs l := by
  have := congrArg zs (bt_sb h)
  rw [bt, zs, List.map_map] at this
  exact this
theorem sb_getD {l : List Nat} (h : By l) (i : Nat) : ((sb l).data.getD i 0).toNat = l.getD i 0 := by
  have e : (sb l).data.getD i 0 = (l.map UInt8.ofNat).getD i 0 := by
    simp [sb, Array.getD_eq_getD_getElem?, List.getD_eq_getElem?_getD]
  rw [e]
  by_cases hi : i < l.length
  · rw [getD_eq _ i 0 (by simpa using hi), getD_eq l i 0 hi, List.getElem_map]
    exact UInt8.toNat_ofNat_of_lt (h _ (List.getElem_mem hi))
  · rw [List.getD_eq_getElem?_getD, List.getD_eq_getElem?_getD, List.getElem?_eq_none (by simpa using hi), List.getElem?_eq_none (by omega)]; rfl
theorem sb_toList (l : List Nat) : (sb l).toList = l.map UInt8.ofNat := by rw [ByteArray.toList_eq]; simp [sb]
theorem ofNat_inj {l l' : List Nat} (h : By l) (h' : By l') (e : l.map UInt8.ofNat = l'.map UInt8.ofNat) : l = l' := by
  have := congrArg (List.map UInt8.toNat) e
  rw [List.map_map, List.map_map] at this
  have h1 : ∀ l : List Nat, By l → List.map (UInt8.toNat ∘ UInt8.ofNat) l = l := fun l h => (List.map_congr_left (g := id) fun c hc => UInt8.toNat_ofNat_of_lt (h c hc)).trans (List.map_id l)
  rwa [h1 l h, h1 l' h'] at this
theorem sb_eq {l l' : List Nat} (h : By l) (h' : By l') : ((sb l).toList == (sb l').toList) = decide (l = l') := by
  rw [sb_toList, sb_toList, Bool.eq_iff_iff, beq_iff_eq, decide_eq_true_eq]
  exact ⟨ofNat_inj h h', fun e => by rw [e]⟩
theorem sb_extract (l : List Nat) (i j : Nat) : (sb l).extract i j = sb ((l.take j).drop i) := by
  have : (sb l).extract i j = ⟨(sb l).data.extract i j⟩ := by
    rw [← ByteArray.data_extract]
  rw [this]
  unfold sb
  congr 1
  apply Array.ext'
  simp [List.map_drop, List.map_take, List.drop_take]
theorem sb_append (a b : List Nat) : sb a ++ sb b = sb (a ++ b) := by
  have h : ∀ x : ByteArray, x = ⟨x.data.toList.toArray⟩ := fun x => by cases x; simp
  rw [h (sb a ++ sb b)]
  unfold sb
  congr 1
  simp [List.map_append]
theorem sb_of (l : List Nat) : (⟨((zs l).map fun n => UInt8.ofNat n.toNat).toArray⟩ : ByteArray) = sb l := by
  unfold sb
  congr 2
  rw [zs, List.map_map]
  rfl
theorem by_append {a b : List Nat} : By (a ++ b) ↔ By a ∧ By b := by
  simp only [By, List.mem_append]
  exact ⟨fun h => ⟨fun d hd => h d (.inl hd), fun d hd => h d (.inr hd)⟩, fun h d hd => hd.elim (h.1 d) (h.2 d)⟩
theorem by_take {l : List Nat} (h : By l) (n : Nat) : By (l.take n) := fun d hd => h d (List.mem_of_mem_take hd)
theorem by_drop {l : List Nat} (h : By l) (n : Nat) : By (l.drop n) := fun d hd => h d (List.mem_of_mem_drop hd)
theorem nil_sb : (⟨#[]⟩ : ByteArray) = sb [] := rfl
theorem by_nil : By [] := fun _ h => by cases h

/-! Decimal digits, the most significant one first. -/
def dv (a : Nat) : List Nat → Nat
  | [] => a
  | c :: l => dv (a * 10 + c) l
def Tn (l : List Nat) : Prop := ∀ c, c ∈ l → c < 10
theorem dv_append : ∀ (a : Nat) (x y : List Nat), dv a (x ++ y) = dv (dv a x) y
  | _, [], _ => rfl
  | a, c :: x, y => by rw [List.cons_append, dv, dv, dv_append]
theorem dv_add : ∀ (a : Nat) (l : List Nat), dv a l = a * 10 ^ l.length + dv 0 l
  | a, [] => by simp [dv]
  | a, c :: l => by
    rw [dv, dv_add (a * 10 + c) l, dv, dv_add (0 * 10 + c) l, List.length_cons, Nat.pow_succ, Nat.zero_mul, Nat.zero_add, Nat.add_mul, Nat.mul_assoc, Nat.mul_comm 10]
    omega
theorem dv_lt : ∀ {l : List Nat}, Tn l → dv 0 l < 10 ^ l.length
  | [], _ => by simp [dv]
  | c :: l, h => by
    rw [dv, dv_add, List.length_cons, Nat.pow_succ, Nat.zero_mul, Nat.zero_add]
    have := dv_lt (l := l) fun d hd => h d (List.mem_cons_of_mem _ hd)
    have := Nat.mul_le_mul_right (10 ^ l.length) (show c + 1 ≤ 10 by have := h c (List.mem_cons_self ..); omega)
    rw [Nat.add_mul] at this
    omega
theorem dv_split (l : List Nat) (i : Nat) (_ : i ≤ l.length) : dv 0 l = dv 0 (l.take i) * 10 ^ (l.length - i) + dv 0 (l.drop i) := by
  have := dv_append 0 (l.take i) (l.drop i)
  rw [List.take_append_drop] at this
  rw [this, dv_add, List.length_drop]
theorem tn_append {a b : List Nat} : Tn (a ++ b) ↔ Tn a ∧ Tn b := by
  simp only [Tn, List.mem_append]
  exact ⟨fun h => ⟨fun d hd => h d (.inl hd), fun d hd => h d (.inr hd)⟩, fun h d hd => hd.elim (h.1 d) (h.2 d)⟩

def dec (n : Nat) : List Nat := if n = 0 then [] else dec (n / 10) ++ [n % 10]
termination_by n
decreasing_by exact Nat.div_lt_self (by omega) (by decide)
theorem dec_zero : dec 0 = [] := by rw [dec]; rfl
theorem dec_pos {n : Nat} (h : n ≠ 0) : dec n = dec (n / 10) ++ [n % 10] := by rw [dec, if_neg h]
theorem tn_dec (n : Nat) : Tn (dec n) := by
  induction n using Nat.strongRecOn with
  | ind n ih =>
    by_cases h : n = 0
    · subst h; rw [dec_zero]; exact fun _ h => by cases h
    · rw [dec_pos h, tn_append]
      exact ⟨ih _ (Nat.div_lt_self (by omega) (by decide)), fun c hc => by rw [List.mem_singleton] at hc; omega⟩
theorem dv_dec (n : Nat) : dv 0 (dec n) = n := by
  induction n using Nat.strongRecOn with
  | ind n ih =>
    by_cases h : n = 0
    · subst h; rw [dec_zero]; rfl
    · rw [dec_pos h, dv_append, ih _ (Nat.div_lt_self (by omega) (by decide)), dv, dv]; omega
theorem dec_length (n k : Nat) : (dec n).length ≤ k ↔ n < 10 ^ k := by
  induction k generalizing n with
  | zero =>
    by_cases h : n = 0
    · subst h; simp [dec_zero]
    · rw [dec_pos h]; simp; omega
  | succ k ih =>
    by_cases h : n = 0
    · subst h; rw [dec_zero]; simpa using Nat.pow_pos (n := k + 1) (show 0 < 10 by decide)
    · rw [dec_pos h, List.length_append, List.length_singleton, Nat.add_le_add_iff_right, ih, Nat.pow_succ, Nat.div_lt_iff_lt_mul (by decide)]
theorem dec_len_pos {n : Nat} (h : n ≠ 0) : 0 < (dec n).length := by rw [dec_pos h]; simp
/-- Digits without a leading zero are those of their value. -/
theorem dec_snoc {p : List Nat} {c : Nat} (h : c < 10) (hp : dec (dv 0 p) = p) (h0 : dv 0 p * 10 + c ≠ 0) : dec (dv 0 (p ++ [c])) = p ++ [c] := by
  rw [dv_append, dv, dv, dec_pos h0, show (dv 0 p * 10 + c) / 10 = dv 0 p by omega, show (dv 0 p * 10 + c) % 10 = c by omega, hp]
theorem dec_dv : ∀ (n : Nat) (l : List Nat), l.length = n → Tn l → l.head? ≠ some 0 → dec (dv 0 l) = l
  | 0, l, hn, h, h0 => by
    obtain rfl := List.length_eq_zero_iff.1 hn
    exact dec_zero
  | n + 1, l, hn, h, h0 => by
    rcases snoc_cases l with rfl | ⟨p, c, rfl⟩
    · simp at hn
    · have hc := (tn_append.1 h).2 c (by simp)
      cases p with
      | nil =>
        have : c ≠ 0 := fun e => by subst e; simp at h0
        exact dec_snoc (p := []) hc (by simp [dv, dec_zero]) (by simp [dv]; exact this)
      | cons a p =>
        have hp := dec_dv n (a :: p) (by simpa using hn) (tn_append.1 h).1 (by simpa using h0)
        refine dec_snoc hc hp ?_
        have : dv 0 (a :: p) ≠ 0 := fun e => by rw [e, dec_zero] at hp; cases hp
        omega
theorem dv_drop0 : ∀ l : List Nat, dv 0 (l.dropWhile (· == 0)) = dv 0 l
  | [] => rfl
  | c :: l => by
    rw [List.dropWhile_cons]
    split
    · rename_i h
      rw [dv_drop0 l]
      have : c = 0 := by simpa using h
      subst this
      rfl
    · rfl
theorem drop0 {l : List Nat} (h : Tn l) : l.dropWhile (· == 0) = dec (dv 0 l) := by
  have h1 : (l.dropWhile (· == 0)).head? ≠ some 0 := by
    have := List.head?_dropWhile_not (p := (· == 0)) (l := l)
    intro e
    rw [e] at this
    simp at this
  rw [← dv_drop0 l]
  refine (dec_dv _ _ rfl (fun c hc => h c ?_) h1).symm
  exact (List.dropWhile_sublist _).subset hc

/-- The digits of a number's text. -/
def dig (n : Nat) : List Nat := if n = 0 then [0] else dec n
/-- The bytes of a number's text. -/
def dt (n : Nat) : List Nat := (dig n).map (48 + ·)
def txt (n : Nat) : ByteArray := sb (dt n)
theorem tn_dig (n : Nat) : Tn (dig n) := by
  unfold dig
  split
  · intro c hc; rw [List.mem_singleton] at hc; omega
  · exact tn_dec n
theorem by_48 {l : List Nat} (h : Tn l) : By (l.map (48 + ·)) := fun c hc => by
  obtain ⟨d, hd, rfl⟩ := List.mem_map.1 hc
  have := h d hd
  omega
theorem by_dt (n : Nat) : By (dt n) := by_48 (tn_dig n)
theorem dv_dig (n : Nat) : dv 0 (dig n) = n := by
  unfold dig
  split
  · subst n; rfl
  · exact dv_dec n
theorem dig_inj {a b : Nat} (h : dig a = dig b) : a = b := by rw [← dv_dig a, h, dv_dig]
theorem map48_inj {a b : List Nat} (h : a.map (48 + ·) = b.map (48 + ·)) : a = b := (List.map_inj_right fun x y (h : 48 + x = 48 + y) => by omega).1 h
theorem dt_inj {a b : Nat} (h : dt a = dt b) : a = b := dig_inj (map48_inj h)
theorem txt_eq (a b : Nat) : ((txt a).toList == (txt b).toList) = decide (a = b) := by
  unfold txt
  rw [sb_eq (by_dt a) (by_dt b)]
  exact decide_eq_decide.2 ⟨dt_inj, fun e => by rw [e]⟩
theorem txt_size (n : Nat) : (txt n).size = (dig n).length := by rw [txt, sb_size, dt, List.length_map]
theorem dig_len_pos (n : Nat) : 0 < (dig n).length := by
  unfold dig
  split
  · decide
  · exact dec_len_pos (by assumption)
theorem dig_length (n k : Nat) (hk : 1 ≤ k) : (dig n).length ≤ k ↔ n < 10 ^ k := by
  unfold dig
  split
  · subst n; simp; exact ⟨fun _ => Nat.pow_pos (by decide), fun _ => hk⟩
  · exact dec_length n k
theorem dig_mono {a b : Nat} (h : a ≤ b) : (dig a).length ≤ (dig b).length :=
  (dig_length a _ (dig_len_pos b)).2 (Nat.lt_of_le_of_lt h ((dig_length b _ (dig_len_pos b)).1 (Nat.le_refl _)))
theorem dig_lt (n : Nat) : n < 10 ^ (dig n).length := (dig_length n _ (dig_len_pos n)).1 (Nat.le_refl _)
theorem dig_mul (a b : Nat) : (dig (a * b)).length ≤ (dig a).length + (dig b).length := by
  rw [dig_length _ _ (by have := dig_len_pos a; omega), Nat.pow_add]
  exact Nat.mul_lt_mul_of_lt_of_le (dig_lt a) (Nat.le_of_lt (dig_lt b)) (Nat.pow_pos (by decide))
theorem dig_add {a b k : Nat} (ha : (dig a).length ≤ k) (hb : (dig b).length ≤ k) : (dig (a + b)).length ≤ k + 1 := by
  have hk : 1 ≤ k := Nat.le_trans (dig_len_pos a) ha
  rw [dig_length _ _ hk] at ha hb
  rw [dig_length _ _ (by omega), Nat.pow_succ]
  omega
/-- Texts of digits without a leading zero are those of numbers. -/
theorem dig_of {l : List Nat} (h : Tn l) (h0 : l = [0] ∨ l ≠ [] ∧ l.head? ≠ some 0) : l = dig (dv 0 l) := by
  rcases h0 with rfl | ⟨h1, h2⟩
  · rfl
  · have := dec_dv _ l rfl h h2
    unfold dig
    split
    · rename_i e
      rw [e, dec_zero] at this
      exact absurd this.symm h1
    · exact this.symm
theorem dig_head {n : Nat} (h : n ≠ 0) : (dig n).head? ≠ some 0 := by
  unfold dig
  rw [if_neg h]
  have h1 : Tn (dec n) := tn_dec n
  have := drop0 h1
  rw [dv_dec] at this
  intro e
  cases hd : dec n with
  | nil => rw [hd] at e; cases e
  | cons c l =>
    rw [hd] at e this
    simp only [List.head?_cons, Option.some.injEq] at e
    subst e
    have h2 := congrArg List.length this
    rw [List.dropWhile_cons_of_pos (by rfl)] at h2
    have h3 := (List.dropWhile_sublist (· == 0) (l := l)).length_le
    simp at h2
    omega
/-- A number of so many decimal digits has so few digits of the base 10^9. -/
theorem cn_of_dig {n k : Nat} (h : (dig n).length ≤ 9 * k) : (cn n).length ≤ k := by
  rw [cn_length]
  by_cases h0 : k = 0
  · have := dig_len_pos n; omega
  · have := (dig_length n (9 * k) (by omega)).1 h
    rwa [Nat.pow_mul] at this

/-! Digits with leading zeros. -/
def pd : Nat → Nat → List Nat
  | 0, _ => []
  | j + 1, d => pd j (d / 10) ++ [d % 10]
theorem pd_length : ∀ j d, (pd j d).length = j
  | 0, _ => rfl
  | j + 1, d => by rw [pd, List.length_append, pd_length]; rfl
theorem tn_pd : ∀ j d, Tn (pd j d)
  | 0, _ => fun _ h => by cases h
  | j + 1, d => by rw [pd, tn_append]; exact ⟨tn_pd j _, fun c hc => by rw [List.mem_singleton] at hc; omega⟩
theorem dv_pd : ∀ j d, d < 10 ^ j → dv 0 (pd j d) = d
  | 0, d, h => by simp at h; subst h; rfl
  | j + 1, d, h => by
    rw [pd, dv_append, dv_pd j _ (by rw [Nat.pow_succ] at h; exact Nat.div_lt_of_lt_mul (by omega)), dv, dv]; omega
/-- The digits of many places, from the top. -/
def bg (l : List Nat) : Nat → List Nat
  | 0 => []
  | i + 1 => pd 9 (l.getD i 0) ++ bg l i
theorem bg_length (l : List Nat) : ∀ i, (bg l i).length = 9 * i
  | 0 => rfl
  | i + 1 => by rw [bg, List.length_append, pd_length, bg_length]; omega
theorem tn_bg (l : List Nat) : ∀ i, Tn (bg l i)
  | 0 => fun _ h => by cases h
  | i + 1 => by rw [bg, tn_append]; exact ⟨tn_pd _ _, tn_bg l i⟩
theorem dv_bg {l : List Nat} (h : Dg l) : ∀ i, i ≤ l.length → dv 0 (bg l i) = vl (l.take i)
  | 0, _ => rfl
  | i + 1, hi => by
    rw [bg, dv_append, dv_pd 9 _ (dg_getD h i), dv_add, dv_bg h i (by omega), bg_length, Nat.pow_mul, List.take_succ_eq_append_getElem (by omega), vl_append, List.length_take, Nat.min_eq_left (by omega), getD_eq l i 0 (by omega), Nat.mul_comm]
    simp only [vl, Nat.mul_zero, Nat.add_zero]
    rw [show (10 ^ 9 : Nat) = 1000000000 by decide]
    omega
end Vm

/- Rational numbers as sign, digits and digits of the denominator, and their texts: plain mathematics. -/
namespace Vm
open Go

/-- A number as the program keeps it. -/
def QR (r : Rat) (q : Bool × List Int × List Int) : Prop := q.1 = decide (r.num < 0) ∧ q.2.1 = zs (cn r.num.natAbs) ∧ (q.2.2 = zs (cn r.den) ∨ r = 0 ∧ q.2.2 = [])
def sgn (neg : Bool) (p : Nat) : Int := if neg then -(p : Int) else p
theorem sgn_abs (neg : Bool) (p : Nat) : (sgn neg p).natAbs = p := by cases neg <;> simp [sgn]
theorem sgn_zero (neg : Bool) : sgn neg 0 = 0 := by cases neg <;> rfl
theorem sgn_num (r : Rat) : sgn (decide (r.num < 0)) r.num.natAbs = r.num := by
  unfold sgn
  by_cases h : r.num < 0
  · rw [if_pos (by simpa using h)]; omega
  · rw [if_neg (by simpa using h)]; omega
theorem sgn_mul (a b : Bool) (p q : Nat) : sgn (a != b) (p * q) = sgn a p * sgn b q := by
  cases a <;> cases b <;> simp [sgn] <;> grind
theorem frac_self (r : Rat) : mkRat (sgn (decide (r.num < 0)) r.num.natAbs) r.den = r := by rw [sgn_num, Rat.mkRat_self]

theorem frac_parts (neg : Bool) {p d : Nat} (hp : p ≠ 0) (hd : d ≠ 0) : (mkRat (sgn neg p) d).num.natAbs = p / Nat.gcd p d ∧ (mkRat (sgn neg p) d).den = d / Nat.gcd p d ∧ decide ((mkRat (sgn neg p) d).num < 0) = neg := by
  rw [Rat.mkRat_def, dif_neg hd, Rat.normalize_eq]
  show (sgn neg p / (((sgn neg p).natAbs.gcd d : Nat) : Int)).natAbs = _ ∧ d / (sgn neg p).natAbs.gcd d = _ ∧ decide (sgn neg p / (((sgn neg p).natAbs.gcd d : Nat) : Int) < 0) = neg
  rw [sgn_abs]
  have hg : 0 < Nat.gcd p d := Nat.gcd_pos_of_pos_left _ (Nat.pos_of_ne_zero hp)
  have hdv : (Nat.gcd p d) ∣ p := Nat.gcd_dvd_left p d
  obtain ⟨e, he⟩ := hdv
  have h2 : p / Nat.gcd p d = e := by
    rw [show p / Nat.gcd p d = (Nat.gcd p d * e) / Nat.gcd p d by rw [← he]]
    exact Nat.mul_div_cancel_left _ hg
  have he0 : e ≠ 0 := fun h => by subst h; omega
  have h1 : sgn neg p / ((Nat.gcd p d : Nat) : Int) = sgn neg e := by
    have : sgn neg p = ((Nat.gcd p d : Nat) : Int) * sgn neg e := by
      cases neg
      · simp only [sgn, Bool.false_eq_true, if_false]; rw [← Int.natCast_mul, ← he]
      · simp only [sgn, if_true]; rw [Int.mul_neg, ← Int.natCast_mul, ← he]
    rw [this, Int.mul_ediv_cancel_left _ (by omega)]
  refine ⟨?_, rfl, ?_⟩
  · show (sgn neg p / ((Nat.gcd p d : Nat) : Int)).natAbs = _
    rw [h1, sgn_abs, h2]
  · show decide (sgn neg p / ((Nat.gcd p d : Nat) : Int) < 0) = neg
    rw [h1]
    cases neg
    · simp [sgn]
    · simp [sgn]; omega
theorem qr_zero : QR 0 (false, [], []) := ⟨rfl, by rw [show (0 : Rat).num.natAbs = 0 from rfl, cn_zero]; rfl, .inr ⟨rfl, rfl⟩⟩
theorem qr_low (neg : Bool) {p d : Nat} (hp : p ≠ 0) (hd : d ≠ 0) : QR (mkRat (sgn neg p) d) (neg, zs (cn (p / Nat.gcd p d)), zs (cn (d / Nat.gcd p d))) := by
  obtain ⟨h1, h2, h3⟩ := frac_parts neg hp hd
  exact ⟨h3.symm, by rw [h1], .inl (by rw [h2])⟩
theorem mkRat_zero' (d : Nat) : mkRat 0 d = 0 := Rat.zero_mkRat d
/-- The size of a number: the decimal digits of its parts. -/
def Dr (k : Nat) (r : Rat) : Prop := r.num.natAbs < 10 ^ k ∧ r.den < 10 ^ k
theorem p10 (k : Nat) : 0 < 10 ^ k := Nat.pow_pos (by decide)
theorem dr_mono {k l : Nat} (h : k ≤ l) {r : Rat} (hr : Dr k r) : Dr l r :=
  ⟨Nat.lt_of_lt_of_le hr.1 (Nat.pow_le_pow_right (by decide) h), Nat.lt_of_lt_of_le hr.2 (Nat.pow_le_pow_right (by decide) h)⟩
theorem cn_of_lt {n k : Nat} (h : n < 10 ^ k) : (cn n).length ≤ k := by
  rw [cn_length]
  exact Nat.lt_of_lt_of_le h (Nat.pow_le_pow_left (by decide) k)
theorem lt_mul {a b k l : Nat} (ha : a < 10 ^ k) (hb : b < 10 ^ l) : a * b < 10 ^ (k + l) := by
  rw [Nat.pow_add]
  exact Nat.mul_lt_mul'' ha hb
theorem lt_add {a b k : Nat} (ha : a < 10 ^ k) (hb : b < 10 ^ k) : a + b < 10 ^ (k + 1) := by
  rw [Nat.pow_succ]; omega
theorem dr_mk {s : Int} {d k : Nat} (hd : d ≠ 0) (hs : s.natAbs < 10 ^ k) (hk : d < 10 ^ k) : Dr k (mkRat s d) := by
  by_cases h0 : s = 0
  · subst h0
    rw [mkRat_zero']
    exact ⟨p10 k, by rw [show (0 : Rat).den = 1 from rfl]; omega⟩
  · have hs' : s = sgn (decide (s < 0)) s.natAbs := by
      unfold sgn
      by_cases h : s < 0
      · rw [if_pos (by simpa using h)]; omega
      · rw [if_neg (by simpa using h)]; omega
    obtain ⟨h1, h2, _⟩ := frac_parts (decide (s < 0)) (p := s.natAbs) (d := d) (by omega) hd
    rw [hs']
    refine ⟨?_, ?_⟩
    · rw [h1]; exact Nat.lt_of_le_of_lt (Nat.div_le_self _ _) hs
    · rw [h2]; exact Nat.lt_of_le_of_lt (Nat.div_le_self _ _) hk
theorem dr_mul {k l : Nat} {r s : Rat} (hr : Dr k r) (hs : Dr l s) : Dr (k + l) (r * s) := by
  rw [Rat.mul_def']
  refine dr_mk (Nat.mul_ne_zero r.den_nz s.den_nz) ?_ (lt_mul hr.2 hs.2)
  rw [Int.natAbs_mul]
  exact lt_mul hr.1 hs.1
theorem dr_add {k l : Nat} {r s : Rat} (hr : Dr k r) (hs : Dr l s) : Dr (k + l + 1) (r + s) := by
  rw [Rat.add_def']
  refine dr_mk (Nat.mul_ne_zero r.den_nz s.den_nz) ?_ (Nat.lt_of_lt_of_le (lt_mul hr.2 hs.2) (Nat.pow_le_pow_right (by decide) (by omega)))
  refine Nat.lt_of_le_of_lt (Int.natAbs_add_le _ _) ?_
  rw [Int.natAbs_mul, Int.natAbs_mul, Int.natAbs_natCast, Int.natAbs_natCast]
  exact lt_add (lt_mul hr.1 hs.2) (by rw [Nat.add_comm k l]; exact lt_mul hs.1 hr.2)
theorem dr_neg {k : Nat} {r : Rat} (hr : Dr k r) : Dr k (-r) := ⟨by rw [Rat.neg_num, Int.natAbs_neg]; exact hr.1, by rw [Rat.neg_den]; exact hr.2⟩
theorem dr_sub {k l : Nat} {r s : Rat} (hr : Dr k r) (hs : Dr l s) : Dr (k + l + 1) (r - s) := by
  rw [Rat.sub_eq_add_neg]; exact dr_add hr (dr_neg hs)
theorem dr_inv {k : Nat} {r : Rat} (hr : Dr k r) (h0 : r ≠ 0) : Dr k r⁻¹ := by
  have hn : r.num ≠ 0 := fun e => h0 (Rat.num_eq_zero.1 e)
  refine ⟨?_, ?_⟩
  · rw [Rat.num_inv, Int.natAbs_mul, Int.natAbs_natCast]
    have : r.num.sign.natAbs = 1 := by rw [Int.natAbs_sign, if_neg hn]
    rw [this, Nat.one_mul]
    exact hr.2
  · rw [Rat.den_inv, if_neg hn]
    exact hr.1
theorem dr_div {k l : Nat} {r s : Rat} (hr : Dr k r) (hs : Dr l s) (h0 : s ≠ 0) : Dr (k + l) (r / s) := by
  rw [Rat.div_def]; exact dr_mul hr (dr_inv hs h0)
theorem dr_nat {n k : Nat} (h : n < 10 ^ k) (hk : 1 ≤ k) : Dr k (n : Rat) := by
  refine ⟨by rw [show ((n : Nat) : Rat).num.natAbs = n from Int.natAbs_natCast n]; exact h, ?_⟩
  rw [show ((n : Nat) : Rat).den = 1 from rfl]
  exact Nat.one_lt_pow (by omega) (by decide)
theorem dr_zero {k : Nat} (h : 1 ≤ k) : Dr k 0 := dr_nat (n := 0) (p10 k) h

/-! Texts of numbers. -/
def rtb (r : Rat) : List Nat := (if r.num < 0 then [45] else []) ++ (dt r.num.natAbs ++ (if r.den = 1 then [] else 47 :: dt r.den))
def rt (r : Rat) : ByteArray := sb (rtb r)
theorem dt_no {n c : Nat} (h : c ∈ dt n) : 48 ≤ c ∧ c ≤ 57 := by
  obtain ⟨d, hd, rfl⟩ := List.mem_map.1 h
  have := tn_dig n d hd
  omega
theorem dt_ne (n : Nat) : dt n ≠ [] := fun e => by
  have := dig_len_pos n
  have h := congrArg List.length e
  rw [dt, List.length_map, List.length_nil] at h
  omega
theorem by_rtb (r : Rat) : By (rtb r) := by
  unfold rtb
  rw [by_append, by_append]
  refine ⟨?_, by_dt _, ?_⟩
  · split
    · intro c hc; rw [List.mem_singleton] at hc; omega
    · exact by_nil
  · split
    · exact by_nil
    · intro c hc
      rcases List.mem_cons.1 hc with rfl | hc
      · decide
      · exact by_dt _ c hc
theorem tail_inj {a b : Nat} (x y : List Nat) (h : dt a ++ x = dt b ++ y) (hx : x = [] ∨ ∃ z, x = 47 :: z) (hy : y = [] ∨ ∃ z, y = 47 :: z) : a = b ∧ x = y := by
  have key : ∀ (p q x y : List Nat), (∀ c, c ∈ p → c ≠ 47) → (∀ c, c ∈ q → c ≠ 47) → p ++ x = q ++ y → (x = [] ∨ ∃ z, x = 47 :: z) → (y = [] ∨ ∃ z, y = 47 :: z) → p = q ∧ x = y := by
    intro p
    induction p with
    | nil =>
      intro q x y _ hq h hx _
      cases q with
      | nil => exact ⟨rfl, h⟩
      | cons c q =>
        rcases hx with rfl | ⟨z, rfl⟩
        · cases h
        · simp only [List.nil_append, List.cons_append, List.cons.injEq] at h
          exact absurd h.1.symm (hq c (List.mem_cons_self ..))
    | cons c p ih =>
      intro q x y hp hq h hx hy
      cases q with
      | nil =>
        rcases hy with rfl | ⟨z, rfl⟩
        · cases h
        · simp only [List.nil_append, List.cons_append, List.cons.injEq] at h
          exact absurd h.1 (hp c (List.mem_cons_self ..))
      | cons d q =>
        simp only [List.cons_append, List.cons.injEq] at h
        obtain ⟨h1, h2⟩ := ih q x y (fun c hc => hp c (List.mem_cons_of_mem _ hc)) (fun c hc => hq c (List.mem_cons_of_mem _ hc)) h.2 hx hy
        exact ⟨by rw [h.1, h1], h2⟩
  obtain ⟨h1, h2⟩ := key _ _ x y (fun c hc => by have := dt_no hc; omega) (fun c hc => by have := dt_no hc; omega) h hx hy
  exact ⟨dt_inj h1, h2⟩
theorem rtb_inj {r s : Rat} (h : rtb r = rtb s) : r = s := by
  have tl : ∀ r : Rat, ((if r.den = 1 then [] else 47 :: dt r.den) : List Nat) = [] ∨ ∃ z, ((if r.den = 1 then [] else 47 :: dt r.den) : List Nat) = 47 :: z := fun r => by
    by_cases h : r.den = 1
    · rw [if_pos h]; exact .inl rfl
    · rw [if_neg h]; exact .inr ⟨_, rfl⟩
  have fin : dt r.num.natAbs ++ (if r.den = 1 then [] else 47 :: dt r.den) = dt s.num.natAbs ++ (if s.den = 1 then [] else 47 :: dt s.den) → r.num.natAbs = s.num.natAbs ∧ r.den = s.den := by
    intro h
    obtain ⟨h1, h2⟩ := tail_inj _ _ h (tl r) (tl s)
    refine ⟨h1, ?_⟩
    by_cases a : r.den = 1
    · by_cases b : s.den = 1
      · omega
      · rw [if_pos a, if_neg b] at h2; cases h2
    · by_cases b : s.den = 1
      · rw [if_neg a, if_pos b] at h2; cases h2
      · rw [if_neg a, if_neg b] at h2
        simp only [List.cons.injEq, true_and] at h2
        exact dt_inj h2
  have hd : ∀ (n : Nat) (x y : List Nat), dt n ++ x ≠ 45 :: y := fun n x y e => by
    cases hn : dt n with
    | nil => exact dt_ne n hn
    | cons c l =>
      rw [hn] at e
      simp only [List.cons_append, List.cons.injEq] at e
      have := dt_no (n := n) (c := c) (by rw [hn]; exact List.mem_cons_self ..)
      omega
  unfold rtb at h
  by_cases a : r.num < 0
  · by_cases b : s.num < 0
    · rw [if_pos a, if_pos b] at h
      obtain ⟨h1, h2⟩ := fin (List.append_cancel_left h)
      exact Rat.ext (by omega) h2
    · rw [if_pos a, if_neg b] at h
      exact absurd h.symm (hd _ _ _)
  · by_cases b : s.num < 0
    · rw [if_neg a, if_pos b] at h
      exact absurd h (hd _ _ _)
    · rw [if_neg a, if_neg b] at h
      obtain ⟨h1, h2⟩ := fin h
      exact Rat.ext (by omega) h2
theorem rt_eq (r s : Rat) : ((rt r).toList == (rt s).toList) = decide (r = s) := by
  unfold rt
  rw [sb_eq (by_rtb r) (by_rtb s)]
  exact decide_eq_decide.2 ⟨rtb_inj, fun e => by rw [e]⟩
theorem rt_nat (n : Nat) : rt (n : Rat) = txt n := by
  unfold rt rtb txt
  have h1 : ((n : Nat) : Rat).num = (n : Int) := rfl
  have h2 : ((n : Nat) : Rat).den = 1 := rfl
  rw [h1, h2, if_neg (by omega), if_pos rfl]
  simp
end Vm

/- Contracts of functions of Go's library, out of the shelf's. -/
namespace Vm
open Go Go.Proofs Go.Shelf
open Go.RowKit (Below)

theorem val_str {w : World} {I : Nat → Prop} {x : ByteArray} {v : Value} (h : ValRd w I .str x v) : v = .string x := by
  obtain ⟨h1, h2⟩ := h
  simp only [Ty.agg, Bool.false_eq_true, if_false] at h2
  rw [cells_cell1 h2] at h1
  simpa [Rd] using h1
theorem val_int {w : World} {I : Nat → Prop} {k : IntKind} {x : Int} {v : Value} (h : ValRd w I (.int k) x v) : v = .int k x := by
  obtain ⟨h1, h2⟩ := h
  simp only [Ty.agg, Bool.false_eq_true, if_false] at h2
  rw [cells_cell1 h2] at h1
  simpa [Rd] using h1
theorem val_slice {w : World} {I : Nat → Prop} {t : Ty} {x : List t.den} {v : Value} (h : ValRd w I (.slice t) x v) : ∃ A n c, v = .slice A n c ∧ SlRd w I t.sz (Rd w I t) A n c x := by
  obtain ⟨h1, h2⟩ := h
  simp only [Ty.agg, Bool.false_eq_true, if_false] at h2
  rw [cells_cell1 h2] at h1
  obtain ⟨A, n, c, e, h⟩ := h1
  exact ⟨A, n, c, by simpa using e, h⟩

section
variable {P : Program} {ρ : Ren}

/-- What a contract's run leaves, where the result is a value that leads nowhere. -/
theorem calls_imm {f : FuncId} {vs : Array Value} {w : World} {I : Nat → Prop} (hI : ∀ b, I b → b < w.heap.size) {t : Ty} {x : t.den} {y : Value} (hd : ∀ w', ValRd w' I t x y) (h : Calls P f vs w fun e w' => e = .returned y ∧ Below w.heap.size w w') :
    Calls P f vs w fun
      | .returned v, w' => Grow w w' ∧ ∃ I' ys bs, v = packed ys ∧ bs.Nodup ∧ (∀ b, I b → I' b) ∧ (∀ b, I' b → b < w'.heap.size ∧ (I b ∨ w.heap.size ≤ b)) ∧ ResAll w w' I' [.imm t] x ys bs
      | _, _ => False := by
  refine h.mono fun e w' ⟨he, hw⟩ => ?_
  subst he
  exact ⟨⟨hw.os, hw.tape, hw.output, hw.size, hw.block⟩, I, [y], [], rfl, List.nodup_nil, fun _ h => h, fun b hb => ⟨Nat.lt_of_lt_of_le (hI b hb) hw.size, .inl hb⟩, y, rfl, rfl, hd w'⟩

theorem valrd_int {w : World} {I : Nat → Prop} {k : IntKind} {n : Int} : ValRd w I (.int k) n (.int k n) := ⟨rfl, rfl⟩
theorem valrd_str {w : World} {I : Nat → Prop} {s : ByteArray} : ValRd w I .str s (.string s) := ⟨rfl, rfl⟩

/-- strings.IndexByte. -/
def stdIndexByte (s : ByteArray) (c : Int) : Option Int := some (Lib.indexByte s.data.toList c.toNat.toUInt8)
def sIndexByte : Spec := { ps := [.str, .int .u8], rs := [.imm (.int .i64)], f := fun x => stdIndexByte x.1 x.2 }
theorem indexByte_holds (L : Lays.n137 P ρ) : Spec.holds P (ρ.f 137) sIndexByte := by
  intro w I vs x r hI ⟨v, _, hv, h1, v2, e2, h2⟩ hf
  obtain rfl := val_str h1
  obtain rfl := val_int h2
  cases hf
  rw [e2] at hv
  obtain rfl : vs = #[.string x.1, .int .u8 x.2] := by rw [← Array.toArray_toList (xs := vs), hv]
  exact calls_imm hI (fun _ => valrd_int) ((Any.strings_IndexByte L x.1 x.2 w).mono fun e w' ⟨he, hw⟩ => ⟨he, hw ▸ Below.refl _ _⟩)

theorem one_byte {s : ByteArray} (h : s.size = 1) : s = ⟨#[s[0]!]⟩ := by
  obtain ⟨⟨l⟩⟩ := s
  match l, h with
  | [c], _ => rfl

/-- strings.Count of one byte. -/
def stdCount (s t : ByteArray) : Option Int := if t.size = 1 then some ((Lib.countByte s.data.toList t[0]! : Nat) : Int) else none
def sCount : Spec := { ps := [.str, .str], rs := [.imm (.int .i64)], f := fun x => stdCount x.1 x.2 }
theorem count_holds (L : Lays.n138 P ρ) : Spec.holds P (ρ.f 138) sCount := by
  intro w I vs x r hI ⟨v, _, hv, h1, v2, e2, h2⟩ hf
  obtain rfl := val_str h1
  obtain rfl := val_str h2
  have hf : (if x.2.size = 1 then some ((Lib.countByte x.1.data.toList x.2[0]! : Nat) : Int) else none) = some r := hf
  split at hf
  · rename_i h1
    cases hf
    rw [e2] at hv
    obtain rfl : vs = #[.string x.1, .string x.2] := by rw [← Array.toArray_toList (xs := vs), hv]
    have c := Any.strings_Count_one L x.1 x.2[0]! w
    rw [← one_byte h1] at c
    exact calls_imm hI (fun _ => valrd_int) (c.mono fun e w' ⟨he, hw⟩ => ⟨he, hw ▸ Below.refl _ _⟩)
  · cases hf

/-- strings.Index of one byte. -/
def stdIndex (s t : ByteArray) : Option Int := if t.size = 1 then some (Lib.indexByte s.data.toList t[0]!) else none
def sIndex : Spec := { ps := [.str, .str], rs := [.imm (.int .i64)], f := fun x => stdIndex x.1 x.2 }
theorem index_holds (L : Lays.n143 P ρ) : Spec.holds P (ρ.f 143) sIndex := by
  intro w I vs x r hI ⟨v, _, hv, h1, v2, e2, h2⟩ hf
  obtain rfl := val_str h1
  obtain rfl := val_str h2
  have hf : (if x.2.size = 1 then some (Lib.indexByte x.1.data.toList x.2[0]!) else none) = some r := hf
  split at hf
  · rename_i h1
    cases hf
    rw [e2] at hv
    obtain rfl : vs = #[.string x.1, .string x.2] := by rw [← Array.toArray_toList (xs := vs), hv]
    have c := Any.strings_Index_one L x.1 x.2[0]! w
    rw [← one_byte h1] at c
    exact calls_imm hI (fun _ => valrd_int) (c.mono fun e w' ⟨he, hw⟩ => ⟨he, hw ▸ Below.refl _ _⟩)
  · cases hf

/-- internal/stringslite.Index of one byte. -/
theorem index2_holds (L : Lays.n219 P ρ) : Spec.holds P (ρ.f 219) sIndex := by
  intro w I vs x r hI ⟨v, _, hv, h1, v2, e2, h2⟩ hf
  obtain rfl := val_str h1
  obtain rfl := val_str h2
  have hf : (if x.2.size = 1 then some (Lib.indexByte x.1.data.toList x.2[0]!) else none) = some r := hf
  split at hf
  · rename_i h1
    cases hf
    rw [e2] at hv
    obtain rfl : vs = #[.string x.1, .string x.2] := by rw [← Array.toArray_toList (xs := vs), hv]
    have c := Any.stringslite_Index_one L x.1 x.2[0]! w
    rw [← one_byte h1] at c
    exact calls_imm hI (fun _ => valrd_int) (c.mono fun e w' ⟨he, hw⟩ => ⟨he, hw ▸ Below.refl _ _⟩)
  · cases hf

/-- strings.Join. -/
def stdJoin (l : List ByteArray) (t : ByteArray) : Option ByteArray := if l.length ≤ 140737488355328 ∧ (Lib.join (l.map (·.data.toList)) t.data.toList).length ≤ 140737488355328 then some ⟨(Lib.join (l.map (·.data.toList)) t.data.toList).toArray⟩ else none
def sJoin : Spec := { ps := [.slice .str, .str], rs := [.imm .str], f := fun x => stdJoin x.1 x.2 }
theorem join_holds (L : Lays.n156 P ρ) (X : Builder.Extra P ρ) : Spec.holds P (ρ.f 156) sJoin := by
  intro w I vs x r hI ⟨v, _, hv, h1, v2, e2, h2⟩ hf
  obtain ⟨A, n, c, rfl, hs⟩ := val_slice h1
  obtain rfl := val_str h2
  obtain ⟨xs, sep⟩ := x
  have hf : (if xs.length ≤ 140737488355328 ∧ (Lib.join (xs.map (·.data.toList)) sep.data.toList).length ≤ 140737488355328 then some (⟨(Lib.join (xs.map (·.data.toList)) sep.data.toList).toArray⟩ : ByteArray) else none) = some r := hf
  rw [e2] at hv
  obtain rfl : vs = #[.slice A n c, .string sep] := by rw [← Array.toArray_toList (xs := vs), hv]
  split at hf
  · rename_i hb
    cases hf
    have none : xs = [] → n = 0 → Calls P (ρ.f 156) #[.slice A n c, .string sep] w fun e w' => e = .returned (.string ⟨(Lib.join (xs.map (·.data.toList)) sep.data.toList).toArray⟩) ∧ Below w.heap.size w w' := by
      rintro rfl rfl
      exact (Any.strings_Join_none L X A c sep w).mono fun e w' ⟨he, hw⟩ => ⟨he, hw ▸ Below.refl _ _⟩
    obtain ⟨hn, hs⟩ := hs
    have hn : n = xs.length := hn
    refine calls_imm hI (fun _ => valrd_str) ?_
    cases A with
    | none =>
      have h0 : xs = [] := hs.1
      exact none h0 (by rw [hn, h0]; rfl)
    | some a =>
      obtain ⟨hnc, hs⟩ := hs
      rcases hs with h0 | ⟨hsp, hIb, C, E, fz, hh, hsz, hr⟩
      · have : n = 0 := by omega
        exact none (List.length_eq_zero_iff.1 (by omega)) this
      · obtain ⟨bk, o, sp⟩ := a
        simp only at hsp hIb hh hsz hr
        subst hsp
        subst hn
        refine Any.strings_Join L X bk o c xs sep w (fun j y hy => ?_) (hI bk hIb) hb.1 hnc hb.2
        have hy2 : ((C.toList.drop (o + j * 1)).take 1) = [.string y] := hr j y hy
        rw [Nat.mul_one] at hy2
        have h0 : ((C.toList.drop (o + j)).take 1)[0]? = some (.string y) := by rw [hy2]; rfl
        simp only [World.cell?, hh]
        simpa using h0
  · cases hf

end
end Vm
