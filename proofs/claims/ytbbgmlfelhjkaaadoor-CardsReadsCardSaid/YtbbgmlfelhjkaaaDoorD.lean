/- The plain law of CardsReads: texts of decks, split, read and written. -/
import Derived.Test.YtbbgmlfelhjkaaaDoorL
import Derived.Test.YtbbgmlfelhjkaaaDoorVmD
/- Splitting a text at blanks. -/
namespace Go.Proofs.YtbbgmlfelhjkaaaDoor
open Go Vm

def B (l : List UInt8) : ByteArray := ⟨l.toArray⟩
theorem B_data (l : List UInt8) : (B l).data.toList = l := by simp [B]
theorem B_size (l : List UInt8) : (B l).size = l.length := by simp [B, ByteArray.size]
theorem B_of (b : ByteArray) : b = B b.data.toList := by
  obtain ⟨a⟩ := b
  simp [B]
theorem B_extract (l : List UInt8) (i j : Nat) : (B l).extract i j = B ((l.take j).drop i) := by
  rw [B_of ((B l).extract i j), ByteArray.data_extract]
  congr 1
  simp [B, List.extract_eq_take_drop, List.drop_take]

/-- The pieces between blanks. -/
def sp : List UInt8 → List (List UInt8)
  | [] => [[]]
  | b :: l => if b = 32 then [] :: sp l else match sp l with
    | h :: t => (b :: h) :: t
    | [] => [[b]]
theorem sp_cons {p r : List UInt8} (h : (32 : UInt8) ∉ p) : sp (p ++ 32 :: r) = p :: sp r := by
  induction p with
  | nil => simp [sp]
  | cons b p ih =>
    have hb : b ≠ 32 := fun e => h (by rw [e]; exact List.mem_cons_self ..)
    have := ih fun hm => h (List.mem_cons_of_mem _ hm)
    simp only [List.cons_append, sp, if_neg hb, this]
theorem sp_one {p : List UInt8} (h : (32 : UInt8) ∉ p) : sp p = [p] := by
  induction p with
  | nil => rfl
  | cons b p ih =>
    have hb : b ≠ 32 := fun e => h (by rw [e]; exact List.mem_cons_self ..)
    simp only [sp, if_neg hb, ih fun hm => h (List.mem_cons_of_mem _ hm)]
theorem first_blank : ∀ (l : List UInt8), 0 < l.count 32 → ∃ p r, l = p ++ 32 :: r ∧ (32 : UInt8) ∉ p ∧ Lib.indexByte l 32 = (p.length : Int)
  | [], h => by simp at h
  | b :: l, h => by
    by_cases hb : b = 32
    · subst hb
      exact ⟨[], l, rfl, by simp, by simp [Lib.indexByte]⟩
    · have hc : 0 < l.count 32 := by
        rw [List.count_cons] at h
        have : (b == (32 : UInt8)) = false := by simpa using hb
        rw [this] at h; simpa using h
      obtain ⟨p, r, rfl, hp, hi⟩ := first_blank l hc
      refine ⟨b :: p, r, rfl, by simp [hp]; exact fun e => hb e.symm, ?_⟩
      have h1 : (b == (32 : UInt8)) = false := by simpa using hb
      have h2 : ((p.length : Int) == -1) = false := by simp
      simp only [Lib.indexByte, h1, Bool.false_eq_true, if_false, hi, h2]
      simp

theorem not_blank {l : List UInt8} (h : l.count 32 = 0) : (32 : UInt8) ∉ l := List.count_eq_zero.1 h

theorem index_ok (l : List UInt8) : Vm.stdIndex (B l) (⟨#[32]⟩ : ByteArray) = some (Lib.indexByte l 32) := by
  unfold Vm.stdIndex
  rw [if_pos (by decide), B_data]
  rfl
theorem count_ok (l : List UInt8) : Vm.stdCount (B l) (⟨#[32]⟩ : ByteArray) = some ((l.count 32 : Nat) : Int) := by
  unfold Vm.stdCount
  rw [if_pos (by decide), B_data]
  rfl

theorem l19_all : ∀ (m : Nat) (l : List UInt8) (done rest : List ByteArray), l.length ≤ 10000 → done.length + l.count 32 ≤ 10000 → l.count 32 < m → rest.length = l.count 32 + 1 →
    ∃ s' : ByteArray, ∃ b' : List ByteArray, l30_19_11 m (B l) (⟨#[32]⟩ : ByteArray) 0 ((done.length + l.count 32 : Nat) : Int) (done.length : Int) (done ++ rest) = some (.exit (s', ((done.length + l.count 32 : Nat) : Int), b', ())) ∧
      b'.length = done.length + l.count 32 + 1 ∧ b'.set (done.length + l.count 32) s' = done ++ (sp l).map B
  | 0, l, done, rest, _, _, h, _ => by omega
  | m + 1, l, done, rest, hl, hd, hm, hr => by
    simp only [l30_19_11]
    by_cases hc : 0 < l.count 32
    · obtain ⟨p, r, e, hp, hi⟩ := first_blank l hc
      have hlen : l.length = p.length + r.length + 1 := by rw [e]; simp; omega
      have hcnt : l.count 32 = r.count 32 + 1 := by
        rw [e, List.count_append, List.count_cons_self, List.count_eq_zero.2 hp]; omega
      match rest, hr with
      | q :: rest, hr =>
        simp only [List.length_cons] at hr
        have e1 : (B l).extract 0 p.length = B p := by rw [B_extract, e]; simp
        have e2 : (B l).extract (p.length + 1) (B l).size = B r := by
          rw [B_extract, B_size, List.take_length, e]
          rw [List.drop_append, List.drop_of_length_le (Nat.le_succ _), List.nil_append, show p.length + 1 - p.length = 1 by omega]; rfl
        rw [if_pos (by simp; omega), index_ok, hi, Option.bind_some, if_neg (by simp), Int.add_zero, w64 (p.length : Int) (by omega) (by omega), B_size, if_pos (by omega), if_pos (by omega), if_pos (by omega), if_pos (by simp only [List.length_append, List.length_cons]; omega),
          show ((⟨#[32]⟩ : ByteArray).size : Int) = 1 from rfl, w64 _ (by omega) (by omega), if_pos (by omega), if_pos (by omega), Int.toNat_natCast, Int.toNat_natCast, show ((p.length : Int) + 1).toNat = p.length + 1 by omega, e1, ← B_size l, e2, w64 _ (by omega) (by omega),
          set_mid, show ((done.length : Int) + 1) = (((done ++ [B p]).length : Nat) : Int) by simp]
        obtain ⟨s', b', g1, g2, g3⟩ := l19_all m r (done ++ [B p]) rest (by omega) (by rw [List.length_append, List.length_singleton]; omega) (by omega) (by omega)
        have hn : done.length + l.count 32 = (done ++ [B p]).length + r.count 32 := by simp; omega
        refine ⟨s', b', ?_, by rw [g2, hn], ?_⟩
        · rw [hn, show done ++ B p :: rest = (done ++ [B p]) ++ rest by simp]
          exact g1
        · rw [hn, g3, e, sp_cons hp]
          simp
    · have h0 : l.count 32 = 0 := by omega
      rw [if_neg (by simp; omega)]
      match rest, hr with
      | [q], _ =>
        refine ⟨B l, done ++ [q], by rw [h0]; rfl, by simp [h0], ?_⟩
        rw [h0, Nat.add_zero, set_mid, sp_one (not_blank h0)]
        rfl
      | [], h => simp at h
      | _ :: _ :: _, h => simp at h; omega
theorem split_ok (l : List UInt8) (hl : l.length ≤ 9000) : f19 fuel (B l) (⟨#[32]⟩ : ByteArray) = some ((sp l).map B) := by
  have hF : 20000 ≤ fuel := fuel_ge (by decide)
  have hc : l.count 32 ≤ l.length := List.count_le_length
  have h1 : ((⟨#[32]⟩ : ByteArray).toList == (⟨#[]⟩ : ByteArray).toList) = false := by kernel_rfl
  have hn : (if IntKind.i64.wrap (((B l).size : Int) + 1) < IntKind.i64.wrap (((l.count 32 : Nat) : Int) + 1) then IntKind.i64.wrap (((B l).size : Int) + 1) else IntKind.i64.wrap (((l.count 32 : Nat) : Int) + 1)) = ((l.count 32 + 1 : Nat) : Int) := by
    rw [B_size, w64 _ (by omega) (by omega), w64 _ (by omega) (by omega), if_neg (by omega)]
    omega
  unfold f19
  rw [h1, if_neg (by simp), count_ok, Option.bind_some, hn, if_pos (by omega), if_pos (by omega), if_pos (by omega), Int.toNat_natCast, w64 _ (by omega) (by omega), show ((l.count 32 + 1 : Nat) : Int) - 1 = ((l.count 32 : Nat) : Int) by omega]
  obtain ⟨s', b', g1, g2, g3⟩ := l19_all fuel l [] (List.replicate (l.count 32 + 1) ByteArray.empty) (by omega) (by simp; omega) (by omega) (by simp)
  simp only [List.length_nil, Nat.zero_add, List.nil_append] at g1 g2 g3
  have g1 : l30_19_11 fuel (B l) (⟨#[32]⟩ : ByteArray) 0 ((l.count 32 : Nat) : Int) 0 (List.replicate (l.count 32 + 1) ByteArray.empty) = _ := g1
  rw [g1]
  simp only
  have c0 : (0 : Int) ≤ ((l.count 32 : Nat) : Int) := by omega
  have c1 : ((l.count 32 : Nat) : Int) < ((b'.length : Nat) : Int) := by omega
  have c2 : IntKind.i64.wrap (((l.count 32 : Nat) : Int) + 1) = ((l.count 32 + 1 : Nat) : Int) := by rw [w64 _ (by omega) (by omega)]; omega
  rw [if_pos (by exact c0), if_pos (by exact c1), c2, if_pos (by omega), Int.toNat_natCast, Int.toNat_natCast, List.length_set, if_pos (by omega), g3]
  rw [List.take_of_length_le]
  have := congrArg List.length g3
  rw [List.length_set] at this
  omega
end Go.Proofs.YtbbgmlfelhjkaaaDoor

/- Words of cards, and their texts. -/
namespace Go.Proofs.YtbbgmlfelhjkaaaDoor
open Go Vm

def R : List UInt8 := [50, 51, 52, 53, 54, 55, 56, 57, 84, 74, 81, 75, 65]
def S : List UInt8 := [67, 68, 72, 83]
/-- The two letters of a card. -/
def word (c : Nat) : List UInt8 := [R.getD (c % 13) 0, S.getD (c / 13) 0]
theorem B_append (a b : List UInt8) : B a ++ B b = B (a ++ b) := by
  rw [B_of (B a ++ B b)]
  simp [B]
theorem R_cut : ∀ r, r < 13 → (R.take (r + 1)).drop r = [R.getD r 0] := by decide
theorem S_cut : ∀ s, s < 4 → (S.take (s + 1)).drop s = [S.getD s 0] := by decide
theorem word_ok {c : Nat} (h : c < 52) : (B R).extract (c % 13) (c % 13 + 1) ++ (B S).extract (c / 13) (c / 13 + 1) = B (word c) := by
  rw [B_extract, B_extract, R_cut _ (Nat.mod_lt _ (by decide)), S_cut _ (by omega), B_append]
  rfl
theorem R_no : ∀ r, r < 13 → R.getD r 0 ≠ 32 := by decide
theorem S_no : ∀ s, s < 4 → S.getD s 0 ≠ 32 := by decide
theorem word_no {c : Nat} (h : c < 52) : (32 : UInt8) ∉ word c := by
  unfold word
  simp only [List.mem_cons, List.not_mem_nil, or_false, not_or]
  exact ⟨fun e => R_no _ (Nat.mod_lt _ (by decide)) e.symm, fun e => S_no _ (by omega) e.symm⟩

theorem sp_join : ∀ (ws : List (List UInt8)), ws ≠ [] → (∀ w, w ∈ ws → (32 : UInt8) ∉ w) → sp (Lib.join ws [32]) = ws
  | [], h, _ => absurd rfl h
  | [w], _, h => by
    rw [Lib.join_one]
    exact sp_one (h w (List.mem_cons_self ..))
  | w :: v :: ws, _, h => by
    have ih := sp_join (v :: ws) (by simp) fun x hx => h x (List.mem_cons_of_mem _ hx)
    have e : Lib.join (w :: v :: ws) [32] = w ++ 32 :: Lib.join (v :: ws) [32] := by simp [Lib.join]
    rw [e, sp_cons (h w (List.mem_cons_self ..)), ih]

theorem sp_ne (l : List UInt8) : sp l ≠ [] := by
  cases l with
  | nil => simp [sp]
  | cons b l =>
    simp only [sp]
    split
    · simp
    · split <;> simp
theorem join_sp : ∀ (l : List UInt8), Lib.join (sp l) [32] = l
  | [] => rfl
  | b :: l => by
    have ih := join_sp l
    have hne := sp_ne l
    simp only [sp]
    by_cases hb : b = 32
    · rw [if_pos hb]
      match hs : sp l, hne with
      | h :: t, _ =>
        rw [hs] at ih
        have e : Lib.join ([] :: h :: t) [32] = 32 :: Lib.join (h :: t) [32] := by simp [Lib.join]
        rw [e, ih, hb]
    · rw [if_neg hb]
      match hs : sp l, hne with
      | [h], _ =>
        rw [hs, Lib.join_one] at ih
        rw [Lib.join_one, ih]
      | h :: g :: t, _ =>
        rw [hs] at ih
        have e1 : Lib.join (h :: g :: t) [32] = h ++ 32 :: Lib.join (g :: t) [32] := by simp [Lib.join]
        have e2 : Lib.join ((b :: h) :: g :: t) [32] = b :: (h ++ 32 :: Lib.join (g :: t) [32]) := by simp [Lib.join]
        rw [e1] at ih
        rw [e2, ih]

/-! Text. -/
theorem f16_ok (c : Nat) : f16 fuel (c : Int) = some ((c % 13 : Nat) : Int) := by
  unfold f16
  rw [show ((c : Int).tmod 13) = ((c % 13 : Nat) : Int) from (Int.ofNat_tmod c 13).symm]
theorem f17_ok {c : Nat} (h : c < 52) : f17 fuel (c : Int) = some ((c / 13 : Nat) : Int) := by
  unfold f17
  rw [show ((c : Int).tdiv 13) = ((c / 13 : Nat) : Int) from (Int.ofNat_tdiv c 13).symm, w64 _ (by omega) (by omega)]

theorem l5_all {ks : List Nat} (hk : Deck ks) : ∀ (m i : Nat), i ≤ ks.length → ks.length < m + i →
    l5_6 m (zs ks) (ks.length : Int) (i : Int) ((ks.take i).map fun c => B (word c)) = some (.exit (ks.map fun c => B (word c), ()))
  | 0, i, h1, h2 => by omega
  | m + 1, i, h1, h2 => by
    simp only [l5_6]
    have h52 := hk.1
    by_cases hi : i < ks.length
    · have hc := hk.2.1 ks[i] (List.getElem_mem hi)
      have hr : ks[i] % 13 < 13 := Nat.mod_lt _ (by decide)
      have hs : ks[i] / 13 < 4 := by omega
      have hR : (⟨#[50, 51, 52, 53, 54, 55, 56, 57, 84, 74, 81, 75, 65]⟩ : ByteArray) = B R := rfl
      have hS : (⟨#[67, 68, 72, 83]⟩ : ByteArray) = B S := rfl
      have z1 : ((B R).size : Int) = 13 := rfl
      have z2 : ((B S).size : Int) = 4 := rfl
      have hsz : ((B R).extract (ks[i] % 13) (ks[i] % 13 + 1)).size + ((B S).extract (ks[i] / 13) (ks[i] / 13 + 1)).size ≤ 4611686018427387904 := by
        rw [B_extract, B_extract, R_cut _ hr, S_cut _ hs, B_size, B_size]
        simp
      have htk : (ks.take i).map (fun c => B (word c)) ++ [B (word ks[i])] = (ks.take (i + 1)).map fun c => B (word c) := by
        rw [List.take_succ_eq_append_getElem hi, List.map_append]; rfl
      rw [if_pos (by simpa using hi), if_pos (by omega), length_zs, if_pos (by omega), Int.toNat_natCast, getD_zs, getD_eq ks i 0 hi, f16_ok, Option.bind_some, Option.bind_some, f17_ok hc, Option.bind_some, Option.bind_some,
        w64 (((ks[i] % 13 : Nat) : Int) + 1) (by omega) (by omega), w64 (((ks[i] / 13 : Nat) : Int) + 1) (by omega) (by omega), hR, hS, z1, z2, if_pos (by omega), if_pos (by omega), if_pos (by omega), if_pos (by omega), if_pos (by omega), if_pos (by omega), if_pos (by omega), if_pos (by omega),
        Int.toNat_natCast, Int.toNat_natCast, show (((ks[i] % 13 : Nat) : Int) + 1).toNat = ks[i] % 13 + 1 by omega, show (((ks[i] / 13 : Nat) : Int) + 1).toNat = ks[i] / 13 + 1 by omega, if_pos hsz, word_ok hc, if_pos (by rw [List.length_map, List.length_take]; omega), htk,
        w64 _ (by omega) (by omega), show ((i : Int) + 1) = ((i + 1 : Nat) : Int) by omega]
      exact l5_all hk m (i + 1) (by omega) (by omega)
    · rw [if_neg (by simpa using hi), List.take_of_length_le (by omega)]

/-- A deck's text. -/
def text (ks : List Nat) : List UInt8 := Lib.join (ks.map word) [32]
theorem join_len : ∀ (ws : List (List UInt8)), (∀ w, w ∈ ws → w.length = 2) → (Lib.join ws [32]).length ≤ 3 * ws.length
  | [], _ => Nat.le_refl _
  | [w], h => by rw [Lib.join_one, h w (List.mem_cons_self ..), List.length_singleton]; decide
  | w :: v :: ws, h => by
    have ih := join_len (v :: ws) fun x hx => h x (List.mem_cons_of_mem _ hx)
    have e : Lib.join (w :: v :: ws) [32] = w ++ 32 :: Lib.join (v :: ws) [32] := by simp [Lib.join]
    have hw := h w (List.mem_cons_self ..)
    rw [e, List.length_append, List.length_cons, hw]
    simp only [List.length_cons] at ih ⊢
    omega
theorem text_len {ks : List Nat} (hk : Deck ks) : (text ks).length ≤ 156 := by
  have := join_len (ks.map word) fun w hw => by obtain ⟨c, _, rfl⟩ := List.mem_map.1 hw; rfl
  rw [List.length_map] at this
  have := hk.1
  unfold text
  omega

theorem text_ok {ks : List Nat} (hk : Deck ks) : f5 fuel (zs ks) = some (B (text ks), 0) := by
  have hF := fuel100
  have h52 := hk.1
  have h := l5_all hk fuel 0 (by omega) (by omega)
  rw [List.take_zero, List.map_nil] at h
  have h : l5_6 fuel (zs ks) (ks.length : Int) 0 [] = _ := h
  unfold f5
  rw [f14_ok hk, Option.bind_some, if_neg (by simp), length_zs, h]
  simp only
  have hm : (ks.map fun c => B (word c)).map (fun b => b.data.toList) = ks.map word := by
    rw [List.map_map]
    exact List.map_congr_left fun c _ => B_data _
  have hl := text_len hk
  unfold text at hl
  unfold Vm.stdJoin
  rw [hm, show (⟨#[32]⟩ : ByteArray).data.toList = [32] from rfl, if_pos ⟨by rw [List.length_map]; omega, by omega⟩, Option.bind_some]
  rfl
end Go.Proofs.YtbbgmlfelhjkaaaDoor

/- Reading a deck. -/
namespace Go.Proofs.YtbbgmlfelhjkaaaDoor
open Go Vm

/-- Where a letter stands. -/
theorem index_spec : ∀ (l : List UInt8) (x : UInt8), Lib.indexByte l x = -1 ∨ ∃ r : Nat, r < l.length ∧ l.getD r 0 = x ∧ Lib.indexByte l x = (r : Int)
  | [], x => .inl rfl
  | b :: l, x => by
    by_cases h : b = x
    · subst h
      exact .inr ⟨0, by simp, rfl, by simp [Lib.indexByte]⟩
    · have hb : (b == x) = false := by simpa using h
      rcases index_spec l x with e | ⟨r, h1, h2, e⟩
      · left
        simp [Lib.indexByte, hb, e]
      · refine .inr ⟨r + 1, by simp; omega, by simpa using h2, ?_⟩
        have h3 : ((r : Int) == -1) = false := by simp
        simp only [Lib.indexByte, hb, Bool.false_eq_true, if_false, e, h3]
        simp
theorem R_index : ∀ r, r < 13 → Lib.indexByte R (R.getD r 0) = (r : Int) := by decide
theorem S_index : ∀ s, s < 4 → Lib.indexByte S (S.getD s 0) = (s : Int) := by decide
end Go.Proofs.YtbbgmlfelhjkaaaDoor

/- Reading a deck: Read, and the law. -/
namespace Go.Proofs.YtbbgmlfelhjkaaaDoor
open Go Vm

theorem toList_B (l : List UInt8) : (B l).toList = l := by rw [ByteArray.toList_eq, B_data]
theorem toList_e : (⟨#[]⟩ : ByteArray).toList = [] := by rw [ByteArray.toList_eq]

theorem at_R (x : UInt8) : Vm.stdIndexByte (⟨#[50, 51, 52, 53, 54, 55, 56, 57, 84, 74, 81, 75, 65]⟩ : ByteArray) ((x.toNat : Int)) = some (Lib.indexByte R x) := by
  unfold Vm.stdIndexByte
  rw [Int.toNat_natCast, show x.toNat.toUInt8 = x from UInt8.ofNat_toNat]
  rfl
theorem at_S (x : UInt8) : Vm.stdIndexByte (⟨#[67, 68, 72, 83]⟩ : ByteArray) ((x.toNat : Int)) = some (Lib.indexByte S x) := by
  unfold Vm.stdIndexByte
  rw [Int.toNat_natCast, show x.toNat.toUInt8 = x from UInt8.ofNat_toNat]
  rfl

theorem word_inj : ∀ a, a < 52 → ∀ b, b < 52 → word a = word b → a = b := by decide
theorem words_inj : ∀ {a b : List Nat}, (∀ c, c ∈ a → c < 52) → (∀ c, c ∈ b → c < 52) → a.map word = b.map word → a = b
  | [], [], _, _, _ => rfl
  | [], _ :: _, _, _, h => by simp at h
  | _ :: _, [], _, _, h => by simp at h
  | x :: a, y :: b, ha, hb, h => by
    obtain ⟨h1, h2⟩ := List.cons.inj h
    rw [word_inj x (ha x (List.mem_cons_self ..)) y (hb y (List.mem_cons_self ..)) h1,
      words_inj (fun c hc => ha c (List.mem_cons_of_mem _ hc)) (fun c hc => hb c (List.mem_cons_of_mem _ hc)) h2]

theorem l6_all (ws : List (List UInt8)) (hl : ws.length ≤ 10000) : ∀ (m i : Nat) (ks : List Nat), i ≤ ws.length → ws.length < m + i → ks.map word = ws.take i → (∀ c, c ∈ ks → c < 52) →
    (∃ ks' : List Nat, l6_7 m (ws.length : Int) (i : Int) (zs ks) (ws.map B) = some (.exit (zs ks', ws.map B, ())) ∧ ks'.map word = ws ∧ ∀ c, c ∈ ks' → c < 52) ∨
    (l6_7 m (ws.length : Int) (i : Int) (zs ks) (ws.map B) = some (.ret (5, ws.map B, ())) ∧ ∃ w, w ∈ ws ∧ ∀ c, c < 52 → w ≠ word c)
  | 0, i, ks, h1, h2, _, _ => by omega
  | m + 1, i, ks, h1, h2, hk, h52 => by
    simp only [l6_7]
    by_cases hi : i < ws.length
    · have hg : (ws.map B).getD i ByteArray.empty = B ws[i] := by
        rw [getD_eq (ws.map B) i _ (by rw [List.length_map]; exact hi), List.getElem_map]
      have hmem : ws[i] ∈ ws := List.getElem_mem hi
      rw [if_pos (by simpa using hi), if_pos (by omega), if_pos (by rw [List.length_map]; omega), Int.toNat_natCast, hg, B_size]
      by_cases h2w : ws[i].length = 2
      · rw [if_pos (by rw [h2w]; rfl), if_pos (by omega)]
        obtain ⟨x, y, hxy⟩ : ∃ x y, ws[i] = [x, y] := by
          match hw : ws[i], h2w with
          | [x, y], _ => exact ⟨x, y, rfl⟩
        have hx : (B ws[i]).data.getD 0 0 = x := by rw [hxy]; rfl
        have hy : (B ws[i]).data.getD 1 0 = y := by rw [hxy]; rfl
        rw [hx, hy, at_R, at_S, Option.bind_some]
        rcases index_spec R x with e | ⟨r, hr, hrx, e⟩
        · rw [e, if_neg (by simp)]
          refine .inr ⟨rfl, _, hmem, fun c hc h => ?_⟩
          rw [hxy] at h
          have : x = R.getD (c % 13) 0 := (List.cons.inj h).1
          rw [this, R_index _ (Nat.mod_lt _ (by decide))] at e
          omega
        · have hr : r < 13 := hr
          rw [e, if_pos (by simp), if_pos (by omega), Option.bind_some]
          rcases index_spec S y with e' | ⟨s, hs, hsy, e'⟩
          · rw [e', if_pos (by simp)]
            refine .inr ⟨rfl, _, hmem, fun c hc h => ?_⟩
            rw [hxy] at h
            have : y = S.getD (c / 13) 0 := (List.cons.inj (List.cons.inj h).2).1
            rw [this, S_index _ (by omega)] at e'
            omega
          · have hs : s < 4 := hs
            have hlen : ks.length = i := by
              have := congrArg List.length hk
              rw [List.length_map, List.length_take] at this
              omega
            have hz : zs ks ++ [((s * 13 + r : Nat) : Int)] = zs (ks ++ [s * 13 + r]) := by simp [zs]
            have hw : word (s * 13 + r) = ws[i] := by
              unfold word
              rw [show (s * 13 + r) % 13 = r by omega, show (s * 13 + r) / 13 = s by omega, hrx, hsy, hxy]
            have ih := l6_all ws hl m (i + 1) (ks ++ [s * 13 + r]) (by omega) (by omega)
              (by rw [List.map_append, hk, List.map_singleton, hw, List.take_succ_eq_append_getElem hi])
              (fun c hc => by
                rcases List.mem_append.1 hc with hc | hc
                · exact h52 c hc
                · rw [List.mem_singleton.1 hc]; omega)
            rw [e', if_neg (by simp), if_pos (by omega), if_pos (by omega), Option.bind_some, Option.bind_some, if_pos (by rw [length_zs]; omega),
              w64 ((s : Int) * 13) (by omega) (by omega), w64 ((s : Int) * 13 + r) (by omega) (by omega), w64 ((i : Int) + 1) (by omega) (by omega), show ((s : Int) * 13 + r) = ((s * 13 + r : Nat) : Int) by omega, hz, show ((i : Int) + 1) = ((i + 1 : Nat) : Int) by omega]
            exact ih
      · rw [if_neg (by simp; omega)]
        exact .inr ⟨rfl, _, hmem, fun c hc h => h2w (by rw [h]; rfl)⟩
    · rw [if_neg (by simpa using hi)]
      rw [List.take_of_length_le (by omega)] at hk
      exact .inl ⟨ks, rfl, hk, h52⟩

theorem sp_len : ∀ l : List UInt8, (sp l).length = l.count 32 + 1
  | [] => rfl
  | b :: l => by
    have ih := sp_len l
    have hne := sp_ne l
    simp only [sp]
    by_cases hb : b = 32
    · rw [if_pos hb, hb]; simp [ih]
    · rw [if_neg hb]
      match hs : sp l, hne with
      | h :: t, _ =>
        rw [hs] at ih
        rw [List.count_cons_of_ne hb]
        simpa using ih

/-- Read: an error and nothing, or a deck whose text it was. -/
theorem f6_spec (l : List UInt8) : (∃ e : Int, e ≠ 0 ∧ f6 fuel (B l) = some ([], e)) ∨ ∃ ks, Deck ks ∧ l = text ks ∧ f6 fuel (B l) = some (zs ks, 0) := by
  unfold f6
  rw [B_size, toList_B, toList_e]
  by_cases hl : l.length ≤ 8192
  · rw [if_neg (by simp; omega)]
    by_cases h0 : l = []
    · subst h0
      exact .inr ⟨[], ⟨by decide, by simp, List.nodup_nil⟩, rfl, by rw [if_pos (by rfl)]; rfl⟩
    · rw [if_neg (by simpa using h0), split_ok l (by omega), Option.bind_some]
      have hc : l.count 32 ≤ l.length := List.count_le_length
      have hsl := sp_len l
      have hF : 20000 ≤ fuel := fuel_ge (by decide)
      rw [List.length_map]
      rcases l6_all (sp l) (by omega) fuel 0 [] (by omega) (by omega) rfl (by simp) with ⟨ks, h, hw, h52⟩ | ⟨h, _⟩
      · have h : l6_7 fuel ((sp l).length : Int) 0 [] ((sp l).map B) = _ := h
        rw [h]
        simp only
        rcases f14_spec (zs ks) with ⟨e, he, h⟩ | ⟨h, ks', hz, hd⟩
        · rw [h, Option.bind_some, if_pos (by simpa using he)]
          exact .inl ⟨e, he, rfl⟩
        · rw [h, Option.bind_some, if_neg (by simp)]
          have := zs_inj hz
          subst this
          refine .inr ⟨ks, hd, ?_, rfl⟩
          unfold text
          rw [hw, join_sp]
      · have h : l6_7 fuel ((sp l).length : Int) 0 [] ((sp l).map B) = _ := h
        rw [h]
        exact .inl ⟨5, by decide, rfl⟩
  · rw [if_pos (by simp; omega)]
    exact .inl ⟨2, by decide, rfl⟩

theorem f6_ok {ks : List Nat} (hk : Deck ks) : f6 fuel (B (text ks)) = some (zs ks, 0) := by
  have htl := text_len hk
  unfold f6
  rw [B_size, toList_B, toList_e, if_neg (by simp; omega)]
  by_cases h0 : ks = []
  · subst h0
    rw [if_pos (by rfl)]
    rfl
  · have hne : ks.map word ≠ [] := by simpa using h0
    have hsp : sp (text ks) = ks.map word := sp_join _ hne fun w hw => by
      obtain ⟨c, hc, rfl⟩ := List.mem_map.1 hw
      exact word_no (hk.2.1 c hc)
    have ht : text ks ≠ [] := fun e => by
      rw [e] at hsp
      match ks, h0 with
      | c :: ks, _ =>
        have := (List.cons.inj hsp).1
        exact absurd this (by simp [word])
    have hF : 20000 ≤ fuel := fuel_ge (by decide)
    have h52 := hk.1
    rw [if_neg (by simpa using ht), split_ok _ (by omega), Option.bind_some, hsp, List.length_map]
    rcases l6_all (ks.map word) (by rw [List.length_map]; omega) fuel 0 [] (by omega) (by rw [List.length_map]; omega) rfl (by simp) with ⟨ks', h, hw, h5⟩ | ⟨_, w, hw, hn⟩
    · have h : l6_7 fuel ((ks.map word).length : Int) 0 [] ((ks.map word).map B) = _ := h
      rw [h]
      have := words_inj h5 hk.2.1 hw
      subst this
      simp only
      rw [f14_ok hk, Option.bind_some, if_neg (by simp)]
    · obtain ⟨c, hc, rfl⟩ := List.mem_map.1 hw
      exact absurd rfl (hn c (hk.2.1 c hc))

theorem f5_spec (l : List Int) : (∃ e : Int, e ≠ 0 ∧ f5 fuel l = some (⟨#[]⟩, e)) ∨ ∃ ks, Deck ks ∧ l = zs ks := by
  rcases f14_spec l with ⟨e, he, h⟩ | ⟨_, ks, hz, hd⟩
  · left
    refine ⟨e, he, ?_⟩
    unfold f5
    rw [h, Option.bind_some, if_pos (by simpa using he)]
  · exact .inr ⟨ks, hd, hz⟩

theorem reads_true (l : List Int) (s : ByteArray) : f3 fuel l s = some true := by
  have key : ((f6 fuel s).bind fun r5 => if (r5.2 != 0) = true then some ((r5.1.length : Int) == 0) else
      (f5 fuel r5.1).bind fun r6 => if (r6.2 == 0) = true then some ((r6.1.toList == s.toList)) else some false) = some true := by
    rw [B_of s]
    generalize s.data.toList = t
    rcases f6_spec t with ⟨e, he, h⟩ | ⟨ks, hd, ht, h⟩
    · rw [h, Option.bind_some, if_pos (by simpa using he)]
      rfl
    · rw [h, Option.bind_some, if_neg (by simp)]
      simp only
      rw [text_ok hd, Option.bind_some, if_pos (by simp), ht]
      simp
  unfold f3
  rw [f4_true, Option.bind_some, if_neg (by simp)]
  rcases f5_spec l with ⟨e, he, h⟩ | ⟨ks, hd, rfl⟩
  · rw [h, Option.bind_some, if_neg (by simpa using he)]
    exact key
  · have h52 := hd.1
    rw [text_ok hd, Option.bind_some, if_pos (by simp)]
    simp only
    rw [f6_ok hd, Option.bind_some, if_pos (by simp)]
    simp only
    rw [f7_ok _ _ (by rw [length_zs]; omega), Option.bind_some, if_neg (by simp)]
    exact key
theorem cardsReads_plain : ∀ x : List Int × ByteArray, WfL [.slice (.int .i64), .str] x → f3 fuel x.1 x.2 = some true := fun x _ => reads_true x.1 x.2
end Go.Proofs.YtbbgmlfelhjkaaaDoor
