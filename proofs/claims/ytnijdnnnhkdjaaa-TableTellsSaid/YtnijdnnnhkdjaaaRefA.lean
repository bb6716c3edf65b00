/- The document's lists of pairs in memory, and the contracts of the reference's find, Get and Next. -/
import Derived.Test.YtnijdnnnhkdjaaaKeyB
import Derived.Laws.AppendOwnNone
namespace Go.Proofs.Ytnijdnnnhkdjaaa
set_option linter.unusedSimpArgs false
set_option linter.unusedVariables false
open Go Go.RowKit Go.MapKept

def encP (x : V) : List Value := [.string x.2.1, .string x.2.2]
/-- A slice of pairs. -/
def Sp (w : World) (base : Nat) (v : Value) (l : List V) : Prop := w.ownsRow base 58 2 v l.length (l.flatMap encP)

theorem flat2 (l : List V) (i j : Nat) (hj : j < 2) : (l.flatMap encP)[i * 2 + j]? = (l[i]?).bind fun c => (encP c)[j]? := by
  induction l generalizing i with
  | nil => simp
  | cons c r ih =>
    have hl : (encP c).length = 2 := by simp [encP]
    cases i with
    | zero => rw [List.flatMap_cons, List.getElem?_append_left (by omega)]; simp
    | succ i => rw [List.flatMap_cons, List.getElem?_append_right (by omega), hl, show (i + 1) * 2 + j - 2 = i * 2 + j by omega, ih]; simp
theorem length_flat2 (l : List V) : (l.flatMap encP).length = l.length * 2 := by
  induction l with
  | nil => rfl
  | cons c r ih => simp [List.flatMap_cons, ih, encP]; omega
theorem one_P (x : V) : ∀ u ∈ encP x, u.oneCell' = true := by
  intro u hu
  simp only [encP, List.mem_cons, List.not_mem_nil, or_false] at hu
  rcases hu with rfl | rfl <;> rfl
theorem one_Ps {l : List V} : ∀ u ∈ l.flatMap encP, u.oneCell' = true := by
  intro u hu
  obtain ⟨x, _, hx⟩ := List.mem_flatMap.1 hu
  exact one_P x u hx

theorem Sp.lt {w : World} {base : Nat} {v : Value} {l : List V} (h : Sp w base v l) : ∀ g, v.ownBlock = some g → base ≤ g ∧ g < w.heap.size := fun g hg => (World.ownsRow.lt h) g hg
theorem Sp.open {w : World} {base : Nat} {v : Value} {l : List V} (h : Sp w base v l) :
    ∃ p g cap, v = .slice p l.length cap ∧ (0 < l.length → p = some ⟨g, 0, none⟩ ∧ g < w.heap.size) ∧ (p = none ∧ l = [] ∧ cap = 0 ∨ p = some ⟨g, 0, none⟩ ∧ base ≤ g ∧ g < w.heap.size) ∧ l.length ≤ cap ∧ cap ≤ 9223372036854775807 ∧
      ∀ i x, l[i]? = some x → w.cell? ⟨g, i * 2, none⟩ = some (.string x.2.1) ∧ w.cell? ⟨g, i * 2 + 1, none⟩ = some (.string x.2.2) ∧
        w.frozen? ⟨g, i * 2, none⟩ = false ∧ w.frozen? ⟨g, i * 2 + 1, none⟩ = false := by
  rcases h.2 with ⟨h1, h2⟩ | ⟨g, cap, cur, h1, h2, h3, h4, h5, h6, h7⟩
  · have hl := List.length_eq_zero_iff.1 h2
    subst hl
    exact ⟨none, 0, 0, h1, by simp, .inl ⟨rfl, rfl, rfl⟩, by simp, by omega, by simp⟩
  · refine ⟨some ⟨g, 0, none⟩, g, cap, h1, fun _ => ⟨rfl, lt_of_blk h3⟩, .inr ⟨rfl, h2, lt_of_blk h3⟩, h4, by unfold maxLen at h5; omega, ?_⟩
    intro i x hx
    have hi : i < l.length := (List.getElem?_eq_some_iff.1 hx).1
    have k : ∀ j, j < 2 → w.cell? ⟨g, i * 2 + j, none⟩ = (encP x)[j]? := by
      intro j hj
      rw [cellAt h3]
      have e := flat2 l i j hj
      rw [← h7, List.getElem?_take, if_pos (by omega)] at e
      simp only [hx, Option.bind_some] at e
      simpa using e
    exact ⟨k 0 (by omega), k 1 (by omega), freeAt h3 _, freeAt h3 _⟩
theorem Sp.chg {S : List Nat} {w w' : World} {base : Nat} {v : Value} {l : List V} (h : Sp w base v l) (hc : Chg S w w') (hs : ∀ k, v.ownBlock = some k → k ∉ S) : Sp w' base v l := by
  refine ⟨h.1, ?_⟩
  rcases h.2 with h1 | ⟨g, cap, cur, h1, h2, h3, h4⟩
  · exact .inl h1
  · exact .inr ⟨g, cap, cur, h1, h2, hc.at h3 (hs g (by simp [h1, Value.ownBlock])), h4⟩
theorem Sp.chg0 {w w' : World} {base : Nat} {v : Value} {l : List V} (h : Sp w base v l) (hc : Chg [] w w') : Sp w' base v l := h.chg hc (by simp)
theorem Sp.lenRun {w : World} {base : Nat} {v : Value} {l : List V} (hs : Sp w base v l) : ∀ ty w', (Builtin.len_ #[44] ty #[v]).run Try.prog w' = .ok (.int .i64 l.length) w' := by
  intro ty w'
  obtain ⟨p, g, cap, rfl, _⟩ := hs.open
  simp [Builtin.len_, run_underlying Try.underlying44, goInt, Result.andThen]

theorem Sp.mono {w : World} {B C : Nat} {v : Value} {l : List V} (h : Sp w B v l) (hBC : C ≤ B) : Sp w C v l := by
  refine ⟨h.1, ?_⟩
  rcases h.2 with h1 | ⟨g, cap, cur, h1, h2, h3⟩
  · exact .inl h1
  · exact .inr ⟨g, cap, cur, h1, by omega, h3⟩
theorem info_P : (Try.prog.info? 58).map (fun i => (i.zero, i.size, i.bytes)) = some (some (.agg #[.string .empty, .string .empty]), 2, 32) := by kernel_rfl

theorem Sp.cellsAdd {w : World} {B g n cap : Nat} {l : List V} (h : Sp w B (.slice (some ⟨g, 0, none⟩) n cap) l) : ∀ j u, (l.flatMap encP)[j]? = some u → w.cell? ((⟨g, 0, none⟩ : Addr).add j) = some u := by
  rcases h.2 with ⟨hv, _⟩ | ⟨g', cap', cur, hv, h2, h3, h4, h5, h6, h7⟩
  · simp at hv
  · simp only [Value.slice.injEq, Option.some.injEq, Addr.mk.injEq] at hv
    obtain ⟨⟨rfl, _⟩, _, rfl⟩ := hv
    exact cells_from_row (cs := l.flatMap encP) (o := 0) (cur := cur.toList) (by simpa using h3) (by rw [List.drop_zero, length_flat2]; exact h7)
/-- 'append(nil, l...)'. -/
theorem wp_copyP {w : World} {B : Nat} {v : Value} {l : List V} {ops : Array Oper} {rest : List Oper} {o : Oper} {a : Act} {Q : Exit → Act → World → Prop} (hgd : o.guard = none) (s x : Operand)
    (ho : o.op = .call { callee := .builtin .append, args := #[s, x], argTypes := #[44, 44] }) (hs : a.eval s = .slice none 0 0) (hx : a.eval x = v) (h : Sp w B v l) (hl : l.length ≤ 200)
    (hK : ∀ v1 w1, Sp w1 w.heap.size v1 l → Chg [] w w1 → wpList Try.prog ops Q rest (a.put o.dst v1) w1) : wpList Try.prog ops Q (o :: rest) a w := by
  obtain ⟨i0, hi0, hz0, hz1, hz2⟩ := info_parts info_P
  obtain ⟨p, g, cap, rfl, hp, hp2, hcap, hmax, hcell⟩ := h.open
  rcases hp2 with ⟨rfl, rfl, rfl⟩ | ⟨rfl, _, _⟩
  · exact wpList_append_own_none hgd s x 44 ho w.heap.size 58 i0 2 Try.underlying44 hi0 (.slice none 0 0) 0 [] hs (World.ownsRow_nil _ _ _ _) hx (hK _ _ (World.ownsRow_nil _ _ _ _) (Chg.refl _ _))
  · refine wpList_append_own _ hgd s x 44 ho w.heap.size 58 i0 _ 2 32 Try.underlying44 hi0 hz0 hz1 hz2 rfl (by decide) (.slice none 0 0) 0 [] hs (World.ownsRow_nil _ _ _ _) ⟨g, 0, none⟩ l.length cap (l.flatMap encP) hx (length_flat2 l) h.cellsAdd one_Ps (by unfold maxLen; omega) (by omega) (Nat.le_refl _) ?_
    intro v1 w1 hown1 hgrow1 _
    exact hK _ _ (by unfold Sp; simpa using hown1) ((Chg.refl [] w).grown hgrow1 (by simp [Value.ownBlock]))
/-- 'append(out, x)'. -/
theorem wp_appP {w : World} {B : Nat} {v : Value} {l : List V} {x : V} {ops : Array Oper} {rest : List Oper} {o : Oper} {a : Act} {Q : Exit → Act → World → Prop} (hgd : o.guard = none) (s y : Operand)
    (ho : o.op = .call { callee := .builtin .append, args := #[s, y], argTypes := #[44, 44] }) (hs : a.eval s = v) (g : Nat) (hy : a.eval y = .slice (some ⟨g, 0, none⟩) 1 1) (hg : w.heap[g]? = some (.cells #[.string x.2.1, .string x.2.2] 58 (0, 0))) (h : Sp w B v l) (hl : l.length ≤ 200) (hB : B ≤ w.heap.size)
    (hK : ∀ v1 w1, Sp w1 B v1 (l ++ [x]) → Chg v.ownBlock.toList w w1 → v1 ≠ .slice none 0 0 → wpList Try.prog ops Q rest (a.put o.dst v1) w1) : wpList Try.prog ops Q (o :: rest) a w := by
  obtain ⟨i0, hi0, hz0, hz1, hz2⟩ := info_parts info_P
  have hnew : ∀ j u, (encP x)[j]? = some u → w.cell? ((⟨g, 0, none⟩ : Addr).add j) = some u :=
    fun j u hu => by have := cells_from_row (cs := encP x) (o := 0) (cur := encP x) (show w.heap[g]? = some (.cells (encP x).toArray 58 (0, 0)) from hg) (by simp); exact this j u hu
  refine wpList_append_own _ hgd s y 44 ho B 58 i0 _ 2 32 Try.underlying44 hi0 hz0 hz1 hz2 rfl (by decide) v l.length (l.flatMap encP) hs h ⟨g, 0, none⟩ 1 1 (encP x) hy rfl hnew (one_P _) (by unfold maxLen; omega) (by omega) hB ?_
  intro v1 w1 hown1 hgrow1 hnn
  refine hK _ _ ?_ ((Chg.refl _ w).grown hgrow1 (fun k hk => .inl (by simp [hk]))) (fun e => by have := (hnn.1 e).2; omega)
  unfold Sp; rw [List.length_append, List.flatMap_append]; simpa using hown1

theorem bytes_inj {a b : ByteArray} (h : a.toList = b.toList) : a = b := by
  rw [ByteArray.toList_eq, ByteArray.toList_eq] at h
  exact ByteArray.ext (Array.toList_inj.1 h)
/-- A key that is there stands at its place alone. -/
theorem pos_unique {l : List V} (h : Rising l) (key : ByteArray) (a : Nat) (x : V) (hx : l[a]? = some x) (hk : x.2.1 = key) : posOf l key = a ∧ hasKey l key = true := by
  have hal := (List.getElem?_eq_some_iff.1 hx).1
  have h1 : ¬ a < posOf l key := fun e => by
    have := (posOf_lt h key a x hx).1 e
    rw [hk, less_irrefl] at this; cases this
  have h2 : ¬ posOf l key < a := fun e => by
    have hy := List.getElem?_eq_getElem (show posOf l key < l.length by omega)
    have h3 := (List.pairwise_iff_getElem.1 h.2) (posOf l key) a (by omega) hal e
    have e2 : l[a] = x := by rw [List.getElem?_eq_getElem hal] at hx; simpa using hx
    rw [e2, hk] at h3
    have := (posOf_lt h key (posOf l key) _ hy).2 h3
    omega
  have h3 : posOf l key = a := by omega
  exact ⟨h3, (hasKey_iff key).2 ⟨x, by rw [h3]; exact hx, hk⟩⟩
theorem has_none {l : List V} (key : ByteArray) (h : ∀ (k : Nat) (x : V), l[k]? = some x → x.2.1 ≠ key) : hasKey l key = false := by
  cases hh : hasKey l key with
  | false => rfl
  | true =>
    obtain ⟨x, hx, hk⟩ := (hasKey_iff key).1 hh
    exact absurd hk (h _ x hx)
def findV (l : List V) (key : ByteArray) : Int := if hasKey l key then (posOf l key : Nat) else -1

set_option maxRecDepth 100000 in
set_option maxHeartbeats 800000 in
theorem rfind_any {w : World} {base : Nat} {v : Value} {l : List V} (h : Sp w base v l) (hr : Rising l) (key : ByteArray) :
    Calls Try.prog 34 #[v, .string key] w fun e w' => e = .returned (.int .i64 (findV l key)) ∧ w = w' := by
  obtain ⟨p, g, cap, rfl, hp, _, hcap, hmax, hcell⟩ := h.open
  have HC := Lib.hid hcell
  have HP := Lib.hid hp
  have HR := Lib.hid hr
  clear hcell hp h hr
  go_enter Try.func34, Try.ntmps34
  go_wp2
  go_loop [5] (fun i => ∃ a : Nat, a ≤ l.length ∧ i = .int .i64 a ∧ ∀ k, k < a → ∀ x, l[k]? = some x → x.2.1 ≠ key) (fun i => l.length - (intOf i).toNat)
  case atStart => exact ⟨0, by omega, rfl, by omega⟩
  case round =>
    obtain ⟨a, h1, rfl, hall⟩ := hrel
    have HA := Lib.hid hall
    clear hall
    by_cases hab : a < l.length
    · obtain ⟨x, hx⟩ : ∃ x, l[a]? = some x := ⟨l[a]'(by omega), List.getElem?_eq_getElem _⟩
      obtain ⟨rfl, hg⟩ := HP.out (by omega)
      obtain ⟨k0, k1, _, _⟩ := HC.out _ _ hx
      have HX := Lib.hid hx
      clear hx
      by_cases hk : x.2.1 = key
      · have hf : findV l key = a := by
          obtain ⟨h1, h2⟩ := pos_unique HR.out key a x HX.out hk
          unfold findV; rw [h2, if_pos rfl, h1]
        have HF := Lib.hid hf
        clear hf
        subst hk
        go_wp2
        go_ret
        exact ⟨ret_int HF.out.symm, rfl⟩
      · have hk2 : (x.2.1.toList == key.toList) = false := beq_eq_false_iff_ne.2 (fun e => hk (bytes_inj e))
        have HK := Lib.hid hk
        clear hk
        go_wp2
        go_round
        case rel =>
          refine ⟨a + 1, by omega, by go_num, ?_⟩
          intro k hka y hy
          by_cases e : k = a
          · subst e; rw [HX.out] at hy; cases hy; exact HK.out
          · exact HA.out k (by omega) y hy
        case measure => simp [intOf]; omega
    · obtain rfl : a = l.length := by omega
      have hf : findV l key = -1 := by
        have := has_none key (fun k x hx => HA.out k (List.getElem?_eq_some_iff.1 hx).1 x hx)
        unfold findV; rw [this]; rfl
      have HF := Lib.hid hf
      clear hf
      go_wp2
      go_ret
      exact ⟨ret_int HF.out.symm, rfl⟩

theorem ret_sb2 {a a' : ByteArray} {b : Value} (h1 : a = a') : Ending.returned (.tuple #[.string a, b]) = .returned (.tuple #[.string a', b]) := by rw [h1]

theorem has_cases (l : List V) (key : ByteArray) : (hasKey l key = true ∧ findV l key = (posOf l key : Nat) ∧ ∃ x, l[posOf l key]? = some x) ∨ (hasKey l key = false ∧ findV l key = -1) := by
  cases hh : hasKey l key with
  | false => right; exact ⟨rfl, by unfold findV; rw [hh]; rfl⟩
  | true =>
    left
    refine ⟨rfl, by unfold findV; rw [hh]; rfl, ?_⟩
    unfold hasKey hasAt at hh
    cases hx : l[posOf l key]? with
    | none => rw [hx] at hh; cases hh
    | some x => exact ⟨x, rfl⟩

set_option maxRecDepth 100000 in
set_option maxHeartbeats 800000 in
theorem rget_any {w : World} {base : Nat} {v : Value} {l : List V} (h : Sp w base v l) (hr : Rising l) (key : ByteArray) :
    Calls Try.prog 16 #[v, .string key] w fun e w' => e = .returned (.tuple #[.string (getVal l key), .bool (hasKey l key)]) ∧ w = w' := by
  have hF := fun w' (h' : Sp w' base v l) => rfind_any h' hr key
  obtain ⟨p, g, cap, rfl, hp, _, hcap, hmax, hcell⟩ := h.open
  have HC := Lib.hid hcell
  have HP := Lib.hid hp
  have H := Lib.hid h
  rcases has_cases l key with ⟨h1, h2, x, hx⟩ | ⟨h1, h2⟩
  · have hq : x.2.2 = getVal l key := by simp [getVal, h1, hx]
    have HQ := Lib.hid hq
    have hpl : posOf l key < l.length := (List.getElem?_eq_some_iff.1 hx).1
    obtain ⟨rfl, hg⟩ := hp (by omega)
    obtain ⟨k0, k1, _, _⟩ := hcell _ _ hx
    rw [h1]
    rw [h2] at hF
    have HF := Lib.hid hF
    clear hF hcell hp h hr h1 h2 hx hq
    generalize hpe : posOf l key = p at *
    clear hpe
    go_enter Try.func16, Try.ntmps16
    go_wp2_with (go_at_call 34; refine (HF.out _ H.out).mono ?_; rintro e w' ⟨rfl, rfl⟩)
    go_ret2
    exact ⟨ret_sb2 HQ.out, rfl⟩
  · have hq : ByteArray.empty = getVal l key := by simp [getVal, h1]
    have HQ := Lib.hid hq
    rw [h1]
    rw [h2] at hF
    have HF := Lib.hid hF
    clear hF hcell hp h hr h1 h2 hq
    go_enter Try.func16, Try.ntmps16
    go_wp2_with (go_at_call 34; refine (HF.out _ H.out).mono ?_; rintro e w' ⟨rfl, rfl⟩)
    go_ret2
    exact ⟨ret_sb2 HQ.out, rfl⟩

/-- The place of the next key, by what stands there. -/
theorem next_at {l : List V} (h : Rising l) (key : ByteArray) (a : Nat) (hlo : ∀ k, k < a → ∀ x, l[k]? = some x → Op.bytesLess key.toList x.2.1.toList = false) (hhi : ∀ x, l[a]? = some x → Op.bytesLess key.toList x.2.1.toList = true) (ha : a ≤ l.length) : nextAt l key = a := by
  have hp := posOf_le l key
  have key_lt : ∀ k x, l[k]? = some x → (Op.bytesLess key.toList x.2.1.toList = true ↔ nextAt l key ≤ k) := by
    intro k x hx
    unfold nextAt
    cases hh : hasKey l key with
    | false =>
      simp only [Bool.false_eq_true, if_false]
      constructor
      · intro hb
        refine Nat.le_of_not_lt fun e => ?_
        have := less_trans _ _ _ hb ((posOf_lt h key k x hx).1 e)
        rw [less_irrefl] at this; cases this
      · intro e; exact above_of_not h key hh k x hx e
    | true =>
      simp only [if_true]
      obtain ⟨y, hy, hyk⟩ := (hasKey_iff key).1 hh
      have hpl := (List.getElem?_eq_some_iff.1 hy).1
      have hkl := (List.getElem?_eq_some_iff.1 hx).1
      have ey : l[posOf l key] = y := by rw [List.getElem?_eq_getElem hpl] at hy; simpa using hy
      have ex : l[k] = x := by rw [List.getElem?_eq_getElem hkl] at hx; simpa using hx
      constructor
      · intro hb
        refine Nat.lt_of_not_le fun e => ?_
        rcases Nat.lt_or_eq_of_le e with e | e
        · have := less_trans _ _ _ hb ((posOf_lt h key k x hx).1 e)
          rw [less_irrefl] at this; cases this
        · subst e
          rw [ey] at ex; subst ex; rw [hyk, less_irrefl] at hb; cases hb
      · intro e
        have := (List.pairwise_iff_getElem.1 h.2) (posOf l key) k hpl hkl (by omega)
        rw [ey, ex, hyk] at this; exact this
  have hn : nextAt l key ≤ l.length := by
    unfold nextAt
    cases hh : hasKey l key with
    | false => simpa using hp
    | true =>
      obtain ⟨y, hy, _⟩ := (hasKey_iff key).1 hh
      have := (List.getElem?_eq_some_iff.1 hy).1
      simp; omega
  have h1 : ¬ nextAt l key < a := fun e => by
    have hx := List.getElem?_eq_getElem (show nextAt l key < l.length by omega)
    have := (key_lt _ _ hx).2 (Nat.le_refl _)
    rw [hlo _ e _ hx] at this; cases this
  have h2 : ¬ a < nextAt l key := fun e => by
    have hx := List.getElem?_eq_getElem (show a < l.length by omega)
    have := (key_lt _ _ hx).1 (hhi _ hx)
    omega
  omega

set_option maxRecDepth 100000 in
set_option maxHeartbeats 800000 in
theorem rnext_any {w : World} {base : Nat} {v : Value} {l : List V} (h : Sp w base v l) (hr : Rising l) (key : ByteArray) :
    Calls Try.prog 19 #[v, .string key] w fun e w' => e = .returned (.tuple #[.agg #[.string ((l[nextAt l key]?).getD MC.z.val).2.1, .string ((l[nextAt l key]?).getD MC.z.val).2.2], .bool (l[nextAt l key]?).isSome]) ∧ Chg [] w w' := by
  obtain ⟨p, g, cap, rfl, hp, _, hcap, hmax, hcell⟩ := h.open
  have HC := Lib.hid hcell
  have HP := Lib.hid hp
  have HR := Lib.hid hr
  clear hcell hp h hr
  go_enter Try.func19, Try.ntmps19
  go_wp2
  go_loop [6] (fun i => ∃ a : Nat, a ≤ l.length ∧ i = .int .i64 a ∧ ∀ k, k < a → ∀ x, l[k]? = some x → Op.bytesLess key.toList x.2.1.toList = false) (fun i => l.length - (intOf i).toNat)
  case atStart => exact ⟨0, by omega, rfl, by omega⟩
  case round =>
    obtain ⟨a, h1, rfl, hall⟩ := hrel
    have HA := Lib.hid hall
    clear hall
    by_cases hab : a < l.length
    · obtain ⟨x, hx⟩ : ∃ x, l[a]? = some x := ⟨l[a]'(by omega), List.getElem?_eq_getElem _⟩
      obtain ⟨rfl, hg⟩ := HP.out (by omega)
      obtain ⟨k0, k1, _, _⟩ := HC.out _ _ hx
      have HX := Lib.hid hx
      clear hx
      rcases less_total x.2.1.toList key.toList with hlt | heq | hbl
      · have hbl : Op.bytesLess key.toList x.2.1.toList = false := by
          cases hb : Op.bytesLess key.toList x.2.1.toList with
          | false => rfl
          | true => have := less_trans _ _ _ hlt hb; rw [less_irrefl] at this; cases this
        have HBL := Lib.hid hbl
        clear hbl
        go_wp2
        go_round
        case rel =>
          refine ⟨a + 1, by omega, by go_num, ?_⟩
          intro k hka y hy
          by_cases e : k = a
          · subst e; rw [HX.out] at hy; cases hy; exact HBL.out
          · exact HA.out k (by omega) y hy
        case measure => simp [intOf]; omega
      · have hbl : Op.bytesLess key.toList x.2.1.toList = false := by rw [heq]; exact less_irrefl _
        have HBL := Lib.hid hbl
        have hlt : (x.2.1.toList == key.toList) = true := beq_iff_eq.2 heq
        clear hbl heq
        go_wp2
        go_round
        case rel =>
          refine ⟨a + 1, by omega, by go_num, ?_⟩
          intro k hka y hy
          by_cases e : k = a
          · subst e; rw [HX.out] at hy; cases hy; exact HBL.out
          · exact HA.out k (by omega) y hy
        case measure => simp [intOf]; omega
      · have hl1 : Op.bytesLess x.2.1.toList key.toList = false := by
          cases hb : Op.bytesLess x.2.1.toList key.toList with
          | false => rfl
          | true => have := less_trans _ _ _ hbl hb; rw [less_irrefl] at this; cases this
        have hl2 : (x.2.1.toList == key.toList) = false := beq_eq_false_iff_ne.2 (fun e => by rw [e, less_irrefl] at hbl; cases hbl)
        have hf : l[nextAt l key]? = some x := by
          rw [next_at HR.out key a HA.out (fun y hy => by rw [HX.out] at hy; cases hy; exact hbl) (by omega)]; exact HX.out
        have HF := Lib.hid hf
        clear hf
        go_wp2
        refine bodyPost_ret (v := .tuple #[.agg #[.string x.2.1, .string x.2.2], .bool true]) (by simp [results, Try.results19, go_sem]) rfl ⟨by rw [HF.out]; rfl, ?_⟩
        repeat (first | exact Chg.refl _ _ | refine Chg.alloc ?_ _ | refine Chg.setCell ?_ _ _ (.inr (Nat.le_refl _)))
    · obtain rfl : a = l.length := by omega
      have hf : l[nextAt l key]? = none := by
        rw [next_at HR.out key l.length HA.out (fun y hy => by simp at hy) (by omega)]; simp
      have HF := Lib.hid hf
      clear hf
      go_wp2
      refine bodyPost_ret (v := .tuple #[.agg #[.string ByteArray.empty, .string ByteArray.empty], .bool false]) (by simp [results, Try.results19, go_sem]; try rfl) rfl ⟨by rw [HF.out]; rfl, ?_⟩
      repeat (first | exact Chg.refl _ _ | refine Chg.alloc ?_ _ | refine Chg.setCell ?_ _ _ (.inr (Nat.le_refl _)))
end Go.Proofs.Ytnijdnnnhkdjaaa
