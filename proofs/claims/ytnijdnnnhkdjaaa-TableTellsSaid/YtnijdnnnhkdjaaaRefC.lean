/- The contract of the reference's Remove. -/
import Derived.Test.YtnijdnnnhkdjaaaRefA
namespace Go.Proofs.Ytnijdnnnhkdjaaa
set_option linter.unusedSimpArgs false
set_option linter.unusedVariables false
open Go Go.RowKit Go.MapKept

/-- The list behind a removal. -/
def remL (l : List V) (key : ByteArray) : List V := if hasKey l key then l.eraseIdx (posOf l key) else l
/-- The list without a key. -/
def without (l : List V) (key : ByteArray) : List V := l.filter fun x => decide (x.2.1 ≠ key)
theorem without_succ {l : List V} {key : ByteArray} {a : Nat} {x : V} (hx : l[a]? = some x) : without (l.take (a + 1)) key = without (l.take a) key ++ if x.2.1 = key then [] else [x] := by
  have hal := (List.getElem?_eq_some_iff.1 hx).1
  have ex : l[a] = x := by rw [List.getElem?_eq_getElem hal] at hx; simpa using hx
  rw [List.take_succ_eq_append_getElem hal, ex]
  unfold without
  rw [List.filter_append]
  by_cases h : x.2.1 = key <;> simp [h]
theorem without_le (l : List V) (key : ByteArray) (a : Nat) : (without (l.take a) key).length ≤ a := by
  unfold without
  exact Nat.le_trans (List.length_filter_le _ _) (by simp; omega)
theorem without_is {l : List V} (h : Rising l) (key : ByteArray) : without l key = remL l key := by
  unfold remL
  cases hh : hasKey l key with
  | false =>
    simp only [Bool.false_eq_true, if_false]
    unfold without
    rw [List.filter_eq_self]
    intro x hx
    obtain ⟨i, hi, rfl⟩ := List.getElem_of_mem hx
    simp only [ne_eq, decide_not, Bool.not_eq_true', decide_eq_false_iff_not]
    intro e
    have := (pos_unique h key i _ (List.getElem?_eq_getElem hi) e).2
    rw [hh] at this; cases this
  | true =>
    simp only [if_true]
    obtain ⟨y, hy, hyk⟩ := (hasKey_iff key).1 hh
    have hpl := (List.getElem?_eq_some_iff.1 hy).1
    have ey : l[posOf l key] = y := by rw [List.getElem?_eq_getElem hpl] at hy; simpa using hy
    have hne : ∀ i (hi : i < l.length), i ≠ posOf l key → l[i].2.1 ≠ key := fun i hi hn e => hn (pos_unique h key i _ (List.getElem?_eq_getElem hi) e).1.symm
    rw [List.eraseIdx_eq_take_drop_succ]
    conv => lhs; rw [← List.take_append_drop (posOf l key) l]
    unfold without
    rw [List.filter_append, List.drop_eq_getElem_cons hpl, List.filter_cons]
    rw [if_neg (by rw [ey]; simp [hyk])]
    congr 1
    · rw [List.filter_eq_self]
      intro x hx
      obtain ⟨i, hi, rfl⟩ := List.getElem_of_mem hx
      rw [List.getElem_take]
      have : i < posOf l key := by simp at hi; omega
      simpa using hne i (by omega) (by omega)
    · rw [List.filter_eq_self]
      intro x hx
      obtain ⟨i, hi, rfl⟩ := List.getElem_of_mem hx
      rw [List.getElem_drop]
      have : posOf l key + 1 + i < l.length := by simp at hi; omega
      simpa using hne _ this (by omega)

set_option maxRecDepth 100000 in
set_option maxHeartbeats 1600000 in
theorem rremove_any {w : World} {B : Nat} {v : Value} {l : List V} (h : Sp w B v l) (hB : B ≤ w.heap.size) (hr : Rising l) (hl : l.length ≤ 200) (key : ByteArray) :
    Calls Try.prog 17 #[v, .string key] w fun e w' => ∃ v', e = .returned (.tuple #[v', .bool (hasKey l key)]) ∧ Chg [] w w' ∧ Sp w' B v' (remL l key) := by
  obtain ⟨p, g, cap, rfl, hp, _, hcap, hmax, hcell⟩ := h.open
  have HC := Lib.hid hcell
  have HP := Lib.hid hp
  have HR := Lib.hid hr
  clear hcell hp h hr
  go_enter Try.func17, Try.ntmps17
  go_wp2
  go_loopw [6, 7] (fun o i wr => ∃ a : Nat, a ≤ l.length ∧ i = .int .i64 a ∧ Chg [] w wr ∧ Sp wr w.heap.size o (without (l.take a) key)) (fun _ i _ => l.length - (intOf i).toNat)
  case atStart => exact ⟨0, by omega, rfl, Chg.refl _ _, World.ownsRow_nil _ _ _ _⟩
  case round =>
    obtain ⟨a, h1, rfl, hcw, hs⟩ := hrel
    have HCW := Lib.hid hcw
    have HS := Lib.hid hs
    by_cases hab : a < l.length
    · obtain ⟨x, hx⟩ : ∃ x, l[a]? = some x := ⟨l[a]'(by omega), List.getElem?_eq_getElem _⟩
      obtain ⟨rfl, hg⟩ := HP.out (by omega)
      obtain ⟨k0, k1, _, _⟩ := HC.out _ _ hx
      obtain ⟨r1, r2⟩ := hcw.cells0
      rw [← r1 _ _ hg] at k0 k1
      have hgr : g < wr.heap.size := Nat.lt_of_lt_of_le hg hcw.size
      have hsc := without_succ (key := key) hx
      have hwl := without_le l key a
      clear hx hcw r1 r2 hs
      by_cases hk : x.2.1 = key
      · rw [if_pos hk, List.append_nil] at hsc
        have HSC := Lib.hid hsc
        clear hsc
        subst hk
        go_wp2
        go_roundw
        case rel => exact ⟨a + 1, by omega, by go_num, HCW.out, by rw [HSC.out]; exact HS.out⟩
        case measure => simp [intOf]; omega
      · rw [if_neg hk] at hsc
        have HSC := Lib.hid hsc
        have hk2 : (x.2.1.toList == key.toList) = false := beq_eq_false_iff_ne.2 (fun e => hk (bytes_inj e))
        have hk3 : (x.2.1.toList != key.toList) = true := by rw [bne, hk2]; rfl
        have hwl2 : (without (l.take a) key).length ≤ 200 := by omega
        have hbs : w.heap.size ≤ (wr.alloc (.cells #[.string x.2.1, .string x.2.2] 58)).heap.size := by have := HCW.out.size; simp; omega
        have HBS := Lib.hid hbs
        clear hsc hk hbs
        go_wp2_with (at_builtin; refine wp_appP (x := x) rfl _ _ rfl rfl wr.heap.size rfl (blk_new _ _) (HS.out.chg0 ((Chg.refl [] wr).alloc _)) hwl2 HBS.out ?_; intro v1 w1 hs1 hc1 _)
        all_goals
          rw [← HSC.out] at hs1
          have hC3 : Chg [] w w1 := by
            refine HCW.out.trans' (T := u6.ownBlock.toList) (((Chg.refl u6.ownBlock.toList wr).alloc _).trans hc1) ?_
            intro x hx
            simp only [Option.mem_toList] at hx
            exact .inr (HS.out.lt x hx).1
          have HF := Lib.hid (And.intro hs1 hC3)
          clear hs1 hC3 hc1
          go_wp2
          go_roundw
          case rel => exact ⟨a + 1, by omega, by go_num, HF.out.2, HF.out.1⟩
          case measure => simp [intOf]; omega
    · obtain rfl : a = l.length := by omega
      have hw := without_is HR.out key
      have hlen := hs.lenRun
      simp only [List.take_length] at hs hlen HS
      rw [hw] at hlen hs
      have hb : decide ((remL l key).length < l.length) = hasKey l key := by
        unfold remL
        rcases has_cases l key with ⟨h1, _, x, hx⟩ | ⟨h1, _⟩
        · have := (List.getElem?_eq_some_iff.1 hx).1
          rw [h1]; simp only [if_true]; rw [List.length_eraseIdx, if_pos this]; simp; omega
        · rw [h1]; simp
      obtain ⟨m, hm⟩ : ∃ m, remL l key = m := ⟨_, rfl⟩
      rw [hm] at hb hs hlen
      have HM := Lib.hid hm
      clear hm
      have HE := Lib.hid (And.intro hb hs)
      clear hb hs hw hcw
      go_wp2
      go_ret2
      refine ⟨u6, ?_, HCW.out, by rw [HM.out]; exact HE.out.2.mono hB⟩
      rw [← HE.out.1]
      simp
end Go.Proofs.Ytnijdnnnhkdjaaa
