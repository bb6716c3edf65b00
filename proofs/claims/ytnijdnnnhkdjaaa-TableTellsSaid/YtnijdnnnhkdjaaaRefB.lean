/- The contract of the reference's Put. -/
import Derived.Test.YtnijdnnnhkdjaaaRefC
import Derived.Test.YtnijdnnnhkdjaaaTabG
namespace Go.Proofs.Ytnijdnnnhkdjaaa
set_option linter.unusedSimpArgs false
set_option linter.unusedVariables false
open Go Go.RowKit Go.MapKept

theorem flatP_set (l : List V) (i : Nat) (y : V) (hi : i < l.length) : (l.set i y).flatMap encP = ((l.flatMap encP).set (i * 2) (.string y.2.1)).set (i * 2 + 1) (.string y.2.2) := by
  induction l generalizing i with
  | nil => simp at hi
  | cons x r ih =>
    cases i with
    | zero => simp [encP]
    | succ p =>
      have hl : (encP x).length = 2 := rfl
      simp only [List.set_cons_succ, List.flatMap_cons]
      rw [ih p (by simpa using hi), List.set_append_right _ _ (by omega), List.set_append_right _ _ (by omega), hl, show (p + 1) * 2 - 2 = p * 2 by omega, show (p + 1) * 2 + 1 - 2 = p * 2 + 1 by omega]
theorem take_set_lt {α : Type} (C : List α) (n j : Nat) (v : α) (h : j < n) : (C.set j v).take n = (C.take n).set j v := by
  rw [List.take_set]
theorem Sp.put2 {w : World} {B g n cap : Nat} {l : List V} (h : Sp w B (.slice (some ⟨g, 0, none⟩) n cap) l) (i : Nat) (y : V) (hi : i < l.length) :
    Sp ((w.setCell ⟨g, i * 2, none⟩ (.string y.2.1)).setCell ⟨g, i * 2 + 1, none⟩ (.string y.2.2)) B (.slice (some ⟨g, 0, none⟩) n cap) (l.set i y) := by
  rcases h.2 with ⟨hv, _⟩ | ⟨g', cap', cur, hv, h2, h3, h4, h5, h6, h7⟩
  · simp at hv
  · simp only [Value.slice.injEq, Option.some.injEq, Addr.mk.injEq] at hv
    obtain ⟨⟨rfl, _⟩, rfl, rfl⟩ := hv
    refine ⟨length_flat2 _, .inr ⟨g, cap, _, by rw [List.length_set], h2, blk_setCell (blk_setCell h3 _ _) _ _, by rw [List.length_set]; exact h4, h5, by simpa using h6, ?_⟩⟩
    rw [flatP_set l i y hi, ← h7, List.length_set]
    simp only [Array.toList_setIfInBounds]
    rw [take_set_lt _ _ _ _ (by omega), take_set_lt _ _ _ _ (by omega)]
theorem Sp.putV {w : World} {B g n cap : Nat} {l : List V} (h : Sp w B (.slice (some ⟨g, 0, none⟩) n cap) l) (i : Nat) (x : V) (value : ByteArray) (hx : l[i]? = some x) :
    Sp (w.setCell ⟨g, i * 2 + 1, none⟩ (.string value)) B (.slice (some ⟨g, 0, none⟩) n cap) (l.set i (x.1, x.2.1, value)) := by
  have hi := (List.getElem?_eq_some_iff.1 hx).1
  rcases h.2 with ⟨hv, _⟩ | ⟨g', cap', cur, hv, h2, h3, h4, h5, h6, h7⟩
  · simp at hv
  · simp only [Value.slice.injEq, Option.some.injEq, Addr.mk.injEq] at hv
    obtain ⟨⟨rfl, _⟩, rfl, rfl⟩ := hv
    refine ⟨length_flat2 _, .inr ⟨g, cap, _, by rw [List.length_set], h2, blk_setCell h3 _ _, by rw [List.length_set]; exact h4, h5, by simpa using h6, ?_⟩⟩
    rw [flatP_set l i _ hi, ← h7, List.length_set]
    simp only [Array.toList_setIfInBounds]
    rw [take_set_lt _ _ _ _ (by omega)]
    have e : (cur.toList.take (l.length * 2)).set (i * 2) (.string x.2.1) = cur.toList.take (l.length * 2) := by
      have := flat2 l i 0 (by omega)
      rw [← h7, hx] at this
      simp only [Nat.add_zero, Option.bind_some, encP, List.getElem?_cons_zero] at this
      apply List.ext_getElem?
      intro j
      rw [List.getElem?_set]
      by_cases e : i * 2 = j
      · subst e
        rw [if_pos rfl, this]
        have := (List.getElem?_eq_some_iff.1 this).1
        rw [if_pos this]
      · rw [if_neg e]
    rw [e]
theorem ins_at (l : List V) (a : Nat) (x : V) (ha : a ≤ l.length) : (insAt l a x)[a]? = some x := by
  unfold insAt
  rw [List.getElem?_append_right (by simp; omega)]
  simp [Nat.min_eq_left ha]
theorem ins_below (l : List V) (a c : Nat) (x : V) (ha : a ≤ l.length) (hc : c < a) : (insAt l a x)[c]? = l[c]? := by
  unfold insAt
  rw [List.getElem?_append_left (by simp; omega), List.getElem?_take, if_pos hc]
theorem ins_swap (l : List V) (c : Nat) (x y : V) (hy : l[c]? = some y) : ((insAt l (c + 1) x).set (c + 1) y).set c x = insAt l c x := by
  have hc := (List.getElem?_eq_some_iff.1 hy).1
  have ey : l[c] = y := by rw [List.getElem?_eq_getElem hc] at hy; simpa using hy
  unfold insAt
  rw [List.set_append_right _ _ (by simp; omega), show c + 1 - (l.take (c + 1)).length = 0 by simp; omega, List.set_cons_zero, List.set_append_left _ _ (by simp; omega)]
  rw [List.take_succ_eq_append_getElem hc, List.set_append_right _ _ (by simp; omega), show c - (l.take c).length = 0 by simp; omega, List.set_cons_zero]
  have e : l.drop c = y :: l.drop (c + 1) := by rw [List.drop_eq_getElem_cons hc, ey]
  rw [e]
  simp
theorem ins_swap2 (l : List V) (c : Nat) (x y : V) (hy : l[c]? = some y) : ((insAt l (c + 1) x).set c x).set (c + 1) y = insAt l c x := by
  rw [List.set_comm _ _ (by omega)]; exact ins_swap l c x y hy
theorem ins_end_eq (l : List V) (x : V) : insAt l l.length x = l ++ [x] := by simp [insAt]

set_option maxRecDepth 100000 in
set_option maxHeartbeats 1600000 in
theorem rput_has {w : World} {B : Nat} {v : Value} {l : List V} (h : Sp w B v l) (hB : B ≤ w.heap.size) (hr : Rising l) (hl : l.length ≤ 200) (n : Nat) (key value : ByteArray) (hh : hasKey l key = true) (x : V) (hx : l[posOf l key]? = some x) :
    Calls Try.prog 14 #[v, .int .i64 n, .string key, .string value] w fun e w' => ∃ v', e = .returned (.tuple #[v', .int .i64 0]) ∧ Chg [] w w' ∧ Sp w' B v' (l.set (posOf l key) (x.1, x.2.1, value)) := by
  have hfv : findV l key = (posOf l key : Nat) := by unfold findV; rw [hh]; rfl
  have hfnd : ∀ w' v B, Sp w' B v l → Calls Try.prog 34 #[v, .string key] w' fun e w'' => e = .returned (.int .i64 (posOf l key : Nat)) ∧ w' = w'' := fun w' v B hs => by have := rfind_any hs hr key; rw [hfv] at this; exact this
  have HF := Lib.hid hfnd
  have H := Lib.hid h
  have hpl := (List.getElem?_eq_some_iff.1 hx).1
  have HX := Lib.hid hx
  clear hfv hfnd hr h hh hx
  generalize hpe : posOf l key = q at *
  clear hpe
  go_enter Try.func14, Try.ntmps14
  go_wp2_with (first
    | (at_builtin; refine wp_copyP rfl _ _ rfl rfl rfl H.out hl ?_; intro v1 w1 hs1 hc1; have HS1 := Lib.hid hs1; (obtain ⟨p1, g1, cap1, hv1, hp1, _, hcap1, hmax1, hcell1⟩ := hs1.open); (obtain ⟨hp1, hg1⟩ := hp1 (by omega)); subst hp1 hv1; (obtain ⟨k0, k1, f0, f1⟩ := hcell1 _ _ HX.out); clear hcell1 hs1)
    | (go_at_call 34; refine (HF.out _ _ _ HS1.out).mono ?_; rintro e w' ⟨rfl, rfl⟩))
  go_ret2
  have hgb := (HS1.out.lt g1 rfl).1
  exact ⟨_, rfl, hc1.setCell _ _ (.inr (by simpa using hgb)), (HS1.out.putV q x value HX.out).mono hB⟩

theorem not_below {l : List V} (h : Rising l) (key : ByteArray) (hk : hasKey l key = false) (c : Nat) (y : V) (hy : l[c]? = some y) : (Op.bytesLess key.toList y.2.1.toList = true ↔ posOf l key ≤ c) := by
  constructor
  · intro hb
    refine Nat.le_of_not_lt fun e => ?_
    have := less_trans _ _ _ hb ((posOf_lt h key c y hy).1 e)
    rw [less_irrefl] at this; cases this
  · exact above_of_not h key hk c y hy

set_option maxRecDepth 100000 in
set_option maxHeartbeats 3200000 in
theorem rput_new {w : World} {B : Nat} {v : Value} {l : List V} (h : Sp w B v l) (hB : B ≤ w.heap.size) (hr : Rising l) (hl : l.length ≤ 200) (n : Nat) (key value : ByteArray) (hh : hasKey l key = false) (hn : l.length ≤ n) :
    Calls Try.prog 14 #[v, .int .i64 n, .string key, .string value] w fun e w' => ∃ v', e = .returned (.tuple #[v', .int .i64 (putE l n key)]) ∧ Chg [] w w' ∧ Sp w' B v' (if l.length = n then l else insAt l (posOf l key) (true, key, value)) := by
  have hfv : findV l key = -1 := by unfold findV; rw [hh]; rfl
  have hfnd : ∀ w' v B, Sp w' B v l → Calls Try.prog 34 #[v, .string key] w' fun e w'' => e = .returned (.int .i64 (-1)) ∧ w' = w'' := fun w' v B hs => by have := rfind_any hs hr key; rw [hfv] at this; exact this
  have HF := Lib.hid hfnd
  have hpl := posOf_le l key
  have hnb := not_below hr key hh
  have HNB := Lib.hid hnb
  have H := Lib.hid h
  have HB := Lib.hid hB
  have hpE : putE l n key = if l.length = n then 5 else 0 := by unfold putE; rw [hh]; rfl
  rw [hpE]
  clear hfv hfnd hr hh hnb hpE h hB
  generalize hpe : posOf l key = q at *
  clear hpe
  by_cases hfull : l.length = n
  · have e1 : ((l.length : Int) == (n : Int)) = true := by simp [hfull]
    simp only [if_pos hfull]
    have HFU := Lib.hid hfull
    clear hfull
    go_enter Try.func14, Try.ntmps14
    go_wp2_with (first
      | (at_builtin; refine wp_copyP rfl _ _ rfl rfl rfl H.out hl ?_; intro v1 w1 hs1 hc1; have HS1 := Lib.hid hs1; have hlen := hs1.lenRun; clear hs1)
      | (go_at_call 34; refine (HF.out _ _ _ HS1.out).mono ?_; rintro e w' ⟨rfl, rfl⟩))
    go_ret2
    exact ⟨_, rfl, hc1, H.out.chg0 hc1⟩
  · have e1 : ((l.length : Int) == (n : Int)) = false := beq_eq_false_iff_ne.2 (by omega)
    simp only [if_neg hfull]
    clear hfull
    go_enter Try.func14, Try.ntmps14
    go_wp2_with (at_builtin; refine wp_copyP rfl _ _ rfl rfl rfl H.out hl ?_; intro v1 w1 hs1 hc1; have HS1 := Lib.hid hs1; have hlen := hs1.lenRun; clear hs1)
    go_wp2_with (first
      | (go_at_call 34; refine (HF.out _ _ _ HS1.out).mono ?_; rintro e w' ⟨rfl, rfl⟩)
      | (at_builtin; refine wp_appP (x := (true, key, value)) rfl _ _ rfl rfl w1.heap.size rfl (blk_new _ _) (HS1.out.chg0 ((Chg.refl [] w1).alloc _)) hl (by have := hc1.size; simp; omega) ?_; intro v2 w2 hs2 hc2 hnn; (rcases hs2.open with ⟨p2, g2, cap2, rfl, _, ⟨rfl, h0, _⟩ | ⟨rfl, hgb2, hgl2⟩, hcap2, hmax2, hcell2⟩); (exfalso; have := congrArg List.length h0; simp at this); simp only [List.length_append, List.length_cons, List.length_nil, Nat.zero_add] at hcap2; have HS2 := Lib.hid hs2; have HC1 := Lib.hid hc1; have HC2 := Lib.hid hc2; clear hs2 hc2 hcell2 hc1 hnn))
    have hcc : Chg [] w w2 := (HC1.out.alloc _).trans' (show Chg v1.ownBlock.toList _ w2 from HC2.out) (fun k hk => by simp only [Option.mem_toList] at hk; exact .inr (HS1.out.lt k hk).1)
    have HCC := Lib.hid hcc
    clear hcc
    go_loopw [12] (fun i wr => ∃ a : Nat, q ≤ a ∧ a ≤ l.length ∧ i = .int .i64 a ∧ Chg [g2] w2 wr ∧ Sp wr w.heap.size (.slice (some ⟨g2, 0, none⟩) (l.length + 1) cap2) (insAt l a (true, key, value))) (fun i _ => (intOf i).toNat)
    case atStart => exact ⟨l.length, hpl, by omega, rfl, Chg.refl _ _, by rw [ins_end_eq]; simpa using HS2.out⟩
    case round =>
      obtain ⟨a, ha1, ha2, rfl, hcw, hs⟩ := hrel
      have HCW := Lib.hid hcw
      have HS := Lib.hid hs
      have hgr : g2 < wr.heap.size := Nat.lt_of_lt_of_le hgl2 hcw.size
      have hfin : Chg [] w wr := HCC.out.trans' hcw (fun k hk => .inr (by simp at hk; subst hk; exact hgb2))
      have HFIN := Lib.hid hfin
      have hop : ∀ i x, (insAt l a (true, key, value))[i]? = some x → wr.cell? ⟨g2, i * 2, none⟩ = some (.string x.2.1) ∧ wr.cell? ⟨g2, i * 2 + 1, none⟩ = some (.string x.2.2) ∧ wr.frozen? ⟨g2, i * 2, none⟩ = false ∧ wr.frozen? ⟨g2, i * 2 + 1, none⟩ = false := by
        obtain ⟨p3, g3, cap3, hv3, _, hp3, _, _, hc3⟩ := hs.open
        simp only [Value.slice.injEq] at hv3
        obtain ⟨rfl, _, _⟩ := hv3
        rcases hp3 with ⟨h0, _⟩ | ⟨h0, _⟩
        · cases h0
        · simp only [Option.some.injEq, Addr.mk.injEq] at h0
          obtain ⟨rfl, _⟩ := h0
          exact hc3
      obtain ⟨m0, m1, n0, n1⟩ := hop a _ (ins_at l a (true, key, value) ha2)
      simp only at m0 m1
      by_cases ha0 : a = 0
      · subst ha0
        obtain rfl : q = 0 := by omega
        clear hcw hs hfin hop
        go_wp2
        go_quiet (fail)
        go_wp2
        go_ret2
        exact ⟨_, rfl, HFIN.out.drewN _, (HS.out.chg0 ((Chg.refl [] wr).drewN _)).mono HB.out⟩
      · obtain ⟨c, hca⟩ : ∃ c, c + 1 = a := ⟨a - 1, by omega⟩
        have hwr : IntKind.i64.wrap ((a : Int) - 1) = (c : Int) := by rw [IntWalk.i64_in _ (by omega)]; omega
        obtain ⟨y, hy⟩ : ∃ y, l[c]? = some y := ⟨l[c]'(by omega), List.getElem?_eq_getElem _⟩
        obtain ⟨k0, k1, f0, f1⟩ := hop c y (by rw [ins_below l a c _ ha2 (by omega)]; exact hy)
        have hb0 : decide ((a : Int) > 0) = true := decide_eq_true (by omega)
        have hb1 : decide (0 < a) = true := decide_eq_true (by omega)
        have hcl : c < l.length + 1 := by omega
        have hal : a < l.length + 1 := by omega
        have hci : (c : Int) < (l.length : Int) + 1 := by omega
        have hai : (a : Int) < (l.length : Int) + 1 := by omega
        have HY := Lib.hid hy
        have HCA := Lib.hid hca
        by_cases hqc : q ≤ c
        · have hbl := (HNB.out c y hy).2 hqc
          clear hcw hs hfin hop hy hca
          go_wp2
          go_quiet (fail)
          have d1 : ¬ a = c := by have := HCA.out; omega
          have d2 : ¬ c = a := by have := HCA.out; omega
          have d3 : ¬ a * 2 + 1 = c * 2 := by have := HCA.out; omega
          have d4 : ¬ c * 2 = a * 2 + 1 := by have := HCA.out; omega
          have d5 : ¬ c * 2 + 1 = a * 2 := by have := HCA.out; omega
          have d6 : ¬ a * 2 = c * 2 + 1 := by have := HCA.out; omega
          go_wp2
          go_region
          all_goals
            clear hb0 hb1
            go_wp2
            go_roundw
            case rel =>
              have hs1 := (((HS.out.chg0 ((Chg.refl [] wr).drewN (nq + 1))).put2 a y (by rw [length_insAt _ _ _ ha2]; omega)).put2 c (true, key, value) (by rw [List.length_set, length_insAt _ _ _ ha2]; omega))
              have hsw := ins_swap l c (true, key, value) y HY.out
              rw [HCA.out] at hsw
              rw [hsw] at hs1
              exact ⟨c, hqc, by omega, by first | rfl | go_num, (((((HCW.out.drewN (nq + 1)).setCell _ _ (by simp)).setCell _ _ (by simp)).setCell _ _ (by simp)).setCell _ _ (by simp)), hs1⟩
            case measure => have := HCA.out; simp [intOf]; omega
        · have hbl : Op.bytesLess key.toList y.2.1.toList = false := by
            cases hb : Op.bytesLess key.toList y.2.1.toList with
            | false => rfl
            | true => exact absurd ((HNB.out c y hy).1 hb) hqc
          have HQA := Lib.hid (show q = a by omega)
          clear hcw hs hfin hop hy hca hqc ha1
          go_wp2
          go_quiet (fail)
          clear hb0 hb1 hwr
          go_wp2
          go_ret2
          exact ⟨_, rfl, HFIN.out.drewN _, by rw [HQA.out]; exact (HS.out.chg0 ((Chg.refl [] wr).drewN _)).mono HB.out⟩
end Go.Proofs.Ytnijdnnnhkdjaaa
