/- The contracts of the table's writing calls. -/
import Derived.Test.YtnijdnnnhkdjaaaTabE
import Derived.Test.YtnijdnnnhkdjaaaKeyB
namespace Go.Proofs.Ytnijdnnnhkdjaaa
set_option linter.unusedSimpArgs false
set_option linter.unusedVariables false
open Go Go.RowKit Go.MapKept

theorem ins_any {w : World} {base : Nat} {v : Value} {l : List V} (h : Sl w base v l) (i : Nat) (x : V) (ax : Nat) (hx : w.heap[ax]? = some (.cells (encV x).toArray 27 (0, 0))) (hax : v.ownBlock ≠ some ax) (hi : i ≤ l.length) (hl : l.length ≤ 200) (hbase : base ≤ w.heap.size) :
    Calls Try.prog 32 #[v, .int .i64 i, .slice (some ⟨ax, 0, none⟩) 1 1] w fun e w' => ∃ v', e = .returned v' ∧ Sl w' base v' (insAt l i x) ∧ Chg v.ownBlock.toList w w' := by
  by_cases e : i = l.length
  · subst e; exact ins_end h x ax hx hl hbase
  · rcases h.2 with ⟨_, h0⟩ | ⟨g, cap, cur, rfl, h2, h3, h4, h5, h6, h7⟩
    · omega
    · have hc : cur.toList.take (l.length * 3) = l.flatMap encV := h7
      have hne : ax ≠ g := by rintro rfl; exact hax rfl
      by_cases hr : l.length + 1 ≤ cap
      · exact ins_room (cur := cur.toList) h2 h3 (by simpa using h6) hc hr h5 i (by omega) x ax hx hne hl
      · refine (ins_grow (cur := cur.toList) hbase h3 hc h4 (by omega) h5 i (by omega) x ax hx hl).mono fun e w' ⟨v', a, b, c⟩ => ⟨v', a, b, c.of_nil⟩

theorem flat_set (l : List V) (p : Nat) (x : V) (value : ByteArray) (hx : l[p]? = some x) : (l.set p (x.1, x.2.1, value)).flatMap encV = (l.flatMap encV).set (p * 3 + 2) (.string value) := by
  induction l generalizing p with
  | nil => simp at hx
  | cons y r ih =>
    cases p with
    | zero => simp at hx; subst hx; simp [encV]
    | succ p =>
      have hl : (encV y).length = 3 := rfl
      simp only [List.set_cons_succ, List.flatMap_cons]
      rw [ih p (by simpa using hx), List.set_append_right _ _ (by omega), hl, show (p + 1) * 3 + 2 - 3 = p * 3 + 2 by omega]
theorem Sl.setVal {w : World} {base g n cap : Nat} {l : List V} (h : Sl w base (.slice (some ⟨g, 0, none⟩) n cap) l) (p : Nat) (x : V) (value : ByteArray) (hx : l[p]? = some x) :
    Sl (w.setCell ⟨g, p * 3 + 2, none⟩ (.string value)) base (.slice (some ⟨g, 0, none⟩) n cap) (l.set p (x.1, x.2.1, value)) := by
  have hp := (List.getElem?_eq_some_iff.1 hx).1
  rcases h.2 with ⟨hv, _⟩ | ⟨g', cap', cur, hv, h2, h3, h4, h5, h6, h7⟩
  · simp at hv
  · simp only [Value.slice.injEq, Option.some.injEq, Addr.mk.injEq] at hv
    obtain ⟨⟨rfl, _⟩, rfl, rfl⟩ := hv
    refine ⟨length_flat _, .inr ⟨g, cap, _, by rw [List.length_set], h2, blk_setCell h3 _ _, by rw [List.length_set]; exact h4, h5, by simpa using h6, ?_⟩⟩
    rw [flat_set l p x value hx, ← h7, List.length_set]
    simp only [Array.toList_setIfInBounds]
    apply List.ext_getElem?
    intro j
    simp only [List.getElem?_take, List.getElem?_set, List.length_take]
    have hlen : l.length * 3 ≤ cur.toList.length := by simp [h6]; omega
    by_cases hj : j < l.length * 3
    · rw [if_pos hj]
      by_cases e : p * 3 + 2 = j
      · rw [if_pos e, if_pos e, if_pos (by omega), if_pos (by omega)]
      · rw [if_neg e, if_neg e, if_pos hj]
    · rw [if_neg hj]
      by_cases e : p * 3 + 2 = j
      · omega
      · rw [if_neg e, if_neg hj]

section
variable {w : World} {b : At} {clk : Int} {cs : List MC} {own beg ver : Int} {bx base n : Nat} {l : List V}

/-- Saving a list. -/
theorem save_is {B : Nat} {v : Value} {l' : List V} (h : TabIs w b clk cs own beg ver bx base n l) (hs : Sl w B v l') (hB : b.t < B ∧ b.m < B ∧ b.c < B ∧ b.s < B ∧ b.r < B ∧ b.w < B) (hr : Rising l') (hn : l'.length ≤ n) :
    Calls Try.prog 33 #[.pointer (some ⟨bx, 0, none⟩), v] w fun e w' => e = .returned (.int .i64 0) ∧ Chg [b.r, b.w] w w' ∧ TabIs w' b clk cs own beg ver bx base n l' := by
  obtain ⟨R, W, h1, h2⟩ := h.tx
  have hsm := h.small
  have fin : ∀ e w', (e = Ending.returned (.int .i64 0) ∧ Chg [b.r, b.w] w w' ∧ ∃ R' W', TxG w' b clk cs own beg ver R' W' ∧ ∀ j, curV cs W' j = if base ≤ j ∧ j < base + n then padV l' (j - base) else curV cs W j) →
      e = Ending.returned (.int .i64 0) ∧ Chg [b.r, b.w] w w' ∧ TabIs w' b clk cs own beg ver bx base n l' := by
    rintro e w' ⟨he, hc, R', W', hg, hcur⟩
    exact ⟨he, hc, ⟨R', W', hg, vals_pad hn hcur⟩, ⟨hc.at h.tab.hdr (by have := h1.tx.sets.reads.ne_cells h.tab.hdr; have := h1.tx.sets.writes.ne_cells h.tab.hdr; simp; omega)⟩, h.fits, hr, hn, hsm⟩
  rcases hs.open with ⟨rfl, rfl⟩ | ⟨g, cap, rfl, _⟩
  · exact (save_nil h1 h.tab h.fits hs hB (by omega)).mono fin
  · exact (save_some h1 h.tab h.fits hs hB (by omega)).mono fin
/-- What a put makes of the entries, and what it tells. -/
def putL (l : List V) (n : Nat) (key value : ByteArray) : List V :=
  if hasKey l key then (match l[posOf l key]? with | some x => l.set (posOf l key) (x.1, x.2.1, value) | none => l) else if l.length = n then l else insAt l (posOf l key) (true, key, value)
def putE (l : List V) (n : Nat) (key : ByteArray) : Int := if hasKey l key then 0 else if l.length = n then 5 else 0

set_option maxRecDepth 100000 in
set_option maxHeartbeats 1600000 in
theorem put_is (h : TabIs w b clk cs own beg ver bx base n l) (key value : ByteArray) : Calls Try.prog 9 #[.pointer (some ⟨bx, 0, none⟩), .string key, .string value] w fun e w' =>
    e = .returned (.int .i64 (putE l n key)) ∧ Chg [b.r, b.w] w w' ∧ TabIs w' b clk cs own beg ver bx base n (putL l n key value) := by
  have H := Lib.hid h
  have hl : l.length ≤ 1000 := by have := h.len; have := h.small; omega
  have hl2 : l.length ≤ 200 := by have := h.len; have := h.small; omega
  have hp := posOf_le l key
  have hsp := posOf_spec h.rising.2 key
  have HP := Lib.hid hsp
  have hfnd : ∀ w' v B, Sl w' B v l → Calls Try.prog 31 #[v, .string key] w' fun e w'' => e = .returned (.tuple #[.int .i64 (posOf l key : Nat), .bool (hasKey l key)]) ∧ Chg [] w' w'' := fun w' v B hs => find_any hs key hl _ hp HP.out
  have HF := Lib.hid hfnd
  have hlts : b.t < w.heap.size ∧ b.m < w.heap.size ∧ b.c < w.heap.size ∧ b.s < w.heap.size ∧ b.r < w.heap.size ∧ b.w < w.heap.size ∧ bx < w.heap.size := by
    obtain ⟨R, W, h1, _⟩ := h.tx
    have := h1.tx.lts
    have := h.tab.cells.2.2.2
    omega
  have HLT := Lib.hid hlts
  have HB : b.t < w.heap.size ∧ b.m < w.heap.size ∧ b.c < w.heap.size ∧ b.s < w.heap.size ∧ b.r < w.heap.size ∧ b.w < w.heap.size := by omega
  have HBB := Lib.hid HB
  have hris := Lib.hid h.rising
  have hlen2 := h.len
  clear h hsp hfnd hlts HB
  cases hh : hasKey l key with
  | true =>
    rw [hh] at HF
    obtain ⟨x, hx⟩ : ∃ x, l[posOf l key]? = some x := by
      unfold hasKey hasAt at hh
      cases hx : l[posOf l key]? with
      | none => rw [hx] at hh; cases hh
      | some x => exact ⟨x, rfl⟩
    have hq : putL l n key value = l.set (posOf l key) (x.1, x.2.1, value) ∧ putE l n key = 0 := by simp [putL, putE, hh, hx]
    have hrs : Rising (l.set (posOf l key) (x.1, x.2.1, value)) := rising_set hris.out _ x hx value
    rw [hq.1, hq.2]
    have HX := Lib.hid hx
    have HRS := Lib.hid hrs
    have hpl : posOf l key < l.length := (List.getElem?_eq_some_iff.1 hx).1
    clear hh hx hq hrs
    generalize hpe : posOf l key = p at *
    clear hpe
    go_enter Try.func9, Try.ntmps9
    go_wp2_with (first | (go_at_call 30; refine (load_is H.out).mono ?_; rintro e w1 ⟨v, rfl, hc1, hs1, ht1⟩; have HS1 := Lib.hid hs1; (rcases hs1.open with ⟨_, hn⟩ | ⟨g, cap, hv, hgb, hg, hcap, hmax, hcell⟩); (exfalso; rw [hn] at hpl; simp at hpl); obtain ⟨k0, k1, k2, f0, f1, f2⟩ := hcell _ _ HX.out; subst hv; clear hs1 hcell) | (go_at_call 31; refine (HF.out _ _ _ HS1.out).mono ?_; rintro e w2 ⟨rfl, hc2⟩; rw [← hc2.cells0.1 _ _ hg] at k0 k1 k2; rw [← hc2.cells0.2 _ _ hg] at f2) | (go_at_call 33; refine (save_is ((ht1.chg0 hc2).chg1 ((Chg.refl [g] w2).setCell _ _ (by simp)) (by have := HLT.out; omega) (by have := HLT.out; omega)) ((HS1.out.chg0 hc2).setVal p x value HX.out) HBB.out HRS.out (by simpa using hlen2)).mono ?_; rintro e w3 ⟨rfl, hc3, ht3⟩))
    go_ret
    refine ⟨rfl, ?_, ht3⟩
    refine Chg.trans ?_ hc3
    exact ((hc1.trans hc2.of_nil).mono (fun k _ hk => by simp at hk ⊢; exact .inl hk)).setCell _ _ (.inr hgb)
  | false =>
    rw [hh] at HF
    by_cases hfull : l.length = n
    · have hq : putL l n key value = l ∧ putE l n key = 5 := by simp [putL, putE, hh, hfull]
      rw [hq.1, hq.2]
      have e1 : ((l.length : Int) == (n : Int)) = true := by simp [hfull]
      clear hh hq hfull
      generalize hpe : posOf l key = p at *
      clear hpe
      go_enter Try.func9, Try.ntmps9
      go_wp2_with (first | (go_at_call 30; refine (load_is H.out).mono ?_; rintro e w1 ⟨v, rfl, hc1, hs1, ht1⟩; have hlen := hs1.lenRun) | (go_at_call 31; refine (HF.out _ _ _ hs1).mono ?_; rintro e w2 ⟨rfl, hc2⟩; obtain ⟨m0, m1, m2, m3⟩ := (ht1.chg0 hc2).tab.cells))
      go_ret
      exact ⟨rfl, (hc1.trans hc2.of_nil).mono (fun k _ hk => by simp at hk ⊢; exact .inl hk), ht1.chg0 hc2⟩
    · have hq : putL l n key value = insAt l (posOf l key) (true, key, value) ∧ putE l n key = 0 := by simp [putL, putE, hh, hfull]
      have hrs : Rising (insAt l (posOf l key) (true, key, value)) := rising_ins hris.out key value hh
      have hle := length_insAt l (posOf l key) (true, key, value) hp
      rw [hq.1, hq.2]
      have HLE := Lib.hid hle
      have HRS := Lib.hid hrs
      have e1 : ((l.length : Int) == (n : Int)) = false := beq_eq_false_iff_ne.2 (by omega)
      have hfull2 : l.length + 1 ≤ n := by omega
      clear hh hq hfull hle hrs
      generalize hpe : posOf l key = p at *
      clear hpe
      go_enter Try.func9, Try.ntmps9
      go_wp2_with (first | (go_at_call 30; refine (load_is H.out).mono ?_; rintro e w1 ⟨v, rfl, hc1, hs1, ht1⟩; have hlen := hs1.lenRun) | (go_at_call 31; refine (HF.out _ _ _ hs1).mono ?_; rintro e w2 ⟨rfl, hc2⟩; obtain ⟨m0, m1, m2, m3⟩ := (ht1.chg0 hc2).tab.cells) | (go_at_call 32; refine (ins_any ((hs1.chg0 hc2).chg0 ((Chg.refl [] w2).alloc _)) p (true, key, value) w2.heap.size (blk_new w2 _) (fun e => by have := (World.ownsRow.lt (hs1.chg0 hc2)) _ e; omega) hp hl2 (by have := hc1.size; have := hc2.size; simp; omega)).mono ?_; rintro e w3 ⟨v3, rfl, hs3, hc3⟩; have HFR := Lib.hid (show ∀ x ∈ v.ownBlock.toList, w.heap.size ≤ x from fun x hx => (by simp only [Option.mem_toList] at hx; exact ((World.ownsRow.lt hs1) x hx).1))) | (go_at_call 33; refine (save_is (((ht1.chg0 hc2).chg0 ((Chg.refl [] w2).alloc _)).chgF hc3 (fun k hk => by have := HFR.out k hk; have := HLT.out; omega)) hs3 HBB.out HRS.out (by rw [HLE.out]; omega)).mono ?_; rintro e w4 ⟨rfl, hc4, ht4⟩))
      go_ret
      refine ⟨rfl, ?_, ht4⟩
      refine Chg.trans ?_ hc4
      refine Chg.trans' (T := v.ownBlock.toList) ?_ hc3 (fun x hx => .inr (HFR.out x hx))
      exact (((hc1.trans hc2.of_nil).mono (fun k _ hk => by simp at hk ⊢; exact .inl hk)).alloc _)

set_option maxRecDepth 100000 in
set_option maxHeartbeats 1600000 in
theorem remove_is (h : TabIs w b clk cs own beg ver bx base n l) (key : ByteArray) : Calls Try.prog 18 #[.pointer (some ⟨bx, 0, none⟩), .string key] w fun e w' =>
    e = .returned (.tuple #[.bool (hasKey l key), .int .i64 0]) ∧ Chg [b.r, b.w] w w' ∧ TabIs w' b clk cs own beg ver bx base n (if hasKey l key then l.eraseIdx (posOf l key) else l) := by
  have H := Lib.hid h
  have hl : l.length ≤ 1000 := by have := h.len; have := h.small; omega
  have hl2 : l.length ≤ 200 := by have := h.len; have := h.small; omega
  have hp := posOf_le l key
  have hsp := posOf_spec h.rising.2 key
  have HP := Lib.hid hsp
  have hfnd : ∀ w' v B, Sl w' B v l → Calls Try.prog 31 #[v, .string key] w' fun e w'' => e = .returned (.tuple #[.int .i64 (posOf l key : Nat), .bool (hasKey l key)]) ∧ Chg [] w' w'' := fun w' v B hs => find_any hs key hl _ hp HP.out
  have HF := Lib.hid hfnd
  have hlts : b.t < w.heap.size ∧ b.m < w.heap.size ∧ b.c < w.heap.size ∧ b.s < w.heap.size ∧ b.r < w.heap.size ∧ b.w < w.heap.size ∧ bx < w.heap.size := by
    obtain ⟨R, W, h1, _⟩ := h.tx
    have := h1.tx.lts
    have := h.tab.cells.2.2.2
    omega
  have HLT := Lib.hid hlts
  have HB : b.t < w.heap.size ∧ b.m < w.heap.size ∧ b.c < w.heap.size ∧ b.s < w.heap.size ∧ b.r < w.heap.size ∧ b.w < w.heap.size := by omega
  have HBB := Lib.hid HB
  have hris := Lib.hid h.rising
  have hlen2 := h.len
  clear h hsp hfnd hlts HB
  cases hh : hasKey l key with
  | true =>
    rw [hh] at HF
    have hpl : posOf l key < l.length := by
      obtain ⟨x, hx, _⟩ := (hasKey_iff key).1 hh
      exact (List.getElem?_eq_some_iff.1 hx).1
    have hrs : Rising (l.eraseIdx (posOf l key)) := rising_erase hris.out _
    have HRS := Lib.hid hrs
    simp only [if_true]
    have hle : (l.eraseIdx (posOf l key)).length ≤ n := by rw [List.length_eraseIdx]; split <;> omega
    have HLE := Lib.hid hle
    have hdel : ∀ w' v B, Sl w' B v l → Calls Try.prog 35 #[v, .int .i64 (posOf l key : Nat), .int .i64 ((posOf l key : Nat) + 1)] w' fun e w'' => ∃ v', e = .returned v' ∧ Sl w'' B v' (l.eraseIdx (posOf l key)) ∧ v'.ownBlock = v.ownBlock ∧ ∃ g, v.ownBlock = some g ∧ Chg [g] w' w'' := fun w' v B hs => del_any hs _ hpl hl
    have HD := Lib.hid hdel
    clear hh hrs hdel hle
    generalize hpe : posOf l key = p at *
    clear hpe
    go_enter Try.func18, Try.ntmps18
    go_wp2_with (first | (go_at_call 30; refine (load_is H.out).mono ?_; rintro e w1 ⟨v, rfl, hc1, hs1, ht1⟩; have hlen := hs1.lenRun) | (go_at_call 31; refine (HF.out _ _ _ hs1).mono ?_; rintro e w2 ⟨rfl, hc2⟩; have hs2 := hs1.chg0 hc2) | (go_at_call 35; refine (HD.out _ _ _ hs2).mono ?_; rintro e w3 ⟨v3, rfl, hs3, ho3, g, hg, hc3⟩; have HFR := Lib.hid (show w.heap.size ≤ g from ((World.ownsRow.lt hs1) g hg).1); clear ho3 hg) | (go_at_call 33; refine (save_is ((ht1.chg0 hc2).chg1 hc3 (by have := HFR.out; have := HLT.out; omega) (by have := HFR.out; have := HLT.out; omega)) hs3 HBB.out HRS.out HLE.out).mono ?_; rintro e w4 ⟨rfl, hc4, ht4⟩))
    go_ret2
    refine ⟨rfl, ?_, ht4⟩
    refine Chg.trans ?_ hc4
    refine Chg.trans' (T := [g]) ?_ hc3 (fun x hx => .inr (by simp at hx; subst hx; exact HFR.out))
    exact ((hc1.trans hc2.of_nil).mono (fun k _ hk => by simp at hk ⊢; exact .inl hk))
  | false =>
    rw [hh] at HF
    simp only [Bool.false_eq_true, if_false]
    clear hh
    generalize hpe : posOf l key = p at *
    clear hpe
    go_enter Try.func18, Try.ntmps18
    go_wp2_with (first | (go_at_call 30; refine (load_is H.out).mono ?_; rintro e w1 ⟨v, rfl, hc1, hs1, ht1⟩; have hlen := hs1.lenRun) | (go_at_call 31; refine (HF.out _ _ _ hs1).mono ?_; rintro e w2 ⟨rfl, hc2⟩))
    go_ret2
    exact ⟨rfl, (hc1.trans hc2.of_nil).mono (fun k _ hk => by simp at hk ⊢; exact .inl hk), ht1.chg0 hc2⟩
end
end Go.Proofs.Ytnijdnnnhkdjaaa
