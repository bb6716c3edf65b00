/- The contracts of the table's calls, by what the table holds. -/
import Derived.Test.YtnijdnnnhkdjaaaTabC
import Derived.Test.YtnijdnnnhkdjaaaKeyA
namespace Go.Proofs.Ytnijdnnnhkdjaaa
set_option linter.unusedSimpArgs false
set_option linter.unusedVariables false
open Go Go.RowKit Go.MapKept

theorem Sl.lenRun {w : World} {base : Nat} {v : Value} {l : List V} (hs : Sl w base v l) : ∀ ty w', (Builtin.len_ #[35] ty #[v]).run Try.prog w' = .ok (.int .i64 l.length) w' := by
  intro ty w'
  rcases hs.open with ⟨rfl, rfl⟩ | ⟨g, cap, rfl, _⟩
  · simp [Builtin.len_, run_underlying Try.underlying35, goInt, Result.andThen]
  · simp [Builtin.len_, run_underlying Try.underlying35, goInt, Result.andThen]
/-- The cells of a table: its entries, then empty ones. -/
def padL (l : List V) (n : Nat) : List V := l ++ List.replicate (n - l.length) MC.z.val
theorem right_pad {l : List V} (h : Rising l) (n : Nat) : rightB (padL l n) = true := by
  apply rightB_true
  intro i x hx
  by_cases hi : i < l.length
  · have hx' : l[i]? = some x := by
      unfold padL at hx; rwa [List.getElem?_append_left hi] at hx
    have h1 : x.1 = true := h.1 x (List.mem_of_getElem? hx')
    cases i with
    | zero => simp [okAt, h1]
    | succ c =>
      have hy := List.getElem?_eq_getElem (show c < l.length by omega)
      have hy1 : (l[c]'(by omega)).1 = true := h.1 _ (List.getElem_mem _)
      have hlt : Op.bytesLess (l[c]'(by omega)).2.1.toList x.2.1.toList = true := by
        have := (List.pairwise_iff_getElem.1 h.2) c (c + 1) (by omega) hi (by omega)
        have e : l[c + 1] = x := by rw [List.getElem?_eq_getElem hi] at hx'; simpa using hx'
        rw [e] at this; exact this
      have hyp : (padL l n)[c]? = some (l[c]'(by omega)) := by unfold padL; rw [List.getElem?_append_left (by omega)]; exact hy
      simp [okAt, h1, hyp, hy1, hlt]
  · have : x = MC.z.val := by
      unfold padL at hx
      rw [List.getElem?_append_right (by omega), List.getElem?_replicate] at hx
      split at hx
      · simpa using hx.symm
      · simp at hx
    subst this
    simp [okAt, MC.z]
theorem used_pad {l : List V} (h : Rising l) (n : Nat) : usedLen (padL l n) = l.length := by
  have : ∀ (l : List V) (k : Nat), (∀ x ∈ l, x.1 = true) → usedLen (l ++ List.replicate k MC.z.val) = l.length := by
    intro l k
    induction l with
    | nil => intro _; cases k <;> simp [usedLen, List.replicate_succ, MC.z]
    | cons x r ih =>
      intro hh
      have h1 := hh x (by simp)
      have := ih (fun y hy => hh y (by simp [hy]))
      simp only [usedLen, List.cons_append, List.takeWhile_cons, h1, if_true, List.length_cons] at *
      omega
  exact this l _ h.1
theorem take_pad {l : List V} (h : Rising l) (n : Nat) : (padL l n).take (usedLen (padL l n)) = l := by
  rw [used_pad h]; simp [padL]

/-- A table at bx over the transaction at b holds l. -/
structure TabIs (w : World) (b : At) (clk : Int) (cs : List MC) (own beg ver : Int) (bx base n : Nat) (l : List V) : Prop where
  tx : ∃ R W, TxG w b clk cs own beg ver R W ∧ vals cs W base n = padL l n
  tab : TabR w bx b.t base n
  fits : base + n ≤ cs.length
  rising : Rising l
  len : l.length ≤ n
  small : n ≤ 200

section
variable {w : World} {b : At} {clk : Int} {cs : List MC} {own beg ver : Int} {bx base n : Nat} {l : List V}

theorem TabIs.chg0 {w' : World} (h : TabIs w b clk cs own beg ver bx base n l) (hc : Chg [] w w') : TabIs w' b clk cs own beg ver bx base n l := by
  obtain ⟨R, W, h1, h2⟩ := h.tx
  exact ⟨⟨R, W, h1.chg0 hc, h2⟩, ⟨hc.at h.tab.hdr (by simp)⟩, h.fits, h.rising, h.len, h.small⟩

theorem TabIs.chg1 {w' : World} {g : Nat} (h : TabIs w b clk cs own beg ver bx base n l) (hc : Chg [g] w w') (k : b.t ≠ g ∧ b.m ≠ g ∧ b.c ≠ g ∧ b.s ≠ g ∧ b.r ≠ g ∧ b.w ≠ g) (k2 : bx ≠ g) : TabIs w' b clk cs own beg ver bx base n l := by
  obtain ⟨R, W, h1, h2⟩ := h.tx
  exact ⟨⟨R, W, h1.chg1 hc k, h2⟩, ⟨hc.at h.tab.hdr (by simpa using k2)⟩, h.fits, h.rising, h.len, h.small⟩

theorem TabIs.chgF {S : List Nat} {w' : World} (h : TabIs w b clk cs own beg ver bx base n l) (hc : Chg S w w') (hS : ∀ k ∈ S, b.t ≠ k ∧ b.m ≠ k ∧ b.c ≠ k ∧ b.s ≠ k ∧ b.r ≠ k ∧ b.w ≠ k ∧ bx ≠ k) : TabIs w' b clk cs own beg ver bx base n l := by
  obtain ⟨R, W, h1, h2⟩ := h.tx
  exact ⟨⟨R, W, h1.chgF hc (fun k hk => by have := hS k hk; omega), h2⟩, ⟨hc.at h.tab.hdr (fun e => (hS _ e).2.2.2.2.2.2 rfl)⟩, h.fits, h.rising, h.len, h.small⟩

theorem load_is (h : TabIs w b clk cs own beg ver bx base n l) : Calls Try.prog 30 #[.pointer (some ⟨bx, 0, none⟩)] w fun e w' =>
    ∃ v, e = .returned (.tuple #[v, .int .i64 0]) ∧ Chg [b.r] w w' ∧ Sl w' w.heap.size v l ∧ TabIs w' b clk cs own beg ver bx base n l := by
  obtain ⟨R, W, h1, h2⟩ := h.tx
  refine (load_any h1 h.tab h.fits).mono fun e w' ⟨hc, ⟨R', hg⟩, hr⟩ => ?_
  rw [h2, take_pad h.rising] at hr
  rcases hr with ⟨_, v, he, hs⟩ | ⟨hr, _⟩
  · exact ⟨v, he, hc, hs, ⟨R', W, hg, h2⟩, ⟨hc.at h.tab.hdr (by have := h1.tx.sets.reads.ne_cells h.tab.hdr; simpa using this)⟩, h.fits, h.rising, h.len, h.small⟩
  · rw [right_pad h.rising] at hr; cases hr

set_option maxRecDepth 100000 in
set_option maxHeartbeats 800000 in
theorem list_is (h : TabIs w b clk cs own beg ver bx base n l) : Calls Try.prog 10 #[.pointer (some ⟨bx, 0, none⟩)] w fun e w' =>
    ∃ v, e = .returned (.tuple #[v, .int .i64 0]) ∧ Chg [b.r] w w' ∧ Sl w' w.heap.size v l ∧ TabIs w' b clk cs own beg ver bx base n l := by
  have H := Lib.hid h
  clear h
  go_enter Try.func10, Try.ntmps10
  go_wp2_with (go_at_call 30; refine (load_is H.out).mono ?_; rintro e w1 ⟨v, rfl, hc1, hs1, ht1⟩)
  go_ret2
  exact ⟨v, rfl, hc1, hs1, ht1⟩

def hasKey (l : List V) (key : ByteArray) : Bool := hasAt l (posOf l key) key
def getVal (l : List V) (key : ByteArray) : ByteArray := if hasKey l key then ((l[posOf l key]?).getD MC.z.val).2.2 else .empty
def nextAt (l : List V) (key : ByteArray) : Nat := if hasKey l key then posOf l key + 1 else posOf l key
theorem ret_sb {a a' : ByteArray} {b b' : Bool} {c : Value} (h1 : a = a') (h2 : b = b') : Ending.returned (.tuple #[.string a, .bool b, c]) = .returned (.tuple #[.string a', .bool b', c]) := by rw [h1, h2]
theorem ret_vb {a a' : Value} {b b' : Bool} {c : Value} (h1 : a = a') (h2 : b = b') : Ending.returned (.tuple #[a, .bool b, c]) = .returned (.tuple #[a', .bool b', c]) := by rw [h1, h2]

set_option maxRecDepth 100000 in
set_option maxHeartbeats 800000 in
theorem get_is (h : TabIs w b clk cs own beg ver bx base n l) (key : ByteArray) : Calls Try.prog 15 #[.pointer (some ⟨bx, 0, none⟩), .string key] w fun e w' =>
    e = .returned (.tuple #[.string (getVal l key), .bool (hasKey l key), .int .i64 0]) ∧ Chg [b.r] w w' ∧ TabIs w' b clk cs own beg ver bx base n l := by
  have H := Lib.hid h
  have hl : l.length ≤ 1000 := by have := h.len; have := h.small; omega
  have hp := posOf_le l key
  have hsp := posOf_spec h.rising.2 key
  have HP := Lib.hid hsp
  have hfnd : ∀ w' v B, Sl w' B v l → Calls Try.prog 31 #[v, .string key] w' fun e w'' => e = .returned (.tuple #[.int .i64 (posOf l key : Nat), .bool (hasKey l key)]) ∧ Chg [] w' w'' := fun w' v B hs => find_any hs key hl _ hp HP.out
  have HF := Lib.hid hfnd
  clear h hsp hfnd
  cases hh : hasKey l key with
  | false =>
    rw [hh] at HF
    have hq : ByteArray.empty = getVal l key := by simp [getVal, hh]
    have HQ := Lib.hid hq
    clear hq hh
    generalize hpe : posOf l key = p at *
    clear hpe
    go_enter Try.func15, Try.ntmps15
    go_wp2_with (first | (go_at_call 30; refine (load_is H.out).mono ?_; rintro e w1 ⟨v, rfl, hc1, hs1, ht1⟩) | (go_at_call 31; refine (HF.out _ _ _ hs1).mono ?_; rintro e w2 ⟨rfl, hc2⟩))
    go_ret3
    exact ⟨ret_sb HQ.out rfl, hc1.trans hc2.of_nil, ht1.chg0 hc2⟩
  | true =>
    rw [hh] at HF
    obtain ⟨x, hx⟩ : ∃ x, l[posOf l key]? = some x := by
      unfold hasKey hasAt at hh
      cases hx : l[posOf l key]? with
      | none => rw [hx] at hh; cases hh
      | some x => exact ⟨x, rfl⟩
    have hq : x.2.2 = getVal l key := by simp [getVal, hh, hx]
    have HQ := Lib.hid hq
    have HX := Lib.hid hx
    have hpl : posOf l key < l.length := (List.getElem?_eq_some_iff.1 hx).1
    clear hh hx hq
    generalize hpe : posOf l key = p at *
    clear hpe
    go_enter Try.func15, Try.ntmps15
    go_wp2_with (first | (go_at_call 30; refine (load_is H.out).mono ?_; rintro e w1 ⟨v, rfl, hc1, hs1, ht1⟩; have HS1 := Lib.hid hs1; (rcases hs1.open with ⟨_, hn⟩ | ⟨g, cap, hv, hgb, hg, hcap, hmax, hcell⟩); (exfalso; rw [hn] at hpl; simp at hpl); obtain ⟨k0, k1, k2, _, _, _⟩ := hcell _ _ HX.out; subst hv; clear hs1 hcell) | (go_at_call 31; refine (HF.out _ _ _ HS1.out).mono ?_; rintro e w2 ⟨rfl, hc2⟩; rw [← hc2.cells0.1 _ _ hg] at k0 k1 k2))
    go_ret3
    exact ⟨ret_sb HQ.out rfl, hc1.trans hc2.of_nil, ht1.chg0 hc2⟩

set_option maxRecDepth 100000 in
set_option maxHeartbeats 800000 in
theorem next_is (h : TabIs w b clk cs own beg ver bx base n l) (key : ByteArray) : Calls Try.prog 11 #[.pointer (some ⟨bx, 0, none⟩), .string key] w fun e w' =>
    e = .returned (.tuple #[valV ((l[nextAt l key]?).getD MC.z.val), .bool (l[nextAt l key]?).isSome, .int .i64 0]) ∧ Chg [b.r] w w' ∧ TabIs w' b clk cs own beg ver bx base n l := by
  have H := Lib.hid h
  have hl : l.length ≤ 1000 := by have := h.len; have := h.small; omega
  have hp := posOf_le l key
  have hsp := posOf_spec h.rising.2 key
  have HP := Lib.hid hsp
  have hfnd : ∀ w' v B, Sl w' B v l → Calls Try.prog 31 #[v, .string key] w' fun e w'' => e = .returned (.tuple #[.int .i64 (posOf l key : Nat), .bool (hasKey l key)]) ∧ Chg [] w' w'' := fun w' v B hs => find_any hs key hl _ hp HP.out
  have HF := Lib.hid hfnd
  clear h hsp hfnd
  have hlts : b.t < w.heap.size ∧ b.m < w.heap.size ∧ b.c < w.heap.size ∧ b.s < w.heap.size ∧ b.r < w.heap.size ∧ b.w < w.heap.size ∧ bx < w.heap.size := by
    obtain ⟨R, W, h1, _⟩ := H.out.tx
    have := h1.tx.lts
    have := H.out.tab.cells.2.2.2
    omega
  have HLT := Lib.hid hlts
  clear hlts
  cases hh : hasKey l key with
  | false =>
    have hq : nextAt l key = posOf l key := by simp [nextAt, hh]
    rw [hq]
    rw [hh] at HF
    clear hq hh
    generalize hpe : posOf l key = p at *
    clear hpe
    cases hx : l[p]? with
    | none =>
      have hpl2 : l.length ≤ p := by have : ¬ p < l.length := (by simpa using hx); omega
      have HX := Lib.hid hx
      clear hx
      go_enter Try.func11, Try.ntmps11
      go_wp2_with (first | (go_at_call 30; refine (load_is (H.out.chg0 ((Chg.refl [] _).alloc _))).mono ?_; rintro e w1 ⟨v, rfl, hc1, hs1, ht1⟩; have hlen := hs1.lenRun; obtain ⟨q0, q1, q2, p0, p1, p2, hz1, hq1⟩ := hc1.keep3 (blk_new w _) (by have := HLT.out; simp; omega)) | (go_at_call 31; refine (HF.out _ _ _ hs1).mono ?_; rintro e w2 ⟨rfl, hc2⟩; obtain ⟨q0', q1', q2', p0', p1', p2', hz2, hq2⟩ := hc2.keep3 hq1 (by simp)))
      have hcc := (((Chg.refl [b.r] w).alloc _).trans hc1).trans hc2.of_nil
      refine bodyPost_ret (v := .tuple #[valV MC.z.val, .bool false, .int .i64 0]) (by simp [results, Try.results11, go_sem, valV, MC.z, q0', q1', q2']; try rfl) rfl ⟨rfl, ?_, (ht1.chg0 hc2).chg1 (chg3 w2 w.heap.size _ _ _) (by have := HLT.out; omega) (by have := HLT.out; omega)⟩
      repeat (first | exact hcc | refine Chg.setCell ?_ _ _ (.inr (Nat.le_refl _)))
    | some x =>
      have HX := Lib.hid hx
      have hpl : p < l.length := (List.getElem?_eq_some_iff.1 hx).1
      clear hx
      go_enter Try.func11, Try.ntmps11
      go_wp2_with (first | (go_at_call 30; refine (load_is (H.out.chg0 ((Chg.refl [] _).alloc _))).mono ?_; rintro e w1 ⟨v, rfl, hc1, hs1, ht1⟩; obtain ⟨q0, q1, q2, p0, p1, p2, hz1, hq1⟩ := hc1.keep3 (blk_new w _) (by have := HLT.out; simp; omega); have HS1 := Lib.hid hs1; (rcases hs1.open with ⟨_, hn⟩ | ⟨g, cap, hv, hgb, hg, hcap, hmax, hcell⟩); (exfalso; rw [hn] at hpl; simp at hpl); obtain ⟨k0, k1, k2, _, _, _⟩ := hcell _ _ HX.out; subst hv; clear hs1 hcell) | (go_at_call 31; refine (HF.out _ _ _ HS1.out).mono ?_; rintro e w2 ⟨rfl, hc2⟩; rw [← hc2.cells0.1 _ _ hg] at k0 k1 k2; obtain ⟨q0', q1', q2', p0', p1', p2', hz2, hq2⟩ := hc2.keep3 hq1 (by simp)))
      have hcc := (((Chg.refl [b.r] w).alloc _).trans hc1).trans hc2.of_nil
      refine bodyPost_ret (v := .tuple #[valV x, .bool true, .int .i64 0]) (by simp [results, Try.results11, go_sem, valV, q0', q1', q2']; try rfl) rfl ⟨rfl, ?_, (ht1.chg0 hc2).chg1 (chg3 w2 w.heap.size _ _ _) (by have := HLT.out; omega) (by have := HLT.out; omega)⟩
      repeat (first | exact hcc | refine Chg.setCell ?_ _ _ (.inr (Nat.le_refl _)))
  | true =>
    have hq : nextAt l key = posOf l key + 1 := by simp [nextAt, hh]
    rw [hq]
    rw [hh] at HF
    clear hq hh
    generalize hpe : posOf l key = p at *
    clear hpe
    cases hx : l[p + 1]? with
    | none =>
      have hpl2 : l.length ≤ p + 1 := by have : ¬ p + 1 < l.length := (by simpa using hx); omega
      have HX := Lib.hid hx
      clear hx
      go_enter Try.func11, Try.ntmps11
      go_wp2_with (first | (go_at_call 30; refine (load_is (H.out.chg0 ((Chg.refl [] _).alloc _))).mono ?_; rintro e w1 ⟨v, rfl, hc1, hs1, ht1⟩; have hlen := hs1.lenRun; obtain ⟨q0, q1, q2, p0, p1, p2, hz1, hq1⟩ := hc1.keep3 (blk_new w _) (by have := HLT.out; simp; omega)) | (go_at_call 31; refine (HF.out _ _ _ hs1).mono ?_; rintro e w2 ⟨rfl, hc2⟩; obtain ⟨q0', q1', q2', p0', p1', p2', hz2, hq2⟩ := hc2.keep3 hq1 (by simp)))
      have hcc := (((Chg.refl [b.r] w).alloc _).trans hc1).trans hc2.of_nil
      refine bodyPost_ret (v := .tuple #[valV MC.z.val, .bool false, .int .i64 0]) (by simp [results, Try.results11, go_sem, valV, MC.z, q0', q1', q2']; try rfl) rfl ⟨rfl, ?_, (ht1.chg0 hc2).chg1 (chg3 w2 w.heap.size _ _ _) (by have := HLT.out; omega) (by have := HLT.out; omega)⟩
      repeat (first | exact hcc | refine Chg.setCell ?_ _ _ (.inr (Nat.le_refl _)))
    | some x =>
      have HX := Lib.hid hx
      have hpl : p + 1 < l.length := (List.getElem?_eq_some_iff.1 hx).1
      clear hx
      go_enter Try.func11, Try.ntmps11
      go_wp2_with (first | (go_at_call 30; refine (load_is (H.out.chg0 ((Chg.refl [] _).alloc _))).mono ?_; rintro e w1 ⟨v, rfl, hc1, hs1, ht1⟩; obtain ⟨q0, q1, q2, p0, p1, p2, hz1, hq1⟩ := hc1.keep3 (blk_new w _) (by have := HLT.out; simp; omega); have HS1 := Lib.hid hs1; (rcases hs1.open with ⟨_, hn⟩ | ⟨g, cap, hv, hgb, hg, hcap, hmax, hcell⟩); (exfalso; rw [hn] at hpl; simp at hpl); obtain ⟨k0, k1, k2, _, _, _⟩ := hcell _ _ HX.out; subst hv; clear hs1 hcell) | (go_at_call 31; refine (HF.out _ _ _ HS1.out).mono ?_; rintro e w2 ⟨rfl, hc2⟩; rw [← hc2.cells0.1 _ _ hg] at k0 k1 k2; obtain ⟨q0', q1', q2', p0', p1', p2', hz2, hq2⟩ := hc2.keep3 hq1 (by simp)))
      have hcc := (((Chg.refl [b.r] w).alloc _).trans hc1).trans hc2.of_nil
      refine bodyPost_ret (v := .tuple #[valV x, .bool true, .int .i64 0]) (by simp [results, Try.results11, go_sem, valV, q0', q1', q2']; try rfl) rfl ⟨rfl, ?_, (ht1.chg0 hc2).chg1 (chg3 w2 w.heap.size _ _ _) (by have := HLT.out; omega) (by have := HLT.out; omega)⟩
      repeat (first | exact hcc | refine Chg.setCell ?_ _ _ (.inr (Nat.le_refl _)))
end
end Go.Proofs.Ytnijdnnnhkdjaaa
