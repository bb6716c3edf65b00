/- The chapter's example: awake. -/
import Derived.Test.YtnijdnnnhkdjaaaTabG
import Derived.Test.YtnijdnnnhkdjaaaTabH
namespace Go.Proofs.Ytnijdnnnhkdjaaa
set_option linter.unusedSimpArgs false
set_option linter.unusedVariables false
open Go Go.RowKit Go.MapKept

section
variable {w : World} {b : At} {clk : Int} {cs : List MC} {own beg ver : Int} {bx base n : Nat} {l : List V}
theorem cur_pad {W : List (Int × V)} (h2 : vals cs W base n = padL l n) (hl : l.length ≤ n) (j : Nat) (hj : j < n) : curV cs W (base + j) = padV l j := by
  have e := congrArg (fun L => L[j]?) h2
  simp only [vals, List.getElem?_map, List.getElem?_range hj, Option.map_some] at e
  have e2 : (padL l n)[j]? = some (padV l j) := by
    unfold padL padV
    by_cases hil : j < l.length
    · rw [List.getElem?_append_left hil, List.getElem?_eq_getElem hil]; rfl
    · rw [List.getElem?_append_right (by omega), List.getElem?_replicate, if_pos (by omega)]
      have : l[j]? = none := by simp; omega
      rw [this]; rfl
  rw [e2] at e
  simpa using e
theorem read_is (h : TabIs w b clk cs own beg ver bx base n l) (j : Nat) (hj : j < n) : Calls Try.prog 20 #[.pointer (some ⟨b.t, 0, none⟩), .int .i64 ((base : Int) + (j : Int))] w fun e w' =>
    e = .returned (.tuple #[valV (padV l j), .int .i64 0]) ∧ Chg [b.r] w w' ∧ TabIs w' b clk cs own beg ver bx base n l := by
  obtain ⟨R, W, h1, h2⟩ := h.tx
  have := gread h1 (base + j) (by have := h.fits; omega)
  rw [cur_pad h2 h.len j hj, show ((base + j : Nat) : Int) = (base : Int) + (j : Int) by omega] at this
  exact this.mono fun e w' ⟨he, hc, R', hg⟩ => ⟨he, hc, ⟨R', W, hg, h2⟩, ⟨hc.at h.tab.hdr (by have := h1.tx.sets.reads.ne_cells h.tab.hdr; simpa using this)⟩, h.fits, h.rising, h.len, h.small⟩
theorem TabIs.lts (h : TabIs w b clk cs own beg ver bx base n l) : b.t < w.heap.size ∧ b.m < w.heap.size ∧ b.c < w.heap.size ∧ b.s < w.heap.size ∧ b.r < w.heap.size ∧ b.w < w.heap.size ∧ bx < w.heap.size := by
  obtain ⟨R, W, h1, _⟩ := h.tx
  have := h1.tx.lts
  have := h.tab.cells.2.2.2
  omega

theorem read_to {v : V} {i : Int} (h : TabIs w b clk cs own beg ver bx base n l) (j : Nat) (hj : j < n) (hi : (base : Int) + (j : Int) = i) (hv : padV l j = v) : Calls Try.prog 20 #[.pointer (some ⟨b.t, 0, none⟩), .int .i64 i] w fun e w' =>
    e = .returned (.tuple #[.agg #[.bool v.1, .string v.2.1, .string v.2.2], .int .i64 0]) ∧ Chg [b.r] w w' ∧ TabIs w' b clk cs own beg ver bx base n l := by
  have := read_is h j hj; rw [hi, hv] at this; exact this
theorem put_to {l' : List V} {e0 : Int} {key value : ByteArray} (h : TabIs w b clk cs own beg ver bx base n l) (h1 : putE l n key = e0) (h2 : putL l n key value = l') : Calls Try.prog 9 #[.pointer (some ⟨bx, 0, none⟩), .string key, .string value] w fun e w' =>
    e = .returned (.int .i64 e0) ∧ Chg [b.r, b.w] w w' ∧ TabIs w' b clk cs own beg ver bx base n l' := by
  have := put_is h key value; rw [h1, h2] at this; exact this
theorem get_to {k : Bool} {v : ByteArray} {key : ByteArray} (h : TabIs w b clk cs own beg ver bx base n l) (h1 : getVal l key = v) (h2 : hasKey l key = k) : Calls Try.prog 15 #[.pointer (some ⟨bx, 0, none⟩), .string key] w fun e w' =>
    e = .returned (.tuple #[.string v, .bool k, .int .i64 0]) ∧ Chg [b.r] w w' ∧ TabIs w' b clk cs own beg ver bx base n l := by
  have := get_is h key; rw [h1, h2] at this; exact this
theorem next_to {k : Bool} {v : V} {key : ByteArray} (h : TabIs w b clk cs own beg ver bx base n l) (h1 : (l[nextAt l key]?).getD MC.z.val = v) (h2 : (l[nextAt l key]?).isSome = k) : Calls Try.prog 11 #[.pointer (some ⟨bx, 0, none⟩), .string key] w fun e w' =>
    e = .returned (.tuple #[.agg #[.bool v.1, .string v.2.1, .string v.2.2], .bool k, .int .i64 0]) ∧ Chg [b.r] w w' ∧ TabIs w' b clk cs own beg ver bx base n l := by
  have := next_is h key; rw [h1, h2] at this; exact this
theorem remove_to {k : Bool} {l' : List V} {key : ByteArray} (h : TabIs w b clk cs own beg ver bx base n l) (h1 : hasKey l key = k) (h2 : (if hasKey l key then l.eraseIdx (posOf l key) else l) = l') : Calls Try.prog 18 #[.pointer (some ⟨bx, 0, none⟩), .string key] w fun e w' =>
    e = .returned (.tuple #[.bool k, .int .i64 0]) ∧ Chg [b.r, b.w] w w' ∧ TabIs w' b clk cs own beg ver bx base n l' := by
  have := remove_is h key; rw [h2, h1] at this; exact this
end

theorem Chg.two {S : List Nat} {w w1 : World} (h : Chg S w w1) {g : Nat} {x y z : Value} {T : TypeId} (hb : w.heap[g]? = some (.cells #[x, y, z] T (0, 0))) (hs : g ∉ S) : w1.heap[g]? = some (.cells #[x, y, z] T (0, 0)) := h.at hb hs

set_option maxRecDepth 100000 in
set_option maxHeartbeats 4000000 in
theorem awake_any (w : World) : Calls Try.prog 12 #[] w fun e w' => e = .returned (.bool true) ∧ Chg [] w w' := by
  have HB := Lib.hid (fun w' => begun_ok 4 1 2 w' (by omega) (by omega) (by omega) (by omega))
  have HB2 := Lib.hid (fun w' => begun_arg 300 0 201 w' (by omega) (by omega) (by omega))
  go_enter Try.func12, Try.ntmps12
  go_wp2_with (first
    | (go_at_call_of 13 (Value.int IntKind.i64 4); refine (HB.out _).mono ?_; rintro e w1 ⟨b, bx, rfl, hc1, h1, l1, l2, l3, l4, l5, l6, l7⟩)
    | (go_at_call_of 9 (Value.string ⟨#[49]⟩); refine (put_to (e0 := 0) (l' := [(true, ⟨#[98]⟩, ⟨#[49]⟩)]) h1 (by decide +kernel) (by decide +kernel)).mono ?_; rintro e w2 ⟨rfl, hc2, h2⟩)
    | (go_at_call_of 9 (Value.string ⟨#[50]⟩); refine (put_to (e0 := 0) (l' := [(true, ⟨#[97]⟩, ⟨#[50]⟩), (true, ⟨#[98]⟩, ⟨#[49]⟩)]) h2 (by decide +kernel) (by decide +kernel)).mono ?_; rintro e w3 ⟨rfl, hc3, h3⟩)
    | (go_at_call_of 9 (Value.string ⟨#[51]⟩); refine (put_to (e0 := 5) (l' := [(true, ⟨#[97]⟩, ⟨#[50]⟩), (true, ⟨#[98]⟩, ⟨#[49]⟩)]) h3 (by decide +kernel) (by decide +kernel)).mono ?_; rintro e w4 ⟨rfl, hc4, h4⟩)
    | (go_at_call_of 9 (Value.string ⟨#[52]⟩); refine (put_to (e0 := 0) (l' := [(true, ⟨#[97]⟩, ⟨#[50]⟩), (true, ⟨#[98]⟩, ⟨#[52]⟩)]) h4 (by decide +kernel) (by decide +kernel)).mono ?_; rintro e w5 ⟨rfl, hc5, h5⟩)
    | (go_at_call_of 20 (Value.int IntKind.i64 1); refine (read_to (v := (true, ⟨#[97]⟩, ⟨#[50]⟩)) h5 0 (by omega) (by omega) (by decide +kernel)).mono ?_; rintro e w6 ⟨rfl, hc6, h6⟩; have hz6 := Lib.hid h6.lts)
    | (go_at_call 11; refine (next_to (v := (true, ⟨#[98]⟩, ⟨#[52]⟩)) (k := true) (h6.chg0 ((Chg.refl [] _).alloc _)) (by decide +kernel) (by decide +kernel)).mono ?_; rintro e w7 ⟨rfl, hc7, h7⟩; have hz7 := Lib.hid h7.lts; have B7 := Lib.hid (hc7.two (blk_new w6 _) (by have := hz6.out; simp; omega)); have s7 := Lib.hid hc7.size)
    | (go_at_call 18; refine (remove_to (k := true) (l' := [(true, ⟨#[98]⟩, ⟨#[52]⟩)]) (h7.chg0 ((Chg.refl [] _).alloc _)) (by decide +kernel) (by decide +kernel)).mono ?_; rintro e w8 ⟨rfl, hc8, h8⟩; have B8 := Lib.hid (hc8.two (blk_alloc B7.out _) (by have := hz6.out; simp; omega)); have N8 := Lib.hid (hc8.two (blk_new w7 _) (by have := hz7.out; simp; omega)))
    | (go_at_call 15; refine (get_to (k := false) (v := .empty) h8 (by decide +kernel) (by decide +kernel)).mono ?_; rintro e w9 ⟨rfl, hc9, h9⟩; have B9 := Lib.hid (hc9.two B8.out (by have := hz6.out; simp; omega)); have N9 := Lib.hid (hc9.two N8.out (by have := hz7.out; simp; omega)))
    | (go_at_call_of 20 (Value.int IntKind.i64 2); refine (read_to (v := (false, ByteArray.empty, ByteArray.empty)) h9 1 (by omega) (by omega) (by decide +kernel)).mono ?_; rintro e w10 ⟨rfl, hc10, h10⟩; have B10 := Lib.hid (hc10.two B9.out (by have := hz6.out; simp; omega)); have N10 := Lib.hid (hc10.two N9.out (by have := hz7.out; simp; omega)))
    | (go_at_call_of 13 (Value.int IntKind.i64 300); refine (HB2.out _).mono ?_; rintro e w11 ⟨bt, rfl, hc11⟩; obtain ⟨q0, q1, q2, _, _, _, z1, _⟩ := hc11.keep3 (blk_alloc B10.out _) (by simp); obtain ⟨r0, r1, r2, _, _, _, z2, _⟩ := hc11.keep3 (blk_alloc N10.out _) (by simp); obtain ⟨s0, s1, s2, _, _, _, z3, _⟩ := hc11.keep3 (blk_new w10 _) (by simp)))
  all_goals go_ret
  all_goals
    have F : ∀ x ∈ [b.r, b.w], x ∈ ([] : List Nat) ∨ w.heap.size ≤ x := by intro x hx; simp at hx; right; omega
    have F1 : ∀ x ∈ [b.r], x ∈ ([] : List Nat) ∨ w.heap.size ≤ x := by intro x hx; simp at hx; right; omega
    exact ⟨rfl, ((((((((((hc1.trans' hc2 F).trans' hc3 F).trans' hc4 F).trans' hc5 F).trans' hc6 F1).alloc _).trans' hc7 F1).alloc _).trans' hc8 F).trans' hc9 F1 |>.trans' hc10 F1 |>.alloc _).trans hc11⟩
end Go.Proofs.Ytnijdnnnhkdjaaa
