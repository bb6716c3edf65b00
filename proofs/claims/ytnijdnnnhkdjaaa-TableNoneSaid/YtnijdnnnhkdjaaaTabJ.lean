/- The walk of TableNumbers. -/
import Derived.Test.YtnijdnnnhkdjaaaTabI
namespace Go.Proofs.Ytnijdnnnhkdjaaa
set_option linter.unusedSimpArgs false
set_option linter.unusedVariables false
open Go Go.RowKit Go.MapKept

theorem list_to {w : World} {b : At} {clk : Int} {cs : List MC} {own beg ver : Int} {bx base n : Nat} {l : List V} (h : TabIs w b clk cs own beg ver bx base n l) (hl : 0 < l.length) : Calls Try.prog 10 #[.pointer (some ⟨bx, 0, none⟩)] w fun e w' =>
    ∃ g cap, e = .returned (.tuple #[.slice (some ⟨g, 0, none⟩) l.length cap, .int .i64 0]) ∧ Chg [b.r] w w' ∧ Sl w' w.heap.size (.slice (some ⟨g, 0, none⟩) l.length cap) l ∧ TabIs w' b clk cs own beg ver bx base n l ∧ l.length ≤ cap ∧ cap ≤ 9223372036854775807 := by
  refine (list_is h).mono fun e w' ⟨v, he, hc, hs, ht⟩ => ?_
  rcases hs.open with ⟨_, rfl⟩ | ⟨g, cap, rfl, _, _, hcap, hmax, _⟩
  · simp at hl
  · exact ⟨g, cap, he, hc, hs, ht, hcap, by unfold maxLen at hmax; omega⟩
theorem Sl.key {w : World} {base g n cap : Nat} {l : List V} (h : Sl w base (.slice (some ⟨g, 0, none⟩) n cap) l) (i o : Nat) (x : V) (hx : l[i]? = some x) (ho : i * 3 + 1 = o) : w.cell? ⟨g, o, none⟩ = some (.string x.2.1) := by
  rcases h.open with ⟨hv, _⟩ | ⟨g', cap', hv, _, _, _, _, hc⟩
  · simp at hv
  · simp only [Value.slice.injEq, Option.some.injEq, Addr.mk.injEq] at hv
    obtain ⟨⟨rfl, _⟩, _, rfl⟩ := hv
    rw [← ho]; exact (hc i x hx).2.1

set_option maxRecDepth 100000 in
set_option maxHeartbeats 8000000 in
theorem numbers_any (w : World) : Calls Try.prog 3 #[] w fun e w' => e = .returned (.bool true) ∧ Chg [] w w' := by
  have hM := fun w' => mnew_ok 4 w' (by omega) (by omega)
  have HM := Lib.hid hM
  clear hM
  go_enter Try.func3, Try.ntmps3
  go_wp2_with (first
    | (go_at_call 6; refine (HM.out _).mono ?_; rintro e w1 ⟨bm, bc, rfl, hc1, hm1, l1, l2⟩; have HM1 := Lib.hid hm1; clear hm1)
    | (go_at_call 7; refine (tbegin_ok HM1.out 1 (by omega) (by simp)).mono ?_; rintro e w2 ⟨b, rfl, hc2, rfl, rfl, ht2, l3, l4, l5, l6⟩; have HT2 := Lib.hid ht2; clear ht2)
    | (go_at_call 8; refine (of_ok HT2.out 0 4 (by omega) (by omega) (by omega) (by simp) (by simp)).mono ?_; rintro e w3 ⟨bx, rfl, hc3, hx3, l7⟩; have h0 := Lib.hid (fresh_tab (k := 4) (base := 0) (n := 4) (HT2.out.chg0 hc3) (by omega) ⟨hx3⟩ (by omega) (by omega)); clear hx3)
    | (go_at_call_of 9 (Value.string ⟨#[97, 33]⟩); refine (put_to (e0 := 0) (l' := [(true, ⟨#[97, 33]⟩, ⟨#[50]⟩)]) h0.out (by decide +kernel) (by decide +kernel)).mono ?_; rintro e w4 ⟨rfl, hc4, h4⟩)
    | (go_at_call_of 9 (Value.string ⟨#[49]⟩); refine (put_to (e0 := 0) (l' := [(true, ⟨#[97]⟩, ⟨#[49]⟩), (true, ⟨#[97, 33]⟩, ⟨#[50]⟩)]) h4 (by decide +kernel) (by decide +kernel)).mono ?_; rintro e w5 ⟨rfl, hc5, h5⟩)
    | (go_at_call_of 9 (Value.string ⟨#[97, 98]⟩); refine (put_to (e0 := 0) (l' := [(true, ⟨#[97]⟩, ⟨#[49]⟩), (true, ⟨#[97, 33]⟩, ⟨#[50]⟩), (true, ⟨#[97, 98]⟩, ⟨#[51]⟩)]) h5 (by decide +kernel) (by decide +kernel)).mono ?_; rintro e w6 ⟨rfl, hc6, h6⟩)
    | (go_at_call_of 9 (Value.string ⟨#[48]⟩); refine (put_to (e0 := 0) (l' := [(true, .empty, ⟨#[48]⟩), (true, ⟨#[97]⟩, ⟨#[49]⟩), (true, ⟨#[97, 33]⟩, ⟨#[50]⟩), (true, ⟨#[97, 98]⟩, ⟨#[51]⟩)]) h6 (by decide +kernel) (by decide +kernel)).mono ?_; rintro e w7 ⟨rfl, hc7, h7⟩)
    | (go_at_call_of 9 (Value.string ⟨#[52]⟩); refine (put_to (e0 := 5) (l' := [(true, .empty, ⟨#[48]⟩), (true, ⟨#[97]⟩, ⟨#[49]⟩), (true, ⟨#[97, 33]⟩, ⟨#[50]⟩), (true, ⟨#[97, 98]⟩, ⟨#[51]⟩)]) h7 (by decide +kernel) (by decide +kernel)).mono ?_; rintro e w8 ⟨rfl, hc8, h8⟩)
    | (go_at_call 10; refine (list_to h8 (by decide)).mono ?_; rintro e w9 ⟨g, cap, rfl, hc9, hs9, h9, hcap, hmax⟩; have HS9 := Lib.hid hs9; clear hs9; have hz9 := Lib.hid h9.lts; have GB := Lib.hid ((World.ownsRow.lt HS9.out) g rfl); have hz8 := Lib.hid h8.lts)
    | (go_at_call_of 11 (Value.string ⟨#[97]⟩); refine (next_to (v := (true, ⟨#[97, 33]⟩, ⟨#[50]⟩)) (k := true) h9 (by decide +kernel) (by decide +kernel)).mono ?_; rintro e w10 ⟨rfl, hc10, h10⟩; have hz10 := Lib.hid h10.lts)
    | (go_at_call_of 11 (Value.string ⟨#[97, 34]⟩); refine (next_to (v := (true, ⟨#[97, 98]⟩, ⟨#[51]⟩)) (k := true) (h10.chg0 ((Chg.refl [] _).alloc _)) (by decide +kernel) (by decide +kernel)).mono ?_; rintro e w11 ⟨rfl, hc11, h11⟩; have hz11 := Lib.hid h11.lts; have N11 := Lib.hid (hc11.two (blk_new w10 _) (by have := hz10.out; simp; omega)))
    | (go_at_call_of 11 (Value.string ⟨#[97, 98]⟩); refine (next_to (v := (false, .empty, .empty)) (k := false) (h11.chg0 ((Chg.refl [] _).alloc _)) (by decide +kernel) (by decide +kernel)).mono ?_; rintro e w12 ⟨rfl, hc12, h12⟩; have N12 := Lib.hid (hc12.two (blk_alloc N11.out _) (by have := hz10.out; simp; omega)); have O12 := Lib.hid (hc12.two (blk_new w11 _) (by have := hz11.out; simp; omega)); have HS12 := Lib.hid (((HS9.out.chg hc10 (fun k hk => by simp [Value.ownBlock] at hk; have := GB.out; have := hz8.out; simp; omega)).chg0 ((Chg.refl [] _).alloc _) |>.chg hc11 (fun k hk => by simp [Value.ownBlock] at hk; have := GB.out; have := hz8.out; simp; omega)).chg0 ((Chg.refl [] _).alloc _) |>.chg hc12 (fun k hk => by simp [Value.ownBlock] at hk; have := GB.out; have := hz8.out; simp; omega)); have k0 := HS12.out.key 0 1 _ rfl rfl; have k1 := HS12.out.key 1 4 _ rfl rfl; have k2 := HS12.out.key 2 7 _ rfl rfl; have k3 := HS12.out.key 3 10 _ rfl rfl; have kg := World.block_lt_of_cell? _ _ k0; obtain ⟨n0, n1, n2, _, _, _, zn, _⟩ := (Chg.refl [] w12).keep3 N12.out (by simp); obtain ⟨o0, o1, o2, _, _, _, zo, _⟩ := (Chg.refl [] w12).keep3 O12.out (by simp))
    | (go_at_call 12; refine (awake_any _).mono ?_; rintro e w13 ⟨rfl, hc13⟩))
  all_goals go_ret
  all_goals
    have z1 := hc1.size
    have z2 := hc2.size
    have F : ∀ x ∈ [b.r, b.w], x ∈ ([] : List Nat) ∨ w.heap.size ≤ x := by intro x hx; simp at hx; right; omega
    have F1 : ∀ x ∈ [b.r], x ∈ ([] : List Nat) ∨ w.heap.size ≤ x := by intro x hx; simp at hx; right; omega
    exact ⟨rfl, ((((((((((hc1.trans hc2).trans hc3).trans' hc4 F).trans' hc5 F).trans' hc6 F).trans' hc7 F).trans' hc8 F).trans' hc9 F1).trans' hc10 F1).alloc _ |>.trans' hc11 F1 |>.alloc _ |>.trans' hc12 F1 |>.alloc _).trans hc13⟩
end Go.Proofs.Ytnijdnnnhkdjaaa
