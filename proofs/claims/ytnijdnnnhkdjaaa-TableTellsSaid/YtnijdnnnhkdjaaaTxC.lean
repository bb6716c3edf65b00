/- A transaction (layer 16) at entries: the contract of reading a cell that it does not write. -/
import Derived.Test.YtnijdnnnhkdjaaaTxB
namespace Go.Proofs.Ytnijdnnnhkdjaaa
set_option linter.unusedSimpArgs false
set_option linter.unusedVariables false
open Go Go.RowKit Go.MapKept

section
variable {w : World} {b : At} {clk : Int} {cs : List MC} {own beg st ver : Int} {R : List (Int × Int)} {W : List (Int × V)}

set_option maxRecDepth 100000 in
set_option maxHeartbeats 800000 in
theorem tread_c (h : TxR w b clk cs own beg 1 ver R W) (i : Int) (h0 : 0 ≤ i) (h1 : i < cs.length) (hm : cs.length ≤ 1024) (hv : lookK i W = none) (c : MC) (hc : cs[i.toNat]? = some c) (ho : c.own = 0) (hb : c.ver ≤ beg) (hp : 0 ≤ c.ver)
    (hR : (lookK i R = none ∧ R.length < 256) ∨ lookK i R = some c.ver) :
    Calls Try.prog 20 #[.pointer (some ⟨b.t, 0, none⟩), .int .i64 i] w fun e w' => e = .returned (.tuple #[valV c.val, .int .i64 0]) ∧ Chg [b.r] w w' ∧ TxR w' b clk cs own beg 1 ver (putK i c.ver R) W := by
  obtain ⟨c0, c1, c2, c3, c4, hl⟩ := h.cells
  have H := Lib.hid h
  clear h
  have HV0 : ∀ w', TxR w' b clk cs own beg 1 ver R W → Calls Try.prog 37 #[.pointer (some ⟨b.s, 0, none⟩), .int .i64 i] w' fun e w'' => e = .returned (.tuple #[.agg #[.bool false, .string .empty, .string .empty], .bool false]) ∧ Chg [] w' w'' := fun w' h' => by
    have := value_any h'.sets i; rw [hv] at this; exact this
  have HV := Lib.hid HV0
  clear HV0 hv
  have HL0 : ∀ w', TxR w' b clk cs own beg 1 ver R W → Calls Try.prog 38 #[.pointer (some ⟨b.m, 0, none⟩), .int .i64 i] w' fun e w'' => e = .returned (.tuple #[.agg #[.bool c.val.1, .string c.val.2.1, .string c.val.2.2], .int .i64 c.ver, .int .i64 0, .int .i64 0]) ∧ Chg [] w' w'' := fun w' h' => by
    have := load_ok h'.mem i h0 h1 c hc; rw [ho] at this; exact this
  have HL := Lib.hid HL0
  clear HL0 hc ho
  have HS0 : ∀ w', TxR w' b clk cs own beg 1 ver R W → Calls Try.prog 41 #[.pointer (some ⟨b.s, 0, none⟩), .int .i64 i, .int .i64 c.ver] w' fun e w'' => e = .returned (.int .i64 0) ∧ Chg [b.r] w' w'' ∧ TxR w'' b clk cs own beg 1 ver (putK i c.ver R) W := fun w' h' => by
    rcases hR with ⟨hR, hn⟩ | hR
    · exact (read_new h'.sets i c.ver h0 (by omega) hp hR hn).mono fun e w'' ⟨a, b, c⟩ => ⟨a, b, h'.read_blk b c⟩
    · exact (read_old h'.sets i c.ver h0 (by omega) hp hR).mono fun e w'' ⟨a, b, c⟩ => ⟨a, b, h'.read_blk b c⟩
  have HS := Lib.hid HS0
  clear HS0
  have HN0 : ∀ w', TxR w' b clk cs own beg 1 ver R W → Calls Try.prog 39 #[.pointer (some ⟨b.s, 0, none⟩), .int .i64 i] w' fun e w'' => ∃ n : Int, ∃ k : Bool, e = .returned (.tuple #[.int .i64 n, .bool k]) ∧ (k = true → n = c.ver) ∧ w' = w'' := fun w' h' =>
    (seen_any h'.sets i).mono fun e w'' ⟨a, b⟩ => by
      rcases hR with ⟨hR, hn⟩ | hR
      · rw [hR] at a; exact ⟨_, _, a, by simp, b⟩
      · rw [hR] at a; exact ⟨_, _, a, by simp, b⟩
  have HN := Lib.hid HN0
  clear HN0 hR
  have e1 : ¬ beg < c.ver := by omega
  go_enter Try.func20, Try.ntmps20
  go_wp2_with (first
    | (go_at_call 36; refine (topen_ok (H.out.chg0 ((Chg.refl [] _).alloc _ |>.alloc _)) i h0 h1).mono ?_; rintro e w' ⟨rfl, rfl⟩)
    | (go_at_call 37; refine (HV.out _ (H.out.chg0 ((Chg.refl [] _).alloc _ |>.alloc _))).mono ?_; rintro e w1 ⟨rfl, hc1⟩; have H1 := Lib.hid (H.out.chg0 (((Chg.refl [] w).alloc _ |>.alloc _).trans hc1)); obtain ⟨q0, q1, q2, p0, p1, p2, hz1, hq⟩ := hc1.keep3 (blk_alloc (blk_new w _) _) (by simp); obtain ⟨d0, d1, d2, d3, d4, hl1⟩ := H1.out.cells)
    | (go_at_call 38; refine (HL.out _ (H1.out.chg0 ((Chg.refl [] _).alloc _))).mono ?_; rintro e w2 ⟨rfl, hc2⟩; have H2 := Lib.hid (H1.out.chg0 (((Chg.refl [] w1).alloc _).trans hc2)); obtain ⟨q0', q1', q2', p0', p1', p2', hz2, hq2⟩ := hc2.keep3 (blk_alloc hq _) (by simp); obtain ⟨d0', d1', d2', d3', d4', hl2⟩ := H2.out.cells)
    | (go_at_call 39; refine (HN.out _ (H2.out.chg0 ((Chg.refl [] _).alloc _))).mono ?_; rintro e w' ⟨n, k, rfl, hk, rfl⟩; rcases k with _ | _; clear hk; rotate_left; (have hk := hk rfl; subst hk))
    | (go_at_call 41; refine (HS.out _ (H2.out.chg0 ((Chg.refl [] _).alloc _))).mono ?_; rintro e w3 ⟨rfl, hc3, H3o⟩; have H3 := Lib.hid H3o; clear H3o; obtain ⟨q0v, q1v, q2v, p0v, p1v, p2v, hz3, hq3⟩ := hc3.keep3 (blk_new w2 _) (by have := H2.out.sets.reads.lt; simp; omega); obtain ⟨q0r, q1r, q2r, p0r, p1r, p2r, hz4, hq4⟩ := hc3.keep3 (blk_alloc hq2 _) (by have := H.out.sets.reads.lt; simp; omega)))
  all_goals
    refine bodyPost_ret (v := .tuple #[valV c.val, .int .i64 0]) (by simp [results, Try.results20, go_sem, valV, q0r, q1r, q2r]) rfl ⟨rfl, ?_⟩
    have hc := ((((Chg.refl [b.r] w).alloc _ |>.alloc _).trans hc1.of_nil).alloc _).trans hc2.of_nil |>.alloc _ |>.trans hc3
    have hd : Chg [w.heap.size] w3 (((w3.setCell ⟨w.heap.size, 0, none⟩ (.bool c.val.1)).setCell ⟨w.heap.size, 1, none⟩ (.string c.val.2.1)).setCell ⟨w.heap.size, 2, none⟩ (.string c.val.2.2)) := by
      repeat (first | exact Chg.refl _ _ | refine Chg.setCell ?_ _ _ (by left; simp))
    have hl := H.out.lts
    refine ⟨?_, H3.out.chg1 hd (by omega)⟩
    repeat (first | exact hc | refine Chg.setCell ?_ _ _ (by right; simp))
end
end Go.Proofs.Ytnijdnnnhkdjaaa
