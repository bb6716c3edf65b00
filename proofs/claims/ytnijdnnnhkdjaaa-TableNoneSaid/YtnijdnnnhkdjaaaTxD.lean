/- A transaction (layer 16) at entries: the contracts of ending it in vain, and of what it tells then. -/
import Derived.Test.YtnijdnnnhkdjaaaTxC
import Derived.Deep.DeepCutAuto
namespace Go.Proofs.Ytnijdnnnhkdjaaa
set_option linter.unusedSimpArgs false
set_option linter.unusedVariables false
open Go Go.RowKit Go.MapKept

set_option maxRecDepth 100000 in
set_option maxHeartbeats 800000 in
theorem owned_none {w : World} {bm bc : Nat} {clk : Int} {cs : List MC} (h : MemR w bm bc clk cs) (hn : 0 < cs.length) (hm : cs.length ≤ 1024) (o : Int) (ho : 1 ≤ o) (hf : ∀ (i : Nat) (c : MC), cs[i]? = some c → c.own ≠ o) :
    Calls Try.prog 54 #[.pointer (some ⟨bm, 0, none⟩), .int .i64 o] w fun e w' => e = .returned (.slice none 0 0) ∧ w = w' := by
  have hc : w.cell? ⟨bm, 0, none⟩ = some (.slice (some ⟨bc, 0, none⟩) cs.length cs.length) := cellAt h.hdr 0
  have lm := lt_of_blk h.hdr
  have lc := lt_of_blk h.row
  have H := Lib.hid h
  have HF := Lib.hid hf
  clear h hf
  go_enter Try.func54, Try.ntmps54
  go_wp2_with (go_at_call 53; refine (may_ok H.out 0 o (by omega) (by omega) ho).mono ?_; rintro e w' ⟨rfl, rfl⟩)
  go_loop [5, 16] (fun v i => v = .slice none 0 0 ∧ ∃ a : Nat, a ≤ cs.length ∧ i = .int .i64 a) (fun _ i => cs.length - (intOf i).toNat)
  case atStart => exact ⟨rfl, 0, by omega, rfl⟩
  case round =>
    obtain ⟨rfl, a, ha, rfl⟩ := hrel
    by_cases hab : a < cs.length
    · obtain ⟨c, hcc⟩ : ∃ c, cs[a]? = some c := ⟨cs[a]'hab, List.getElem?_eq_getElem hab⟩
      obtain ⟨_, _, _, _, k4⟩ := H.out.cell hcc
      have hne : (c.own == o) = false := beq_eq_false_iff_ne.2 (HF.out a c hcc)
      clear hcc
      go_wp2
      go_round
      case rel => exact ⟨rfl, a + 1, by omega, by go_num⟩
      case measure => simp [intOf]; omega
    · go_wp2
      go_ret
      exact ⟨rfl, rfl⟩

section
variable {w : World} {b : At} {clk : Int} {cs : List MC} {own beg st ver : Int} {R : List (Int × Int)} {W : List (Int × V)}

set_option maxRecDepth 100000 in
set_option maxHeartbeats 800000 in
theorem fail_any (h : TxR w b clk cs own beg 1 ver R W) (hn : 0 < cs.length) (hm : cs.length ≤ 1024) (ho : 1 ≤ own) (hf : ∀ (i : Nat) (c : MC), cs[i]? = some c → c.own ≠ own) :
    Calls Try.prog 40 #[.pointer (some ⟨b.t, 0, none⟩)] w fun e w' => e = .returned (.tuple #[]) ∧ Chg [b.t] w w' ∧ TxR w' b clk cs own beg 4 0 R W := by
  have c5 : w.cell? ⟨b.t, 5, none⟩ = some (.slice none 0 0) := cellAt h.hdr 5
  have c7 : w.cell? ⟨b.t, 7, none⟩ = some (.int .i64 ver) := cellAt h.hdr 7
  have f4 : w.frozen? ⟨b.t, 4, none⟩ = false := freeAt h.hdr 4
  have f5 : w.frozen? ⟨b.t, 5, none⟩ = false := freeAt h.hdr 5
  have f7 : w.frozen? ⟨b.t, 7, none⟩ = false := freeAt h.hdr 7
  obtain ⟨c0, c1, c2, c3, c4, hl⟩ := h.cells
  have H := Lib.hid h
  have HF := Lib.hid hf
  clear h hf
  go_enter Try.func40, Try.ntmps40
  go_upto_region 0 with fail
  go_cut [12, 13, 14] (fun s12 s13 s14 wx => s12 = .slice none 0 0 ∧ s13 = .int .i64 0 ∧ s14 = .int .i64 0 ∧ wx = w.drew)
  case first =>
    go_region_with (go_at_call 54; refine (owned_none (H.out.chg0 (by exact (Chg.refl [] w).drew)).mem hn hm own ho HF.out).mono ?_; rintro e w' ⟨rfl, rfl⟩)
    all_goals (go_wp2_with fail; go_meet; exact ⟨rfl, rfl, rfl, rfl⟩)
  case rest =>
  obtain ⟨rfl, rfl, rfl, hwc⟩ := hcut
  subst hwc
  go_wp2
  go_loop [14] (fun i => i = .int .i64 0) (fun _ => 0)
  case atStart => rfl
  case round =>
    obtain rfl := hrel
    go_wp2
    go_end0
    have h := H.out
    have hc : Chg [b.t] w (((w.drew.setCell ⟨b.t, 4, none⟩ (.int .u8 4)).setCell ⟨b.t, 7, none⟩ (.int .i64 0)).setCell ⟨b.t, 5, none⟩ (.slice none 0 0)) :=
      ((((Chg.refl [b.t] w).drew).setCell _ _ (by simp)).setCell _ _ (by simp)).setCell _ _ (by simp)
    have hd : w.drew.heap[b.t]? = _ := h.hdr
    refine ⟨rfl, hc, ?_, h.mem.chg hc ?_ ?_, h.sets.chg hc ?_ ?_ ?_⟩
    · have := blk_setCell (blk_setCell (blk_setCell h.hdr 4 (.int .u8 4)) 7 (.int .i64 0)) 5 (.slice none 0 0)
      show (((w.setCell ⟨b.t, 4, none⟩ (.int .u8 4)).setCell ⟨b.t, 7, none⟩ (.int .i64 0)).setCell ⟨b.t, 5, none⟩ (.slice none 0 0)).heap[b.t]? = _
      simpa using this
    · have := ne_type h.mem.hdr h.hdr (by decide); simpa using this
    · have := ne_type h.mem.row h.hdr (by decide); simpa using this
    · have := ne_type h.sets.hdr h.hdr (by decide); simpa using this
    · have := h.sets.reads.ne_cells h.hdr; simpa using fun e => this e.symm
    · have := h.sets.writes.ne_cells h.hdr; simpa using fun e => this e.symm

set_option maxRecDepth 100000 in
set_option maxHeartbeats 800000 in
theorem abort_any (h : TxR w b clk cs own beg 1 ver R W) (hn : 0 < cs.length) (hm : cs.length ≤ 1024) (ho : 1 ≤ own) (hf : ∀ (i : Nat) (c : MC), cs[i]? = some c → c.own ≠ own) :
    Calls Try.prog 24 #[.pointer (some ⟨b.t, 0, none⟩)] w fun e w' => e = .returned (.int .i64 0) ∧ Chg [b.t] w w' ∧ TxR w' b clk cs own beg 4 0 R W := by
  have c6 : w.cell? ⟨b.t, 6, none⟩ = some (.bool false) := cellAt h.hdr 6
  obtain ⟨c0, c1, c2, c3, c4, hl⟩ := h.cells
  have H := Lib.hid h
  have HF := Lib.hid hf
  clear h hf
  go_enter Try.func24, Try.ntmps24
  go_wp2_with (first | (go_at_call 43; refine (tright_any H.out).mono ?_; rintro e w' ⟨rfl, rfl⟩) | (go_at_call 40; refine (fail_any H.out hn hm ho HF.out).mono ?_; rintro e w1 ⟨rfl, hc1, h1⟩))
  go_ret
  exact ⟨rfl, hc1, h1⟩

set_option maxRecDepth 100000 in
set_option maxHeartbeats 800000 in
theorem tread_over (h : TxR w b clk cs own beg st ver R W) (i : Int) (hst : 2 ≤ st) :
    Calls Try.prog 20 #[.pointer (some ⟨b.t, 0, none⟩), .int .i64 i] w fun e w' => e = .returned (.tuple #[valV MC.z.val, .int .i64 132]) ∧ Chg [] w w' := by
  obtain ⟨c0, c1, c2, c3, c4, hl⟩ := h.cells
  have H := Lib.hid h
  clear h
  go_enter Try.func20, Try.ntmps20
  go_wp2_with (go_at_call 36; refine (topen_over (H.out.chg0 ((Chg.refl [] _).alloc _ |>.alloc _)) i hst).mono ?_; rintro e w' ⟨rfl, rfl⟩)
  refine bodyPost_ret (v := .tuple #[valV MC.z.val, .int .i64 132]) (by simp [results, Try.results20, go_sem, valV, MC.z]; try rfl) rfl ⟨rfl, ?_⟩
  repeat (first | exact Chg.refl _ _ | refine Chg.drew ?_ | refine Chg.drewN ?_ _ | refine Chg.alloc ?_ _ | refine Chg.setCell ?_ _ _ (by first | (left; simp; done) | (right; simp)))
end
end Go.Proofs.Ytnijdnnnhkdjaaa
