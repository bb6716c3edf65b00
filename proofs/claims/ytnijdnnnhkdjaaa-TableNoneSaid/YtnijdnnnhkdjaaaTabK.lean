/- The table's calls that are refused: no table, no transaction, one that is over, cells that are no table. -/
import Derived.Test.YtnijdnnnhkdjaaaTabJ
import Derived.Test.YtnijdnnnhkdjaaaTxD
namespace Go.Proofs.Ytnijdnnnhkdjaaa
set_option linter.unusedSimpArgs false
set_option linter.unusedVariables false
open Go Go.RowKit Go.MapKept

theorem find_nil (w : World) (key : ByteArray) : Calls Try.prog 31 #[.slice none 0 0, .string key] w fun e w' => e = .returned (.tuple #[.int .i64 0, .bool false]) ∧ Chg [] w w' := by
  have := find_any (w := w) (base := 0) (l := []) (v := .slice none 0 0) (World.ownsRow_nil w 0 _ _) key (by simp) 0 (by simp) (by simp)
  simpa [hasAt] using this

set_option maxRecDepth 100000 in
set_option maxHeartbeats 800000 in
theorem of_nil (w : World) (i n : Int) : Calls Try.prog 8 #[.pointer none, .int .i64 i, .int .i64 n] w fun e w' => e = .returned (.tuple #[.pointer none, .int .i64 1]) ∧ Chg [] w w' := by
  go_enter Try.func8, Try.ntmps8
  go_wp2_with (go_at_call 28; refine (tstatus_nil w).mono ?_; rintro e w' ⟨rfl, rfl⟩)
  go_ret2
  exact ⟨rfl, Chg.refl _ _⟩

set_option maxRecDepth 100000 in
set_option maxHeartbeats 800000 in
theorem load_nil (w : World) : Calls Try.prog 30 #[.pointer none] w fun e w' => e = .returned (.tuple #[.slice none 0 0, .int .i64 1]) ∧ Chg [] w w' := by
  go_enter Try.func30, Try.ntmps30
  go_wp2
  go_ret2
  exact ⟨rfl, Chg.refl _ _⟩

set_option maxRecDepth 100000 in
set_option maxHeartbeats 800000 in
theorem load_zero (w : World) (bx : Nat) (h : w.heap[bx]? = some (.cells #[.pointer none, .int .i64 0, .int .i64 0] 65 (0, 0))) : Calls Try.prog 30 #[.pointer (some ⟨bx, 0, none⟩)] w fun e w' => e = .returned (.tuple #[.slice none 0 0, .int .i64 1]) ∧ Chg [] w w' := by
  have c0 : w.cell? ⟨bx, 0, none⟩ = some (.pointer none) := cellAt h 0
  go_enter Try.func30, Try.ntmps30
  go_wp2
  go_ret2
  exact ⟨rfl, Chg.refl _ _⟩

/-- What the calls tell where load tells an error. -/
def LoadErr (w : World) (x : Value) (S : List Nat) (err : Int) (Q : World → Prop) : Prop :=
  Calls Try.prog 30 #[x] w fun e w' => e = .returned (.tuple #[.slice none 0 0, .int .i64 err]) ∧ Chg S w w' ∧ Q w'

set_option maxRecDepth 100000 in
set_option maxHeartbeats 800000 in
theorem list_err {w : World} {x : Value} {S : List Nat} {err : Int} {Q : World → Prop} (h : LoadErr w x S err Q) : Calls Try.prog 10 #[x] w fun e w' => e = .returned (.tuple #[.slice none 0 0, .int .i64 err]) ∧ Chg S w w' ∧ Q w' := by
  go_enter Try.func10, Try.ntmps10
  go_wp2_with (go_at_call 30; refine (Calls.mono h ?_); rintro e w1 ⟨rfl, hc1, hq1⟩)
  go_ret2
  exact ⟨rfl, hc1, hq1⟩

set_option maxRecDepth 100000 in
set_option maxHeartbeats 800000 in
theorem get_err {w : World} {x : Value} {S : List Nat} {err : Int} {Q : World → Prop} (h : LoadErr w x S err Q) (hQ : ∀ w1 w2, Q w1 → Chg [] w1 w2 → Q w2) (key : ByteArray) : Calls Try.prog 15 #[x, .string key] w fun e w' => e = .returned (.tuple #[.string .empty, .bool false, .int .i64 err]) ∧ Chg S w w' ∧ Q w' := by
  have HQ := Lib.hid hQ
  clear hQ
  go_enter Try.func15, Try.ntmps15
  go_wp2_with (first | (go_at_call 30; refine (Calls.mono h ?_); rintro e w1 ⟨rfl, hc1, hq1⟩) | (go_at_call 31; refine (find_nil _ _).mono ?_; rintro e w2 ⟨rfl, hc2⟩))
  go_ret3
  exact ⟨rfl, hc1.trans hc2.of_nil, HQ.out _ _ hq1 hc2⟩

set_option maxRecDepth 100000 in
set_option maxHeartbeats 800000 in
theorem put_err {w : World} {x : Value} {S : List Nat} {err : Int} {Q : World → Prop} (h : LoadErr w x S err Q) (he : (err != 0) = true) (key value : ByteArray) : Calls Try.prog 9 #[x, .string key, .string value] w fun e w' => e = .returned (.int .i64 err) ∧ Chg S w w' ∧ Q w' := by
  go_enter Try.func9, Try.ntmps9
  go_wp2_with (first | (go_at_call 30; refine (Calls.mono h ?_); rintro e w1 ⟨rfl, hc1, hq1⟩))
  go_ret
  exact ⟨rfl, hc1, hq1⟩

set_option maxRecDepth 100000 in
set_option maxHeartbeats 800000 in
theorem remove_err {w : World} {x : Value} {S : List Nat} {err : Int} {Q : World → Prop} (h : LoadErr w x S err Q) (hQ : ∀ w1 w2, Q w1 → Chg [] w1 w2 → Q w2) (key : ByteArray) : Calls Try.prog 18 #[x, .string key] w fun e w' => e = .returned (.tuple #[.bool false, .int .i64 err]) ∧ Chg S w w' ∧ Q w' := by
  have HQ := Lib.hid hQ
  clear hQ
  go_enter Try.func18, Try.ntmps18
  go_wp2_with (first | (go_at_call 30; refine (Calls.mono h ?_); rintro e w1 ⟨rfl, hc1, hq1⟩) | (go_at_call 31; refine (find_nil _ _).mono ?_; rintro e w2 ⟨rfl, hc2⟩))
  go_ret2
  exact ⟨rfl, hc1.trans hc2.of_nil, HQ.out _ _ hq1 hc2⟩

set_option maxRecDepth 100000 in
set_option maxHeartbeats 3200000 in
theorem load_over {w : World} {b : At} {clk : Int} {cs : List MC} {own beg st ver : Int} {R : List (Int × Int)} {W : List (Int × V)} {bx base n : Nat} (h : TxR w b clk cs own beg st ver R W) (hst : 2 ≤ st) (ht : TabR w bx b.t base n) (hn : 1 ≤ n) (hn2 : n ≤ 200) (hb : base ≤ 1000) : LoadErr w (.pointer (some ⟨bx, 0, none⟩)) [] 132 (fun _ => True) := by
  unfold LoadErr
  obtain ⟨c0, c1, c2, hl⟩ := ht.cells
  have hrd : ∀ w' (i : Int), TxR w' b clk cs own beg st ver R W → Calls Try.prog 20 #[.pointer (some ⟨b.t, 0, none⟩), .int .i64 i] w' fun e w'' => e = .returned (.tuple #[.agg #[.bool false, .string .empty, .string .empty], .int .i64 132]) ∧ Chg [] w' w'' := fun w' i h' => tread_over h' i hst
  have HRD := Lib.hid hrd
  have H := Lib.hid h
  clear ht h hrd
  go_enter Try.func30, Try.ntmps30
  go_wp2
  go_loopw [4, 21] (fun v i wr => v = .slice none 0 0 ∧ i = .int .i64 0 ∧ wr = w) (fun _ _ _ => 0)
  case atStart => exact ⟨rfl, rfl, rfl⟩
  case round =>
    obtain ⟨rfl, rfl, rfl⟩ := hrel
    go_upto_region 7 with fail
    go_cut [6, 7] (fun s6 s7 wx => s7 = .int .i64 132 ∧ Chg [] wr wx)
    case first =>
      go_region_with (go_at_call 20; refine (HRD.out _ _ (H.out.chg0 (by repeat (first | exact Chg.refl _ _ | refine Chg.drew ?_ | refine Chg.alloc ?_ _)))).mono ?_; rintro e w1 ⟨rfl, hc1⟩; first | (obtain ⟨q0, q1, q2, p0, p1, p2, hz, hq⟩ := hc1.keep3 (blk_new wr _) (by simp)) | skip)
      all_goals (go_wp2_with fail; go_meet)
      all_goals
        first
          | exact ⟨rfl, ((((Chg.refl [] wr).alloc _).drew.trans hc1).setCell _ _ (.inr (Nat.le_refl _)) |>.setCell _ _ (.inr (Nat.le_refl _)) |>.setCell _ _ (.inr (Nat.le_refl _)))⟩
          | exact ⟨rfl, ((Chg.refl [] wr).drew.trans hc1).alloc _⟩
    case rest =>
    obtain ⟨rfl, hcx⟩ := hcut
    have HCX := Lib.hid hcx
    clear hcx
    go_wp2
    go_ret2
    exact ⟨rfl, HCX.out, trivial⟩
end Go.Proofs.Ytnijdnnnhkdjaaa
