/- The memory of cells (layer 14) at entries: what lies in memory, and the contracts of its reading functions. -/
import Derived.Test.YtnijdnnnhkdjaaaBase
namespace Go.Proofs.Ytnijdnnnhkdjaaa
set_option linter.unusedSimpArgs false
set_option linter.unusedVariables false
open Go Go.RowKit Go.MapKept

/-- A cell: its value, its version, its owner. -/
abbrev V := Bool × ByteArray × ByteArray
structure MC where
  val : V
  ver : Int
  own : Int
def encV (v : V) : List Value := [.bool v.1, .string v.2.1, .string v.2.2]
def valV (v : V) : Value := .agg #[.bool v.1, .string v.2.1, .string v.2.2]
def MC.enc (c : MC) : List Value := encV c.val ++ [.int .i64 c.ver, .int .i64 c.own]
def MC.z : MC := ⟨(false, .empty, .empty), 0, 0⟩

/-- A memory of cells lies at bm, its cells at bc. -/
structure MemR (w : World) (bm bc : Nat) (clk : Int) (cs : List MC) : Prop where
  hdr : w.heap[bm]? = some (.cells #[.slice (some ⟨bc, 0, none⟩) cs.length cs.length, .int .i64 clk] 72 (0, 0))
  row : w.heap[bc]? = some (.cells (cs.flatMap MC.enc).toArray 112 (0, 0))

theorem MemR.chg {S : List Nat} {w w' : World} {bm bc : Nat} {clk : Int} {cs : List MC} (h : MemR w bm bc clk cs) (hc : Chg S w w') (h1 : bm ∉ S) (h2 : bc ∉ S) : MemR w' bm bc clk cs :=
  ⟨hc.at h.hdr h1, hc.at h.row h2⟩

theorem flat_at (cs : List MC) (i j : Nat) (hj : j < 5) : (cs.flatMap MC.enc)[i * 5 + j]? = (cs[i]?).bind fun c => c.enc[j]? := by
  induction cs generalizing i with
  | nil => simp
  | cons c r ih =>
    have hl : c.enc.length = 5 := by simp [MC.enc, encV]
    cases i with
    | zero => rw [List.flatMap_cons, List.getElem?_append_left (by omega)]; simp
    | succ i => rw [List.flatMap_cons, List.getElem?_append_right (by omega), hl, show (i + 1) * 5 + j - 5 = i * 5 + j by omega, ih]; simp

theorem MemR.cell {w : World} {bm bc : Nat} {clk : Int} {cs : List MC} (h : MemR w bm bc clk cs) {i : Nat} {c : MC} (hi : cs[i]? = some c) :
    w.cell? ⟨bc, i * 5, none⟩ = some (.bool c.val.1) ∧ w.cell? ⟨bc, i * 5 + 1, none⟩ = some (.string c.val.2.1) ∧ w.cell? ⟨bc, i * 5 + 2, none⟩ = some (.string c.val.2.2) ∧
    w.cell? ⟨bc, i * 5 + 3, none⟩ = some (.int .i64 c.ver) ∧ w.cell? ⟨bc, i * 5 + 4, none⟩ = some (.int .i64 c.own) := by
  have k : ∀ j, j < 5 → w.cell? ⟨bc, i * 5 + j, none⟩ = c.enc[j]? := by
    intro j hj
    rw [cellAt h.row]
    have := flat_at cs i j hj
    simp only [hi, Option.bind_some] at this
    simpa using this
  exact ⟨k 0 (by omega), k 1 (by omega), k 2 (by omega), k 3 (by omega), k 4 (by omega)⟩

set_option maxHeartbeats 400000 in
theorem right_any {w : World} {bm bc : Nat} {clk : Int} {cs : List MC} (h : MemR w bm bc clk cs) (hn : 0 < cs.length) :
    Calls Try.prog 44 #[.pointer (some ⟨bm, 0, none⟩)] w fun e w' => e = .returned (.bool true) ∧ w = w' := by
  have hc : w.cell? ⟨bm, 0, none⟩ = some (.slice (some ⟨bc, 0, none⟩) cs.length cs.length) := cellAt h.hdr 0
  go_enter Try.func44, Try.ntmps44
  go_wp2
  go_ret
  exact ⟨rfl, rfl⟩

set_option maxHeartbeats 400000 in
theorem right_nil (w : World) :
    Calls Try.prog 44 #[.pointer none] w fun e w' => e = .returned (.bool false) ∧ w = w' := by
  go_enter Try.func44, Try.ntmps44
  go_wp2
  go_ret
  exact ⟨rfl, rfl⟩

set_option maxHeartbeats 400000 in
theorem size_any {w : World} {bm bc : Nat} {clk : Int} {cs : List MC} (h : MemR w bm bc clk cs) (hn : 0 < cs.length) :
    Calls Try.prog 25 #[.pointer (some ⟨bm, 0, none⟩)] w fun e w' => e = .returned (.int .i64 cs.length) ∧ w = w' := by
  have hc : w.cell? ⟨bm, 0, none⟩ = some (.slice (some ⟨bc, 0, none⟩) cs.length cs.length) := cellAt h.hdr 0
  go_enter Try.func25, Try.ntmps25
  go_wp2_with (go_at_call 44; refine (right_any h hn).mono ?_; rintro e w' ⟨rfl, rfl⟩)
  go_ret
  exact ⟨rfl, rfl⟩

set_option maxHeartbeats 400000 in
theorem may_ok {w : World} {bm bc : Nat} {clk : Int} {cs : List MC} (h : MemR w bm bc clk cs) (i o : Int) (h0 : 0 ≤ i) (h1 : i < cs.length) (ho : 1 ≤ o) :
    Calls Try.prog 53 #[.pointer (some ⟨bm, 0, none⟩), .int .i64 i, .int .i64 o] w fun e w' => e = .returned (.int .i64 0) ∧ w = w' := by
  have hc : w.cell? ⟨bm, 0, none⟩ = some (.slice (some ⟨bc, 0, none⟩) cs.length cs.length) := cellAt h.hdr 0
  have hn : 0 < cs.length := by omega
  go_enter Try.func53, Try.ntmps53
  go_wp2_with (go_at_call 44; refine (right_any h hn).mono ?_; rintro e w' ⟨rfl, rfl⟩)
  go_ret
  exact ⟨rfl, rfl⟩

set_option maxHeartbeats 400000 in
theorem load_ok {w : World} {bm bc : Nat} {clk : Int} {cs : List MC} (h : MemR w bm bc clk cs) (i : Int) (h0 : 0 ≤ i) (h1 : i < cs.length) (c : MC) (hi : cs[i.toNat]? = some c) :
    Calls Try.prog 38 #[.pointer (some ⟨bm, 0, none⟩), .int .i64 i] w fun e w' => e = .returned (.tuple #[valV c.val, .int .i64 c.ver, .int .i64 c.own, .int .i64 0]) ∧ Chg [] w w' := by
  have hc : w.cell? ⟨bm, 0, none⟩ = some (.slice (some ⟨bc, 0, none⟩) cs.length cs.length) := cellAt h.hdr 0
  obtain ⟨k, rfl⟩ := Int.eq_ofNat_of_zero_le h0
  simp only [Int.toNat_natCast] at hi
  obtain ⟨c0, c1, c2, c3, c4⟩ := h.cell hi
  have hk : k < cs.length := by omega
  have lm := lt_of_blk h.hdr
  have lc := lt_of_blk h.row
  have hH : MemR w bm bc clk cs := h
  go_enter Try.func38, Try.ntmps38
  go_wp2_with (go_at_call 53; refine (may_ok (w := _) (hH.chg ((Chg.refl [] _).alloc _) (by simp) (by simp)) _ _ h0 h1 (by omega)).mono ?_; rintro e w' ⟨rfl, rfl⟩)
  go_region
  all_goals go_wp2
  refine bodyPost_ret (v := .tuple #[valV c.val, .int .i64 c.ver, .int .i64 c.own, .int .i64 0]) (by simp [results, Try.results38, go_sem, valV]) rfl ⟨rfl, ?_⟩
  repeat (first | exact Chg.refl _ _ | assumption | refine Chg.drew ?_ | refine Chg.drewN ?_ _ | refine Chg.alloc ?_ _ | refine Chg.setCell ?_ _ _ (by first | (left; simp; done) | (right; simp)))

end Go.Proofs.Ytnijdnnnhkdjaaa
