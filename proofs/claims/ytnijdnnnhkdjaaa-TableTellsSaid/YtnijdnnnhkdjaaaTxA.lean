/- A transaction (layer 16) at entries, open and without scopes: what lies in memory, and the contracts of its reading and writing. -/
import Derived.Test.YtnijdnnnhkdjaaaSetsA
namespace Go.Proofs.Ytnijdnnnhkdjaaa
set_option linter.unusedSimpArgs false
set_option linter.unusedVariables false
open Go Go.RowKit Go.MapKept

/-- Where the blocks of a transaction lie. -/
structure At where
  (t m c s r w : Nat)

/-- A transaction lies at b.t over the memory at b.m. -/
structure TxR (w : World) (b : At) (clk : Int) (cs : List MC) (own beg st ver : Int) (R : List (Int × Int)) (W : List (Int × V)) : Prop where
  hdr : w.heap[b.t]? = some (.cells #[.pointer (some ⟨b.m, 0, none⟩), .int .i64 own, .int .i64 beg, .pointer (some ⟨b.s, 0, none⟩), .int .u8 st, .slice none 0 0, .bool false, .int .i64 ver] 80 (0, 0))
  mem : MemR w b.m b.c clk cs
  sets : SetsR w b.s b.r b.w R W

theorem ne_type {w : World} {b c : Nat} {xs ys : Array Value} {t u : TypeId} {f g : Nat × Nat} (h1 : w.heap[b]? = some (.cells xs t f)) (h2 : w.heap[c]? = some (.cells ys u g)) (h : t ≠ u) : b ≠ c := by
  rintro rfl
  rw [h1] at h2
  simp at h2
  exact h h2.2.1

theorem TxR.chg {S : List Nat} {w w' : World} {b : At} {clk : Int} {cs : List MC} {own beg st ver : Int} {R : List (Int × Int)} {W : List (Int × V)} (h : TxR w b clk cs own beg st ver R W) (hc : Chg S w w')
    (ht : b.t ∉ S) (hm : b.m ∉ S) (hcc : b.c ∉ S) (hs : b.s ∉ S) (hr : b.r ∉ S) (hw : b.w ∉ S) : TxR w' b clk cs own beg st ver R W :=
  ⟨hc.at h.hdr ht, h.mem.chg hc hm hcc, h.sets.chg hc hs hr hw⟩
theorem TxR.chg0 {w w' : World} {b : At} {clk : Int} {cs : List MC} {own beg st ver : Int} {R : List (Int × Int)} {W : List (Int × V)} (h : TxR w b clk cs own beg st ver R W) (hc : Chg [] w w') : TxR w' b clk cs own beg st ver R W :=
  h.chg hc (by simp) (by simp) (by simp) (by simp) (by simp) (by simp)

section
variable {w : World} {b : At} {clk : Int} {cs : List MC} {own beg st ver : Int} {R : List (Int × Int)} {W : List (Int × V)}

theorem TxR.cells (h : TxR w b clk cs own beg st ver R W) : w.cell? ⟨b.t, 0, none⟩ = some (.pointer (some ⟨b.m, 0, none⟩)) ∧ w.cell? ⟨b.t, 1, none⟩ = some (.int .i64 own) ∧ w.cell? ⟨b.t, 2, none⟩ = some (.int .i64 beg) ∧
    w.cell? ⟨b.t, 3, none⟩ = some (.pointer (some ⟨b.s, 0, none⟩)) ∧ w.cell? ⟨b.t, 4, none⟩ = some (.int .u8 st) ∧ b.t < w.heap.size :=
  ⟨cellAt h.hdr 0, cellAt h.hdr 1, cellAt h.hdr 2, cellAt h.hdr 3, cellAt h.hdr 4, lt_of_blk h.hdr⟩

theorem TxR.lts (h : TxR w b clk cs own beg st ver R W) : b.t < w.heap.size ∧ b.m < w.heap.size ∧ b.c < w.heap.size ∧ b.s < w.heap.size ∧ b.r < w.heap.size ∧ b.w < w.heap.size :=
  ⟨lt_of_blk h.hdr, lt_of_blk h.mem.hdr, lt_of_blk h.mem.row, lt_of_blk h.sets.hdr, h.sets.reads.lt, h.sets.writes.lt⟩
/-- A block that lies none of them may change. -/
theorem TxR.chg1 {w' : World} {n : Nat} (h : TxR w b clk cs own beg st ver R W) (hc : Chg [n] w w') (k : b.t ≠ n ∧ b.m ≠ n ∧ b.c ≠ n ∧ b.s ≠ n ∧ b.r ≠ n ∧ b.w ≠ n) : TxR w' b clk cs own beg st ver R W :=
  h.chg hc (by simpa using k.1) (by simpa using k.2.1) (by simpa using k.2.2.1) (by simpa using k.2.2.2.1) (by simpa using k.2.2.2.2.1) (by simpa using k.2.2.2.2.2)

theorem TxR.read_blk {w' : World} {i v : Int} (h : TxR w b clk cs own beg st ver R W) (hc : Chg [b.r] w w') (hs : SetsR w' b.s b.r b.w (putK i v R) W) : TxR w' b clk cs own beg st ver (putK i v R) W :=
  ⟨hc.at h.hdr (by simpa using h.sets.reads.ne_cells h.hdr), h.mem.chg hc (by simpa using h.sets.reads.ne_cells h.mem.hdr) (by simpa using h.sets.reads.ne_cells h.mem.row), hs⟩
theorem TxR.write_blk {w' : World} {i : Int} {v : V} (h : TxR w b clk cs own beg st ver R W) (hc : Chg [b.w] w w') (hs : SetsR w' b.s b.r b.w R (putK i v W)) : TxR w' b clk cs own beg st ver R (putK i v W) :=
  ⟨hc.at h.hdr (by simpa using h.sets.writes.ne_cells h.hdr), h.mem.chg hc (by simpa using h.sets.writes.ne_cells h.mem.hdr) (by simpa using h.sets.writes.ne_cells h.mem.row), hs⟩

set_option maxHeartbeats 400000 in
theorem tright_any (h : TxR w b clk cs own beg st ver R W) : Calls Try.prog 43 #[.pointer (some ⟨b.t, 0, none⟩)] w fun e w' => e = .returned (.bool true) ∧ w = w' := by
  obtain ⟨c0, c1, c2, c3, c4, hl⟩ := h.cells
  go_enter Try.func43, Try.ntmps43
  go_wp2
  go_ret
  exact ⟨rfl, rfl⟩

set_option maxHeartbeats 400000 in
theorem tright_nil (w : World) : Calls Try.prog 43 #[.pointer none] w fun e w' => e = .returned (.bool false) ∧ w = w' := by
  go_enter Try.func43, Try.ntmps43
  go_wp2
  go_ret
  exact ⟨rfl, rfl⟩

set_option maxHeartbeats 400000 in
theorem tstatus_any (h : TxR w b clk cs own beg st ver R W) : Calls Try.prog 28 #[.pointer (some ⟨b.t, 0, none⟩)] w fun e w' => e = .returned (.int .u8 st) ∧ w = w' := by
  obtain ⟨c0, c1, c2, c3, c4, hl⟩ := h.cells
  go_enter Try.func28, Try.ntmps28
  go_wp2_with (go_at_call 43; refine (tright_any h).mono ?_; rintro e w' ⟨rfl, rfl⟩)
  go_ret
  exact ⟨rfl, rfl⟩

set_option maxHeartbeats 400000 in
theorem tstatus_nil (w : World) : Calls Try.prog 28 #[.pointer none] w fun e w' => e = .returned (.int .u8 0) ∧ w = w' := by
  go_enter Try.func28, Try.ntmps28
  go_wp2_with (go_at_call 43; refine (tright_nil w).mono ?_; rintro e w' ⟨rfl, rfl⟩)
  go_ret
  exact ⟨rfl, rfl⟩

set_option maxHeartbeats 400000 in
theorem tcells_any (h : TxR w b clk cs own beg st ver R W) (hn : 0 < cs.length) : Calls Try.prog 29 #[.pointer (some ⟨b.t, 0, none⟩)] w fun e w' => e = .returned (.int .i64 cs.length) ∧ w = w' := by
  obtain ⟨c0, c1, c2, c3, c4, hl⟩ := h.cells
  have H := Lib.hid h
  clear h
  go_enter Try.func29, Try.ntmps29
  go_wp2_with (first | (go_at_call 43; refine (tright_any H.out).mono ?_; rintro e w' ⟨rfl, rfl⟩) | (go_at_call 25; refine (size_any H.out.mem hn).mono ?_; rintro e w' ⟨rfl, rfl⟩))
  go_ret
  exact ⟨rfl, rfl⟩

set_option maxHeartbeats 400000 in
theorem topen_ok (h : TxR w b clk cs own beg 1 ver R W) (i : Int) (h0 : 0 ≤ i) (h1 : i < cs.length) : Calls Try.prog 36 #[.pointer (some ⟨b.t, 0, none⟩), .int .i64 i] w fun e w' => e = .returned (.int .i64 0) ∧ w = w' := by
  obtain ⟨c0, c1, c2, c3, c4, hl⟩ := h.cells
  have H := Lib.hid h
  have hn : 0 < cs.length := by omega
  clear h
  go_enter Try.func36, Try.ntmps36
  go_wp2_with (first | (go_at_call 43; refine (tright_any H.out).mono ?_; rintro e w' ⟨rfl, rfl⟩) | (go_at_call 25; refine (size_any H.out.mem hn).mono ?_; rintro e w' ⟨rfl, rfl⟩))
  go_ret
  exact ⟨rfl, rfl⟩

set_option maxHeartbeats 400000 in
theorem topen_over (h : TxR w b clk cs own beg st ver R W) (i : Int) (hst : 2 ≤ st) : Calls Try.prog 36 #[.pointer (some ⟨b.t, 0, none⟩), .int .i64 i] w fun e w' => e = .returned (.int .i64 132) ∧ w = w' := by
  obtain ⟨c0, c1, c2, c3, c4, hl⟩ := h.cells
  have H := Lib.hid h
  clear h
  go_enter Try.func36, Try.ntmps36
  go_wp2_with (first | (go_at_call 43; refine (tright_any H.out).mono ?_; rintro e w' ⟨rfl, rfl⟩))
  go_ret
  exact ⟨rfl, rfl⟩

set_option maxHeartbeats 400000 in
theorem clock_any {bm bc : Nat} (h : MemR w bm bc clk cs) (hn : 0 < cs.length) :
    Calls Try.prog 26 #[.pointer (some ⟨bm, 0, none⟩)] w fun e w' => e = .returned (.int .i64 clk) ∧ w = w' := by
  have hc : w.cell? ⟨bm, 1, none⟩ = some (.int .i64 clk) := cellAt h.hdr 1
  go_enter Try.func26, Try.ntmps26
  go_wp2_with (go_at_call 44; refine (right_any h hn).mono ?_; rintro e w' ⟨rfl, rfl⟩)
  go_ret
  exact ⟨rfl, rfl⟩

end
end Go.Proofs.Ytnijdnnnhkdjaaa
