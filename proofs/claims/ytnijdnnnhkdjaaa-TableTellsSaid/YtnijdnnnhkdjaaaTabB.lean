/- A table over a transaction that sees a memory as it began: reading and writing by what the transaction sees; the contract of load. -/
import Derived.Test.YtnijdnnnhkdjaaaTabA
namespace Go.Proofs.Ytnijdnnnhkdjaaa
set_option linter.unusedSimpArgs false
set_option linter.unusedVariables false
open Go Go.RowKit Go.MapKept

/-- What a transaction sees in a cell. -/
def curV (cs : List MC) (W : List (Int × V)) (i : Nat) : V := match lookK (i : Int) W with | some v => v | none => ((cs[i]?).map MC.val).getD MC.z.val

/-- An open transaction over cells that nobody has changed since it began. -/
structure TxG (w : World) (b : At) (clk : Int) (cs : List MC) (own beg ver : Int) (R : List (Int × Int)) (W : List (Int × V)) : Prop where
  tx : TxR w b clk cs own beg 1 ver R W
  small : cs.length ≤ 256
  free : ∀ (i : Nat) (c : MC), cs[i]? = some c → c.own = 0 ∧ 0 ≤ c.ver ∧ c.ver ≤ beg
  seen : ∀ (i v : Int), lookK i R = some v → ∃ c, cs[i.toNat]? = some c ∧ v = c.ver
  rkeys : (R.map (·.1)).Nodup
  rin : ∀ k : Int, k ∈ R.map (·.1) → 0 ≤ k ∧ k < cs.length
  wkeys : (W.map (·.1)).Nodup
  win : ∀ k : Int, k ∈ W.map (·.1) → 0 ≤ k ∧ k < cs.length

theorem mem_putK {α : Type} (k : Int) (v : α) (L : List (Int × α)) (x : Int) (h : x ∈ (putK k v L).map (·.1)) : x = k ∨ x ∈ L.map (·.1) := by
  rw [keys_putK] at h
  split at h
  · exact .inr h
  · simp only [List.mem_append, List.mem_singleton] at h; exact h.symm

theorem len_room {α : Type} (n : Nat) (L : List (Int × α)) (i : Int) (h : (L.map (·.1)).Nodup) (hr : ∀ k : Int, k ∈ L.map (·.1) → 0 ≤ k ∧ k < n) (h0 : 0 ≤ i) (h1 : i < n) (hl : lookK i L = none) (hn : n ≤ 256) : L.length < 256 := by
  have := length_keys n (i :: L.map (·.1)) (List.nodup_cons.2 ⟨(lookK_none _ _).1 hl, h⟩) (by
    intro k hk
    rcases List.mem_cons.1 hk with rfl | hk
    · exact ⟨h0, h1⟩
    · exact hr k hk)
  simp at this
  omega

section
variable {w : World} {b : At} {clk : Int} {cs : List MC} {own beg ver : Int} {R : List (Int × Int)} {W : List (Int × V)}

theorem TxG.chg1 {w' : World} {n : Nat} (h : TxG w b clk cs own beg ver R W) (hc : Chg [n] w w') (k : b.t ≠ n ∧ b.m ≠ n ∧ b.c ≠ n ∧ b.s ≠ n ∧ b.r ≠ n ∧ b.w ≠ n) : TxG w' b clk cs own beg ver R W :=
  ⟨h.tx.chg1 hc k, h.small, h.free, h.seen, h.rkeys, h.rin, h.wkeys, h.win⟩
theorem TxG.chg0 {w' : World} (h : TxG w b clk cs own beg ver R W) (hc : Chg [] w w') : TxG w' b clk cs own beg ver R W :=
  ⟨h.tx.chg0 hc, h.small, h.free, h.seen, h.rkeys, h.rin, h.wkeys, h.win⟩
theorem TxG.chgF {S : List Nat} {w' : World} (h : TxG w b clk cs own beg ver R W) (hc : Chg S w w') (hS : ∀ k ∈ S, b.t ≠ k ∧ b.m ≠ k ∧ b.c ≠ k ∧ b.s ≠ k ∧ b.r ≠ k ∧ b.w ≠ k) : TxG w' b clk cs own beg ver R W :=
  ⟨h.tx.chg hc (fun e => (hS _ e).1 rfl) (fun e => (hS _ e).2.1 rfl) (fun e => (hS _ e).2.2.1 rfl) (fun e => (hS _ e).2.2.2.1 rfl) (fun e => (hS _ e).2.2.2.2.1 rfl) (fun e => (hS _ e).2.2.2.2.2 rfl), h.small, h.free, h.seen, h.rkeys, h.rin, h.wkeys, h.win⟩

theorem gread (h : TxG w b clk cs own beg ver R W) (i : Nat) (hi : i < cs.length) :
    Calls Try.prog 20 #[.pointer (some ⟨b.t, 0, none⟩), .int .i64 i] w fun e w' => e = .returned (.tuple #[valV (curV cs W i), .int .i64 0]) ∧ Chg [b.r] w w' ∧ ∃ R', TxG w' b clk cs own beg ver R' W := by
  cases hW : lookK (i : Int) W with
  | some v =>
    refine (tread_w h.tx i (by omega) (by omega) v hW).mono fun e w' ⟨h1, h2⟩ => ⟨?_, h2.of_nil, R, h.chg0 h2⟩
    rw [h1]; simp [curV, hW]
  | none =>
    obtain ⟨c, hc⟩ : ∃ c, cs[i]? = some c := ⟨cs[i]'hi, List.getElem?_eq_getElem hi⟩
    obtain ⟨f1, f2, f3⟩ := h.free i c hc
    have hR : (lookK (i : Int) R = none ∧ R.length < 256) ∨ lookK (i : Int) R = some c.ver := by
      cases hR : lookK (i : Int) R with
      | none => exact .inl ⟨rfl, len_room cs.length R i h.rkeys h.rin (by omega) (by omega) hR h.small⟩
      | some v =>
        obtain ⟨c', h1, h2⟩ := h.seen _ _ hR
        simp only [Int.toNat_natCast, hc, Option.some.injEq] at h1
        subst h1
        exact .inr (by rw [h2])
    refine (tread_c h.tx i (by omega) (by omega) (by have := h.small; omega) hW c (by simpa using hc) f1 f3 f2 hR).mono fun e w' ⟨h1, h2, h3⟩ => ⟨?_, h2, _, ⟨h3, h.small, h.free, ?_, nodup_putK _ _ _ h.rkeys, ?_, h.wkeys, h.win⟩⟩
    · rw [h1]; simp [curV, hW, hc]
    · intro j v hj
      rw [lookK_putK] at hj
      split at hj
      · rename_i e1
        simp only [Option.some.injEq] at hj
        subst e1 hj
        exact ⟨c, by simpa using hc, rfl⟩
      · exact h.seen j v hj
    · intro k hk
      rcases mem_putK _ _ _ _ hk with rfl | hk
      · omega
      · exact h.rin k hk

theorem gwrite (h : TxG w b clk cs own beg ver R W) (i : Nat) (v : V) (hi : i < cs.length) :
    Calls Try.prog 23 #[.pointer (some ⟨b.t, 0, none⟩), .int .i64 i, valV v] w fun e w' => e = .returned (.int .i64 0) ∧ Chg [b.w] w w' ∧ TxG w' b clk cs own beg ver R (putK i v W) := by
  refine (twrite_any h.tx i v (by omega) (by omega) (by have := h.small; omega) (fun hl => len_room cs.length W i h.wkeys h.win (by omega) (by omega) hl h.small)).mono fun e w' ⟨h1, h2, h3⟩ => ⟨h1, h2, h3, h.small, h.free, h.seen, h.rkeys, h.rin, nodup_putK _ _ _ h.wkeys, ?_⟩
  intro k hk
  rcases mem_putK _ _ _ _ hk with rfl | hk
  · omega
  · exact h.win k hk

theorem curV_put (i : Nat) (v : V) (j : Nat) : curV cs (putK i v W) j = if j = i then v else curV cs W j := by
  unfold curV
  rw [lookK_putK]
  by_cases e : i = j
  · subst e; simp
  · rw [if_neg (by omega), if_neg (by omega)]
end

/-- A table of n cells from base on lies at bx. -/
structure TabR (w : World) (bx bt base n : Nat) : Prop where
  hdr : w.heap[bx]? = some (.cells #[.pointer (some ⟨bt, 0, none⟩), .int .i64 base, .int .i64 n] 65 (0, 0))
theorem TabR.cells {w : World} {bx bt base n : Nat} (h : TabR w bx bt base n) : w.cell? ⟨bx, 0, none⟩ = some (.pointer (some ⟨bt, 0, none⟩)) ∧ w.cell? ⟨bx, 1, none⟩ = some (.int .i64 base) ∧ w.cell? ⟨bx, 2, none⟩ = some (.int .i64 n) ∧ bx < w.heap.size :=
  ⟨cellAt h.hdr 0, cellAt h.hdr 1, cellAt h.hdr 2, lt_of_blk h.hdr⟩

def vals (cs : List MC) (W : List (Int × V)) (base n : Nat) : List V := (List.range n).map fun i => curV cs W (base + i)

theorem length_vals (cs : List MC) (W : List (Int × V)) (base n : Nat) : (vals cs W base n).length = n := by simp [vals]
theorem vals_succ (cs : List MC) (W : List (Int × V)) (base a : Nat) : vals cs W base (a + 1) = vals cs W base a ++ [curV cs W (base + a)] := by
  simp [vals, List.range_succ]

/-- How many entries stand ahead of the first that is not used. -/
def usedLen (l : List V) : Nat := (l.takeWhile fun x => x.1).length
theorem usedLen_le (l : List V) : usedLen l ≤ l.length := by
  induction l with
  | nil => simp [usedLen]
  | cons x r ih => simp only [usedLen, List.takeWhile_cons] at *; split <;> simp; omega
theorem right_used {l : List V} (h : rightB l = true) (a : Nat) (x : V) (hx : l[a]? = some x) : x.1 = true ↔ a < usedLen l := by
  have hok : ∀ i y, l[i]? = some y → okAt l i y = true := by
    intro i y hy
    have hi := (List.getElem?_eq_some_iff.1 hy).1
    unfold rightB at h
    rw [List.all_eq_true] at h
    have := h i (by simpa using hi)
    simpa [hy] using this
  constructor
  · intro h1
    have hall : ∀ k, k ≤ a → ∀ y, l[k]? = some y → y.1 = true := by
      intro k hk
      induction hd : a - k generalizing k with
      | zero =>
        obtain rfl : k = a := by omega
        intro y hy; rw [hx] at hy; cases hy; exact h1
      | succ d ih =>
        intro y hy
        have hk1 : k + 1 < l.length := by have := (List.getElem?_eq_some_iff.1 hx).1; omega
        have hz := List.getElem?_eq_getElem hk1
        have hz1 := ih (k + 1) (by omega) (by omega) _ hz
        have := hok (k + 1) _ hz
        simp [okAt, hz1, hy] at this
        exact this.1
    have : ∀ (l : List V) (a : Nat), a < l.length → (∀ k, k ≤ a → ∀ y, l[k]? = some y → y.1 = true) → a < usedLen l := by
      intro l
      induction l with
      | nil => intro a ha; simp at ha
      | cons x r ih =>
        intro a ha hh
        have h0 := hh 0 (by omega) x rfl
        simp only [usedLen, List.takeWhile_cons, h0, if_true, List.length_cons]
        cases a with
        | zero => omega
        | succ a =>
          have := ih a (by simpa using ha) (fun k hk y hy => hh (k + 1) (by omega) y (by simpa using hy))
          simp only [usedLen] at this
          omega
    exact this l a (List.getElem?_eq_some_iff.1 hx).1 hall
  · intro h1
    have : ∀ (l : List V) (a : Nat) (x : V), l[a]? = some x → a < usedLen l → x.1 = true := by
      intro l
      induction l with
      | nil => intro a x hx; simp at hx
      | cons z r ih =>
        intro a x hx ha
        simp only [usedLen, List.takeWhile_cons] at ha
        split at ha
        · cases a with
          | zero => simp at hx; subst hx; assumption
          | succ a => exact ih a x (by simpa using hx) (by simp only [usedLen]; simpa using ha)
        · simp at ha
    exact this l a x hx h1

theorem box3 {W : World} {g : Nat} {x y z : Value} {T : TypeId} (h : W.heap[g]? = some (.cells #[x, y, z] T (0, 0))) (a b c : Value) :
    (((W.setCell ⟨g, 0, none⟩ a).setCell ⟨g, 1, none⟩ b).setCell ⟨g, 2, none⟩ c).heap[g]? = some (.cells #[a, b, c] T (0, 0)) :=
  blk_setCell (blk_setCell (blk_setCell h 0 a) 1 b) 2 c
theorem chg3 (W : World) (g : Nat) (a b c : Value) : Chg [g] W (((W.setCell ⟨g, 0, none⟩ a).setCell ⟨g, 1, none⟩ b).setCell ⟨g, 2, none⟩ c) :=
  (((Chg.refl [g] W).setCell _ _ (by simp)).setCell _ _ (by simp)).setCell _ _ (by simp)
end Go.Proofs.Ytnijdnnnhkdjaaa
