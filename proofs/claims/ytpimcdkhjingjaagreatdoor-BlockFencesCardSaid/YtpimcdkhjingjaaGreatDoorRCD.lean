/- A merged text (wip/mkclaim.py). -/
import Derived.Test.YtpimcdkhjingjaaGreatDoorRCB
import Derived.Test.YtpimcdkhjingjaaGreatDoorRCA
import Derived.WalkKit
import Derived.WalkSpells
import Derived.Lib.Hide
import Derived.Outline
import Derived.Deep.QuietTactic
import Derived.BigQuiet
import Derived.Deep.LoopGhost
import Derived.StillTailTactics
import Derived.Deep.RegionHeld3
import Derived.Test.YtpimcdkhjingjaaGreatDoorProg
import Derived.Deep.RegionWith
import Derived.Deep.AppendLies
set_option linter.unusedVariables false
set_option linter.unusedSimpArgs false
set_option linter.unusedSectionVars false
namespace Go.Proofs.YtpimcdkhjingjaaGreatDoor.X
open Go.RowKit Go.Proofs.YtpimcdkhjingjaaGreatDoorW.PrintWords
structure Touch (c : Nat) (w w' : World) : Prop where
  os : w'.os = w.os
  tape : w'.tape = w.tape
  output : w'.output = w.output
  size : w.heap.size ≤ w'.heap.size
  block : ∀ k, k < w.heap.size → k ≠ c → w'.heap[k]? = w.heap[k]?
theorem Touch.refl (c : Nat) (w : World) : Touch c w w := ⟨rfl, rfl, rfl, Nat.le_refl _, fun _ _ _ => rfl⟩
theorem Touch.trans {c : Nat} {a b d : World} (h : Touch c a b) (k : Touch c b d) : Touch c a d :=
  ⟨k.os.trans h.os, k.tape.trans h.tape, k.output.trans h.output, Nat.le_trans h.size k.size, fun i hi hc => (k.block i (Nat.lt_of_lt_of_le hi h.size) hc).trans (h.block i hi hc)⟩
theorem Touch.of_below {c : Nat} {a b : World} (h : Below a.heap.size a b) : Touch c a b := ⟨h.os, h.tape, h.output, h.size, fun k hk _ => h.block k hk⟩
theorem Touch.drewN {c : Nat} {a w : World} (h : Touch c a w) (n : Nat) : Touch c a (w.drewN n) := ⟨h.os, h.tape, h.output, h.size, h.block⟩
theorem Touch.drew {c : Nat} {a w : World} (h : Touch c a w) : Touch c a w.drew := ⟨h.os, h.tape, h.output, h.size, h.block⟩
theorem Touch.setCell {c : Nat} {a w : World} (h : Touch c a w) (j : Nat) (u : Value) : Touch c a (w.setCell ⟨c, j, none⟩ u) :=
  h.trans ⟨rfl, rfl, rfl, by simp [World.setCell], fun k _ hc => Below.heap_setCell w ⟨c, j, none⟩ u k hc⟩
theorem Touch.alloc {c : Nat} {a w : World} (h : Touch c a w) (o : Obj) : Touch c a (w.alloc o) := h.trans (Touch.of_below (below_alloc (Below.refl _ _) o))
theorem Touch.below {c B : Nat} {w0 w w' : World} (h : Below B w0 w) (ht : Touch c w w') (hB : B ≤ w.heap.size) (hc : B ≤ c) : Below B w0 w' :=
  ⟨ht.os.trans h.os, ht.tape.trans h.tape, ht.output.trans h.output, Nat.le_trans h.size ht.size, fun k hk => (ht.block k (Nat.lt_of_lt_of_le hk hB) (by omega)).trans (h.block k hk)⟩
theorem Touch.blk {c g : Nat} {w w' : World} {o : Obj} (h : Touch c w w') (hb : w.heap[g]? = some o) (hg : g ≠ c) : w'.heap[g]? = some o := (h.block g (blk_lt hb) hg).trans hb
structure Cur where
  s : List UInt8
  at_ : Nat
  col : Nat
  left : Nat
namespace Cur
def byte (q : Cur) : UInt8 := q.s.getD q.at_ 0
def wide (q : Cur) : Nat := if 0 < q.left then q.left else if q.byte = 9 then 4 - q.col % 4 else 1
def here (q : Cur) : Bool := decide (q.at_ < q.s.length) && blankB q.byte
def steps (q : Cur) : Cur := ⟨q.s, q.at_ + 1, q.col + q.wide, 0⟩
def skipAll : Nat → Cur → Cur
  | 0, q => q
  | n + 1, q => if q.here then skipAll n q.steps else q
def indent (q : Cur) : Nat := (skipAll (q.s.length - q.at_) q).col - q.col
def word (q : Cur) : List UInt8 := Lib.trimLeftS (q.s.drop q.at_) [32, 9]
def blank (q : Cur) : Bool := q.word.isEmpty
def skipGo : Nat → Nat → Cur → Cur
  | 0, _, q => q
  | f + 1, n, q => if 0 < n && q.here then (if n < q.wide then ⟨q.s, q.at_, q.col + n, q.wide - n⟩ else skipGo f (n - q.wide) q.steps) else q
def skip (n : Nat) (q : Cur) : Cur := skipGo (q.s.length - q.at_) n q
def take : Nat → Cur → Cur
  | 0, q => q
  | n + 1, q => if q.at_ < q.s.length then take n q.steps else q
def rest (q : Cur) : List UInt8 := if 0 < q.left then List.replicate q.left 32 ++ q.s.drop (q.at_ + 1) else q.s.drop q.at_
structure Ok (q : Cur) : Prop where
  len : q.s.length ≤ 68719476736
  at_le : q.at_ ≤ q.s.length
  col_le : q.col + q.left ≤ 4 * q.at_ + 4
  col_0 : q.left = 0 → q.col ≤ 4 * q.at_
  left_le : q.left ≤ 4
  left_at : 0 < q.left → q.at_ < q.s.length
theorem wide_le (q : Cur) (h : q.Ok) : q.wide ≤ 4 := by
  unfold wide
  have := h.left_le
  split
  · exact this
  · split <;> omega
theorem wide_col (q : Cur) (h : q.Ok) : q.col + q.wide ≤ 4 * q.at_ + 4 := by
  unfold wide
  have h1 := h.col_le
  have h2 := h.col_0
  split
  · omega
  · split <;> omega
theorem wide_pos (q : Cur) : 0 < q.wide := by
  unfold wide
  split
  · assumption
  · split <;> omega
end Cur
def cellsC (q : Cur) : Array Value := #[.string (S q.s), .int .i64 (q.at_ : Int), .int .i64 (q.col : Int), .int .i64 (q.left : Int)]
def CurIs (w : World) (c : Nat) (q : Cur) : Prop := w.heap[c]? = some (.cells (cellsC q) 59 (0, 0))
namespace CurIs
variable {w w' : World} {c : Nat} {q : Cur}
theorem c0 (h : CurIs w c q) : w.cell? ⟨c, 0, none⟩ = some (.string (S q.s)) := (blk_cell h 0).trans rfl
theorem c1 (h : CurIs w c q) : w.cell? ⟨c, 1, none⟩ = some (.int .i64 (q.at_ : Int)) := (blk_cell h 1).trans rfl
theorem c2 (h : CurIs w c q) : w.cell? ⟨c, 2, none⟩ = some (.int .i64 (q.col : Int)) := (blk_cell h 2).trans rfl
theorem c3 (h : CurIs w c q) : w.cell? ⟨c, 3, none⟩ = some (.int .i64 (q.left : Int)) := (blk_cell h 3).trans rfl
theorem fr (h : CurIs w c q) (j : Nat) : w.frozen? ⟨c, j, none⟩ = false := blk_frozen h j
theorem below (h : CurIs w c q) (hb : Below w.heap.size w w') : CurIs w' c q := blk_below h hb
theorem drewN (h : CurIs w c q) (n : Nat) : CurIs (w.drewN n) c q := h
theorem set1 (h : CurIs w c q) (n : Nat) : CurIs (w.setCell ⟨c, 1, none⟩ (.int .i64 (n : Int))) c ⟨q.s, n, q.col, q.left⟩ := blk_put h 1 _ rfl
theorem set2 (h : CurIs w c q) (n : Nat) : CurIs (w.setCell ⟨c, 2, none⟩ (.int .i64 (n : Int))) c ⟨q.s, q.at_, n, q.left⟩ := blk_put h 2 _ rfl
theorem set3 (h : CurIs w c q) (n : Nat) : CurIs (w.setCell ⟨c, 3, none⟩ (.int .i64 (n : Int))) c ⟨q.s, q.at_, q.col, n⟩ := blk_put h 3 _ rfl
end CurIs
end Go.Proofs.YtpimcdkhjingjaaGreatDoor.X
namespace Go.Proofs.YtpimcdkhjingjaaGreatDoor.X
open Go.RowKit Go.Proofs.YtpimcdkhjingjaaGreatDoorW.PrintWords
theorem isBlank_c (b : UInt8) (n : Int) (hn : n = (b.toNat : Int)) (w : World) : Calls Tryz.prog 114 #[.int .u8 n] w fun e w' => e = .returned (.bool (blankB b)) ∧ w' = w := by
  have h32 : (n == 32) = (b == 32) := by
    subst hn
    rw [Bool.eq_iff_iff, beq_iff_eq, beq_iff_eq]; exact byte_eq (a := b) (b := 32)
  have h9 : (n == 9) = (b == 9) := by
    subst hn
    rw [Bool.eq_iff_iff, beq_iff_eq, beq_iff_eq]; exact byte_eq (a := b) (b := 9)
  clear hn
  have Hv : Hid (blankB b = (b == 32 || b == 9)) := rfl
  cases b32 : (b == 32) <;> cases b9 : (b == 9)
  all_goals
    rw [b32, b9] at Hv
    rw [b32] at h32
    rw [b9] at h9
    go_enter Tryz.func114, Tryz.ntmps114
    go_wp2
    go_ret
    exact ⟨by rw [Hv.out]; rfl, rfl⟩
theorem Of_c (s : List UInt8) (w : World) : Calls Tryz.prog 20 #[.string (S s)] w fun e w' => e = .returned (.pointer (some ⟨w.heap.size, 0, none⟩)) ∧ w.alloc (.cells (cellsC ⟨s, 0, 0, 0⟩) 59) = w' := by
  go_enter Tryz.func20, Tryz.ntmps20
  go_wp2
  go_ret
  exact ⟨rfl, rfl⟩
set_option maxRecDepth 100000 in
theorem wide_c (q : Cur) (c : Nat) (w : World) (h : CurIs w c q) (hk : q.Ok) (hlt : q.at_ < q.s.length) :
    Calls Tryz.prog 87 #[.pointer (some ⟨c, 0, none⟩)] w fun e w' => e = .returned (.int .i64 (q.wide : Int)) ∧ Drawn0 w w' := by
  have hc0 := h.c0
  have hc1 := h.c1
  have hc2 := h.c2
  have hc3 := h.c3
  have hs := S_size q.s
  have hb : (q.at_ : Int) < ((S q.s).size : Int) := by omega
  have hlen := hk.len
  have hcol := hk.col_le
  have hx : ∀ h : q.at_ < (S q.s).size, ((S q.s)[q.at_]'h).toNat = q.byte.toNat := fun h => by
    unfold Cur.byte
    congr 1
    rw [List.getD_eq_getElem?_getD, List.getElem?_eq_getElem hlt]
    rfl
  by_cases hl : 0 < q.left
  · have hl' : (0 : Int) < (q.left : Int) := by omega
    have Hv : Hid (q.wide = q.left) := by show _ = _; unfold Cur.wide; rw [if_pos hl]
    clear hx hs
    go_enter Tryz.func87, Tryz.ntmps87
    go_wp2
    go_ret
    exact ⟨by rw [Hv.out]; rfl, Drawn0.refl _⟩
  · have hl' : ¬ (0 : Int) < (q.left : Int) := by omega
    have hrem : (0 : Int) ≤ (q.col : Int) := by omega
    have hrem2 : (q.col : Int) ≤ 9223372036854775807 := by omega
    have hat0 : (0 : Int) ≤ (q.at_ : Int) := by omega
    by_cases h9 : q.byte = 9
    · have hx' : ∀ h : q.at_ < (S q.s).size, ((S q.s)[q.at_]'h).toNat = 9 := fun h => by rw [hx h, h9]; rfl
      have Hv : Hid (q.wide = 4 - q.col % 4) := by show _ = _; unfold Cur.wide; rw [if_neg hl, if_pos h9]
      clear hx
      go_enter Tryz.func87, Tryz.ntmps87
      go_wp2
      go_quiet (fail)
      go_wp2
      go_ret
      refine ⟨?_, ⟨_, rfl⟩⟩
      rw [Hv.out]
      show Ending.returned (.int .i64 _) = _
      congr 2
      omega
    · have hx' : ∀ h : q.at_ < (S q.s).size, ((S q.s)[q.at_]'h).toNat = q.byte.toNat := hx
      have hn9 : ((q.byte.toNat : Int) == 9) = false := by
        rw [beq_eq_false_iff_ne]
        exact fun e => h9 ((byte_eq (a := q.byte) (b := 9)).1 e)
      have Hv : Hid (q.wide = 1) := by show _ = _; unfold Cur.wide; rw [if_neg hl, if_neg h9]
      clear hx
      obtain ⟨b, hb9⟩ : ∃ b : Nat, b = q.byte.toNat := ⟨_, rfl⟩
      rw [← hb9] at hx' hn9
      clear hb9
      go_enter Tryz.func87, Tryz.ntmps87
      go_wp2
      go_quiet (fail)
      go_wp2
      go_ret
      exact ⟨by rw [Hv.out]; rfl, ⟨_, rfl⟩⟩
theorem byte_at (q : Cur) (hlt : q.at_ < q.s.length) : ∀ h : q.at_ < (S q.s).size, ((S q.s)[q.at_]'h).toNat = q.byte.toNat := fun h => by
  unfold Cur.byte
  congr 1
  rw [List.getD_eq_getElem?_getD, List.getElem?_eq_getElem hlt]
  rfl
set_option maxRecDepth 100000 in
theorem here_c (q : Cur) (c : Nat) (w : World) (h : CurIs w c q) (hk : q.Ok) :
    Calls Tryz.prog 85 #[.pointer (some ⟨c, 0, none⟩)] w fun e w' => e = .returned (.bool q.here) ∧ Drawn0 w w' := by
  have hc0 := h.c0
  have hc1 := h.c1
  have hs := S_size q.s
  have hlen := hk.len
  have hat0 : (0 : Int) ≤ (q.at_ : Int) := by omega
  by_cases hlt : q.at_ < q.s.length
  · have hb : decide (q.at_ < (S q.s).size) = true := by rw [hs]; exact decide_eq_true hlt
    have hb' : (q.at_ : Int) < ((S q.s).size : Int) := by omega
    have hx := byte_at q hlt
    have Hv : Hid (q.here = blankB q.byte) := by show _ = _; unfold Cur.here; rw [decide_eq_true hlt, Bool.true_and]
    have hI := fun w => isBlank_c q.byte _ rfl w
    obtain ⟨b, hb9⟩ : ∃ b : Nat, b = q.byte.toNat := ⟨_, rfl⟩
    rw [← hb9] at hx hI
    clear hb9 hlen
    have HI := Lib.hid hI
    clear hI hs
    go_enter Tryz.func85, Tryz.ntmps85
    go_wp2
    go_quiet ((go_at_call 114; exact Calls.quiet_of_same (HI.out _)))
    go_wp2
    go_ret
    exact ⟨by rw [Hv.out]; rfl, ⟨_, rfl⟩⟩
  · have hb : decide (q.at_ < (S q.s).size) = false := by rw [hs]; exact decide_eq_false hlt
    have hb' : ¬ (q.at_ : Int) < ((S q.s).size : Int) := by omega
    have Hv : Hid (q.here = false) := by show _ = _; unfold Cur.here; rw [decide_eq_false hlt, Bool.false_and]
    clear hlen hs
    go_enter Tryz.func85, Tryz.ntmps85
    go_wp2
    go_quiet (fail)
    go_wp2
    go_ret
    exact ⟨by rw [Hv.out]; rfl, ⟨_, rfl⟩⟩
set_option maxRecDepth 100000 in
theorem steps_c (q : Cur) (c : Nat) (w : World) (h : CurIs w c q) (hk : q.Ok) (hlt : q.at_ < q.s.length) :
    Calls Tryz.prog 86 #[.pointer (some ⟨c, 0, none⟩)] w fun e w' => e = .returned (.tuple #[]) ∧ CurIs w' c q.steps ∧ Touch c w w' := by
  have hc1 := h.c1
  have hc2 := h.c2
  have hc3 := h.c3
  have hf := h.fr
  have hlen := hk.len
  have hcol := hk.col_le
  have hw1 := q.wide_le hk
  have hw := fun w' (h' : CurIs w' c q) => wide_c q c w' h' hk hlt
  obtain ⟨n, hn⟩ : ∃ n, n = q.wide := ⟨_, rfl⟩
  rw [← hn] at hw hw1
  have HN := Lib.hid hn
  have HW := Lib.hid hw
  have hwr : IntKind.i64.wrap ((q.col : Int) + (n : Int)) = (q.col : Int) + (n : Int) := by rw [IntWalk.i64_in _ (by omega)]
  have hat1 : (q.at_ : Int) ≤ 1099511627776 := by have := hk.at_le; omega
  clear hn hw
  go_enter Tryz.func86, Tryz.ntmps86
  go_wp2_with (fail)
  go_region_with (first | (go_at_call 87; refine (HW.out _ ?_).mono ?_; assumption; rintro e w' ⟨rfl, ⟨m, rfl⟩⟩))
  all_goals
    have hft := hf 2
    have hf1 := hf 1
    have hf3 := hf 3
    clear hf HW hc2 hwr hlen hcol hw1 hlt
    go_wp2
    go_end0
    refine ⟨rfl, ?_, ?_⟩
    · unfold Cur.steps
      rw [← HN.out]
      exact (((h.drewN _).set2 (q.col + n)).set1 (q.at_ + 1)).set3 0
    · exact ((((Touch.refl c w).drewN _).setCell 2 _).setCell 1 _).setCell 3 _
end Go.Proofs.YtpimcdkhjingjaaGreatDoor.X
namespace Go.Proofs.YtpimcdkhjingjaaGreatDoor.X
open Go.RowKit Go.Proofs.YtpimcdkhjingjaaGreatDoorW.PrintWords
namespace Cur
theorem here_lt {q : Cur} (h : q.here = true) : q.at_ < q.s.length := by
  unfold here at h
  simp at h
  exact h.1
theorem steps_ok {q : Cur} (h : q.Ok) (hl : q.at_ < q.s.length) : q.steps.Ok := by
  have h1 := q.wide_le h
  exact ⟨h.len, by show q.at_ + 1 ≤ q.s.length; omega, by show q.col + q.wide + 0 ≤ 4 * (q.at_ + 1) + 4; have := q.wide_col h; omega, fun _ => by show q.col + q.wide ≤ 4 * (q.at_ + 1); have := q.wide_col h; omega, by show 0 ≤ 4; omega, fun h => by have : (0 : Nat) < 0 := h; omega⟩
theorem skipAll_col (n : Nat) : ∀ q : Cur, q.col ≤ (skipAll n q).col := by
  induction n with
  | zero => intro q; exact Nat.le_refl _
  | succ n ih =>
    intro q
    simp only [skipAll]
    split
    · exact Nat.le_trans (by show q.col ≤ q.col + q.wide; omega) (ih q.steps)
    · exact Nat.le_refl _
end Cur
set_option maxRecDepth 100000 in
theorem Indent_c (q : Cur) (c : Nat) (w : World) (h : CurIs w c q) (hk : q.Ok) :
    Calls Tryz.prog 48 #[.pointer (some ⟨c, 0, none⟩)] w fun e w' => e = .returned (.int .i64 (q.indent : Int)) ∧ Below w.heap.size w w' := by
  have hc0 := h.c0
  have hc1 := h.c1
  have hc2 := h.c2
  have hc3 := h.c3
  have hcl := blk_lt h
  go_enter Tryz.func48, Tryz.ntmps48
  go_wp2
  clear hc0 hc1 hc2 hc3
  go_loopg [9, 10] (q.s.length - q.at_) (fun k a b wr => ∃ qi : Cur, Hid (qi.s = q.s ∧ k = q.s.length - qi.at_ ∧ Cur.skipAll k qi = Cur.skipAll (q.s.length - q.at_) q) ∧ qi.Ok ∧ CurIs wr w.heap.size qi ∧ Below w.heap.size w wr)
  case atStart => exact ⟨q, ⟨rfl, rfl, rfl⟩, hk, blk_new w _, below_alloc (Below.refl _ _) _⟩
  case round =>
    obtain ⟨qi, HQ, hki, hx, hb⟩ := hrel
    have HH := Lib.hid (here_c qi _ _ hx hki)
    have hgt : c < wr.heap.size := Nat.lt_of_lt_of_le hcl hb.size
    cases hh : qi.here
    · rw [hh] at HH
      have hd2 := hx.c2
      have hc2 : wr.cell? ⟨c, 2, none⟩ = some (.int .i64 (q.col : Int)) := by rw [hb.cell (p := ⟨c, 2, none⟩) hcl]; exact h.c2
      have HV : Hid (q.indent = qi.col - q.col ∧ q.col ≤ qi.col) := by
        obtain ⟨h1, h2, h3⟩ := HQ.out
        have e : Cur.skipAll gk qi = qi := by
          cases gk with
          | zero => rfl
          | succ k => simp only [Cur.skipAll]; rw [hh]; rfl
        have e2 : q.indent = qi.col - q.col := by unfold Cur.indent; rw [← h3, e]
        exact ⟨e2, by have := Cur.skipAll_col (q.s.length - q.at_) q; rw [← h3, e] at this; exact this⟩
      have hcol : (qi.col : Int) ≤ 17592186044416 := by have := hki.col_le; have := hki.at_le; have := hki.len; omega
      have hle : (q.col : Int) ≤ (qi.col : Int) := by have := HV.out.2; omega
      clear hh hx
      go_wp2_with (go_at_call 85; refine HH.out.mono ?_; rintro e w1 ⟨rfl, ⟨m, rfl⟩⟩)
      go_quiet (fail)
      go_wp2
      go_ret
      refine ⟨?_, ((hb.trans ⟨rfl, rfl, rfl, Nat.le_refl _, fun _ _ => rfl⟩))⟩
      rw [HV.out.1]
      show Ending.returned (.int .i64 _) = _
      congr 2
      omega
    · rw [hh] at HH
      have hlt := Cur.here_lt hh
      obtain ⟨k, rfl⟩ : ∃ k, gk = k + 1 := ⟨gk - 1, by have h2 := HQ.out.2.1; have h1 := HQ.out.1; rw [h1] at hlt; omega⟩
      have HS := Lib.hid (fun w' (h' : CurIs w' w.heap.size qi) => steps_c qi w.heap.size w' h' hki hlt)
      have hxd := fun m => hx.drewN m
      have Hxd := Lib.hid hxd
      clear hx hxd
      go_wp2_with (first | (go_at_call 85; refine HH.out.mono ?_; rintro e w1 ⟨rfl, ⟨m, rfl⟩⟩) | (go_at_call 86; refine (HS.out _ (Hxd.out _)).mono ?_; rintro e w1 ⟨rfl, hx1, ht1⟩))
      go_roundg k
      case measure => omega
      case rel =>
        refine ⟨qi.steps, ?_, Cur.steps_ok hki hlt, hx1, ht1.below (below_drewN hb m) hb.size (Nat.le_refl _)⟩
        obtain ⟨h1, h2, h3⟩ := HQ.out
        refine ⟨h1, by show k = q.s.length - (qi.at_ + 1); omega, ?_⟩
        rw [← h3]
        simp only [Cur.skipAll]
        rw [hh]
        rfl
set_option maxRecDepth 100000 in
theorem Word_c (q : Cur) (c : Nat) (w : World) (h : CurIs w c q) (hk : q.Ok) :
    Calls Tryz.prog 29 #[.pointer (some ⟨c, 0, none⟩)] w fun e w' => e = .returned (.string (S q.word)) ∧ Below w.heap.size w w' := by
  have hc0 := h.c0
  have hc1 := h.c1
  have hs := S_size q.s
  have hat : (q.at_ : Int) ≤ ((S q.s).size : Int) := by have := hk.at_le; omega
  have hat' : q.at_ ≤ (S q.s).size := by have := hk.at_le; omega
  have hat0 : (0 : Int) ≤ (q.at_ : Int) := by omega
  have HT : Hid (∀ w : World, Calls Tryz.prog 52 #[.string ((S q.s).extract q.at_ (S q.s).size), .string ⟨#[32, 9]⟩] w fun e w' => e = .returned (.string (S q.word)) ∧ Below w.heap.size w w') := fun w =>
    strings_TrimLeft.calls _ _ _ w (by
      rw [S_drop]
      unfold strings_TrimLeft.f trimOk
      have h1 : decide ((S (q.s.drop q.at_)).size ≤ 9223372036854775807) = true := decide_eq_true (by rw [S_size, List.length_drop]; have := hk.len; omega)
      have h2 : isAscii ⟨#[32, 9]⟩ = true := by decide
      have h3 : decide ((⟨#[32, 9]⟩ : ByteArray).size < 4294967281) = true := by decide
      rw [h1, h2, h3]
      rfl)
  clear hs
  go_enter Tryz.func29, Tryz.ntmps29
  go_wp2
  go_region_with (first | (go_at_call 52; refine (HT.out _).mono ?_; rintro e w' ⟨rfl, hb⟩))
  all_goals
    go_wp2
    go_ret
    exact ⟨rfl, (below_drew (Below.refl _ _)).trans hb⟩
theorem Blank_c (q : Cur) (c : Nat) (w : World) (h : CurIs w c q) (hk : q.Ok) :
    Calls Tryz.prog 27 #[.pointer (some ⟨c, 0, none⟩)] w fun e w' => e = .returned (.bool q.blank) ∧ Below w.heap.size w w' := by
  have HW := Lib.hid (Word_c q c w h hk)
  obtain ⟨t, ht⟩ : ∃ t, t = S q.word := ⟨_, rfl⟩
  rw [← ht] at HW
  have Ht : Hid (t.toList.isEmpty = q.blank) := by show _ = _; rw [ht, S_toList]; rfl
  clear ht
  cases hb : t.toList.isEmpty
  all_goals
    have hb2 : (t.toList == []) = t.toList.isEmpty := by cases t.toList <;> rfl
    rw [hb] at Ht hb2
    go_enter Tryz.func27, Tryz.ntmps27
    go_wp2_with (go_at_call 29; refine HW.out.mono ?_; rintro e w1 ⟨rfl, hb1⟩)
    go_ret
    exact ⟨by rw [← Ht.out]; rfl, hb1⟩
end Go.Proofs.YtpimcdkhjingjaaGreatDoor.X
namespace Go.Proofs.YtpimcdkhjingjaaGreatDoor.X
open Go.RowKit Go.Proofs.YtpimcdkhjingjaaGreatDoorW.PrintWords
def RetInt (e : Ending) : Prop := ∃ g : Int, e = .returned (.int .i64 g)
theorem Touch.drawn {c : Nat} {a b : World} (h : Drawn0 a b) : Touch c a b := Touch.of_below h.below
theorem CurIs.drawn {w w' : World} {c : Nat} {q : Cur} (h : CurIs w c q) (hd : Drawn0 w w') : CurIs w' c q := by
  obtain ⟨n, rfl⟩ := hd.out
  exact h
set_option maxRecDepth 100000 in
theorem Skip_c (n : Nat) (q : Cur) (c : Nat) (w : World) (h : CurIs w c q) (hk : q.Ok) (hn : n ≤ 1099511627776) :
    Calls Tryz.prog 50 #[.pointer (some ⟨c, 0, none⟩), .int .i64 (n : Int)] w fun e w' => RetInt e ∧ CurIs w' c (q.skip n) ∧ (q.skip n).Ok ∧ Touch c w w' := by
  go_enter Tryz.func50, Tryz.ntmps50
  go_wp2
  go_loopg [5, 6] (q.s.length - q.at_) (fun k g b wr => ∃ (m : Nat) (qi : Cur), g = .int .i64 (m : Int) ∧ m ≤ n ∧ Hid (qi.s = q.s ∧ k = q.s.length - qi.at_ ∧ Cur.skipGo k (n - m) qi = Cur.skipGo (q.s.length - q.at_) n q) ∧ qi.Ok ∧ CurIs wr c qi ∧ Touch c w wr)
  case atStart => exact ⟨0, q, rfl, by omega, ⟨rfl, rfl, rfl⟩, hk, h, Touch.refl _ _⟩
  case round =>
    obtain ⟨m, qi, rfl, hm, HQ, hki, hx, ht⟩ := hrel
    have HH := Lib.hid (here_c qi _ _ hx hki)
    have hlen := hki.len
    have hatle := hki.at_le
    have hcol := hki.col_le
    by_cases hlt : m < n
    · cases hh : qi.here
      · rw [hh] at HH
        have HV : Hid (q.skip n = qi) := by
          obtain ⟨h1, h2, h3⟩ := HQ.out
          show _ = _
          unfold Cur.skip
          rw [← h3]
          cases gk with
          | zero => rfl
          | succ k => simp only [Cur.skipGo]; rw [hh, Bool.and_false]; rfl
        have Hx := Lib.hid hx
        clear hh hx
        go_wp2_with (first | (go_at_call 85; refine HH.out.mono ?_; rintro e w1 ⟨rfl, ⟨m, rfl⟩⟩))
        go_ret
        rw [HV.out]
        exact ⟨⟨_, rfl⟩, Hx.out.drewN _, hki, ht.drewN _⟩
      · rw [hh] at HH
        have hat := Cur.here_lt hh
        have HW := Lib.hid (fun w' (h' : CurIs w' c qi) => wide_c qi c w' h' hki hat)
        have HS := Lib.hid (fun w' (h' : CurIs w' c qi) => steps_c qi c w' h' hki hat)
        have hwl := qi.wide_le hki
        have hwp := qi.wide_pos
        have hwc := qi.wide_col hki
        obtain ⟨k, rfl⟩ : ∃ k, gk = k + 1 := ⟨gk - 1, by have h2 := HQ.out.2.1; have h1 := HQ.out.1; rw [h1] at hat; omega⟩
        obtain ⟨v, hv⟩ : ∃ v, v = qi.wide := ⟨_, rfl⟩
        rw [← hv] at HW hwl hwp hwc
        have Hv := Lib.hid hv
        have Hx := Lib.hid hx
        have Hh := Lib.hid hh
        clear hv hx hh
        have hsub : IntKind.i64.wrap ((n : Int) - (m : Int)) = (n : Int) - (m : Int) := IntWalk.i64_in _ (by omega)
        by_cases hgt : n - m < v
        · have hc2 := Hx.out.c2
          have hc3 := Hx.out.c3
          have hf2 := Hx.out.fr 2
          have hf3 := Hx.out.fr 3
          have hgt' : (n : Int) - (m : Int) < (v : Int) := by omega
          have hlt' : (m : Int) < (n : Int) := by omega
          have hcol2 : (qi.col : Int) ≤ 17592186044416 := by omega
          have hcol0 : (0 : Int) ≤ (qi.col : Int) := by omega
          go_wp2_with (first | (go_at_call 85; refine HH.out.mono ?_; rintro e w1 ⟨rfl, ⟨m1, rfl⟩⟩) | (go_at_call 87; refine (HW.out _ (Hx.out.drewN _)).mono ?_; rintro e w1 ⟨rfl, ⟨m2, rfl⟩⟩))
          go_ret
          have HV : q.skip n = ⟨qi.s, qi.at_, qi.col + (n - m), v - (n - m)⟩ := by
            obtain ⟨h1, h2, h3⟩ := HQ.out
            unfold Cur.skip
            rw [← h3]
            simp only [Cur.skipGo]
            rw [Hh.out, decide_eq_true (show 0 < n - m by omega), Hv.out]
            simp only [Bool.and_true, if_true]
            rw [if_pos (by rw [← Hv.out]; exact hgt)]
          rw [HV]
          refine ⟨⟨_, rfl⟩, ?_, ⟨hlen, hatle, by show qi.col + (n - m) + (v - (n - m)) ≤ 4 * qi.at_ + 4; omega, fun h => by have h : v - (n - m) = 0 := h; show qi.col + (n - m) ≤ 4 * qi.at_; omega, by show v - (n - m) ≤ 4; omega, fun _ => hat⟩, ?_⟩
          · have e1 : ((v : Int) - ((n : Int) - (m : Int))) = ((v - (n - m) : Nat) : Int) := by omega
            have e2 : ((qi.col : Int) + ((n : Int) - (m : Int))) = ((qi.col + (n - m) : Nat) : Int) := by omega
            rw [e1, e2]
            exact ((Hx.out.drewN _).set3 (v - (n - m))).set2 (qi.col + (n - m))
          · exact ((ht.drewN _).setCell 3 _).setCell 2 _
        · have hgt' : ¬ (n : Int) - (m : Int) < (v : Int) := by omega
          have hlt' : (m : Int) < (n : Int) := by omega
          go_wp2_with (first | (go_at_call 85; refine HH.out.mono ?_; rintro e w1 ⟨rfl, ⟨m1, rfl⟩⟩) | (go_at_call 87; refine (HW.out _ (Hx.out.drewN _)).mono ?_; rintro e w1 ⟨rfl, ⟨m2, rfl⟩⟩) | (go_at_call 86; refine (HS.out _ (Hx.out.drewN _)).mono ?_; rintro e w1 ⟨rfl, hx1, ht1⟩))
          go_roundg k
          case measure => omega
          case rel =>
            refine ⟨m + v, qi.steps, by go_num, by omega, ?_, Cur.steps_ok hki hat, hx1, (ht.drewN _).trans ht1⟩
            obtain ⟨h1, h2, h3⟩ := HQ.out
            refine ⟨h1, by show k = q.s.length - (qi.at_ + 1); omega, ?_⟩
            rw [← h3]
            simp only [Cur.skipGo]
            rw [Hh.out, decide_eq_true (show 0 < n - m by omega), Hv.out]
            simp only [Bool.and_true, if_true]
            rw [if_neg (by rw [← Hv.out]; exact hgt), ← Hv.out]
            congr 1
            omega
    · have hlt' : ¬ (m : Int) < (n : Int) := by omega
      have HV : Hid (q.skip n = qi) := by
        obtain ⟨h1, h2, h3⟩ := HQ.out
        show _ = _
        unfold Cur.skip
        rw [← h3]
        cases gk with
        | zero => rfl
        | succ k => simp only [Cur.skipGo]; rw [decide_eq_false (show ¬ 0 < n - m by omega), Bool.false_and]; rfl
      have Hx := Lib.hid hx
      clear hx HH
      go_wp2
      go_ret
      rw [HV.out]
      exact ⟨⟨_, rfl⟩, Hx.out, hki, ht⟩
def RetStr (e : Ending) : Prop := ∃ g : ByteArray, e = .returned (.string g)
set_option maxRecDepth 100000 in
theorem Take_c (n : Nat) (q : Cur) (c : Nat) (w : World) (h : CurIs w c q) (hk : q.Ok) (hn : n ≤ 1099511627776) :
    Calls Tryz.prog 111 #[.pointer (some ⟨c, 0, none⟩), .int .i64 (n : Int)] w fun e w' => RetStr e ∧ CurIs w' c (Cur.take n q) ∧ (Cur.take n q).Ok ∧ Touch c w w' := by
  have hc1 := h.c1
  have Hc := Lib.hid h
  clear h
  go_enter Tryz.func111, Tryz.ntmps111
  go_wp2
  clear hc1
  go_loopg [13] n (fun k i wr => ∃ (m : Nat) (qi : Cur), i = .int .i64 (m : Int) ∧ m ≤ n ∧ Hid (qi.s = q.s ∧ k = n - m ∧ Cur.take k qi = Cur.take n q ∧ q.at_ ≤ qi.at_) ∧ qi.Ok ∧ CurIs wr c qi ∧ Touch c w wr)
  case atStart => exact ⟨0, q, rfl, by omega, ⟨rfl, rfl, rfl, Nat.le_refl _⟩, hk, Hc.out, Touch.refl _ _⟩
  case round =>
    obtain ⟨m, qi, rfl, hm, HQ, hki, hx, ht⟩ := hrel
    have hlen := hki.len
    have hatle := hki.at_le
    have hc0 := hx.c0
    have hc1 := hx.c1
    have hs := S_size qi.s
    have hle1 : (qi.at_ : Int) ≤ ((S qi.s).size : Int) := by omega
    have hle1' : qi.at_ ≤ (S qi.s).size := by omega
    have hle2 : (q.at_ : Int) ≤ (qi.at_ : Int) := by have := HQ.out.2.2.2; omega
    have hle2' : q.at_ ≤ qi.at_ := HQ.out.2.2.2
    have hq0 : (0 : Int) ≤ (q.at_ : Int) := by omega
    have Hx := Lib.hid hx
    clear hx
    by_cases hlt : m < n
    · obtain ⟨k, rfl⟩ : ∃ k, gk = k + 1 := ⟨gk - 1, by have h2 := HQ.out.2.1; omega⟩
      have hlt' : (m : Int) < (n : Int) := by omega
      by_cases hat : qi.at_ < qi.s.length
      · have hne : ((qi.at_ : Int) == ((S qi.s).size : Int)) = false := by rw [beq_eq_false_iff_ne]; omega
        have HS := Lib.hid (fun w' (h' : CurIs w' c qi) => steps_c qi c w' h' hki hat)
        clear hs
        go_wp2_with (fail)
        go_quiet (fail)
        go_wp2_with (first | (go_at_call 86; refine (HS.out _ (Hx.out.drewN _)).mono ?_; rintro e w1 ⟨rfl, hx1, ht1⟩))
        go_roundg k
        case measure => omega
        case rel =>
          refine ⟨m + 1, qi.steps, by go_num, by omega, ?_, Cur.steps_ok hki hat, hx1, (ht.drewN _).trans ht1⟩
          obtain ⟨h1, h2, h3, h4⟩ := HQ.out
          refine ⟨h1, by omega, ?_, by show q.at_ ≤ qi.at_ + 1; omega⟩
          rw [← h3]
          simp only [Cur.take]
          rw [if_pos hat]
      · have hne : ((qi.at_ : Int) == ((S qi.s).size : Int)) = true := by rw [beq_iff_eq]; omega
        have HV : Hid (Cur.take n q = qi) := by
          obtain ⟨h1, h2, h3, h4⟩ := HQ.out
          show _ = _
          rw [← h3]
          simp only [Cur.take]
          rw [if_neg hat]
        clear hs
        go_wp2_with (fail)
        go_quiet (fail)
        go_wp2
        go_quiet (fail)
        go_wp2
        go_ret
        rw [HV.out]
        exact ⟨⟨_, rfl⟩, Hx.out, hki, (ht.drewN _).drewN _⟩
    · have hlt' : ¬ (m : Int) < (n : Int) := by omega
      have HV : Hid (Cur.take n q = qi) := by
        obtain ⟨h1, h2, h3, h4⟩ := HQ.out
        show _ = _
        rw [← h3]
        have : gk = 0 := by omega
        subst this
        rfl
      clear hs
      go_wp2
      go_quiet (fail)
      go_wp2
      go_ret
      rw [HV.out]
      exact ⟨⟨_, rfl⟩, Hx.out.drewN _, hki, ht.drewN _⟩
def KS (c : Nat) (q : Cur) (w w' : World) : Prop := CurIs w' c q ∧ Below w.heap.size w w'
theorem KS.all {c : Nat} {q : Cur} {w w' : World} (h : KS c q w w') : w'.cell? ⟨c, 0, none⟩ = some (.string (S q.s)) ∧ w'.cell? ⟨c, 1, none⟩ = some (.int .i64 (q.at_ : Int)) ∧ w'.cell? ⟨c, 3, none⟩ = some (.int .i64 (q.left : Int)) ∧ KS c q w w' := ⟨h.1.c0, h.1.c1, h.1.c3, h⟩
theorem KS.below {c : Nat} {q : Cur} {w w' w2 : World} (h : KS c q w w') (hb : Below w'.heap.size w' w2) : KS c q w w2 := ⟨h.1.below hb, below_then h.2 h.2.size hb⟩
theorem repeat_space (n : Nat) (hn : n ≤ 4) (w : World) : Calls Tryz.prog 94 #[.string ⟨#[32]⟩, .int .i64 (n : Int)] w fun e w' => e = .returned (.string (S (List.replicate n 32))) ∧ Below w.heap.size w w' := by
  refine (Tryz.strings_Repeat ⟨#[32]⟩ n w (by omega) (by show 1 * n ≤ _; omega)).mono ?_
  rintro e w' ⟨rfl, hb⟩
  refine ⟨?_, hb⟩
  have h5 : n = 0 ∨ n = 1 ∨ n = 2 ∨ n = 3 ∨ n = 4 := by omega
  rcases h5 with rfl | rfl | rfl | rfl | rfl <;> rfl
set_option maxRecDepth 100000 in
theorem Rest_c (q : Cur) (c : Nat) (w : World) (h : CurIs w c q) (hk : q.Ok) :
    Calls Tryz.prog 53 #[.pointer (some ⟨c, 0, none⟩)] w fun e w' => e = .returned (.string (S q.rest)) ∧ Below w.heap.size w w' := by
  have hc0 := h.c0
  have hc1 := h.c1
  have hc3 := h.c3
  have hcl := blk_lt h
  have hlen := hk.len
  have hatle := hk.at_le
  have hs := S_size q.s
  have hle1 : (q.at_ : Int) ≤ ((S q.s).size : Int) := by omega
  have hle1' : q.at_ ≤ (S q.s).size := by omega
  have hq0 : (0 : Int) ≤ (q.at_ : Int) := by omega
  have hq1 : (q.at_ : Int) ≤ 1099511627776 := by omega
  by_cases hl : 0 < q.left
  · have hl' : (0 : Int) < (q.left : Int) := by omega
    have hat := hk.left_at hl
    have HR := Lib.hid (fun w' (hw : KS c q w w') => (repeat_space q.left hk.left_le w').mono (fun e w2 (hh : _ ∧ _) => (⟨hh.1, hw.below hh.2⟩ : e = .returned (.string (S (List.replicate q.left 32))) ∧ KS c q w w2)))
    have hle2 : (q.at_ : Int) + 1 ≤ ((S q.s).size : Int) := by omega
    have hle2' : q.at_ + 1 ≤ (S q.s).size := by omega
    have hq2 : (0 : Int) ≤ (q.at_ : Int) + 1 := by omega
    have hwr : IntKind.i64.wrap ((q.at_ : Int) + 1) = (q.at_ : Int) + 1 := IntWalk.i64_in _ (by omega)
    have htn : ((q.at_ : Int) + 1).toNat = q.at_ + 1 := by omega
    have hsum := lim_false (show (S (List.replicate q.left 32)).size + ((S q.s).size - (q.at_ + 1)) ≤ 9223372036854775807 by
      rw [S_size, S_size, List.length_replicate]
      have := hk.left_le
      omega)
    have HV : Hid (S (List.replicate q.left 32) ++ (S q.s).extract (q.at_ + 1) (S q.s).size = S q.rest) := by
      show _ = _
      unfold Cur.rest
      rw [if_pos hl, S_drop, S_append]
    obtain ⟨r, hr⟩ : ∃ r, r = S (List.replicate q.left 32) := ⟨_, rfl⟩
    rw [← hr] at HR hsum HV
    clear hr hs
    go_enter Tryz.func53, Tryz.ntmps53
    go_wp2
    go_region_held3 (fun w' => w'.cell? ⟨c, 0, none⟩ = some (.string (S q.s)) ∧ w'.cell? ⟨c, 1, none⟩ = some (.int .i64 (q.at_ : Int)) ∧ w'.cell? ⟨c, 3, none⟩ = some (.int .i64 (q.left : Int)) ∧ KS c q w w') (first | exact KS.all ⟨h, below_drew (Below.refl _ _)⟩ | exact KS.all (by assumption) | assumption) (first | (go_at_call 94; refine (HR.out _ ?_).mono ?_; (first | assumption | exact (by assumption : _ ∧ _ ∧ _ ∧ _).2.2.2 | exact ⟨h, below_drew (Below.refl _ _)⟩); rintro e w' ⟨rfl, hb⟩))
    all_goals
      go_wp2
      go_ret
      exact ⟨by rw [← HV.out]; rfl, (by assumption : KS c q w _).2⟩
  · have hl' : ¬ (0 : Int) < (q.left : Int) := by omega
    have HV : Hid ((S q.s).extract q.at_ (S q.s).size = S q.rest) := by
      show _ = _
      unfold Cur.rest
      rw [if_neg hl, S_drop]
    clear hs
    go_enter Tryz.func53, Tryz.ntmps53
    go_wp2
    go_quiet (fail)
    go_wp2
    go_ret
    exact ⟨by rw [← HV.out]; rfl, below_drewN (Below.refl _ _) _⟩
end Go.Proofs.YtpimcdkhjingjaaGreatDoor.X
namespace Go.Proofs.YtpimcdkhjingjaaGreatDoor.X
open Go.RowKit Go.Proofs.YtpimcdkhjingjaaGreatDoorW.PrintWords
structure Blk where
  kind : Nat
  first : Nat
  last : Nat
  kids : List Nat
  n : Nat
  flag : Bool
  sign : UInt8
  width : Nat
  title : List UInt8
  fence : Nat
  in_ : Nat
  lines : List (List UInt8)
def Blk.zero : Blk := ⟨0, 0, 0, [], 0, false, 0, 0, [], 0, 0, []⟩
structure St where
  bs : List Blk
  op : List Nat
  here : Nat
  at_ : Nat
  cur : Cur
inductive Tag where
  | open_
  | kid (i : Nat)
  | line (i : Nat)
  deriving DecidableEq
structure Lay where
  pb : Nat
  cb : Nat
  ad : Nat → Nat
  rv : Tag → Value
def Lay.ptr (L : Lay) (i : Nat) : Value := .pointer (some ⟨L.ad i, 0, none⟩)
def Lay.put (L : Lay) (t : Tag) (v : Value) : Lay := { L with rv := fun u => if u = t then v else L.rv u }
def St.get (s : St) (i : Nat) : Blk := s.bs.getD i Blk.zero
def St.set (s : St) (i : Nat) (b : Blk) : St := { s with bs := s.bs.set i b }
def Tag.ok (s : St) : Tag → Prop
  | .open_ => True
  | .kid i => i < s.bs.length
  | .line i => i < s.bs.length
def Tag.ty : Tag → TypeId
  | .open_ => 40
  | .kid _ => 40
  | .line _ => 9
def elems (L : Lay) (s : St) : Tag → List Value
  | .open_ => s.op.map L.ptr
  | .kid i => (s.get i).kids.map L.ptr
  | .line i => (s.get i).lines.map fun l => .string (S l)
def cellsB (b : Blk) (kv lv : Value) : Array Value := #[.int .i64 (b.kind : Int), .int .i64 (b.first : Int), .int .i64 (b.last : Int), kv, .int .i64 (b.n : Int), .bool b.flag, .int .u8 (b.sign.toNat : Int), .int .i64 (b.width : Int), .string (S b.title), .int .i64 (b.fence : Int), .int .i64 (b.in_ : Int), lv]
def cellsP (L : Lay) (s : St) : Array Value := #[L.rv .open_, .int .i64 (s.here : Int), .pointer (some ⟨L.cb, 0, none⟩), .int .i64 (s.at_ : Int)]
structure Rep (B : Nat) (w : World) (L : Lay) (s : St) : Prop where
  par : w.heap[L.pb]? = some (.cells (cellsP L s) 46 (0, 0))
  cur : CurIs w L.cb s.cur
  blk : ∀ i, i < s.bs.length → w.heap[L.ad i]? = some (.cells (cellsB (s.get i) (L.rv (.kid i)) (L.rv (.line i))) 43 (0, 0))
  own : ∀ t, Tag.ok s t → w.ownsRow B t.ty 1 (L.rv t) (elems L s t).length (elems L s t)
  inj : ∀ i j, i < s.bs.length → j < s.bs.length → L.ad i = L.ad j → i = j
  apart : ∀ t u, Tag.ok s t → Tag.ok s u → t ≠ u → ∀ g, (L.rv t).ownBlock = some g → (L.rv u).ownBlock ≠ some g
  bp : B ≤ L.pb
  bc : B ≤ L.cb
  bb : ∀ i, i < s.bs.length → B ≤ L.ad i
theorem St.get_set (s : St) (i j : Nat) (b : Blk) (h : i < s.bs.length) : (s.set i b).get j = if j = i then b else s.get j := by
  unfold St.get St.set
  simp only [List.getD_eq_getElem?_getD, List.getElem?_set]
  by_cases e : j = i
  · subst e; simp [h]
  · rw [if_neg (Ne.symm e), if_neg e]
theorem St.set_len (s : St) (i : Nat) (b : Blk) : (s.set i b).bs.length = s.bs.length := by simp [St.set]
theorem ok_len {s s' : St} (h : s'.bs.length = s.bs.length) {t : Tag} : Tag.ok s' t ↔ Tag.ok s t := by cases t <;> simp [Tag.ok, h]
theorem ok_set {s : St} {i : Nat} {b : Blk} {t : Tag} : Tag.ok (s.set i b) t ↔ Tag.ok s t := ok_len (St.set_len s i b)
theorem Tag.ty_ne (t : Tag) : t.ty ≠ 59 ∧ t.ty ≠ 46 ∧ t.ty ≠ 43 := by
  cases t <;> exact ⟨by simp [Tag.ty], by simp [Tag.ty], by simp [Tag.ty]⟩
theorem row_cells {w : World} {B : Nat} {e : TypeId} {v : Value} {xs : List Value} {n g : Nat} (h : w.ownsRow B e 1 v n xs) (hg : v.ownBlock = some g) : ∃ c, w.heap[g]? = some (.cells c e (0, 0)) := own_typed h g hg
theorem ne_of_types {w : World} {a b : Nat} {t u : TypeId} {c d : Array Value} {x y : Nat × Nat} (ha : w.heap[a]? = some (.cells c t x)) (hb : w.heap[b]? = some (.cells d u y)) (h : t ≠ u) : a ≠ b := by
  rintro rfl
  rw [ha] at hb
  injection hb with hb
  injection hb with _ hb
  exact h hb
def St.pushOpen (s : St) (k : Nat) : St := { s with op := s.op ++ [k] }
def St.cutOpen (s : St) (n : Nat) : St := { s with op := s.op.take n }
def St.pushKid (s : St) (i k : Nat) : St := s.set i { s.get i with kids := (s.get i).kids ++ [k] }
def St.pushLine (s : St) (i : Nat) (l : List UInt8) : St := s.set i { s.get i with lines := (s.get i).lines ++ [l] }
def St.born (s : St) (b : Blk) : St := { s with bs := s.bs ++ [b] }
def Lay.more (L : Lay) (n a : Nat) (lv : Value) : Lay :=
  { L with ad := fun i => if i = n then a else L.ad i, rv := fun t => if t = .kid n then .slice none 0 0 else if t = .line n then lv else L.rv t }
namespace Rep
variable {B : Nat} {w w' : World} {L : Lay} {s : St}
theorem keep (h : Rep B w L s) (hm : ∀ k, k < w.heap.size → B ≤ k → w'.heap[k]? = w.heap[k]?) : Rep B w' L s where
  par := (hm _ (blk_lt h.par) h.bp).trans h.par
  cur := (hm _ (blk_lt h.cur) h.bc).trans h.cur
  blk i hi := (hm _ (blk_lt (h.blk i hi)) (h.bb i hi)).trans (h.blk i hi)
  own t ht := own_move (h.own t ht) fun k hk => hm k (own_lt (h.own t ht) k hk) (own_base (h.own t ht) k hk)
  inj := h.inj
  apart := h.apart
  bp := h.bp
  bc := h.bc
  bb := h.bb
theorem below (h : Rep B w L s) (hb : Below w.heap.size w w') : Rep B w' L s := h.keep fun k hk _ => hb.block k hk
theorem drewN (h : Rep B w L s) (n : Nat) : Rep B (w.drewN n) L s := h.keep fun _ _ _ => rfl
theorem go (h : Rep B w L s) {q : Cur} (ht : Touch L.cb w w') (hc : CurIs w' L.cb q) : Rep B w' L { s with cur := q } where
  par := ht.blk h.par (ne_of_types h.par h.cur (by decide))
  cur := hc
  blk i hi := ht.blk (h.blk i hi) (ne_of_types (h.blk i hi) h.cur (by decide))
  own t hk := own_move (h.own t hk) fun k hk' => ht.block k (own_lt (h.own t hk) k hk') (by
    obtain ⟨c, hc'⟩ := row_cells (h.own t hk) hk'
    exact ne_of_types hc' h.cur (t.ty_ne.1))
  inj := h.inj
  apart := h.apart
  bp := h.bp
  bc := h.bc
  bb := h.bb
theorem p0 (h : Rep B w L s) : w.cell? ⟨L.pb, 0, none⟩ = some (L.rv .open_) := (blk_cell h.par 0).trans rfl
theorem p1 (h : Rep B w L s) : w.cell? ⟨L.pb, 1, none⟩ = some (.int .i64 (s.here : Int)) := (blk_cell h.par 1).trans rfl
theorem p2 (h : Rep B w L s) : w.cell? ⟨L.pb, 2, none⟩ = some (.pointer (some ⟨L.cb, 0, none⟩)) := (blk_cell h.par 2).trans rfl
theorem p3 (h : Rep B w L s) : w.cell? ⟨L.pb, 3, none⟩ = some (.int .i64 (s.at_ : Int)) := (blk_cell h.par 3).trans rfl
theorem pf (h : Rep B w L s) (j : Nat) : w.frozen? ⟨L.pb, j, none⟩ = false := blk_frozen h.par j
theorem bf (h : Rep B w L s) (i : Nat) (hi : i < s.bs.length) (j : Nat) : w.frozen? ⟨L.ad i, j, none⟩ = false := blk_frozen (h.blk i hi) j
theorem b0 (h : Rep B w L s) (i : Nat) (hi : i < s.bs.length) : w.cell? ⟨L.ad i, 0, none⟩ = some (.int .i64 ((s.get i).kind : Int)) := (blk_cell (h.blk i hi) 0).trans rfl
theorem b1 (h : Rep B w L s) (i : Nat) (hi : i < s.bs.length) : w.cell? ⟨L.ad i, 1, none⟩ = some (.int .i64 ((s.get i).first : Int)) := (blk_cell (h.blk i hi) 1).trans rfl
theorem b2 (h : Rep B w L s) (i : Nat) (hi : i < s.bs.length) : w.cell? ⟨L.ad i, 2, none⟩ = some (.int .i64 ((s.get i).last : Int)) := (blk_cell (h.blk i hi) 2).trans rfl
theorem b3 (h : Rep B w L s) (i : Nat) (hi : i < s.bs.length) : w.cell? ⟨L.ad i, 3, none⟩ = some (L.rv (.kid i)) := (blk_cell (h.blk i hi) 3).trans rfl
theorem b4 (h : Rep B w L s) (i : Nat) (hi : i < s.bs.length) : w.cell? ⟨L.ad i, 4, none⟩ = some (.int .i64 ((s.get i).n : Int)) := (blk_cell (h.blk i hi) 4).trans rfl
theorem b5 (h : Rep B w L s) (i : Nat) (hi : i < s.bs.length) : w.cell? ⟨L.ad i, 5, none⟩ = some (.bool (s.get i).flag) := (blk_cell (h.blk i hi) 5).trans rfl
theorem b6 (h : Rep B w L s) (i : Nat) (hi : i < s.bs.length) : w.cell? ⟨L.ad i, 6, none⟩ = some (.int .u8 ((s.get i).sign.toNat : Int)) := (blk_cell (h.blk i hi) 6).trans rfl
theorem b7 (h : Rep B w L s) (i : Nat) (hi : i < s.bs.length) : w.cell? ⟨L.ad i, 7, none⟩ = some (.int .i64 ((s.get i).width : Int)) := (blk_cell (h.blk i hi) 7).trans rfl
theorem b8 (h : Rep B w L s) (i : Nat) (hi : i < s.bs.length) : w.cell? ⟨L.ad i, 8, none⟩ = some (.string (S (s.get i).title)) := (blk_cell (h.blk i hi) 8).trans rfl
theorem b9 (h : Rep B w L s) (i : Nat) (hi : i < s.bs.length) : w.cell? ⟨L.ad i, 9, none⟩ = some (.int .i64 ((s.get i).fence : Int)) := (blk_cell (h.blk i hi) 9).trans rfl
theorem b10 (h : Rep B w L s) (i : Nat) (hi : i < s.bs.length) : w.cell? ⟨L.ad i, 10, none⟩ = some (.int .i64 ((s.get i).in_ : Int)) := (blk_cell (h.blk i hi) 10).trans rfl
theorem b11 (h : Rep B w L s) (i : Nat) (hi : i < s.bs.length) : w.cell? ⟨L.ad i, 11, none⟩ = some (L.rv (.line i)) := (blk_cell (h.blk i hi) 11).trans rfl
theorem setHere (h : Rep B w L s) (n : Nat) : Rep B (w.setCell ⟨L.pb, 1, none⟩ (.int .i64 (n : Int))) L { s with here := n } where
  par := blk_put h.par 1 _ rfl
  cur := blk_far h.cur (ne_of_types h.cur h.par (by decide)) _
  blk i hi := blk_far (h.blk i hi) (ne_of_types (h.blk i hi) h.par (by decide)) _
  own t ht := own_setCell (h.own t ht) (fun e => by
    obtain ⟨c, hc⟩ := row_cells (h.own t ht) e.symm
    exact ne_of_types hc h.par (t.ty_ne.2.1) rfl) _
  inj := h.inj
  apart := h.apart
  bp := h.bp
  bc := h.bc
  bb := h.bb
theorem setB (h : Rep B w L s) (i : Nat) (hi : i < s.bs.length) (j : Nat) (u : Value) (b : Blk) (hk : b.kids = (s.get i).kids) (hl : b.lines = (s.get i).lines)
    (hb : ∀ kv lv, (cellsB (s.get i) kv lv).setIfInBounds j u = cellsB b kv lv) : Rep B (w.setCell ⟨L.ad i, j, none⟩ u) L (s.set i b) where
  par := blk_far h.par (ne_of_types h.par (h.blk i hi) (by decide)) _
  cur := blk_far h.cur (ne_of_types h.cur (h.blk i hi) (by decide)) _
  blk k hk' := by
    rw [St.set_len] at hk'
    rw [St.get_set s i k b hi]
    by_cases e : k = i
    · subst e
      rw [if_pos rfl]
      exact blk_put (h.blk k hk') j _ (hb _ _)
    · rw [if_neg e]
      exact blk_far (h.blk k hk') (fun e' => e (h.inj k i hk' hi e')) _
  own t ht := by
    have ht' : Tag.ok s t := ok_set.1 ht
    have he : elems L (s.set i b) t = elems L s t := by
      cases t with
      | open_ => rfl
      | kid k =>
        simp only [elems]
        rw [St.get_set s i k b hi]
        split
        · rename_i e; subst e; rw [hk]
        · rfl
      | line k =>
        simp only [elems]
        rw [St.get_set s i k b hi]
        split
        · rename_i e; subst e; rw [hl]
        · rfl
    rw [he]
    refine own_setCell (h.own t ht') (fun e => ?_) _
    obtain ⟨c, hc⟩ := row_cells (h.own t ht') e.symm
    exact ne_of_types hc (h.blk i hi) (t.ty_ne.2.2) rfl
  inj k l hk' hl' := by rw [St.set_len] at hk' hl'; exact h.inj k l hk' hl'
  apart t u ht hu := h.apart t u (ok_set.1 ht) (ok_set.1 hu)
  bp := h.bp
  bc := h.bc
  bb k hk' := by rw [St.set_len] at hk'; exact h.bb k hk'
def holder (L : Lay) : Tag → Nat × Nat
  | .open_ => (L.pb, 0)
  | .kid i => (L.ad i, 3)
  | .line i => (L.ad i, 11)
theorem put_same (L : Lay) (t : Tag) (v : Value) : (L.put t v).rv t = v := by simp [Lay.put]
theorem put_other (L : Lay) {t u : Tag} (v : Value) (h : u ≠ t) : (L.put t v).rv u = L.rv u := by simp [Lay.put, h]
theorem row (h : Rep B w L s) (t : Tag) (ht : Tag.ok s t) {v' : Value} {w1 : World} {xs : List Value} (hown : w1.ownsRow B t.ty 1 v' xs.length xs) (hg : w.grownBy w1 (L.rv t).ownBlock)
    (hat : ∀ g, v'.ownBlock = some g → (L.rv t).ownBlock = some g ∨ w.heap.size ≤ g) (s' : St) (h1 : s'.bs.length = s.bs.length) (h2 : s'.here = s.here) (h3 : s'.at_ = s.at_) (h4 : s'.cur = s.cur)
    (h5 : ∀ i kv lv, cellsB (s'.get i) kv lv = cellsB (s.get i) kv lv) (h6 : ∀ u, u ≠ t → elems L s' u = elems L s u) (h7 : elems L s' t = xs) :
    Rep B (w1.setCell ⟨(holder L t).1, (holder L t).2, none⟩ v') (L.put t v') s' := by
  have hrow : ∀ g c ty, w.heap[g]? = some (.cells c ty (0, 0)) → t.ty ≠ ty → some g ≠ (L.rv t).ownBlock := fun g c ty hc hne e => by
    obtain ⟨c', hc'⟩ := row_cells (h.own t ht) e.symm
    exact ne_of_types hc' hc hne rfl
  have hpar := blk_grown h.par hg (hrow _ _ _ h.par t.ty_ne.2.1)
  have hcur : CurIs w1 L.cb s.cur := blk_grown h.cur hg (hrow _ _ _ h.cur t.ty_ne.1)
  have hblk : ∀ i, i < s.bs.length → w1.heap[L.ad i]? = _ := fun i hi => blk_grown (h.blk i hi) hg (hrow _ _ _ (h.blk i hi) t.ty_ne.2.2)
  have hel : ∀ u, elems (L.put t v') s' u = elems L s' u := fun u => by cases u <;> rfl
  have hhold : ∃ c ty, w1.heap[(holder L t).1]? = some (.cells c ty (0, 0)) ∧ ty ≠ 40 ∧ ty ≠ 9 ∧ ty ≠ 59 := by
    cases t with
    | open_ => exact ⟨_, _, hpar, by decide, by decide, by decide⟩
    | kid i => exact ⟨_, _, hblk i ht, by decide, by decide, by decide⟩
    | line i => exact ⟨_, _, hblk i ht, by decide, by decide, by decide⟩
  obtain ⟨hc, hty, hh, hn1, hn2, hn3⟩ := hhold
  have htyp : ∀ u : Tag, u.ty ≠ hty := fun u => by cases u <;> simp [Tag.ty] <;> first | exact Ne.symm hn1 | exact Ne.symm hn2
  have own1 : ∀ u, Tag.ok s u → u ≠ t → w1.ownsRow B u.ty 1 (L.rv u) (elems L s u).length (elems L s u) := fun u hu hne =>
    (h.own u hu).kept hg (by
      cases e : (L.rv u).ownBlock with
      | none => exact .inl rfl
      | some g => exact .inr (Ne.symm (h.apart u t hu ht hne g e)))
  refine ⟨?_, ?_, ?_, ?_, ?_, ?_, h.bp, h.bc, ?_⟩
  ·
    cases t with
    | open_ =>
      refine blk_put hpar 0 _ ?_
      unfold cellsP
      rw [put_same, h2, h3]
      rfl
    | kid i =>
      have e : cellsP (L.put (.kid i) v') s' = cellsP L s := by
        unfold cellsP
        rw [put_other L v' (by simp), h2, h3]
        rfl
      rw [e]
      exact blk_far hpar (ne_of_types hpar (hblk i ht) (by decide)) _
    | line i =>
      have e : cellsP (L.put (.line i) v') s' = cellsP L s := by
        unfold cellsP
        rw [put_other L v' (by simp), h2, h3]
        rfl
      rw [e]
      exact blk_far hpar (ne_of_types hpar (hblk i ht) (by decide)) _
  · rw [h4]
    exact blk_far hcur (ne_of_types hcur hh (Ne.symm hn3)) _
  · intro i hi
    rw [h1] at hi
    rw [h5]
    cases t with
    | open_ =>
      rw [put_other L v' (by simp), put_other L v' (by simp)]
      exact blk_far (hblk i hi) (ne_of_types (hblk i hi) hpar (by decide)) _
    | kid k =>
      rw [put_other L v' (u := .line i) (by simp)]
      by_cases e : i = k
      · subst e
        rw [put_same]
        exact blk_put (hblk i hi) 3 _ rfl
      · rw [put_other L v' (by simpa using e)]
        exact blk_far (hblk i hi) (fun e' => e (h.inj i k hi ht e')) _
    | line k =>
      rw [put_other L v' (u := .kid i) (by simp)]
      by_cases e : i = k
      · subst e
        rw [put_same]
        exact blk_put (hblk i hi) 11 _ rfl
      · rw [put_other L v' (by simpa using e)]
        exact blk_far (hblk i hi) (fun e' => e (h.inj i k hi ht e')) _
  · intro u hu
    rw [ok_len h1] at hu
    rw [hel]
    by_cases e : u = t
    · subst e
      rw [put_same, h7]
      refine own_setCell hown (fun e => ?_) _
      obtain ⟨c, hc'⟩ := row_cells hown e.symm
      exact ne_of_types hc' hh (htyp u) rfl
    · rw [put_other L v' e, h6 u e]
      refine own_setCell (own1 u hu e) (fun e' => ?_) _
      obtain ⟨c, hc'⟩ := row_cells (own1 u hu e) e'.symm
      exact ne_of_types hc' hh (htyp u) rfl
  · intro i j hi hj
    rw [h1] at hi hj
    exact h.inj i j hi hj
  · intro u x hu hx hne g he
    rw [ok_len h1] at hu hx
    by_cases e1 : u = t
    · subst e1
      rw [put_same] at he
      rw [put_other L v' (Ne.symm hne)]
      rcases hat g he with h8 | h8
      · exact h.apart u x hu hx hne g h8
      · intro h9
        have := own_lt (h.own x hx) g h9
        omega
    · rw [put_other L v' e1] at he
      by_cases e2 : x = t
      · subst e2
        rw [put_same]
        intro h9
        rcases hat g h9 with h8 | h8
        · exact h.apart x u hx hu (Ne.symm hne) g h8 he
        · have := own_lt (h.own u hu) g he
          omega
      · rw [put_other L v' e2]
        exact h.apart u x hu hx hne g he
  · intro i hi
    rw [h1] at hi
    exact h.bb i hi
theorem pushOpen (h : Rep B w L s) (k : Nat) {g cap : Nat} {w1 : World} (hown : w1.ownsRow B 40 1 (.slice (some ⟨g, 0, none⟩) (s.op.length + 1) cap) (s.op.length + 1) (elems L s .open_ ++ [L.ptr k])) (hg : w.grownBy w1 (L.rv .open_).ownBlock)
    (hat : (L.rv .open_).ownBlock = some g ∨ g = w.heap.size) : Rep B (w1.setCell ⟨L.pb, 0, none⟩ (.slice (some ⟨g, 0, none⟩) (s.op.length + 1) cap)) (L.put .open_ (.slice (some ⟨g, 0, none⟩) (s.op.length + 1) cap)) (s.pushOpen k) := by
  refine h.row .open_ trivial (xs := elems L s .open_ ++ [L.ptr k]) (by simpa [elems, Tag.ty] using hown) hg ?_ _ rfl rfl rfl rfl (fun _ _ _ => rfl) (fun u hu => ?_) ?_
  · intro g' hg'
    obtain rfl : g = g' := by simpa [Value.ownBlock] using hg'
    rcases hat with h | h
    · exact .inl h
    · exact .inr (by omega)
  · cases u with
    | open_ => exact absurd rfl hu
    | kid i => rfl
    | line i => rfl
  · simp [elems, St.pushOpen]
theorem cutOpen (h : Rep B w L s) (n : Nat) (hn : n ≤ s.op.length) {A : Option Addr} {c : Nat} (hv : L.rv .open_ = .slice A s.op.length c) :
    Rep B (w.setCell ⟨L.pb, 0, none⟩ (.slice A n c)) (L.put .open_ (.slice A n c)) (s.cutOpen n) := by
  have hown := h.own .open_ trivial
  rw [hv] at hown
  have hlen : (elems L s .open_).length = s.op.length := by simp [elems]
  rw [hlen] at hown
  have h2 := own_take hown hn
  have e : (elems L s .open_).take (n * 1) = elems L (s.cutOpen n) .open_ := by simp [elems, St.cutOpen, List.map_take]
  have e2 : (elems L (s.cutOpen n) .open_).length = n := by simp [elems, St.cutOpen, List.length_take]; omega
  rw [e] at h2
  refine h.row .open_ trivial (w1 := w) (xs := elems L (s.cutOpen n) .open_) (by rw [e2]; exact h2) ⟨rfl, rfl, rfl, Nat.le_refl _, fun _ _ _ => rfl⟩ ?_ _ rfl rfl rfl rfl (fun _ _ _ => rfl) (fun u hu => ?_) rfl
  · intro g hg
    rw [hv]
    exact .inl (by
      cases A with
      | none => simp [Value.ownBlock] at hg
      | some a => simpa [Value.ownBlock] using hg)
  · cases u with
    | open_ => exact absurd rfl hu
    | kid i => rfl
    | line i => rfl
theorem pushKid (h : Rep B w L s) (i k : Nat) (hi : i < s.bs.length) {g cap : Nat} {w1 : World} (hown : w1.ownsRow B 40 1 (.slice (some ⟨g, 0, none⟩) ((s.get i).kids.length + 1) cap) ((s.get i).kids.length + 1) (elems L s (.kid i) ++ [L.ptr k])) (hg : w.grownBy w1 (L.rv (.kid i)).ownBlock)
    (hat : (L.rv (.kid i)).ownBlock = some g ∨ g = w.heap.size) : Rep B (w1.setCell ⟨L.ad i, 3, none⟩ (.slice (some ⟨g, 0, none⟩) ((s.get i).kids.length + 1) cap)) (L.put (.kid i) (.slice (some ⟨g, 0, none⟩) ((s.get i).kids.length + 1) cap)) (s.pushKid i k) := by
  refine h.row (.kid i) hi (xs := elems L s (.kid i) ++ [L.ptr k]) (by simpa [elems, Tag.ty] using hown) hg ?_ _ (St.set_len _ _ _) rfl rfl rfl (fun j kv lv => ?_) (fun u hu => ?_) ?_
  · intro g' hg'
    obtain rfl : g = g' := by simpa [Value.ownBlock] using hg'
    rcases hat with h | h
    · exact .inl h
    · exact .inr (by omega)
  · unfold St.pushKid
    rw [St.get_set s i j _ hi]
    split
    · rename_i e; subst e; rfl
    · rfl
  · cases u with
    | open_ => rfl
    | kid j =>
      simp only [elems, St.pushKid]
      rw [St.get_set s i j _ hi, if_neg (fun e => hu (by rw [e]))]
    | line j =>
      simp only [elems, St.pushKid]
      rw [St.get_set s i j _ hi]
      split
      · rename_i e; subst e; rfl
      · rfl
  · simp only [elems, St.pushKid]
    rw [St.get_set s i i _ hi, if_pos rfl]
    simp
theorem pushLine (h : Rep B w L s) (i : Nat) (l : List UInt8) (hi : i < s.bs.length) {g cap : Nat} {w1 : World} (hown : w1.ownsRow B 9 1 (.slice (some ⟨g, 0, none⟩) ((s.get i).lines.length + 1) cap) ((s.get i).lines.length + 1) (elems L s (.line i) ++ [.string (S l)])) (hg : w.grownBy w1 (L.rv (.line i)).ownBlock)
    (hat : (L.rv (.line i)).ownBlock = some g ∨ g = w.heap.size) : Rep B (w1.setCell ⟨L.ad i, 11, none⟩ (.slice (some ⟨g, 0, none⟩) ((s.get i).lines.length + 1) cap)) (L.put (.line i) (.slice (some ⟨g, 0, none⟩) ((s.get i).lines.length + 1) cap)) (s.pushLine i l) := by
  refine h.row (.line i) hi (xs := elems L s (.line i) ++ [.string (S l)]) (by simpa [elems, Tag.ty] using hown) hg ?_ _ (St.set_len _ _ _) rfl rfl rfl (fun j kv lv => ?_) (fun u hu => ?_) ?_
  · intro g' hg'
    obtain rfl : g = g' := by simpa [Value.ownBlock] using hg'
    rcases hat with h | h
    · exact .inl h
    · exact .inr (by omega)
  · unfold St.pushLine
    rw [St.get_set s i j _ hi]
    split
    · rename_i e; subst e; rfl
    · rfl
  · cases u with
    | open_ => rfl
    | line j =>
      simp only [elems, St.pushLine]
      rw [St.get_set s i j _ hi, if_neg (fun e => hu (by rw [e]))]
    | kid j =>
      simp only [elems, St.pushLine]
      rw [St.get_set s i j _ hi]
      split
      · rename_i e; subst e; rfl
      · rfl
  · simp only [elems, St.pushLine]
    rw [St.get_set s i i _ hi, if_pos rfl]
    simp
theorem get_born (s : St) (b : Blk) (i : Nat) : (s.born b).get i = if i = s.bs.length then b else s.get i := by
  unfold St.get St.born
  simp only [List.getD_eq_getElem?_getD]
  by_cases e : i = s.bs.length
  · subst e; simp
  · rw [if_neg e]
    by_cases h : i < s.bs.length
    · rw [List.getElem?_append_left h]
    · rw [List.getElem?_eq_none (by simp; omega), List.getElem?_eq_none (by omega)]
theorem born (h : Rep B w L s) (hids : ∀ i, i < s.bs.length → ∀ k ∈ (s.get i).kids, k < s.bs.length) (hop : ∀ k ∈ s.op, k < s.bs.length) (hB : B ≤ w.heap.size) (b : Blk) (hk : b.kids = []) {lv : Value} (hl : w.ownsRow B 9 1 lv b.lines.length (b.lines.map fun l => .string (S l)))
    (hlv : ∀ u, Tag.ok s u → ∀ g, lv.ownBlock = some g → (L.rv u).ownBlock ≠ some g) :
    Rep B (w.alloc (.cells (cellsB b (.slice none 0 0) lv) 43)) (L.more s.bs.length w.heap.size lv) (s.born b) := by
  have hlen : (s.born b).bs.length = s.bs.length + 1 := by simp [St.born]
  have had : ∀ i, i < s.bs.length → (L.more s.bs.length w.heap.size lv).ad i = L.ad i := fun i hi => by simp [Lay.more]; omega
  have hrv : ∀ t, Tag.ok s t → (L.more s.bs.length w.heap.size lv).rv t = L.rv t := fun t ht => by
    cases t with
    | open_ => simp [Lay.more]
    | kid i => have hi : i < s.bs.length := ht; simp [Lay.more]; omega
    | line i => have hi : i < s.bs.length := ht; simp [Lay.more]; omega
  have hptr : ∀ k, k < s.bs.length → (L.more s.bs.length w.heap.size lv).ptr k = L.ptr k := fun k hk => by unfold Lay.ptr; rw [had k hk]
  have hmap : ∀ l : List Nat, (∀ k ∈ l, k < s.bs.length) → l.map (L.more s.bs.length w.heap.size lv).ptr = l.map L.ptr := fun l hl => List.map_congr_left fun k hk => hptr k (hl k hk)
  have hel : ∀ t, Tag.ok s t → elems (L.more s.bs.length w.heap.size lv) (s.born b) t = elems L s t := fun t ht => by
    cases t with
    | open_ => exact hmap s.op hop
    | kid i =>
      have hi : i < s.bs.length := ht
      simp only [elems]
      rw [get_born, if_neg (by omega)]
      exact hmap _ (hids i hi)
    | line i =>
      have hi : i < s.bs.length := ht
      simp only [elems]
      rw [get_born, if_neg (by omega)]
  have htag : ∀ t, Tag.ok (s.born b) t → Tag.ok s t ∨ t = .kid s.bs.length ∨ t = .line s.bs.length := fun t ht => by
    cases t with
    | open_ => exact .inl trivial
    | kid i =>
      have hi : i < (s.born b).bs.length := ht
      rw [hlen] at hi
      by_cases e : i = s.bs.length
      · exact .inr (.inl (by rw [e]))
      · exact .inl (show i < s.bs.length by omega)
    | line i =>
      have hi : i < (s.born b).bs.length := ht
      rw [hlen] at hi
      by_cases e : i = s.bs.length
      · exact .inr (.inr (by rw [e]))
      · exact .inl (show i < s.bs.length by omega)
  have hk0 : (L.more s.bs.length w.heap.size lv).rv (.kid s.bs.length) = .slice none 0 0 := by simp [Lay.more]
  have hl0 : (L.more s.bs.length w.heap.size lv).rv (.line s.bs.length) = lv := by simp [Lay.more]
  refine ⟨?_, blk_alloc h.cur _, ?_, ?_, ?_, ?_, h.bp, h.bc, ?_⟩
  · have e : cellsP (L.more s.bs.length w.heap.size lv) (s.born b) = cellsP L s := by unfold cellsP; rw [hrv .open_ trivial]; rfl
    rw [e]
    exact blk_alloc h.par _
  · intro i hi
    rw [hlen] at hi
    by_cases e : i = s.bs.length
    · subst e
      have e1 : (L.more s.bs.length w.heap.size lv).ad s.bs.length = w.heap.size := by simp [Lay.more]
      rw [e1, hk0, hl0, get_born, if_pos rfl]
      exact blk_new w _
    · have hi' : i < s.bs.length := by omega
      rw [had i hi', hrv (.kid i) hi', hrv (.line i) hi', get_born, if_neg e]
      exact blk_alloc (h.blk i hi') _
  · intro t ht
    rcases htag t ht with h1 | rfl | rfl
    · rw [hrv t h1, hel t h1]
      exact own_alloc (h.own t h1) _
    · rw [hk0]
      have e : elems (L.more s.bs.length w.heap.size lv) (s.born b) (.kid s.bs.length) = [] := by
        simp only [elems]
        rw [get_born, if_pos rfl, hk]
        rfl
      rw [e]
      exact own_nil _ _ _ _
    · rw [hl0]
      have e : elems (L.more s.bs.length w.heap.size lv) (s.born b) (.line s.bs.length) = b.lines.map fun l => .string (S l) := by
        simp only [elems]
        rw [get_born, if_pos rfl]
      rw [e, List.length_map]
      exact own_alloc hl _
  · intro i j hi hj he
    rw [hlen] at hi hj
    by_cases e1 : i = s.bs.length
    · by_cases e2 : j = s.bs.length
      · omega
      · rw [had j (by omega)] at he
        have e3 : (L.more s.bs.length w.heap.size lv).ad i = w.heap.size := by simp [Lay.more, e1]
        rw [e3] at he
        have := blk_lt (h.blk j (by omega))
        omega
    · by_cases e2 : j = s.bs.length
      · rw [had i (by omega)] at he
        have e3 : (L.more s.bs.length w.heap.size lv).ad j = w.heap.size := by simp [Lay.more, e2]
        rw [e3] at he
        have := blk_lt (h.blk i (by omega))
        omega
      · rw [had i (by omega), had j (by omega)] at he
        exact h.inj i j (by omega) (by omega) he
  · intro t u ht hu hne g hg
    rcases htag t ht with h1 | rfl | rfl
    · rw [hrv t h1] at hg
      rcases htag u hu with h2 | rfl | rfl
      · rw [hrv u h2]
        exact h.apart t u h1 h2 hne g hg
      · rw [hk0]; simp [Value.ownBlock]
      · rw [hl0]
        exact fun e => hlv t h1 g e hg
    · rw [hk0] at hg
      simp [Value.ownBlock] at hg
    · rw [hl0] at hg
      rcases htag u hu with h2 | rfl | rfl
      · rw [hrv u h2]
        exact hlv u h2 g hg
      · rw [hk0]; simp [Value.ownBlock]
      · exact absurd rfl hne
  · intro i hi
    rw [hlen] at hi
    by_cases e : i = s.bs.length
    · have e3 : (L.more s.bs.length w.heap.size lv).ad i = w.heap.size := by simp [Lay.more, e]
      rw [e3]
      exact hB
    · rw [had i (by omega)]
      exact h.bb i (by omega)
end Rep
end Go.Proofs.YtpimcdkhjingjaaGreatDoor.X
namespace Go.Proofs.YtpimcdkhjingjaaGreatDoor.X
open Go.RowKit Go.Proofs.YtpimcdkhjingjaaGreatDoorW.PrintWords
def St.opAt (s : St) (i : Nat) : Nat := s.op.getD i 0
structure Wf (N : Nat) (s : St) : Prop where
  big : N ≤ 1099511627776
  cur : s.cur.Ok
  here : s.here < s.op.length
  op : ∀ k ∈ s.op, k < s.bs.length
  kids : ∀ i, i < s.bs.length → ∀ k ∈ (s.get i).kids, k < s.bs.length
  small : s.bs.length ≤ N
  opl : s.op.length ≤ N
  kidl : ∀ i, i < s.bs.length → (s.get i).kids.length ≤ N
  linl : ∀ i, i < s.bs.length → (s.get i).lines.length ≤ N
  at_ : s.at_ ≤ 1099511627776
  root : (s.get (s.opAt 0)).kind = 1
  wid : ∀ i, i < s.bs.length → (s.get i).width ≤ 1099511627776 ∧ (s.get i).in_ ≤ 1099511627776
theorem Wf.opAt {N : Nat} {s : St} (h : Wf N s) {i : Nat} (hi : i < s.op.length) : s.opAt i < s.bs.length := by
  unfold St.opAt
  rw [List.getD_eq_getElem?_getD, List.getElem?_eq_getElem hi]
  exact h.op _ (List.getElem_mem hi)
theorem Rep.opened {B : Nat} {w : World} {L : Lay} {s : St} (h : Rep B w L s) (h0 : 0 < s.op.length) :
    ∃ g cap, L.rv .open_ = .slice (some ⟨g, 0, none⟩) s.op.length cap ∧ s.op.length ≤ cap ∧ ∀ i, i < s.op.length → w.cell? ⟨g, i, none⟩ = some (L.ptr (s.opAt i)) := by
  have hown := h.own .open_ trivial
  have hlen : (elems L s .open_).length = s.op.length := by simp [elems]
  rw [hlen] at hown
  rcases hown.2 with ⟨_, h1⟩ | ⟨g, cap, cur, hv, hg, hh, hn, hc, hsz, htk⟩
  · omega
  · refine ⟨g, cap, hv, hn, fun i hi => ?_⟩
    rw [hv] at hown
    have := hown.cellAt i (by omega)
    rw [this]
    simp only [elems, St.opAt]
    rw [List.getElem?_map, List.getElem?_eq_getElem hi, List.getD_eq_getElem?_getD, List.getElem?_eq_getElem hi]
    rfl
theorem leaf_c {B : Nat} {w : World} {L : Lay} {s : St} {N : Nat} (h : Rep B w L s) (hf : Wf N s) :
    Calls Tryz.prog 28 #[.pointer (some ⟨L.pb, 0, none⟩)] w fun e w' => e = .returned (.pointer (some ⟨L.ad (s.opAt (s.op.length - 1)), 0, none⟩)) ∧ Drawn0 w w' := by
  have hl := hf.here
  obtain ⟨g, cap, hv, hcap, hc⟩ := h.opened (by omega)
  obtain ⟨m, hm⟩ : ∃ m, s.op.length = m + 1 := ⟨s.op.length - 1, by omega⟩
  have hp0 := h.p0
  rw [hm] at hv hc hcap
  rw [hv] at hp0
  have hcm := hc m (by omega)
  have hms : m + 1 ≤ 17592186044416 := by have := hf.opl; have := hf.big; omega
  have Hm : Hid (s.op.length - 1 = m) := by show _ = _; omega
  obtain ⟨x, hx⟩ : ∃ x, x = L.ptr (s.opAt m) := ⟨_, rfl⟩
  rw [← hx] at hcm
  have Hx := Lib.hid hx
  clear hc hv hm hx
  have hwr : IntKind.i64.wrap (m : Int) = (m : Int) := IntWalk.i64_in _ (by omega)
  have h0 : (0 : Int) ≤ (m : Int) := by omega
  have h1 : (m : Int) < (m : Int) + 1 := by omega
  go_enter Tryz.func28, Tryz.ntmps28
  go_wp2
  go_quiet (fail)
  go_wp2
  go_ret
  exact ⟨by rw [Hm.out]; show _ = Ending.returned (L.ptr (s.opAt m)); rw [← Hx.out]; rfl, ⟨_, rfl⟩⟩
theorem now_c {B : Nat} {w : World} {L : Lay} {s : St} {N : Nat} (h : Rep B w L s) (hf : Wf N s) :
    Calls Tryz.prog 47 #[.pointer (some ⟨L.pb, 0, none⟩)] w fun e w' => e = .returned (.pointer (some ⟨L.ad (s.opAt s.here), 0, none⟩)) ∧ Drawn0 w w' := by
  have hl := hf.here
  obtain ⟨g, cap, hv, hcap, hc⟩ := h.opened (by omega)
  have hp0 := h.p0
  have hp1 := h.p1
  rw [hv] at hp0
  have hcm := hc s.here hl
  have hms := Nat.le_trans hf.opl hf.big
  obtain ⟨x, hx⟩ : ∃ x, x = L.ptr (s.opAt s.here) := ⟨_, rfl⟩
  rw [← hx] at hcm
  have Hx := Lib.hid hx
  clear hc hv hx
  have h0 : (0 : Int) ≤ (s.here : Int) := by omega
  have h1 : (s.here : Int) < (s.op.length : Int) := by omega
  go_enter Tryz.func47, Tryz.ntmps47
  go_wp2
  go_quiet (fail)
  go_wp2
  go_ret
  exact ⟨by show _ = Ending.returned (L.ptr (s.opAt s.here)); rw [← Hx.out]; rfl, ⟨_, rfl⟩⟩
def Move (B : Nat) (w : World) (L : Lay) (s' : St) (w' : World) : Prop :=
  ∃ rv, Rep B w' ⟨L.pb, L.cb, L.ad, rv⟩ s' ∧ Below B w w'
def Step (B : Nat) (w : World) (L : Lay) (s s' : St) (w' : World) : Prop :=
  ∃ ad rv, Rep B w' ⟨L.pb, L.cb, ad, rv⟩ s' ∧ (∀ i, i < s.bs.length → ad i = L.ad i) ∧ Below B w w'
theorem Move.step {B : Nat} {w : World} {L : Lay} {s s' : St} {w' : World} (h : Move B w L s' w') : Step B w L s s' w' := by
  obtain ⟨rv, h1, h2⟩ := h
  exact ⟨L.ad, rv, h1, fun _ _ => rfl, h2⟩
theorem Rep.size {B : Nat} {w : World} {L : Lay} {s : St} (h : Rep B w L s) : B ≤ w.heap.size := by have := blk_lt h.par; have := h.bp; omega
theorem Move.refl {B : Nat} {w : World} {L : Lay} {s : St} (h : Rep B w L s) : Move B w L s w := ⟨L.rv, h, Below.refl _ _⟩
theorem Below.of_touch {B c : Nat} {w w' : World} (h : Touch c w w') (hB : B ≤ w.heap.size) (hc : B ≤ c) : Below B w w' := h.below (Below.refl _ _) hB hc
theorem touch_set (w : World) (c j : Nat) (u : Value) : Touch c w (w.setCell ⟨c, j, none⟩ u) := (Touch.refl c w).setCell j u
set_option maxRecDepth 100000 in
theorem over_c {B : Nat} {w : World} {L : Lay} {s : St} {N : Nat} (h : Rep B w L s) (hf : Wf N s) :
    Calls Tryz.prog 31 #[.pointer (some ⟨L.pb, 0, none⟩)] w fun e w' => e = .returned (.tuple #[]) ∧ Move B w L (s.cutOpen (s.here + 1)) w' := by
  have hl := hf.here
  obtain ⟨g, cap, hv, hcap, hc⟩ := h.opened (by omega)
  have hp0 := h.p0
  have hp1 := h.p1
  have hpf := h.pf 0
  rw [hv] at hp0
  have hms := Nat.le_trans hf.opl hf.big
  have Hv := Lib.hid hv
  clear hc hv
  have h0 : (0 : Int) ≤ (s.here : Int) + 1 := by omega
  have hwr : IntKind.i64.wrap ((s.here : Int) + 1) = (s.here : Int) + 1 := IntWalk.i64_in _ (by omega)
  have h1 : (s.here : Int) + 1 ≤ (cap : Int) := by omega
  have ht : ((s.here : Int) + 1).toNat = s.here + 1 := by omega
  go_enter Tryz.func31, Tryz.ntmps31
  go_wp2
  go_region
  all_goals
    go_end0
    refine ⟨rfl, ?_⟩
    have h2 := (h.drewN 1).cutOpen (s.here + 1) (by omega) Hv.out
    refine ⟨_, h2, ?_⟩
    exact Below.of_touch (((Touch.refl L.pb w).drewN 1).setCell 0 _) h.size h.bp
def St.mark (s : St) (k : Nat) : St := s.set k { s.get k with last := s.at_ }
def St.touch (s : St) (n : Nat) : St := (s.op.take n).foldl St.mark s
theorem St.mark_fold (l : List Nat) : ∀ s : St, (l.foldl St.mark s).op = s.op ∧ (l.foldl St.mark s).here = s.here ∧ (l.foldl St.mark s).at_ = s.at_ ∧ (l.foldl St.mark s).cur = s.cur ∧ (l.foldl St.mark s).bs.length = s.bs.length := by
  induction l with
  | nil => intro s; exact ⟨rfl, rfl, rfl, rfl, rfl⟩
  | cons k t ih =>
    intro s
    obtain ⟨h1, h2, h3, h4, h5⟩ := ih (s.mark k)
    exact ⟨h1, h2, h3, h4, by rw [List.foldl_cons, h5]; exact St.set_len _ _ _⟩
theorem St.mark_get (s : St) (k j : Nat) (hk : k < s.bs.length) : (s.mark k).get j = if j = k then { s.get k with last := s.at_ } else s.get j := St.get_set s k j _ hk
theorem St.touch_succ (s : St) (i : Nat) (hi : i < s.op.length) : s.touch (i + 1) = (s.touch i).mark (s.opAt i) := by
  unfold St.touch
  rw [List.take_succ_eq_append_getElem hi, List.foldl_append]
  simp only [List.foldl_cons, List.foldl_nil]
  congr 1
  unfold St.opAt
  rw [List.getD_eq_getElem?_getD, List.getElem?_eq_getElem hi]
  rfl
theorem Rep.mark {B : Nat} {w : World} {L : Lay} {s : St} (h : Rep B w L s) (k : Nat) (hk : k < s.bs.length) : Rep B (w.setCell ⟨L.ad k, 2, none⟩ (.int .i64 (s.at_ : Int))) L (s.mark k) :=
  h.setB k hk 2 _ _ rfl rfl (fun _ _ => rfl)
set_option maxRecDepth 100000 in
theorem touch_c {B : Nat} {w : World} {L : Lay} {s : St} {N : Nat} (h : Rep B w L s) (hf : Wf N s) (n : Nat) (hn : n ≤ s.op.length) :
    Calls Tryz.prog 30 #[.pointer (some ⟨L.pb, 0, none⟩), .int .i64 (n : Int)] w fun e w' => e = .returned (.tuple #[]) ∧ Rep B w' L (s.touch n) ∧ Below B w w' := by
  have hl := hf.here
  obtain ⟨g, cap, hv, hcap, hc⟩ := h.opened (by omega)
  have hp0 := h.p0
  rw [hv] at hp0
  have hms := Nat.le_trans hf.opl hf.big
  have Hv := Lib.hid hv
  clear hc hv
  have hn1 : (n : Int) ≤ (cap : Int) := by omega
  have hn2 : n ≤ cap := by omega
  go_enter Tryz.func30, Tryz.ntmps30
  go_wp2
  clear hp0
  go_loopg [13, 5] n (fun k i b wr => ∃ m : Nat, i = .int .i64 (m : Int) ∧ m + k = n ∧ Rep B wr L (s.touch m) ∧ Below B w wr)
  case atStart => exact ⟨0, rfl, by omega, h, Below.refl _ _⟩
  case round =>
    obtain ⟨m, rfl, hm, hr, hb⟩ := hrel
    obtain ⟨e1, e2, e3, e4, e5⟩ := St.mark_fold (s.op.take m) s
    cases gk with
    | zero =>
      have hlt : ¬ (m : Int) < (n : Int) := by omega
      have hmn : Hid (m = n) := by show _ = _; omega
      clear e1 e2 e3 e4 e5
      go_wp2
      go_end0
      exact ⟨rfl, by rw [← hmn.out]; exact hr, hb⟩
    | succ k =>
      have hlt : (m : Int) < (n : Int) := by omega
      have hlt' : m < n := by omega
      have hmo : m < s.op.length := by omega
      have hmo' : m < (s.touch m).op.length := by unfold St.touch; rw [e1]; exact hmo
      obtain ⟨g', cap', hv', _, hc'⟩ := hr.opened (by unfold St.touch; rw [e1]; omega)
      rw [Hv.out] at hv'
      have hg' : g' = g := by
        have := congrArg Value.ownBlock hv'
        simp [Value.ownBlock] at this
        exact this.symm
      subst hg'
      have hck := hc' m hmo'
      have ho : (s.touch m).opAt m = s.opAt m := by unfold St.opAt St.touch; rw [e1]
      rw [ho] at hck
      have hk : s.opAt m < (s.touch m).bs.length := by unfold St.touch; rw [e5]; exact hf.opAt hmo
      have hp3 := hr.p3
      have ha : (s.touch m).at_ = s.at_ := e3
      rw [ha] at hp3
      have hbf := hr.bf _ hk 2
      have hb2 := hr.b2 _ hk
      have Hs := Lib.hid (St.touch_succ s m hmo)
      have hmk := hr.mark _ hk
      rw [ha, ← Hs.out] at hmk
      have Hmk := Lib.hid hmk
      have hbb : B ≤ L.ad (s.opAt m) := hr.bb _ hk
      have hsz := hr.size
      have HB := Lib.hid hb
      have hwr : IntKind.i64.wrap ((m : Int) + 1) = (m : Int) + 1 := IntWalk.i64_in _ (by omega)
      obtain ⟨x, hx⟩ : ∃ x, x = L.ad (s.opAt m) := ⟨_, rfl⟩
      unfold Lay.ptr at hck
      rw [← hx] at hck hbf hb2 hbb Hmk
      clear hx hc' hv' ho e1 e2 e3 e4 e5 ha hmk hb
      go_wp2
      go_roundg k
      case measure => omega
      case rel => exact ⟨m + 1, by go_num, by omega, Hmk.out, Below.of_touch (touch_set _ _ _ _) hsz hbb |> HB.out.trans⟩
end Go.Proofs.YtpimcdkhjingjaaGreatDoor.X
namespace Go.Proofs.YtpimcdkhjingjaaGreatDoor.X
open Go.RowKit Go.Proofs.YtpimcdkhjingjaaGreatDoorW.PrintWords
def St.at (s : St) (q : Cur) : St := { s with cur := q }
theorem Wf.at {N : Nat} {s : St} (h : Wf N s) {q : Cur} (hq : q.Ok) : Wf N (s.at q) := ⟨h.big, hq, h.here, h.op, h.kids, h.small, h.opl, h.kidl, h.linl, h.at_, h.root, h.wid⟩
section
variable {B N : Nat} {L : Lay} {s : St}
theorem Indent_p (hf : Wf N s) (w : World) (h : Rep B w L s) : Calls Tryz.prog 48 #[.pointer (some ⟨L.cb, 0, none⟩)] w fun e w' => e = .returned (.int .i64 (s.cur.indent : Int)) ∧ Rep B w' L s ∧ Below w.heap.size w w' :=
  (Indent_c s.cur L.cb w h.cur hf.cur).mono fun _ _ ⟨h1, h2⟩ => ⟨h1, h.below h2, h2⟩
theorem Word_p (hf : Wf N s) (w : World) (h : Rep B w L s) : Calls Tryz.prog 29 #[.pointer (some ⟨L.cb, 0, none⟩)] w fun e w' => e = .returned (.string (S s.cur.word)) ∧ Rep B w' L s ∧ Below w.heap.size w w' :=
  (Word_c s.cur L.cb w h.cur hf.cur).mono fun _ _ ⟨h1, h2⟩ => ⟨h1, h.below h2, h2⟩
theorem Blank_p (hf : Wf N s) (w : World) (h : Rep B w L s) : Calls Tryz.prog 27 #[.pointer (some ⟨L.cb, 0, none⟩)] w fun e w' => e = .returned (.bool s.cur.blank) ∧ Rep B w' L s ∧ Below w.heap.size w w' :=
  (Blank_c s.cur L.cb w h.cur hf.cur).mono fun _ _ ⟨h1, h2⟩ => ⟨h1, h.below h2, h2⟩
theorem Rest_p (hf : Wf N s) (w : World) (h : Rep B w L s) : Calls Tryz.prog 53 #[.pointer (some ⟨L.cb, 0, none⟩)] w fun e w' => e = .returned (.string (S s.cur.rest)) ∧ Rep B w' L s ∧ Below w.heap.size w w' :=
  (Rest_c s.cur L.cb w h.cur hf.cur).mono fun _ _ ⟨h1, h2⟩ => ⟨h1, h.below h2, h2⟩
theorem Skip_p (hf : Wf N s) (n : Nat) (hn : n ≤ 1099511627776) (w : World) (h : Rep B w L s) : Calls Tryz.prog 50 #[.pointer (some ⟨L.cb, 0, none⟩), .int .i64 (n : Int)] w fun e w' => RetInt e ∧ Rep B w' L (s.at (s.cur.skip n)) ∧ (s.cur.skip n).Ok ∧ Below B w w' :=
  (Skip_c n s.cur L.cb w h.cur hf.cur hn).mono fun _ _ ⟨h1, h2, h3, h4⟩ => ⟨h1, h.go h4 h2, h3, Below.of_touch h4 h.size h.bc⟩
theorem Take_p (hf : Wf N s) (n : Nat) (hn : n ≤ 1099511627776) (w : World) (h : Rep B w L s) : Calls Tryz.prog 111 #[.pointer (some ⟨L.cb, 0, none⟩), .int .i64 (n : Int)] w fun e w' => RetStr e ∧ Rep B w' L (s.at (Cur.take n s.cur)) ∧ (Cur.take n s.cur).Ok ∧ Below B w w' :=
  (Take_c n s.cur L.cb w h.cur hf.cur hn).mono fun _ _ ⟨h1, h2, h3, h4⟩ => ⟨h1, h.go h4 h2, h3, Below.of_touch h4 h.size h.bc⟩
end
def Cur.quote (q : Cur) : Cur := ((Cur.take 1 (q.skip q.indent)).skip 1)
set_option maxRecDepth 100000 in
theorem quote_c {B : Nat} {w : World} {L : Lay} {s : St} {N : Nat} (h : Rep B w L s) (hf : Wf N s) (hi : s.cur.indent ≤ 1099511627776) :
    Calls Tryz.prog 83 #[.pointer (some ⟨L.pb, 0, none⟩)] w fun e w' => e = .returned (.tuple #[]) ∧ Rep B w' L (s.at s.cur.quote) ∧ s.cur.quote.Ok ∧ Below B w w' := by
  have hp2 := h.p2
  have HI := Lib.hid (Indent_p (B := B) (L := L) hf)
  have HS := Lib.hid (Skip_p (B := B) (L := L) hf s.cur.indent hi)
  obtain ⟨n, hn⟩ : ∃ n, n = s.cur.indent := ⟨_, rfl⟩
  rw [← hn] at HI HS
  have Hn := Lib.hid hn
  clear hn
  go_enter Tryz.func83, Tryz.ntmps83
  go_wp2_with (fail)
  go_region_with (first
    | (go_at_call 48; refine (HI.out _ ?_).mono ?_; exact h.keep fun _ _ _ => rfl; rintro e w1 ⟨rfl, hr1, hb1⟩; have hp21 := hr1.p2)
    | (go_at_call 50; refine (HS.out _ ?_).mono ?_; assumption; rintro e w2 ⟨⟨r, rfl⟩, hr2, hk2, hb2⟩; have hp22 := hr2.p2))
  all_goals
    have hf1 := hf.at hk2
    have HT := Lib.hid (Take_p (B := B) (L := L) hf1 1 (by omega) w2 hr2)
    have hb12 : Below B w w2 := (below_drew ((Below.refl _ _))).trans ((hb1.mono h.size).trans hb2)
    clear HI HS
    go_wp2_with (first | (go_at_call 111; refine HT.out.mono ?_; rintro e w3 ⟨⟨r3, rfl⟩, hr3, hk3, hb3⟩; have hp23 := hr3.p2; have HS3 := Lib.hid (Skip_p (B := B) (L := L) (hf1.at hk3) 1 (by omega) w3 hr3)) | (go_at_call 50; refine HS3.out.mono ?_; rintro e w4 ⟨⟨r4, rfl⟩, hr4, hk4, hb4⟩))
    go_end0
    refine ⟨rfl, ?_, ?_, hb12.trans (hb3.trans hb4)⟩
    · unfold Cur.quote
      rw [← Hn.out]
      exact hr4
    · unfold Cur.quote
      rw [← Hn.out]
      exact hk4
end Go.Proofs.YtpimcdkhjingjaaGreatDoor.X
namespace Go.Proofs.YtpimcdkhjingjaaGreatDoor.X
open Go.RowKit Go.Proofs.YtpimcdkhjingjaaGreatDoorW.PrintWords
theorem Rep.alloc {B : Nat} {w : World} {L : Lay} {s : St} (h : Rep B w L s) (o : Obj) : Rep B (w.alloc o) L s :=
  h.keep fun k hk _ => Below.heap_alloc w o k hk
theorem Rep.ownK {B : Nat} {w : World} {L : Lay} {s : St} (h : Rep B w L s) (i : Nat) (hi : i < s.bs.length) : w.ownsRow B 40 1 (L.rv (.kid i)) (s.get i).kids.length (elems L s (.kid i)) := by
  have := h.own (.kid i) hi
  simpa [elems, Tag.ty] using this
theorem Rep.ownO {B : Nat} {w : World} {L : Lay} {s : St} (h : Rep B w L s) : w.ownsRow B 40 1 (L.rv .open_) s.op.length (elems L s .open_) := by
  have := h.own .open_ trivial
  simpa [elems, Tag.ty] using this
theorem Rep.ownL {B : Nat} {w : World} {L : Lay} {s : St} (h : Rep B w L s) (i : Nat) (hi : i < s.bs.length) : w.ownsRow B 9 1 (L.rv (.line i)) (s.get i).lines.length (elems L s (.line i)) := by
  have := h.own (.line i) hi
  simpa [elems, Tag.ty] using this
theorem Wf.goHere {N : Nat} {s : St} (h : Wf N s) {m : Nat} (hm : m < s.op.length) : Wf N { s with here := m } := ⟨h.big, h.cur, hm, h.op, h.kids, h.small, h.opl, h.kidl, h.linl, h.at_, h.root, h.wid⟩
theorem Wf.goAt {N : Nat} {s : St} (h : Wf N s) {m : Nat} (hm : m ≤ 1099511627776) : Wf N { s with at_ := m } := ⟨h.big, h.cur, h.here, h.op, h.kids, h.small, h.opl, h.kidl, h.linl, hm, h.root, h.wid⟩
theorem Wf.mono {N M : Nat} {s : St} (h : Wf N s) (hm : N ≤ M) (hb : M ≤ 1099511627776) : Wf M s :=
  ⟨hb, h.cur, h.here, h.op, h.kids, by have := h.small; omega, by have := h.opl; omega, fun i hi => by have := h.kidl i hi; omega, fun i hi => by have := h.linl i hi; omega, h.at_, h.root, h.wid⟩
theorem St.opAt_take (s : St) (n i : Nat) (h : i < n) : (s.cutOpen n).opAt i = s.opAt i := by
  unfold St.opAt St.cutOpen
  simp only [List.getD_eq_getElem?_getD, List.getElem?_take]
  rw [if_pos h]
theorem Wf.cut {N : Nat} {s : St} (h : Wf N s) {n : Nat} (hn : s.here < n) : Wf N (s.cutOpen n) :=
  ⟨h.big, h.cur, by have := h.here; simp only [St.cutOpen, List.length_take]; omega, fun k hk => h.op k (List.mem_of_mem_take hk), h.kids, h.small,
    by have := h.opl; simp only [St.cutOpen, List.length_take]; omega, h.kidl, h.linl, h.at_, by rw [St.opAt_take s n 0 (by omega)]; exact h.root, h.wid⟩
theorem Wf.setB {N : Nat} {s : St} (h : Wf N s) {i : Nat} (hi : i < s.bs.length) {b : Blk} (hk : b.kids = (s.get i).kids) (hl : b.lines = (s.get i).lines) (hr : b.kind = (s.get i).kind ∨ i ≠ s.opAt 0) (hw : b.width = (s.get i).width ∧ b.in_ = (s.get i).in_ := by exact ⟨rfl, rfl⟩) : Wf N (s.set i b) := by
  refine ⟨h.big, h.cur, h.here, fun k hk' => ?_, fun j hj => ?_, ?_, h.opl, fun j hj => ?_, fun j hj => ?_, h.at_, ?_, fun j hj => ?_⟩
  · rw [St.set_len]; exact h.op k hk'
  · rw [St.set_len] at hj ⊢
    rw [St.get_set s i j b hi]
    split
    · rename_i e; subst e; rw [hk]; exact h.kids j hj
    · exact h.kids j hj
  · rw [St.set_len]; exact h.small
  · rw [St.set_len] at hj
    rw [St.get_set s i j b hi]
    split
    · rename_i e; subst e; rw [hk]; exact h.kidl j hj
    · exact h.kidl j hj
  · rw [St.set_len] at hj
    rw [St.get_set s i j b hi]
    split
    · rename_i e; subst e; rw [hl]; exact h.linl j hj
    · exact h.linl j hj
  · have e : (s.set i b).opAt 0 = s.opAt 0 := rfl
    rw [e, St.get_set s i _ b hi]
    split
    · rename_i e; rcases hr with hr | hr
      · rw [hr, ← e]; exact h.root
      · exact absurd e.symm hr
    · exact h.root
  · rw [St.set_len] at hj
    rw [St.get_set s i j b hi]
    split
    · rename_i e; subst e; rw [hw.1, hw.2]; exact h.wid j hj
    · exact h.wid j hj
theorem Wf.mark {N : Nat} {s : St} (h : Wf N s) {k : Nat} (hk : k < s.bs.length) : Wf N (s.mark k) := h.setB hk rfl rfl (.inl rfl)
theorem Wf.touch {N : Nat} {s : St} (h : Wf N s) (n : Nat) : Wf N (s.touch n) := by
  have key : ∀ (l : List Nat) (t : St), Wf N t → (∀ k ∈ l, k < t.bs.length) → Wf N (l.foldl St.mark t) := by
    intro l
    induction l with
    | nil => intro t ht _; exact ht
    | cons k l ih =>
      intro t ht hk
      refine ih (t.mark k) (ht.mark (hk k (by simp))) fun j hj => ?_
      have : (t.mark k).bs.length = t.bs.length := St.set_len _ _ _
      rw [this]
      exact hk j (by simp [hj])
  exact key _ s h fun k hk => h.op k (List.mem_of_mem_take hk)
theorem St.touch_len (s : St) (n : Nat) : (s.touch n).bs.length = s.bs.length := (St.mark_fold (s.op.take n) s).2.2.2.2
theorem St.touch_op (s : St) (n : Nat) : (s.touch n).op = s.op := (St.mark_fold (s.op.take n) s).1
theorem St.touch_here (s : St) (n : Nat) : (s.touch n).here = s.here := (St.mark_fold (s.op.take n) s).2.1
theorem St.touch_at (s : St) (n : Nat) : (s.touch n).at_ = s.at_ := (St.mark_fold (s.op.take n) s).2.2.1
theorem St.touch_cur (s : St) (n : Nat) : (s.touch n).cur = s.cur := (St.mark_fold (s.op.take n) s).2.2.2.1
theorem Wf.pushKid {N : Nat} {s : St} (h : Wf N s) {i k : Nat} (hi : i < s.bs.length) (hk : k < s.bs.length) (hN : N + 1 ≤ 1099511627776) : Wf (N + 1) (s.pushKid i k) := by
  unfold St.pushKid
  have hg := fun j => St.get_set s i j { s.get i with kids := (s.get i).kids ++ [k] } hi
  refine ⟨hN, h.cur, h.here, fun j hj => ?_, fun j hj => ?_, ?_, Nat.le_succ_of_le h.opl, fun j hj => ?_, fun j hj => ?_, h.at_, ?_, fun j hj => ?_⟩
  · rw [St.set_len]; exact h.op j hj
  · rw [St.set_len] at hj ⊢
    rw [hg]
    split
    · rename_i e; subst e
      intro m hm
      rcases List.mem_append.1 hm with hm | hm
      · exact h.kids j hj m hm
      · rw [List.mem_singleton.1 hm]; exact hk
    · exact h.kids j hj
  · rw [St.set_len]; exact Nat.le_succ_of_le h.small
  · rw [St.set_len] at hj
    rw [hg]
    split
    · rename_i e; subst e
      have := h.kidl j hj
      simp only [List.length_append, List.length_singleton]
      omega
    · exact Nat.le_succ_of_le (h.kidl j hj)
  · rw [St.set_len] at hj
    rw [hg]
    split
    · rename_i e; subst e; exact Nat.le_succ_of_le (h.linl j hj)
    · exact Nat.le_succ_of_le (h.linl j hj)
  · have e : (s.set i { s.get i with kids := (s.get i).kids ++ [k] }).opAt 0 = s.opAt 0 := rfl
    rw [e, hg]
    split
    · rename_i e; subst e; exact h.root
    · exact h.root
  · rw [St.set_len] at hj
    rw [hg]
    split
    · rename_i e; subst e; exact h.wid j hj
    · exact h.wid j hj
theorem Wf.pushLine {N : Nat} {s : St} (h : Wf N s) {i : Nat} {l : List UInt8} (hi : i < s.bs.length) (hN : N + 1 ≤ 1099511627776) : Wf (N + 1) (s.pushLine i l) := by
  unfold St.pushLine
  have hg := fun j => St.get_set s i j { s.get i with lines := (s.get i).lines ++ [l] } hi
  refine ⟨hN, h.cur, h.here, fun j hj => ?_, fun j hj => ?_, ?_, Nat.le_succ_of_le h.opl, fun j hj => ?_, fun j hj => ?_, h.at_, ?_, fun j hj => ?_⟩
  · rw [St.set_len]; exact h.op j hj
  · rw [St.set_len] at hj ⊢
    rw [hg]
    split
    · rename_i e; subst e; exact h.kids j hj
    · exact h.kids j hj
  · rw [St.set_len]; exact Nat.le_succ_of_le h.small
  · rw [St.set_len] at hj
    rw [hg]
    split
    · rename_i e; subst e; exact Nat.le_succ_of_le (h.kidl j hj)
    · exact Nat.le_succ_of_le (h.kidl j hj)
  · rw [St.set_len] at hj
    rw [hg]
    split
    · rename_i e; subst e
      have := h.linl j hj
      simp only [List.length_append, List.length_singleton]
      omega
    · exact Nat.le_succ_of_le (h.linl j hj)
  · have e : (s.set i { s.get i with lines := (s.get i).lines ++ [l] }).opAt 0 = s.opAt 0 := rfl
    rw [e, hg]
    split
    · rename_i e; subst e; exact h.root
    · exact h.root
  · rw [St.set_len] at hj
    rw [hg]
    split
    · rename_i e; subst e; exact h.wid j hj
    · exact h.wid j hj
theorem Wf.pushOpen {N : Nat} {s : St} (h : Wf N s) {k : Nat} (hk : k < s.bs.length) (hN : N + 1 ≤ 1099511627776) : Wf (N + 1) (s.pushOpen k) := by
  have hh := h.here
  refine ⟨hN, h.cur, ?_, fun j hj => ?_, h.kids, Nat.le_succ_of_le h.small, ?_, fun j hj => Nat.le_succ_of_le (h.kidl j hj), fun j hj => Nat.le_succ_of_le (h.linl j hj), h.at_, ?_, h.wid⟩
  · simp only [St.pushOpen, List.length_append, List.length_singleton]; omega
  · rcases List.mem_append.1 hj with hj | hj
    · exact h.op j hj
    · rw [List.mem_singleton.1 hj]; exact hk
  · have := h.opl
    simp only [St.pushOpen, List.length_append, List.length_singleton]; omega
  · have e : (s.pushOpen k).opAt 0 = s.opAt 0 := by
      unfold St.opAt St.pushOpen
      simp only [List.getD_eq_getElem?_getD]
      rw [List.getElem?_append_left (by omega)]
    rw [e]
    exact h.root
theorem Wf.born {N : Nat} {s : St} (h : Wf N s) {b : Blk} (hk : b.kids = []) (hl : b.lines.length ≤ N + 1) (hw : b.width ≤ 1099511627776 ∧ b.in_ ≤ 1099511627776) (hN : N + 1 ≤ 1099511627776) : Wf (N + 1) (s.born b) := by
  have hlen : (s.born b).bs.length = s.bs.length + 1 := by simp [St.born]
  have hh := h.here
  refine ⟨hN, h.cur, h.here, fun j hj => ?_, fun j hj => ?_, ?_, Nat.le_succ_of_le h.opl, fun j hj => ?_, fun j hj => ?_, h.at_, ?_, fun j hj => ?_⟩
  · rw [hlen]; exact Nat.lt_succ_of_lt (h.op j hj)
  · rw [hlen] at hj ⊢
    rw [Rep.get_born]
    split
    · rw [hk]; intro m hm; cases hm
    · exact fun m hm => Nat.lt_succ_of_lt (h.kids j (by omega) m hm)
  · rw [hlen]; have := h.small; omega
  · rw [hlen] at hj
    rw [Rep.get_born]
    split
    · rw [hk]; simp
    · exact Nat.le_succ_of_le (h.kidl j (by omega))
  · rw [hlen] at hj
    rw [Rep.get_born]
    split
    · exact hl
    · exact Nat.le_succ_of_le (h.linl j (by omega))
  · have e : (s.born b).opAt 0 = s.opAt 0 := rfl
    have := h.opAt (i := 0) (by omega)
    rw [e, Rep.get_born, if_neg (by omega)]
    exact h.root
  · rw [hlen] at hj
    rw [Rep.get_born]
    split
    · exact hw
    · exact h.wid j (by omega)
theorem Wf.deep {N : Nat} {s : St} (h : Wf N s) (hk : (s.get (s.opAt s.here)).kind ≠ 1) : 0 < s.here := by
  rcases Nat.eq_zero_or_pos s.here with e | e
  · rw [e] at hk; exact absurd h.root hk
  · exact e
end Go.Proofs.YtpimcdkhjingjaaGreatDoor.X
namespace Go.Proofs.YtpimcdkhjingjaaGreatDoor.X
open Go.RowKit Go.Proofs.YtpimcdkhjingjaaGreatDoorW.PrintWords
theorem infoB : (Tryz.prog.info? 40).map (fun i => (i.zero, i.size, i.bytes)) = some (some (.pointer none), 1, 8) := by kernel_rfl
theorem infoS : (Tryz.prog.info? 9).map (fun i => (i.zero, i.size, i.bytes)) = some (some (.string ⟨#[]⟩), 1, 16) := by kernel_rfl
section
variable {ops : Array Oper} {rest : List Oper} {o : Oper} {a : Act} {Q : Exit → Act → World → Prop} (w0 : World) (x : Value) (B : Nat) (v : Value) (n : Nat) (xs : List Value)
theorem app_block (hgd : o.guard = none) (s t : Operand) (ho : o.op = .call { callee := .builtin .append, args := #[s, t], argTypes := #[41, 41] })
    (hs : a.eval s = v) (hx : a.eval t = .slice (some ⟨w0.heap.size, 0, none⟩) 1 1) (hown : w0.ownsRow B 40 1 v n xs) (h1 : x.oneCell' = true) (hn : n ≤ 1099511627776) (hB : B ≤ w0.heap.size)
    (h : ∀ g cap w', w'.ownsRow B 40 1 (.slice (some ⟨g, 0, none⟩) (n + 1) cap) (n + 1) (xs ++ [x]) → (w0.alloc (.cells #[x] 40)).grownBy w' v.ownBlock → (v.ownBlock = some g ∨ g = (w0.alloc (.cells #[x] 40)).heap.size) →
      wpList Tryz.prog ops Q rest (a.put o.dst (.slice (some ⟨g, 0, none⟩) (n + 1) cap)) w') : wpList Tryz.prog ops Q (o :: rest) a (w0.alloc (.cells #[x] 40)) := by
  obtain ⟨i0, hi, hz0, hz1, hz2⟩ := info_parts infoB
  exact wpList_append_lies _ hgd s t 41 ho B 40 i0 (.pointer none) 1 8 Tryz.underlying41 hi hz0 hz1 hz2 rfl (by decide) v n xs hs (own_alloc hown _) ⟨w0.heap.size, 0, none⟩ 1 1 [x] hx rfl (cell_one_new _ _ _)
    (by intro u hu; simp at hu; subst hu; exact h1) (by decide) (by unfold maxLen; omega) (by omega) (by simp; omega) _ rfl fun g cap w' h2 h3 h4 _ => h g cap w' h2 h3 h4
theorem step_string {K : Act → World → Prop} {E : Prop} (hgd : o.guard = none) (s t : Operand) (ho : o.op = .call { callee := .builtin .append, args := #[s, t], argTypes := #[22, 22] })
    (hs : a.eval s = v) (hx : a.eval t = .slice (some ⟨w0.heap.size, 0, none⟩) 1 1) (hown : w0.ownsRow B 9 1 v n xs) (h1 : x.oneCell' = true) (hn : n ≤ 1099511627776) (hB : B ≤ w0.heap.size)
    (h : ∀ g cap w', w'.ownsRow B 9 1 (.slice (some ⟨g, 0, none⟩) (n + 1) cap) (n + 1) (xs ++ [x]) → (w0.alloc (.cells #[x] 9)).grownBy w' v.ownBlock → (v.ownBlock = some g ∨ g = (w0.alloc (.cells #[x] 9)).heap.size) →
      K (a.put o.dst (.slice (some ⟨g, 0, none⟩) (n + 1) cap)) w') : if Region.wanted o (yielded ops a.tmps) = true then Oper.wp Tryz.prog o a (w0.alloc (.cells #[x] 9)) K Q else E := by
  obtain ⟨i0, hi, hz0, hz1, hz2⟩ := info_parts infoS
  exact step_append_lies _ hgd s t 22 ho B 9 i0 (.string ⟨#[]⟩) 1 16 Tryz.underlying22 hi hz0 hz1 hz2 rfl (by decide) v n xs hs (own_alloc hown _) ⟨w0.heap.size, 0, none⟩ 1 1 [x] hx rfl (cell_one_new _ _ _)
    (by intro u hu; simp at hu; subst hu; exact h1) (by decide) (by unfold maxLen; omega) (by omega) (by simp; omega) _ rfl fun g cap w' h2 h3 h4 _ => h g cap w' h2 h3 h4
theorem enters_x {f : FuncId} {fn : Func} (hf : Tryz.prog.funcs[f]? = some fn) (hname : (fn.name == "runtime.NumGoroutine") = false) (hb : fn.body.isSome = true) (args : Array Value) (w : World) : (callFunc f args).run Tryz.prog w = .ok (.enter f args) w := by
  have h1 : fn.name ≠ "runtime.NumGoroutine" := by simpa using hname
  obtain ⟨c, hc⟩ := Option.isSome_iff_exists.1 hb
  simp [callFunc, hf, h1, hc]
theorem step_call {w : World} {K : Act → World → Prop} {E : Prop} (hgd : o.guard = none) {f : FuncId} {fn : Func} {ps : Array Operand} {ts : Array TypeId} (hf : Tryz.prog.funcs[f]? = some fn) (hname : (fn.name == "runtime.NumGoroutine") = false) (hb : fn.body.isSome = true) (args : Array Value)
    (hop : o.op = .call { callee := .value (.func f), args := ps, argTypes := ts }) (hargs : ps.map a.eval = args)
    (hc : Calls Tryz.prog f args w fun e w' => ∃ v, e = .returned v ∧ K (a.put o.dst v) w') : if Region.wanted o (yielded ops a.tmps) = true then Oper.wp Tryz.prog o a w K Q else E := by
  rw [if_pos (by simp [Region.wanted, hgd])]
  have he := enters_x hf hname hb args w
  have hrun : (execOp a.eval o).run Tryz.prog w = .ok (.enter f args) w := by
    unfold execOp
    simp [hop, resolve, Deferred.ofValue, invoke, Act.eval, hargs, he]
  unfold Oper.wp
  rw [hrun, Oper.upon_enter]
  refine hc.mono ?_
  rintro e w' ⟨v, rfl, h⟩
  exact h
end
section
variable {B : Nat} {w w1 : World} {L : Lay} {s : St}
theorem Rep.row_ne (h : Rep B w L s) (t : Tag) (ht : Tag.ok s t) {g : Nat} {c : Array Value} {ty : TypeId} (hc : w.heap[g]? = some (.cells c ty (0, 0))) (hn : t.ty ≠ ty) : some g ≠ (L.rv t).ownBlock := fun e => by
  obtain ⟨c', hc'⟩ := row_cells (h.own t ht) e.symm
  exact ne_of_types hc' hc hn rfl
theorem Rep.grown_b (h : Rep B w L s) (t : Tag) (ht : Tag.ok s t) (hg : w.grownBy w1 (L.rv t).ownBlock) (i : Nat) (hi : i < s.bs.length) : w1.heap[L.ad i]? = some (.cells (cellsB (s.get i) (L.rv (.kid i)) (L.rv (.line i))) 43 (0, 0)) :=
  blk_grown (h.blk i hi) hg (h.row_ne t ht (h.blk i hi) t.ty_ne.2.2)
theorem Rep.grown_p (h : Rep B w L s) (t : Tag) (ht : Tag.ok s t) (hg : w.grownBy w1 (L.rv t).ownBlock) : w1.heap[L.pb]? = some (.cells (cellsP L s) 46 (0, 0)) :=
  blk_grown h.par hg (h.row_ne t ht h.par t.ty_ne.2.1)
theorem Rep.grown_below (h : Rep B w L s) (t : Tag) (ht : Tag.ok s t) (hg : w.grownBy w1 (L.rv t).ownBlock) : Below B w w1 :=
  (Below.refl B w).grown hg h.size fun k hk => own_base (h.own t ht) k hk
end
end Go.Proofs.YtpimcdkhjingjaaGreatDoor.X
