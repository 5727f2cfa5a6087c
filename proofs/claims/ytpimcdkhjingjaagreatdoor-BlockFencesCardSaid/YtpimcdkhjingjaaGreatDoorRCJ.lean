/- A merged text (wip/mkclaim.py). -/
import Derived.Test.YtpimcdkhjingjaaGreatDoorProg
import Derived.Test.YtpimcdkhjingjaaGreatDoorRCB
import Derived.Below
import Derived.Deep.Draws
import Derived.Deep.AppendLies
import Derived.Maps.AppendAt
import Derived.OwnWalk
import Derived.Laws.BytesArg
import Derived.Laws.MakeOwn
import Derived.Laws.OwnMore
import Derived.Deep.OwnRows
import Derived.Tactics
import Derived.Lib.ConvBytes
import Derived.Laws.Slices
import Derived.WalkKit
import Derived.KernelRfl
import Derived.RowKit3
import Derived.Deep.LoopGhost
import Derived.Deep.QuietTactic
import Derived.BigQuiet
import Derived.WideLaws
import Derived.Deep.DeepCutAuto
import Derived.Deep.CutBlock
import Derived.Deep.RegionHeld3
import Derived.Laws.Rows
import Derived.Lib.AppendStr
import Derived.ArgAppend
import Derived.Laws.IdiomCopy
import Derived.OrdersHeld
import Derived.Laws.BitsLemmas
import Derived.RowKit
import Derived.Test.YtpimcdkhjingjaaGreatDoorRCA
import Derived.Test.YtpimcdkhjingjaaGreatDoorRCH
import Derived.Test.YtpimcdkhjingjaaGreatDoorRCE
set_option linter.unusedVariables false
set_option linter.unusedSimpArgs false
set_option linter.unusedSectionVars false
namespace Go.Proofs.YtpimcdkhjingjaaGreatDoor.PBlk
open Go.RowKit Go.Proofs.YtpimcdkhjingjaaGreatDoorW.PrintWords Go.Proofs.YtpimcdkhjingjaaGreatDoorW.PrintLast Go.Proofs.YtpimcdkhjingjaaGreatDoorW.PrintMore Go.Proofs.YtpimcdkhjingjaaGreatDoor.X
attribute [local go_sem] max2_int min2_int max_two min_two max_three min_three max_four min_four
set_option linter.unusedVariables false
set_option linter.unusedSimpArgs false
def errW : Option Int → Value
  | none => .nilIface
  | some c => .iface 0 (.int .i64 c)
theorem errW_none : errW none = .nilIface := rfl
theorem errW_some (c : Int) : errW (some c) = .iface 0 (.int .i64 c) := rfl
theorem info9 : (Tryz.prog.info? 9).map (fun i => (i.zero, i.size, i.bytes)) = some (some (.string ⟨#[]⟩), 1, 16) := by kernel_rfl
structure S27 where
  f0 : Int
  f1 : Int
  f2 : Bool
  f3 : Bool
  f4 : ByteArray
  f5 : ByteArray
  f6 : ByteArray
  f7 : (List S27)
def z27 : S27 := ⟨(0 : Int), (0 : Int), false, false, (⟨#[]⟩ : ByteArray), (⟨#[]⟩ : ByteArray), (⟨#[]⟩ : ByteArray), ([] : List S27)⟩
def F27 (d : Kd S27) : Kd S27 := Kd.iso (Kd.pair (Kd.int .i64) (Kd.pair (Kd.int .i64) (Kd.pair Kd.bool (Kd.pair Kd.bool (Kd.pair Kd.string (Kd.pair Kd.string (Kd.pair Kd.string (Kd.slice 27 d)))))))) (fun x : S27 => (x.f0, x.f1, x.f2, x.f3, x.f4, x.f5, x.f6, x.f7))
theorem mono27 : Kd.Mono F27 := Kd.mono_iso _ (Kd.mono_pair (Kd.mono_const _) (Kd.mono_pair (Kd.mono_const _) (Kd.mono_pair (Kd.mono_const _) (Kd.mono_pair (Kd.mono_const _) (Kd.mono_pair (Kd.mono_const _) (Kd.mono_pair (Kd.mono_const _) (Kd.mono_pair (Kd.mono_const _) (Kd.mono_slice 27 Kd.mono_id))))))))
theorem sub27 : Kd.Sub F27 [27] := Kd.sub_iso _ (Kd.sub_pair (Kd.sub_const _ (by decide)) (Kd.sub_pair (Kd.sub_const _ (by decide)) (Kd.sub_pair (Kd.sub_const _ (by decide)) (Kd.sub_pair (Kd.sub_const _ (by decide)) (Kd.sub_pair (Kd.sub_const _ (by decide)) (Kd.sub_pair (Kd.sub_const _ (by decide)) (Kd.sub_pair (Kd.sub_const _ (by decide)) (Kd.sub_slice 27 (by decide) Kd.sub_id))))))))
theorem sz27 : ∀ n, (Kd.upto F27 8 [27] n).sz = 8 := Kd.upto_sz (fun _ => rfl)
def k27 : Kd S27 := Kd.fix F27 8 [27] sz27 (Kd.upto_E sub27)
theorem k27_open {w : World} {x : S27} {cs : List Value} (h : k27.K w x cs) : ∃ A7 c7, cs = [.int .i64 x.f0, .int .i64 x.f1, .bool x.f2, .bool x.f3, .string x.f4, .string x.f5, .string x.f6, .slice A7 x.f7.length c7] ∧ x.f7.length ≤ c7 ∧ k27.C w A7 x.f7.length x.f7 := by
  obtain ⟨n, h⟩ := h
  cases n with
  | zero => exact h.elim
  | succ n =>
    obtain ⟨_, _, rfl, rfl, ⟨_, _, rfl, rfl, ⟨_, _, rfl, rfl, ⟨_, _, rfl, rfl, ⟨_, _, rfl, rfl, ⟨_, _, rfl, rfl, ⟨_, _, rfl, rfl, ⟨A7, c7, rfl, l7, g7⟩⟩⟩⟩⟩⟩⟩⟩ := h
    exact ⟨A7, c7, rfl, l7, Kd.fix_C g7⟩
theorem k27_openM {w : World} {base : Nat} {ok : Nat → Prop} {x : S27} {cs : List Value} (h : k27.M w base ok x cs) : ∃ v7, cs = [.int .i64 x.f0, .int .i64 x.f1, .bool x.f2, .bool x.f3, .string x.f4, .string x.f5, .string x.f6, v7] ∧ k27.R 27 w base ok v7 x.f7 := by
  obtain ⟨n, h⟩ := h
  cases n with
  | zero => exact h.elim
  | succ n =>
    obtain ⟨_, _, rfl, rfl, ⟨_, _, rfl, rfl, ⟨_, _, rfl, rfl, ⟨_, _, rfl, rfl, ⟨_, _, rfl, rfl, ⟨_, _, rfl, rfl, ⟨_, _, rfl, rfl, ⟨v7, rfl, g7⟩⟩⟩⟩⟩⟩⟩⟩ := h
    exact ⟨v7, rfl, Kd.fix_R g7⟩
theorem k27_mkM (w : World) (base : Nat) (ok : Nat → Prop) (x : S27) {v7 : Value} (g7 : k27.R 27 w base ok v7 x.f7) : k27.M w base ok x [.int .i64 x.f0, .int .i64 x.f1, .bool x.f2, .bool x.f3, .string x.f4, .string x.f5, .string x.f6, v7] := by
  obtain ⟨n7, q7⟩ := Kd.fix_R_back mono27 g7
  have r7 := Kd.upto_R_le mono27 sz27 (show n7 ≤ n7 by omega) q7
  exact ⟨n7 + 1, ⟨[.int .i64 x.f0], [.int .i64 x.f1, .bool x.f2, .bool x.f3, .string x.f4, .string x.f5, .string x.f6, v7], rfl, rfl, ⟨[.int .i64 x.f1], [.bool x.f2, .bool x.f3, .string x.f4, .string x.f5, .string x.f6, v7], rfl, rfl, ⟨[.bool x.f2], [.bool x.f3, .string x.f4, .string x.f5, .string x.f6, v7], rfl, rfl, ⟨[.bool x.f3], [.string x.f4, .string x.f5, .string x.f6, v7], rfl, rfl, ⟨[.string x.f4], [.string x.f5, .string x.f6, v7], rfl, rfl, ⟨[.string x.f5], [.string x.f6, v7], rfl, rfl, ⟨[.string x.f6], [v7], rfl, rfl, ⟨v7, rfl, r7⟩⟩⟩⟩⟩⟩⟩⟩⟩
def rd_T27 (xs : List S27) (i : Int) : S27 := xs.getD i.toNat z27
theorem at_T27 {w : World} {A : Option Addr} {n : Nat} {xs : List S27} (h : Kd.C k27 w A n xs) (i : Int) (h0 : 0 ≤ i) (h1 : i < n) : ∃ ad A7 c7, A = some ad ∧ w.cell? (ad.add (i.toNat * 8)) = some (.int .i64 (rd_T27 xs i).f0) ∧ w.cell? ⟨(ad.add (i.toNat * 8)).block, (ad.add (i.toNat * 8)).off + 1, none⟩ = some (.int .i64 (rd_T27 xs i).f1) ∧ w.cell? ⟨(ad.add (i.toNat * 8)).block, (ad.add (i.toNat * 8)).off + 2, none⟩ = some (.bool (rd_T27 xs i).f2) ∧ w.cell? ⟨(ad.add (i.toNat * 8)).block, (ad.add (i.toNat * 8)).off + 3, none⟩ = some (.bool (rd_T27 xs i).f3) ∧ w.cell? ⟨(ad.add (i.toNat * 8)).block, (ad.add (i.toNat * 8)).off + 4, none⟩ = some (.string (rd_T27 xs i).f4) ∧ w.cell? ⟨(ad.add (i.toNat * 8)).block, (ad.add (i.toNat * 8)).off + 5, none⟩ = some (.string (rd_T27 xs i).f5) ∧ w.cell? ⟨(ad.add (i.toNat * 8)).block, (ad.add (i.toNat * 8)).off + 6, none⟩ = some (.string (rd_T27 xs i).f6) ∧ w.cell? ⟨(ad.add (i.toNat * 8)).block, (ad.add (i.toNat * 8)).off + 7, none⟩ = some (.slice A7 (rd_T27 xs i).f7.length c7) ∧ (rd_T27 xs i).f7.length ≤ c7 ∧ k27.C w A7 (rd_T27 xs i).f7.length (rd_T27 xs i).f7 := by
  obtain ⟨ad, c, e, _, hK, hc0⟩ := Kd.C_get h z27 i h0 h1
  have hc : ∀ j u, c[j]? = some u → w.cell? (ad.add (i.toNat * 8 + j)) = some u := hc0
  obtain ⟨A7, c7, rfl, l7, g7⟩ := k27_open hK
  exact ⟨ad, A7, c7, e, hc 0 _ rfl, by rw [← add_field _ _ 1 (by omega)]; exact hc 1 _ rfl, by rw [← add_field _ _ 2 (by omega)]; exact hc 2 _ rfl, by rw [← add_field _ _ 3 (by omega)]; exact hc 3 _ rfl, by rw [← add_field _ _ 4 (by omega)]; exact hc 4 _ rfl, by rw [← add_field _ _ 5 (by omega)]; exact hc 5 _ rfl, by rw [← add_field _ _ 6 (by omega)]; exact hc 6 _ rfl, by rw [← add_field _ _ 7 (by omega)]; exact hc 7 _ rfl, l7, g7⟩
end Go.Proofs.YtpimcdkhjingjaaGreatDoor.PBlk
namespace Go.Proofs.YtpimcdkhjingjaaGreatDoor.X
open Go.RowKit Go.Proofs.YtpimcdkhjingjaaGreatDoorW.PrintWords Go.Proofs.YtpimcdkhjingjaaGreatDoor.PBlk
def zn : Value := .agg #[.int .i64 0, .int .i64 0, .bool false, .bool false, .string ⟨#[]⟩, .string ⟨#[]⟩, .string ⟨#[]⟩, .slice none 0 0]
theorem infoN : (Tryz.prog.info? 27).map (fun i => (i.zero, i.size, i.bytes)) = some (some zn, 8, 96) := by kernel_rfl
theorem size_al (w : World) (o : Obj) : (w.alloc o).heap.size = w.heap.size + 1 := by show (w.heap.push o).size = _; exact Array.size_push _
section
variable {ops : Array Oper} {o : Oper} {a : Act} {Q : Exit → Act → World → Prop}
theorem step_kid {K : Act → World → Prop} {E : Prop} (W : World) (base : Nat) (v : Value) (xs : List S27) (p : S27) (v7 : Value) (g : Nat) (hgd : o.guard = none) (s t : Operand)
    (ho : o.op = .call { callee := .builtin .append, args := #[s, t], argTypes := #[25, 25] }) (hs : a.eval s = v) (hx : a.eval t = .slice (some ⟨W.heap.size, 0, none⟩) 1 1)
    (hp : k27.R 27 W base (fun k => k ≠ g ∧ some k ≠ v.ownBlock) v7 p.f7) (HO : k27.R 27 W base (fun k => k ≠ g) v xs) (hg : g < W.heap.size) (hbase : base ≤ W.heap.size) (hl : xs.length ≤ 1099511627776)
    (h : ∀ v1 w1, k27.R 27 w1 base (fun k => k ≠ g) v1 (xs ++ [p]) → Below base W w1 → W.grownBy w1 v.ownBlock → (v1.ownBlock = v.ownBlock ∨ ∃ b, v1.ownBlock = some b ∧ W.heap.size ≤ b) → K (a.put o.dst v1) w1) :
    if Region.wanted o (yielded ops a.tmps) = true then Oper.wp Tryz.prog o a (W.alloc (.cells #[.int .i64 p.f0, .int .i64 p.f1, .bool p.f2, .bool p.f3, .string p.f4, .string p.f5, .string p.f6, v7] 27)) K Q else E := by
  have hw : Region.wanted o (yielded ops a.tmps) = true := by simp [Region.wanted, hgd]
  rw [if_pos hw]
  have hm := k27_mkM W base (fun k => k ≠ g ∧ some k ≠ v.ownBlock) p hp
  have key := Kd.R_append_step (ops := ops) (o := o) (a := a) (Q := Q) (P := Tryz.prog) (Kc := K) k27 (w0 := W) (W := W) base hw s t 25 27 zn 96 ho Tryz.underlying25 infoN rfl (by decide) (by decide) v xs p _ (fun k => k ≠ g) (fun k => k ≠ g ∧ some k ≠ v.ownBlock) hs hx hm (fun _ hk => hk) (fun k hk => by omega) HO (Below.refl _ _) hbase (by omega) h
  rw [if_pos hw] at key
  exact key
end
end Go.Proofs.YtpimcdkhjingjaaGreatDoor.X
namespace Go.Proofs.YtpimcdkhjingjaaGreatDoor.X
open Go.RowKit Go.Proofs.YtpimcdkhjingjaaGreatDoorW.PrintWords
theorem RepN.linesOpen {B : Nat} {w : World} {L : Lay} {s : St} (h : RepN B w L s) (i : Nat) (hi : i < s.bs.length) (h0 : 0 < (s.get i).lines.length) :
    ∃ g cap, L.rv (.line i) = .slice (some ⟨g, 0, none⟩) (s.get i).lines.length cap ∧ (s.get i).lines.length ≤ cap ∧ g < w.heap.size ∧ ∀ j l, (s.get i).lines[j]? = some l → w.cell? ⟨g, j, none⟩ = some (.string (S l)) := by
  have hown := h.own (.line i) hi
  have hlen : (elems L s (.line i)).length = (s.get i).lines.length := by simp [elems]
  rw [hlen] at hown
  rcases hown.2 with ⟨_, h1⟩ | ⟨g, cap, cur, hv, hg, hh, hn, hc, hsz, htk⟩
  · omega
  · refine ⟨g, cap, hv, hn, blk_lt hh, fun j l hj => ?_⟩
    rw [hv] at hown
    obtain ⟨hjl, hjv⟩ := List.getElem?_eq_some_iff.1 hj
    have := hown.cellAt j (by omega)
    rw [this]
    simp only [elems]
    rw [List.getElem?_map, hj]
    rfl
theorem RepN.linesLen {B : Nat} {w : World} {L : Lay} {s : St} (h : RepN B w L s) (i : Nat) (hi : i < s.bs.length) : ∃ A c, L.rv (.line i) = .slice A (s.get i).lines.length c ∧ (s.get i).lines.length ≤ c := by
  rcases Nat.eq_zero_or_pos (s.get i).lines.length with h0 | h0
  · obtain ⟨A, c, e⟩ := own_slice (h.ownL i hi)
    exact ⟨A, c, e, by omega⟩
  · obtain ⟨g, cap, e, hl, _⟩ := h.linesOpen i hi h0
    exact ⟨_, cap, e, hl⟩
theorem join_len (M : Nat) : ∀ l : List (List UInt8), (∀ x ∈ l, x.length ≤ M) → (Lib.join l [10]).length ≤ l.length * (M + 1)
  | [], _ => by simp [Lib.join]
  | [x], h => by
    rw [Lib.join_one]
    have := h x (by simp)
    simp; omega
  | x :: y :: t, h => by
    have e : Lib.join (x :: y :: t) [10] = x ++ [10] ++ Lib.join (y :: t) [10] := by simp [Lib.join, List.intercalate]
    rw [e]
    have h1 := join_len M (y :: t) (fun z hz => h z (by simp [hz]))
    have h2 := h x (by simp)
    simp only [List.length_append, List.length_cons, List.length_nil] at h1 ⊢
    have h3 : (t.length + 1 + 1) * (M + 1) = (t.length + 1) * (M + 1) + (M + 1) := by rw [Nat.add_mul (t.length + 1) 1, Nat.one_mul]
    omega
theorem map_S (l : List (List UInt8)) : (l.map S).map (·.data.toList) = l := by
  rw [List.map_map]
  exact List.map_id' l
theorem join_take {B : Nat} {w : World} {L : Lay} {s : St} {N M : Nat} (h : RepN B w L s) (hf : Wf N s) (hgd : Good M s) (hMN : N * (M + 1) ≤ 140737488355328) (i : Nat) (hi : i < s.bs.length) (m : Nat) (hm : m ≤ (s.get i).lines.length) {A : Option Addr} {n c : Nat} (hv : L.rv (.line i) = .slice A n c) :
    Calls Tryz.prog 34 #[.slice A m c, .string ⟨#[10]⟩] w fun e w' => e = .returned (.string (S (Lib.join ((s.get i).lines.take m) [10]))) ∧ Below w.heap.size w w' := by
  rcases Nat.eq_zero_or_pos m with rfl | h0
  · refine (Tryz.strings_Join_none A c ⟨#[10]⟩ w).mono ?_
    rintro e w' ⟨rfl, rfl⟩
    exact ⟨rfl, Below.refl _ _⟩
  · obtain ⟨g, cap, hv2, hcap, hg, hc⟩ := h.linesOpen i hi (by omega)
    rw [hv] at hv2
    injection hv2 with e1 e2 e3
    subst e1 e2 e3
    have hN := hf.linl i hi
    have hb := hf.big
    have hl : (((s.get i).lines.take m).map S).length = m := by rw [List.length_map, List.length_take]; omega
    have key := Tryz.strings_Join g 0 c (((s.get i).lines.take m).map S) ⟨#[10]⟩ w (fun j x hj => by
        rw [List.getElem?_map] at hj
        obtain ⟨y, hy, rfl⟩ := Option.map_eq_some_iff.1 hj
        rw [Nat.zero_add]
        have hjm : j < m := by
          have := (List.getElem?_eq_some_iff.1 hy).1
          rw [List.length_take] at this
          omega
        rw [List.getElem?_take, if_pos hjm] at hy
        exact hc j y hy) hg (by rw [hl]; omega) (by rw [hl]; omega) (by
        rw [map_S]
        have h1 := join_len M ((s.get i).lines.take m) (fun x hx => hgd.short i hi x (List.mem_of_mem_take hx))
        have h2 : ((s.get i).lines.take m).length * (M + 1) ≤ N * (M + 1) := Nat.mul_le_mul_right _ (by rw [List.length_take]; omega)
        exact Nat.le_trans h1 (Nat.le_trans h2 hMN))
    rw [hl] at key
    refine key.mono ?_
    rintro e w' ⟨rfl, hb⟩
    refine ⟨?_, hb⟩
    rw [map_S]
    rfl
theorem join_c {B : Nat} {w : World} {L : Lay} {s : St} {N M : Nat} (h : RepN B w L s) (hf : Wf N s) (hgd : Good M s) (hMN : N * (M + 1) ≤ 140737488355328) (i : Nat) (hi : i < s.bs.length) :
    Calls Tryz.prog 34 #[L.rv (.line i), .string ⟨#[10]⟩] w fun e w' => e = .returned (.string (S (Lib.join (s.get i).lines [10]))) ∧ Below w.heap.size w w' := by
  obtain ⟨A, c, hv, _⟩ := h.linesLen i hi
  have := join_take h hf hgd hMN i hi (s.get i).lines.length (Nat.le_refl _) hv
  rw [List.take_length] at this
  rw [hv]
  exact this
theorem join_le {s : St} {N M : Nat} (hf : Wf N s) (hgd : Good M s) (hMN : N * (M + 1) ≤ 140737488355328) (i : Nat) (hi : i < s.bs.length) : (Lib.join (s.get i).lines [10]).length ≤ 1099511627776 * 128 :=
  Nat.le_trans (join_len M _ (hgd.short i hi)) (Nat.le_trans (Nat.mul_le_mul_right _ (hf.linl i hi)) (by omega))
theorem trimRight_c (l : List UInt8) (hl : l.length ≤ 1099511627776 * 128) (w : World) : Calls Tryz.prog 33 #[.string (S l), .string ⟨#[32, 9]⟩] w fun e w' => e = .returned (.string (S (Lib.trimRightS l [32, 9]))) ∧ Below w.heap.size w w' :=
  strings_TrimRight.calls _ _ _ w (by
    have hs : (S l).size ≤ 9223372036854775807 := by rw [S_size]; omega
    unfold strings_TrimRight.f trimOk
    rw [if_pos (by rw [decide_eq_true hs]; rfl)]
    rfl)
theorem trimAll_c (l : List UInt8) (hl : l.length ≤ 1099511627776 * 128) (w : World) : Calls Tryz.prog 35 #[.string (S l), .string ⟨#[32, 9]⟩] w fun e w' => e = .returned (.string (S (Lib.trimS l [32, 9]))) ∧ Below w.heap.size w w' :=
  strings_Trim.calls _ _ _ w (by
    have hs : (S l).size ≤ 9223372036854775807 := by rw [S_size]; omega
    unfold strings_Trim.f trimOk
    rw [if_pos (by rw [decide_eq_true hs]; rfl)]
    rfl)
end Go.Proofs.YtpimcdkhjingjaaGreatDoor.X
namespace Go.Proofs.YtpimcdkhjingjaaGreatDoor.X
open Go.RowKit Go.Proofs.YtpimcdkhjingjaaGreatDoorW.PrintWords
theorem dropBlank_snoc (l : List (List UInt8)) (x : List UInt8) : dropBlank (l ++ [x]) = if (Lib.trimS x [32, 9]).isEmpty = true then dropBlank l else l ++ [x] := by
  unfold dropBlank
  rw [List.reverse_append, List.reverse_singleton, List.singleton_append, List.dropWhile_cons]
  split
  · rfl
  · rw [List.reverse_cons, List.reverse_reverse]
theorem take_snoc (l : List (List UInt8)) {m : Nat} (h : m < l.length) : l.take (m + 1) = l.take m ++ [l.getD m []] := by
  rw [List.take_succ_eq_append_getElem h, List.getD_eq_getElem?_getD, List.getElem?_eq_getElem h]
  rfl
theorem code_some {b : Blk} {m : Nat} (h : b.codeLines = b.lines.take m) (hm : m ≤ b.lines.length) (h0 : 0 < m) : b.code = Lib.join (b.lines.take m) [10] ++ [10] := by
  unfold Blk.code
  rw [h, if_neg]
  intro e
  have := congrArg List.length e
  rw [List.length_take, List.length_nil] at this
  omega
theorem code_none {b : Blk} (h : b.codeLines = []) : b.code = [] := by
  unfold Blk.code
  rw [if_pos h]
theorem join_sz {s : St} {N M : Nat} (hf : Wf N s) (hgd : Good M s) (hMN : N * (M + 1) ≤ 140737488355328) (i : Nat) (hi : i < s.bs.length) (m : Nat) : ¬ 9223372036854775807 < (S (Lib.join ((s.get i).lines.take m) [10])).size + 1 := by
  rw [S_size]
  have h1 := join_len M ((s.get i).lines.take m) (fun x hx => hgd.short i hi x (List.mem_of_mem_take hx))
  have h2 : ((s.get i).lines.take m).length * (M + 1) ≤ N * (M + 1) := Nat.mul_le_mul_right _ (by have := hf.linl i hi; rw [List.length_take]; omega)
  omega
set_option maxRecDepth 100000 in
set_option maxHeartbeats 4000000 in
theorem code_c {B : Nat} {w : World} {L : Lay} {s : St} {N M : Nat} (h : RepN B w L s) (hf : Wf N s) (hgd : Good M s) (hMN : N * (M + 1) ≤ 140737488355328) (i : Nat) (hi : i < s.bs.length) :
    Calls Tryz.prog 36 #[.pointer (some ⟨L.ad i, 0, none⟩)] w fun e w' => e = .returned (.string (S (s.get i).code)) ∧ Below w.heap.size w w' := by
  obtain ⟨A, c, hv, hcap⟩ := h.linesLen i hi
  have hmax := Nat.le_trans (hf.linl i hi) hf.big
  have hb11 := h.b11 i hi
  have hb9 := h.b9 i hi
  rw [hv] at hb11
  have HJ : Hid (∀ m, m ≤ (s.get i).lines.length → ∀ w', RepN B w' L s → Calls Tryz.prog 34 #[.slice A m c, .string ⟨#[10]⟩] w' fun e w2 => e = .returned (.string (S (Lib.join ((s.get i).lines.take m) [10]))) ∧ Below w'.heap.size w' w2) :=
    fun m hm w' h' => join_take h' hf hgd hMN i hi m hm hv
  obtain ⟨n, hn⟩ : ∃ n, n = (s.get i).lines.length := ⟨_, rfl⟩
  obtain ⟨fe, hfe⟩ : ∃ n, n = (s.get i).fence := ⟨_, rfl⟩
  rw [← hn] at hv hmax HJ hb11 hcap
  rw [← hfe] at hb9
  have hcl : Hid ((s.get i).codeLines = if fe = 0 then dropBlank (s.get i).lines else (s.get i).lines) := by show _ = _; rw [hfe]; rfl
  have Hv := Lib.hid hv
  have Hn := Lib.hid hn
  have Hfe := Lib.hid hfe
  clear hv hn hfe
  have hshort := hgd.short i hi
  have HSz := Lib.hid (join_sz hf hgd hMN i hi)
  go_enter Tryz.func36, Tryz.ntmps36
  go_wp2
  go_loopg [3] n (fun k v3 wr => ∃ m : Nat, v3 = .slice A m c ∧ m = k ∧ m ≤ n ∧ RepN B wr L s ∧ Below w.heap.size w wr ∧ Hid ((s.get i).codeLines = if fe = 0 then dropBlank ((s.get i).lines.take m) else (s.get i).lines) ∧ Hid (0 < fe → m = n))
  case atStart => exact ⟨n, rfl, rfl, Nat.le_refl _, h, Below.refl _ _, by show _ = _; rw [Hn.out, List.take_length]; exact hcl.out, fun _ => rfl⟩
  case round =>
    obtain ⟨m, rfl, hmk, hmn, hr, hb, hc1, hc2⟩ := hrel
    have b9 := hr.b9 i hi
    rw [← Hfe.out] at b9
    have fin : fe ≠ 0 ∨ fe = 0 ∧ m = 0 ∨ fe = 0 ∧ 0 < m := by omega
    rcases fin with hf0 | ⟨rfl, rfl⟩ | ⟨rfl, h0⟩
    · have hf0' : ((fe : Int) == 0) = false := beq_eq_false_iff_ne.2 (by omega)
      have hmn' := hc2.out (by omega)
      subst hmn'
      have hcd : Hid ((s.get i).codeLines = (s.get i).lines.take m) := by show _ = _; rw [hc1.out, if_neg hf0, Hn.out, List.take_length]
      rcases Nat.eq_zero_or_pos m with rfl | h0
      · have hres : Hid ((s.get i).code = []) := code_none (by rw [hcd.out]; rfl)
        clear hf0 hmk
        go_wp2
        go_ret
        exact ⟨by rw [hres.out]; rfl, hb⟩
      · have hres : Hid ((s.get i).code = Lib.join ((s.get i).lines.take m) [10] ++ [10]) := code_some hcd.out (by rw [← Hn.out]; exact Nat.le_refl _) h0
        have h0' : ((m : Int) == 0) = false := beq_eq_false_iff_ne.2 (by omega)
        have HJm := Lib.hid (HJ.out m (Nat.le_refl _))
        clear hf0 hmk
        have hsz := HSz.out m
        go_wp2_with (first | (go_at_call 34; refine (HJm.out _ ?_).mono ?_; assumption; rintro e w3 ⟨rfl, hb3⟩))
        go_ret
        exact ⟨by rw [hres.out, ← S_append]; rfl, hb.trans (hb3.mono hb.size)⟩
    · have hres : Hid ((s.get i).code = []) := code_none (by rw [hc1.out]; rfl)
      clear hmk
      go_wp2
      go_ret
      exact ⟨by rw [hres.out]; rfl, hb⟩
    · cases gk with
      | zero => omega
      | succ k =>
      obtain ⟨g, cap, hv2, hcap2, hg, hc⟩ := hr.linesOpen i hi (by rw [← Hn.out]; omega)
      rw [Hv.out, ← Hn.out] at hv2
      injection hv2 with e1 e2 e3
      subst e1 e3
      have hkn : k < (s.get i).lines.length := by rw [← Hn.out]; omega
      have hck := hc k ((s.get i).lines.getD k []) (by rw [List.getD_eq_getElem?_getD, List.getElem?_eq_getElem hkn]; rfl)
      have hsn := take_snoc (s.get i).lines hkn
      have hln : ((s.get i).lines.getD k []).length ≤ M := hshort _ (by rw [List.getD_eq_getElem?_getD, List.getElem?_eq_getElem hkn]; exact List.getElem_mem hkn)
      have hN0 : 0 < N := by have := hf.linl i hi; omega
      have hMM : M + 1 ≤ 140737488355328 := Nat.le_trans (Nat.le_mul_of_pos_left _ hN0) hMN
      obtain ⟨x, hx⟩ : ∃ x, x = (s.get i).lines.getD k [] := ⟨_, rfl⟩
      rw [← hx] at hck hsn hln
      have hc1' : Hid ((s.get i).codeLines = if (Lib.trimS x [32, 9]).isEmpty = true then dropBlank ((s.get i).lines.take k) else (s.get i).lines.take m) := by
        show _ = _
        rw [hc1.out, if_pos rfl, hmk, hsn, dropBlank_snoc]
      have HT := Lib.hid (trimAll_c x (by omega))
      have eT := S_empty (Lib.trimS x [32, 9])
      obtain ⟨T, hT⟩ : ∃ T, T = Lib.trimS x [32, 9] := ⟨_, rfl⟩
      rw [← hT] at HT eT hc1'
      have hw1 : IntKind.i64.wrap ((m : Int) - 1) = (k : Int) := by rw [IntWalk.i64_in _ (by omega)]; omega
      have h0' : (0 : Int) < (m : Int) := by omega
      have hk0 : (0 : Int) ≤ (k : Int) := by omega
      have hkm : (k : Int) < (m : Int) := by omega
      have hkc : (k : Int) ≤ (c : Int) := by omega
      have hm0 : ((m : Int) == 0) = false := beq_eq_false_iff_ne.2 (by omega)
      have HJm := Lib.hid (HJ.out m hmn)
      have Hmk := Lib.hid hmk
      have Hmn := Lib.hid hmn
      clear hmk hmn hc1 hx hsn hT hkn hc e2
      cases hte : T.isEmpty with
      | true =>
        rw [hte] at eT
        have eT' := List.isEmpty_iff.1 eT
        have hres : Hid ((s.get i).codeLines = dropBlank ((s.get i).lines.take k)) := by show _ = _; rw [hc1'.out, if_pos hte]
        go_wp2_with (first | (go_at_call 35; refine (HT.out _).mono ?_; rintro e w3 ⟨rfl, hb3⟩))
        go_roundg k
        case measure => omega
        case rel => exact ⟨k, rfl, rfl, by have := Hmk.out; have := Hmn.out; omega, hr.below hb3, hb.trans (hb3.mono hb.size), by show _ = _; rw [hres.out]; exact (if_pos trivial).symm, fun h => absurd h (Nat.lt_irrefl _)⟩
      | false =>
        rw [hte] at eT
        have hres : Hid ((s.get i).code = Lib.join ((s.get i).lines.take m) [10] ++ [10]) := code_some (by rw [hc1'.out, if_neg (by rw [hte]; simp)]) (by rw [← Hn.out]; exact Hmn.out) (by omega)
        have hsz := HSz.out m
        go_wp2_with (first
          | (go_at_call 35; refine (HT.out _).mono ?_; rintro e w3 ⟨rfl, hb3⟩)
          | (go_at_call 34; refine (HJm.out _ ?_).mono ?_; exact hr.below hb3; rintro e w4 ⟨rfl, hb4⟩))
        go_ret
        exact ⟨by rw [hres.out, ← S_append]; rfl, hb.trans ((hb3.mono hb.size).trans (hb4.mono (Nat.le_trans hb.size hb3.size)))⟩
end Go.Proofs.YtpimcdkhjingjaaGreatDoor.X
