/- A merged text (wip/mkclaim.py). -/
import Derived.Test.YtpimcdkhjingjaaGreatDoorProg
import Derived.Test.YtpimcdkhjingjaaGreatDoorRCB
import Derived.Below
import Derived.Deep.Draws
import Derived.Deep.AppendLies
import Derived.Maps.AppendAt
import Derived.OwnWalk
import Derived.Laws.BytesArg
import Derived.Laws.MakeOwn
import Derived.Laws.OwnMore
import Derived.Deep.OwnRows
import Derived.Tactics
import Derived.Lib.ConvBytes
import Derived.Laws.Slices
import Derived.WalkKit
import Derived.KernelRfl
import Derived.RowKit3
import Derived.Deep.LoopGhost
import Derived.Deep.QuietTactic
import Derived.BigQuiet
import Derived.WideLaws
import Derived.Deep.DeepCutAuto
import Derived.Deep.CutBlock
import Derived.Deep.RegionHeld3
import Derived.Laws.Rows
import Derived.Lib.AppendStr
import Derived.ArgAppend
import Derived.Laws.IdiomCopy
import Derived.OrdersHeld
import Derived.Laws.BitsLemmas
import Derived.RowKit
import Derived.Test.YtpimcdkhjingjaaGreatDoorRCA
import Derived.Lib.SlBytesConst
set_option linter.unusedVariables false
set_option linter.unusedSimpArgs false
set_option linter.unusedSectionVars false
namespace Go.Proofs.YtpimcdkhjingjaaGreatDoor.PLeaf
open Go.RowKit Go.Proofs.YtpimcdkhjingjaaGreatDoorW.PrintWords Go.Proofs.YtpimcdkhjingjaaGreatDoorW.PrintLast Go.Proofs.YtpimcdkhjingjaaGreatDoorW.PrintMore Go.Proofs.YtpimcdkhjingjaaGreatDoor.X
attribute [local go_sem] max2_int min2_int max_two min_two max_three min_three max_four min_four
set_option linter.unusedVariables false
set_option linter.unusedSimpArgs false
def errW : Option Int → Value
  | none => .nilIface
  | some c => .iface 0 (.int .i64 c)
theorem errW_none : errW none = .nilIface := rfl
theorem errW_some (c : Int) : errW (some c) = .iface 0 (.int .i64 c) := rfl
end Go.Proofs.YtpimcdkhjingjaaGreatDoor.PLeaf
namespace Go.Proofs.YtpimcdkhjingjaaGreatDoor.PLeaf
open Go.RowKit Go.Proofs.YtpimcdkhjingjaaGreatDoorW.PrintWords Go.Proofs.YtpimcdkhjingjaaGreatDoorW.PrintLast Go.Proofs.YtpimcdkhjingjaaGreatDoorW.PrintMore Go.Proofs.YtpimcdkhjingjaaGreatDoor.X
attribute [local go_sem] max2_int min2_int max_two min_two max_three min_three max_four min_four
set_option linter.unusedVariables false
set_option linter.unusedSimpArgs false
def leaf_run.l0 : Nat → ByteArray → Int → Int → Option (Int)
  | 0, _, _, _ => none
  | k + 1, x0, x1, x5 => if x5 < (x0.size : Int) then (if 0 ≤ x5 then (if (bt x0 x5) = x1 then (leaf_run.l0 k x0 x1 (wrap64 (x5 + 1))) else (some x5)) else (none)) else (some x5)
def leaf_run.f (k : Nat) (a0 : ByteArray) (a1 : Int) : Option (Int) := leaf_run.l0 k a0 a1 0
theorem leaf_run.mono_l : ∀ k, (∀ y0 y1 y2, LeO (leaf_run.l0 k y0 y1 y2) (leaf_run.l0 (k + 1) y0 y1 y2))
  | 0 => fun _ _ _ r h => by simp [leaf_run.l0] at h
  | k + 1 => by
    have ih0 := leaf_run.mono_l k
    · intro y0 y1 y2
      unfold leaf_run.l0
      repeat' first
      | (with_reducible exact ih0 _ _ _)
      | (with_reducible exact LeO.refl _)
      | (with_reducible exact LeO.none _)
      | (with_reducible refine LeO.ite ?_ ?_)
      | (with_reducible refine LeO.bind ?_ (fun _ => ?_))
      | exact ih0 _ _ _
      | exact LeO.none _
      | refine LeO.ite ?_ ?_
      | refine LeO.bind ?_ (fun _ => ?_)
theorem leaf_run.mono : ∀ a0 a1 k, LeO (leaf_run.f k a0 a1) (leaf_run.f (k + 1) a0 a1) := by
  intro a0 a1 k
  have ih0 := leaf_run.mono_l k
  unfold leaf_run.f
  repeat' first
      | (with_reducible exact ih0 _ _ _)
      | (with_reducible exact LeO.refl _)
      | (with_reducible exact LeO.none _)
      | (with_reducible refine LeO.ite ?_ ?_)
      | (with_reducible refine LeO.bind ?_ (fun _ => ?_))
      | exact ih0 _ _ _
      | exact LeO.none _
      | refine LeO.ite ?_ ?_
      | refine LeO.bind ?_ (fun _ => ?_)
set_option maxHeartbeats 8000000 in
set_option maxRecDepth 100000 in
theorem leaf_run.calls (k : Nat) (a0 : ByteArray) (a1 : Int) (r : Int) (w : World) (h : leaf_run.f k a0 a1 = some r) :
    Calls Tryz.prog 112 #[.string a0, .int .u8 a1] w fun e w' => e = .returned (.int .i64 r) ∧ Drawn0 w w' := by
  have H : (leaf_run.l0 k a0 a1 0) = some r := h
  clear h
  have H' := Aside0.mk H
  clear H
  go_enter Tryz.func112, Tryz.ntmps112
  go_wp2
  go_loopg [5] k (fun kq v5 w' => ∃ (x5_1 : Int), v5 = .int .i64 x5_1 ∧ Aside0 (leaf_run.l0 kq a0 a1 x5_1 = some r) ∧ Aside0 (kq ≤ k) ∧ Drawn0 w w')
  case atStart => exact ⟨(0), (by first | rfl | (simp; done) | (simp [*]; done)), H', ⟨Nat.le_refl _⟩, by repeat (first | exact Drawn0.refl _ | apply Drawn0.step)⟩
  case round =>
    clear H'
    try clear c1
    try clear p2
    obtain ⟨x5_1, rfl, HA, HK1, ⟨m1, rfl⟩⟩ := hrel
    cases gk with
    | zero => exact absurd HA.out (by simp [leaf_run.l0])
    | succ k1 =>
      have H := HA.out
      clear HA
      simp only [leaf_run.l0] at H
      by_cases c3 : x5_1 < (a0.size : Int)
      · rw [if_pos c3] at H
        have c3b0 : decide (x5_1 < (a0.size : Int)) = true := decide_eq_true c3
        clear c3
        by_cases c4 : 0 ≤ x5_1
        · rw [if_pos c4] at H
          have c4b0 : decide (0 ≤ x5_1) = true := decide_eq_true c4
          clear c4
          by_cases c6 : (bt a0 x5_1) = a1
          · rw [if_pos c6] at H
            have c6b0 : ((bt a0 x5_1) == a1) = true := beq_iff_eq.mpr c6
            have c6b1 : ((bt a0 x5_1) != a1) = false := bne_eq_false_iff_eq.mpr c6
            clear c6
            have H' := Aside0.mk H
            clear H
            have p5 : 0 ≤ (x5_1 : Int) := of_decide_eq_true (by first | (with_reducible assumption) | assumption)
            have q5 : x5_1 < (a0.size : Int) := of_decide_eq_true (by first | (with_reducible assumption) | assumption)
            have hx5 := bt_at a0 x5_1
            replace p5 := eq_true p5
            replace q5 := eq_true q5
            go_wp2
            go_roundg k1
            case measure => have := HK1.out; omega
            case rel => exact ⟨(wrap64 (x5_1 + 1)), (by first | rfl | (simp; done) | (simp [*]; done)), H', ⟨by have := HK1.out; omega⟩, by repeat (first | exact Drawn0.refl _ | apply Drawn0.step)⟩
          · rw [if_neg c6] at H
            have c6b0 : ((bt a0 x5_1) == a1) = false := beq_eq_false_iff_ne.mpr c6
            have c6b1 : ((bt a0 x5_1) != a1) = true := bne_iff_ne.mpr c6
            obtain rfl := Option.some.inj H
            have p5 : 0 ≤ (x5_1 : Int) := of_decide_eq_true (by first | (with_reducible assumption) | assumption)
            have q5 : x5_1 < (a0.size : Int) := of_decide_eq_true (by first | (with_reducible assumption) | assumption)
            have hx5 := bt_at a0 x5_1
            replace p5 := eq_true p5
            replace q5 := eq_true q5
            go_wp2
            go_ret
            exact ⟨by first | rfl | (simp; done) | (simp [*]; done), by repeat (first | exact Drawn0.refl _ | apply Drawn0.step)⟩
        · rw [if_neg c4] at H
          exact absurd H (by simp)
      · rw [if_neg c3] at H
        have c3b0 : decide (x5_1 < (a0.size : Int)) = false := decide_eq_false c3
        clear c3
        obtain rfl := Option.some.inj H
        go_wp2
        go_ret
        exact ⟨by first | rfl | (simp; done) | (simp [*]; done), by repeat (first | exact Drawn0.refl _ | apply Drawn0.step)⟩
def leaf_strip.f (a0 : ByteArray) : Option (ByteArray) := (strings_Trim.f a0 (⟨#[32, 9]⟩ : ByteArray)).bind fun t101 => (some t101)
set_option maxHeartbeats 8000000 in
set_option maxRecDepth 100000 in
theorem leaf_strip.calls (a0 : ByteArray) (r : ByteArray) (w : World) (h : leaf_strip.f a0 = some r) :
    Calls Tryz.prog 113 #[.string a0] w fun e w' => e = .returned (.string r) ∧ Below w.heap.size w w' := by
  have HB := Aside0.mk (Below.refl w.heap.size w)
  have H : ((strings_Trim.f a0 (⟨#[32, 9]⟩ : ByteArray)).bind fun t101 => (some t101)) = some r := h
  clear h
  replace H := Option.bind_eq_some_iff.mp H
  obtain ⟨t101, A20, H⟩ := H
  replace H : (some t101) = some r := H
  have A2 := Aside0.mk A20
  clear A20
  obtain rfl := Option.some.inj H
  go_enter Tryz.func113, Tryz.ntmps113
  go_wp2_with (first | ((with_reducible refine gate_callee (f := 35) rfl ?_); refine goesL_ (some 4) rfl rfl Tryz.func35 (by kernel_rfl) rfl #[.string a0, .string (⟨#[32, 9]⟩ : ByteArray)] rfl (by (try simp only [List.map_toArray, List.map_cons, List.map_nil]); first | done | rfl | (simp only [List.length_drop, List.length_take]; rfl)) ?_; (with_reducible refine (strings_Trim.calls a0 (⟨#[32, 9]⟩ : ByteArray) t101 _ A2.out).mono ?_); rintro e w3 ⟨rfl, hb⟩; refine ⟨_, rfl, ?_⟩; have n0_ := Aside0.mk (below_step (by repeat (first | (with_reducible first | exact HB.out | apply below_alloc | apply pw_below_drewN | apply below_drew1) | exact HB.out)) hb); clear HB; have HB := n0_; clear n0_; (try clear hb); (try clear hb2); (try clear hk); (try clear hi)))
  go_ret
  exact ⟨by first | rfl | (simp [errW_none, errW_some] <;> rfl) | (simp [*, errW_none, errW_some] <;> rfl), by repeat (first | (with_reducible first | exact HB.out | apply below_alloc | apply pw_below_drewN | apply below_drew1) | exact HB.out)⟩
def leaf_ends.f (a0 : ByteArray) : Option (Bool) := if a0.toList = ([] : List UInt8) then (some true) else (if 0 < (a0.size : Int) then ((strings_IndexByte.f (⟨#[32, 9]⟩ : ByteArray) (bt a0 0)).bind fun t102 => (some (decide (t102 ≥ 0)))) else (none))
set_option maxHeartbeats 8000000 in
set_option maxRecDepth 100000 in
theorem leaf_ends.calls (a0 : ByteArray) (r : Bool) (w : World) (h : leaf_ends.f a0 = some r) :
    Calls Tryz.prog 115 #[.string a0] w fun e w' => e = .returned (.bool r) ∧ Drawn0 w w' := by
  have H : (if a0.toList = ([] : List UInt8) then (some true) else (if 0 < (a0.size : Int) then ((strings_IndexByte.f (⟨#[32, 9]⟩ : ByteArray) (bt a0 0)).bind fun t102 => (some (decide (t102 ≥ 0)))) else (none))) = some r := h
  clear h
  by_cases c2 : a0.toList = ([] : List UInt8)
  · rw [if_pos c2] at H
    have c2b0 : (a0.toList == ([] : List UInt8)) = true := beq_iff_eq.mpr c2
    have c2b1 : (a0.toList != ([] : List UInt8)) = false := bne_eq_false_iff_eq.mpr c2
    clear c2
    obtain rfl := Option.some.inj H
    go_enter Tryz.func115, Tryz.ntmps115
    go_wp2
    go_ret
    exact ⟨by first | rfl | (simp; done) | (simp [*]; done), by repeat (first | exact Drawn0.refl _ | apply Drawn0.step)⟩
  · rw [if_neg c2] at H
    have c2b0 : (a0.toList == ([] : List UInt8)) = false := beq_eq_false_iff_ne.mpr c2
    have c2b1 : (a0.toList != ([] : List UInt8)) = true := bne_iff_ne.mpr c2
    by_cases c3 : 0 < (a0.size : Int)
    · rw [if_pos c3] at H
      have c3b0 : decide (0 < (a0.size : Int)) = true := decide_eq_true c3
      have c3b1 : decide (0 < a0.size) = true := decide_eq_true (by omega)
      clear c3
      replace H := Option.bind_eq_some_iff.mp H
      obtain ⟨t102, A50, H⟩ := H
      replace H : (some (decide (t102 ≥ 0))) = some r := H
      have A5 := Aside0.mk A50
      clear A50
      obtain rfl := Option.some.inj H
      have p4 : 0 ≤ (0 : Int) := (by omega)
      have q4 : 0 < a0.size := (by have : (0 : Int) < (a0.size : Int) := of_decide_eq_true (by first | (with_reducible assumption) | assumption); omega)
      have hx4 : ∀ h : 0 < a0.size, ((a0[0]'h).toNat : Int) = bt a0 0 := bt_at a0 0
      clear p4
      have qi4 : (0 < (a0.size : Int)) = True := eq_true (of_decide_eq_true (by first | (with_reducible assumption) | assumption))
      replace q4 := eq_true q4
      go_enter Tryz.func115, Tryz.ntmps115
      go_wp2_with (first | (go_at_call 116; (with_reducible refine (strings_IndexByte.calls (⟨#[32, 9]⟩ : ByteArray) (bt a0 0) t102 _ A5.out).mono ?_); rintro e w' ⟨rfl, ⟨nd, rfl⟩⟩))
      go_ret
      exact ⟨by first | rfl | (simp; done) | (simp [*]; done), by repeat (first | exact Drawn0.refl _ | apply Drawn0.step)⟩
    · rw [if_neg c3] at H
      exact absurd H (by simp)
def leaf_Heading.j0 : Nat → ByteArray → Int → Bool → Option (Int × ByteArray)
  | 0, _, _, _ => none
  | k + 1, x0, x4, x21 => if x21 = true then (some (0, (⟨#[]⟩ : ByteArray))) else (if 0 ≤ x4 then (if x4 ≤ (x0.size : Int) then ((leaf_strip.f (x0.extract (x4 : Int).toNat x0.size)).bind fun t105 => ((strings_TrimRight.f t105 (⟨#[35]⟩ : ByteArray)).bind fun t106 => (if t106.toList = ([] : List UInt8) then ((leaf_strip.f t106).bind fun t107 => (some (x4, t107))) else (if 0 ≤ (wrap64 ((t106.size : Int) - 1)) then (if (wrap64 ((t106.size : Int) - 1)) < (t106.size : Int) then ((strings_IndexByte.f (⟨#[32, 9]⟩ : ByteArray) (bt t106 (wrap64 ((t106.size : Int) - 1)))).bind fun t108 => (if t108 ≥ 0 then ((leaf_strip.f t106).bind fun t109 => (some (x4, t109))) else (some (x4, t105)))) else (none)) else (none))))) else (none)) else (none))
def leaf_Heading.f (k : Nat) (a0 : ByteArray) : Option (Int × ByteArray) := (leaf_run.f k a0 35).bind fun t103 => (if t103 < 1 then (leaf_Heading.j0 k a0 t103 true) else (if t103 > 6 then (leaf_Heading.j0 k a0 t103 true) else (if 0 ≤ t103 then (if t103 ≤ (a0.size : Int) then ((leaf_ends.f (a0.extract (t103 : Int).toNat a0.size)).bind fun t104 => (leaf_Heading.j0 k a0 t103 (!t104))) else (none)) else (none))))
theorem leaf_Heading.mono_l : ∀ k, (∀ y0 y1 y2, LeO (leaf_Heading.j0 k y0 y1 y2) (leaf_Heading.j0 (k + 1) y0 y1 y2))
  | 0 => fun _ _ _ r h => by simp [leaf_Heading.j0] at h
  | k + 1 => by
    have ih0 := leaf_Heading.mono_l k
    · intro y0 y1 y2
      unfold leaf_Heading.j0
      repeat' first
      | (with_reducible exact ih0 _ _ _)
      | (with_reducible exact leaf_run.mono _ _ _)
      | (with_reducible exact LeO.refl _)
      | (with_reducible exact LeO.none _)
      | (with_reducible refine LeO.ite ?_ ?_)
      | (with_reducible refine LeO.bind ?_ (fun _ => ?_))
      | exact ih0 _ _ _
      | exact leaf_run.mono _ _ _
      | exact LeO.none _
      | refine LeO.ite ?_ ?_
      | refine LeO.bind ?_ (fun _ => ?_)
theorem leaf_Heading.mono : ∀ a0 k, LeO (leaf_Heading.f k a0) (leaf_Heading.f (k + 1) a0) := by
  intro a0 k
  have ih0 := leaf_Heading.mono_l k
  unfold leaf_Heading.f
  repeat' first
      | (with_reducible exact ih0 _ _ _)
      | (with_reducible exact leaf_run.mono _ _ _)
      | (with_reducible exact LeO.refl _)
      | (with_reducible exact LeO.none _)
      | (with_reducible refine LeO.ite ?_ ?_)
      | (with_reducible refine LeO.bind ?_ (fun _ => ?_))
      | exact ih0 _ _ _
      | exact leaf_run.mono _ _ _
      | exact LeO.none _
      | refine LeO.ite ?_ ?_
      | refine LeO.bind ?_ (fun _ => ?_)
set_option maxHeartbeats 8000000 in
set_option maxRecDepth 100000 in
theorem leaf_Heading.calls (k : Nat) (a0 : ByteArray) (r1 : Int) (r2 : ByteArray) (w : World) (h : leaf_Heading.f k a0 = some (r1, r2)) :
    Calls Tryz.prog 88 #[.string a0] w fun e w' => e = .returned (.tuple #[.int .i64 r1, .string r2]) ∧ Below w.heap.size w w' := by
  have HB := Aside0.mk (Below.refl w.heap.size w)
  have H : ((leaf_run.f k a0 35).bind fun t103 => (if t103 < 1 then (leaf_Heading.j0 k a0 t103 true) else (if t103 > 6 then (leaf_Heading.j0 k a0 t103 true) else (if 0 ≤ t103 then (if t103 ≤ (a0.size : Int) then ((leaf_ends.f (a0.extract (t103 : Int).toNat a0.size)).bind fun t104 => (leaf_Heading.j0 k a0 t103 (!t104))) else (none)) else (none))))) = some (r1, r2) := h
  clear h
  replace H := Option.bind_eq_some_iff.mp H
  obtain ⟨t103, A20, H⟩ := H
  replace H : (if t103 < 1 then (leaf_Heading.j0 k a0 t103 true) else (if t103 > 6 then (leaf_Heading.j0 k a0 t103 true) else (if 0 ≤ t103 then (if t103 ≤ (a0.size : Int) then ((leaf_ends.f (a0.extract (t103 : Int).toNat a0.size)).bind fun t104 => (leaf_Heading.j0 k a0 t103 (!t104))) else (none)) else (none)))) = some (r1, r2) := H
  have A2 := Aside0.mk A20
  clear A20
  have HC3 := Aside0.mk H
  clear H
  go_enter Tryz.func88, Tryz.ntmps88
  go_upto_region 2 with (first | ((with_reducible refine gate_callee (f := 112) rfl ?_); refine goesL_ (some 8) rfl rfl Tryz.func112 (by kernel_rfl) rfl #[.string a0, .int .u8 35] rfl (by (try simp only [List.map_toArray, List.map_cons, List.map_nil]); first | done | rfl | (simp only [List.length_drop, List.length_take]; rfl)) ?_; (with_reducible refine (leaf_run.calls k a0 35 t103 _ A2.out).mono ?_); rintro e w' ⟨rfl, ⟨nd, rfl⟩⟩; refine ⟨_, rfl, ?_⟩))
  (try simp only [Act.put, List.setIfInBounds_toArray, List.set_cons_zero, List.set_cons_succ])
  go_cut [21] (fun v21 wc => ∃ (kq : Nat) (x21_2 : Bool), v21 = .bool x21_2 ∧ Aside0 (leaf_Heading.j0 kq a0 t103 x21_2 = some (r1, r2)) ∧ Aside0 (kq ≤ k) ∧ Aside0 (Below w.heap.size w wc))
  case first =>
    have H := HC3.out
    clear HC3
    by_cases c4 : t103 < 1
    · rw [if_pos c4] at H
      have c4b0 : decide (t103 < 1) = true := decide_eq_true c4
      clear c4
      (first | rw [c4b0] | (simp only [i64_w, i32_w]; rw [c4b0]) | skip)
      have H' := Aside0.mk H
      clear H
      go_wp2
      go_meet
      case rel => exact ⟨_, (true), (by first | rfl | (simp; done) | (simp [*]; done)), H', ⟨by first | omega | exact Nat.le_refl _⟩, ⟨by repeat (first | (with_reducible first | exact HB.out | apply below_alloc | apply pw_below_drewN | apply below_drew1) | exact HB.out)⟩⟩
    · rw [if_neg c4] at H
      have c4b0 : decide (t103 < 1) = false := decide_eq_false c4
      clear c4
      (first | rw [c4b0] | (simp only [i64_w, i32_w]; rw [c4b0]) | skip)
      by_cases c5 : t103 > 6
      · rw [if_pos c5] at H
        have c5b0 : decide (6 < t103) = true := decide_eq_true c5
        clear c5
        have H' := Aside0.mk H
        clear H
        go_wp2
        go_meet
        case rel => exact ⟨_, (true), (by first | rfl | (simp; done) | (simp [*]; done)), H', ⟨by first | omega | exact Nat.le_refl _⟩, ⟨by repeat (first | (with_reducible first | exact HB.out | apply below_alloc | apply pw_below_drewN | apply below_drew1) | exact HB.out)⟩⟩
      · rw [if_neg c5] at H
        have c5b0 : decide (6 < t103) = false := decide_eq_false c5
        clear c5
        by_cases c6 : 0 ≤ t103
        · rw [if_pos c6] at H
          have c6b0 := eq_true c6
          have c6b1 : decide (0 ≤ t103) = true := decide_eq_true c6
          clear c6
          by_cases c7 : t103 ≤ (a0.size : Int)
          · rw [if_pos c7] at H
            have c7b0 := eq_true c7
            have c7b1 : decide (t103 ≤ (a0.size : Int)) = true := decide_eq_true c7
            clear c7
            replace H := Option.bind_eq_some_iff.mp H
            obtain ⟨t104, A80, H⟩ := H
            replace H : (leaf_Heading.j0 k a0 t103 (!t104)) = some (r1, r2) := H
            have A8 := Aside0.mk A80
            clear A80
            have H' := Aside0.mk H
            clear H
            go_wp2_with (first | (go_at_call 115; (with_reducible refine (leaf_ends.calls (a0.extract (t103 : Int).toNat a0.size) t104 _ A8.out).mono ?_); rintro e w' ⟨rfl, ⟨nd, rfl⟩⟩))
            go_meet
            case rel => exact ⟨_, (!t104), (by first | rfl | (simp; done) | (simp [*]; done)), H', ⟨by first | omega | exact Nat.le_refl _⟩, ⟨by repeat (first | (with_reducible first | exact HB.out | apply below_alloc | apply pw_below_drewN | apply below_drew1) | exact HB.out)⟩⟩
          · rw [if_neg c7] at H
            exact absurd H (by simp)
        · rw [if_neg c6] at H
          exact absurd H (by simp)
  case rest =>
    clear HC3
    try clear c1
    try clear p2
    try clear c4
    try clear c4b0
    try clear c5
    try clear c5b0
    try clear c6
    try clear c6b0
    try clear c6b1
    try clear c7
    try clear c7b0
    try clear c7b1
    try clear c8
    obtain ⟨kq, x21_2, rfl, HA, HJ2, HB⟩ := hcut
    cases kq with
    | zero => exact absurd HA.out (by simp [leaf_Heading.j0])
    | succ kj2 =>
      have H := HA.out
      clear HA
      simp only [leaf_Heading.j0] at H
      by_cases c9 : x21_2 = true
      · subst c9
        have H1 : (some (0, (⟨#[]⟩ : ByteArray))) = some (r1, r2) := by rw [if_pos rfl] at H; exact H
        clear H
        have H := H1
        clear H1
        simp only [Option.some.injEq, Prod.mk.injEq] at H
        obtain ⟨rfl, rfl⟩ := H
        go_wp2
        go_ret2
        exact ⟨by first | rfl | (simp [errW_none, errW_some] <;> rfl) | (simp [*, errW_none, errW_some] <;> rfl), by repeat (first | (with_reducible first | exact HB.out | apply below_alloc | apply pw_below_drewN | apply below_drew1) | exact HB.out)⟩
      · replace c9 := Bool.eq_false_iff.mpr c9
        subst c9
        have H1 : (if 0 ≤ t103 then (if t103 ≤ (a0.size : Int) then ((leaf_strip.f (a0.extract (t103 : Int).toNat a0.size)).bind fun t105 => ((strings_TrimRight.f t105 (⟨#[35]⟩ : ByteArray)).bind fun t106 => (if t106.toList = ([] : List UInt8) then ((leaf_strip.f t106).bind fun t107 => (some (t103, t107))) else (if 0 ≤ (wrap64 ((t106.size : Int) - 1)) then (if (wrap64 ((t106.size : Int) - 1)) < (t106.size : Int) then ((strings_IndexByte.f (⟨#[32, 9]⟩ : ByteArray) (bt t106 (wrap64 ((t106.size : Int) - 1)))).bind fun t108 => (if t108 ≥ 0 then ((leaf_strip.f t106).bind fun t109 => (some (t103, t109))) else (some (t103, t105)))) else (none)) else (none))))) else (none)) else (none)) = some (r1, r2) := by rw [if_neg (show ¬ (false = true) by decide)] at H; exact H
        clear H
        have H := H1
        clear H1
        by_cases c10 : 0 ≤ t103
        · rw [if_pos c10] at H
          have c10b0 := eq_true c10
          have c10b1 : decide (0 ≤ t103) = true := decide_eq_true c10
          clear c10
          by_cases c11 : t103 ≤ (a0.size : Int)
          · rw [if_pos c11] at H
            have c11b0 := eq_true c11
            have c11b1 : decide (t103 ≤ (a0.size : Int)) = true := decide_eq_true c11
            clear c11
            replace H := Option.bind_eq_some_iff.mp H
            obtain ⟨t105, A120, H⟩ := H
            replace H : ((strings_TrimRight.f t105 (⟨#[35]⟩ : ByteArray)).bind fun t106 => (if t106.toList = ([] : List UInt8) then ((leaf_strip.f t106).bind fun t107 => (some (t103, t107))) else (if 0 ≤ (wrap64 ((t106.size : Int) - 1)) then (if (wrap64 ((t106.size : Int) - 1)) < (t106.size : Int) then ((strings_IndexByte.f (⟨#[32, 9]⟩ : ByteArray) (bt t106 (wrap64 ((t106.size : Int) - 1)))).bind fun t108 => (if t108 ≥ 0 then ((leaf_strip.f t106).bind fun t109 => (some (t103, t109))) else (some (t103, t105)))) else (none)) else (none)))) = some (r1, r2) := H
            have A12 := Aside0.mk A120
            clear A120
            replace H := Option.bind_eq_some_iff.mp H
            obtain ⟨t106, A130, H⟩ := H
            replace H : (if t106.toList = ([] : List UInt8) then ((leaf_strip.f t106).bind fun t107 => (some (t103, t107))) else (if 0 ≤ (wrap64 ((t106.size : Int) - 1)) then (if (wrap64 ((t106.size : Int) - 1)) < (t106.size : Int) then ((strings_IndexByte.f (⟨#[32, 9]⟩ : ByteArray) (bt t106 (wrap64 ((t106.size : Int) - 1)))).bind fun t108 => (if t108 ≥ 0 then ((leaf_strip.f t106).bind fun t109 => (some (t103, t109))) else (some (t103, t105)))) else (none)) else (none))) = some (r1, r2) := H
            have A13 := Aside0.mk A130
            clear A130
            by_cases c14 : t106.toList = ([] : List UInt8)
            · rw [if_pos c14] at H
              have c14b0 : (t106.toList == ([] : List UInt8)) = true := beq_iff_eq.mpr c14
              have c14b1 : (t106.toList != ([] : List UInt8)) = false := bne_eq_false_iff_eq.mpr c14
              clear c14
              replace H := Option.bind_eq_some_iff.mp H
              obtain ⟨t107, A150, H⟩ := H
              replace H : (some (t103, t107)) = some (r1, r2) := H
              have A15 := Aside0.mk A150
              clear A150
              simp only [Option.some.injEq, Prod.mk.injEq] at H
              obtain ⟨rfl, rfl⟩ := H
              go_wp2_with (first | ((with_reducible refine gate_callee (f := 113) rfl ?_); refine goesL_ (some 25) rfl rfl Tryz.func113 (by kernel_rfl) rfl #[.string (a0.extract (t103 : Int).toNat a0.size)] rfl (by (try simp only [List.map_toArray, List.map_cons, List.map_nil]); first | done | rfl | (simp only [List.length_drop, List.length_take]; rfl)) ?_; (with_reducible refine (leaf_strip.calls (a0.extract (t103 : Int).toNat a0.size) t105 _ A12.out).mono ?_); rintro e w16 ⟨rfl, hb⟩; refine ⟨_, rfl, ?_⟩; have n0_ := Aside0.mk (below_step (by repeat (first | (with_reducible first | exact HB.out | apply below_alloc | apply pw_below_drewN | apply below_drew1) | exact HB.out)) hb); clear HB; have HB := n0_; clear n0_; (try clear hb); (try clear hb2); (try clear hk); (try clear hi)) | ((with_reducible refine gate_callee (f := 33) rfl ?_); refine goesL_ (some 27) rfl rfl Tryz.func33 (by kernel_rfl) rfl #[.string t105, .string (⟨#[35]⟩ : ByteArray)] rfl (by (try simp only [List.map_toArray, List.map_cons, List.map_nil]); first | done | rfl | (simp only [List.length_drop, List.length_take]; rfl)) ?_; (with_reducible refine (strings_TrimRight.calls t105 (⟨#[35]⟩ : ByteArray) t106 _ A13.out).mono ?_); rintro e w17 ⟨rfl, hb⟩; refine ⟨_, rfl, ?_⟩; have n0_ := Aside0.mk (below_step (by repeat (first | (with_reducible first | exact HB.out | apply below_alloc | apply pw_below_drewN | apply below_drew1) | exact HB.out)) hb); clear HB; have HB := n0_; clear n0_; (try clear hb); (try clear hb2); (try clear hk); (try clear hi)) | ((with_reducible refine gate_callee (f := 113) rfl ?_); refine goesL_ (some 40) rfl rfl Tryz.func113 (by kernel_rfl) rfl #[.string t106] rfl (by (try simp only [List.map_toArray, List.map_cons, List.map_nil]); first | done | rfl | (simp only [List.length_drop, List.length_take]; rfl)) ?_; (with_reducible refine (leaf_strip.calls t106 t107 _ A15.out).mono ?_); rintro e w18 ⟨rfl, hb⟩; refine ⟨_, rfl, ?_⟩; have n0_ := Aside0.mk (below_step (by repeat (first | (with_reducible first | exact HB.out | apply below_alloc | apply pw_below_drewN | apply below_drew1) | exact HB.out)) hb); clear HB; have HB := n0_; clear n0_; (try clear hb); (try clear hb2); (try clear hk); (try clear hi)))
              go_ret2
              exact ⟨by first | rfl | (simp [errW_none, errW_some] <;> rfl) | (simp [*, errW_none, errW_some] <;> rfl), by repeat (first | (with_reducible first | exact HB.out | apply below_alloc | apply pw_below_drewN | apply below_drew1) | exact HB.out)⟩
            · rw [if_neg c14] at H
              have c14b0 : (t106.toList == ([] : List UInt8)) = false := beq_eq_false_iff_ne.mpr c14
              have c14b1 : (t106.toList != ([] : List UInt8)) = true := bne_iff_ne.mpr c14
              obtain ⟨ji19, hji19⟩ : ∃ j_ : Int, (wrap64 ((t106.size : Int) - 1)) = j_ := ⟨_, rfl⟩
              replace H : (if 0 ≤ (ji19) then (if (ji19) < (t106.size : Int) then ((strings_IndexByte.f (⟨#[32, 9]⟩ : ByteArray) (bt t106 (ji19))).bind fun t108 => (if t108 ≥ 0 then ((leaf_strip.f t106).bind fun t109 => (some (t103, t109))) else (some (t103, t105)))) else (none)) else (none)) = some (r1, r2) := by first | (rw [hji19] at H; exact H) | (simp only [hji19] at H ⊢; exact H)
              (try rw [hji19] at A12)
              (try rw [hji19] at A13)
              have hji19w : (IntKind.i64.wrap ((t106.size : Int) - 1)) = ji19 := (i64_w _).trans hji19
              by_cases c20 : 0 ≤ (ji19)
              · rw [if_pos c20] at H
                have c20b0 : decide (0 ≤ (ji19)) = true := decide_eq_true c20
                clear c20
                by_cases c21 : (ji19) < (t106.size : Int)
                · rw [if_pos c21] at H
                  have c21b0 : decide ((ji19) < (t106.size : Int)) = true := decide_eq_true c21
                  clear c21
                  replace H := Option.bind_eq_some_iff.mp H
                  obtain ⟨t108, A230, H⟩ := H
                  replace H : (if t108 ≥ 0 then ((leaf_strip.f t106).bind fun t109 => (some (t103, t109))) else (some (t103, t105))) = some (r1, r2) := H
                  have A23 := Aside0.mk A230
                  clear A230
                  by_cases c24 : t108 ≥ 0
                  · rw [if_pos c24] at H
                    have c24b0 : decide (0 ≤ t108) = true := decide_eq_true c24
                    clear c24
                    replace H := Option.bind_eq_some_iff.mp H
                    obtain ⟨t109, A250, H⟩ := H
                    replace H : (some (t103, t109)) = some (r1, r2) := H
                    have A25 := Aside0.mk A250
                    clear A250
                    simp only [Option.some.injEq, Prod.mk.injEq] at H
                    obtain ⟨rfl, rfl⟩ := H
                    go_wp2_with (first | ((with_reducible refine gate_callee (f := 113) rfl ?_); refine goesL_ (some 25) rfl rfl Tryz.func113 (by kernel_rfl) rfl #[.string (a0.extract (t103 : Int).toNat a0.size)] rfl (by (try simp only [List.map_toArray, List.map_cons, List.map_nil]); first | done | rfl | (simp only [List.length_drop, List.length_take]; rfl)) ?_; (with_reducible refine (leaf_strip.calls (a0.extract (t103 : Int).toNat a0.size) t105 _ A12.out).mono ?_); rintro e w26 ⟨rfl, hb⟩; refine ⟨_, rfl, ?_⟩; have n0_ := Aside0.mk (below_step (by repeat (first | (with_reducible first | exact HB.out | apply below_alloc | apply pw_below_drewN | apply below_drew1) | exact HB.out)) hb); clear HB; have HB := n0_; clear n0_; (try clear hb); (try clear hb2); (try clear hk); (try clear hi)) | ((with_reducible refine gate_callee (f := 33) rfl ?_); refine goesL_ (some 27) rfl rfl Tryz.func33 (by kernel_rfl) rfl #[.string t105, .string (⟨#[35]⟩ : ByteArray)] rfl (by (try simp only [List.map_toArray, List.map_cons, List.map_nil]); first | done | rfl | (simp only [List.length_drop, List.length_take]; rfl)) ?_; (with_reducible refine (strings_TrimRight.calls t105 (⟨#[35]⟩ : ByteArray) t106 _ A13.out).mono ?_); rintro e w27 ⟨rfl, hb⟩; refine ⟨_, rfl, ?_⟩; have n0_ := Aside0.mk (below_step (by repeat (first | (with_reducible first | exact HB.out | apply below_alloc | apply pw_below_drewN | apply below_drew1) | exact HB.out)) hb); clear HB; have HB := n0_; clear n0_; (try clear hb); (try clear hb2); (try clear hk); (try clear hi); have p22 : 0 ≤ ((ji19) : Int) := of_decide_eq_true (by first | (with_reducible assumption) | assumption); have q22 : (ji19) < (t106.size : Int) := of_decide_eq_true (by first | (with_reducible assumption) | assumption); have hx22 := bt_at t106 (ji19); replace p22 := eq_true p22; replace q22 := eq_true q22) | (go_at_call 116; (with_reducible refine (strings_IndexByte.calls (⟨#[32, 9]⟩ : ByteArray) (bt t106 (ji19)) t108 _ A23.out).mono ?_); rintro e w' ⟨rfl, ⟨nd, rfl⟩⟩) | ((with_reducible refine gate_callee (f := 113) rfl ?_); refine goesL_ (some 40) rfl rfl Tryz.func113 (by kernel_rfl) rfl #[.string t106] rfl (by (try simp only [List.map_toArray, List.map_cons, List.map_nil]); first | done | rfl | (simp only [List.length_drop, List.length_take]; rfl)) ?_; (with_reducible refine (leaf_strip.calls t106 t109 _ A25.out).mono ?_); rintro e w28 ⟨rfl, hb⟩; refine ⟨_, rfl, ?_⟩; have n0_ := Aside0.mk (below_step (by repeat (first | (with_reducible first | exact HB.out | apply below_alloc | apply pw_below_drewN | apply below_drew1) | exact HB.out)) hb); clear HB; have HB := n0_; clear n0_; (try clear hb); (try clear hb2); (try clear hk); (try clear hi)))
                    go_ret2
                    exact ⟨by first | rfl | (simp [errW_none, errW_some] <;> rfl) | (simp only [← hji19]; first | rfl | (simp [errW_none, errW_some] <;> rfl)) | (simp [*, errW_none, errW_some] <;> rfl), by repeat (first | (with_reducible first | exact HB.out | apply below_alloc | apply pw_below_drewN | apply below_drew1) | exact HB.out)⟩
                  · rw [if_neg c24] at H
                    have c24b0 : decide (0 ≤ t108) = false := decide_eq_false c24
                    clear c24
                    simp only [Option.some.injEq, Prod.mk.injEq] at H
                    obtain ⟨rfl, rfl⟩ := H
                    go_wp2_with (first | ((with_reducible refine gate_callee (f := 113) rfl ?_); refine goesL_ (some 25) rfl rfl Tryz.func113 (by kernel_rfl) rfl #[.string (a0.extract (t103 : Int).toNat a0.size)] rfl (by (try simp only [List.map_toArray, List.map_cons, List.map_nil]); first | done | rfl | (simp only [List.length_drop, List.length_take]; rfl)) ?_; (with_reducible refine (leaf_strip.calls (a0.extract (t103 : Int).toNat a0.size) t105 _ A12.out).mono ?_); rintro e w29 ⟨rfl, hb⟩; refine ⟨_, rfl, ?_⟩; have n0_ := Aside0.mk (below_step (by repeat (first | (with_reducible first | exact HB.out | apply below_alloc | apply pw_below_drewN | apply below_drew1) | exact HB.out)) hb); clear HB; have HB := n0_; clear n0_; (try clear hb); (try clear hb2); (try clear hk); (try clear hi)) | ((with_reducible refine gate_callee (f := 33) rfl ?_); refine goesL_ (some 27) rfl rfl Tryz.func33 (by kernel_rfl) rfl #[.string t105, .string (⟨#[35]⟩ : ByteArray)] rfl (by (try simp only [List.map_toArray, List.map_cons, List.map_nil]); first | done | rfl | (simp only [List.length_drop, List.length_take]; rfl)) ?_; (with_reducible refine (strings_TrimRight.calls t105 (⟨#[35]⟩ : ByteArray) t106 _ A13.out).mono ?_); rintro e w30 ⟨rfl, hb⟩; refine ⟨_, rfl, ?_⟩; have n0_ := Aside0.mk (below_step (by repeat (first | (with_reducible first | exact HB.out | apply below_alloc | apply pw_below_drewN | apply below_drew1) | exact HB.out)) hb); clear HB; have HB := n0_; clear n0_; (try clear hb); (try clear hb2); (try clear hk); (try clear hi); have p22 : 0 ≤ ((ji19) : Int) := of_decide_eq_true (by first | (with_reducible assumption) | assumption); have q22 : (ji19) < (t106.size : Int) := of_decide_eq_true (by first | (with_reducible assumption) | assumption); have hx22 := bt_at t106 (ji19); replace p22 := eq_true p22; replace q22 := eq_true q22) | (go_at_call 116; (with_reducible refine (strings_IndexByte.calls (⟨#[32, 9]⟩ : ByteArray) (bt t106 (ji19)) t108 _ A23.out).mono ?_); rintro e w' ⟨rfl, ⟨nd, rfl⟩⟩))
                    go_ret2
                    exact ⟨by first | rfl | (simp [errW_none, errW_some] <;> rfl) | (simp only [← hji19]; first | rfl | (simp [errW_none, errW_some] <;> rfl)) | (simp [*, errW_none, errW_some] <;> rfl), by repeat (first | (with_reducible first | exact HB.out | apply below_alloc | apply pw_below_drewN | apply below_drew1) | exact HB.out)⟩
                · rw [if_neg c21] at H
                  exact absurd H (by simp)
              · rw [if_neg c20] at H
                exact absurd H (by simp)
          · rw [if_neg c11] at H
            exact absurd H (by simp)
        · rw [if_neg c10] at H
          exact absurd H (by simp)
mutual
def leaf_Marker.l0 : Nat → ByteArray → Int → Int → Option (Int × Int × Int)
  | 0, _, _, _ => none
  | k + 1, x0, x2, x4 => if x2 < (x0.size : Int) then (if 0 ≤ x2 then (if (bt x0 x2) ≥ 48 then (leaf_Marker.j1 k x0 x2 x4 (decide ((bt x0 x2) ≤ 57))) else (leaf_Marker.j1 k x0 x2 x4 false)) else (none)) else (leaf_Marker.j1 k x0 x2 x4 false)
def leaf_Marker.j1 : Nat → ByteArray → Int → Int → Bool → Option (Int × Int × Int)
  | 0, _, _, _, _ => none
  | k + 1, x0, x2, x4, x21 => if x21 = true then (if x2 = 9 then (some (0, 0, 0)) else (if 0 ≤ x2 then (if x2 < (x0.size : Int) then (leaf_Marker.l0 k x0 (wrap64 (x2 + 1)) (wrap64 ((wrap64 (10 * x4)) + (((bt x0 x2) - 48) % 256)))) else (none)) else (none))) else (if x2 > 0 then (leaf_Marker.j2 k x0 x2 x4 (⟨#[46, 41]⟩ : ByteArray)) else (leaf_Marker.j2 k x0 x2 x4 (⟨#[45, 43, 42]⟩ : ByteArray)))
def leaf_Marker.j2 : Nat → ByteArray → Int → Int → ByteArray → Option (Int × Int × Int)
  | 0, _, _, _, _ => none
  | k + 1, x0, x2, x4, x5 => if x2 = (x0.size : Int) then (some (0, 0, 0)) else (if 0 ≤ x2 then (if x2 < (x0.size : Int) then ((strings_IndexByte.f x5 (bt x0 x2)).bind fun t110 => (if t110 < 0 then (some (0, 0, 0)) else (if 0 ≤ (wrap64 (x2 + 1)) then (if (wrap64 (x2 + 1)) ≤ (x0.size : Int) then ((leaf_ends.f (x0.extract ((wrap64 (x2 + 1)) : Int).toNat x0.size)).bind fun t111 => (if t111 = true then (some (wrap64 (x2 + 1), bt x0 x2, x4)) else (some (0, 0, 0)))) else (none)) else (none)))) else (none)) else (none))
end
def leaf_Marker.f (k : Nat) (a0 : ByteArray) : Option (Int × Int × Int) := leaf_Marker.l0 k a0 0 0
theorem leaf_Marker.mono_l : ∀ k, (∀ y0 y1 y2, LeO (leaf_Marker.l0 k y0 y1 y2) (leaf_Marker.l0 (k + 1) y0 y1 y2)) ∧ (∀ y0 y1 y2 y3, LeO (leaf_Marker.j1 k y0 y1 y2 y3) (leaf_Marker.j1 (k + 1) y0 y1 y2 y3)) ∧ (∀ y0 y1 y2 y3, LeO (leaf_Marker.j2 k y0 y1 y2 y3) (leaf_Marker.j2 (k + 1) y0 y1 y2 y3))
  | 0 => ⟨fun _ _ _ r h => by simp [leaf_Marker.l0] at h, fun _ _ _ _ r h => by simp [leaf_Marker.j1] at h, fun _ _ _ _ r h => by simp [leaf_Marker.j2] at h⟩
  | k + 1 => by
    obtain ⟨ih0, ih1, ih2⟩ := leaf_Marker.mono_l k
    refine ⟨?_, ?_, ?_⟩
    · intro y0 y1 y2
      unfold leaf_Marker.l0
      repeat' first
      | (with_reducible exact ih0 _ _ _)
      | (with_reducible exact ih1 _ _ _ _)
      | (with_reducible exact ih2 _ _ _ _)
      | (with_reducible exact LeO.refl _)
      | (with_reducible exact LeO.none _)
      | (with_reducible refine LeO.ite ?_ ?_)
      | (with_reducible refine LeO.bind ?_ (fun _ => ?_))
      | exact ih0 _ _ _
      | exact ih1 _ _ _ _
      | exact ih2 _ _ _ _
      | exact LeO.none _
      | refine LeO.ite ?_ ?_
      | refine LeO.bind ?_ (fun _ => ?_)
    · intro y0 y1 y2 y3
      unfold leaf_Marker.j1
      repeat' first
      | (with_reducible exact ih0 _ _ _)
      | (with_reducible exact ih1 _ _ _ _)
      | (with_reducible exact ih2 _ _ _ _)
      | (with_reducible exact LeO.refl _)
      | (with_reducible exact LeO.none _)
      | (with_reducible refine LeO.ite ?_ ?_)
      | (with_reducible refine LeO.bind ?_ (fun _ => ?_))
      | exact ih0 _ _ _
      | exact ih1 _ _ _ _
      | exact ih2 _ _ _ _
      | exact LeO.none _
      | refine LeO.ite ?_ ?_
      | refine LeO.bind ?_ (fun _ => ?_)
    · intro y0 y1 y2 y3
      unfold leaf_Marker.j2
      repeat' first
      | (with_reducible exact ih0 _ _ _)
      | (with_reducible exact ih1 _ _ _ _)
      | (with_reducible exact ih2 _ _ _ _)
      | (with_reducible exact LeO.refl _)
      | (with_reducible exact LeO.none _)
      | (with_reducible refine LeO.ite ?_ ?_)
      | (with_reducible refine LeO.bind ?_ (fun _ => ?_))
      | exact ih0 _ _ _
      | exact ih1 _ _ _ _
      | exact ih2 _ _ _ _
      | exact LeO.none _
      | refine LeO.ite ?_ ?_
      | refine LeO.bind ?_ (fun _ => ?_)
theorem leaf_Marker.mono : ∀ a0 k, LeO (leaf_Marker.f k a0) (leaf_Marker.f (k + 1) a0) := by
  intro a0 k
  obtain ⟨ih0, ih1, ih2⟩ := leaf_Marker.mono_l k
  unfold leaf_Marker.f
  repeat' first
      | (with_reducible exact ih0 _ _ _)
      | (with_reducible exact ih1 _ _ _ _)
      | (with_reducible exact ih2 _ _ _ _)
      | (with_reducible exact LeO.refl _)
      | (with_reducible exact LeO.none _)
      | (with_reducible refine LeO.ite ?_ ?_)
      | (with_reducible refine LeO.bind ?_ (fun _ => ?_))
      | exact ih0 _ _ _
      | exact ih1 _ _ _ _
      | exact ih2 _ _ _ _
      | exact LeO.none _
      | refine LeO.ite ?_ ?_
      | refine LeO.bind ?_ (fun _ => ?_)
set_option maxHeartbeats 8000000 in
set_option maxRecDepth 100000 in
theorem leaf_Marker.calls (k : Nat) (a0 : ByteArray) (r1 : Int) (r2 : Int) (r3 : Int) (w : World) (h : leaf_Marker.f k a0 = some (r1, r2, r3)) :
    Calls Tryz.prog 121 #[.string a0] w fun e w' => e = .returned (.tuple #[.int .i64 r1, .int .u8 r2, .int .i64 r3]) ∧ Drawn0 w w' := by
  have H : (leaf_Marker.l0 k a0 0 0) = some (r1, r2, r3) := h
  clear h
  have H' := Aside0.mk H
  clear H
  go_enter Tryz.func121, Tryz.ntmps121
  go_wp2
  repeat (go_quiet (fail); try go_wp2)
  go_loopg [2, 4] k (fun kq v2 v4 w' => ∃ (x2_1 : Int) (x4_1 : Int), v2 = .int .i64 x2_1 ∧ v4 = .int .i64 x4_1 ∧ Aside0 (leaf_Marker.l0 kq a0 x2_1 x4_1 = some (r1, r2, r3)) ∧ Aside0 (kq ≤ k) ∧ Drawn0 w w')
  case atStart => exact ⟨(0), (0), (by first | rfl | (simp; done) | (simp [*]; done)), (by first | rfl | (simp; done) | (simp [*]; done)), H', ⟨Nat.le_refl _⟩, by repeat (first | exact Drawn0.refl _ | apply Drawn0.step)⟩
  case round =>
    clear H'
    try clear c1
    obtain ⟨x2_1, x4_1, rfl, rfl, HA, HK1, ⟨m1, rfl⟩⟩ := hrel
    cases gk with
    | zero => exact absurd HA.out (by simp [leaf_Marker.l0])
    | succ k1 =>
      have H := HA.out
      clear HA
      simp only [leaf_Marker.l0] at H
      have HC2 := Aside0.mk H
      clear H
      go_upto_region 1 with (fail)
      repeat (go_quiet (fail); go_upto_region 1 with (fail))
      go_cut [21] (fun v21 wc => ∃ (kq : Nat) (x21_1 : Bool), v21 = .bool x21_1 ∧ Aside0 (leaf_Marker.j1 kq a0 x2_1 x4_1 x21_1 = some (r1, r2, r3)) ∧ Aside0 (kq ≤ k1) ∧ Drawn0 w wc)
      case first =>
        have H := HC2.out
        clear HC2
        by_cases c3 : x2_1 < (a0.size : Int)
        · rw [if_pos c3] at H
          have c3b0 : decide (x2_1 < (a0.size : Int)) = true := decide_eq_true c3
          clear c3
          (first | rw [c3b0] | (simp only [i64_w, i32_w]; rw [c3b0]) | skip)
          by_cases c4 : 0 ≤ x2_1
          · rw [if_pos c4] at H
            have c4b0 : decide (0 ≤ x2_1) = true := decide_eq_true c4
            clear c4
            by_cases c6 : (bt a0 x2_1) ≥ 48
            · rw [if_pos c6] at H
              have c6b0 : decide (48 ≤ (bt a0 x2_1)) = true := decide_eq_true c6
              clear c6
              have H' := Aside0.mk H
              clear H
              have p5 : 0 ≤ (x2_1 : Int) := of_decide_eq_true (by first | (with_reducible assumption) | assumption)
              have q5 : x2_1 < (a0.size : Int) := of_decide_eq_true (by first | (with_reducible assumption) | assumption)
              have hx5 := bt_at a0 x2_1
              replace p5 := eq_true p5
              replace q5 := eq_true q5
              have p7 : 0 ≤ (x2_1 : Int) := of_decide_eq_true (by first | (with_reducible assumption) | assumption)
              have q7 : x2_1 < (a0.size : Int) := of_decide_eq_true (by first | (with_reducible assumption) | assumption)
              have hx7 := bt_at a0 x2_1
              replace p7 := eq_true p7
              replace q7 := eq_true q7
              go_wp2
              repeat (go_quiet (fail); try go_wp2)
              go_meet
              case rel => exact ⟨_, (decide ((bt a0 x2_1) ≤ 57)), (by first | rfl | (simp; done) | (simp [*]; done)), H', ⟨by have := HK1.out; first | omega | exact Nat.le_refl _⟩, by repeat (first | exact Drawn0.refl _ | apply Drawn0.step)⟩
            · rw [if_neg c6] at H
              have c6b0 : decide (48 ≤ (bt a0 x2_1)) = false := decide_eq_false c6
              clear c6
              have H' := Aside0.mk H
              clear H
              have p5 : 0 ≤ (x2_1 : Int) := of_decide_eq_true (by first | (with_reducible assumption) | assumption)
              have q5 : x2_1 < (a0.size : Int) := of_decide_eq_true (by first | (with_reducible assumption) | assumption)
              have hx5 := bt_at a0 x2_1
              replace p5 := eq_true p5
              replace q5 := eq_true q5
              go_wp2
              repeat (go_quiet (fail); try go_wp2)
              go_meet
              case rel => exact ⟨_, (false), (by first | rfl | (simp; done) | (simp [*]; done)), H', ⟨by have := HK1.out; first | omega | exact Nat.le_refl _⟩, by repeat (first | exact Drawn0.refl _ | apply Drawn0.step)⟩
          · rw [if_neg c4] at H
            exact absurd H (by simp)
        · rw [if_neg c3] at H
          have c3b0 : decide (x2_1 < (a0.size : Int)) = false := decide_eq_false c3
          clear c3
          (first | rw [c3b0] | (simp only [i64_w, i32_w]; rw [c3b0]) | skip)
          have H' := Aside0.mk H
          clear H
          go_wp2
          repeat (go_quiet (fail); try go_wp2)
          go_meet
          case rel => exact ⟨_, (false), (by first | rfl | (simp; done) | (simp [*]; done)), H', ⟨by have := HK1.out; first | omega | exact Nat.le_refl _⟩, by repeat (first | exact Drawn0.refl _ | apply Drawn0.step)⟩
      case rest =>
        clear HC2
        try clear c1
        try clear p2
        try clear c3
        try clear c3b0
        try clear c4
        try clear c4b0
        try clear p5
        try clear q5
        try clear hx5
        try clear c6
        try clear c6b0
        try clear p7
        try clear q7
        try clear hx7
        try clear p5
        try clear p7
        try clear q5
        try clear q7
        obtain ⟨kq, x21_1, rfl, HA, HJ1, ⟨mc1, rfl⟩⟩ := hcut
        cases kq with
        | zero => exact absurd HA.out (by simp [leaf_Marker.j1])
        | succ kj1 =>
          have H := HA.out
          clear HA
          simp only [leaf_Marker.j1] at H
          by_cases c8 : x21_1 = true
          · subst c8
            have H1 : (if x2_1 = 9 then (some (0, 0, 0)) else (if 0 ≤ x2_1 then (if x2_1 < (a0.size : Int) then (leaf_Marker.l0 kj1 a0 (wrap64 (x2_1 + 1)) (wrap64 ((wrap64 (10 * x4_1)) + (((bt a0 x2_1) - 48) % 256)))) else (none)) else (none))) = some (r1, r2, r3) := by rw [if_pos rfl] at H; exact H
            clear H
            have H := H1
            clear H1
            by_cases c9 : x2_1 = 9
            · rw [if_pos c9] at H
              have c9b0 : (x2_1 == 9) = true := beq_iff_eq.mpr c9
              have c9b1 : (x2_1 != 9) = false := bne_eq_false_iff_eq.mpr c9
              clear c9
              simp only [Option.some.injEq, Prod.mk.injEq] at H
              obtain ⟨rfl, rfl, rfl⟩ := H
              go_wp2
              repeat (go_quiet (fail); try go_wp2)
              go_ret3
              exact ⟨by first | rfl | (simp; done) | (simp [*]; done), by repeat (first | exact Drawn0.refl _ | apply Drawn0.step)⟩
            · rw [if_neg c9] at H
              have c9b0 : (x2_1 == 9) = false := beq_eq_false_iff_ne.mpr c9
              have c9b1 : (x2_1 != 9) = true := bne_iff_ne.mpr c9
              by_cases c10 : 0 ≤ x2_1
              · rw [if_pos c10] at H
                have c10b0 : decide (0 ≤ x2_1) = true := decide_eq_true c10
                clear c10
                by_cases c11 : x2_1 < (a0.size : Int)
                · rw [if_pos c11] at H
                  have c11b0 : decide (x2_1 < (a0.size : Int)) = true := decide_eq_true c11
                  clear c11
                  have H' := Aside0.mk H
                  clear H
                  have p12 : 0 ≤ (x2_1 : Int) := of_decide_eq_true (by first | (with_reducible assumption) | assumption)
                  have q12 : x2_1 < (a0.size : Int) := of_decide_eq_true (by first | (with_reducible assumption) | assumption)
                  have hx12 := bt_at a0 x2_1
                  replace p12 := eq_true p12
                  replace q12 := eq_true q12
                  go_wp2
                  repeat (go_quiet (fail); try go_wp2)
                  go_roundg kj1
                  case measure => have := HK1.out; have := HJ1.out; omega
                  case rel => exact ⟨(wrap64 (x2_1 + 1)), (wrap64 ((wrap64 (10 * x4_1)) + (((bt a0 x2_1) - 48) % 256))), (by first | rfl | (simp; done) | (simp [*]; done)), (by first | rfl | (simp; done) | (simp [*]; done)), H', ⟨by have := HK1.out; have := HJ1.out; omega⟩, by repeat (first | exact Drawn0.refl _ | apply Drawn0.step)⟩
                · rw [if_neg c11] at H
                  exact absurd H (by simp)
              · rw [if_neg c10] at H
                exact absurd H (by simp)
          · replace c8 := Bool.eq_false_iff.mpr c8
            subst c8
            have H1 : (if x2_1 > 0 then (leaf_Marker.j2 kj1 a0 x2_1 x4_1 (⟨#[46, 41]⟩ : ByteArray)) else (leaf_Marker.j2 kj1 a0 x2_1 x4_1 (⟨#[45, 43, 42]⟩ : ByteArray))) = some (r1, r2, r3) := by rw [if_neg (show ¬ (false = true) by decide)] at H; exact H
            clear H
            have H := H1
            clear H1
            have HC13 := Aside0.mk H
            clear H
            go_upto_if 35 with (fail)
            repeat (go_quiet (fail); go_upto_if 35 with (fail))
            go_cut [5] (fun v5 wc => ∃ (kq : Nat) (x5_12 : ByteArray), v5 = .string x5_12 ∧ Aside0 (leaf_Marker.j2 kq a0 x2_1 x4_1 x5_12 = some (r1, r2, r3)) ∧ Aside0 (kq ≤ kj1) ∧ Drawn0 w wc)
            case first =>
              have H := HC13.out
              clear HC13
              by_cases c14 : x2_1 > 0
              · rw [if_pos c14] at H
                have c14b0 : decide (0 < x2_1) = true := decide_eq_true c14
                clear c14
                (first | rw [c14b0] | (simp only [i64_w, i32_w]; rw [c14b0]) | skip)
                have H' := Aside0.mk H
                clear H
                go_wp2
                repeat (go_quiet (fail); try go_wp2)
                go_meet
                case rel => exact ⟨_, ((⟨#[46, 41]⟩ : ByteArray)), (by first | rfl | (simp; done) | (simp [*]; done)), H', ⟨by have := HK1.out; have := HJ1.out; first | omega | exact Nat.le_refl _⟩, by repeat (first | exact Drawn0.refl _ | apply Drawn0.step)⟩
              · rw [if_neg c14] at H
                have c14b0 : decide (0 < x2_1) = false := decide_eq_false c14
                clear c14
                (first | rw [c14b0] | (simp only [i64_w, i32_w]; rw [c14b0]) | skip)
                have H' := Aside0.mk H
                clear H
                go_wp2
                repeat (go_quiet (fail); try go_wp2)
                go_meet
                case rel => exact ⟨_, ((⟨#[45, 43, 42]⟩ : ByteArray)), (by first | rfl | (simp; done) | (simp [*]; done)), H', ⟨by have := HK1.out; have := HJ1.out; first | omega | exact Nat.le_refl _⟩, by repeat (first | exact Drawn0.refl _ | apply Drawn0.step)⟩
            case rest =>
              clear HC13
              try clear c1
              try clear p1
              try clear q1
              try clear hx1
              try clear p2
              try clear c3
              try clear c3b0
              try clear c4
              try clear c4b0
              try clear p5
              try clear q5
              try clear hx5
              try clear c6
              try clear c6b0
              try clear p6
              try clear p7
              try clear q7
              try clear hx7
              try clear c8
              try clear c9
              try clear c9b0
              try clear c9b1
              try clear c10
              try clear c10b0
              try clear c11
              try clear c11b0
              try clear c12
              try clear p12
              try clear q12
              try clear hx12
              try clear c14
              try clear c14b0
              try clear p12
              try clear p2
              try clear p5
              try clear p7
              try clear q12
              try clear q5
              try clear q7
              obtain ⟨kq, x5_12, rfl, HA, HJ12, ⟨mc12, rfl⟩⟩ := hcut
              cases kq with
              | zero => exact absurd HA.out (by simp [leaf_Marker.j2])
              | succ kj12 =>
                have H := HA.out
                clear HA
                simp only [leaf_Marker.j2] at H
                by_cases c15 : x2_1 = (a0.size : Int)
                · rw [if_pos c15] at H
                  have c15b0 : (x2_1 == (a0.size : Int)) = true := beq_iff_eq.mpr c15
                  have c15b1 : (x2_1 != (a0.size : Int)) = false := bne_eq_false_iff_eq.mpr c15
                  clear c15
                  simp only [Option.some.injEq, Prod.mk.injEq] at H
                  obtain ⟨rfl, rfl, rfl⟩ := H
                  go_wp2
                  repeat (go_quiet (fail); try go_wp2)
                  go_ret3
                  exact ⟨by first | rfl | (simp; done) | (simp [*]; done), by repeat (first | exact Drawn0.refl _ | apply Drawn0.step)⟩
                · rw [if_neg c15] at H
                  have c15b0 : (x2_1 == (a0.size : Int)) = false := beq_eq_false_iff_ne.mpr c15
                  have c15b1 : (x2_1 != (a0.size : Int)) = true := bne_iff_ne.mpr c15
                  by_cases c16 : 0 ≤ x2_1
                  · rw [if_pos c16] at H
                    have c16b0 : decide (0 ≤ x2_1) = true := decide_eq_true c16
                    clear c16
                    by_cases c17 : x2_1 < (a0.size : Int)
                    · rw [if_pos c17] at H
                      have c17b0 : decide (x2_1 < (a0.size : Int)) = true := decide_eq_true c17
                      clear c17
                      replace H := Option.bind_eq_some_iff.mp H
                      obtain ⟨t110, A190, H⟩ := H
                      replace H : (if t110 < 0 then (some (0, 0, 0)) else (if 0 ≤ (wrap64 (x2_1 + 1)) then (if (wrap64 (x2_1 + 1)) ≤ (a0.size : Int) then ((leaf_ends.f (a0.extract ((wrap64 (x2_1 + 1)) : Int).toNat a0.size)).bind fun t111 => (if t111 = true then (some (wrap64 (x2_1 + 1), bt a0 x2_1, x4_1)) else (some (0, 0, 0)))) else (none)) else (none))) = some (r1, r2, r3) := H
                      have A19 := Aside0.mk A190
                      clear A190
                      by_cases c20 : t110 < 0
                      · rw [if_pos c20] at H
                        have c20b0 : decide (t110 < 0) = true := decide_eq_true c20
                        clear c20
                        simp only [Option.some.injEq, Prod.mk.injEq] at H
                        obtain ⟨rfl, rfl, rfl⟩ := H
                        have p18 : 0 ≤ (x2_1 : Int) := of_decide_eq_true (by first | (with_reducible assumption) | assumption)
                        have q18 : x2_1 < (a0.size : Int) := of_decide_eq_true (by first | (with_reducible assumption) | assumption)
                        have hx18 := bt_at a0 x2_1
                        replace p18 := eq_true p18
                        replace q18 := eq_true q18
                        go_wp2_with (first | (go_at_call 116; (with_reducible refine (strings_IndexByte.calls x5_12 (bt a0 x2_1) t110 _ A19.out).mono ?_); rintro e w' ⟨rfl, ⟨nd, rfl⟩⟩; (try first | exact ⟨rfl, _, World.drewN_drewN _ _ _⟩ | exact ⟨rfl, _, Eq.trans (World.drewN_drewN _ _ _) (congrArg (World.drewN _) (Nat.add_assoc _ _ _))⟩)))
                        repeat (go_quiet (first | (go_at_call 116; (with_reducible refine (strings_IndexByte.calls x5_12 (bt a0 x2_1) t110 _ A19.out).mono ?_); rintro e w' ⟨rfl, ⟨nd, rfl⟩⟩; (try first | exact ⟨rfl, _, World.drewN_drewN _ _ _⟩ | exact ⟨rfl, _, Eq.trans (World.drewN_drewN _ _ _) (congrArg (World.drewN _) (Nat.add_assoc _ _ _))⟩))); try go_wp2_with (first | (go_at_call 116; (with_reducible refine (strings_IndexByte.calls x5_12 (bt a0 x2_1) t110 _ A19.out).mono ?_); rintro e w' ⟨rfl, ⟨nd, rfl⟩⟩; (try first | exact ⟨rfl, _, World.drewN_drewN _ _ _⟩ | exact ⟨rfl, _, Eq.trans (World.drewN_drewN _ _ _) (congrArg (World.drewN _) (Nat.add_assoc _ _ _))⟩))))
                        go_ret3
                        exact ⟨by first | rfl | (simp; done) | (simp [*]; done), by repeat (first | exact Drawn0.refl _ | apply Drawn0.step)⟩
                      · rw [if_neg c20] at H
                        have c20b0 : decide (t110 < 0) = false := decide_eq_false c20
                        clear c20
                        obtain ⟨ji21, hji21⟩ : ∃ j_ : Int, (wrap64 (x2_1 + 1)) = j_ := ⟨_, rfl⟩
                        replace H : (if 0 ≤ (ji21) then (if (ji21) ≤ (a0.size : Int) then ((leaf_ends.f (a0.extract ((ji21) : Int).toNat a0.size)).bind fun t111 => (if t111 = true then (some (ji21, bt a0 x2_1, x4_1)) else (some (0, 0, 0)))) else (none)) else (none)) = some (r1, r2, r3) := by first | (rw [hji21] at H; exact H) | (simp only [hji21] at H ⊢; exact H)
                        (try rw [hji21] at A19)
                        have hji21w : (IntKind.i64.wrap (x2_1 + 1)) = ji21 := (i64_w _).trans hji21
                        by_cases c22 : 0 ≤ (ji21)
                        · rw [if_pos c22] at H
                          have c22b0 := eq_true c22
                          have c22b1 : decide (0 ≤ (ji21)) = true := decide_eq_true c22
                          clear c22
                          by_cases c23 : (ji21) ≤ (a0.size : Int)
                          · rw [if_pos c23] at H
                            have c23b0 := eq_true c23
                            have c23b1 : decide ((ji21) ≤ (a0.size : Int)) = true := decide_eq_true c23
                            clear c23
                            replace H := Option.bind_eq_some_iff.mp H
                            obtain ⟨t111, A240, H⟩ := H
                            replace H : (if t111 = true then (some (ji21, bt a0 x2_1, x4_1)) else (some (0, 0, 0))) = some (r1, r2, r3) := H
                            have A24 := Aside0.mk A240
                            clear A240
                            by_cases c25 : t111 = true
                            · subst c25
                              have H1 : (some (ji21, bt a0 x2_1, x4_1)) = some (r1, r2, r3) := by rw [if_pos rfl] at H; exact H
                              clear H
                              have H := H1
                              clear H1
                              simp only [Option.some.injEq, Prod.mk.injEq] at H
                              obtain ⟨rfl, rfl, rfl⟩ := H
                              have p18 : 0 ≤ (x2_1 : Int) := of_decide_eq_true (by first | (with_reducible assumption) | assumption)
                              have q18 : x2_1 < (a0.size : Int) := of_decide_eq_true (by first | (with_reducible assumption) | assumption)
                              have hx18 := bt_at a0 x2_1
                              replace p18 := eq_true p18
                              replace q18 := eq_true q18
                              go_wp2_with (first | (go_at_call 116; (with_reducible refine (strings_IndexByte.calls x5_12 (bt a0 x2_1) t110 _ A19.out).mono ?_); rintro e w' ⟨rfl, ⟨nd, rfl⟩⟩; (try first | exact ⟨rfl, _, World.drewN_drewN _ _ _⟩ | exact ⟨rfl, _, Eq.trans (World.drewN_drewN _ _ _) (congrArg (World.drewN _) (Nat.add_assoc _ _ _))⟩)) | (go_at_call 115; (with_reducible refine (leaf_ends.calls (a0.extract ((ji21) : Int).toNat a0.size) true _ A24.out).mono ?_); rintro e w' ⟨rfl, ⟨nd, rfl⟩⟩; (try first | exact ⟨rfl, _, World.drewN_drewN _ _ _⟩ | exact ⟨rfl, _, Eq.trans (World.drewN_drewN _ _ _) (congrArg (World.drewN _) (Nat.add_assoc _ _ _))⟩); have p26 : 0 ≤ (x2_1 : Int) := of_decide_eq_true (by first | (with_reducible assumption) | assumption); have q26 : x2_1 < (a0.size : Int) := of_decide_eq_true (by first | (with_reducible assumption) | assumption); have hx26 := bt_at a0 x2_1; replace p26 := eq_true p26; replace q26 := eq_true q26))
                              repeat (go_quiet (first | (go_at_call 116; (with_reducible refine (strings_IndexByte.calls x5_12 (bt a0 x2_1) t110 _ A19.out).mono ?_); rintro e w' ⟨rfl, ⟨nd, rfl⟩⟩; (try first | exact ⟨rfl, _, World.drewN_drewN _ _ _⟩ | exact ⟨rfl, _, Eq.trans (World.drewN_drewN _ _ _) (congrArg (World.drewN _) (Nat.add_assoc _ _ _))⟩)) | (go_at_call 115; (with_reducible refine (leaf_ends.calls (a0.extract ((ji21) : Int).toNat a0.size) true _ A24.out).mono ?_); rintro e w' ⟨rfl, ⟨nd, rfl⟩⟩; (try first | exact ⟨rfl, _, World.drewN_drewN _ _ _⟩ | exact ⟨rfl, _, Eq.trans (World.drewN_drewN _ _ _) (congrArg (World.drewN _) (Nat.add_assoc _ _ _))⟩); have p26 : 0 ≤ (x2_1 : Int) := of_decide_eq_true (by first | (with_reducible assumption) | assumption); have q26 : x2_1 < (a0.size : Int) := of_decide_eq_true (by first | (with_reducible assumption) | assumption); have hx26 := bt_at a0 x2_1; replace p26 := eq_true p26; replace q26 := eq_true q26)); try go_wp2_with (first | (go_at_call 116; (with_reducible refine (strings_IndexByte.calls x5_12 (bt a0 x2_1) t110 _ A19.out).mono ?_); rintro e w' ⟨rfl, ⟨nd, rfl⟩⟩; (try first | exact ⟨rfl, _, World.drewN_drewN _ _ _⟩ | exact ⟨rfl, _, Eq.trans (World.drewN_drewN _ _ _) (congrArg (World.drewN _) (Nat.add_assoc _ _ _))⟩)) | (go_at_call 115; (with_reducible refine (leaf_ends.calls (a0.extract ((ji21) : Int).toNat a0.size) true _ A24.out).mono ?_); rintro e w' ⟨rfl, ⟨nd, rfl⟩⟩; (try first | exact ⟨rfl, _, World.drewN_drewN _ _ _⟩ | exact ⟨rfl, _, Eq.trans (World.drewN_drewN _ _ _) (congrArg (World.drewN _) (Nat.add_assoc _ _ _))⟩); have p26 : 0 ≤ (x2_1 : Int) := of_decide_eq_true (by first | (with_reducible assumption) | assumption); have q26 : x2_1 < (a0.size : Int) := of_decide_eq_true (by first | (with_reducible assumption) | assumption); have hx26 := bt_at a0 x2_1; replace p26 := eq_true p26; replace q26 := eq_true q26)))
                              go_ret3
                              exact ⟨by first | rfl | (simp; done) | (simp only [← hji21] <;> (first | rfl | simp)) | (simp [*]; done), by repeat (first | exact Drawn0.refl _ | apply Drawn0.step)⟩
                            · replace c25 := Bool.eq_false_iff.mpr c25
                              subst c25
                              have H1 : (some (0, 0, 0)) = some (r1, r2, r3) := by rw [if_neg (show ¬ (false = true) by decide)] at H; exact H
                              clear H
                              have H := H1
                              clear H1
                              simp only [Option.some.injEq, Prod.mk.injEq] at H
                              obtain ⟨rfl, rfl, rfl⟩ := H
                              have p18 : 0 ≤ (x2_1 : Int) := of_decide_eq_true (by first | (with_reducible assumption) | assumption)
                              have q18 : x2_1 < (a0.size : Int) := of_decide_eq_true (by first | (with_reducible assumption) | assumption)
                              have hx18 := bt_at a0 x2_1
                              replace p18 := eq_true p18
                              replace q18 := eq_true q18
                              go_wp2_with (first | (go_at_call 116; (with_reducible refine (strings_IndexByte.calls x5_12 (bt a0 x2_1) t110 _ A19.out).mono ?_); rintro e w' ⟨rfl, ⟨nd, rfl⟩⟩; (try first | exact ⟨rfl, _, World.drewN_drewN _ _ _⟩ | exact ⟨rfl, _, Eq.trans (World.drewN_drewN _ _ _) (congrArg (World.drewN _) (Nat.add_assoc _ _ _))⟩)) | (go_at_call 115; (with_reducible refine (leaf_ends.calls (a0.extract ((ji21) : Int).toNat a0.size) false _ A24.out).mono ?_); rintro e w' ⟨rfl, ⟨nd, rfl⟩⟩; (try first | exact ⟨rfl, _, World.drewN_drewN _ _ _⟩ | exact ⟨rfl, _, Eq.trans (World.drewN_drewN _ _ _) (congrArg (World.drewN _) (Nat.add_assoc _ _ _))⟩)))
                              repeat (go_quiet (first | (go_at_call 116; (with_reducible refine (strings_IndexByte.calls x5_12 (bt a0 x2_1) t110 _ A19.out).mono ?_); rintro e w' ⟨rfl, ⟨nd, rfl⟩⟩; (try first | exact ⟨rfl, _, World.drewN_drewN _ _ _⟩ | exact ⟨rfl, _, Eq.trans (World.drewN_drewN _ _ _) (congrArg (World.drewN _) (Nat.add_assoc _ _ _))⟩)) | (go_at_call 115; (with_reducible refine (leaf_ends.calls (a0.extract ((ji21) : Int).toNat a0.size) false _ A24.out).mono ?_); rintro e w' ⟨rfl, ⟨nd, rfl⟩⟩; (try first | exact ⟨rfl, _, World.drewN_drewN _ _ _⟩ | exact ⟨rfl, _, Eq.trans (World.drewN_drewN _ _ _) (congrArg (World.drewN _) (Nat.add_assoc _ _ _))⟩))); try go_wp2_with (first | (go_at_call 116; (with_reducible refine (strings_IndexByte.calls x5_12 (bt a0 x2_1) t110 _ A19.out).mono ?_); rintro e w' ⟨rfl, ⟨nd, rfl⟩⟩; (try first | exact ⟨rfl, _, World.drewN_drewN _ _ _⟩ | exact ⟨rfl, _, Eq.trans (World.drewN_drewN _ _ _) (congrArg (World.drewN _) (Nat.add_assoc _ _ _))⟩)) | (go_at_call 115; (with_reducible refine (leaf_ends.calls (a0.extract ((ji21) : Int).toNat a0.size) false _ A24.out).mono ?_); rintro e w' ⟨rfl, ⟨nd, rfl⟩⟩; (try first | exact ⟨rfl, _, World.drewN_drewN _ _ _⟩ | exact ⟨rfl, _, Eq.trans (World.drewN_drewN _ _ _) (congrArg (World.drewN _) (Nat.add_assoc _ _ _))⟩))))
                              go_ret3
                              exact ⟨by first | rfl | (simp; done) | (simp only [← hji21] <;> (first | rfl | simp)) | (simp [*]; done), by repeat (first | exact Drawn0.refl _ | apply Drawn0.step)⟩
                          · rw [if_neg c23] at H
                            exact absurd H (by simp)
                        · rw [if_neg c22] at H
                          exact absurd H (by simp)
                    · rw [if_neg c17] at H
                      exact absurd H (by simp)
                  · rw [if_neg c16] at H
                    exact absurd H (by simp)
end Go.Proofs.YtpimcdkhjingjaaGreatDoor.PLeaf
namespace Go.Proofs.YtpimcdkhjingjaaGreatDoor.PLeaf
open Go.RowKit Go.Proofs.YtpimcdkhjingjaaGreatDoorW.PrintWords Go.Proofs.YtpimcdkhjingjaaGreatDoorW.PrintLast Go.Proofs.YtpimcdkhjingjaaGreatDoorW.PrintMore Go.Proofs.YtpimcdkhjingjaaGreatDoor.X
attribute [local go_sem] max2_int min2_int max_two min_two max_three min_three max_four min_four
set_option linter.unusedVariables false
set_option linter.unusedSimpArgs false
def leaf_Ends.f (k : Nat) (a0 : ByteArray) (a1 : Int) (a2 : Int) : Option (Bool) := (leaf_run.f k a0 a1).bind fun t112 => (if t112 ≥ (mx 1 a2) then (if 0 ≤ t112 then (if t112 ≤ (a0.size : Int) then ((leaf_strip.f (a0.extract (t112 : Int).toNat a0.size)).bind fun t113 => (some (t113.toList == ([] : List UInt8)))) else (none)) else (none)) else (some false))
theorem leaf_Ends.mono : ∀ a0 a1 a2 k, LeO (leaf_Ends.f k a0 a1 a2) (leaf_Ends.f (k + 1) a0 a1 a2) := by
  intro a0 a1 a2 k
  unfold leaf_Ends.f
  repeat' first
      | (with_reducible exact leaf_run.mono _ _ _)
      | (with_reducible exact LeO.refl _)
      | (with_reducible exact LeO.none _)
      | (with_reducible refine LeO.ite ?_ ?_)
      | (with_reducible refine LeO.bind ?_ (fun _ => ?_))
      | exact leaf_run.mono _ _ _
      | exact LeO.none _
      | refine LeO.ite ?_ ?_
      | refine LeO.bind ?_ (fun _ => ?_)
set_option maxHeartbeats 8000000 in
set_option maxRecDepth 100000 in
theorem leaf_Ends.calls (k : Nat) (a0 : ByteArray) (a1 : Int) (a2 : Int) (r : Bool) (w : World) (h : leaf_Ends.f k a0 a1 a2 = some r) :
    Calls Tryz.prog 84 #[.string a0, .int .u8 a1, .int .i64 a2] w fun e w' => e = .returned (.bool r) ∧ Below w.heap.size w w' := by
  have HB := Aside0.mk (Below.refl w.heap.size w)
  have H : ((leaf_run.f k a0 a1).bind fun t112 => (if t112 ≥ (mx 1 a2) then (if 0 ≤ t112 then (if t112 ≤ (a0.size : Int) then ((leaf_strip.f (a0.extract (t112 : Int).toNat a0.size)).bind fun t113 => (some (t113.toList == ([] : List UInt8)))) else (none)) else (none)) else (some false))) = some r := h
  clear h
  replace H := Option.bind_eq_some_iff.mp H
  obtain ⟨t112, A40, H⟩ := H
  replace H : (if t112 ≥ (mx 1 a2) then (if 0 ≤ t112 then (if t112 ≤ (a0.size : Int) then ((leaf_strip.f (a0.extract (t112 : Int).toNat a0.size)).bind fun t113 => (some (t113.toList == ([] : List UInt8)))) else (none)) else (none)) else (some false)) = some r := H
  have A4 := Aside0.mk A40
  clear A40
  obtain ⟨ji5, hji5⟩ : ∃ j_ : Int, (mx 1 a2) = j_ := ⟨_, rfl⟩
  replace H : (if t112 ≥ (ji5) then (if 0 ≤ t112 then (if t112 ≤ (a0.size : Int) then ((leaf_strip.f (a0.extract (t112 : Int).toNat a0.size)).bind fun t113 => (some (t113.toList == ([] : List UInt8)))) else (none)) else (none)) else (some false)) = some r := by first | (rw [hji5] at H; exact H) | (simp only [hji5] at H ⊢; exact H)
  (try rw [hji5] at A4)
  (try (have hji5l : 1 ≤ ji5 := by (rw [← hji5]; unfold mx; (repeat' split) <;> omega)))
  (try (have hji5m : 0 ≤ ji5 := by omega))
  have hji5_ : (if 1 < a2 then a2 else 1) = ji5 := hji5
  by_cases c6 : t112 ≥ (ji5)
  · rw [if_pos c6] at H
    have c6b0 : decide ((ji5) ≤ t112) = true := decide_eq_true c6
    clear c6
    by_cases c7 : 0 ≤ t112
    · rw [if_pos c7] at H
      have c7b0 := eq_true c7
      have c7b1 : decide (0 ≤ t112) = true := decide_eq_true c7
      clear c7
      by_cases c8 : t112 ≤ (a0.size : Int)
      · rw [if_pos c8] at H
        have c8b0 := eq_true c8
        have c8b1 : decide (t112 ≤ (a0.size : Int)) = true := decide_eq_true c8
        clear c8
        replace H := Option.bind_eq_some_iff.mp H
        obtain ⟨t113, A90, H⟩ := H
        replace H : (some (t113.toList == ([] : List UInt8))) = some r := H
        have A9 := Aside0.mk A90
        clear A90
        obtain rfl := Option.some.inj H
        go_enter Tryz.func84, Tryz.ntmps84
        go_wp2_with (first | ((with_reducible refine gate_callee (f := 112) rfl ?_); refine goesL_ (some 10) rfl rfl Tryz.func112 (by kernel_rfl) rfl #[.string a0, .int .u8 a1] rfl (by (try simp only [List.map_toArray, List.map_cons, List.map_nil]); first | done | rfl | (simp only [List.length_drop, List.length_take]; rfl)) ?_; (with_reducible refine (leaf_run.calls k a0 a1 t112 _ A4.out).mono ?_); rintro e w' ⟨rfl, ⟨nd, rfl⟩⟩; refine ⟨_, rfl, ?_⟩) | (go_at_call 113; (with_reducible refine (leaf_strip.calls (a0.extract (t112 : Int).toNat a0.size) t113 _ A9.out).mono ?_); rintro e w10 ⟨rfl, hb⟩; have n0_ := Aside0.mk (below_step (by repeat (first | (with_reducible first | exact HB.out | apply below_alloc | apply pw_below_drewN | apply below_drew1) | exact HB.out)) hb); clear HB; have HB := n0_; clear n0_; (try clear hb); (try clear hb2); (try clear hk); (try clear hi)))
        go_ret
        exact ⟨by first | rfl | (simp [errW_none, errW_some] <;> rfl) | (simp only [← hji5]; first | rfl | (simp [errW_none, errW_some] <;> rfl)) | (simp [*, errW_none, errW_some] <;> rfl), by repeat (first | (with_reducible first | exact HB.out | apply below_alloc | apply pw_below_drewN | apply below_drew1) | exact HB.out)⟩
      · rw [if_neg c8] at H
        exact absurd H (by simp)
    · rw [if_neg c7] at H
      exact absurd H (by simp)
  · rw [if_neg c6] at H
    have c6b0 : decide ((ji5) ≤ t112) = false := decide_eq_false c6
    clear c6
    obtain rfl := Option.some.inj H
    go_enter Tryz.func84, Tryz.ntmps84
    go_wp2_with (first | ((with_reducible refine gate_callee (f := 112) rfl ?_); refine goesL_ (some 10) rfl rfl Tryz.func112 (by kernel_rfl) rfl #[.string a0, .int .u8 a1] rfl (by (try simp only [List.map_toArray, List.map_cons, List.map_nil]); first | done | rfl | (simp only [List.length_drop, List.length_take]; rfl)) ?_; (with_reducible refine (leaf_run.calls k a0 a1 t112 _ A4.out).mono ?_); rintro e w' ⟨rfl, ⟨nd, rfl⟩⟩; refine ⟨_, rfl, ?_⟩))
    go_ret
    exact ⟨by first | rfl | (simp [errW_none, errW_some] <;> rfl) | (simp only [← hji5]; first | rfl | (simp [errW_none, errW_some] <;> rfl)) | (simp [*, errW_none, errW_some] <;> rfl), by repeat (first | (with_reducible first | exact HB.out | apply below_alloc | apply pw_below_drewN | apply below_drew1) | exact HB.out)⟩
def leaf_Ends.Pure : Prop := ∀ (a0 : ByteArray) (a1 : Int) (a2 : Int), a0.size ≤ 140737488351232 → (Lit.int .u8 a1).wf = true → (Lit.int .i64 a2).wf = true → ∃ k, leaf_Ends.f k a0 a1 a2 = some true
def leaf_Rule.j0 : Nat → ByteArray → Bool → Option (Bool)
  | 0, _, _ => none
  | k + 1, x0, x10 => if x10 = true then (some false) else (if 0 ≤ 1 then (if 1 ≤ (x0.size : Int) then ((strings_Count.f x0 (x0.extract 0 1)).bind fun t115 => (if t115 ≥ 3 then (if 2 + (x0.extract 0 1).size ≤ 9223372036854775807 then ((leaf_cutLeft.f x0 ((⟨#[32, 9]⟩ : ByteArray) ++ (x0.extract 0 1))).bind fun t116 => ((leaf_cutRight.f t116 ((⟨#[32, 9]⟩ : ByteArray) ++ (x0.extract 0 1))).bind fun t117 => (some (t117.toList == ([] : List UInt8))))) else (none)) else (some false))) else (none)) else (none))
def leaf_Rule.f (k : Nat) (a0 : ByteArray) : Option (Bool) := if a0.toList = ([] : List UInt8) then (leaf_Rule.j0 k a0 true) else (if 0 < (a0.size : Int) then ((strings_IndexByte.f (⟨#[42, 45, 95]⟩ : ByteArray) (bt a0 0)).bind fun t114 => (leaf_Rule.j0 k a0 (decide (t114 < 0)))) else (none))
theorem leaf_Rule.mono_l : ∀ k, (∀ y0 y1, LeO (leaf_Rule.j0 k y0 y1) (leaf_Rule.j0 (k + 1) y0 y1))
  | 0 => fun _ _ r h => by simp [leaf_Rule.j0] at h
  | k + 1 => by
    have ih0 := leaf_Rule.mono_l k
    · intro y0 y1
      unfold leaf_Rule.j0
      repeat' first
      | (with_reducible exact ih0 _ _)
      | (with_reducible exact LeO.refl _)
      | (with_reducible exact LeO.none _)
      | (with_reducible refine LeO.ite ?_ ?_)
      | (with_reducible refine LeO.bind ?_ (fun _ => ?_))
      | exact ih0 _ _
      | exact LeO.none _
      | refine LeO.ite ?_ ?_
      | refine LeO.bind ?_ (fun _ => ?_)
theorem leaf_Rule.mono : ∀ a0 k, LeO (leaf_Rule.f k a0) (leaf_Rule.f (k + 1) a0) := by
  intro a0 k
  have ih0 := leaf_Rule.mono_l k
  unfold leaf_Rule.f
  repeat' first
      | (with_reducible exact ih0 _ _)
      | (with_reducible exact LeO.refl _)
      | (with_reducible exact LeO.none _)
      | (with_reducible refine LeO.ite ?_ ?_)
      | (with_reducible refine LeO.bind ?_ (fun _ => ?_))
      | exact ih0 _ _
      | exact LeO.none _
      | refine LeO.ite ?_ ?_
      | refine LeO.bind ?_ (fun _ => ?_)
def leaf_Rule.T3 : Bool × List (List Nat × List Nat) := (true, [([], []), ([], []), ([1], [1]), ([0, 2], [0, 2]), ([3], [3]), ([4, 3], [4]), ([5], [5]), ([5], [5]), ([7, 5], [5, 7]), ([8, 5], [5, 8]), ([6, 9, 5, 5], [5, 6, 9]), ([5], [5]), ([11, 5], [5, 11]), ([12, 5], [5, 12]), ([10, 13, 10, 5], [5, 10, 13]), ([14, 5], [5, 14]), ([5, 15], [5, 15]), ([16, 14, 0, 1, 2, 3, 4, 5, 6, 7, 8, 9, 10, 11, 12, 13, 14, 15, 16], [16])])
def leaf_Rule.B3 : List Nat := [0, 0, 2, 7, 15, 31, 63, 63, 191, 447, 1023, 63, 2111, 6207, 16383, 32767, 65535, 131071]
theorem leaf_Rule.tab3 : rtab .any (opsOf Tryz.f92 3) = leaf_Rule.T3 := by kernel_rfl
theorem leaf_Rule.bits3 : waitsOk leaf_Rule.T3.2 leaf_Rule.B3 = true := by kernel_rfl
set_option maxHeartbeats 8000000 in
set_option maxRecDepth 100000 in
theorem leaf_Rule.calls (k : Nat) (a0 : ByteArray) (r : Bool) (w : World) (hG : GL w) (h : leaf_Rule.f k a0 = some r) :
    Calls Tryz.prog 92 #[.string a0] w fun e w' => e = .returned (.bool r) ∧ Below w.heap.size w w' := by
  have HB := Aside0.mk (Below.refl w.heap.size w)
  have H : (if a0.toList = ([] : List UInt8) then (leaf_Rule.j0 k a0 true) else (if 0 < (a0.size : Int) then ((strings_IndexByte.f (⟨#[42, 45, 95]⟩ : ByteArray) (bt a0 0)).bind fun t114 => (leaf_Rule.j0 k a0 (decide (t114 < 0)))) else (none))) = some r := h
  clear h
  have HC2 := Aside0.mk H
  clear H
  go_enter Tryz.func92, Tryz.ntmps92
  go_upto_region 1 with (fail)
  go_cut [10] (fun v10 wc => ∃ (kq : Nat) (x10_1 : Bool), v10 = .bool x10_1 ∧ Aside0 (leaf_Rule.j0 kq a0 x10_1 = some r) ∧ Aside0 (kq ≤ k) ∧ Aside0 (Below w.heap.size w wc))
  case first =>
    have H := HC2.out
    clear HC2
    by_cases c3 : a0.toList = ([] : List UInt8)
    · rw [if_pos c3] at H
      have c3b0 : (a0.toList == ([] : List UInt8)) = true := beq_iff_eq.mpr c3
      have c3b1 : (a0.toList != ([] : List UInt8)) = false := bne_eq_false_iff_eq.mpr c3
      clear c3
      (first | rw [c3b0] | (simp only [i64_w, i32_w]; rw [c3b0]) | skip)
      have H' := Aside0.mk H
      clear H
      go_wp2
      go_meet
      case rel => exact ⟨_, (true), (by first | rfl | (simp; done) | (simp [*]; done)), H', ⟨by first | omega | exact Nat.le_refl _⟩, ⟨by repeat (first | (with_reducible first | exact HB.out | apply below_alloc | apply pw_below_drewN | apply below_drew1) | exact HB.out)⟩⟩
    · rw [if_neg c3] at H
      have c3b0 : (a0.toList == ([] : List UInt8)) = false := beq_eq_false_iff_ne.mpr c3
      have c3b1 : (a0.toList != ([] : List UInt8)) = true := bne_iff_ne.mpr c3
      (first | rw [c3b0] | (simp only [i64_w, i32_w]; rw [c3b0]) | skip)
      by_cases c4 : 0 < (a0.size : Int)
      · rw [if_pos c4] at H
        have c4b0 : decide (0 < (a0.size : Int)) = true := decide_eq_true c4
        have c4b1 : decide (0 < a0.size) = true := decide_eq_true (by omega)
        clear c4
        replace H := Option.bind_eq_some_iff.mp H
        obtain ⟨t114, A60, H⟩ := H
        replace H : (leaf_Rule.j0 k a0 (decide (t114 < 0))) = some r := H
        have A6 := Aside0.mk A60
        clear A60
        have H' := Aside0.mk H
        clear H
        have p5 : 0 ≤ (0 : Int) := (by omega)
        have q5 : 0 < a0.size := (by have : (0 : Int) < (a0.size : Int) := of_decide_eq_true (by first | (with_reducible assumption) | assumption); omega)
        have hx5 : ∀ h : 0 < a0.size, ((a0[0]'h).toNat : Int) = bt a0 0 := bt_at a0 0
        clear p5
        have qi5 : (0 < (a0.size : Int)) = True := eq_true (of_decide_eq_true (by first | (with_reducible assumption) | assumption))
        replace q5 := eq_true q5
        go_wp2_with (first | (go_at_call 116; (with_reducible refine (strings_IndexByte.calls (⟨#[42, 45, 95]⟩ : ByteArray) (bt a0 0) t114 _ A6.out).mono ?_); rintro e w' ⟨rfl, ⟨nd, rfl⟩⟩))
        go_meet
        case rel => exact ⟨_, (decide (t114 < 0)), (by first | rfl | (simp; done) | (simp [*]; done)), H', ⟨by first | omega | exact Nat.le_refl _⟩, ⟨by repeat (first | (with_reducible first | exact HB.out | apply below_alloc | apply pw_below_drewN | apply below_drew1) | exact HB.out)⟩⟩
      · rw [if_neg c4] at H
        exact absurd H (by simp)
  case rest =>
    clear HC2
    try clear p2
    try clear c3
    try clear c3b0
    try clear c3b1
    try clear c4
    try clear c4b0
    try clear c4b1
    try clear p5
    try clear q5
    try clear hx5
    try clear qi5
    try clear p5
    try clear q5
    obtain ⟨kq, x10_1, rfl, HA, HJ1, HB⟩ := hcut
    cases kq with
    | zero => exact absurd HA.out (by simp [leaf_Rule.j0])
    | succ kj1 =>
      have H := HA.out
      clear HA
      simp only [leaf_Rule.j0] at H
      by_cases c7 : x10_1 = true
      · subst c7
        have H1 : (some false) = some r := by rw [if_pos rfl] at H; exact H
        clear H
        have H := H1
        clear H1
        obtain rfl := Option.some.inj H
        go_wp2
        go_ret
        exact ⟨by first | rfl | (simp [errW_none, errW_some] <;> rfl) | (simp [*, errW_none, errW_some] <;> rfl), by repeat (first | (with_reducible first | exact HB.out | apply below_alloc | apply pw_below_drewN | apply below_drew1) | exact HB.out)⟩
      · replace c7 := Bool.eq_false_iff.mpr c7
        subst c7
        have H1 : (if 0 ≤ 1 then (if 1 ≤ (a0.size : Int) then ((strings_Count.f a0 (a0.extract 0 1)).bind fun t115 => (if t115 ≥ 3 then (if 2 + (a0.extract 0 1).size ≤ 9223372036854775807 then ((leaf_cutLeft.f a0 ((⟨#[32, 9]⟩ : ByteArray) ++ (a0.extract 0 1))).bind fun t116 => ((leaf_cutRight.f t116 ((⟨#[32, 9]⟩ : ByteArray) ++ (a0.extract 0 1))).bind fun t117 => (some (t117.toList == ([] : List UInt8))))) else (none)) else (some false))) else (none)) else (none)) = some r := by rw [if_neg (show ¬ (false = true) by decide)] at H; exact H
        clear H
        have H := H1
        clear H1
        by_cases c8 : 0 ≤ 1
        · rw [if_pos c8] at H
          have c8b0 := eq_true c8
          have c8b1 : decide (0 ≤ 1) = true := decide_eq_true c8
          clear c8
          by_cases c9 : 1 ≤ (a0.size : Int)
          · rw [if_pos c9] at H
            have c9b0 := eq_true c9
            have c9b1 : decide (1 ≤ (a0.size : Int)) = true := decide_eq_true c9
            clear c9
            replace H := Option.bind_eq_some_iff.mp H
            obtain ⟨t115, A100, H⟩ := H
            replace H : (if t115 ≥ 3 then (if 2 + (a0.extract 0 1).size ≤ 9223372036854775807 then ((leaf_cutLeft.f a0 ((⟨#[32, 9]⟩ : ByteArray) ++ (a0.extract 0 1))).bind fun t116 => ((leaf_cutRight.f t116 ((⟨#[32, 9]⟩ : ByteArray) ++ (a0.extract 0 1))).bind fun t117 => (some (t117.toList == ([] : List UInt8))))) else (none)) else (some false)) = some r := H
            have A10 := Aside0.mk A100
            clear A100
            by_cases c11 : t115 ≥ 3
            · rw [if_pos c11] at H
              have c11b0 : decide (3 ≤ t115) = true := decide_eq_true c11
              clear c11
              have c12b0 := eq_true (of_decide_eq_true (by first | (with_reducible assumption) | assumption) : 0 ≤ 1)
              have c13b0 := eq_true (of_decide_eq_true (by first | (with_reducible assumption) | assumption) : 1 ≤ (a0.size : Int))
              by_cases c14 : 2 + (a0.extract 0 1).size ≤ 9223372036854775807
              · rw [if_pos c14] at H
                have c14k := Aside0.mk c14
                have c14y := c14
                clear c14
                (try simp [*, min_lit5] at c14y)
                (try (have c14z := lim_false c14y))
                (try clear c14y)
                have c14 := c14k.out
                clear c14k
                have c14b0 := eq_true c14
                have c14b1 : decide (2 + (a0.extract 0 1).size ≤ 9223372036854775807) = true := decide_eq_true c14
                try have c14b2 : (9223372036854775807 < 2 + (a0.extract 0 1).size) = False := eq_false (Nat.not_lt.2 c14)
                replace H := Option.bind_eq_some_iff.mp H
                obtain ⟨t116, A150, H⟩ := H
                replace H : ((leaf_cutRight.f t116 ((⟨#[32, 9]⟩ : ByteArray) ++ (a0.extract 0 1))).bind fun t117 => (some (t117.toList == ([] : List UInt8)))) = some r := H
                have A15 := Aside0.mk A150
                clear A150
                have c16b0 := eq_true (of_decide_eq_true (by first | (with_reducible assumption) | assumption) : 0 ≤ 1)
                have c17b0 := eq_true (of_decide_eq_true (by first | (with_reducible assumption) | assumption) : 1 ≤ (a0.size : Int))
                replace H := Option.bind_eq_some_iff.mp H
                obtain ⟨t117, A180, H⟩ := H
                replace H : (some (t117.toList == ([] : List UInt8))) = some r := H
                have A18 := Aside0.mk A180
                clear A180
                obtain rfl := Option.some.inj H
                try go_wp2
                have n0_ := Aside0.mk (below_drew1 HB.out)
                clear HB
                have HB := n0_
                clear n0_
                refine start_ (n := 18) (S := fun w' => True) (ds := []) #[false, false, false, false, false, false, false, false, false, false, false, false, false, false, false, false, false, false] (by kernel_rfl) rfl rfl trivial (fun hHeld => ?_); refine with_tabW leaf_Rule.tab3 leaf_Rule.bits3 (fun HT_ HW_ => ?_)
                generalize wc.drew = w19 at HB hHeld ⊢
                refine pure_ (i := 0) (N := some 11) (v := ?_) (a' := ?_) #[true, false, false, false, false, false, false, false, false, false, false, false, false, false, false, false, false, false] rfl rfl (any_of HT_.out (by kernel_rfl)) (fun _ _ _ h => h) (Or.inl ⟨by rfl, ?_⟩) ?_ ?_
                rotate_left
                · intro w'
                  go_simp
                  with_reducible rfl
                rotate_left
                · simp only [Act.put, List.setIfInBounds_toArray, List.set_cons_zero, List.set_cons_succ, i64_w, i32_w]
                  rfl
                refine pure_ (i := 1) (N := some 12) (v := ?_) (a' := ?_) #[true, true, false, false, false, false, false, false, false, false, false, false, false, false, false, false, false, false] rfl rfl (any_of HT_.out (by kernel_rfl)) (fun _ _ _ h => h) (Or.inl ⟨by rfl, ?_⟩) ?_ ?_
                rotate_left
                · intro w'
                  go_simp
                  with_reducible rfl
                rotate_left
                · simp only [Act.put, List.setIfInBounds_toArray, List.set_cons_zero, List.set_cons_succ, i64_w, i32_w]
                  rfl
                refine pure_ (i := 2) (N := some 13) (v := ?_) (a' := ?_) #[true, true, true, false, false, false, false, false, false, false, false, false, false, false, false, false, false, false] rfl rfl (any_of HT_.out (by kernel_rfl)) (fun _ _ _ h => h) (Or.inl ⟨by rfl, ?_⟩) ?_ ?_
                rotate_left
                · intro w'
                  go_simp
                  with_reducible rfl
                rotate_left
                · simp only [Act.put, List.setIfInBounds_toArray, List.set_cons_zero, List.set_cons_succ, i64_w, i32_w]
                  rfl
                refine one_ (i := 3) (N := some 14) #[true, true, true, true, false, false, false, false, false, false, false, false, false, false, false, false, false, false] rfl rfl (one_of HT_.out (by kernel_rfl)) (by decide) (fun K hK => ?_)
                refine goes_ Tryz.func118 (by kernel_rfl) rfl #[.string a0, .string (a0.extract 0 1)] (by rfl) rfl rfl (by (try simp only [List.map_toArray, List.map_cons, List.map_nil]); first | done | rfl | (simp only [List.length_drop, List.length_take]; rfl)) ?_
                with_reducible refine (strings_Count.calls a0 (a0.extract 0 1) t115 _ A10.out).mono ?_
                rintro e w' ⟨rfl, ⟨nd, rfl⟩⟩
                refine ⟨_, rfl, ?_⟩
                refine hK.out _ _ trivial (fun hHeld => ?_)
                clear hK K
                refine norm_ (a' := ?_) ?_ ?_
                rotate_left
                · show Act.put _ (some 14) _ = _
                  simp only [Act.put, List.setIfInBounds_toArray, List.set_cons_zero, List.set_cons_succ, i64_w, i32_w]
                  rfl
                refine pure_ (i := 4) (N := some 15) (v := ?_) (a' := ?_) #[true, true, true, true, true, false, false, false, false, false, false, false, false, false, false, false, false, false] rfl rfl (any_of HT_.out (by kernel_rfl)) (fun _ _ _ h => h) (Or.inl ⟨by rfl, ?_⟩) ?_ ?_
                rotate_left
                · intro w'
                  go_simp
                  with_reducible rfl
                rotate_left
                · simp only [Act.put, List.setIfInBounds_toArray, List.set_cons_zero, List.set_cons_succ, i64_w, i32_w]
                  rfl
                refine pure_ (i := 5) (N := some 16) (v := ?_) (a' := ?_) #[true, true, true, true, true, true, false, false, false, false, false, false, false, false, false, false, false, false] rfl rfl (any_of HT_.out (by kernel_rfl)) (fun _ _ _ h => h) (Or.inl ⟨by rfl, ?_⟩) ?_ ?_
                rotate_left
                · intro w'
                  go_simp
                  with_reducible rfl
                rotate_left
                · simp only [Act.put, List.setIfInBounds_toArray, List.set_cons_zero, List.set_cons_succ, i64_w, i32_w]
                  rfl
                refine pure_ (i := 6) (N := some 17) (v := ?_) (a' := ?_) #[true, true, true, true, true, true, true, false, false, false, false, false, false, false, false, false, false, false] rfl rfl (any_of HT_.out (by kernel_rfl)) (fun _ _ _ h => h) (Or.inl ⟨by rfl, ?_⟩) ?_ ?_
                rotate_left
                · intro w'
                  go_simp
                  with_reducible rfl
                rotate_left
                · simp only [Act.put, List.setIfInBounds_toArray, List.set_cons_zero, List.set_cons_succ, i64_w, i32_w]
                  rfl
                refine pure_ (i := 7) (N := some 18) (v := ?_) (a' := ?_) #[true, true, true, true, true, true, true, true, false, false, false, false, false, false, false, false, false, false] rfl rfl (any_of HT_.out (by kernel_rfl)) (fun _ _ _ h => h) (Or.inl ⟨by rfl, ?_⟩) ?_ ?_
                rotate_left
                · intro w'
                  go_simp
                  with_reducible rfl
                rotate_left
                · simp only [Act.put, List.setIfInBounds_toArray, List.set_cons_zero, List.set_cons_succ, i64_w, i32_w]
                  rfl
                refine pure_ (i := 8) (N := some 19) (v := ?_) (a' := ?_) #[true, true, true, true, true, true, true, true, true, false, false, false, false, false, false, false, false, false] rfl rfl (any_of HT_.out (by kernel_rfl)) (fun _ _ _ h => h) (Or.inl ⟨by rfl, ?_⟩) ?_ ?_
                rotate_left
                · intro w'
                  go_simp
                  with_reducible rfl
                rotate_left
                · simp only [Act.put, List.setIfInBounds_toArray, List.set_cons_zero, List.set_cons_succ, i64_w, i32_w]
                  rfl
                refine pure_ (i := 9) (N := some 20) (v := ?_) (a' := ?_) #[true, true, true, true, true, true, true, true, true, true, false, false, false, false, false, false, false, false] rfl rfl (any_of HT_.out (by kernel_rfl)) (fun _ _ _ h => h) (Or.inl ⟨by rfl, ?_⟩) ?_ ?_
                rotate_left
                · intro w'
                  go_simp
                  with_reducible rfl
                rotate_left
                · simp only [Act.put, List.setIfInBounds_toArray, List.set_cons_zero, List.set_cons_succ, i64_w, i32_w]
                  rfl
                refine pure_ (i := 11) (N := some 22) (v := ?_) (a' := ?_) #[true, true, true, true, true, true, true, true, true, true, false, true, false, false, false, false, false, false] rfl rfl (any_of HT_.out (by kernel_rfl)) (fun _ _ _ h => h) (Or.inl ⟨by rfl, ?_⟩) ?_ ?_
                rotate_left
                · intro w'
                  go_simp
                  with_reducible rfl
                rotate_left
                · simp only [Act.put, List.setIfInBounds_toArray, List.set_cons_zero, List.set_cons_succ, i64_w, i32_w]
                  rfl
                refine pure_ (i := 12) (N := some 23) (v := ?_) (a' := ?_) #[true, true, true, true, true, true, true, true, true, true, false, true, true, false, false, false, false, false] rfl rfl (any_of HT_.out (by kernel_rfl)) (fun _ _ _ h => h) (Or.inl ⟨by rfl, ?_⟩) ?_ ?_
                rotate_left
                · intro w'
                  go_simp
                  with_reducible rfl
                rotate_left
                · simp only [Act.put, List.setIfInBounds_toArray, List.set_cons_zero, List.set_cons_succ, i64_w, i32_w]
                  rfl
                refine pure_ (i := 13) (N := some 24) (v := ?_) (a' := ?_) #[true, true, true, true, true, true, true, true, true, true, false, true, true, true, false, false, false, false] rfl rfl (any_of HT_.out (by kernel_rfl)) (fun _ _ _ h => h) (Or.inl ⟨by rfl, ?_⟩) ?_ ?_
                rotate_left
                · intro w'
                  go_simp
                  with_reducible rfl
                rotate_left
                · simp only [Act.put, List.setIfInBounds_toArray, List.set_cons_zero, List.set_cons_succ, i64_w, i32_w]
                  rfl
                refine one_ (i := 10) (N := some 21) #[true, true, true, true, true, true, true, true, true, true, true, true, true, true, false, false, false, false] rfl rfl (one_of HT_.out (by kernel_rfl)) (by decide) (fun K hK => ?_)
                refine goes_ Tryz.func120 (by kernel_rfl) rfl #[.string a0, .string ((⟨#[32, 9]⟩ : ByteArray) ++ (a0.extract 0 1))] (by rfl) rfl rfl (by (try simp only [List.map_toArray, List.map_cons, List.map_nil]); first | done | rfl | (simp only [List.length_drop, List.length_take]; rfl)) ?_
                with_reducible refine (leaf_cutLeft.calls a0 ((⟨#[32, 9]⟩ : ByteArray) ++ (a0.extract 0 1)) t116 _ A15.out).mono ?_
                rintro e w20 ⟨rfl, hb⟩
                refine ⟨_, rfl, ?_⟩
                have n0_ := Aside0.mk (below_step (by repeat (first | (with_reducible first | exact HB.out | apply below_alloc | apply pw_below_drewN | apply below_drew1) | exact HB.out)) hb)
                clear HB
                have HB := n0_
                clear n0_
                (try clear hb)
                (try clear hb2)
                (try clear hk)
                (try clear hi)
                refine hK.out _ _ trivial (fun hHeld => ?_)
                clear hK K
                refine norm_ (a' := ?_) ?_ ?_
                rotate_left
                · show Act.put _ (some 21) _ = _
                  simp only [Act.put, List.setIfInBounds_toArray, List.set_cons_zero, List.set_cons_succ, i64_w, i32_w]
                  rfl
                refine one_ (i := 14) (N := some 25) #[true, true, true, true, true, true, true, true, true, true, true, true, true, true, true, false, false, false] rfl rfl (one_of HT_.out (by kernel_rfl)) (by decide) (fun K hK => ?_)
                refine goes_ Tryz.func119 (by kernel_rfl) rfl #[.string t116, .string ((⟨#[32, 9]⟩ : ByteArray) ++ (a0.extract 0 1))] (by rfl) rfl rfl (by (try simp only [List.map_toArray, List.map_cons, List.map_nil]); first | done | rfl | (simp only [List.length_drop, List.length_take]; rfl)) ?_
                with_reducible refine (leaf_cutRight.calls t116 ((⟨#[32, 9]⟩ : ByteArray) ++ (a0.extract 0 1)) t117 _ ?side1 A18.out).mono ?_
                (case side1 => first | (with_reducible exact hG) | (refine GL.below hG ?_; (repeat (first | (with_reducible first | exact HB.out | apply below_alloc | apply pw_below_drewN | apply below_drew1) | exact HB.out)); done) | (refine GL.drawn hG ?_; (repeat (first | exact Drawn0.refl _ | apply Drawn0.step)); done) | exact hG)
                rintro e w21 ⟨rfl, hb⟩
                refine ⟨_, rfl, ?_⟩
                have n0_ := Aside0.mk (below_step (by repeat (first | (with_reducible first | exact HB.out | apply below_alloc | apply pw_below_drewN | apply below_drew1) | exact HB.out)) hb)
                clear HB
                have HB := n0_
                clear n0_
                (try clear hb)
                (try clear hb2)
                (try clear hk)
                (try clear hi)
                refine hK.out _ _ trivial (fun hHeld => ?_)
                clear hK K
                refine norm_ (a' := ?_) ?_ ?_
                rotate_left
                · show Act.put _ (some 25) _ = _
                  simp only [Act.put, List.setIfInBounds_toArray, List.set_cons_zero, List.set_cons_succ, i64_w, i32_w]
                  rfl
                refine pure_ (i := 15) (N := some 26) (v := ?_) (a' := ?_) #[true, true, true, true, true, true, true, true, true, true, true, true, true, true, true, true, false, false] rfl rfl (any_of HT_.out (by kernel_rfl)) (fun _ _ _ h => h) (Or.inl ⟨by rfl, ?_⟩) ?_ ?_
                rotate_left
                · intro w'
                  go_simp
                  with_reducible rfl
                rotate_left
                · simp only [Act.put, List.setIfInBounds_toArray, List.set_cons_zero, List.set_cons_succ, i64_w, i32_w]
                  rfl
                refine pure_ (i := 16) (N := some 27) (v := ?_) (a' := ?_) #[true, true, true, true, true, true, true, true, true, true, true, true, true, true, true, true, true, false] rfl rfl (any_of HT_.out (by kernel_rfl)) (fun _ _ _ h => h) (Or.inl ⟨by rfl, ?_⟩) ?_ ?_
                rotate_left
                · intro w'
                  go_simp
                  with_reducible rfl
                rotate_left
                · simp only [Act.put, List.setIfInBounds_toArray, List.set_cons_zero, List.set_cons_succ, i64_w, i32_w]
                  rfl
                refine pure_ (i := 17) (N := some 2) (v := ?_) (a' := ?_) #[true, true, true, true, true, true, true, true, true, true, true, true, true, true, true, true, true, true] rfl rfl (any_of HT_.out (by kernel_rfl)) (fun _ _ _ h => h) (Or.inl ⟨by rfl, ?_⟩) ?_ ?_
                rotate_left
                · intro w'
                  go_simp
                  with_reducible rfl
                rotate_left
                · simp only [Act.put, List.setIfInBounds_toArray, List.set_cons_zero, List.set_cons_succ, i64_w, i32_w]
                  rfl
                refine done_ (done_of HT_.out (by kernel_rfl)) ?_
                try go_wp2
                go_ret
                exact ⟨by first | rfl | (simp [errW_none, errW_some] <;> rfl) | (simp [*, errW_none, errW_some] <;> rfl), by repeat (first | (with_reducible first | exact HB.out | apply below_alloc | apply pw_below_drewN | apply below_drew1) | exact HB.out)⟩
              · rw [if_neg c14] at H
                exact absurd H (by simp)
            · rw [if_neg c11] at H
              have c11b0 : decide (3 ≤ t115) = false := decide_eq_false c11
              clear c11
              obtain rfl := Option.some.inj H
              try go_wp2
              have n0_ := Aside0.mk (below_drew1 HB.out)
              clear HB
              have HB := n0_
              clear n0_
              refine start_ (n := 18) (S := fun w' => True) (ds := []) #[false, false, false, false, false, false, false, false, false, false, false, false, false, false, false, false, false, false] (by kernel_rfl) rfl rfl trivial (fun hHeld => ?_); refine with_tabW leaf_Rule.tab3 leaf_Rule.bits3 (fun HT_ HW_ => ?_)
              generalize wc.drew = w22 at HB hHeld ⊢
              refine pure_ (i := 0) (N := some 11) (v := ?_) (a' := ?_) #[true, false, false, false, false, false, false, false, false, false, false, false, false, false, false, false, false, false] rfl rfl (any_of HT_.out (by kernel_rfl)) (fun _ _ _ h => h) (Or.inl ⟨by rfl, ?_⟩) ?_ ?_
              rotate_left
              · intro w'
                go_simp
                with_reducible rfl
              rotate_left
              · simp only [Act.put, List.setIfInBounds_toArray, List.set_cons_zero, List.set_cons_succ, i64_w, i32_w]
                rfl
              refine pure_ (i := 1) (N := some 12) (v := ?_) (a' := ?_) #[true, true, false, false, false, false, false, false, false, false, false, false, false, false, false, false, false, false] rfl rfl (any_of HT_.out (by kernel_rfl)) (fun _ _ _ h => h) (Or.inl ⟨by rfl, ?_⟩) ?_ ?_
              rotate_left
              · intro w'
                go_simp
                with_reducible rfl
              rotate_left
              · simp only [Act.put, List.setIfInBounds_toArray, List.set_cons_zero, List.set_cons_succ, i64_w, i32_w]
                rfl
              refine pure_ (i := 2) (N := some 13) (v := ?_) (a' := ?_) #[true, true, true, false, false, false, false, false, false, false, false, false, false, false, false, false, false, false] rfl rfl (any_of HT_.out (by kernel_rfl)) (fun _ _ _ h => h) (Or.inl ⟨by rfl, ?_⟩) ?_ ?_
              rotate_left
              · intro w'
                go_simp
                with_reducible rfl
              rotate_left
              · simp only [Act.put, List.setIfInBounds_toArray, List.set_cons_zero, List.set_cons_succ, i64_w, i32_w]
                rfl
              refine one_ (i := 3) (N := some 14) #[true, true, true, true, false, false, false, false, false, false, false, false, false, false, false, false, false, false] rfl rfl (one_of HT_.out (by kernel_rfl)) (by decide) (fun K hK => ?_)
              refine goes_ Tryz.func118 (by kernel_rfl) rfl #[.string a0, .string (a0.extract 0 1)] (by rfl) rfl rfl (by (try simp only [List.map_toArray, List.map_cons, List.map_nil]); first | done | rfl | (simp only [List.length_drop, List.length_take]; rfl)) ?_
              with_reducible refine (strings_Count.calls a0 (a0.extract 0 1) t115 _ A10.out).mono ?_
              rintro e w' ⟨rfl, ⟨nd, rfl⟩⟩
              refine ⟨_, rfl, ?_⟩
              refine hK.out _ _ trivial (fun hHeld => ?_)
              clear hK K
              refine norm_ (a' := ?_) ?_ ?_
              rotate_left
              · show Act.put _ (some 14) _ = _
                simp only [Act.put, List.setIfInBounds_toArray, List.set_cons_zero, List.set_cons_succ, i64_w, i32_w]
                rfl
              refine pure_ (i := 4) (N := some 15) (v := ?_) (a' := ?_) #[true, true, true, true, true, false, false, false, false, false, false, false, false, false, false, false, false, false] rfl rfl (any_of HT_.out (by kernel_rfl)) (fun _ _ _ h => h) (Or.inl ⟨by rfl, ?_⟩) ?_ ?_
              rotate_left
              · intro w'
                go_simp
                with_reducible rfl
              rotate_left
              · simp only [Act.put, List.setIfInBounds_toArray, List.set_cons_zero, List.set_cons_succ, i64_w, i32_w]
                rfl
              refine pure_ (i := 5) (N := some 16) (v := ?_) (a' := ?_) #[true, true, true, true, true, true, false, false, false, false, false, false, false, false, false, false, false, false] rfl rfl (any_of HT_.out (by kernel_rfl)) (fun _ _ _ h => h) (Or.inl ⟨by rfl, ?_⟩) ?_ ?_
              rotate_left
              · intro w'
                go_simp
                with_reducible rfl
              rotate_left
              · simp only [Act.put, List.setIfInBounds_toArray, List.set_cons_zero, List.set_cons_succ, i64_w, i32_w]
                rfl
              refine pure_ (i := 6) (N := some 17) (v := undef) (a' := ?_) #[true, true, true, true, true, true, true, false, false, false, false, false, false, false, false, false, false, false] rfl rfl (any_of HT_.out (by kernel_rfl)) (fun _ _ _ h => h) (Or.inr ⟨by rfl, rfl⟩) ?_ ?_
              rotate_left
              · simp only [Act.put, List.setIfInBounds_toArray, List.set_cons_zero, List.set_cons_succ, i64_w, i32_w]
                rfl
              refine pure_ (i := 7) (N := some 18) (v := undef) (a' := ?_) #[true, true, true, true, true, true, true, true, false, false, false, false, false, false, false, false, false, false] rfl rfl (any_of HT_.out (by kernel_rfl)) (fun _ _ _ h => h) (Or.inr ⟨by rfl, rfl⟩) ?_ ?_
              rotate_left
              · simp only [Act.put, List.setIfInBounds_toArray, List.set_cons_zero, List.set_cons_succ, i64_w, i32_w]
                rfl
              refine pure_ (i := 8) (N := some 19) (v := undef) (a' := ?_) #[true, true, true, true, true, true, true, true, true, false, false, false, false, false, false, false, false, false] rfl rfl (any_of HT_.out (by kernel_rfl)) (fun _ _ _ h => h) (Or.inr ⟨by rfl, rfl⟩) ?_ ?_
              rotate_left
              · simp only [Act.put, List.setIfInBounds_toArray, List.set_cons_zero, List.set_cons_succ, i64_w, i32_w]
                rfl
              refine pure_ (i := 9) (N := some 20) (v := undef) (a' := ?_) #[true, true, true, true, true, true, true, true, true, true, false, false, false, false, false, false, false, false] rfl rfl (any_of HT_.out (by kernel_rfl)) (fun _ _ _ h => h) (Or.inr ⟨by rfl, rfl⟩) ?_ ?_
              rotate_left
              · simp only [Act.put, List.setIfInBounds_toArray, List.set_cons_zero, List.set_cons_succ, i64_w, i32_w]
                rfl
              refine pure_ (i := 10) (N := some 21) (v := undef) (a' := ?_) #[true, true, true, true, true, true, true, true, true, true, true, false, false, false, false, false, false, false] rfl rfl (any_of HT_.out (by kernel_rfl)) (fun _ _ _ h => h) (Or.inr ⟨by rfl, rfl⟩) ?_ ?_
              rotate_left
              · simp only [Act.put, List.setIfInBounds_toArray, List.set_cons_zero, List.set_cons_succ, i64_w, i32_w]
                rfl
              refine pure_ (i := 11) (N := some 22) (v := undef) (a' := ?_) #[true, true, true, true, true, true, true, true, true, true, true, true, false, false, false, false, false, false] rfl rfl (any_of HT_.out (by kernel_rfl)) (fun _ _ _ h => h) (Or.inr ⟨by rfl, rfl⟩) ?_ ?_
              rotate_left
              · simp only [Act.put, List.setIfInBounds_toArray, List.set_cons_zero, List.set_cons_succ, i64_w, i32_w]
                rfl
              refine pure_ (i := 12) (N := some 23) (v := undef) (a' := ?_) #[true, true, true, true, true, true, true, true, true, true, true, true, true, false, false, false, false, false] rfl rfl (any_of HT_.out (by kernel_rfl)) (fun _ _ _ h => h) (Or.inr ⟨by rfl, rfl⟩) ?_ ?_
              rotate_left
              · simp only [Act.put, List.setIfInBounds_toArray, List.set_cons_zero, List.set_cons_succ, i64_w, i32_w]
                rfl
              refine pure_ (i := 13) (N := some 24) (v := undef) (a' := ?_) #[true, true, true, true, true, true, true, true, true, true, true, true, true, true, false, false, false, false] rfl rfl (any_of HT_.out (by kernel_rfl)) (fun _ _ _ h => h) (Or.inr ⟨by rfl, rfl⟩) ?_ ?_
              rotate_left
              · simp only [Act.put, List.setIfInBounds_toArray, List.set_cons_zero, List.set_cons_succ, i64_w, i32_w]
                rfl
              refine pure_ (i := 14) (N := some 25) (v := undef) (a' := ?_) #[true, true, true, true, true, true, true, true, true, true, true, true, true, true, true, false, false, false] rfl rfl (any_of HT_.out (by kernel_rfl)) (fun _ _ _ h => h) (Or.inr ⟨by rfl, rfl⟩) ?_ ?_
              rotate_left
              · simp only [Act.put, List.setIfInBounds_toArray, List.set_cons_zero, List.set_cons_succ, i64_w, i32_w]
                rfl
              refine pure_ (i := 15) (N := some 26) (v := undef) (a' := ?_) #[true, true, true, true, true, true, true, true, true, true, true, true, true, true, true, true, false, false] rfl rfl (any_of HT_.out (by kernel_rfl)) (fun _ _ _ h => h) (Or.inr ⟨by rfl, rfl⟩) ?_ ?_
              rotate_left
              · simp only [Act.put, List.setIfInBounds_toArray, List.set_cons_zero, List.set_cons_succ, i64_w, i32_w]
                rfl
              refine pure_ (i := 16) (N := some 27) (v := ?_) (a' := ?_) #[true, true, true, true, true, true, true, true, true, true, true, true, true, true, true, true, true, false] rfl rfl (any_of HT_.out (by kernel_rfl)) (fun _ _ _ h => h) (Or.inl ⟨by rfl, ?_⟩) ?_ ?_
              rotate_left
              · intro w'
                go_simp
                with_reducible rfl
              rotate_left
              · simp only [Act.put, List.setIfInBounds_toArray, List.set_cons_zero, List.set_cons_succ, i64_w, i32_w]
                rfl
              refine pure_ (i := 17) (N := some 2) (v := ?_) (a' := ?_) #[true, true, true, true, true, true, true, true, true, true, true, true, true, true, true, true, true, true] rfl rfl (any_of HT_.out (by kernel_rfl)) (fun _ _ _ h => h) (Or.inl ⟨by rfl, ?_⟩) ?_ ?_
              rotate_left
              · intro w'
                go_simp
                with_reducible rfl
              rotate_left
              · simp only [Act.put, List.setIfInBounds_toArray, List.set_cons_zero, List.set_cons_succ, i64_w, i32_w]
                rfl
              refine done_ (done_of HT_.out (by kernel_rfl)) ?_
              try go_wp2
              go_ret
              exact ⟨by first | rfl | (simp [errW_none, errW_some] <;> rfl) | (simp [*, errW_none, errW_some] <;> rfl), by repeat (first | (with_reducible first | exact HB.out | apply below_alloc | apply pw_below_drewN | apply below_drew1) | exact HB.out)⟩
          · rw [if_neg c9] at H
            exact absurd H (by simp)
        · rw [if_neg c8] at H
          exact absurd H (by simp)
def leaf_Rule.Pure : Prop := ∀ (a0 : ByteArray), a0.size ≤ 140737488351232 → ∃ k, leaf_Rule.f k a0 = some true
end Go.Proofs.YtpimcdkhjingjaaGreatDoor.PLeaf
namespace Go.Proofs.YtpimcdkhjingjaaGreatDoor.Pure
open Go.RowKit Go.Proofs.YtpimcdkhjingjaaGreatDoor.PLeaf Go.Proofs.YtpimcdkhjingjaaGreatDoorW.PrintWords Go.Proofs.YtpimcdkhjingjaaGreatDoor.X
theorem leaf_run_at (l : List UInt8) (c : UInt8) (hn : l.length ≤ 4611686018427387904) (d : Nat) : ∀ (k : Nat) (i : Nat), i ≤ l.length → l.length - i = d → d < k →
    leaf_run.l0 k (S l) (c.toNat : Int) (i : Int) = some ((i : Int) + (runB c (l.drop i) : Nat)) := by
  induction d with
  | zero =>
    intro k i h1 hd hk
    obtain ⟨k, rfl⟩ : ∃ m, k = m + 1 := ⟨k - 1, by omega⟩
    simp only [leaf_run.l0]
    rw [if_neg (by rw [S_size]; omega), List.drop_of_length_le (by omega)]
    simp [runB]
  | succ d ih =>
    intro k i h1 hd hk
    obtain ⟨k, rfl⟩ : ∃ m, k = m + 1 := ⟨k - 1, by omega⟩
    have hlt : i < l.length := by omega
    simp only [leaf_run.l0]
    rw [if_pos (by rw [S_size]; omega), if_pos (by omega), S_bt l i (by omega) (by omega)]
    have e : (l[(i : Int).toNat]'(by omega)) = l[i] := by congr 1
    rw [e, drop_cons hlt]
    by_cases hc : l[i] = c
    · rw [if_pos (byte_eq.2 hc), wrap_id (by omega) (by omega), show (i : Int) + 1 = ((i + 1 : Nat) : Int) by omega, ih k (i + 1) (by omega) (by omega) (by omega), hc, runB_cons_eq]
      congr 1
      omega
    · rw [if_neg (fun h => hc (byte_eq.1 h)), runB_cons_ne _ hc]
      simp
theorem leaf_run_ev (l : List UInt8) (c : UInt8) (hn : l.length ≤ 4611686018427387904) (k : Nat) (hk : l.length < k) : leaf_run.f k (S l) (c.toNat : Int) = some ((runB c l : Nat) : Int) := by
  unfold leaf_run.f
  have := leaf_run_at l c hn l.length k 0 (by omega) (by omega) hk
  simpa using this
def endsL (l : List UInt8) : Bool := match l with | [] => true | c :: _ => blankB c
def stripL (l : List UInt8) : List UInt8 := Lib.trimS l [32, 9]
theorem contains_blank (c : UInt8) : ([32, 9] : List UInt8).contains c = blankB c := by
  unfold blankB
  simp only [List.contains_cons, List.contains_nil, Bool.or_false]
theorem leaf_ends_eq (l : List UInt8) : leaf_ends.f (S l) = some (endsL l) := by
  unfold leaf_ends.f
  rw [S_toList]
  cases l with
  | nil => rfl
  | cons c t =>
    rw [if_neg (by simp), if_pos (by rw [S_size]; simp), S_bt0]
    unfold strings_IndexByte.f
    simp only [Option.bind_some]
    rw [byte_back]
    congr 1
    show decide (Lib.indexByte [32, 9] c ≥ 0) = blankB c
    rw [← contains_blank]
    cases h : ([32, 9] : List UInt8).contains c
    · have := (indexByte_lt [32, 9] c).2 h
      simp; omega
    · have := (indexByte_nn [32, 9] c).2 h
      simp; omega
theorem ascii_two : isAscii ⟨#[32, 9]⟩ = true := by decide
theorem trim_eq (l : List UInt8) (cs : List UInt8) (hl : l.length ≤ 4611686018427387904) (hc : cs.length < 4294967281) (ha : isAscii (S cs) = true) : strings_Trim.f (S l) (S cs) = some (S (Lib.trimS l cs)) := by
  unfold strings_Trim.f trimOk
  rw [S_size, S_size, ha, decide_eq_true (by omega), decide_eq_true (by omega)]
  rfl
theorem trimRight_eq (l : List UInt8) (cs : List UInt8) (hl : l.length ≤ 4611686018427387904) (hc : cs.length < 4294967281) (ha : isAscii (S cs) = true) : strings_TrimRight.f (S l) (S cs) = some (S (Lib.trimRightS l cs)) := by
  unfold strings_TrimRight.f trimOk
  rw [S_size, S_size, ha, decide_eq_true (by omega), decide_eq_true (by omega)]
  rfl
theorem leaf_strip_eq (l : List UInt8) (hl : l.length ≤ 4611686018427387904) : leaf_strip.f (S l) = some (S (stripL l)) := by
  unfold leaf_strip.f
  rw [show (⟨#[32, 9]⟩ : ByteArray) = S [32, 9] from rfl, trim_eq l [32, 9] hl (by decide) ascii_two]
  rfl
def ruleL (l : List UInt8) : Bool :=
  match l with
  | [] => false
  | c :: _ => ([42, 45, 95] : List UInt8).contains c && decide (3 ≤ l.count c) && l.all (fun b => ([32, 9, c] : List UInt8).contains b)
theorem dropWhile_nil {α : Type} (p : α → Bool) : ∀ l : List α, l.dropWhile p = [] ↔ ∀ x ∈ l, p x = true
  | [] => by simp
  | a :: t => by
    rw [List.dropWhile_cons]
    cases h : p a
    · simp [h]
    · simp only [if_true, List.mem_cons, forall_eq_or_imp]
      rw [dropWhile_nil p t]
      simp [h]
theorem trim_none (l cs : List UInt8) : (Lib.trimRightS (Lib.trimLeftS l cs) cs == []) = l.all (fun b => cs.contains b) := by
  unfold Lib.trimRightS Lib.trimLeftS
  cases h : l.all (fun b => cs.contains b)
  · rw [beq_eq_false_iff_ne]
    intro he
    have h1 : (List.dropWhile (fun x => cs.contains x) (List.dropWhile (fun x => cs.contains x) l).reverse) = [] := by simpa using he
    rw [dropWhile_nil] at h1
    have h2 : List.dropWhile (fun x => cs.contains x) l = [] := by
      cases hd : List.dropWhile (fun x => cs.contains x) l with
      | nil => rfl
      | cons a t =>
        have h3 := List.head?_dropWhile_not (fun x => cs.contains x) l
        rw [hd] at h3
        have h4 := h1 a (by rw [hd]; simp)
        simp only [List.head?_cons] at h3
        rw [h4] at h3
        cases h3
    rw [dropWhile_nil] at h2
    rw [List.all_eq_false] at h
    obtain ⟨x, hx, hx2⟩ := h
    exact hx2 (h2 x hx)
  · rw [List.all_eq_true] at h
    have : List.dropWhile (fun x => cs.contains x) l = [] := (dropWhile_nil _ _).2 h
    rw [this]
    rfl
theorem leaf_Rule_eq (l : List UInt8) (hl : l.length ≤ 4611686018427387904) (k : Nat) : leaf_Rule.f (k + 1) (S l) = some (ruleL l) := by
  unfold leaf_Rule.f
  rw [S_toList]
  cases l with
  | nil => rfl
  | cons c t =>
    rw [if_neg (by simp), if_pos (by rw [S_size]; simp), S_bt0]
    unfold strings_IndexByte.f
    simp only [Option.bind_some, leaf_Rule.j0]
    rw [byte_back]
    show (if decide (Lib.indexByte [42, 45, 95] c < 0) = true then _ else _) = _
    rw [indexByte_dec]
    cases hc : ([42, 45, 95] : List UInt8).contains c
    · rw [if_pos (by rfl)]
      unfold ruleL
      simp only [hc, Bool.false_and]
    · rw [if_neg (by simp), if_pos (by decide), if_pos (by rw [S_size]; simp; omega), S_take]
      have ht : (c :: t).take 1 = [c] := rfl
      rw [ht]
      have hcount : strings_Count.f (S (c :: t)) (S [c]) = some (((c :: t).count c : Nat) : Int) := rfl
      rw [hcount]
      simp only [Option.bind_some]
      by_cases h3 : 3 ≤ (c :: t).count c
      · rw [if_pos (by omega), if_pos (by rw [S_size]; show 3 ≤ _; omega)]
        have hs : (⟨#[32, 9]⟩ : ByteArray) ++ S [c] = S [32, 9, c] := S_append [32, 9] [c]
        have ha : isAscii (S [32, 9, c]) = true := by
          have hm := List.contains_iff_mem.1 hc
          simp only [List.mem_cons, List.mem_nil_iff, or_false] at hm
          rcases hm with rfl | rfl | rfl <;> decide
        rw [hs]
        have e1 : leaf_cutLeft.f (S (c :: t)) (S [32, 9, c]) = some (S (Lib.trimLeftS (c :: t) [32, 9, c])) := by
          unfold leaf_cutLeft.f
          rw [if_pos ha]; rfl
        rw [e1]
        simp only [Option.bind_some]
        have hle : (Lib.trimLeftS (c :: t) [32, 9, c]).length ≤ (c :: t).length := List.Sublist.length_le (List.dropWhile_sublist _)
        have e2 : leaf_cutRight.f (S (Lib.trimLeftS (c :: t) [32, 9, c])) (S [32, 9, c]) = some (S (Lib.trimRightS (Lib.trimLeftS (c :: t) [32, 9, c]) [32, 9, c])) := by
          unfold leaf_cutRight.f trimOk
          rw [ha, S_size, S_size, decide_eq_true (by omega), decide_eq_true (show ([32, 9, c] : List UInt8).length < 4294967281 by show 3 < _; omega)]
          rfl
        rw [e2]
        simp only [Option.bind_some]
        rw [S_toList, trim_none]
        unfold ruleL
        simp only [hc, Bool.true_and, decide_eq_true h3]
      · rw [if_neg (by omega)]
        unfold ruleL
        simp only [hc, Bool.true_and, decide_eq_false h3, Bool.false_and]
def headT (l : List UInt8) : List UInt8 :=
  let t := stripL l
  let x := Lib.trimRightS t [35]
  if x = [] then stripL x else if blankB (x.getLastD 0) then stripL x else t
def headingL (l : List UInt8) : Nat × List UInt8 :=
  let n := runB 35 l
  if n < 1 ∨ n > 6 ∨ endsL (l.drop n) = false then (0, []) else (n, headT (l.drop n))
theorem trimS_le (l cs : List UInt8) : (Lib.trimS l cs).length ≤ l.length := by
  unfold Lib.trimS Lib.trimLeftS Lib.trimRightS
  refine Nat.le_trans (List.Sublist.length_le (List.dropWhile_sublist _)) ?_
  rw [List.length_reverse]
  refine Nat.le_trans (List.Sublist.length_le (List.dropWhile_sublist _)) ?_
  rw [List.length_reverse]
  exact Nat.le_refl _
theorem trimR_le (l cs : List UInt8) : (Lib.trimRightS l cs).length ≤ l.length := by
  unfold Lib.trimRightS
  rw [List.length_reverse]
  refine Nat.le_trans (List.Sublist.length_le (List.dropWhile_sublist _)) ?_
  rw [List.length_reverse]
  exact Nat.le_refl _
theorem getLast_bt (x : List UInt8) (h : x ≠ []) (hx : x.length ≤ 4611686018427387904) : bt (S x) (wrap64 (((S x).size : Int) - 1)) = ((x.getLastD 0).toNat : Int) := by
  have h0 : 0 < x.length := List.length_pos_iff.2 h
  rw [S_size, wrap_id (by omega) (by omega), S_bt _ _ (by omega) (by omega)]
  have e : ((x.length : Int) - 1).toNat = x.length - 1 := by omega
  congr 2
  simp only [e]
  rw [← List.getLast_eq_getElem h]
  rw [List.getLastD_eq_getLast?, List.getLast?_eq_some_getLast h]
  rfl
theorem leaf_Heading_eq (l : List UInt8) (hl : l.length ≤ 4611686018427387904) (k : Nat) (hk : l.length < k) : leaf_Heading.f k (S l) = some (((headingL l).1 : Int), S (headingL l).2) := by
  obtain ⟨k, rfl⟩ : ∃ m, k = m + 1 := ⟨k - 1, by omega⟩
  have hr := runB_le 35 l
  unfold leaf_Heading.f headingL
  rw [show (35 : Int) = ((35 : UInt8).toNat : Int) from rfl, leaf_run_ev l 35 hl _ hk]
  simp only [Option.bind_some]
  by_cases h1 : runB 35 l < 1
  · rw [if_pos (by omega), if_pos (.inl h1)]
    rfl
  by_cases h2 : runB 35 l > 6
  · rw [if_neg (by omega), if_pos (by omega), if_pos (.inr (.inl h2))]
    rfl
  rw [if_neg (by omega), if_neg (by omega), if_pos (by omega), if_pos (by rw [S_size]; omega)]
  rw [show ((runB 35 l : Nat) : Int).toNat = runB 35 l from rfl, S_drop, leaf_ends_eq]
  simp only [Option.bind_some]
  cases h3 : endsL (l.drop (runB 35 l))
  · rw [if_pos (.inr (.inr rfl))]
    rfl
  rw [if_neg (by simp; omega)]
  simp only [leaf_Heading.j0]
  rw [if_neg (by simp), if_pos (by omega), if_pos (by rw [S_size]; omega)]
  rw [show ((runB 35 l : Nat) : Int).toNat = runB 35 l from rfl, S_drop, leaf_strip_eq _ (by simp; omega)]
  simp only [Option.bind_some]
  have hle1 := trimS_le (l.drop (runB 35 l)) [32, 9]
  rw [List.length_drop] at hle1
  have hle2 := trimR_le (stripL (l.drop (runB 35 l))) [35]
  have hx : (Lib.trimRightS (stripL (l.drop (runB 35 l))) [35]).length ≤ 4611686018427387904 := by unfold stripL at hle2 ⊢; omega
  rw [show (⟨#[35]⟩ : ByteArray) = S [35] from rfl, trimRight_eq _ [35] (by unfold stripL; omega) (by decide) (by decide)]
  simp only [Option.bind_some]
  rw [S_toList]
  unfold headT
  simp only
  by_cases h4 : Lib.trimRightS (stripL (l.drop (runB 35 l))) [35] = []
  · rw [if_pos h4, if_pos h4, leaf_strip_eq _ hx]
    rfl
  · have h0 : 0 < (Lib.trimRightS (stripL (l.drop (runB 35 l))) [35]).length := List.length_pos_iff.2 h4
    rw [if_neg h4, if_neg h4, getLast_bt _ h4 hx, S_size, wrap_id (by omega) (by omega), if_pos (by omega), if_pos (by omega)]
    unfold strings_IndexByte.f
    simp only [Option.bind_some]
    rw [byte_back]
    have hb := contains_blank ((Lib.trimRightS (stripL (l.drop (runB 35 l))) [35]).getLastD 0)
    cases h5 : blankB ((Lib.trimRightS (stripL (l.drop (runB 35 l))) [35]).getLastD 0)
    · rw [h5] at hb
      have := (indexByte_lt _ _).2 hb
      rw [if_neg (by show ¬ (Lib.indexByte [32, 9] _ ≥ 0); omega), if_neg (by simp)]
    · rw [h5] at hb
      have := (indexByte_nn _ _).2 hb
      rw [if_pos (by show Lib.indexByte [32, 9] _ ≥ 0; omega), if_pos rfl, leaf_strip_eq _ hx]
      rfl
end Go.Proofs.YtpimcdkhjingjaaGreatDoor.Pure
namespace Go.Proofs.YtpimcdkhjingjaaGreatDoor.X
open Go.RowKit Go.Proofs.YtpimcdkhjingjaaGreatDoorW.PrintWords Go.Proofs.YtpimcdkhjingjaaGreatDoor.PLeaf Go.Proofs.YtpimcdkhjingjaaGreatDoor.Pure
def underL (l : List UInt8) : Nat :=
  if 0 < runB 61 l ∧ stripL (l.drop (runB 61 l)) = [] then 1 else if 0 < runB 45 l ∧ stripL (l.drop (runB 45 l)) = [] then 2 else 0
theorem run_c (s : ByteArray) (c : UInt8) (n : Int) (hc : n = (c.toNat : Int)) (w : World) (hs : s.size ≤ 4611686018427387904) :
    Calls Tryz.prog 112 #[.string s, .int .u8 n] w fun e w' => e = .returned (.int .i64 ((runB c s.data.toList : Nat) : Int)) ∧ Below w.heap.size w w' := by
  subst hc
  have hl : s.data.toList.length ≤ 4611686018427387904 := by rw [← Lib.size_eq]; exact hs
  exact (leaf_run.calls (s.size + 1) s (c.toNat : Int) _ w (by rw [S_eta s]; exact leaf_run_ev s.data.toList c hl _ (by rw [S_size]; omega))).mono fun e w' ⟨h1, h2⟩ => ⟨h1, h2.below⟩
theorem strip_c (s : ByteArray) (w : World) (hs : s.size ≤ 4611686018427387904) :
    Calls Tryz.prog 113 #[.string s] w fun e w' => e = .returned (.string (S (stripL s.data.toList))) ∧ Below w.heap.size w w' :=
  leaf_strip.calls s _ w (by rw [S_eta s]; exact leaf_strip_eq s.data.toList (by rw [← Lib.size_eq]; exact hs))
def underAt (l : List UInt8) (c : UInt8) : Bool := decide (0 < runB c l) && (stripL (l.drop (runB c l))).isEmpty
theorem underL_eq (l : List UInt8) : underL l = if underAt l 61 = true then 1 else if underAt l 45 = true then 2 else 0 := by
  unfold underL underAt
  simp [List.isEmpty_iff]
def sg (i : Nat) : UInt8 := if i = 0 then 61 else 45
def sgs (B : Nat) (w : World) : Prop := ∀ j, j < 2 → w.cell? ⟨B, j, none⟩ = some (.int .u8 ((sg j).toNat : Int))
theorem sgs.kept {B K : Nat} {w w' : World} (h : sgs B w) (hb : Below K w w') (hk : B < K) : sgs B w' := fun j hj => by rw [hb.cell (p := ⟨B, j, none⟩) hk]; exact h j hj
theorem sgs.new (w : World) (t : TypeId) (fr : Nat × Nat) : sgs w.heap.size (w.alloc (.cells #[.int .u8 61, .int .u8 45] t fr)) := by
  intro j hj
  have hh : (w.alloc (.cells #[.int .u8 61, .int .u8 45] t fr)).heap[w.heap.size]? = some (.cells #[.int .u8 61, .int .u8 45] t fr) := by
    show (w.heap.push _)[w.heap.size]? = _
    simp
  have h2 : j = 0 ∨ j = 1 := by omega
  rcases h2 with rfl | rfl <;> (simp only [World.cell?, hh]; rfl)
theorem underL_none (l : List UInt8) (h : ∀ j, j < 2 → underAt l (sg j) = false) : underL l = 0 := by
  rw [underL_eq, if_neg, if_neg]
  · rw [show underAt l 45 = false from h 1 (by omega)]; simp
  · rw [show underAt l 61 = false from h 0 (by omega)]; simp
theorem underL_at (l : List UInt8) (i : Nat) (hi : i < 2) (h : ∀ j, j < i → underAt l (sg j) = false) (hy : underAt l (sg i) = true) : underL l = i + 1 := by
  have h2 : i = 0 ∨ i = 1 := by omega
  rcases h2 with rfl | rfl
  · rw [underL_eq, if_pos (show underAt l 61 = true from hy)]
  · rw [underL_eq, if_neg, if_pos (show underAt l 45 = true from hy)]
    rw [show underAt l 61 = false from h 0 (by omega)]; simp
set_option maxRecDepth 1000000 in
set_option maxHeartbeats 2000000 in
theorem leaf_Under_any (s : ByteArray) (w : World) (hs : s.size ≤ 4611686018427387904) :
    Calls Tryz.prog 91 #[.string s] w fun e w' => e = .returned (.int .i64 (underL s.data.toList)) ∧ Below w.heap.size w w' := by
  have kc := fun (w : World) (C : Array Value) (n c : Nat) => Lib.run_convert_bytes_const (P := Tryz.prog) w 91 5 C n c Tryz.underlying91 Tryz.underlying5
  go_enter Tryz.func91, Tryz.ntmps91
  go_wp2
  go_loopw [3, 4, 5, 9] (fun a b c v9 wr => ∃ i : Nat, v9 = .int .i64 i ∧ i ≤ 2 ∧ w.heap.size < wr.heap.size ∧ sgs w.heap.size wr ∧ Below w.heap.size w wr ∧ Hid (∀ j, j < i → underAt s.data.toList (sg j) = false)) (fun _ _ _ i _ => 2 - (intOf i).toNat)
  case atStart => exact ⟨0, rfl, by omega, by simp, sgs.new _ _ _, (Below.refl _ _).alloc (Nat.le_refl _) _, fun j h => by omega⟩
  case round =>
    obtain ⟨i, rfl, hi, hlt, hc, hb, hno⟩ := hrel
    clear kc
    by_cases hi2 : i < 2
    · obtain ⟨n, hn⟩ : ∃ n, n = runB (sg i) s.data.toList := ⟨_, rfl⟩
      have hle := runB_le (sg i) s.data.toList
      rw [← hn, ← Lib.size_eq] at hle
      have hrun := run_c s (sg i) _ rfl wr hs
      rw [← hn] at hrun
      obtain ⟨t, ht⟩ : ∃ t, t = S (stripL (s.data.toList.drop n)) := ⟨_, rfl⟩
      have Hu : Hid (underAt s.data.toList (sg i) = (decide (0 < n) && t.toList.isEmpty)) := by rw [ht, S_toList, hn]; exact rfl
      have Ht := Lib.hid ht
      have Hc := Lib.hid hc
      have hc0 := hc i hi2
      clear hn hc ht
      obtain ⟨c, hcc⟩ : ∃ c : Int, c = ((sg i).toNat : Int) := ⟨_, rfl⟩
      rw [← hcc] at hc0 hrun
      clear hcc
      go_wp2_with (first | (go_at_call 112; refine hrun.mono ?_; rintro e w1 ⟨rfl, hb1⟩))
      · have hp : 0 < n := by assumption
        have hsz : (s.extract n s.size).size ≤ 4611686018427387904 := by rw [ByteArray.size_extract]; omega
        have hb2 := hb.trans (hb1.mono (Nat.le_of_lt hlt))
        have hlt2 := Nat.lt_of_lt_of_le hlt hb1.size
        refine (strip_c (s.extract n s.size) w1 hsz).mono ?_
        rintro e w2 ⟨rfl, hb3⟩
        have hb4 := hb2.trans (hb3.mono (Nat.le_of_lt hlt2))
        have hlt4 := Nat.lt_of_lt_of_le hlt2 hb3.size
        have hc4 := Hc.out.kept (hb1.trans (hb3.mono hb1.size)) hlt
        rw [show (s.extract n s.size).data.toList = s.data.toList.drop n from Lib.extract_to_end s n, ← Ht.out]
        clear hc0 hb1 hb2 hb3 hrun hsz
        cases hE : t.toList.isEmpty
        · have Hu2 : Hid (underAt s.data.toList (sg i) = false) := by show _ = false; rw [Hu.out, hE]; simp
          go_wp2
          go_roundw
          case rel => exact ⟨i + 1, by go_num, by omega, hlt4, hc4, hb4, fun j hj => by
            by_cases e : j < i
            · exact hno.out j e
            · obtain rfl : j = i := by omega
              exact Hu2.out⟩
          case measure => simp [intOf]; omega
        · have Hu2 : Hid (underAt s.data.toList (sg i) = true) := by show _ = true; rw [Hu.out, hE, decide_eq_true hp]; rfl
          go_wp2
          go_ret
          exact ⟨by rw [underL_at s.data.toList i hi2 hno.out Hu2.out]; rfl, hb4⟩
      · have hp : ¬ 0 < n := by assumption
        have Hu2 : Hid (underAt s.data.toList (sg i) = false) := by show _ = false; rw [Hu.out, decide_eq_false hp]; rfl
        go_roundw
        case rel => exact ⟨i + 1, by go_num, by omega, Nat.lt_of_lt_of_le hlt hb1.size, Hc.out.kept hb1 hlt, hb.trans (hb1.mono (Nat.le_of_lt hlt)), fun j hj => by
          by_cases e : j < i
          · exact hno.out j e
          · obtain rfl : j = i := by omega
            exact Hu2.out⟩
        case measure => simp [intOf]; omega
    · obtain rfl : i = 2 := by omega
      go_wp2
      go_ret
      exact ⟨by rw [underL_none s.data.toList hno.out]; rfl, hb⟩
def leaf_Under.f (a0 : ByteArray) : Option Int := if a0.size ≤ 4611686018427387904 then some ((underL a0.data.toList : Nat) : Int) else none
theorem leaf_Under.calls (a0 : ByteArray) (r : Int) (w : World) (h : leaf_Under.f a0 = some r) : Calls Tryz.prog 91 #[.string a0] w fun e w' => e = .returned (.int .i64 r) ∧ Below w.heap.size w w' := by
  unfold leaf_Under.f at h
  split at h
  · rename_i hk
    rw [← Option.some.inj h]
    exact leaf_Under_any a0 w hk
  · cases h
end Go.Proofs.YtpimcdkhjingjaaGreatDoor.X
namespace Go.Proofs.YtpimcdkhjingjaaGreatDoor.Pure
open Go.RowKit Go.Proofs.YtpimcdkhjingjaaGreatDoor.PLeaf Go.Proofs.YtpimcdkhjingjaaGreatDoorW.PrintWords Go.Proofs.YtpimcdkhjingjaaGreatDoor.X
def digitB (c : UInt8) : Bool := decide (48 ≤ c.toNat) && decide (c.toNat ≤ 57)
def markSigns (n : Nat) : List UInt8 := if 0 < n then [46, 41] else [45, 43, 42]
def markEnd (n v : Nat) : List UInt8 → Nat × UInt8 × Nat
  | [] => (0, 0, 0)
  | c :: t => if (markSigns n).contains c && endsL t then (n + 1, c, v) else (0, 0, 0)
def markGo (n v : Nat) : List UInt8 → Nat × UInt8 × Nat
  | [] => (0, 0, 0)
  | c :: t => if digitB c then (if n = 9 then (0, 0, 0) else markGo (n + 1) (10 * v + (c.toNat - 48)) t) else markEnd n v (c :: t)
def markerL (l : List UInt8) : Nat × UInt8 × Nat := markGo 0 0 l
def some3 (r : Nat × UInt8 × Nat) : Option (Int × Int × Int) := some ((r.1 : Int), (r.2.1.toNat : Int), (r.2.2 : Int))
theorem markEnd_le (n v : Nat) (l : List UInt8) : (markEnd n v l).1 ≤ n + l.length ∧ (n ≤ 9 → (markEnd n v l).1 ≤ 10) := by
  cases l with
  | nil => exact ⟨Nat.zero_le _, fun _ => Nat.zero_le _⟩
  | cons c t =>
    rw [List.length_cons]
    have e : markEnd n v (c :: t) = if ((markSigns n).contains c && endsL t) = true then (n + 1, c, v) else (0, 0, 0) := rfl
    rw [e]
    cases (markSigns n).contains c && endsL t
    · exact ⟨Nat.zero_le _, fun _ => Nat.zero_le _⟩
    · exact ⟨by show n + 1 ≤ n + (t.length + 1); omega, fun h => by show n + 1 ≤ 10; omega⟩
theorem markGo_le (l : List UInt8) : ∀ (n v : Nat), (markGo n v l).1 ≤ n + l.length ∧ (n ≤ 9 → (markGo n v l).1 ≤ 10) := by
  induction l with
  | nil => intro n v; exact ⟨Nat.zero_le _, fun _ => Nat.zero_le _⟩
  | cons c t ih =>
    intro n v
    unfold markGo
    split
    · split
      · exact ⟨Nat.zero_le _, fun _ => Nat.zero_le _⟩
      · obtain ⟨h1, h2⟩ := ih (n + 1) (10 * v + (c.toNat - 48))
        rw [List.length_cons]
        exact ⟨by omega, fun h => h2 (by omega)⟩
    · have h := markEnd_le n v (c :: t)
      exact ⟨h.1, h.2⟩
theorem markEnd_eq (l : List UInt8) (hl : l.length ≤ 4611686018427387904) (i v k : Nat) (hi : i ≤ l.length) :
    leaf_Marker.j2 (k + 1) (S l) (i : Int) (v : Int) (S (markSigns i)) = some3 (markEnd i v (l.drop i)) := by
  rw [leaf_Marker.j2]
  rcases Nat.lt_or_ge i l.length with hlt | hge
  · rw [if_neg (by rw [S_size]; omega), if_pos (by omega), if_pos (by rw [S_size]; omega), S_bt l i (by omega) (by omega), drop_cons hlt]
    have e : (l[(i : Int).toNat]'(by omega)) = l[i] := by congr 1
    rw [e]
    obtain ⟨c, hc⟩ : ∃ c, c = l[i] := ⟨_, rfl⟩
    rw [← hc]
    unfold strings_IndexByte.f
    simp only [Option.bind_some]
    rw [byte_back, S_data]
    have hw : wrap64 ((i : Int) + 1) = ((i + 1 : Nat) : Int) := by rw [wrap_id (by omega) (by omega)]; omega
    have e2 : markEnd i v (c :: l.drop (i + 1)) = if ((markSigns i).contains c && endsL (l.drop (i + 1))) = true then (i + 1, c, v) else (0, 0, 0) := rfl
    rw [e2]
    cases h : (markSigns i).contains c
    · have := (indexByte_lt (markSigns i) c).2 h
      rw [if_pos (by omega)]
      rfl
    · have := (indexByte_nn (markSigns i) c).2 h
      rw [if_neg (by omega), hw, if_pos (by omega), if_pos (by rw [S_size]; omega), Int.toNat_natCast, S_drop, leaf_ends_eq]
      simp only [Option.bind_some]
      cases he : endsL (l.drop (i + 1))
      · rfl
      · rfl
  · have : i = l.length := by omega
    subst this
    rw [if_pos (by rw [S_size]), List.drop_length]
    rfl
theorem marker_at (l : List UInt8) (hl : l.length ≤ 4611686018427387904) (d : Nat) : ∀ (i v k : Nat), i + d = 9 → i ≤ l.length → v < 10 ^ i → 3 * d + 3 < k →
    leaf_Marker.l0 k (S l) (i : Int) (v : Int) = some3 (markGo i v (l.drop i)) := by
  induction d with
  | zero =>
    intro i v k hid hi hv hk
    obtain ⟨k, rfl⟩ : ∃ m, k = m + 1 := ⟨k - 1, by omega⟩
    obtain ⟨k, rfl⟩ : ∃ m, k = m + 1 := ⟨k - 1, by omega⟩
    obtain ⟨k, rfl⟩ : ∃ m, k = m + 1 := ⟨k - 1, by omega⟩
    have hsg : ∀ b : Bool, b = false → leaf_Marker.j1 (k + 1 + 1) (S l) (i : Int) (v : Int) b = some3 (markEnd i v (l.drop i)) := fun b hb => by
      subst hb
      rw [leaf_Marker.j1]
      rw [if_neg (by simp), if_pos (by omega)]
      have := markEnd_eq l hl i v k hi
      unfold markSigns at this
      rw [if_pos (by omega)] at this
      exact this
    rw [leaf_Marker.l0]
    rcases Nat.lt_or_ge i l.length with hlt | hge
    · rw [if_pos (by rw [S_size]; omega), if_pos (by omega), S_bt l i (by omega) (by omega)]
      have e : (l[(i : Int).toNat]'(by omega)) = l[i] := by congr 1
      rw [e]
      rw [drop_cons hlt] at hsg ⊢
      unfold markGo digitB
      by_cases h1 : 48 ≤ (l[i]).toNat
      · rw [if_pos (by omega), decide_eq_true h1]
        by_cases h2 : (l[i]).toNat ≤ 57
        · rw [decide_eq_true h2, decide_eq_true (by omega : ((l[i]).toNat : Int) ≤ 57), if_pos (by rfl), if_pos (by omega)]
          rw [leaf_Marker.j1]
          rw [if_pos rfl, if_pos (by omega)]
          rfl
        · rw [decide_eq_false h2, decide_eq_false (by omega : ¬ ((l[i]).toNat : Int) ≤ 57), if_neg (by simp)]
          exact hsg false rfl
      · rw [if_neg (by omega), decide_eq_false h1, if_neg (by simp)]
        exact hsg false rfl
    · rw [if_neg (by rw [S_size]; omega), hsg false rfl, List.drop_of_length_le hge]
      rfl
  | succ d ih =>
    intro i v k hid hi hv hk
    obtain ⟨k, rfl⟩ : ∃ m, k = m + 1 := ⟨k - 1, by omega⟩
    obtain ⟨k, rfl⟩ : ∃ m, k = m + 1 := ⟨k - 1, by omega⟩
    obtain ⟨k, rfl⟩ : ∃ m, k = m + 1 := ⟨k - 1, by omega⟩
    have hsg : ∀ b : Bool, b = false → leaf_Marker.j1 (k + 1 + 1) (S l) (i : Int) (v : Int) b = some3 (markEnd i v (l.drop i)) := fun b hb => by
      subst hb
      rw [leaf_Marker.j1]
      have := markEnd_eq l hl i v k hi
      unfold markSigns at this
      rw [if_neg (by simp)]
      by_cases h0 : 0 < i
      · rw [if_pos h0] at this
        rw [if_pos (by omega)]
        exact this
      · rw [if_neg h0] at this
        rw [if_neg (by omega)]
        exact this
    rw [leaf_Marker.l0]
    rcases Nat.lt_or_ge i l.length with hlt | hge
    · rw [if_pos (by rw [S_size]; omega), if_pos (by omega), S_bt l i (by omega) (by omega)]
      have e : (l[(i : Int).toNat]'(by omega)) = l[i] := by congr 1
      rw [e]
      have hb := S_bt l i (by omega) (by omega)
      rw [e] at hb
      rw [drop_cons hlt] at hsg ⊢
      unfold markGo digitB
      by_cases h1 : 48 ≤ (l[i]).toNat
      · rw [if_pos (by omega), decide_eq_true h1]
        by_cases h2 : (l[i]).toNat ≤ 57
        · rw [decide_eq_true h2, decide_eq_true (by omega : ((l[i]).toNat : Int) ≤ 57), if_pos (by rfl), if_neg (by omega)]
          rw [leaf_Marker.j1]
          have hv9 : v < 1000000000 := Nat.lt_of_lt_of_le hv (Nat.le_trans (Nat.pow_le_pow_right (by decide) (by omega : i ≤ 9)) (by decide))
          have hw1 : wrap64 ((i : Int) + 1) = ((i + 1 : Nat) : Int) := by rw [wrap_id (by omega) (by omega)]; omega
          have hw2 : wrap64 (10 * (v : Int)) = 10 * (v : Int) := wrap_id (by omega) (by omega)
          have hw3 : wrap64 (10 * (v : Int) + (((l[i]).toNat : Int) - 48) % 256) = ((10 * v + ((l[i]).toNat - 48) : Nat) : Int) := by rw [wrap_id (by omega) (by omega)]; omega
          rw [if_pos rfl, if_neg (by omega), if_pos (by omega), if_pos (by rw [S_size]; omega), hb, hw1, hw2, hw3]
          exact ih (i + 1) _ (k + 1) (by omega) (by omega) (by rw [Nat.pow_succ]; omega) (by omega)
        · rw [decide_eq_false h2, decide_eq_false (by omega : ¬ ((l[i]).toNat : Int) ≤ 57), if_neg (by simp)]
          exact hsg false rfl
      · rw [if_neg (by omega), decide_eq_false h1, if_neg (by simp)]
        exact hsg false rfl
    · rw [if_neg (by rw [S_size]; omega), hsg false rfl, List.drop_of_length_le hge]
      rfl
theorem leaf_Marker_eq (l : List UInt8) (hl : l.length ≤ 4611686018427387904) (k : Nat) (hk : 30 < k) : leaf_Marker.f k (S l) = some3 (markerL l) := by
  have := marker_at l hl 9 0 0 k (by omega) (Nat.zero_le _) (by decide) (by omega)
  exact this
def closesL (l : List UInt8) (c : UInt8) (n : Nat) : Bool := decide (max 1 n ≤ runB c l) && (stripL (l.drop (runB c l))).isEmpty
theorem leaf_Ends_eq (l : List UInt8) (hl : l.length ≤ 4611686018427387904) (c : UInt8) (n k : Nat) (hk : l.length < k) : leaf_Ends.f k (S l) (c.toNat : Int) (n : Int) = some (closesL l c n) := by
  unfold leaf_Ends.f
  rw [leaf_run_ev l c hl k hk]
  simp only [Option.bind_some]
  have hr := runB_le c l
  have hm : (mx 1 (n : Int)) = ((max 1 n : Nat) : Int) := by unfold mx; split <;> omega
  rw [hm]
  unfold closesL
  by_cases h : max 1 n ≤ runB c l
  · rw [if_pos (by omega), if_pos (by omega), if_pos (by rw [S_size]; omega), Int.toNat_natCast, S_drop, leaf_strip_eq _ (by rw [List.length_drop]; omega)]
    simp only [Option.bind_some]
    rw [S_toList, decide_eq_true h]
    cases stripL (l.drop (runB c l)) <;> rfl
  · rw [if_neg (by omega), decide_eq_false h]
    rfl
end Go.Proofs.YtpimcdkhjingjaaGreatDoor.Pure
