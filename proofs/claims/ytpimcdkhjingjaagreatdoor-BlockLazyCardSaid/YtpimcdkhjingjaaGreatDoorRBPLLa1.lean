/- A merged text (wip/mkclaim.py). -/
import Derived.Test.YtpimcdkhjingjaaGreatDoorRBR
import Derived.Test.YtpimcdkhjingjaaGreatDoorRBS
import Derived.Test.YtpimcdkhjingjaaGreatDoorRBP
set_option linter.unusedVariables false
set_option linter.unusedSimpArgs false
set_option linter.unusedSectionVars false
namespace Go.Proofs.YtpimcdkhjingjaaGreatDoor.PLLa
open Go.RowKit Go.Proofs.YtpimcdkhjingjaaGreatDoorW.PrintWords Go.Proofs.YtpimcdkhjingjaaGreatDoorW.PrintLast Go.Proofs.YtpimcdkhjingjaaGreatDoorW.PrintMore Go.Proofs.YtpimcdkhjingjaaGreatDoor.X Go.Proofs.YtpimcdkhjingjaaGreatDoor.PBlk
attribute [local go_sem] max2_int min2_int max_two min_two max_three min_three max_four min_four
set_option linter.unusedVariables false
set_option linter.unusedSimpArgs false
mutual
def rubricatorlaw19_BlockLazy.j0 : Nat → List Int → ByteArray → ByteArray → Int → Bool → Option (Bool)
  | 0, _, _, _, _, _ => none
  | k + 1, x0, x1, x2, x3, x34 => if x34 = true then ((rubricatorlaw19_known.f).bind fun t103 => (some t103)) else (rubricatorlaw19_BlockLazy.l0 k x0 x1 x2 x3 (⟨#[]⟩ : ByteArray) (⟨#[]⟩ : ByteArray) 0)
def rubricatorlaw19_BlockLazy.l0 : Nat → List Int → ByteArray → ByteArray → Int → ByteArray → ByteArray → Int → Option (Bool)
  | 0, _, _, _, _, _, _, _ => none
  | k + 1, x0, x1, x2, x3, x9, x10, x11 => if x11 < (x0.length : Int) then ((some (([(⟨#[62, 32]⟩ : ByteArray), (⟨#[45, 32]⟩ : ByteArray), (⟨#[49, 46, 32]⟩ : ByteArray)] : List ByteArray) : List ByteArray)).bind fun y104 => (if 0 ≤ x11 then (if 0 ≤ (Int.tmod (Go.bits .and .i64 (rd x0 x11) 1023) 3) then (if (Int.tmod (Go.bits .and .i64 (rd x0 x11) 1023) 3) < (y104.length : Int) then (if x9.size + (rdOf ByteArray.empty y104 (Int.tmod (Go.bits .and .i64 (rd x0 x11) 1023) 3)).size ≤ 9223372036854775807 then (rubricatorlaw19_BlockLazy.l0 k x0 x1 x2 x3 (x9 ++ (rdOf ByteArray.empty y104 (Int.tmod (Go.bits .and .i64 (rd x0 x11) 1023) 3))) x10 (wrap64 (x11 + 1))) else (none)) else (none)) else (none)) else (none))) else (rubricatorlaw19_BlockLazy.l1 k x1 x2 x3 x9 x10 0)
def rubricatorlaw19_BlockLazy.l1 : Nat → ByteArray → ByteArray → Int → ByteArray → ByteArray → Int → Option (Bool)
  | 0, _, _, _, _, _, _ => none
  | k + 1, x1, x2, x3, x9, x10, x12 => if x12 < x3 then (if x10.size + 1 ≤ 9223372036854775807 then (rubricatorlaw19_BlockLazy.l1 k x1 x2 x3 x9 (x10 ++ (⟨#[32]⟩ : ByteArray)) (wrap64 (x12 + 1))) else (none)) else (if x9.size + x1.size ≤ 9223372036854775807 then (if x10.size + x2.size ≤ 9223372036854775807 then ((block_Parse.f (([x9 ++ x1, x10 ++ x2] : List ByteArray))).bind fun bt112 => ((rubricatorlaw19_rule.f k x9).bind fun t123 => (if t123 = true then ((rubricatorlaw19_known.f).bind fun t124 => (some t124)) else (rubricatorlaw19_BlockLazy.l2 k x1 x2 bt112.1 bt112.2.1 bt112.2.2.1 bt112.2.2.2.1 bt112.2.2.2.2.1 bt112.2.2.2.2.2.1 bt112.2.2.2.2.2.2.1 bt112.2.2.2.2.2.2.2)))) else (none)) else (none))
def rubricatorlaw19_BlockLazy.l2 : Nat → ByteArray → ByteArray → Int → Int → Bool → Bool → ByteArray → ByteArray → ByteArray → List (S27) → Option (Bool)
  | 0, _, _, _, _, _, _, _, _, _, _ => none
  | k + 1, x1, x2, x123000, x123001, x123002, x123003, x123004, x123005, x123006, x123007 => if (x123007.length : Int) = 1 then (if 0 < (x123007.length : Int) then (rubricatorlaw19_BlockLazy.l2 k x1 x2 ((rd_T27 x123007 0).f0) ((rd_T27 x123007 0).f1) ((rd_T27 x123007 0).f2) ((rd_T27 x123007 0).f3) ((rd_T27 x123007 0).f4) ((rd_T27 x123007 0).f5) ((rd_T27 x123007 0).f6) ((rd_T27 x123007 0).f7)) else (none)) else (if x123000 = 2 then (if x1.size + 1 ≤ 9223372036854775807 then (if (x1 ++ (⟨#[10]⟩ : ByteArray)).size + x2.size ≤ 9223372036854775807 then (if x123004.toList = ((x1 ++ (⟨#[10]⟩ : ByteArray)) ++ x2).toList then ((rubricatorlaw19_known.f).bind fun t126 => (some t126)) else (some false)) else (none)) else (none)) else (some false))
end
def rubricatorlaw19_BlockLazy.f (k : Nat) (l0 : List Int) (a1 : ByteArray) (a2 : ByteArray) (a3 : Int) : Option (Bool) := if (l0.length : Int) > 12 then (rubricatorlaw19_BlockLazy.j0 k l0 a1 a2 a3 true) else ((rubricatorlaw19_word.f k a1).bind fun t101 => (if t101 = true then ((rubricatorlaw19_word.f k a2).bind fun t102 => (if t102 = true then (if a3 < 0 then (rubricatorlaw19_BlockLazy.j0 k l0 a1 a2 a3 true) else (rubricatorlaw19_BlockLazy.j0 k l0 a1 a2 a3 (decide (a3 > 60)))) else (rubricatorlaw19_BlockLazy.j0 k l0 a1 a2 a3 true))) else (rubricatorlaw19_BlockLazy.j0 k l0 a1 a2 a3 true)))
theorem rubricatorlaw19_BlockLazy.mono_l : ∀ k, (∀ y0 y1 y2 y3 y4, LeO (rubricatorlaw19_BlockLazy.j0 k y0 y1 y2 y3 y4) (rubricatorlaw19_BlockLazy.j0 (k + 1) y0 y1 y2 y3 y4)) ∧ (∀ y0 y1 y2 y3 y4 y5 y6, LeO (rubricatorlaw19_BlockLazy.l0 k y0 y1 y2 y3 y4 y5 y6) (rubricatorlaw19_BlockLazy.l0 (k + 1) y0 y1 y2 y3 y4 y5 y6)) ∧ (∀ y0 y1 y2 y3 y4 y5, LeO (rubricatorlaw19_BlockLazy.l1 k y0 y1 y2 y3 y4 y5) (rubricatorlaw19_BlockLazy.l1 (k + 1) y0 y1 y2 y3 y4 y5)) ∧ (∀ y0 y1 y2 y3 y4 y5 y6 y7 y8 y9, LeO (rubricatorlaw19_BlockLazy.l2 k y0 y1 y2 y3 y4 y5 y6 y7 y8 y9) (rubricatorlaw19_BlockLazy.l2 (k + 1) y0 y1 y2 y3 y4 y5 y6 y7 y8 y9))
  | 0 => ⟨fun _ _ _ _ _ r h => by simp [rubricatorlaw19_BlockLazy.j0] at h, fun _ _ _ _ _ _ _ r h => by simp [rubricatorlaw19_BlockLazy.l0] at h, fun _ _ _ _ _ _ r h => by simp [rubricatorlaw19_BlockLazy.l1] at h, fun _ _ _ _ _ _ _ _ _ _ r h => by simp [rubricatorlaw19_BlockLazy.l2] at h⟩
  | k + 1 => by
    obtain ⟨ih0, ih1, ih2, ih3⟩ := rubricatorlaw19_BlockLazy.mono_l k
    refine ⟨?_, ?_, ?_, ?_⟩
    · intro y0 y1 y2 y3 y4
      unfold rubricatorlaw19_BlockLazy.j0
      repeat' first
      | (with_reducible exact ih0 _ _ _ _ _)
      | (with_reducible exact ih1 _ _ _ _ _ _ _)
      | (with_reducible exact ih2 _ _ _ _ _ _)
      | (with_reducible exact ih3 _ _ _ _ _ _ _ _ _ _)
      | (with_reducible exact rubricatorlaw19_rule.mono _ _)
      | (with_reducible exact rubricatorlaw19_word.mono _ _)
      | (with_reducible exact LeO.refl _)
      | (with_reducible exact LeO.none _)
      | (with_reducible refine LeO.ite ?_ ?_)
      | (with_reducible refine LeO.bind ?_ (fun _ => ?_))
      | exact ih0 _ _ _ _ _
      | exact ih1 _ _ _ _ _ _ _
      | exact ih2 _ _ _ _ _ _
      | exact ih3 _ _ _ _ _ _ _ _ _ _
      | exact rubricatorlaw19_rule.mono _ _
      | exact rubricatorlaw19_word.mono _ _
      | exact LeO.none _
      | refine LeO.ite ?_ ?_
      | refine LeO.bind ?_ (fun _ => ?_)
    · intro y0 y1 y2 y3 y4 y5 y6
      unfold rubricatorlaw19_BlockLazy.l0
      repeat' first
      | (with_reducible exact ih0 _ _ _ _ _)
      | (with_reducible exact ih1 _ _ _ _ _ _ _)
      | (with_reducible exact ih2 _ _ _ _ _ _)
      | (with_reducible exact ih3 _ _ _ _ _ _ _ _ _ _)
      | (with_reducible exact rubricatorlaw19_rule.mono _ _)
      | (with_reducible exact rubricatorlaw19_word.mono _ _)
      | (with_reducible exact LeO.refl _)
      | (with_reducible exact LeO.none _)
      | (with_reducible refine LeO.ite ?_ ?_)
      | (with_reducible refine LeO.bind ?_ (fun _ => ?_))
      | exact ih0 _ _ _ _ _
      | exact ih1 _ _ _ _ _ _ _
      | exact ih2 _ _ _ _ _ _
      | exact ih3 _ _ _ _ _ _ _ _ _ _
      | exact rubricatorlaw19_rule.mono _ _
      | exact rubricatorlaw19_word.mono _ _
      | exact LeO.none _
      | refine LeO.ite ?_ ?_
      | refine LeO.bind ?_ (fun _ => ?_)
    · intro y0 y1 y2 y3 y4 y5
      unfold rubricatorlaw19_BlockLazy.l1
      repeat' first
      | (with_reducible exact ih0 _ _ _ _ _)
      | (with_reducible exact ih1 _ _ _ _ _ _ _)
      | (with_reducible exact ih2 _ _ _ _ _ _)
      | (with_reducible exact ih3 _ _ _ _ _ _ _ _ _ _)
      | (with_reducible exact rubricatorlaw19_rule.mono _ _)
      | (with_reducible exact rubricatorlaw19_word.mono _ _)
      | (with_reducible exact LeO.refl _)
      | (with_reducible exact LeO.none _)
      | (with_reducible refine LeO.ite ?_ ?_)
      | (with_reducible refine LeO.bind ?_ (fun _ => ?_))
      | exact ih0 _ _ _ _ _
      | exact ih1 _ _ _ _ _ _ _
      | exact ih2 _ _ _ _ _ _
      | exact ih3 _ _ _ _ _ _ _ _ _ _
      | exact rubricatorlaw19_rule.mono _ _
      | exact rubricatorlaw19_word.mono _ _
      | exact LeO.none _
      | refine LeO.ite ?_ ?_
      | refine LeO.bind ?_ (fun _ => ?_)
    · intro y0 y1 y2 y3 y4 y5 y6 y7 y8 y9
      unfold rubricatorlaw19_BlockLazy.l2
      repeat' first
      | (with_reducible exact ih0 _ _ _ _ _)
      | (with_reducible exact ih1 _ _ _ _ _ _ _)
      | (with_reducible exact ih2 _ _ _ _ _ _)
      | (with_reducible exact ih3 _ _ _ _ _ _ _ _ _ _)
      | (with_reducible exact rubricatorlaw19_rule.mono _ _)
      | (with_reducible exact rubricatorlaw19_word.mono _ _)
      | (with_reducible exact LeO.refl _)
      | (with_reducible exact LeO.none _)
      | (with_reducible refine LeO.ite ?_ ?_)
      | (with_reducible refine LeO.bind ?_ (fun _ => ?_))
      | exact ih0 _ _ _ _ _
      | exact ih1 _ _ _ _ _ _ _
      | exact ih2 _ _ _ _ _ _
      | exact ih3 _ _ _ _ _ _ _ _ _ _
      | exact rubricatorlaw19_rule.mono _ _
      | exact rubricatorlaw19_word.mono _ _
      | exact LeO.none _
      | refine LeO.ite ?_ ?_
      | refine LeO.bind ?_ (fun _ => ?_)
theorem rubricatorlaw19_BlockLazy.mono : ∀ a0 a1 a2 a3 k, LeO (rubricatorlaw19_BlockLazy.f k a0 a1 a2 a3) (rubricatorlaw19_BlockLazy.f (k + 1) a0 a1 a2 a3) := by
  intro a0 a1 a2 a3 k
  obtain ⟨ih0, ih1, ih2, ih3⟩ := rubricatorlaw19_BlockLazy.mono_l k
  unfold rubricatorlaw19_BlockLazy.f
  repeat' first
      | (with_reducible exact ih0 _ _ _ _ _)
      | (with_reducible exact ih1 _ _ _ _ _ _ _)
      | (with_reducible exact ih2 _ _ _ _ _ _)
      | (with_reducible exact ih3 _ _ _ _ _ _ _ _ _ _)
      | (with_reducible exact rubricatorlaw19_rule.mono _ _)
      | (with_reducible exact rubricatorlaw19_word.mono _ _)
      | (with_reducible exact LeO.refl _)
      | (with_reducible exact LeO.none _)
      | (with_reducible refine LeO.ite ?_ ?_)
      | (with_reducible refine LeO.bind ?_ (fun _ => ?_))
      | exact ih0 _ _ _ _ _
      | exact ih1 _ _ _ _ _ _ _
      | exact ih2 _ _ _ _ _ _
      | exact ih3 _ _ _ _ _ _ _ _ _ _
      | exact rubricatorlaw19_rule.mono _ _
      | exact rubricatorlaw19_word.mono _ _
      | exact LeO.none _
      | refine LeO.ite ?_ ?_
      | refine LeO.bind ?_ (fun _ => ?_)
set_option maxHeartbeats 8000000 in
set_option maxRecDepth 100000 in
theorem rubricatorlaw19_BlockLazy.calls (k : Nat) (A0 : Option Addr) (c0 : Nat) (l0 : List Int) (a1 : ByteArray) (a2 : ByteArray) (a3 : Int) (r : Bool) (w : World) (hG : GL w) (hr0 : Kd.C (Kd.int .i64) w A0 l0.length l0) (hc0 : l0.length ≤ c0) (h : rubricatorlaw19_BlockLazy.f k l0 a1 a2 a3 = some r) :
    Calls Tryz.prog 9 #[.slice A0 l0.length c0, .string a1, .string a2, .int .i64 a3] w fun e w' => e = .returned (.bool r) ∧ Below w.heap.size w w' := by
  have hu27 := Tryz.underlying27
  have HR0 := Aside0.mk hr0
  have HC0 := Aside0.mk hc0
  clear hr0 hc0
  have HB := Aside0.mk (Below.refl w.heap.size w)
  have H : (if (l0.length : Int) > 12 then (rubricatorlaw19_BlockLazy.j0 k l0 a1 a2 a3 true) else ((rubricatorlaw19_word.f k a1).bind fun t101 => (if t101 = true then ((rubricatorlaw19_word.f k a2).bind fun t102 => (if t102 = true then (if a3 < 0 then (rubricatorlaw19_BlockLazy.j0 k l0 a1 a2 a3 true) else (rubricatorlaw19_BlockLazy.j0 k l0 a1 a2 a3 (decide (a3 > 60)))) else (rubricatorlaw19_BlockLazy.j0 k l0 a1 a2 a3 true))) else (rubricatorlaw19_BlockLazy.j0 k l0 a1 a2 a3 true)))) = some r := h
  clear h
  have HC5 := Aside0.mk H
  clear H
  go_enter Tryz.func9, Tryz.ntmps9
  go_upto_region 1 with (fail)
  go_cut [34] (fun v34 wc => ∃ (kq : Nat) (x34_4 : Bool), v34 = .bool x34_4 ∧ Aside0 (rubricatorlaw19_BlockLazy.j0 kq l0 a1 a2 a3 x34_4 = some r) ∧ Aside0 (kq ≤ k) ∧ Aside0 (Below w.heap.size w wc))
  case first =>
    have H := HC5.out
    clear HC5
    by_cases c6 : (l0.length : Int) > 12
    · rw [if_pos c6] at H
      have c6b0 : decide (12 < (l0.length : Int)) = true := decide_eq_true c6
      have c6b1 : decide (12 < l0.length) = true := decide_eq_true (by omega)
      clear c6
      (first | rw [c6b0] | (simp only [i64_w, i32_w]; rw [c6b0]) | skip)
      have H' := Aside0.mk H
      clear H
      go_wp2
      go_meet
      case rel => exact ⟨_, (true), (by first | rfl | (simp; done) | (simp [*]; done)), H', ⟨by first | omega | exact Nat.le_refl _⟩, ⟨by repeat (first | (with_reducible first | exact HB.out | apply below_alloc | apply pw_below_drewN | apply below_drew1) | exact HB.out)⟩⟩
    · rw [if_neg c6] at H
      have c6b0 : decide (12 < (l0.length : Int)) = false := decide_eq_false c6
      have c6b1 : decide (12 < l0.length) = false := decide_eq_false (by omega)
      clear c6
      (first | rw [c6b0] | (simp only [i64_w, i32_w]; rw [c6b0]) | skip)
      replace H := Option.bind_eq_some_iff.mp H
      obtain ⟨t101, A70, H⟩ := H
      replace H : (if t101 = true then ((rubricatorlaw19_word.f k a2).bind fun t102 => (if t102 = true then (if a3 < 0 then (rubricatorlaw19_BlockLazy.j0 k l0 a1 a2 a3 true) else (rubricatorlaw19_BlockLazy.j0 k l0 a1 a2 a3 (decide (a3 > 60)))) else (rubricatorlaw19_BlockLazy.j0 k l0 a1 a2 a3 true))) else (rubricatorlaw19_BlockLazy.j0 k l0 a1 a2 a3 true)) = some r := H
      have A7 := Aside0.mk A70
      clear A70
      by_cases c8 : t101 = true
      · subst c8
        have H1 : ((rubricatorlaw19_word.f k a2).bind fun t102 => (if t102 = true then (if a3 < 0 then (rubricatorlaw19_BlockLazy.j0 k l0 a1 a2 a3 true) else (rubricatorlaw19_BlockLazy.j0 k l0 a1 a2 a3 (decide (a3 > 60)))) else (rubricatorlaw19_BlockLazy.j0 k l0 a1 a2 a3 true))) = some r := by rw [if_pos rfl] at H; exact H
        clear H
        have H := H1
        clear H1
        replace H := Option.bind_eq_some_iff.mp H
        obtain ⟨t102, A90, H⟩ := H
        replace H : (if t102 = true then (if a3 < 0 then (rubricatorlaw19_BlockLazy.j0 k l0 a1 a2 a3 true) else (rubricatorlaw19_BlockLazy.j0 k l0 a1 a2 a3 (decide (a3 > 60)))) else (rubricatorlaw19_BlockLazy.j0 k l0 a1 a2 a3 true)) = some r := H
        have A9 := Aside0.mk A90
        clear A90
        by_cases c10 : t102 = true
        · subst c10
          have H1 : (if a3 < 0 then (rubricatorlaw19_BlockLazy.j0 k l0 a1 a2 a3 true) else (rubricatorlaw19_BlockLazy.j0 k l0 a1 a2 a3 (decide (a3 > 60)))) = some r := by rw [if_pos rfl] at H; exact H
          clear H
          have H := H1
          clear H1
          by_cases c11 : a3 < 0
          · rw [if_pos c11] at H
            have c11b0 : decide (a3 < 0) = true := decide_eq_true c11
            clear c11
            have H' := Aside0.mk H
            clear H
            go_wp2_with (first | (go_at_call 19; (with_reducible refine (rubricatorlaw19_word.calls k a1 true _ A7.out).mono ?_); rintro e w' ⟨rfl, ⟨nd, rfl⟩⟩) | (go_at_call 19; (with_reducible refine (rubricatorlaw19_word.calls k a2 true _ A9.out).mono ?_); rintro e w' ⟨rfl, ⟨nd, rfl⟩⟩))
            go_meet
            case rel => exact ⟨_, (true), (by first | rfl | (simp; done) | (simp [*]; done)), H', ⟨by first | omega | exact Nat.le_refl _⟩, ⟨by repeat (first | (with_reducible first | exact HB.out | apply below_alloc | apply pw_below_drewN | apply below_drew1) | exact HB.out)⟩⟩
          · rw [if_neg c11] at H
            have c11b0 : decide (a3 < 0) = false := decide_eq_false c11
            clear c11
            have H' := Aside0.mk H
            clear H
            go_wp2_with (first | (go_at_call 19; (with_reducible refine (rubricatorlaw19_word.calls k a1 true _ A7.out).mono ?_); rintro e w' ⟨rfl, ⟨nd, rfl⟩⟩) | (go_at_call 19; (with_reducible refine (rubricatorlaw19_word.calls k a2 true _ A9.out).mono ?_); rintro e w' ⟨rfl, ⟨nd, rfl⟩⟩))
            go_meet
            case rel => exact ⟨_, (decide (a3 > 60)), (by first | rfl | (simp; done) | (simp [*]; done)), H', ⟨by first | omega | exact Nat.le_refl _⟩, ⟨by repeat (first | (with_reducible first | exact HB.out | apply below_alloc | apply pw_below_drewN | apply below_drew1) | exact HB.out)⟩⟩
        · replace c10 := Bool.eq_false_iff.mpr c10
          subst c10
          have H1 : (rubricatorlaw19_BlockLazy.j0 k l0 a1 a2 a3 true) = some r := by rw [if_neg (show ¬ (false = true) by decide)] at H; exact H
          clear H
          have H := H1
          clear H1
          have H' := Aside0.mk H
          clear H
          go_wp2_with (first | (go_at_call 19; (with_reducible refine (rubricatorlaw19_word.calls k a1 true _ A7.out).mono ?_); rintro e w' ⟨rfl, ⟨nd, rfl⟩⟩) | (go_at_call 19; (with_reducible refine (rubricatorlaw19_word.calls k a2 false _ A9.out).mono ?_); rintro e w' ⟨rfl, ⟨nd, rfl⟩⟩))
          go_meet
          case rel => exact ⟨_, (true), (by first | rfl | (simp; done) | (simp [*]; done)), H', ⟨by first | omega | exact Nat.le_refl _⟩, ⟨by repeat (first | (with_reducible first | exact HB.out | apply below_alloc | apply pw_below_drewN | apply below_drew1) | exact HB.out)⟩⟩
      · replace c8 := Bool.eq_false_iff.mpr c8
        subst c8
        have H1 : (rubricatorlaw19_BlockLazy.j0 k l0 a1 a2 a3 true) = some r := by rw [if_neg (show ¬ (false = true) by decide)] at H; exact H
        clear H
        have H := H1
        clear H1
        have H' := Aside0.mk H
        clear H
        go_wp2_with (first | (go_at_call 19; (with_reducible refine (rubricatorlaw19_word.calls k a1 false _ A7.out).mono ?_); rintro e w' ⟨rfl, ⟨nd, rfl⟩⟩))
        go_meet
        case rel => exact ⟨_, (true), (by first | rfl | (simp; done) | (simp [*]; done)), H', ⟨by first | omega | exact Nat.le_refl _⟩, ⟨by repeat (first | (with_reducible first | exact HB.out | apply below_alloc | apply pw_below_drewN | apply below_drew1) | exact HB.out)⟩⟩
  case rest =>
    clear HC5
    try clear c1
    try clear p2
    try clear c6
    try clear c6b0
    try clear c6b1
    try clear c8
    try clear c9
    try clear c10
    try clear c11
    try clear c11b0
    obtain ⟨kq, x34_4, rfl, HA, HJ4, HB⟩ := hcut
    cases kq with
    | zero => exact absurd HA.out (by simp [rubricatorlaw19_BlockLazy.j0])
    | succ kj4 =>
      have H := HA.out
      clear HA
      simp only [rubricatorlaw19_BlockLazy.j0] at H
      by_cases c12 : x34_4 = true
      · subst c12
        have H1 : ((rubricatorlaw19_known.f).bind fun t103 => (some t103)) = some r := by rw [if_pos rfl] at H; exact H
        clear H
        have H := H1
        clear H1
        replace H := Option.bind_eq_some_iff.mp H
        obtain ⟨t103, A130, H⟩ := H
        replace H : (some t103) = some r := H
        have A13 := Aside0.mk A130
        clear A130
        obtain rfl := Option.some.inj H
        go_wp2_with (first | ((with_reducible refine gate_callee (f := 17) rfl ?_); refine goesL_ (some 35) rfl rfl Tryz.func17 (by kernel_rfl) rfl #[] rfl (by (try simp only [List.map_toArray, List.map_cons, List.map_nil]); first | done | rfl | (simp only [List.length_drop, List.length_take]; rfl)) ?_; (with_reducible refine (rubricatorlaw19_known.calls  t103 _ ?side1 A13.out).mono ?_); (case side1 => first | (with_reducible exact hG) | (refine GL.below hG ?_; (repeat (first | (with_reducible first | exact HB.out | apply below_alloc | apply pw_below_drewN | apply below_drew1) | exact HB.out)); done) | (refine GL.drawn hG ?_; (repeat (first | exact Drawn0.refl _ | apply Drawn0.step)); done) | exact hG); rintro e w14 ⟨rfl, hb⟩; refine ⟨_, rfl, ?_⟩; have n0_ := Aside0.mk (below_step (by repeat (first | (with_reducible first | exact HB.out | apply below_alloc | apply pw_below_drewN | apply below_drew1) | exact HB.out)) hb); clear HB; have HB := n0_; clear n0_; (try clear hb); (try clear hb2); (try clear hk); (try clear hi)))
        go_ret
        exact ⟨by first | rfl | (simp [errW_none, errW_some] <;> rfl) | (simp [*, errW_none, errW_some] <;> rfl), by repeat (first | (with_reducible first | exact HB.out | apply below_alloc | apply pw_below_drewN | apply below_drew1) | exact HB.out)⟩
      · replace c12 := Bool.eq_false_iff.mpr c12
        subst c12
        have H1 : (rubricatorlaw19_BlockLazy.l0 kj4 l0 a1 a2 a3 (⟨#[]⟩ : ByteArray) (⟨#[]⟩ : ByteArray) 0) = some r := by rw [if_neg (show ¬ (false = true) by decide)] at H; exact H
        clear H
        have H := H1
        clear H1
        have H' := Aside0.mk H
        clear H
        go_wp2
        go_loopg [9, 11] kj4 (fun kq v9 v11 w' => ∃ (x9_2 : ByteArray) (x11_2 : Int), v9 = .string x9_2 ∧ v11 = .int .i64 x11_2 ∧ Aside0 (rubricatorlaw19_BlockLazy.l0 kq l0 a1 a2 a3 x9_2 (⟨#[]⟩ : ByteArray) x11_2 = some r) ∧ Aside0 (kq ≤ kj4) ∧ Aside0 (Below w.heap.size w w'))
        case atStart => exact ⟨((⟨#[]⟩ : ByteArray)), (0), (by first | rfl | (simp; done) | (simp [*]; done)), (by first | rfl | (simp; done) | (simp [*]; done)), H', ⟨Nat.le_refl _⟩, ⟨by repeat (first | (with_reducible first | exact HB.out | apply below_alloc | apply pw_below_drewN | apply below_drew1) | exact HB.out)⟩⟩
        case round =>
          clear H'
          try clear c1
          try clear p2
          try clear c6
          try clear c6b0
          try clear c6b1
          try clear c8
          try clear c9
          try clear c10
          try clear c11
          try clear c11b0
          try clear c12
          try clear p2
          obtain ⟨x9_2, x11_2, rfl, rfl, HA, HK2, HB⟩ := hrel
          cases gk with
          | zero => exact absurd HA.out (by simp [rubricatorlaw19_BlockLazy.l0])
          | succ k2 =>
            have H := HA.out
            clear HA
            simp only [rubricatorlaw19_BlockLazy.l0] at H
            by_cases c15 : x11_2 < (l0.length : Int)
            · rw [if_pos c15] at H
              have c15b0 : decide (x11_2 < (l0.length : Int)) = true := decide_eq_true c15
              clear c15
              obtain ⟨y104, hy104⟩ : ∃ y_ : List ByteArray, y_ = (([(⟨#[62, 32]⟩ : ByteArray), (⟨#[45, 32]⟩ : ByteArray), (⟨#[49, 46, 32]⟩ : ByteArray)] : List ByteArray)) := ⟨_, rfl⟩
              replace H : (if 0 ≤ x11_2 then (if 0 ≤ (Int.tmod (Go.bits .and .i64 (rd l0 x11_2) 1023) 3) then (if (Int.tmod (Go.bits .and .i64 (rd l0 x11_2) 1023) 3) < (y104.length : Int) then (if x9_2.size + (rdOf ByteArray.empty y104 (Int.tmod (Go.bits .and .i64 (rd l0 x11_2) 1023) 3)).size ≤ 9223372036854775807 then (rubricatorlaw19_BlockLazy.l0 k2 l0 a1 a2 a3 (x9_2 ++ (rdOf ByteArray.empty y104 (Int.tmod (Go.bits .and .i64 (rd l0 x11_2) 1023) 3))) (⟨#[]⟩ : ByteArray) (wrap64 (x11_2 + 1))) else (none)) else (none)) else (none)) else (none)) = some r := by first | (rw [hy104]; with_reducible exact H) | (have H2_ := (Option.bind_some _ _).symm.trans H; rw [hy104]; with_reducible exact H2_) | (have H2_ := (Option.bind_some _ _).symm.trans H; with_reducible exact H2_) | with_reducible exact H | (rw [hy104]; exact H) | exact H
              have Ny104 := Aside0.mk hy104
              clear hy104
              by_cases c16 : 0 ≤ x11_2
              · rw [if_pos c16] at H
                have c16b0 : decide (0 ≤ x11_2) = true := decide_eq_true c16
                clear c16
                obtain ⟨ji17, hji17⟩ : ∃ j_ : Int, (Int.tmod (Go.bits .and .i64 (rd l0 x11_2) 1023) 3) = j_ := ⟨_, rfl⟩
                replace H : (if 0 ≤ (ji17) then (if (ji17) < (y104.length : Int) then (if x9_2.size + (rdOf ByteArray.empty y104 (ji17)).size ≤ 9223372036854775807 then (rubricatorlaw19_BlockLazy.l0 k2 l0 a1 a2 a3 (x9_2 ++ (rdOf ByteArray.empty y104 (ji17))) (⟨#[]⟩ : ByteArray) (wrap64 (x11_2 + 1))) else (none)) else (none)) else (none)) = some r := by first | (rw [hji17] at H; exact H) | (simp only [hji17] at H ⊢; exact H)
                by_cases c18 : 0 ≤ (ji17)
                · rw [if_pos c18] at H
                  have c18b0 : decide (0 ≤ (ji17)) = true := decide_eq_true c18
                  clear c18
                  by_cases c19 : (ji17) < (y104.length : Int)
                  · rw [if_pos c19] at H
                    have c19b0 : decide ((ji17) < (y104.length : Int)) = true := decide_eq_true c19
                    clear c19
                    by_cases c20 : x9_2.size + (rdOf ByteArray.empty y104 (ji17)).size ≤ 9223372036854775807
                    · rw [if_pos c20] at H
                      have c20b0 := eq_true c20
                      have c20b1 : decide (x9_2.size + (rdOf ByteArray.empty y104 (ji17)).size ≤ 9223372036854775807) = true := decide_eq_true c20
                      try have c20b2 : (9223372036854775807 < x9_2.size + (rdOf ByteArray.empty y104 (ji17)).size) = False := eq_false (Nat.not_lt.2 c20)
                      have H' := Aside0.mk H
                      clear H
                      go_wp2_with (first | ((with_reducible refine gate_dst (N := 43) rfl ?_); refine Kd.R_lit Kd.string _ 9 ?hg (N := 43) ?hd (xs := ([(⟨#[62, 32]⟩ : ByteArray), (⟨#[45, 32]⟩ : ByteArray), (⟨#[49, 46, 32]⟩ : ByteArray)] : List ByteArray)) (inner := [.string (⟨#[62, 32]⟩ : ByteArray), .string (⟨#[45, 32]⟩ : ByteArray), .string (⟨#[49, 46, 32]⟩ : ByteArray)]) (ok := fun _ => True) (okp := fun _ => True) ?hr ?hp (fun _ hk => hk) trivial (Below.refl _ _) (Nat.le_refl _) (by simp) ?_; (case hd => rfl); (case hg => rfl); (case hr => first | (go_simp; done) | (go_simp; rfl)); (case hp => exact (Reps.one (show Kd.M Kd.string _ _ _ (⟨#[62, 32]⟩ : ByteArray) [.string (⟨#[62, 32]⟩ : ByteArray)] from rfl) (Reps.one (show Kd.M Kd.string _ _ _ (⟨#[45, 32]⟩ : ByteArray) [.string (⟨#[45, 32]⟩ : ByteArray)] from rfl) (Reps.one (show Kd.M Kd.string _ _ _ (⟨#[49, 46, 32]⟩ : ByteArray) [.string (⟨#[49, 46, 32]⟩ : ByteArray)] from rfl) (Reps.none _ _))))); intro v105 w21 ho22 hb hg_ hnew_; clear hg_ hnew_; (first | rw [← Ny104.out] at ho22 | (simp only [Int.reduceToNat] at ho22; rw [← Ny104.out] at ho22)); have n0_ := Aside0.mk (Kd.R_lower ho22 (below_size (by repeat (first | (with_reducible first | exact HB.out | apply below_alloc | apply pw_below_drewN | apply below_drew1) | exact HB.out)))); have n1_ := Aside0.mk (below_step (by repeat (first | (with_reducible first | exact HB.out | apply below_alloc | apply pw_below_drewN | apply below_drew1) | exact HB.out)) hb); clear HB; have HO106 := n0_; have HB := n1_; clear n0_ n1_; clear hb ho22; have p107 : 0 ≤ (x11_2 : Int) := of_decide_eq_true (by first | (with_reducible assumption) | assumption); have q107 : x11_2 < (l0.length : Int) := of_decide_eq_true (by first | (with_reducible assumption) | assumption); obtain ⟨ad107, e107, hx107_0⟩ := Kd.at_int HR0.out x11_2 p107 q107; cases e107; replace hx107_0 := (HB.out.cell (World.block_lt_of_cell? w _ hx107_0)).trans hx107_0; replace p107 := eq_true p107; replace q107 := eq_true q107; obtain ⟨Ao23, co23, eo23⟩ := Kd.R_slice HO106.out; subst eo23; have p108 : 0 ≤ ((ji17) : Int) := of_decide_eq_true (by first | (with_reducible assumption) | assumption); have q108 : (ji17) < (y104.length : Int) := of_decide_eq_true (by first | (with_reducible assumption) | assumption); obtain ⟨ad108, e108, hx108_0⟩ := Kd.at_string (Kd.R_reads' HO106.out).2.2 (ji17) p108 q108; cases e108; replace p108 := eq_true p108; replace q108 := eq_true q108))
                      go_roundg k2
                      case measure => have := HJ4.out; have := HK2.out; omega
                      case rel => exact ⟨(x9_2 ++ (rdOf ByteArray.empty y104 (ji17))), (wrap64 (x11_2 + 1)), (by first | rfl | (simp; done) | (simp only [← hji17] <;> (first | rfl | simp)) | (simp [*]; done)), (by first | rfl | (simp; done) | (simp [*]; done)), H', ⟨by have := HJ4.out; have := HK2.out; omega⟩, ⟨by repeat (first | (with_reducible first | exact HB.out | apply below_alloc | apply pw_below_drewN | apply below_drew1) | exact HB.out)⟩⟩
                    · rw [if_neg c20] at H
                      exact absurd H (by simp)
                  · rw [if_neg c19] at H
                    exact absurd H (by simp)
                · rw [if_neg c18] at H
                  exact absurd H (by simp)
              · rw [if_neg c16] at H
                exact absurd H (by simp)
            · rw [if_neg c15] at H
              have c15b0 : decide (x11_2 < (l0.length : Int)) = false := decide_eq_false c15
              clear c15
              have H' := Aside0.mk H
              clear H
              go_wp2
              go_loopg [10, 12] k2 (fun kq v10 v12 w' => ∃ (x10_3 : ByteArray) (x12_3 : Int), v10 = .string x10_3 ∧ v12 = .int .i64 x12_3 ∧ Aside0 (rubricatorlaw19_BlockLazy.l1 kq a1 a2 a3 x9_2 x10_3 x12_3 = some r) ∧ Aside0 (kq ≤ k2) ∧ Aside0 (Below w.heap.size w w'))
              case atStart => exact ⟨((⟨#[]⟩ : ByteArray)), (0), (by first | rfl | (simp; done) | (simp [*]; done)), (by first | rfl | (simp; done) | (simp [*]; done)), H', ⟨Nat.le_refl _⟩, ⟨by repeat (first | (with_reducible first | exact HB.out | apply below_alloc | apply pw_below_drewN | apply below_drew1) | exact HB.out)⟩⟩
              case round =>
                clear H'
                try clear c1
                try clear p1
                try clear q1
                try clear hx1
                try clear c2
                try clear p2
                try clear c6
                try clear c6b0
                try clear c6b1
                try clear p6
                try clear c8
                try clear c9
                try clear c10
                try clear p10
                try clear q10
                try clear hx10
                try clear c11
                try clear c11b0
                try clear c12
                try clear c15
                try clear c15b0
                try clear c16
                try clear c16b0
                try clear c17
                try clear c18
                try clear c18b0
                try clear c19
                try clear c19b0
                try clear c20
                try clear c20b0
                try clear c20b1
                try clear c20b2
                try clear hx107_0
                try clear hx108_0
                try clear p107
                try clear p108
                try clear p2
                try clear q107
                try clear q108
                obtain ⟨x10_3, x12_3, rfl, rfl, HA, HK3, HB⟩ := hrel
                cases gk with
                | zero => exact absurd HA.out (by simp [rubricatorlaw19_BlockLazy.l1])
                | succ k3 =>
                  have H := HA.out
                  clear HA
                  simp only [rubricatorlaw19_BlockLazy.l1] at H
                  by_cases c24 : x12_3 < a3
                  · rw [if_pos c24] at H
                    have c24b0 : decide (x12_3 < a3) = true := decide_eq_true c24
                    clear c24
                    by_cases c25 : x10_3.size + 1 ≤ 9223372036854775807
                    · rw [if_pos c25] at H
                      have c25b0 := eq_true c25
                      have c25b1 : decide (x10_3.size + 1 ≤ 9223372036854775807) = true := decide_eq_true c25
                      try have c25b2 : (9223372036854775807 < x10_3.size + 1) = False := eq_false (Nat.not_lt.2 c25)
                      have H' := Aside0.mk H
                      clear H
                      go_wp2
                      go_roundg k3
                      case measure => have := HJ4.out; have := HK2.out; have := HK3.out; omega
                      case rel => exact ⟨(x10_3 ++ (⟨#[32]⟩ : ByteArray)), (wrap64 (x12_3 + 1)), (by first | rfl | (simp; done) | (simp [*]; done)), (by first | rfl | (simp; done) | (simp [*]; done)), H', ⟨by have := HJ4.out; have := HK2.out; have := HK3.out; omega⟩, ⟨by repeat (first | (with_reducible first | exact HB.out | apply below_alloc | apply pw_below_drewN | apply below_drew1) | exact HB.out)⟩⟩
                    · rw [if_neg c25] at H
                      exact absurd H (by simp)
                  · rw [if_neg c24] at H
                    have c24b0 : decide (x12_3 < a3) = false := decide_eq_false c24
                    clear c24
                    by_cases c26 : x9_2.size + a1.size ≤ 9223372036854775807
                    · rw [if_pos c26] at H
                      have c26b0 := eq_true c26
                      have c26b1 : decide (x9_2.size + a1.size ≤ 9223372036854775807) = true := decide_eq_true c26
                      try have c26b2 : (9223372036854775807 < x9_2.size + a1.size) = False := eq_false (Nat.not_lt.2 c26)
                      by_cases c27 : x10_3.size + a2.size ≤ 9223372036854775807
                      · rw [if_pos c27] at H
                        have c27b0 := eq_true c27
                        have c27b1 : decide (x10_3.size + a2.size ≤ 9223372036854775807) = true := decide_eq_true c27
                        try have c27b2 : (9223372036854775807 < x10_3.size + a2.size) = False := eq_false (Nat.not_lt.2 c27)
                        obtain ⟨y109, hy109⟩ : ∃ y_ : List ByteArray, y_ = (([x9_2 ++ a1, x10_3 ++ a2] : List ByteArray)) := ⟨_, rfl⟩
                        replace H : ((block_Parse.f y109).bind fun bt112 => ((rubricatorlaw19_rule.f k3 x9_2).bind fun t123 => (if t123 = true then ((rubricatorlaw19_known.f).bind fun t124 => (some t124)) else (rubricatorlaw19_BlockLazy.l2 k3 a1 a2 bt112.1 bt112.2.1 bt112.2.2.1 bt112.2.2.2.1 bt112.2.2.2.2.1 bt112.2.2.2.2.2.1 bt112.2.2.2.2.2.2.1 bt112.2.2.2.2.2.2.2)))) = some r := by first | (rw [hy109]; with_reducible exact H) | (have H2_ := (Option.bind_some _ _).symm.trans H; rw [hy109]; with_reducible exact H2_) | (have H2_ := (Option.bind_some _ _).symm.trans H; with_reducible exact H2_) | with_reducible exact H | (rw [hy109]; exact H) | exact H
                        have Ny109 := Aside0.mk hy109
                        clear hy109
                        replace H := Option.bind_eq_some_iff.mp H
                        obtain ⟨⟨t112, t113, t114, t115, t116, t117, t118, t119⟩, A280, H⟩ := H
                        replace H : ((rubricatorlaw19_rule.f k3 x9_2).bind fun t123 => (if t123 = true then ((rubricatorlaw19_known.f).bind fun t124 => (some t124)) else (rubricatorlaw19_BlockLazy.l2 k3 a1 a2 t112 t113 t114 t115 t116 t117 t118 t119))) = some r := H
                        have A28 := Aside0.mk A280
                        clear A280
                        replace H := Option.bind_eq_some_iff.mp H
                        obtain ⟨t123, A290, H⟩ := H
                        replace H : (if t123 = true then ((rubricatorlaw19_known.f).bind fun t124 => (some t124)) else (rubricatorlaw19_BlockLazy.l2 k3 a1 a2 t112 t113 t114 t115 t116 t117 t118 t119)) = some r := H
                        have A29 := Aside0.mk A290
                        clear A290
                        by_cases c30 : t123 = true
                        · subst c30
                          have H1 : ((rubricatorlaw19_known.f).bind fun t124 => (some t124)) = some r := by rw [if_pos rfl] at H; exact H
                          clear H
                          have H := H1
                          clear H1
                          replace H := Option.bind_eq_some_iff.mp H
                          obtain ⟨t124, A310, H⟩ := H
                          replace H : (some t124) = some r := H
                          have A31 := Aside0.mk A310
                          clear A310
                          obtain rfl := Option.some.inj H
                          go_wp2_with (first | ((with_reducible refine gate_dst (N := 66) rfl ?_); refine Kd.R_lit Kd.string _ 9 ?hg (N := 66) ?hd (xs := ([x9_2 ++ a1, x10_3 ++ a2] : List ByteArray)) (inner := [.string (x9_2 ++ a1), .string (x10_3 ++ a2)]) (ok := fun _ => True) (okp := fun _ => True) ?hr ?hp (fun _ hk => hk) trivial (Below.refl _ _) (Nat.le_refl _) (by simp) ?_; (case hd => rfl); (case hg => rfl); (case hr => first | (go_simp; done) | (go_simp; rfl)); (case hp => exact (Reps.one (show Kd.M Kd.string _ _ _ (x9_2 ++ a1) [.string (x9_2 ++ a1)] from rfl) (Reps.one (show Kd.M Kd.string _ _ _ (x10_3 ++ a2) [.string (x10_3 ++ a2)] from rfl) (Reps.none _ _)))); intro v110 w32 ho33 hb hg_ hnew_; clear hg_ hnew_; (first | rw [← Ny109.out] at ho33 | (simp only [Int.reduceToNat] at ho33; rw [← Ny109.out] at ho33)); have n0_ := Aside0.mk (Kd.R_lower ho33 (below_size (by repeat (first | (with_reducible first | exact HB.out | apply below_alloc | apply pw_below_drewN | apply below_drew1) | exact HB.out)))); have n1_ := Aside0.mk (below_step (by repeat (first | (with_reducible first | exact HB.out | apply below_alloc | apply pw_below_drewN | apply below_drew1) | exact HB.out)) hb); clear HB; have HO111 := n0_; have HB := n1_; clear n0_ n1_; clear hb ho33; obtain ⟨Ao34, co34, eo34⟩ := Kd.R_slice HO111.out; subst eo34) | ((with_reducible refine gate_callee (f := 14) rfl ?_); refine goesL_ (some 67) rfl rfl Tryz.func14 (by kernel_rfl) rfl #[.slice Ao34 y109.length co34] rfl (by (try simp only [List.map_toArray, List.map_cons, List.map_nil]); first | done | rfl | (simp only [List.length_drop, List.length_take]; rfl)) ?_; (with_reducible refine (block_Parse.calls _ _ y109 t112 t113 t114 t115 t116 t117 t118 t119 _ ?side1 ?side2 ?side3 A28.out).mono ?_); (case side1 => first | (with_reducible exact hG) | (refine GL.below hG ?_; (repeat (first | (with_reducible first | exact HB.out | apply below_alloc | apply pw_below_drewN | apply below_drew1) | exact HB.out)); done) | (refine GL.drawn hG ?_; (repeat (first | exact Drawn0.refl _ | apply Drawn0.step)); done) | exact hG); (case side2 => repeat (first | exact (Kd.R_reads' HO111.out).2.2 | (with_reducible refine Kd.C_alloc ?_ _) | (with_reducible refine Kd.C_drewN ?_ _) | (with_reducible refine Kd.C_drew ?_))); (case side3 => exact (Kd.R_reads' HO111.out).2.1); rintro e w35 ⟨v120, rfl, ho0, hb⟩; refine ⟨_, rfl, ?_⟩; have n0_ := Aside0.mk (Kd.R_below (by (with_reducible repeat (first | apply Kd.R_alloc | apply Kd.R_drewN | apply Kd.R_drew)); exact HO111.out) hb); have n1_ := Aside0.mk (Kd.R_lower ho0 (below_size (by repeat (first | (with_reducible first | exact HB.out | apply below_alloc | apply pw_below_drewN | apply below_drew1) | exact HB.out)))); have n2_ := Aside0.mk (below_step (by repeat (first | (with_reducible first | exact HB.out | apply below_alloc | apply pw_below_drewN | apply below_drew1) | exact HB.out)) hb); clear HO111; clear HB; have HO111 := n0_; have HO121 := n1_; have HB := n2_; clear n0_ n1_ n2_; (try clear hb); (try clear hb2); (try clear hk); (try clear hi); (try clear ho0)) | ((with_reducible refine gate_dst (N := 13) rfl ?_); refine box_event ?hg (N := 13) ?hd (cs := #[.int .i64 0, .int .i64 0, .bool false, .bool false, .string (⟨#[]⟩ : ByteArray), .string (⟨#[]⟩ : ByteArray), .string (⟨#[]⟩ : ByteArray), .slice none 0 0]) (t := 27) ?hr ?_; (case hd => rfl); (case hg => rfl); (case hr => first | (go_simp; done) | (go_simp; rfl)); intro gb122 hg w36 hbox hb; have n0_ := Aside0.mk (Kd.R_below (by (with_reducible repeat (first | apply Kd.R_alloc | apply Kd.R_drewN | apply Kd.R_drew)); exact HO111.out) hb); have n1_ := Aside0.mk (Kd.R_below (Kd.R_elderB (by (with_reducible repeat (first | apply Kd.R_alloc | apply Kd.R_drewN | apply Kd.R_drew)); exact HO121.out) gb122 (Nat.le_of_eq hg.symm)) hb); have n2_ := Aside0.mk (below_step (by repeat (first | (with_reducible first | exact HB.out | apply below_alloc | apply pw_below_drewN | apply below_drew1) | exact HB.out)) hb); have n3_ := Aside0.mk (hbox); have n4_ := Aside0.mk ((by rw [hg]; exact (below_size (by repeat (first | (with_reducible first | exact HB.out | apply below_alloc | apply pw_below_drewN | apply below_drew1) | exact HB.out))) : w.heap.size ≤ gb122)); have n5_ := Aside0.mk ((by rw [hg]; exact (below_size (by repeat (first | (with_reducible first | exact HB.out | apply below_alloc | apply pw_below_drewN | apply below_drew1) | exact HB.out))) : w.heap.size ≤ gb122)); clear HO111; clear HO121; clear HB; have HO111 := n0_; have HO121 := n1_; have HB := n2_; have BK122 := n3_; have GW122 := n4_; have GE122 := n5_; clear n0_ n1_ n2_ n3_ n4_ n5_; clear hb hbox hg; have hcz37_0 : w36.cell? ⟨gb122, 0, none⟩ = some (.int .i64 0) := (blk_cell BK122.out 0).trans rfl; have hcz37_1 : w36.cell? ⟨gb122, 1, none⟩ = some (.int .i64 0) := (blk_cell BK122.out 1).trans rfl; have hcz37_2 : w36.cell? ⟨gb122, 2, none⟩ = some (.bool false) := (blk_cell BK122.out 2).trans rfl; have hcz37_3 : w36.cell? ⟨gb122, 3, none⟩ = some (.bool false) := (blk_cell BK122.out 3).trans rfl; have hcz37_4 : w36.cell? ⟨gb122, 4, none⟩ = some (.string (⟨#[]⟩ : ByteArray)) := (blk_cell BK122.out 4).trans rfl; have hcz37_5 : w36.cell? ⟨gb122, 5, none⟩ = some (.string (⟨#[]⟩ : ByteArray)) := (blk_cell BK122.out 5).trans rfl; have hcz37_6 : w36.cell? ⟨gb122, 6, none⟩ = some (.string (⟨#[]⟩ : ByteArray)) := (blk_cell BK122.out 6).trans rfl; have hcz37_7 : w36.cell? ⟨gb122, 7, none⟩ = some (.slice none 0 0) := (blk_cell BK122.out 7).trans rfl; have hfz37_0 := blk_frozen BK122.out 0; have hfz37_1 := blk_frozen BK122.out 1; have hfz37_2 := blk_frozen BK122.out 2; have hfz37_3 := blk_frozen BK122.out 3; have hfz37_4 := blk_frozen BK122.out 4; have hfz37_5 := blk_frozen BK122.out 5; have hfz37_6 := blk_frozen BK122.out 6; have hfz37_7 := blk_frozen BK122.out 7; obtain ⟨Ao38, co38, eo38⟩ := Kd.R_slice HO121.out; subst eo38) | ((with_reducible refine gate_callee (f := 18) rfl ?_); refine goesL_ (some 69) rfl rfl Tryz.func18 (by kernel_rfl) rfl #[.string x9_2] rfl (by (try simp only [List.map_toArray, List.map_cons, List.map_nil]); first | done | rfl | (simp only [List.length_drop, List.length_take]; rfl)) ?_; (with_reducible refine (rubricatorlaw19_rule.calls k3 x9_2 true _ A29.out).mono ?_); rintro e w' ⟨rfl, ⟨nd, rfl⟩⟩; refine ⟨_, rfl, ?_⟩) | ((with_reducible refine gate_callee (f := 17) rfl ?_); refine goesL_ (some 70) rfl rfl Tryz.func17 (by kernel_rfl) rfl #[] rfl (by (try simp only [List.map_toArray, List.map_cons, List.map_nil]); first | done | rfl | (simp only [List.length_drop, List.length_take]; rfl)) ?_; (with_reducible refine (rubricatorlaw19_known.calls  t124 _ ?side1 A31.out).mono ?_); (case side1 => first | (with_reducible exact hG) | (refine GL.below hG ?_; (repeat (first | (with_reducible first | exact HB.out | apply below_alloc | apply pw_below_drewN | apply below_drew1 | refine below_set ?_ GE122.out) | exact HB.out)); done) | (refine GL.drawn hG ?_; (repeat (first | exact Drawn0.refl _ | apply Drawn0.step)); done) | exact hG); rintro e w39 ⟨rfl, hb⟩; refine ⟨_, rfl, ?_⟩; have n0_ := Aside0.mk (Kd.R_below (by (with_reducible repeat (first | apply Kd.R_alloc | apply Kd.R_drewN | apply Kd.R_drew)); exact (Kd.R_mono (Kd.R_far (p := ⟨gb122, 7, none⟩) (Kd.R_far (p := ⟨gb122, 6, none⟩) (Kd.R_far (p := ⟨gb122, 5, none⟩) (Kd.R_far (p := ⟨gb122, 4, none⟩) (Kd.R_far (p := ⟨gb122, 3, none⟩) (Kd.R_far (p := ⟨gb122, 2, none⟩) (Kd.R_far (p := ⟨gb122, 1, none⟩) (Kd.R_far (p := ⟨gb122, 0, none⟩) (Kd.R_types HO111.out BK122.out (by decide)) (fun _ hk => hk.2) (.int .i64 t112)) (fun _ hk => hk.2) (.int .i64 t113)) (fun _ hk => hk.2) (.bool t114)) (fun _ hk => hk.2) (.bool t115)) (fun _ hk => hk.2) (.string t116)) (fun _ hk => hk.2) (.string t117)) (fun _ hk => hk.2) (.string t118)) (fun _ hk => hk.2) (.slice Ao38 t119.length co38)) (fun _ h_ => h_.1))) hb); have n1_ := Aside0.mk (Kd.R_below (by (with_reducible repeat (first | apply Kd.R_alloc | apply Kd.R_drewN | apply Kd.R_drew)); exact (Kd.R_mono (Kd.R_far (p := ⟨gb122, 7, none⟩) (Kd.R_far (p := ⟨gb122, 6, none⟩) (Kd.R_far (p := ⟨gb122, 5, none⟩) (Kd.R_far (p := ⟨gb122, 4, none⟩) (Kd.R_far (p := ⟨gb122, 3, none⟩) (Kd.R_far (p := ⟨gb122, 2, none⟩) (Kd.R_far (p := ⟨gb122, 1, none⟩) (Kd.R_far (p := ⟨gb122, 0, none⟩) (Kd.R_mono HO121.out (fun k_ hk => (⟨hk, hk.2⟩ : _ ∧ k_ ≠ gb122))) (fun _ hk => hk.2) (.int .i64 t112)) (fun _ hk => hk.2) (.int .i64 t113)) (fun _ hk => hk.2) (.bool t114)) (fun _ hk => hk.2) (.bool t115)) (fun _ hk => hk.2) (.string t116)) (fun _ hk => hk.2) (.string t117)) (fun _ hk => hk.2) (.string t118)) (fun _ hk => hk.2) (.slice Ao38 t119.length co38)) (fun _ h_ => h_.1))) hb); have n2_ := Aside0.mk (blk_below (g := gb122) (o := .cells #[.int .i64 t112, .int .i64 t113, .bool t114, .bool t115, .string t116, .string t117, .string t118, .slice Ao38 t119.length co38] 27 (0, 0)) (by (with_reducible repeat (first | refine blk_drewN ?_ _ | refine blk_drew ?_ | refine blk_alloc ?_ _)); refine blk_put (cs := #[.int .i64 t112, .int .i64 t113, .bool t114, .bool t115, .string t116, .string t117, .string t118, .slice none 0 0]) ?_ 7 _ rfl; (with_reducible repeat (first | refine blk_drewN ?_ _ | refine blk_drew ?_ | refine blk_alloc ?_ _)); refine blk_put (cs := #[.int .i64 t112, .int .i64 t113, .bool t114, .bool t115, .string t116, .string t117, .string (⟨#[]⟩ : ByteArray), .slice none 0 0]) ?_ 6 _ rfl; (with_reducible repeat (first | refine blk_drewN ?_ _ | refine blk_drew ?_ | refine blk_alloc ?_ _)); refine blk_put (cs := #[.int .i64 t112, .int .i64 t113, .bool t114, .bool t115, .string t116, .string (⟨#[]⟩ : ByteArray), .string (⟨#[]⟩ : ByteArray), .slice none 0 0]) ?_ 5 _ rfl; (with_reducible repeat (first | refine blk_drewN ?_ _ | refine blk_drew ?_ | refine blk_alloc ?_ _)); refine blk_put (cs := #[.int .i64 t112, .int .i64 t113, .bool t114, .bool t115, .string (⟨#[]⟩ : ByteArray), .string (⟨#[]⟩ : ByteArray), .string (⟨#[]⟩ : ByteArray), .slice none 0 0]) ?_ 4 _ rfl; (with_reducible repeat (first | refine blk_drewN ?_ _ | refine blk_drew ?_ | refine blk_alloc ?_ _)); refine blk_put (cs := #[.int .i64 t112, .int .i64 t113, .bool t114, .bool false, .string (⟨#[]⟩ : ByteArray), .string (⟨#[]⟩ : ByteArray), .string (⟨#[]⟩ : ByteArray), .slice none 0 0]) ?_ 3 _ rfl; (with_reducible repeat (first | refine blk_drewN ?_ _ | refine blk_drew ?_ | refine blk_alloc ?_ _)); refine blk_put (cs := #[.int .i64 t112, .int .i64 t113, .bool false, .bool false, .string (⟨#[]⟩ : ByteArray), .string (⟨#[]⟩ : ByteArray), .string (⟨#[]⟩ : ByteArray), .slice none 0 0]) ?_ 2 _ rfl; (with_reducible repeat (first | refine blk_drewN ?_ _ | refine blk_drew ?_ | refine blk_alloc ?_ _)); refine blk_put (cs := #[.int .i64 t112, .int .i64 0, .bool false, .bool false, .string (⟨#[]⟩ : ByteArray), .string (⟨#[]⟩ : ByteArray), .string (⟨#[]⟩ : ByteArray), .slice none 0 0]) ?_ 1 _ rfl; (with_reducible repeat (first | refine blk_drewN ?_ _ | refine blk_drew ?_ | refine blk_alloc ?_ _)); refine blk_put (cs := #[.int .i64 0, .int .i64 0, .bool false, .bool false, .string (⟨#[]⟩ : ByteArray), .string (⟨#[]⟩ : ByteArray), .string (⟨#[]⟩ : ByteArray), .slice none 0 0]) ?_ 0 _ rfl; (with_reducible repeat (first | refine blk_drewN ?_ _ | refine blk_drew ?_ | refine blk_alloc ?_ _)); exact BK122.out) hb); have n3_ := Aside0.mk (below_step (by repeat (first | (with_reducible first | exact HB.out | apply below_alloc | apply pw_below_drewN | apply below_drew1 | refine below_set ?_ GE122.out) | exact HB.out)) hb); clear HO111; clear HO121; clear BK122; clear HB; have HO111 := n0_; have HO121 := n1_; have BK122 := n2_; have HB := n3_; clear n0_ n1_ n2_ n3_; (try clear hb); (try clear hb2); (try clear hk); (try clear hi)))
                          go_ret
                          exact ⟨by first | rfl | (simp [errW_none, errW_some] <;> rfl) | (simp [*, errW_none, errW_some] <;> rfl), by repeat (first | (with_reducible first | exact HB.out | apply below_alloc | apply pw_below_drewN | apply below_drew1 | refine below_set ?_ GE122.out) | exact HB.out)⟩
                        · replace c30 := Bool.eq_false_iff.mpr c30
                          subst c30
                          have H1 : (rubricatorlaw19_BlockLazy.l2 k3 a1 a2 t112 t113 t114 t115 t116 t117 t118 t119) = some r := by rw [if_neg (show ¬ (false = true) by decide)] at H; exact H
                          clear H
                          have H := H1
                          clear H1
                          have H' := Aside0.mk H
                          clear H
                          go_wp2_with (first | ((with_reducible refine gate_dst (N := 66) rfl ?_); refine Kd.R_lit Kd.string _ 9 ?hg (N := 66) ?hd (xs := ([x9_2 ++ a1, x10_3 ++ a2] : List ByteArray)) (inner := [.string (x9_2 ++ a1), .string (x10_3 ++ a2)]) (ok := fun _ => True) (okp := fun _ => True) ?hr ?hp (fun _ hk => hk) trivial (Below.refl _ _) (Nat.le_refl _) (by simp) ?_; (case hd => rfl); (case hg => rfl); (case hr => first | (go_simp; done) | (go_simp; rfl)); (case hp => exact (Reps.one (show Kd.M Kd.string _ _ _ (x9_2 ++ a1) [.string (x9_2 ++ a1)] from rfl) (Reps.one (show Kd.M Kd.string _ _ _ (x10_3 ++ a2) [.string (x10_3 ++ a2)] from rfl) (Reps.none _ _)))); intro v110 w40 ho41 hb hg_ hnew_; clear hg_ hnew_; (first | rw [← Ny109.out] at ho41 | (simp only [Int.reduceToNat] at ho41; rw [← Ny109.out] at ho41)); have n0_ := Aside0.mk (Kd.R_lower ho41 (below_size (by repeat (first | (with_reducible first | exact HB.out | apply below_alloc | apply pw_below_drewN | apply below_drew1) | exact HB.out)))); have n1_ := Aside0.mk (below_step (by repeat (first | (with_reducible first | exact HB.out | apply below_alloc | apply pw_below_drewN | apply below_drew1) | exact HB.out)) hb); clear HB; have HO111 := n0_; have HB := n1_; clear n0_ n1_; clear hb ho41; obtain ⟨Ao42, co42, eo42⟩ := Kd.R_slice HO111.out; subst eo42) | ((with_reducible refine gate_callee (f := 14) rfl ?_); refine goesL_ (some 67) rfl rfl Tryz.func14 (by kernel_rfl) rfl #[.slice Ao42 y109.length co42] rfl (by (try simp only [List.map_toArray, List.map_cons, List.map_nil]); first | done | rfl | (simp only [List.length_drop, List.length_take]; rfl)) ?_; (with_reducible refine (block_Parse.calls _ _ y109 t112 t113 t114 t115 t116 t117 t118 t119 _ ?side1 ?side2 ?side3 A28.out).mono ?_); (case side1 => first | (with_reducible exact hG) | (refine GL.below hG ?_; (repeat (first | (with_reducible first | exact HB.out | apply below_alloc | apply pw_below_drewN | apply below_drew1) | exact HB.out)); done) | (refine GL.drawn hG ?_; (repeat (first | exact Drawn0.refl _ | apply Drawn0.step)); done) | exact hG); (case side2 => repeat (first | exact (Kd.R_reads' HO111.out).2.2 | (with_reducible refine Kd.C_alloc ?_ _) | (with_reducible refine Kd.C_drewN ?_ _) | (with_reducible refine Kd.C_drew ?_))); (case side3 => exact (Kd.R_reads' HO111.out).2.1); rintro e w43 ⟨v120, rfl, ho0, hb⟩; refine ⟨_, rfl, ?_⟩; have n0_ := Aside0.mk (Kd.R_below (by (with_reducible repeat (first | apply Kd.R_alloc | apply Kd.R_drewN | apply Kd.R_drew)); exact HO111.out) hb); have n1_ := Aside0.mk (Kd.R_lower ho0 (below_size (by repeat (first | (with_reducible first | exact HB.out | apply below_alloc | apply pw_below_drewN | apply below_drew1) | exact HB.out)))); have n2_ := Aside0.mk (below_step (by repeat (first | (with_reducible first | exact HB.out | apply below_alloc | apply pw_below_drewN | apply below_drew1) | exact HB.out)) hb); clear HO111; clear HB; have HO111 := n0_; have HO121 := n1_; have HB := n2_; clear n0_ n1_ n2_; (try clear hb); (try clear hb2); (try clear hk); (try clear hi); (try clear ho0)) | ((with_reducible refine gate_dst (N := 13) rfl ?_); refine box_event ?hg (N := 13) ?hd (cs := #[.int .i64 0, .int .i64 0, .bool false, .bool false, .string (⟨#[]⟩ : ByteArray), .string (⟨#[]⟩ : ByteArray), .string (⟨#[]⟩ : ByteArray), .slice none 0 0]) (t := 27) ?hr ?_; (case hd => rfl); (case hg => rfl); (case hr => first | (go_simp; done) | (go_simp; rfl)); intro gb122 hg w44 hbox hb; have n0_ := Aside0.mk (Kd.R_below (by (with_reducible repeat (first | apply Kd.R_alloc | apply Kd.R_drewN | apply Kd.R_drew)); exact HO111.out) hb); have n1_ := Aside0.mk (Kd.R_below (Kd.R_elderB (by (with_reducible repeat (first | apply Kd.R_alloc | apply Kd.R_drewN | apply Kd.R_drew)); exact HO121.out) gb122 (Nat.le_of_eq hg.symm)) hb); have n2_ := Aside0.mk (below_step (by repeat (first | (with_reducible first | exact HB.out | apply below_alloc | apply pw_below_drewN | apply below_drew1) | exact HB.out)) hb); have n3_ := Aside0.mk (hbox); have n4_ := Aside0.mk ((by rw [hg]; exact (below_size (by repeat (first | (with_reducible first | exact HB.out | apply below_alloc | apply pw_below_drewN | apply below_drew1) | exact HB.out))) : w.heap.size ≤ gb122)); have n5_ := Aside0.mk ((by rw [hg]; exact (below_size (by repeat (first | (with_reducible first | exact HB.out | apply below_alloc | apply pw_below_drewN | apply below_drew1) | exact HB.out))) : w.heap.size ≤ gb122)); clear HO111; clear HO121; clear HB; have HO111 := n0_; have HO121 := n1_; have HB := n2_; have BK122 := n3_; have GW122 := n4_; have GE122 := n5_; clear n0_ n1_ n2_ n3_ n4_ n5_; clear hb hbox hg; have hcz45_0 : w44.cell? ⟨gb122, 0, none⟩ = some (.int .i64 0) := (blk_cell BK122.out 0).trans rfl; have hcz45_1 : w44.cell? ⟨gb122, 1, none⟩ = some (.int .i64 0) := (blk_cell BK122.out 1).trans rfl; have hcz45_2 : w44.cell? ⟨gb122, 2, none⟩ = some (.bool false) := (blk_cell BK122.out 2).trans rfl; have hcz45_3 : w44.cell? ⟨gb122, 3, none⟩ = some (.bool false) := (blk_cell BK122.out 3).trans rfl; have hcz45_4 : w44.cell? ⟨gb122, 4, none⟩ = some (.string (⟨#[]⟩ : ByteArray)) := (blk_cell BK122.out 4).trans rfl; have hcz45_5 : w44.cell? ⟨gb122, 5, none⟩ = some (.string (⟨#[]⟩ : ByteArray)) := (blk_cell BK122.out 5).trans rfl; have hcz45_6 : w44.cell? ⟨gb122, 6, none⟩ = some (.string (⟨#[]⟩ : ByteArray)) := (blk_cell BK122.out 6).trans rfl; have hcz45_7 : w44.cell? ⟨gb122, 7, none⟩ = some (.slice none 0 0) := (blk_cell BK122.out 7).trans rfl; have hfz45_0 := blk_frozen BK122.out 0; have hfz45_1 := blk_frozen BK122.out 1; have hfz45_2 := blk_frozen BK122.out 2; have hfz45_3 := blk_frozen BK122.out 3; have hfz45_4 := blk_frozen BK122.out 4; have hfz45_5 := blk_frozen BK122.out 5; have hfz45_6 := blk_frozen BK122.out 6; have hfz45_7 := blk_frozen BK122.out 7; obtain ⟨Ao46, co46, eo46⟩ := Kd.R_slice HO121.out; subst eo46) | ((with_reducible refine gate_callee (f := 18) rfl ?_); refine goesL_ (some 69) rfl rfl Tryz.func18 (by kernel_rfl) rfl #[.string x9_2] rfl (by (try simp only [List.map_toArray, List.map_cons, List.map_nil]); first | done | rfl | (simp only [List.length_drop, List.length_take]; rfl)) ?_; (with_reducible refine (rubricatorlaw19_rule.calls k3 x9_2 false _ A29.out).mono ?_); rintro e w' ⟨rfl, ⟨nd, rfl⟩⟩; refine ⟨_, rfl, ?_⟩))
                          try simp only [Act.put, List.setIfInBounds_toArray, List.set_cons_zero, List.set_cons_succ]
                          go_loopg [] k3 (fun kq w' => ∃ (x123000_4 : Int) (x123001_4 : Int) (x123002_4 : Bool) (x123003_4 : Bool) (x123004_4 : ByteArray) (x123005_4 : ByteArray) (x123006_4 : ByteArray) (x123007_4 : List (S27)) (u123007 : Value), Aside0 (rubricatorlaw19_BlockLazy.l2 kq a1 a2 x123000_4 x123001_4 x123002_4 x123003_4 x123004_4 x123005_4 x123006_4 x123007_4 = some r) ∧ Aside0 (kq ≤ k3) ∧ Aside0 (Kd.R k27 27 w' w.heap.size (fun k_ => k_ ≠ gb122) u123007 x123007_4) ∧ Aside0 (w'.heap[gb122]? = some (.cells #[.int .i64 x123000_4, .int .i64 x123001_4, .bool x123002_4, .bool x123003_4, .string x123004_4, .string x123005_4, .string x123006_4, u123007] 27 (0, 0))) ∧ Aside0 (Below w.heap.size w w'))
                          case atStart => exact ⟨(t112), (t113), (t114), (t115), (t116), (t117), (t118), (t119), (.slice Ao46 t119.length co46), H', ⟨Nat.le_refl _⟩, ⟨by (with_reducible repeat (first | apply Kd.R_alloc | apply Kd.R_drewN | apply Kd.R_drew)); exact Kd.R_mono (Kd.R_far (p := ⟨gb122, 7, none⟩) (Kd.R_far (p := ⟨gb122, 6, none⟩) (Kd.R_far (p := ⟨gb122, 5, none⟩) (Kd.R_far (p := ⟨gb122, 4, none⟩) (Kd.R_far (p := ⟨gb122, 3, none⟩) (Kd.R_far (p := ⟨gb122, 2, none⟩) (Kd.R_far (p := ⟨gb122, 1, none⟩) (Kd.R_far (p := ⟨gb122, 0, none⟩) (Kd.R_mono HO121.out (fun k_ hk => (⟨hk, hk.2⟩ : _ ∧ k_ ≠ gb122))) (fun _ hk => hk.2) (.int .i64 t112)) (fun _ hk => hk.2) (.int .i64 t113)) (fun _ hk => hk.2) (.bool t114)) (fun _ hk => hk.2) (.bool t115)) (fun _ hk => hk.2) (.string t116)) (fun _ hk => hk.2) (.string t117)) (fun _ hk => hk.2) (.string t118)) (fun _ hk => hk.2) (.slice Ao46 t119.length co46)) (fun _ hk => hk.1.2)⟩, ⟨by (with_reducible repeat (first | refine blk_drewN ?_ _ | refine blk_drew ?_ | refine blk_alloc ?_ _)); refine blk_put (cs := #[.int .i64 t112, .int .i64 t113, .bool t114, .bool t115, .string t116, .string t117, .string t118, .slice none 0 0]) ?_ 7 _ rfl; (with_reducible repeat (first | refine blk_drewN ?_ _ | refine blk_drew ?_ | refine blk_alloc ?_ _)); refine blk_put (cs := #[.int .i64 t112, .int .i64 t113, .bool t114, .bool t115, .string t116, .string t117, .string (⟨#[]⟩ : ByteArray), .slice none 0 0]) ?_ 6 _ rfl; (with_reducible repeat (first | refine blk_drewN ?_ _ | refine blk_drew ?_ | refine blk_alloc ?_ _)); refine blk_put (cs := #[.int .i64 t112, .int .i64 t113, .bool t114, .bool t115, .string t116, .string (⟨#[]⟩ : ByteArray), .string (⟨#[]⟩ : ByteArray), .slice none 0 0]) ?_ 5 _ rfl; (with_reducible repeat (first | refine blk_drewN ?_ _ | refine blk_drew ?_ | refine blk_alloc ?_ _)); refine blk_put (cs := #[.int .i64 t112, .int .i64 t113, .bool t114, .bool t115, .string (⟨#[]⟩ : ByteArray), .string (⟨#[]⟩ : ByteArray), .string (⟨#[]⟩ : ByteArray), .slice none 0 0]) ?_ 4 _ rfl; (with_reducible repeat (first | refine blk_drewN ?_ _ | refine blk_drew ?_ | refine blk_alloc ?_ _)); refine blk_put (cs := #[.int .i64 t112, .int .i64 t113, .bool t114, .bool false, .string (⟨#[]⟩ : ByteArray), .string (⟨#[]⟩ : ByteArray), .string (⟨#[]⟩ : ByteArray), .slice none 0 0]) ?_ 3 _ rfl; (with_reducible repeat (first | refine blk_drewN ?_ _ | refine blk_drew ?_ | refine blk_alloc ?_ _)); refine blk_put (cs := #[.int .i64 t112, .int .i64 t113, .bool false, .bool false, .string (⟨#[]⟩ : ByteArray), .string (⟨#[]⟩ : ByteArray), .string (⟨#[]⟩ : ByteArray), .slice none 0 0]) ?_ 2 _ rfl; (with_reducible repeat (first | refine blk_drewN ?_ _ | refine blk_drew ?_ | refine blk_alloc ?_ _)); refine blk_put (cs := #[.int .i64 t112, .int .i64 0, .bool false, .bool false, .string (⟨#[]⟩ : ByteArray), .string (⟨#[]⟩ : ByteArray), .string (⟨#[]⟩ : ByteArray), .slice none 0 0]) ?_ 1 _ rfl; (with_reducible repeat (first | refine blk_drewN ?_ _ | refine blk_drew ?_ | refine blk_alloc ?_ _)); refine blk_put (cs := #[.int .i64 0, .int .i64 0, .bool false, .bool false, .string (⟨#[]⟩ : ByteArray), .string (⟨#[]⟩ : ByteArray), .string (⟨#[]⟩ : ByteArray), .slice none 0 0]) ?_ 0 _ rfl; (with_reducible repeat (first | refine blk_drewN ?_ _ | refine blk_drew ?_ | refine blk_alloc ?_ _)); exact BK122.out⟩, ⟨by repeat (first | (with_reducible first | exact HB.out | apply below_alloc | apply pw_below_drewN | apply below_drew1 | refine below_set ?_ GE122.out) | exact HB.out)⟩⟩
                          case round =>
                            clear H'
                            try clear c1
                            try clear p1
                            try clear q1
                            try clear hx1
                            try clear c2
                            try clear p2
                            try clear c3
                            try clear c6
                            try clear c6b0
                            try clear c6b1
                            try clear p6
                            try clear c8
                            try clear c9
                            try clear c10
                            try clear p10
                            try clear q10
                            try clear hx10
                            try clear c11
                            try clear c11b0
                            try clear c12
                            try clear c14
                            try clear c15
                            try clear c15b0
                            try clear c16
                            try clear c16b0
                            try clear c17
                            try clear c18
                            try clear c18b0
                            try clear c19
                            try clear c19b0
                            try clear c20
                            try clear c20b0
                            try clear c20b1
                            try clear c20b2
                            try clear c24
                            try clear c24b0
                            try clear c25
                            try clear c25b0
                            try clear c25b1
                            try clear c25b2
                            try clear c26
                            try clear c26b0
                            try clear c26b1
                            try clear c26b2
                            try clear c27
                            try clear c27b0
                            try clear c27b1
                            try clear c27b2
                            try clear c30
                            try clear hcz37_0
                            try clear hcz37_1
                            try clear hcz37_2
                            try clear hcz37_3
                            try clear hcz37_4
                            try clear hcz37_5
                            try clear hcz37_6
                            try clear hcz37_7
                            try clear hcz45_0
                            try clear hcz45_1
                            try clear hcz45_2
                            try clear hcz45_3
                            try clear hcz45_4
                            try clear hcz45_5
                            try clear hcz45_6
                            try clear hcz45_7
                            try clear hfz37_0
                            try clear hfz37_1
                            try clear hfz37_2
                            try clear hfz37_3
                            try clear hfz37_4
                            try clear hfz37_5
                            try clear hfz37_6
                            try clear hfz37_7
                            try clear hfz45_0
                            try clear hfz45_1
                            try clear hfz45_2
                            try clear hfz45_3
                            try clear hfz45_4
                            try clear hfz45_5
                            try clear hfz45_6
                            try clear hfz45_7
                            try clear hx107_0
                            try clear hx108_0
                            try clear p1
                            try clear p10
                            try clear p107
                            try clear p108
                            try clear p2
                            try clear p6
                            try clear q1
                            try clear q10
                            try clear q107
                            try clear q108
                            obtain ⟨x123000_4, x123001_4, x123002_4, x123003_4, x123004_4, x123005_4, x123006_4, x123007_4, u123007, HA, HK4, HO_123007, BK122, HB⟩ := hrel
                            cases gk with
                            | zero => exact absurd HA.out (by simp [rubricatorlaw19_BlockLazy.l2])
                            | succ k4 =>
                              have H := HA.out
                              clear HA
                              simp only [rubricatorlaw19_BlockLazy.l2] at H
                              by_cases c47 : (x123007_4.length : Int) = 1
                              · rw [if_pos c47] at H
                                have c47b0 : ((x123007_4.length : Int) == 1) = true := beq_iff_eq.mpr c47
                                have c47b1 : ((x123007_4.length : Int) != 1) = false := bne_eq_false_iff_eq.mpr c47
                                clear c47
                                by_cases c48 : 0 < (x123007_4.length : Int)
                                · rw [if_pos c48] at H
                                  have c48b0 : decide (0 < (x123007_4.length : Int)) = true := decide_eq_true c48
                                  have c48b1 : decide (0 < x123007_4.length) = true := decide_eq_true (by omega)
                                  clear c48
                                  have H' := Aside0.mk H
                                  clear H
                                  have hcz49_0 : wr.cell? ⟨gb122, 0, none⟩ = some (.int .i64 x123000_4) := (blk_cell BK122.out 0).trans rfl
                                  have hcz49_1 : wr.cell? ⟨gb122, 1, none⟩ = some (.int .i64 x123001_4) := (blk_cell BK122.out 1).trans rfl
                                  have hcz49_2 : wr.cell? ⟨gb122, 2, none⟩ = some (.bool x123002_4) := (blk_cell BK122.out 2).trans rfl
                                  have hcz49_3 : wr.cell? ⟨gb122, 3, none⟩ = some (.bool x123003_4) := (blk_cell BK122.out 3).trans rfl
                                  have hcz49_4 : wr.cell? ⟨gb122, 4, none⟩ = some (.string x123004_4) := (blk_cell BK122.out 4).trans rfl
                                  have hcz49_5 : wr.cell? ⟨gb122, 5, none⟩ = some (.string x123005_4) := (blk_cell BK122.out 5).trans rfl
                                  have hcz49_6 : wr.cell? ⟨gb122, 6, none⟩ = some (.string x123006_4) := (blk_cell BK122.out 6).trans rfl
                                  have hcz49_7 : wr.cell? ⟨gb122, 7, none⟩ = some (u123007) := (blk_cell BK122.out 7).trans rfl
                                  have hfz49_0 := blk_frozen BK122.out 0
                                  have hfz49_1 := blk_frozen BK122.out 1
                                  have hfz49_2 := blk_frozen BK122.out 2
                                  have hfz49_3 := blk_frozen BK122.out 3
                                  have hfz49_4 := blk_frozen BK122.out 4
                                  have hfz49_5 := blk_frozen BK122.out 5
                                  have hfz49_6 := blk_frozen BK122.out 6
                                  have hfz49_7 := blk_frozen BK122.out 7
                                  obtain ⟨Ao50, co50, eo50⟩ := Kd.R_slice HO_123007.out
                                  subst eo50
                                  have p125 : 0 ≤ (0 : Int) := (by omega)
                                  have q125 : 0 < (x123007_4.length : Int) := of_decide_eq_true (by first | (with_reducible assumption) | assumption)
                                  obtain ⟨ad125, A125_7, c125_7, e125, hx125_0, hx125_1, hx125_2, hx125_3, hx125_4, hx125_5, hx125_6, hx125_7, hl125_7, hi125_7⟩ := at_T27 (Kd.R_reads' HO_123007.out).2.2 0 p125 q125
                                  cases e125
                                  obtain ⟨ce125, hce125, hMe125, hcc125⟩ := Kd.R_get HO_123007.out z27 0 p125 (by first | exact q125 | exact of_decide_eq_true (by first | (with_reducible assumption) | assumption) | (have e_ := (Kd.R_reads' HO_123007.out).1; omega))
                                  obtain ⟨ve125_7, rfl, ge125_7⟩ := k27_openM hMe125
                                  have hv125_7 := hcc125 7 _ rfl
                                  rw [add_field _ _ 7 (by omega)] at hv125_7
                                  replace hv125_7 := Option.some.inj (hv125_7.symm.trans hx125_7)
                                  rw [hv125_7] at ge125_7
                                  have HL125_7 := Aside0.mk (show Kd.R k27 27 _ _ _ _ ((rd_T27 x123007_4 0).f7) from ge125_7)
                                  clear hv125_7 ge125_7
                                  clear hcc125 hce125
                                  have qi125 : (0 < x123007_4.length) = True := eq_true (by omega)
                                  (try rw [show ((0 : Int)).toNat = 0 from rfl] at hx125_0)
                                  (try rw [show 0 * 8 = 0 from rfl] at hx125_0)
                                  (try rw [Addr.add_zero'] at hx125_0)
                                  (try rw [show ((0 : Int)).toNat = 0 from rfl] at hx125_1)
                                  (try rw [show 0 * 8 = 0 from rfl] at hx125_1)
                                  (try rw [Addr.add_zero'] at hx125_1)
                                  (try rw [show ((0 : Int)).toNat = 0 from rfl] at hx125_2)
                                  (try rw [show 0 * 8 = 0 from rfl] at hx125_2)
                                  (try rw [Addr.add_zero'] at hx125_2)
                                  (try rw [show ((0 : Int)).toNat = 0 from rfl] at hx125_3)
                                  (try rw [show 0 * 8 = 0 from rfl] at hx125_3)
                                  (try rw [Addr.add_zero'] at hx125_3)
                                  (try rw [show ((0 : Int)).toNat = 0 from rfl] at hx125_4)
                                  (try rw [show 0 * 8 = 0 from rfl] at hx125_4)
                                  (try rw [Addr.add_zero'] at hx125_4)
                                  (try rw [show ((0 : Int)).toNat = 0 from rfl] at hx125_5)
                                  (try rw [show 0 * 8 = 0 from rfl] at hx125_5)
                                  (try rw [Addr.add_zero'] at hx125_5)
                                  (try rw [show ((0 : Int)).toNat = 0 from rfl] at hx125_6)
                                  (try rw [show 0 * 8 = 0 from rfl] at hx125_6)
                                  (try rw [Addr.add_zero'] at hx125_6)
                                  (try rw [show ((0 : Int)).toNat = 0 from rfl] at hx125_7)
                                  (try rw [show 0 * 8 = 0 from rfl] at hx125_7)
                                  (try rw [Addr.add_zero'] at hx125_7)
                                  have HR125_7 := Aside0.mk hi125_7
                                  have HC125_7 := Aside0.mk hl125_7
                                  clear hi125_7 hl125_7
                                  replace p125 := eq_true p125
                                  replace q125 := eq_true q125
                                  go_wp2
                                  go_roundg k4
                                  case measure => have := HJ4.out; have := HK2.out; have := HK3.out; have := HK4.out; omega
                                  case rel => exact ⟨((rd_T27 x123007_4 0).f0), ((rd_T27 x123007_4 0).f1), ((rd_T27 x123007_4 0).f2), ((rd_T27 x123007_4 0).f3), ((rd_T27 x123007_4 0).f4), ((rd_T27 x123007_4 0).f5), ((rd_T27 x123007_4 0).f6), ((rd_T27 x123007_4 0).f7), (.slice A125_7 ((rd_T27 x123007_4 0).f7).length c125_7), H', ⟨by have := HJ4.out; have := HK2.out; have := HK3.out; have := HK4.out; omega⟩, ⟨by (with_reducible repeat (first | apply Kd.R_alloc | apply Kd.R_drewN | apply Kd.R_drew)); exact Kd.R_mono (Kd.R_far (p := ⟨gb122, 7, none⟩) (Kd.R_far (p := ⟨gb122, 6, none⟩) (Kd.R_far (p := ⟨gb122, 5, none⟩) (Kd.R_far (p := ⟨gb122, 4, none⟩) (Kd.R_far (p := ⟨gb122, 3, none⟩) (Kd.R_far (p := ⟨gb122, 2, none⟩) (Kd.R_far (p := ⟨gb122, 1, none⟩) (Kd.R_far (p := ⟨gb122, 0, none⟩) (Kd.R_mono HL125_7.out (fun k_ hk => (⟨hk, hk.1⟩ : _ ∧ k_ ≠ gb122))) (fun _ hk => hk.2) (.int .i64 ((rd_T27 x123007_4 0).f0))) (fun _ hk => hk.2) (.int .i64 ((rd_T27 x123007_4 0).f1))) (fun _ hk => hk.2) (.bool ((rd_T27 x123007_4 0).f2))) (fun _ hk => hk.2) (.bool ((rd_T27 x123007_4 0).f3))) (fun _ hk => hk.2) (.string ((rd_T27 x123007_4 0).f4))) (fun _ hk => hk.2) (.string ((rd_T27 x123007_4 0).f5))) (fun _ hk => hk.2) (.string ((rd_T27 x123007_4 0).f6))) (fun _ hk => hk.2) (.slice A125_7 ((rd_T27 x123007_4 0).f7).length c125_7)) (fun _ hk => hk.1.1)⟩, ⟨by (with_reducible repeat (first | refine blk_drewN ?_ _ | refine blk_drew ?_ | refine blk_alloc ?_ _)); refine blk_put (cs := #[.int .i64 ((rd_T27 x123007_4 0).f0), .int .i64 ((rd_T27 x123007_4 0).f1), .bool ((rd_T27 x123007_4 0).f2), .bool ((rd_T27 x123007_4 0).f3), .string ((rd_T27 x123007_4 0).f4), .string ((rd_T27 x123007_4 0).f5), .string ((rd_T27 x123007_4 0).f6), .slice (some ad125) x123007_4.length co50]) ?_ 7 _ rfl; (with_reducible repeat (first | refine blk_drewN ?_ _ | refine blk_drew ?_ | refine blk_alloc ?_ _)); refine blk_put (cs := #[.int .i64 ((rd_T27 x123007_4 0).f0), .int .i64 ((rd_T27 x123007_4 0).f1), .bool ((rd_T27 x123007_4 0).f2), .bool ((rd_T27 x123007_4 0).f3), .string ((rd_T27 x123007_4 0).f4), .string ((rd_T27 x123007_4 0).f5), .string x123006_4, .slice (some ad125) x123007_4.length co50]) ?_ 6 _ rfl; (with_reducible repeat (first | refine blk_drewN ?_ _ | refine blk_drew ?_ | refine blk_alloc ?_ _)); refine blk_put (cs := #[.int .i64 ((rd_T27 x123007_4 0).f0), .int .i64 ((rd_T27 x123007_4 0).f1), .bool ((rd_T27 x123007_4 0).f2), .bool ((rd_T27 x123007_4 0).f3), .string ((rd_T27 x123007_4 0).f4), .string x123005_4, .string x123006_4, .slice (some ad125) x123007_4.length co50]) ?_ 5 _ rfl; (with_reducible repeat (first | refine blk_drewN ?_ _ | refine blk_drew ?_ | refine blk_alloc ?_ _)); refine blk_put (cs := #[.int .i64 ((rd_T27 x123007_4 0).f0), .int .i64 ((rd_T27 x123007_4 0).f1), .bool ((rd_T27 x123007_4 0).f2), .bool ((rd_T27 x123007_4 0).f3), .string x123004_4, .string x123005_4, .string x123006_4, .slice (some ad125) x123007_4.length co50]) ?_ 4 _ rfl; (with_reducible repeat (first | refine blk_drewN ?_ _ | refine blk_drew ?_ | refine blk_alloc ?_ _)); refine blk_put (cs := #[.int .i64 ((rd_T27 x123007_4 0).f0), .int .i64 ((rd_T27 x123007_4 0).f1), .bool ((rd_T27 x123007_4 0).f2), .bool x123003_4, .string x123004_4, .string x123005_4, .string x123006_4, .slice (some ad125) x123007_4.length co50]) ?_ 3 _ rfl; (with_reducible repeat (first | refine blk_drewN ?_ _ | refine blk_drew ?_ | refine blk_alloc ?_ _)); refine blk_put (cs := #[.int .i64 ((rd_T27 x123007_4 0).f0), .int .i64 ((rd_T27 x123007_4 0).f1), .bool x123002_4, .bool x123003_4, .string x123004_4, .string x123005_4, .string x123006_4, .slice (some ad125) x123007_4.length co50]) ?_ 2 _ rfl; (with_reducible repeat (first | refine blk_drewN ?_ _ | refine blk_drew ?_ | refine blk_alloc ?_ _)); refine blk_put (cs := #[.int .i64 ((rd_T27 x123007_4 0).f0), .int .i64 x123001_4, .bool x123002_4, .bool x123003_4, .string x123004_4, .string x123005_4, .string x123006_4, .slice (some ad125) x123007_4.length co50]) ?_ 1 _ rfl; (with_reducible repeat (first | refine blk_drewN ?_ _ | refine blk_drew ?_ | refine blk_alloc ?_ _)); refine blk_put (cs := #[.int .i64 x123000_4, .int .i64 x123001_4, .bool x123002_4, .bool x123003_4, .string x123004_4, .string x123005_4, .string x123006_4, .slice (some ad125) x123007_4.length co50]) ?_ 0 _ rfl; (with_reducible repeat (first | refine blk_drewN ?_ _ | refine blk_drew ?_ | refine blk_alloc ?_ _)); exact BK122.out⟩, ⟨by repeat (first | (with_reducible first | exact HB.out | apply below_alloc | apply pw_below_drewN | apply below_drew1 | refine below_set ?_ GE122.out) | exact HB.out)⟩⟩
                                · rw [if_neg c48] at H
                                  exact absurd H (by simp)
                              · rw [if_neg c47] at H
                                have c47b0 : ((x123007_4.length : Int) == 1) = false := beq_eq_false_iff_ne.mpr c47
                                have c47b1 : ((x123007_4.length : Int) != 1) = true := bne_iff_ne.mpr c47
                                by_cases c51 : x123000_4 = 2
                                · rw [if_pos c51] at H
                                  have c51b0 : (x123000_4 == 2) = true := beq_iff_eq.mpr c51
                                  have c51b1 : (x123000_4 != 2) = false := bne_eq_false_iff_eq.mpr c51
                                  clear c51
                                  by_cases c52 : a1.size + 1 ≤ 9223372036854775807
                                  · rw [if_pos c52] at H
                                    have c52b0 := eq_true c52
                                    have c52b1 : decide (a1.size + 1 ≤ 9223372036854775807) = true := decide_eq_true c52
                                    try have c52b2 : (9223372036854775807 < a1.size + 1) = False := eq_false (Nat.not_lt.2 c52)
                                    by_cases c53 : (a1 ++ (⟨#[10]⟩ : ByteArray)).size + a2.size ≤ 9223372036854775807
                                    · rw [if_pos c53] at H
                                      have c53b0 := eq_true c53
                                      have c53b1 : decide ((a1 ++ (⟨#[10]⟩ : ByteArray)).size + a2.size ≤ 9223372036854775807) = true := decide_eq_true c53
                                      try have c53b2 : (9223372036854775807 < (a1 ++ (⟨#[10]⟩ : ByteArray)).size + a2.size) = False := eq_false (Nat.not_lt.2 c53)
                                      try (have c53z := c53; simp only [ByteArray.size_append] at c53z; have c53b3 := lim_false c53z; clear c53z)
                                      by_cases c54 : x123004_4.toList = ((a1 ++ (⟨#[10]⟩ : ByteArray)) ++ a2).toList
                                      · rw [if_pos c54] at H
                                        have c54b0 : (x123004_4.toList == ((a1 ++ (⟨#[10]⟩ : ByteArray)) ++ a2).toList) = true := beq_iff_eq.mpr c54
                                        have c54b1 : (x123004_4.toList != ((a1 ++ (⟨#[10]⟩ : ByteArray)) ++ a2).toList) = false := bne_eq_false_iff_eq.mpr c54
                                        clear c54
                                        replace H := Option.bind_eq_some_iff.mp H
                                        obtain ⟨t126, A550, H⟩ := H
                                        replace H : (some t126) = some r := H
                                        have A55 := Aside0.mk A550
                                        clear A550
                                        obtain rfl := Option.some.inj H
                                        have hcz56_0 : wr.cell? ⟨gb122, 0, none⟩ = some (.int .i64 x123000_4) := (blk_cell BK122.out 0).trans rfl
                                        have hcz56_1 : wr.cell? ⟨gb122, 1, none⟩ = some (.int .i64 x123001_4) := (blk_cell BK122.out 1).trans rfl
                                        have hcz56_2 : wr.cell? ⟨gb122, 2, none⟩ = some (.bool x123002_4) := (blk_cell BK122.out 2).trans rfl
                                        have hcz56_3 : wr.cell? ⟨gb122, 3, none⟩ = some (.bool x123003_4) := (blk_cell BK122.out 3).trans rfl
                                        have hcz56_4 : wr.cell? ⟨gb122, 4, none⟩ = some (.string x123004_4) := (blk_cell BK122.out 4).trans rfl
                                        have hcz56_5 : wr.cell? ⟨gb122, 5, none⟩ = some (.string x123005_4) := (blk_cell BK122.out 5).trans rfl
                                        have hcz56_6 : wr.cell? ⟨gb122, 6, none⟩ = some (.string x123006_4) := (blk_cell BK122.out 6).trans rfl
                                        have hcz56_7 : wr.cell? ⟨gb122, 7, none⟩ = some (u123007) := (blk_cell BK122.out 7).trans rfl
                                        have hfz56_0 := blk_frozen BK122.out 0
                                        have hfz56_1 := blk_frozen BK122.out 1
                                        have hfz56_2 := blk_frozen BK122.out 2
                                        have hfz56_3 := blk_frozen BK122.out 3
                                        have hfz56_4 := blk_frozen BK122.out 4
                                        have hfz56_5 := blk_frozen BK122.out 5
                                        have hfz56_6 := blk_frozen BK122.out 6
                                        have hfz56_7 := blk_frozen BK122.out 7
                                        obtain ⟨Ao57, co57, eo57⟩ := Kd.R_slice HO_123007.out
                                        subst eo57
                                        go_wp2_with (first | (go_at_call 17; (with_reducible refine (rubricatorlaw19_known.calls  t126 _ ?side1 A55.out).mono ?_); (case side1 => first | (with_reducible exact hG) | (refine GL.below hG ?_; (repeat (first | (with_reducible first | exact HB.out | apply below_alloc | apply pw_below_drewN | apply below_drew1 | refine below_set ?_ GE122.out) | exact HB.out)); done) | (refine GL.drawn hG ?_; (repeat (first | exact Drawn0.refl _ | apply Drawn0.step)); done) | exact hG); rintro e w58 ⟨rfl, hb⟩; have n0_ := Aside0.mk (Kd.R_below (by (with_reducible repeat (first | apply Kd.R_alloc | apply Kd.R_drewN | apply Kd.R_drew)); exact HO_123007.out) hb); have n1_ := Aside0.mk (blk_below (g := gb122) (o := .cells #[.int .i64 x123000_4, .int .i64 x123001_4, .bool x123002_4, .bool x123003_4, .string x123004_4, .string x123005_4, .string x123006_4, .slice Ao57 x123007_4.length co57] 27 (0, 0)) (by (with_reducible repeat (first | refine blk_drewN ?_ _ | refine blk_drew ?_ | refine blk_alloc ?_ _)); exact BK122.out) hb); have n2_ := Aside0.mk (below_step (by repeat (first | (with_reducible first | exact HB.out | apply below_alloc | apply pw_below_drewN | apply below_drew1 | refine below_set ?_ GE122.out) | exact HB.out)) hb); clear HO_123007; clear BK122; clear HB; have HO_123007 := n0_; have BK122 := n1_; have HB := n2_; clear n0_ n1_ n2_; (try clear hb); (try clear hb2); (try clear hk); (try clear hi)))
                                        go_ret
                                        exact ⟨by first | rfl | (simp [errW_none, errW_some] <;> rfl) | (simp [*, errW_none, errW_some] <;> rfl), by repeat (first | (with_reducible first | exact HB.out | apply below_alloc | apply pw_below_drewN | apply below_drew1 | refine below_set ?_ GE122.out) | exact HB.out)⟩
                                      · rw [if_neg c54] at H
                                        have c54b0 : (x123004_4.toList == ((a1 ++ (⟨#[10]⟩ : ByteArray)) ++ a2).toList) = false := beq_eq_false_iff_ne.mpr c54
                                        have c54b1 : (x123004_4.toList != ((a1 ++ (⟨#[10]⟩ : ByteArray)) ++ a2).toList) = true := bne_iff_ne.mpr c54
                                        obtain rfl := Option.some.inj H
                                        have hcz59_0 : wr.cell? ⟨gb122, 0, none⟩ = some (.int .i64 x123000_4) := (blk_cell BK122.out 0).trans rfl
                                        have hcz59_1 : wr.cell? ⟨gb122, 1, none⟩ = some (.int .i64 x123001_4) := (blk_cell BK122.out 1).trans rfl
                                        have hcz59_2 : wr.cell? ⟨gb122, 2, none⟩ = some (.bool x123002_4) := (blk_cell BK122.out 2).trans rfl
                                        have hcz59_3 : wr.cell? ⟨gb122, 3, none⟩ = some (.bool x123003_4) := (blk_cell BK122.out 3).trans rfl
                                        have hcz59_4 : wr.cell? ⟨gb122, 4, none⟩ = some (.string x123004_4) := (blk_cell BK122.out 4).trans rfl
                                        have hcz59_5 : wr.cell? ⟨gb122, 5, none⟩ = some (.string x123005_4) := (blk_cell BK122.out 5).trans rfl
                                        have hcz59_6 : wr.cell? ⟨gb122, 6, none⟩ = some (.string x123006_4) := (blk_cell BK122.out 6).trans rfl
                                        have hcz59_7 : wr.cell? ⟨gb122, 7, none⟩ = some (u123007) := (blk_cell BK122.out 7).trans rfl
                                        have hfz59_0 := blk_frozen BK122.out 0
                                        have hfz59_1 := blk_frozen BK122.out 1
                                        have hfz59_2 := blk_frozen BK122.out 2
                                        have hfz59_3 := blk_frozen BK122.out 3
                                        have hfz59_4 := blk_frozen BK122.out 4
                                        have hfz59_5 := blk_frozen BK122.out 5
                                        have hfz59_6 := blk_frozen BK122.out 6
                                        have hfz59_7 := blk_frozen BK122.out 7
                                        obtain ⟨Ao60, co60, eo60⟩ := Kd.R_slice HO_123007.out
                                        subst eo60
                                        go_wp2
                                        go_ret
                                        exact ⟨by first | rfl | (simp [errW_none, errW_some] <;> rfl) | (simp [*, errW_none, errW_some] <;> rfl), by repeat (first | (with_reducible first | exact HB.out | apply below_alloc | apply pw_below_drewN | apply below_drew1 | refine below_set ?_ GE122.out) | exact HB.out)⟩
                                    · rw [if_neg c53] at H
                                      exact absurd H (by simp)
                                  · rw [if_neg c52] at H
                                    exact absurd H (by simp)
                                · rw [if_neg c51] at H
                                  have c51b0 : (x123000_4 == 2) = false := beq_eq_false_iff_ne.mpr c51
                                  have c51b1 : (x123000_4 != 2) = true := bne_iff_ne.mpr c51
                                  obtain rfl := Option.some.inj H
                                  have hcz61_0 : wr.cell? ⟨gb122, 0, none⟩ = some (.int .i64 x123000_4) := (blk_cell BK122.out 0).trans rfl
                                  have hcz61_1 : wr.cell? ⟨gb122, 1, none⟩ = some (.int .i64 x123001_4) := (blk_cell BK122.out 1).trans rfl
                                  have hcz61_2 : wr.cell? ⟨gb122, 2, none⟩ = some (.bool x123002_4) := (blk_cell BK122.out 2).trans rfl
                                  have hcz61_3 : wr.cell? ⟨gb122, 3, none⟩ = some (.bool x123003_4) := (blk_cell BK122.out 3).trans rfl
                                  have hcz61_4 : wr.cell? ⟨gb122, 4, none⟩ = some (.string x123004_4) := (blk_cell BK122.out 4).trans rfl
                                  have hcz61_5 : wr.cell? ⟨gb122, 5, none⟩ = some (.string x123005_4) := (blk_cell BK122.out 5).trans rfl
                                  have hcz61_6 : wr.cell? ⟨gb122, 6, none⟩ = some (.string x123006_4) := (blk_cell BK122.out 6).trans rfl
                                  have hcz61_7 : wr.cell? ⟨gb122, 7, none⟩ = some (u123007) := (blk_cell BK122.out 7).trans rfl
                                  have hfz61_0 := blk_frozen BK122.out 0
                                  have hfz61_1 := blk_frozen BK122.out 1
                                  have hfz61_2 := blk_frozen BK122.out 2
                                  have hfz61_3 := blk_frozen BK122.out 3
                                  have hfz61_4 := blk_frozen BK122.out 4
                                  have hfz61_5 := blk_frozen BK122.out 5
                                  have hfz61_6 := blk_frozen BK122.out 6
                                  have hfz61_7 := blk_frozen BK122.out 7
                                  obtain ⟨Ao62, co62, eo62⟩ := Kd.R_slice HO_123007.out
                                  subst eo62
                                  go_wp2
                                  go_ret
                                  exact ⟨by first | rfl | (simp [errW_none, errW_some] <;> rfl) | (simp [*, errW_none, errW_some] <;> rfl), by repeat (first | (with_reducible first | exact HB.out | apply below_alloc | apply pw_below_drewN | apply below_drew1 | refine below_set ?_ GE122.out) | exact HB.out)⟩
                      · rw [if_neg c27] at H
                        exact absurd H (by simp)
                    · rw [if_neg c26] at H
                      exact absurd H (by simp)
def rubricatorlaw19_BlockLazy.Pure : Prop := ∀ (l0 : List Int) (a1 : ByteArray) (a2 : ByteArray) (a3 : Int), l0.length ≤ maxLen → l0.length * 8 ≤ 140737488351232 → (∀ x ∈ l0, (Lit.int .i64 x).wf = true) → a1.size ≤ 140737488351232 → a2.size ≤ 140737488351232 → (Lit.int .i64 a3).wf = true → ∃ k, rubricatorlaw19_BlockLazy.f k l0 a1 a2 a3 = some true
theorem rubricatorlaw19_BlockLazy.walk (P : rubricatorlaw19_BlockLazy.Pure) (a0 : Option Addr) (len0 cap0 : Nat) (z0 : List Int) (a1 : ByteArray) (a2 : ByteArray) (a3 : Int) (w : World) (w0 : (a0 = none ∧ len0 = 0 ∧ cap0 = 0 ∧ z0 = []) ∨ ∃ x, a0 = some x ∧ len0 ≤ cap0 ∧ cap0 ≤ maxLen ∧ z0.length = cap0 ∧ (∀ i, i < z0.length → w.cell? (x.add i) = some (.int .i64 (z0.getD i 0))) ∧ ∀ n ∈ z0, (Lit.int .i64 n).wf = true) (y0 : len0 * 8 ≤ 140737488351232) (w1 : a1.size ≤ 140737488351232) (w2 : a2.size ≤ 140737488351232) (w3 : (Lit.int .i64 a3).wf = true) (hG : GL w) :
    Calls Tryz.prog 9 #[.slice a0 len0 cap0, .string a1, .string a2, .int .i64 a3] w fun e w' => e = .returned (.bool true) ∧ Below w.heap.size w w' := by
  obtain ⟨l0, rfl, hr0, hm0, hw0, hc0⟩ := ReadsInt.ofRowC w0
  obtain ⟨k, h⟩ := P l0 a1 a2 a3 hm0 y0 hw0 w1 w2 w3
  refine (rubricatorlaw19_BlockLazy.calls k _ _ l0 a1 a2 a3 true w hG (Kd.C_of_reads (d := (0 : Int)) (h1 := fun _ => rfl) hr0) hc0 h).mono ?_
  rintro e w' ⟨rfl, hd⟩
  exact ⟨rfl, hd⟩
end Go.Proofs.YtpimcdkhjingjaaGreatDoor.PLLa
