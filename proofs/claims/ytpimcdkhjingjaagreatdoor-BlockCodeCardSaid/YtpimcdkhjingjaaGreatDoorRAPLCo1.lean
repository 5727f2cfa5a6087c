/- A merged text (wip/mkclaim.py). -/
import Derived.Test.YtpimcdkhjingjaaGreatDoorRAR
import Derived.Test.YtpimcdkhjingjaaGreatDoorRAS
import Derived.Test.YtpimcdkhjingjaaGreatDoorRAP
set_option linter.unusedVariables false
set_option linter.unusedSimpArgs false
set_option linter.unusedSectionVars false
namespace Go.Proofs.YtpimcdkhjingjaaGreatDoor.PLCo
open Go.RowKit Go.Proofs.YtpimcdkhjingjaaGreatDoorW.PrintWords Go.Proofs.YtpimcdkhjingjaaGreatDoorW.PrintLast Go.Proofs.YtpimcdkhjingjaaGreatDoorW.PrintMore Go.Proofs.YtpimcdkhjingjaaGreatDoor.X Go.Proofs.YtpimcdkhjingjaaGreatDoor.PBlk
attribute [local go_sem] max2_int min2_int max_two min_two max_three min_three max_four min_four
set_option linter.unusedVariables false
set_option linter.unusedSimpArgs false
mutual
def rubricatorlaw19_BlockCode.j0 : Nat → List ByteArray → Int → Bool → Option (Bool)
  | 0, _, _, _ => none
  | k + 1, x0, x1, x28 => if x28 = true then (some true) else (rubricatorlaw19_BlockCode.l0 k x0 x1 ([] : List ByteArray) (⟨#[]⟩ : ByteArray) 0 0)
def rubricatorlaw19_BlockCode.l0 : Nat → List ByteArray → Int → List ByteArray → ByteArray → Int → Int → Option (Bool)
  | 0, _, _, _, _, _, _ => none
  | k + 1, x0, x1, x5, x6, x7, x8 => if x8 < (x0.length : Int) then (rubricatorlaw19_BlockCode.l1 k x0 x1 x5 x6 x7 x8 true 0) else (rubricatorlaw19_BlockCode.l2 k x0 x1 x5 x6 x7 0)
def rubricatorlaw19_BlockCode.l1 : Nat → List ByteArray → Int → List ByteArray → ByteArray → Int → Int → Bool → Int → Option (Bool)
  | 0, _, _, _, _, _, _, _, _ => none
  | k + 1, x0, x1, x5, x6, x7, x8, x9, x10 => if 0 ≤ x8 then (if x8 < (x0.length : Int) then (if x10 < ((rdOf ByteArray.empty x0 x8).size : Int) then (if x9 = true then (if 0 ≤ x10 then (if (bt (rdOf ByteArray.empty x0 x8) x10) = 32 then (rubricatorlaw19_BlockCode.l1 k x0 x1 x5 x6 x7 x8 true (wrap64 (x10 + 1))) else (rubricatorlaw19_BlockCode.l1 k x0 x1 x5 x6 x7 x8 ((bt (rdOf ByteArray.empty x0 x8) x10) == 9) (wrap64 (x10 + 1)))) else (none)) else (rubricatorlaw19_BlockCode.l1 k x0 x1 x5 x6 x7 x8 false (wrap64 (x10 + 1)))) else (if x8 = 0 then (rubricatorlaw19_BlockCode.j3 k x0 x1 x5 x6 x7 x8 x9 x9) else (rubricatorlaw19_BlockCode.j3 k x0 x1 x5 x6 x7 x8 x9 false))) else (none)) else (none)
def rubricatorlaw19_BlockCode.j3 : Nat → List ByteArray → Int → List ByteArray → ByteArray → Int → Int → Bool → Bool → Option (Bool)
  | 0, _, _, _, _, _, _, _, _ => none
  | k + 1, x0, x1, x5, x6, x7, x8, x9, x67 => if x67 = true then ((rubricatorlaw19_known.f).bind fun t105 => (some t105)) else (if x9 = true then (if 0 ≤ x8 then (if x8 < (x0.length : Int) then (if 4 + (rdOf ByteArray.empty x0 x8).size ≤ 9223372036854775807 then (if x5.length < 8796093022208 then (rubricatorlaw19_BlockCode.l0 k x0 x1 (x5 ++ [(⟨#[32, 32, 32, 32]⟩ : ByteArray) ++ (rdOf ByteArray.empty x0 x8)]) x6 x7 (wrap64 (x8 + 1))) else (none)) else (none)) else (none)) else (none)) else (if 0 ≤ x8 then (if x8 < (x0.length : Int) then (if 4 + (rdOf ByteArray.empty x0 x8).size ≤ 9223372036854775807 then (if x5.length < 8796093022208 then (rubricatorlaw19_BlockCode.l0 k x0 x1 (x5 ++ [(⟨#[32, 32, 32, 32]⟩ : ByteArray) ++ (rdOf ByteArray.empty x0 x8)]) x6 x8 (wrap64 (x8 + 1))) else (none)) else (none)) else (none)) else (none)))
def rubricatorlaw19_BlockCode.l2 : Nat → List ByteArray → Int → List ByteArray → ByteArray → Int → Int → Option (Bool)
  | 0, _, _, _, _, _, _ => none
  | k + 1, x0, x1, x5, x6, x7, x11 => if x11 ≤ x7 then (if 0 ≤ x11 then (if x11 < (x0.length : Int) then (if x6.size + (rdOf ByteArray.empty x0 x11).size ≤ 9223372036854775807 then (if (x6 ++ (rdOf ByteArray.empty x0 x11)).size + 1 ≤ 9223372036854775807 then (rubricatorlaw19_BlockCode.l2 k x0 x1 x5 ((x6 ++ (rdOf ByteArray.empty x0 x11)) ++ (⟨#[10]⟩ : ByteArray)) x7 (wrap64 (x11 + 1))) else (none)) else (none)) else (none)) else (none)) else (rubricatorlaw19_BlockCode.l3 k x1 x5 x6 0)
def rubricatorlaw19_BlockCode.l3 : Nat → Int → List ByteArray → ByteArray → Int → Option (Bool)
  | 0, _, _, _, _ => none
  | k + 1, x1, x5, x6, x12 => if x12 < x1 then (if x5.length < 8796093022208 then (rubricatorlaw19_BlockCode.l3 k x1 (x5 ++ [(⟨#[]⟩ : ByteArray)]) x6 (wrap64 (x12 + 1))) else (none)) else ((block_Parse.f x5).bind fun bt118 => (if (bt118.2.2.2.2.2.2.2.length : Int) = 1 then (if 0 < (bt118.2.2.2.2.2.2.2.length : Int) then (if ((rd_T27 bt118.2.2.2.2.2.2.2 0).f0) = 5 then (if ((rd_T27 bt118.2.2.2.2.2.2.2 0).f4).toList = x6.toList then (if ((rd_T27 bt118.2.2.2.2.2.2.2 0).f6).toList = ([] : List UInt8) then ((rubricatorlaw19_known.f).bind fun t132 => (some t132)) else (some false)) else (some false)) else (some false)) else (none)) else (some false)))
end
def rubricatorlaw19_BlockCode.f (k : Nat) (l0 : List ByteArray) (a1 : Int) : Option (Bool) := (rubricatorlaw19_heavy.f k l0).bind fun t101 => (if t101 = true then (rubricatorlaw19_BlockCode.j0 k l0 a1 true) else (if (l0.length : Int) = 0 then (rubricatorlaw19_BlockCode.j0 k l0 a1 true) else (if a1 < 0 then (rubricatorlaw19_BlockCode.j0 k l0 a1 true) else (rubricatorlaw19_BlockCode.j0 k l0 a1 (decide (a1 > 9))))))
theorem rubricatorlaw19_BlockCode.mono_l : ∀ k, (∀ y0 y1 y2, LeO (rubricatorlaw19_BlockCode.j0 k y0 y1 y2) (rubricatorlaw19_BlockCode.j0 (k + 1) y0 y1 y2)) ∧ (∀ y0 y1 y2 y3 y4 y5, LeO (rubricatorlaw19_BlockCode.l0 k y0 y1 y2 y3 y4 y5) (rubricatorlaw19_BlockCode.l0 (k + 1) y0 y1 y2 y3 y4 y5)) ∧ (∀ y0 y1 y2 y3 y4 y5 y6 y7, LeO (rubricatorlaw19_BlockCode.l1 k y0 y1 y2 y3 y4 y5 y6 y7) (rubricatorlaw19_BlockCode.l1 (k + 1) y0 y1 y2 y3 y4 y5 y6 y7)) ∧ (∀ y0 y1 y2 y3 y4 y5 y6 y7, LeO (rubricatorlaw19_BlockCode.j3 k y0 y1 y2 y3 y4 y5 y6 y7) (rubricatorlaw19_BlockCode.j3 (k + 1) y0 y1 y2 y3 y4 y5 y6 y7)) ∧ (∀ y0 y1 y2 y3 y4 y5, LeO (rubricatorlaw19_BlockCode.l2 k y0 y1 y2 y3 y4 y5) (rubricatorlaw19_BlockCode.l2 (k + 1) y0 y1 y2 y3 y4 y5)) ∧ (∀ y0 y1 y2 y3, LeO (rubricatorlaw19_BlockCode.l3 k y0 y1 y2 y3) (rubricatorlaw19_BlockCode.l3 (k + 1) y0 y1 y2 y3))
  | 0 => ⟨fun _ _ _ r h => by simp [rubricatorlaw19_BlockCode.j0] at h, fun _ _ _ _ _ _ r h => by simp [rubricatorlaw19_BlockCode.l0] at h, fun _ _ _ _ _ _ _ _ r h => by simp [rubricatorlaw19_BlockCode.l1] at h, fun _ _ _ _ _ _ _ _ r h => by simp [rubricatorlaw19_BlockCode.j3] at h, fun _ _ _ _ _ _ r h => by simp [rubricatorlaw19_BlockCode.l2] at h, fun _ _ _ _ r h => by simp [rubricatorlaw19_BlockCode.l3] at h⟩
  | k + 1 => by
    obtain ⟨ih0, ih1, ih2, ih3, ih4, ih5⟩ := rubricatorlaw19_BlockCode.mono_l k
    refine ⟨?_, ?_, ?_, ?_, ?_, ?_⟩
    · intro y0 y1 y2
      unfold rubricatorlaw19_BlockCode.j0
      repeat' first
      | (with_reducible exact ih0 _ _ _)
      | (with_reducible exact ih1 _ _ _ _ _ _)
      | (with_reducible exact ih2 _ _ _ _ _ _ _ _)
      | (with_reducible exact ih3 _ _ _ _ _ _ _ _)
      | (with_reducible exact ih4 _ _ _ _ _ _)
      | (with_reducible exact ih5 _ _ _ _)
      | (with_reducible exact rubricatorlaw19_heavy.mono _ _)
      | (with_reducible exact LeO.refl _)
      | (with_reducible exact LeO.none _)
      | (with_reducible refine LeO.ite ?_ ?_)
      | (with_reducible refine LeO.bind ?_ (fun _ => ?_))
      | exact ih0 _ _ _
      | exact ih1 _ _ _ _ _ _
      | exact ih2 _ _ _ _ _ _ _ _
      | exact ih3 _ _ _ _ _ _ _ _
      | exact ih4 _ _ _ _ _ _
      | exact ih5 _ _ _ _
      | exact rubricatorlaw19_heavy.mono _ _
      | exact LeO.none _
      | refine LeO.ite ?_ ?_
      | refine LeO.bind ?_ (fun _ => ?_)
    · intro y0 y1 y2 y3 y4 y5
      unfold rubricatorlaw19_BlockCode.l0
      repeat' first
      | (with_reducible exact ih0 _ _ _)
      | (with_reducible exact ih1 _ _ _ _ _ _)
      | (with_reducible exact ih2 _ _ _ _ _ _ _ _)
      | (with_reducible exact ih3 _ _ _ _ _ _ _ _)
      | (with_reducible exact ih4 _ _ _ _ _ _)
      | (with_reducible exact ih5 _ _ _ _)
      | (with_reducible exact rubricatorlaw19_heavy.mono _ _)
      | (with_reducible exact LeO.refl _)
      | (with_reducible exact LeO.none _)
      | (with_reducible refine LeO.ite ?_ ?_)
      | (with_reducible refine LeO.bind ?_ (fun _ => ?_))
      | exact ih0 _ _ _
      | exact ih1 _ _ _ _ _ _
      | exact ih2 _ _ _ _ _ _ _ _
      | exact ih3 _ _ _ _ _ _ _ _
      | exact ih4 _ _ _ _ _ _
      | exact ih5 _ _ _ _
      | exact rubricatorlaw19_heavy.mono _ _
      | exact LeO.none _
      | refine LeO.ite ?_ ?_
      | refine LeO.bind ?_ (fun _ => ?_)
    · intro y0 y1 y2 y3 y4 y5 y6 y7
      unfold rubricatorlaw19_BlockCode.l1
      repeat' first
      | (with_reducible exact ih0 _ _ _)
      | (with_reducible exact ih1 _ _ _ _ _ _)
      | (with_reducible exact ih2 _ _ _ _ _ _ _ _)
      | (with_reducible exact ih3 _ _ _ _ _ _ _ _)
      | (with_reducible exact ih4 _ _ _ _ _ _)
      | (with_reducible exact ih5 _ _ _ _)
      | (with_reducible exact rubricatorlaw19_heavy.mono _ _)
      | (with_reducible exact LeO.refl _)
      | (with_reducible exact LeO.none _)
      | (with_reducible refine LeO.ite ?_ ?_)
      | (with_reducible refine LeO.bind ?_ (fun _ => ?_))
      | exact ih0 _ _ _
      | exact ih1 _ _ _ _ _ _
      | exact ih2 _ _ _ _ _ _ _ _
      | exact ih3 _ _ _ _ _ _ _ _
      | exact ih4 _ _ _ _ _ _
      | exact ih5 _ _ _ _
      | exact rubricatorlaw19_heavy.mono _ _
      | exact LeO.none _
      | refine LeO.ite ?_ ?_
      | refine LeO.bind ?_ (fun _ => ?_)
    · intro y0 y1 y2 y3 y4 y5 y6 y7
      unfold rubricatorlaw19_BlockCode.j3
      repeat' first
      | (with_reducible exact ih0 _ _ _)
      | (with_reducible exact ih1 _ _ _ _ _ _)
      | (with_reducible exact ih2 _ _ _ _ _ _ _ _)
      | (with_reducible exact ih3 _ _ _ _ _ _ _ _)
      | (with_reducible exact ih4 _ _ _ _ _ _)
      | (with_reducible exact ih5 _ _ _ _)
      | (with_reducible exact rubricatorlaw19_heavy.mono _ _)
      | (with_reducible exact LeO.refl _)
      | (with_reducible exact LeO.none _)
      | (with_reducible refine LeO.ite ?_ ?_)
      | (with_reducible refine LeO.bind ?_ (fun _ => ?_))
      | exact ih0 _ _ _
      | exact ih1 _ _ _ _ _ _
      | exact ih2 _ _ _ _ _ _ _ _
      | exact ih3 _ _ _ _ _ _ _ _
      | exact ih4 _ _ _ _ _ _
      | exact ih5 _ _ _ _
      | exact rubricatorlaw19_heavy.mono _ _
      | exact LeO.none _
      | refine LeO.ite ?_ ?_
      | refine LeO.bind ?_ (fun _ => ?_)
    · intro y0 y1 y2 y3 y4 y5
      unfold rubricatorlaw19_BlockCode.l2
      repeat' first
      | (with_reducible exact ih0 _ _ _)
      | (with_reducible exact ih1 _ _ _ _ _ _)
      | (with_reducible exact ih2 _ _ _ _ _ _ _ _)
      | (with_reducible exact ih3 _ _ _ _ _ _ _ _)
      | (with_reducible exact ih4 _ _ _ _ _ _)
      | (with_reducible exact ih5 _ _ _ _)
      | (with_reducible exact rubricatorlaw19_heavy.mono _ _)
      | (with_reducible exact LeO.refl _)
      | (with_reducible exact LeO.none _)
      | (with_reducible refine LeO.ite ?_ ?_)
      | (with_reducible refine LeO.bind ?_ (fun _ => ?_))
      | exact ih0 _ _ _
      | exact ih1 _ _ _ _ _ _
      | exact ih2 _ _ _ _ _ _ _ _
      | exact ih3 _ _ _ _ _ _ _ _
      | exact ih4 _ _ _ _ _ _
      | exact ih5 _ _ _ _
      | exact rubricatorlaw19_heavy.mono _ _
      | exact LeO.none _
      | refine LeO.ite ?_ ?_
      | refine LeO.bind ?_ (fun _ => ?_)
    · intro y0 y1 y2 y3
      unfold rubricatorlaw19_BlockCode.l3
      repeat' first
      | (with_reducible exact ih0 _ _ _)
      | (with_reducible exact ih1 _ _ _ _ _ _)
      | (with_reducible exact ih2 _ _ _ _ _ _ _ _)
      | (with_reducible exact ih3 _ _ _ _ _ _ _ _)
      | (with_reducible exact ih4 _ _ _ _ _ _)
      | (with_reducible exact ih5 _ _ _ _)
      | (with_reducible exact rubricatorlaw19_heavy.mono _ _)
      | (with_reducible exact LeO.refl _)
      | (with_reducible exact LeO.none _)
      | (with_reducible refine LeO.ite ?_ ?_)
      | (with_reducible refine LeO.bind ?_ (fun _ => ?_))
      | exact ih0 _ _ _
      | exact ih1 _ _ _ _ _ _
      | exact ih2 _ _ _ _ _ _ _ _
      | exact ih3 _ _ _ _ _ _ _ _
      | exact ih4 _ _ _ _ _ _
      | exact ih5 _ _ _ _
      | exact rubricatorlaw19_heavy.mono _ _
      | exact LeO.none _
      | refine LeO.ite ?_ ?_
      | refine LeO.bind ?_ (fun _ => ?_)
theorem rubricatorlaw19_BlockCode.mono : ∀ a0 a1 k, LeO (rubricatorlaw19_BlockCode.f k a0 a1) (rubricatorlaw19_BlockCode.f (k + 1) a0 a1) := by
  intro a0 a1 k
  obtain ⟨ih0, ih1, ih2, ih3, ih4, ih5⟩ := rubricatorlaw19_BlockCode.mono_l k
  unfold rubricatorlaw19_BlockCode.f
  repeat' first
      | (with_reducible exact ih0 _ _ _)
      | (with_reducible exact ih1 _ _ _ _ _ _)
      | (with_reducible exact ih2 _ _ _ _ _ _ _ _)
      | (with_reducible exact ih3 _ _ _ _ _ _ _ _)
      | (with_reducible exact ih4 _ _ _ _ _ _)
      | (with_reducible exact ih5 _ _ _ _)
      | (with_reducible exact rubricatorlaw19_heavy.mono _ _)
      | (with_reducible exact LeO.refl _)
      | (with_reducible exact LeO.none _)
      | (with_reducible refine LeO.ite ?_ ?_)
      | (with_reducible refine LeO.bind ?_ (fun _ => ?_))
      | exact ih0 _ _ _
      | exact ih1 _ _ _ _ _ _
      | exact ih2 _ _ _ _ _ _ _ _
      | exact ih3 _ _ _ _ _ _ _ _
      | exact ih4 _ _ _ _ _ _
      | exact ih5 _ _ _ _
      | exact rubricatorlaw19_heavy.mono _ _
      | exact LeO.none _
      | refine LeO.ite ?_ ?_
      | refine LeO.bind ?_ (fun _ => ?_)
set_option maxHeartbeats 8000000 in
set_option maxRecDepth 100000 in
theorem rubricatorlaw19_BlockCode.calls (k : Nat) (A0 : Option Addr) (c0 : Nat) (l0 : List ByteArray) (a1 : Int) (r : Bool) (w : World) (hG : GL w) (hr0 : Kd.C Kd.string w A0 l0.length l0) (hc0 : l0.length ≤ c0) (h : rubricatorlaw19_BlockCode.f k l0 a1 = some r) :
    Calls Tryz.prog 11 #[.slice A0 l0.length c0, .int .i64 a1] w fun e w' => e = .returned (.bool r) ∧ Below w.heap.size w w' := by
  have hu27 := Tryz.underlying27
  have HR0 := Aside0.mk hr0
  have HC0 := Aside0.mk hc0
  clear hr0 hc0
  have HB := Aside0.mk (Below.refl w.heap.size w)
  have H : ((rubricatorlaw19_heavy.f k l0).bind fun t101 => (if t101 = true then (rubricatorlaw19_BlockCode.j0 k l0 a1 true) else (if (l0.length : Int) = 0 then (rubricatorlaw19_BlockCode.j0 k l0 a1 true) else (if a1 < 0 then (rubricatorlaw19_BlockCode.j0 k l0 a1 true) else (rubricatorlaw19_BlockCode.j0 k l0 a1 (decide (a1 > 9))))))) = some r := h
  clear h
  have HC3 := Aside0.mk H
  clear H
  go_enter Tryz.func11, Tryz.ntmps11
  go_upto_region 1 with (fail)
  go_cut [28] (fun v28 wc => ∃ (kq : Nat) (x28_2 : Bool), v28 = .bool x28_2 ∧ Aside0 (rubricatorlaw19_BlockCode.j0 kq l0 a1 x28_2 = some r) ∧ Aside0 (kq ≤ k) ∧ Aside0 (Below w.heap.size w wc))
  case first =>
    have H := HC3.out
    clear HC3
    replace H := Option.bind_eq_some_iff.mp H
    obtain ⟨t101, A40, H⟩ := H
    replace H : (if t101 = true then (rubricatorlaw19_BlockCode.j0 k l0 a1 true) else (if (l0.length : Int) = 0 then (rubricatorlaw19_BlockCode.j0 k l0 a1 true) else (if a1 < 0 then (rubricatorlaw19_BlockCode.j0 k l0 a1 true) else (rubricatorlaw19_BlockCode.j0 k l0 a1 (decide (a1 > 9)))))) = some r := H
    have A4 := Aside0.mk A40
    clear A40
    by_cases c5 : t101 = true
    · subst c5
      have H1 : (rubricatorlaw19_BlockCode.j0 k l0 a1 true) = some r := by rw [if_pos rfl] at H; exact H
      clear H
      have H := H1
      clear H1
      have H' := Aside0.mk H
      clear H
      go_wp2_with (first | ((with_reducible refine gate_callee (f := 12) rfl ?_); refine goesL_ (some 15) rfl rfl Tryz.func12 (by kernel_rfl) rfl #[.slice A0 l0.length c0] rfl (by (try simp only [List.map_toArray, List.map_cons, List.map_nil]); first | done | rfl | (simp only [List.length_drop, List.length_take]; rfl)) ?_; (with_reducible refine (rubricatorlaw19_heavy.calls k _ _ l0 true _ ?side1 ?side2 A4.out).mono ?_); (case side1 => repeat (first | exact (Kd.C_below HR0.out HB.out) | (with_reducible refine Kd.C_alloc ?_ _) | (with_reducible refine Kd.C_drewN ?_ _) | (with_reducible refine Kd.C_drew ?_))); (case side2 => exact HC0.out); rintro e w' ⟨rfl, ⟨nd, rfl⟩⟩; refine ⟨_, rfl, ?_⟩))
      go_meet
      case rel => exact ⟨_, (true), (by first | rfl | (simp; done) | (simp [*]; done)), H', ⟨by first | omega | exact Nat.le_refl _⟩, ⟨by repeat (first | (with_reducible first | exact HB.out | apply below_alloc | apply pw_below_drewN | apply below_drew1) | exact HB.out)⟩⟩
    · replace c5 := Bool.eq_false_iff.mpr c5
      subst c5
      have H1 : (if (l0.length : Int) = 0 then (rubricatorlaw19_BlockCode.j0 k l0 a1 true) else (if a1 < 0 then (rubricatorlaw19_BlockCode.j0 k l0 a1 true) else (rubricatorlaw19_BlockCode.j0 k l0 a1 (decide (a1 > 9))))) = some r := by rw [if_neg (show ¬ (false = true) by decide)] at H; exact H
      clear H
      have H := H1
      clear H1
      by_cases c6 : (l0.length : Int) = 0
      · rw [if_pos c6] at H
        have c6b0 : ((l0.length : Int) == 0) = true := beq_iff_eq.mpr c6
        have c6b1 : ((l0.length : Int) != 0) = false := bne_eq_false_iff_eq.mpr c6
        clear c6
        (first | rw [c6b0] | (simp only [i64_w, i32_w]; rw [c6b0]) | skip)
        have H' := Aside0.mk H
        clear H
        go_wp2_with (first | ((with_reducible refine gate_callee (f := 12) rfl ?_); refine goesL_ (some 15) rfl rfl Tryz.func12 (by kernel_rfl) rfl #[.slice A0 l0.length c0] rfl (by (try simp only [List.map_toArray, List.map_cons, List.map_nil]); first | done | rfl | (simp only [List.length_drop, List.length_take]; rfl)) ?_; (with_reducible refine (rubricatorlaw19_heavy.calls k _ _ l0 false _ ?side1 ?side2 A4.out).mono ?_); (case side1 => repeat (first | exact (Kd.C_below HR0.out HB.out) | (with_reducible refine Kd.C_alloc ?_ _) | (with_reducible refine Kd.C_drewN ?_ _) | (with_reducible refine Kd.C_drew ?_))); (case side2 => exact HC0.out); rintro e w' ⟨rfl, ⟨nd, rfl⟩⟩; refine ⟨_, rfl, ?_⟩))
        go_meet
        case rel => exact ⟨_, (true), (by first | rfl | (simp; done) | (simp [*]; done)), H', ⟨by first | omega | exact Nat.le_refl _⟩, ⟨by repeat (first | (with_reducible first | exact HB.out | apply below_alloc | apply pw_below_drewN | apply below_drew1) | exact HB.out)⟩⟩
      · rw [if_neg c6] at H
        have c6b0 : ((l0.length : Int) == 0) = false := beq_eq_false_iff_ne.mpr c6
        have c6b1 : ((l0.length : Int) != 0) = true := bne_iff_ne.mpr c6
        have c6b2 : ¬ (l0 = []) := fun h_ => c6 (by rw [h_]; rfl)
        (first | rw [c6b0] | (simp only [i64_w, i32_w]; rw [c6b0]) | skip)
        by_cases c7 : a1 < 0
        · rw [if_pos c7] at H
          have c7b0 : decide (a1 < 0) = true := decide_eq_true c7
          clear c7
          have H' := Aside0.mk H
          clear H
          go_wp2_with (first | ((with_reducible refine gate_callee (f := 12) rfl ?_); refine goesL_ (some 15) rfl rfl Tryz.func12 (by kernel_rfl) rfl #[.slice A0 l0.length c0] rfl (by (try simp only [List.map_toArray, List.map_cons, List.map_nil]); first | done | rfl | (simp only [List.length_drop, List.length_take]; rfl)) ?_; (with_reducible refine (rubricatorlaw19_heavy.calls k _ _ l0 false _ ?side1 ?side2 A4.out).mono ?_); (case side1 => repeat (first | exact (Kd.C_below HR0.out HB.out) | (with_reducible refine Kd.C_alloc ?_ _) | (with_reducible refine Kd.C_drewN ?_ _) | (with_reducible refine Kd.C_drew ?_))); (case side2 => exact HC0.out); rintro e w' ⟨rfl, ⟨nd, rfl⟩⟩; refine ⟨_, rfl, ?_⟩))
          go_meet
          case rel => exact ⟨_, (true), (by first | rfl | (simp; done) | (simp [*]; done)), H', ⟨by first | omega | exact Nat.le_refl _⟩, ⟨by repeat (first | (with_reducible first | exact HB.out | apply below_alloc | apply pw_below_drewN | apply below_drew1) | exact HB.out)⟩⟩
        · rw [if_neg c7] at H
          have c7b0 : decide (a1 < 0) = false := decide_eq_false c7
          clear c7
          have H' := Aside0.mk H
          clear H
          go_wp2_with (first | ((with_reducible refine gate_callee (f := 12) rfl ?_); refine goesL_ (some 15) rfl rfl Tryz.func12 (by kernel_rfl) rfl #[.slice A0 l0.length c0] rfl (by (try simp only [List.map_toArray, List.map_cons, List.map_nil]); first | done | rfl | (simp only [List.length_drop, List.length_take]; rfl)) ?_; (with_reducible refine (rubricatorlaw19_heavy.calls k _ _ l0 false _ ?side1 ?side2 A4.out).mono ?_); (case side1 => repeat (first | exact (Kd.C_below HR0.out HB.out) | (with_reducible refine Kd.C_alloc ?_ _) | (with_reducible refine Kd.C_drewN ?_ _) | (with_reducible refine Kd.C_drew ?_))); (case side2 => exact HC0.out); rintro e w' ⟨rfl, ⟨nd, rfl⟩⟩; refine ⟨_, rfl, ?_⟩))
          go_meet
          case rel => exact ⟨_, (decide (a1 > 9)), (by first | rfl | (simp; done) | (simp [*]; done)), H', ⟨by first | omega | exact Nat.le_refl _⟩, ⟨by repeat (first | (with_reducible first | exact HB.out | apply below_alloc | apply pw_below_drewN | apply below_drew1) | exact HB.out)⟩⟩
  case rest =>
    clear HC3
    try clear c1
    try clear p2
    try clear c5
    try clear c6
    try clear c6b0
    try clear c6b1
    try clear c6b2
    try clear c7
    try clear c7b0
    obtain ⟨kq, x28_2, rfl, HA, HJ2, HB⟩ := hcut
    cases kq with
    | zero => exact absurd HA.out (by simp [rubricatorlaw19_BlockCode.j0])
    | succ kj2 =>
      have H := HA.out
      clear HA
      simp only [rubricatorlaw19_BlockCode.j0] at H
      by_cases c8 : x28_2 = true
      · subst c8
        have H1 : (some true) = some r := by rw [if_pos rfl] at H; exact H
        clear H
        have H := H1
        clear H1
        obtain rfl := Option.some.inj H
        go_wp2
        go_ret
        exact ⟨by first | rfl | (simp [errW_none, errW_some] <;> rfl) | (simp [*, errW_none, errW_some] <;> rfl), by repeat (first | (with_reducible first | exact HB.out | apply below_alloc | apply pw_below_drewN | apply below_drew1) | exact HB.out)⟩
      · replace c8 := Bool.eq_false_iff.mpr c8
        subst c8
        have H1 : (rubricatorlaw19_BlockCode.l0 kj2 l0 a1 ([] : List ByteArray) (⟨#[]⟩ : ByteArray) 0 0) = some r := by rw [if_neg (show ¬ (false = true) by decide)] at H; exact H
        clear H
        have H := H1
        clear H1
        have H' := Aside0.mk H
        clear H
        go_wp2
        go_loopg [5, 7, 8] kj2 (fun kq v5 v7 v8 w' => ∃ (x5_2 : List ByteArray) (x7_2 : Int) (x8_2 : Int), v7 = .int .i64 x7_2 ∧ v8 = .int .i64 x8_2 ∧ Aside0 (rubricatorlaw19_BlockCode.l0 kq l0 a1 x5_2 (⟨#[]⟩ : ByteArray) x7_2 x8_2 = some r) ∧ Aside0 (kq ≤ kj2) ∧ Aside0 (Kd.R Kd.string 9 w' w.heap.size (fun _ => True) v5 x5_2) ∧ Aside0 (Below w.heap.size w w'))
        case atStart => exact ⟨(([] : List ByteArray)), (0), (0), (by first | rfl | (simp; done) | (simp [*]; done)), (by first | rfl | (simp; done) | (simp [*]; done)), H', ⟨Nat.le_refl _⟩, ⟨by first | exact Kd.R_nil _ _ _ _ _ | exact Kd.N_nil _ _ _ _ _ | exact Kd.V_nil _ _ _ _ _ | exact Kd.Q_nil _ _ _ _ _ | exact Kd.S_nil _ _ _ _ _⟩, ⟨by repeat (first | (with_reducible first | exact HB.out | apply below_alloc | apply pw_below_drewN | apply below_drew1) | exact HB.out)⟩⟩
        case round =>
          clear H'
          try clear c1
          try clear p2
          try clear c5
          try clear c6
          try clear c6b0
          try clear c6b1
          try clear c6b2
          try clear c7
          try clear c7b0
          try clear c8
          try clear p2
          obtain ⟨x5_2, x7_2, x8_2, rfl, rfl, HA, HK2, HO_5, HB⟩ := hrel
          cases gk with
          | zero => exact absurd HA.out (by simp [rubricatorlaw19_BlockCode.l0])
          | succ k2 =>
            have H := HA.out
            clear HA
            simp only [rubricatorlaw19_BlockCode.l0] at H
            by_cases c9 : x8_2 < (l0.length : Int)
            · rw [if_pos c9] at H
              have c9b0 : decide (x8_2 < (l0.length : Int)) = true := decide_eq_true c9
              clear c9
              have H' := Aside0.mk H
              clear H
              go_wp2
              go_loopg [9, 10] k2 (fun kq v9 v10 w' => ∃ (x9_3 : Bool) (x10_3 : Int), v9 = .bool x9_3 ∧ v10 = .int .i64 x10_3 ∧ Aside0 (rubricatorlaw19_BlockCode.l1 kq l0 a1 x5_2 (⟨#[]⟩ : ByteArray) x7_2 x8_2 x9_3 x10_3 = some r) ∧ Aside0 (kq ≤ k2) ∧ Aside0 (Kd.R Kd.string 9 w' w.heap.size (fun _ => True) u5 x5_2) ∧ Aside0 (Below w.heap.size w w'))
              case atStart => exact ⟨(true), (0), (by first | rfl | (simp; done) | (simp [*]; done)), (by first | rfl | (simp; done) | (simp [*]; done)), H', ⟨Nat.le_refl _⟩, ⟨by (with_reducible repeat (first | apply Kd.R_alloc | apply Kd.R_drewN | apply Kd.R_drew)); exact HO_5.out⟩, ⟨by repeat (first | (with_reducible first | exact HB.out | apply below_alloc | apply pw_below_drewN | apply below_drew1) | exact HB.out)⟩⟩
              case round =>
                clear H'
                try clear c1
                try clear p2
                try clear c5
                try clear c6
                try clear c6b0
                try clear c6b1
                try clear c6b2
                try clear c7
                try clear c7b0
                try clear c8
                try clear c9
                try clear c9b0
                try clear p2
                obtain ⟨x9_3, x10_3, rfl, rfl, HA, HK3, HO_5, HB⟩ := hrel
                cases gk with
                | zero => exact absurd HA.out (by simp [rubricatorlaw19_BlockCode.l1])
                | succ k3 =>
                  have H := HA.out
                  clear HA
                  simp only [rubricatorlaw19_BlockCode.l1] at H
                  by_cases c10 : 0 ≤ x8_2
                  · rw [if_pos c10] at H
                    have c10b0 : decide (0 ≤ x8_2) = true := decide_eq_true c10
                    clear c10
                    by_cases c11 : x8_2 < (l0.length : Int)
                    · rw [if_pos c11] at H
                      have c11b0 : decide (x8_2 < (l0.length : Int)) = true := decide_eq_true c11
                      clear c11
                      by_cases c12 : x10_3 < ((rdOf ByteArray.empty l0 x8_2).size : Int)
                      · rw [if_pos c12] at H
                        have c12b0 : decide (x10_3 < ((rdOf ByteArray.empty l0 x8_2).size : Int)) = true := decide_eq_true c12
                        clear c12
                        by_cases c13 : x9_3 = true
                        · subst c13
                          have H1 : (if 0 ≤ x10_3 then (if (bt (rdOf ByteArray.empty l0 x8_2) x10_3) = 32 then (rubricatorlaw19_BlockCode.l1 k3 l0 a1 x5_2 (⟨#[]⟩ : ByteArray) x7_2 x8_2 true (wrap64 (x10_3 + 1))) else (rubricatorlaw19_BlockCode.l1 k3 l0 a1 x5_2 (⟨#[]⟩ : ByteArray) x7_2 x8_2 ((bt (rdOf ByteArray.empty l0 x8_2) x10_3) == 9) (wrap64 (x10_3 + 1)))) else (none)) = some r := by rw [if_pos rfl] at H; exact H
                          clear H
                          have H := H1
                          clear H1
                          by_cases c14 : 0 ≤ x10_3
                          · rw [if_pos c14] at H
                            have c14b0 : decide (0 ≤ x10_3) = true := decide_eq_true c14
                            clear c14
                            by_cases c16 : (bt (rdOf ByteArray.empty l0 x8_2) x10_3) = 32
                            · rw [if_pos c16] at H
                              have c16b0 : ((bt (rdOf ByteArray.empty l0 x8_2) x10_3) == 32) = true := beq_iff_eq.mpr c16
                              have c16b1 : ((bt (rdOf ByteArray.empty l0 x8_2) x10_3) != 32) = false := bne_eq_false_iff_eq.mpr c16
                              clear c16
                              have H' := Aside0.mk H
                              clear H
                              have p102 : 0 ≤ (x8_2 : Int) := of_decide_eq_true (by first | (with_reducible assumption) | assumption)
                              have q102 : x8_2 < (l0.length : Int) := of_decide_eq_true (by first | (with_reducible assumption) | assumption)
                              obtain ⟨ad102, e102, hx102_0⟩ := Kd.at_string HR0.out x8_2 p102 q102
                              cases e102
                              replace hx102_0 := (HB.out.cell (World.block_lt_of_cell? w _ hx102_0)).trans hx102_0
                              replace p102 := eq_true p102
                              replace q102 := eq_true q102
                              have p103 : 0 ≤ (x8_2 : Int) := of_decide_eq_true (by first | (with_reducible assumption) | assumption)
                              have q103 : x8_2 < (l0.length : Int) := of_decide_eq_true (by first | (with_reducible assumption) | assumption)
                              obtain ⟨ad103, e103, hx103_0⟩ := Kd.at_string HR0.out x8_2 p103 q103
                              obtain rfl : ad102 = ad103 := (by injection e103)
                              replace hx103_0 := (HB.out.cell (World.block_lt_of_cell? w _ hx103_0)).trans hx103_0
                              replace p103 := eq_true p103
                              replace q103 := eq_true q103
                              have p15 : 0 ≤ (x10_3 : Int) := of_decide_eq_true (by first | (with_reducible assumption) | assumption)
                              have q15 : x10_3 < ((rdOf ByteArray.empty l0 x8_2).size : Int) := of_decide_eq_true (by first | (with_reducible assumption) | assumption)
                              have hx15 := bt_at (rdOf ByteArray.empty l0 x8_2) x10_3
                              replace p15 := eq_true p15
                              replace q15 := eq_true q15
                              go_wp2
                              go_roundg k3
                              case measure => have := HJ2.out; have := HK2.out; have := HK3.out; omega
                              case rel => exact ⟨(true), (wrap64 (x10_3 + 1)), (by first | rfl | (simp; done) | (simp [*]; done)), (by first | rfl | (simp; done) | (simp [*]; done)), H', ⟨by have := HJ2.out; have := HK2.out; have := HK3.out; omega⟩, ⟨by (with_reducible repeat (first | apply Kd.R_alloc | apply Kd.R_drewN | apply Kd.R_drew)); exact HO_5.out⟩, ⟨by repeat (first | (with_reducible first | exact HB.out | apply below_alloc | apply pw_below_drewN | apply below_drew1) | exact HB.out)⟩⟩
                            · rw [if_neg c16] at H
                              have c16b0 : ((bt (rdOf ByteArray.empty l0 x8_2) x10_3) == 32) = false := beq_eq_false_iff_ne.mpr c16
                              have c16b1 : ((bt (rdOf ByteArray.empty l0 x8_2) x10_3) != 32) = true := bne_iff_ne.mpr c16
                              have H' := Aside0.mk H
                              clear H
                              have p102 : 0 ≤ (x8_2 : Int) := of_decide_eq_true (by first | (with_reducible assumption) | assumption)
                              have q102 : x8_2 < (l0.length : Int) := of_decide_eq_true (by first | (with_reducible assumption) | assumption)
                              obtain ⟨ad102, e102, hx102_0⟩ := Kd.at_string HR0.out x8_2 p102 q102
                              cases e102
                              replace hx102_0 := (HB.out.cell (World.block_lt_of_cell? w _ hx102_0)).trans hx102_0
                              replace p102 := eq_true p102
                              replace q102 := eq_true q102
                              have p103 : 0 ≤ (x8_2 : Int) := of_decide_eq_true (by first | (with_reducible assumption) | assumption)
                              have q103 : x8_2 < (l0.length : Int) := of_decide_eq_true (by first | (with_reducible assumption) | assumption)
                              obtain ⟨ad103, e103, hx103_0⟩ := Kd.at_string HR0.out x8_2 p103 q103
                              obtain rfl : ad102 = ad103 := (by injection e103)
                              replace hx103_0 := (HB.out.cell (World.block_lt_of_cell? w _ hx103_0)).trans hx103_0
                              replace p103 := eq_true p103
                              replace q103 := eq_true q103
                              have p15 : 0 ≤ (x10_3 : Int) := of_decide_eq_true (by first | (with_reducible assumption) | assumption)
                              have q15 : x10_3 < ((rdOf ByteArray.empty l0 x8_2).size : Int) := of_decide_eq_true (by first | (with_reducible assumption) | assumption)
                              have hx15 := bt_at (rdOf ByteArray.empty l0 x8_2) x10_3
                              replace p15 := eq_true p15
                              replace q15 := eq_true q15
                              have p104 : 0 ≤ (x8_2 : Int) := of_decide_eq_true (by first | (with_reducible assumption) | assumption)
                              have q104 : x8_2 < (l0.length : Int) := of_decide_eq_true (by first | (with_reducible assumption) | assumption)
                              obtain ⟨ad104, e104, hx104_0⟩ := Kd.at_string HR0.out x8_2 p104 q104
                              obtain rfl : ad102 = ad104 := (by injection e104)
                              replace hx104_0 := (HB.out.cell (World.block_lt_of_cell? w _ hx104_0)).trans hx104_0
                              replace p104 := eq_true p104
                              replace q104 := eq_true q104
                              have p17 : 0 ≤ (x10_3 : Int) := of_decide_eq_true (by first | (with_reducible assumption) | assumption)
                              have q17 : x10_3 < ((rdOf ByteArray.empty l0 x8_2).size : Int) := of_decide_eq_true (by first | (with_reducible assumption) | assumption)
                              have hx17 := bt_at (rdOf ByteArray.empty l0 x8_2) x10_3
                              replace p17 := eq_true p17
                              replace q17 := eq_true q17
                              go_wp2
                              go_roundg k3
                              case measure => have := HJ2.out; have := HK2.out; have := HK3.out; omega
                              case rel => exact ⟨(((bt (rdOf ByteArray.empty l0 x8_2) x10_3) == 9)), (wrap64 (x10_3 + 1)), (by first | rfl | (simp; done) | (simp [*]; done)), (by first | rfl | (simp; done) | (simp [*]; done)), H', ⟨by have := HJ2.out; have := HK2.out; have := HK3.out; omega⟩, ⟨by (with_reducible repeat (first | apply Kd.R_alloc | apply Kd.R_drewN | apply Kd.R_drew)); exact HO_5.out⟩, ⟨by repeat (first | (with_reducible first | exact HB.out | apply below_alloc | apply pw_below_drewN | apply below_drew1) | exact HB.out)⟩⟩
                          · rw [if_neg c14] at H
                            exact absurd H (by simp)
                        · replace c13 := Bool.eq_false_iff.mpr c13
                          subst c13
                          have H1 : (rubricatorlaw19_BlockCode.l1 k3 l0 a1 x5_2 (⟨#[]⟩ : ByteArray) x7_2 x8_2 false (wrap64 (x10_3 + 1))) = some r := by rw [if_neg (show ¬ (false = true) by decide)] at H; exact H
                          clear H
                          have H := H1
                          clear H1
                          have H' := Aside0.mk H
                          clear H
                          have p102 : 0 ≤ (x8_2 : Int) := of_decide_eq_true (by first | (with_reducible assumption) | assumption)
                          have q102 : x8_2 < (l0.length : Int) := of_decide_eq_true (by first | (with_reducible assumption) | assumption)
                          obtain ⟨ad102, e102, hx102_0⟩ := Kd.at_string HR0.out x8_2 p102 q102
                          cases e102
                          replace hx102_0 := (HB.out.cell (World.block_lt_of_cell? w _ hx102_0)).trans hx102_0
                          replace p102 := eq_true p102
                          replace q102 := eq_true q102
                          go_wp2
                          go_roundg k3
                          case measure => have := HJ2.out; have := HK2.out; have := HK3.out; omega
                          case rel => exact ⟨(false), (wrap64 (x10_3 + 1)), (by first | rfl | (simp; done) | (simp [*]; done)), (by first | rfl | (simp; done) | (simp [*]; done)), H', ⟨by have := HJ2.out; have := HK2.out; have := HK3.out; omega⟩, ⟨by (with_reducible repeat (first | apply Kd.R_alloc | apply Kd.R_drewN | apply Kd.R_drew)); exact HO_5.out⟩, ⟨by repeat (first | (with_reducible first | exact HB.out | apply below_alloc | apply pw_below_drewN | apply below_drew1) | exact HB.out)⟩⟩
                      · rw [if_neg c12] at H
                        have c12b0 : decide (x10_3 < ((rdOf ByteArray.empty l0 x8_2).size : Int)) = false := decide_eq_false c12
                        clear c12
                        have HC18 := Aside0.mk H
                        clear H
                        have p102 : 0 ≤ (x8_2 : Int) := of_decide_eq_true (by first | (with_reducible assumption) | assumption)
                        have q102 : x8_2 < (l0.length : Int) := of_decide_eq_true (by first | (with_reducible assumption) | assumption)
                        obtain ⟨ad102, e102, hx102_0⟩ := Kd.at_string HR0.out x8_2 p102 q102
                        cases e102
                        replace hx102_0 := (HB.out.cell (World.block_lt_of_cell? w _ hx102_0)).trans hx102_0
                        replace p102 := eq_true p102
                        replace q102 := eq_true q102
                        go_upto_region 14 with (fail)
                        go_cut [67] (fun v67 wc => ∃ (kq : Nat) (x67_17 : Bool), v67 = .bool x67_17 ∧ Aside0 (rubricatorlaw19_BlockCode.j3 kq l0 a1 x5_2 (⟨#[]⟩ : ByteArray) x7_2 x8_2 x9_3 x67_17 = some r) ∧ Aside0 (kq ≤ k3) ∧ Aside0 (Kd.R Kd.string 9 wc w.heap.size (fun _ => True) u5 x5_2) ∧ Aside0 (Below w.heap.size w wc))
                        case first =>
                          have H := HC18.out
                          clear HC18
                          by_cases c19 : x8_2 = 0
                          · rw [if_pos c19] at H
                            have c19b0 : (x8_2 == 0) = true := beq_iff_eq.mpr c19
                            have c19b1 : (x8_2 != 0) = false := bne_eq_false_iff_eq.mpr c19
                            clear c19
                            (first | rw [c19b0] | (simp only [i64_w, i32_w]; rw [c19b0]) | skip)
                            have H' := Aside0.mk H
                            clear H
                            go_wp2
                            go_meet
                            case rel => exact ⟨_, (x9_3), (by first | rfl | (simp; done) | (simp [*]; done)), H', ⟨by have := HJ2.out; have := HK2.out; have := HK3.out; first | omega | exact Nat.le_refl _⟩, ⟨by (with_reducible repeat (first | apply Kd.R_alloc | apply Kd.R_drewN | apply Kd.R_drew)); exact HO_5.out⟩, ⟨by repeat (first | (with_reducible first | exact HB.out | apply below_alloc | apply pw_below_drewN | apply below_drew1) | exact HB.out)⟩⟩
                          · rw [if_neg c19] at H
                            have c19b0 : (x8_2 == 0) = false := beq_eq_false_iff_ne.mpr c19
                            have c19b1 : (x8_2 != 0) = true := bne_iff_ne.mpr c19
                            (first | rw [c19b0] | (simp only [i64_w, i32_w]; rw [c19b0]) | skip)
                            have H' := Aside0.mk H
                            clear H
                            go_wp2
                            go_meet
                            case rel => exact ⟨_, (false), (by first | rfl | (simp; done) | (simp [*]; done)), H', ⟨by have := HJ2.out; have := HK2.out; have := HK3.out; first | omega | exact Nat.le_refl _⟩, ⟨by (with_reducible repeat (first | apply Kd.R_alloc | apply Kd.R_drewN | apply Kd.R_drew)); exact HO_5.out⟩, ⟨by repeat (first | (with_reducible first | exact HB.out | apply below_alloc | apply pw_below_drewN | apply below_drew1) | exact HB.out)⟩⟩
                        case rest =>
                          clear HC18
                          try clear c1
                          try clear p1
                          try clear q1
                          try clear hx1
                          try clear p2
                          try clear c5
                          try clear c6
                          try clear c6b0
                          try clear c6b1
                          try clear c6b2
                          try clear p6
                          try clear c7
                          try clear c7b0
                          try clear c8
                          try clear c9
                          try clear c9b0
                          try clear c10
                          try clear c10b0
                          try clear p10
                          try clear q10
                          try clear hx10
                          try clear c11
                          try clear c11b0
                          try clear c12
                          try clear c12b0
                          try clear c13
                          try clear c14
                          try clear c14b0
                          try clear p15
                          try clear q15
                          try clear hx15
                          try clear c16
                          try clear c16b0
                          try clear c16b1
                          try clear p17
                          try clear q17
                          try clear hx17
                          try clear c19
                          try clear c19b0
                          try clear c19b1
                          try clear hx102_0
                          try clear hx103_0
                          try clear hx104_0
                          try clear p102
                          try clear p103
                          try clear p104
                          try clear p15
                          try clear p17
                          try clear p2
                          try clear q102
                          try clear q103
                          try clear q104
                          try clear q15
                          try clear q17
                          obtain ⟨kq, x67_17, rfl, HA, HJ17, HO_5, HB⟩ := hcut
                          cases kq with
                          | zero => exact absurd HA.out (by simp [rubricatorlaw19_BlockCode.j3])
                          | succ kj17 =>
                            have H := HA.out
                            clear HA
                            simp only [rubricatorlaw19_BlockCode.j3] at H
                            by_cases c20 : x67_17 = true
                            · subst c20
                              have H1 : ((rubricatorlaw19_known.f).bind fun t105 => (some t105)) = some r := by rw [if_pos rfl] at H; exact H
                              clear H
                              have H := H1
                              clear H1
                              replace H := Option.bind_eq_some_iff.mp H
                              obtain ⟨t105, A210, H⟩ := H
                              replace H : (some t105) = some r := H
                              have A21 := Aside0.mk A210
                              clear A210
                              obtain rfl := Option.some.inj H
                              go_wp2_with (first | ((with_reducible refine gate_callee (f := 17) rfl ?_); refine goesL_ (some 68) rfl rfl Tryz.func17 (by kernel_rfl) rfl #[] rfl (by (try simp only [List.map_toArray, List.map_cons, List.map_nil]); first | done | rfl | (simp only [List.length_drop, List.length_take]; rfl)) ?_; (with_reducible refine (rubricatorlaw19_known.calls  t105 _ ?side1 A21.out).mono ?_); (case side1 => first | (with_reducible exact hG) | (refine GL.below hG ?_; (repeat (first | (with_reducible first | exact HB.out | apply below_alloc | apply pw_below_drewN | apply below_drew1) | exact HB.out)); done) | (refine GL.drawn hG ?_; (repeat (first | exact Drawn0.refl _ | apply Drawn0.step)); done) | exact hG); rintro e w22 ⟨rfl, hb⟩; refine ⟨_, rfl, ?_⟩; have n0_ := Aside0.mk (Kd.R_below (by (with_reducible repeat (first | apply Kd.R_alloc | apply Kd.R_drewN | apply Kd.R_drew)); exact HO_5.out) hb); have n1_ := Aside0.mk (below_step (by repeat (first | (with_reducible first | exact HB.out | apply below_alloc | apply pw_below_drewN | apply below_drew1) | exact HB.out)) hb); clear HO_5; clear HB; have HO_5 := n0_; have HB := n1_; clear n0_ n1_; (try clear hb); (try clear hb2); (try clear hk); (try clear hi)))
                              go_ret
                              exact ⟨by first | rfl | (simp [errW_none, errW_some] <;> rfl) | (simp [*, errW_none, errW_some] <;> rfl), by repeat (first | (with_reducible first | exact HB.out | apply below_alloc | apply pw_below_drewN | apply below_drew1) | exact HB.out)⟩
                            · replace c20 := Bool.eq_false_iff.mpr c20
                              subst c20
                              have H1 : (if x9_3 = true then (if 0 ≤ x8_2 then (if x8_2 < (l0.length : Int) then (if 4 + (rdOf ByteArray.empty l0 x8_2).size ≤ 9223372036854775807 then (if x5_2.length < 8796093022208 then (rubricatorlaw19_BlockCode.l0 kj17 l0 a1 (x5_2 ++ [(⟨#[32, 32, 32, 32]⟩ : ByteArray) ++ (rdOf ByteArray.empty l0 x8_2)]) (⟨#[]⟩ : ByteArray) x7_2 (wrap64 (x8_2 + 1))) else (none)) else (none)) else (none)) else (none)) else (if 0 ≤ x8_2 then (if x8_2 < (l0.length : Int) then (if 4 + (rdOf ByteArray.empty l0 x8_2).size ≤ 9223372036854775807 then (if x5_2.length < 8796093022208 then (rubricatorlaw19_BlockCode.l0 kj17 l0 a1 (x5_2 ++ [(⟨#[32, 32, 32, 32]⟩ : ByteArray) ++ (rdOf ByteArray.empty l0 x8_2)]) (⟨#[]⟩ : ByteArray) x8_2 (wrap64 (x8_2 + 1))) else (none)) else (none)) else (none)) else (none))) = some r := by rw [if_neg (show ¬ (false = true) by decide)] at H; exact H
                              clear H
                              have H := H1
                              clear H1
                              by_cases c23 : x9_3 = true
                              · subst c23
                                have H1 : (if 0 ≤ x8_2 then (if x8_2 < (l0.length : Int) then (if 4 + (rdOf ByteArray.empty l0 x8_2).size ≤ 9223372036854775807 then (if x5_2.length < 8796093022208 then (rubricatorlaw19_BlockCode.l0 kj17 l0 a1 (x5_2 ++ [(⟨#[32, 32, 32, 32]⟩ : ByteArray) ++ (rdOf ByteArray.empty l0 x8_2)]) (⟨#[]⟩ : ByteArray) x7_2 (wrap64 (x8_2 + 1))) else (none)) else (none)) else (none)) else (none)) = some r := by rw [if_pos rfl] at H; exact H
                                clear H
                                have H := H1
                                clear H1
                                by_cases c24 : 0 ≤ x8_2
                                · rw [if_pos c24] at H
                                  have c24b0 : decide (0 ≤ x8_2) = true := decide_eq_true c24
                                  clear c24
                                  by_cases c25 : x8_2 < (l0.length : Int)
                                  · rw [if_pos c25] at H
                                    have c25b0 : decide (x8_2 < (l0.length : Int)) = true := decide_eq_true c25
                                    clear c25
                                    by_cases c26 : 4 + (rdOf ByteArray.empty l0 x8_2).size ≤ 9223372036854775807
                                    · rw [if_pos c26] at H
                                      have c26b0 := eq_true c26
                                      have c26b1 : decide (4 + (rdOf ByteArray.empty l0 x8_2).size ≤ 9223372036854775807) = true := decide_eq_true c26
                                      try have c26b2 : (9223372036854775807 < 4 + (rdOf ByteArray.empty l0 x8_2).size) = False := eq_false (Nat.not_lt.2 c26)
                                      by_cases c27 : x5_2.length < 8796093022208
                                      · rw [if_pos c27] at H
                                        have LMc27 := Aside0.mk c27
                                        clear c27
                                        obtain ⟨y107, hy107⟩ : ∃ y_ : List ByteArray, y_ = (x5_2 ++ [(⟨#[32, 32, 32, 32]⟩ : ByteArray) ++ (rdOf ByteArray.empty l0 x8_2)]) := ⟨_, rfl⟩
                                        replace H : (rubricatorlaw19_BlockCode.l0 kj17 l0 a1 y107 (⟨#[]⟩ : ByteArray) x7_2 (wrap64 (x8_2 + 1))) = some r := by first | (rw [hy107]; with_reducible exact H) | (have H2_ := (Option.bind_some _ _).symm.trans H; rw [hy107]; with_reducible exact H2_) | (have H2_ := (Option.bind_some _ _).symm.trans H; with_reducible exact H2_) | with_reducible exact H | (rw [hy107]; exact H) | exact H
                                        have Ny107 := Aside0.mk hy107
                                        clear hy107
                                        have H' := Aside0.mk H
                                        clear H
                                        have p106 : 0 ≤ (x8_2 : Int) := of_decide_eq_true (by first | (with_reducible assumption) | assumption)
                                        have q106 : x8_2 < (l0.length : Int) := of_decide_eq_true (by first | (with_reducible assumption) | assumption)
                                        obtain ⟨ad106, e106, hx106_0⟩ := Kd.at_string HR0.out x8_2 p106 q106
                                        obtain rfl : ad102 = ad106 := (by injection e106)
                                        replace hx106_0 := (HB.out.cell (World.block_lt_of_cell? w _ hx106_0)).trans hx106_0
                                        replace p106 := eq_true p106
                                        replace q106 := eq_true q106
                                        go_wp2_with (first | ((with_reducible refine gate_builtin (b := .append) (xs := #[.tmp 72, .tmp 78]) rfl ?_); (try (refine gate_guard (by rfl) ?_; dsimp only)); at_builtin; refine Kd.R_append Kd.string (w0 := w) w.heap.size rfl (.tmp 72) (.tmp 78) 22 9 (.string ⟨#[]⟩) 16 rfl Tryz.underlying22 info9 rfl (by decide) (by omega) u5 x5_2 ((⟨#[32, 32, 32, 32]⟩ : ByteArray) ++ (rdOf ByteArray.empty l0 x8_2)) [.string ((⟨#[32, 32, 32, 32]⟩ : ByteArray) ++ (rdOf ByteArray.empty l0 x8_2))] (fun _ => True) (fun _ => False) rfl rfl ?aP (fun _ hk => hk.elim) ?aF ?aO ?aB ?aS ?aL ?_; (case aP => exact rfl); (case aB => exact (by repeat (first | (with_reducible first | exact HB.out | apply below_alloc | apply pw_below_drewN | apply below_drew1) | exact HB.out))); (case aF => exact (fun _ _ => trivial)); (case aO => exact (by (with_reducible repeat (first | apply Kd.R_alloc | apply Kd.R_drewN | apply Kd.R_drew)); exact HO_5.out)); (case aS => exact (below_size (by repeat (first | (with_reducible first | exact HB.out | apply below_alloc | apply pw_below_drewN | apply below_drew1) | exact HB.out)))); (case aL => have := LMc27.out; omega); intro v108 w28 ho hb hg hat; rw [← Ny107.out] at ho; have n0_ := Aside0.mk (hb); have n1_ := Aside0.mk (ho); clear HB; clear HO_5; have HB := n0_; have HO109 := n1_; clear n0_ n1_; clear ho hb hg hat))
                                        go_roundg kj17
                                        case measure => have := HJ2.out; have := HK2.out; have := HK3.out; have := HJ17.out; omega
                                        case rel => exact ⟨(y107), (x7_2), (wrap64 (x8_2 + 1)), (by first | rfl | (simp; done) | (simp [*]; done)), (by first | rfl | (simp; done) | (simp [*]; done)), H', ⟨by have := HJ2.out; have := HK2.out; have := HK3.out; have := HJ17.out; omega⟩, ⟨by (with_reducible repeat (first | apply Kd.R_alloc | apply Kd.R_drewN | apply Kd.R_drew)); exact HO109.out⟩, ⟨by repeat (first | (with_reducible first | exact HB.out | apply below_alloc | apply pw_below_drewN | apply below_drew1) | exact HB.out)⟩⟩
                                      · rw [if_neg c27] at H
                                        exact absurd H (by simp)
                                    · rw [if_neg c26] at H
                                      exact absurd H (by simp)
                                  · rw [if_neg c25] at H
                                    exact absurd H (by simp)
                                · rw [if_neg c24] at H
                                  exact absurd H (by simp)
                              · replace c23 := Bool.eq_false_iff.mpr c23
                                subst c23
                                have H1 : (if 0 ≤ x8_2 then (if x8_2 < (l0.length : Int) then (if 4 + (rdOf ByteArray.empty l0 x8_2).size ≤ 9223372036854775807 then (if x5_2.length < 8796093022208 then (rubricatorlaw19_BlockCode.l0 kj17 l0 a1 (x5_2 ++ [(⟨#[32, 32, 32, 32]⟩ : ByteArray) ++ (rdOf ByteArray.empty l0 x8_2)]) (⟨#[]⟩ : ByteArray) x8_2 (wrap64 (x8_2 + 1))) else (none)) else (none)) else (none)) else (none)) = some r := by rw [if_neg (show ¬ (false = true) by decide)] at H; exact H
                                clear H
                                have H := H1
                                clear H1
                                by_cases c29 : 0 ≤ x8_2
                                · rw [if_pos c29] at H
                                  have c29b0 : decide (0 ≤ x8_2) = true := decide_eq_true c29
                                  clear c29
                                  by_cases c30 : x8_2 < (l0.length : Int)
                                  · rw [if_pos c30] at H
                                    have c30b0 : decide (x8_2 < (l0.length : Int)) = true := decide_eq_true c30
                                    clear c30
                                    by_cases c31 : 4 + (rdOf ByteArray.empty l0 x8_2).size ≤ 9223372036854775807
                                    · rw [if_pos c31] at H
                                      have c31b0 := eq_true c31
                                      have c31b1 : decide (4 + (rdOf ByteArray.empty l0 x8_2).size ≤ 9223372036854775807) = true := decide_eq_true c31
                                      try have c31b2 : (9223372036854775807 < 4 + (rdOf ByteArray.empty l0 x8_2).size) = False := eq_false (Nat.not_lt.2 c31)
                                      by_cases c32 : x5_2.length < 8796093022208
                                      · rw [if_pos c32] at H
                                        have LMc32 := Aside0.mk c32
                                        clear c32
                                        obtain ⟨y111, hy111⟩ : ∃ y_ : List ByteArray, y_ = (x5_2 ++ [(⟨#[32, 32, 32, 32]⟩ : ByteArray) ++ (rdOf ByteArray.empty l0 x8_2)]) := ⟨_, rfl⟩
                                        replace H : (rubricatorlaw19_BlockCode.l0 kj17 l0 a1 y111 (⟨#[]⟩ : ByteArray) x8_2 (wrap64 (x8_2 + 1))) = some r := by first | (rw [hy111]; with_reducible exact H) | (have H2_ := (Option.bind_some _ _).symm.trans H; rw [hy111]; with_reducible exact H2_) | (have H2_ := (Option.bind_some _ _).symm.trans H; with_reducible exact H2_) | with_reducible exact H | (rw [hy111]; exact H) | exact H
                                        have Ny111 := Aside0.mk hy111
                                        clear hy111
                                        have H' := Aside0.mk H
                                        clear H
                                        have p110 : 0 ≤ (x8_2 : Int) := of_decide_eq_true (by first | (with_reducible assumption) | assumption)
                                        have q110 : x8_2 < (l0.length : Int) := of_decide_eq_true (by first | (with_reducible assumption) | assumption)
                                        obtain ⟨ad110, e110, hx110_0⟩ := Kd.at_string HR0.out x8_2 p110 q110
                                        obtain rfl : ad102 = ad110 := (by injection e110)
                                        replace hx110_0 := (HB.out.cell (World.block_lt_of_cell? w _ hx110_0)).trans hx110_0
                                        replace p110 := eq_true p110
                                        replace q110 := eq_true q110
                                        go_wp2_with (first | ((with_reducible refine gate_builtin (b := .append) (xs := #[.tmp 72, .tmp 78]) rfl ?_); (try (refine gate_guard (by rfl) ?_; dsimp only)); at_builtin; refine Kd.R_append Kd.string (w0 := w) w.heap.size rfl (.tmp 72) (.tmp 78) 22 9 (.string ⟨#[]⟩) 16 rfl Tryz.underlying22 info9 rfl (by decide) (by omega) u5 x5_2 ((⟨#[32, 32, 32, 32]⟩ : ByteArray) ++ (rdOf ByteArray.empty l0 x8_2)) [.string ((⟨#[32, 32, 32, 32]⟩ : ByteArray) ++ (rdOf ByteArray.empty l0 x8_2))] (fun _ => True) (fun _ => False) rfl rfl ?aP (fun _ hk => hk.elim) ?aF ?aO ?aB ?aS ?aL ?_; (case aP => exact rfl); (case aB => exact (by repeat (first | (with_reducible first | exact HB.out | apply below_alloc | apply pw_below_drewN | apply below_drew1) | exact HB.out))); (case aF => exact (fun _ _ => trivial)); (case aO => exact (by (with_reducible repeat (first | apply Kd.R_alloc | apply Kd.R_drewN | apply Kd.R_drew)); exact HO_5.out)); (case aS => exact (below_size (by repeat (first | (with_reducible first | exact HB.out | apply below_alloc | apply pw_below_drewN | apply below_drew1) | exact HB.out)))); (case aL => have := LMc32.out; omega); intro v112 w33 ho hb hg hat; rw [← Ny111.out] at ho; have n0_ := Aside0.mk (hb); have n1_ := Aside0.mk (ho); clear HB; clear HO_5; have HB := n0_; have HO113 := n1_; clear n0_ n1_; clear ho hb hg hat))
                                        go_roundg kj17
                                        case measure => have := HJ2.out; have := HK2.out; have := HK3.out; have := HJ17.out; omega
                                        case rel => exact ⟨(y111), (x8_2), (wrap64 (x8_2 + 1)), (by first | rfl | (simp; done) | (simp [*]; done)), (by first | rfl | (simp; done) | (simp [*]; done)), H', ⟨by have := HJ2.out; have := HK2.out; have := HK3.out; have := HJ17.out; omega⟩, ⟨by (with_reducible repeat (first | apply Kd.R_alloc | apply Kd.R_drewN | apply Kd.R_drew)); exact HO113.out⟩, ⟨by repeat (first | (with_reducible first | exact HB.out | apply below_alloc | apply pw_below_drewN | apply below_drew1) | exact HB.out)⟩⟩
                                      · rw [if_neg c32] at H
                                        exact absurd H (by simp)
                                    · rw [if_neg c31] at H
                                      exact absurd H (by simp)
                                  · rw [if_neg c30] at H
                                    exact absurd H (by simp)
                                · rw [if_neg c29] at H
                                  exact absurd H (by simp)
                    · rw [if_neg c11] at H
                      exact absurd H (by simp)
                  · rw [if_neg c10] at H
                    exact absurd H (by simp)
            · rw [if_neg c9] at H
              have c9b0 : decide (x8_2 < (l0.length : Int)) = false := decide_eq_false c9
              clear c9
              have H' := Aside0.mk H
              clear H
              go_wp2
              go_loopg [6, 11] k2 (fun kq v6 v11 w' => ∃ (x6_3 : ByteArray) (x11_3 : Int), v6 = .string x6_3 ∧ v11 = .int .i64 x11_3 ∧ Aside0 (rubricatorlaw19_BlockCode.l2 kq l0 a1 x5_2 x6_3 x7_2 x11_3 = some r) ∧ Aside0 (kq ≤ k2) ∧ Aside0 (Kd.R Kd.string 9 w' w.heap.size (fun _ => True) u5 x5_2) ∧ Aside0 (Below w.heap.size w w'))
              case atStart => exact ⟨((⟨#[]⟩ : ByteArray)), (0), (by first | rfl | (simp; done) | (simp [*]; done)), (by first | rfl | (simp; done) | (simp [*]; done)), H', ⟨Nat.le_refl _⟩, ⟨by (with_reducible repeat (first | apply Kd.R_alloc | apply Kd.R_drewN | apply Kd.R_drew)); exact HO_5.out⟩, ⟨by repeat (first | (with_reducible first | exact HB.out | apply below_alloc | apply pw_below_drewN | apply below_drew1) | exact HB.out)⟩⟩
              case round =>
                clear H'
                try clear c1
                try clear p1
                try clear q1
                try clear hx1
                try clear c2
                try clear p2
                try clear c3
                try clear c5
                try clear c6
                try clear c6b0
                try clear c6b1
                try clear c6b2
                try clear p6
                try clear c7
                try clear c7b0
                try clear c8
                try clear c9
                try clear c9b0
                try clear c10
                try clear c10b0
                try clear p10
                try clear q10
                try clear hx10
                try clear c11
                try clear c11b0
                try clear p11
                try clear q11
                try clear hx11
                try clear c12
                try clear c12b0
                try clear c13
                try clear c14
                try clear c14b0
                try clear p15
                try clear q15
                try clear hx15
                try clear c16
                try clear c16b0
                try clear c16b1
                try clear c17
                try clear p17
                try clear q17
                try clear hx17
                try clear c19
                try clear c19b0
                try clear c19b1
                try clear c20
                try clear c23
                try clear c24
                try clear c24b0
                try clear c25
                try clear c25b0
                try clear c26
                try clear c26b0
                try clear c26b1
                try clear c26b2
                try clear c27
                try clear c29
                try clear c29b0
                try clear c30
                try clear c30b0
                try clear c31
                try clear c31b0
                try clear c31b1
                try clear c31b2
                try clear c32
                try clear hx102_0
                try clear hx103_0
                try clear hx104_0
                try clear hx106_0
                try clear hx110_0
                try clear p1
                try clear p10
                try clear p102
                try clear p103
                try clear p104
                try clear p106
                try clear p110
                try clear p15
                try clear p17
                try clear p2
                try clear p6
                try clear q1
                try clear q10
                try clear q102
                try clear q103
                try clear q104
                try clear q106
                try clear q110
                try clear q15
                try clear q17
                obtain ⟨x6_3, x11_3, rfl, rfl, HA, HK3, HO_5, HB⟩ := hrel
                cases gk with
                | zero => exact absurd HA.out (by simp [rubricatorlaw19_BlockCode.l2])
                | succ k3 =>
                  have H := HA.out
                  clear HA
                  simp only [rubricatorlaw19_BlockCode.l2] at H
                  by_cases c34 : x11_3 ≤ x7_2
                  · rw [if_pos c34] at H
                    have c34b0 : decide (x11_3 ≤ x7_2) = true := decide_eq_true c34
                    clear c34
                    by_cases c35 : 0 ≤ x11_3
                    · rw [if_pos c35] at H
                      have c35b0 : decide (0 ≤ x11_3) = true := decide_eq_true c35
                      clear c35
                      by_cases c36 : x11_3 < (l0.length : Int)
                      · rw [if_pos c36] at H
                        have c36b0 : decide (x11_3 < (l0.length : Int)) = true := decide_eq_true c36
                        clear c36
                        by_cases c37 : x6_3.size + (rdOf ByteArray.empty l0 x11_3).size ≤ 9223372036854775807
                        · rw [if_pos c37] at H
                          have c37b0 := eq_true c37
                          have c37b1 : decide (x6_3.size + (rdOf ByteArray.empty l0 x11_3).size ≤ 9223372036854775807) = true := decide_eq_true c37
                          try have c37b2 : (9223372036854775807 < x6_3.size + (rdOf ByteArray.empty l0 x11_3).size) = False := eq_false (Nat.not_lt.2 c37)
                          by_cases c38 : (x6_3 ++ (rdOf ByteArray.empty l0 x11_3)).size + 1 ≤ 9223372036854775807
                          · rw [if_pos c38] at H
                            have c38b0 := eq_true c38
                            have c38b1 : decide ((x6_3 ++ (rdOf ByteArray.empty l0 x11_3)).size + 1 ≤ 9223372036854775807) = true := decide_eq_true c38
                            try have c38b2 : (9223372036854775807 < (x6_3 ++ (rdOf ByteArray.empty l0 x11_3)).size + 1) = False := eq_false (Nat.not_lt.2 c38)
                            try (have c38z := c38; simp only [ByteArray.size_append] at c38z; have c38b3 := lim_false c38z; clear c38z)
                            have H' := Aside0.mk H
                            clear H
                            have p114 : 0 ≤ (x11_3 : Int) := of_decide_eq_true (by first | (with_reducible assumption) | assumption)
                            have q114 : x11_3 < (l0.length : Int) := of_decide_eq_true (by first | (with_reducible assumption) | assumption)
                            obtain ⟨ad114, e114, hx114_0⟩ := Kd.at_string HR0.out x11_3 p114 q114
                            cases e114
                            replace hx114_0 := (HB.out.cell (World.block_lt_of_cell? w _ hx114_0)).trans hx114_0
                            replace p114 := eq_true p114
                            replace q114 := eq_true q114
                            go_wp2
                            go_roundg k3
                            case measure => have := HJ2.out; have := HK2.out; have := HK3.out; omega
                            case rel => exact ⟨((x6_3 ++ (rdOf ByteArray.empty l0 x11_3)) ++ (⟨#[10]⟩ : ByteArray)), (wrap64 (x11_3 + 1)), (by first | rfl | (simp; done) | (simp [*]; done)), (by first | rfl | (simp; done) | (simp [*]; done)), H', ⟨by have := HJ2.out; have := HK2.out; have := HK3.out; omega⟩, ⟨by (with_reducible repeat (first | apply Kd.R_alloc | apply Kd.R_drewN | apply Kd.R_drew)); exact HO_5.out⟩, ⟨by repeat (first | (with_reducible first | exact HB.out | apply below_alloc | apply pw_below_drewN | apply below_drew1) | exact HB.out)⟩⟩
                          · rw [if_neg c38] at H
                            exact absurd H (by simp)
                        · rw [if_neg c37] at H
                          exact absurd H (by simp)
                      · rw [if_neg c36] at H
                        exact absurd H (by simp)
                    · rw [if_neg c35] at H
                      exact absurd H (by simp)
                  · rw [if_neg c34] at H
                    have c34b0 : decide (x11_3 ≤ x7_2) = false := decide_eq_false c34
                    clear c34
                    have H' := Aside0.mk H
                    clear H
                    go_wp2
                    go_loopg [5, 12] k3 (fun kq v5 v12 w' => ∃ (x5_4 : List ByteArray) (x12_4 : Int), v12 = .int .i64 x12_4 ∧ Aside0 (rubricatorlaw19_BlockCode.l3 kq a1 x5_4 x6_3 x12_4 = some r) ∧ Aside0 (kq ≤ k3) ∧ Aside0 (Kd.R Kd.string 9 w' w.heap.size (fun _ => True) v5 x5_4) ∧ Aside0 (Below w.heap.size w w'))
                    case atStart => exact ⟨(x5_2), (0), (by first | rfl | (simp; done) | (simp [*]; done)), H', ⟨Nat.le_refl _⟩, ⟨by (with_reducible repeat (first | apply Kd.R_alloc | apply Kd.R_drewN | apply Kd.R_drew)); exact HO_5.out⟩, ⟨by repeat (first | (with_reducible first | exact HB.out | apply below_alloc | apply pw_below_drewN | apply below_drew1) | exact HB.out)⟩⟩
                    case round =>
                      clear H'
                      try clear c1
                      try clear p1
                      try clear q1
                      try clear hx1
                      try clear c2
                      try clear p2
                      try clear c3
                      try clear c5
                      try clear c6
                      try clear c6b0
                      try clear c6b1
                      try clear c6b2
                      try clear p6
                      try clear c7
                      try clear c7b0
                      try clear c8
                      try clear c9
                      try clear c9b0
                      try clear c10
                      try clear c10b0
                      try clear p10
                      try clear q10
                      try clear hx10
                      try clear c11
                      try clear c11b0
                      try clear p11
                      try clear q11
                      try clear hx11
                      try clear c12
                      try clear c12b0
                      try clear c13
                      try clear c14
                      try clear c14b0
                      try clear p15
                      try clear q15
                      try clear hx15
                      try clear c16
                      try clear c16b0
                      try clear c16b1
                      try clear c17
                      try clear p17
                      try clear q17
                      try clear hx17
                      try clear c19
                      try clear c19b0
                      try clear c19b1
                      try clear c20
                      try clear c23
                      try clear c24
                      try clear c24b0
                      try clear c25
                      try clear c25b0
                      try clear c26
                      try clear c26b0
                      try clear c26b1
                      try clear c26b2
                      try clear c27
                      try clear c29
                      try clear c29b0
                      try clear c30
                      try clear c30b0
                      try clear c31
                      try clear c31b0
                      try clear c31b1
                      try clear c31b2
                      try clear c32
                      try clear c34
                      try clear c34b0
                      try clear c35
                      try clear c35b0
                      try clear c36
                      try clear c36b0
                      try clear c37
                      try clear c37b0
                      try clear c37b1
                      try clear c37b2
                      try clear c38
                      try clear c38b0
                      try clear c38b1
                      try clear c38b2
                      try clear hx102_0
                      try clear hx103_0
                      try clear hx104_0
                      try clear hx106_0
                      try clear hx110_0
                      try clear hx114_0
                      try clear p1
                      try clear p10
                      try clear p102
                      try clear p103
                      try clear p104
                      try clear p106
                      try clear p11
                      try clear p110
                      try clear p114
                      try clear p15
                      try clear p17
                      try clear p2
                      try clear p6
                      try clear q1
                      try clear q10
                      try clear q102
                      try clear q103
                      try clear q104
                      try clear q106
                      try clear q11
                      try clear q110
                      try clear q114
                      try clear q15
                      try clear q17
                      obtain ⟨x5_4, x12_4, rfl, HA, HK4, HO_5, HB⟩ := hrel
                      cases gk with
                      | zero => exact absurd HA.out (by simp [rubricatorlaw19_BlockCode.l3])
                      | succ k4 =>
                        have H := HA.out
                        clear HA
                        simp only [rubricatorlaw19_BlockCode.l3] at H
                        by_cases c39 : x12_4 < a1
                        · rw [if_pos c39] at H
                          have c39b0 : decide (x12_4 < a1) = true := decide_eq_true c39
                          clear c39
                          by_cases c40 : x5_4.length < 8796093022208
                          · rw [if_pos c40] at H
                            have LMc40 := Aside0.mk c40
                            clear c40
                            obtain ⟨y115, hy115⟩ : ∃ y_ : List ByteArray, y_ = (x5_4 ++ [(⟨#[]⟩ : ByteArray)]) := ⟨_, rfl⟩
                            replace H : (rubricatorlaw19_BlockCode.l3 k4 a1 y115 x6_3 (wrap64 (x12_4 + 1))) = some r := by first | (rw [hy115]; with_reducible exact H) | (have H2_ := (Option.bind_some _ _).symm.trans H; rw [hy115]; with_reducible exact H2_) | (have H2_ := (Option.bind_some _ _).symm.trans H; with_reducible exact H2_) | with_reducible exact H | (rw [hy115]; exact H) | exact H
                            have Ny115 := Aside0.mk hy115
                            clear hy115
                            have H' := Aside0.mk H
                            clear H
                            go_wp2_with (first | ((with_reducible refine gate_builtin (b := .append) (xs := #[.tmp 97, .tmp 98]) rfl ?_); (try (refine gate_guard (by rfl) ?_; dsimp only)); at_builtin; refine Kd.R_append Kd.string (w0 := w) w.heap.size rfl (.tmp 97) (.tmp 98) 22 9 (.string ⟨#[]⟩) 16 rfl Tryz.underlying22 info9 rfl (by decide) (by omega) u5 x5_4 (⟨#[]⟩ : ByteArray) [.string (⟨#[]⟩ : ByteArray)] (fun _ => True) (fun _ => False) rfl rfl ?aP (fun _ hk => hk.elim) ?aF ?aO ?aB ?aS ?aL ?_; (case aP => exact rfl); (case aB => exact (by repeat (first | (with_reducible first | exact HB.out | apply below_alloc | apply pw_below_drewN | apply below_drew1) | exact HB.out))); (case aF => exact (fun _ _ => trivial)); (case aO => exact (by (with_reducible repeat (first | apply Kd.R_alloc | apply Kd.R_drewN | apply Kd.R_drew)); exact HO_5.out)); (case aS => exact (below_size (by repeat (first | (with_reducible first | exact HB.out | apply below_alloc | apply pw_below_drewN | apply below_drew1) | exact HB.out)))); (case aL => have := LMc40.out; omega); intro v116 w41 ho hb hg hat; rw [← Ny115.out] at ho; have n0_ := Aside0.mk (hb); have n1_ := Aside0.mk (ho); clear HB; clear HO_5; have HB := n0_; have HO117 := n1_; clear n0_ n1_; clear ho hb hg hat))
                            go_roundg k4
                            case measure => have := HJ2.out; have := HK2.out; have := HK3.out; have := HK4.out; omega
                            case rel => exact ⟨(y115), (wrap64 (x12_4 + 1)), (by first | rfl | (simp; done) | (simp [*]; done)), H', ⟨by have := HJ2.out; have := HK2.out; have := HK3.out; have := HK4.out; omega⟩, ⟨by (with_reducible repeat (first | apply Kd.R_alloc | apply Kd.R_drewN | apply Kd.R_drew)); exact HO117.out⟩, ⟨by repeat (first | (with_reducible first | exact HB.out | apply below_alloc | apply pw_below_drewN | apply below_drew1) | exact HB.out)⟩⟩
                          · rw [if_neg c40] at H
                            exact absurd H (by simp)
                        · rw [if_neg c39] at H
                          have c39b0 : decide (x12_4 < a1) = false := decide_eq_false c39
                          clear c39
                          replace H := Option.bind_eq_some_iff.mp H
                          obtain ⟨⟨t118, t119, t120, t121, t122, t123, t124, t125⟩, A420, H⟩ := H
                          replace H : (if (t125.length : Int) = 1 then (if 0 < (t125.length : Int) then (if ((rd_T27 t125 0).f0) = 5 then (if ((rd_T27 t125 0).f4).toList = x6_3.toList then (if ((rd_T27 t125 0).f6).toList = ([] : List UInt8) then ((rubricatorlaw19_known.f).bind fun t132 => (some t132)) else (some false)) else (some false)) else (some false)) else (none)) else (some false)) = some r := H
                          have A42 := Aside0.mk A420
                          clear A420
                          by_cases c43 : (t125.length : Int) = 1
                          · rw [if_pos c43] at H
                            have c43b0 : ((t125.length : Int) == 1) = true := beq_iff_eq.mpr c43
                            have c43b1 : ((t125.length : Int) != 1) = false := bne_eq_false_iff_eq.mpr c43
                            clear c43
                            by_cases c44 : 0 < (t125.length : Int)
                            · rw [if_pos c44] at H
                              have c44b0 : decide (0 < (t125.length : Int)) = true := decide_eq_true c44
                              have c44b1 : decide (0 < t125.length) = true := decide_eq_true (by omega)
                              clear c44
                              by_cases c45 : ((rd_T27 t125 0).f0) = 5
                              · rw [if_pos c45] at H
                                have c45b0 : (((rd_T27 t125 0).f0) == 5) = true := beq_iff_eq.mpr c45
                                have c45b1 : (((rd_T27 t125 0).f0) != 5) = false := bne_eq_false_iff_eq.mpr c45
                                clear c45
                                by_cases c46 : ((rd_T27 t125 0).f4).toList = x6_3.toList
                                · rw [if_pos c46] at H
                                  have c46b0 : (((rd_T27 t125 0).f4).toList == x6_3.toList) = true := beq_iff_eq.mpr c46
                                  have c46b1 : (((rd_T27 t125 0).f4).toList != x6_3.toList) = false := bne_eq_false_iff_eq.mpr c46
                                  clear c46
                                  by_cases c47 : ((rd_T27 t125 0).f6).toList = ([] : List UInt8)
                                  · rw [if_pos c47] at H
                                    have c47b0 : (((rd_T27 t125 0).f6).toList == ([] : List UInt8)) = true := beq_iff_eq.mpr c47
                                    have c47b1 : (((rd_T27 t125 0).f6).toList != ([] : List UInt8)) = false := bne_eq_false_iff_eq.mpr c47
                                    clear c47
                                    replace H := Option.bind_eq_some_iff.mp H
                                    obtain ⟨t132, A480, H⟩ := H
                                    replace H : (some t132) = some r := H
                                    have A48 := Aside0.mk A480
                                    clear A480
                                    obtain rfl := Option.some.inj H
                                    obtain ⟨Ao49, co49, eo49⟩ := Kd.R_slice HO_5.out
                                    subst eo49
                                    go_wp2_with (first | ((with_reducible refine gate_callee (f := 14) rfl ?_); refine goesL_ (some 101) rfl rfl Tryz.func14 (by kernel_rfl) rfl #[.slice Ao49 x5_4.length co49] rfl (by (try simp only [List.map_toArray, List.map_cons, List.map_nil]); first | done | rfl | (simp only [List.length_drop, List.length_take]; rfl)) ?_; (with_reducible refine (block_Parse.calls _ _ x5_4 t118 t119 t120 t121 t122 t123 t124 t125 _ ?side1 ?side2 ?side3 A42.out).mono ?_); (case side1 => first | (with_reducible exact hG) | (refine GL.below hG ?_; (repeat (first | (with_reducible first | exact HB.out | apply below_alloc | apply pw_below_drewN | apply below_drew1) | exact HB.out)); done) | (refine GL.drawn hG ?_; (repeat (first | exact Drawn0.refl _ | apply Drawn0.step)); done) | exact hG); (case side2 => repeat (first | exact (Kd.R_reads' HO_5.out).2.2 | (with_reducible refine Kd.C_alloc ?_ _) | (with_reducible refine Kd.C_drewN ?_ _) | (with_reducible refine Kd.C_drew ?_))); (case side3 => exact (Kd.R_reads' HO_5.out).2.1); rintro e w50 ⟨v126, rfl, ho0, hb⟩; refine ⟨_, rfl, ?_⟩; have n0_ := Aside0.mk (Kd.R_below (by (with_reducible repeat (first | apply Kd.R_alloc | apply Kd.R_drewN | apply Kd.R_drew)); exact HO_5.out) hb); have n1_ := Aside0.mk (Kd.R_lower ho0 (below_size (by repeat (first | (with_reducible first | exact HB.out | apply below_alloc | apply pw_below_drewN | apply below_drew1) | exact HB.out)))); have n2_ := Aside0.mk (below_step (by repeat (first | (with_reducible first | exact HB.out | apply below_alloc | apply pw_below_drewN | apply below_drew1) | exact HB.out)) hb); clear HO_5; clear HB; have HO_5 := n0_; have HO127 := n1_; have HB := n2_; clear n0_ n1_ n2_; (try clear hb); (try clear hb2); (try clear hk); (try clear hi); (try clear ho0)) | ((with_reducible refine gate_dst (N := 13) rfl ?_); (try (refine gate_guard (by rfl) ?_; dsimp only)); refine box_event ?hg (N := 13) ?hd (cs := #[.int .i64 0, .int .i64 0, .bool false, .bool false, .string (⟨#[]⟩ : ByteArray), .string (⟨#[]⟩ : ByteArray), .string (⟨#[]⟩ : ByteArray), .slice none 0 0]) (t := 27) ?hr ?_; (case hd => rfl); (case hg => rfl); (case hr => first | (go_simp; done) | (go_simp; rfl)); intro gb128 hg w51 hbox hb; have n0_ := Aside0.mk (Kd.R_below (by (with_reducible repeat (first | apply Kd.R_alloc | apply Kd.R_drewN | apply Kd.R_drew)); exact HO_5.out) hb); have n1_ := Aside0.mk (Kd.R_below (Kd.R_elderB (by (with_reducible repeat (first | apply Kd.R_alloc | apply Kd.R_drewN | apply Kd.R_drew)); exact HO127.out) gb128 (Nat.le_of_eq hg.symm)) hb); have n2_ := Aside0.mk (below_step (by repeat (first | (with_reducible first | exact HB.out | apply below_alloc | apply pw_below_drewN | apply below_drew1) | exact HB.out)) hb); have n3_ := Aside0.mk (hbox); have n4_ := Aside0.mk ((by rw [hg]; exact (below_size (by repeat (first | (with_reducible first | exact HB.out | apply below_alloc | apply pw_below_drewN | apply below_drew1) | exact HB.out))) : w.heap.size ≤ gb128)); have n5_ := Aside0.mk ((by rw [hg]; exact (below_size (by repeat (first | (with_reducible first | exact HB.out | apply below_alloc | apply pw_below_drewN | apply below_drew1) | exact HB.out))) : w.heap.size ≤ gb128)); clear HO_5; clear HO127; clear HB; have HO_5 := n0_; have HO127 := n1_; have HB := n2_; have BK128 := n3_; have GW128 := n4_; have GE128 := n5_; clear n0_ n1_ n2_ n3_ n4_ n5_; clear hb hbox hg; have hcz52_0 : w51.cell? ⟨gb128, 0, none⟩ = some (.int .i64 0) := (blk_cell BK128.out 0).trans rfl; have hcz52_1 : w51.cell? ⟨gb128, 1, none⟩ = some (.int .i64 0) := (blk_cell BK128.out 1).trans rfl; have hcz52_2 : w51.cell? ⟨gb128, 2, none⟩ = some (.bool false) := (blk_cell BK128.out 2).trans rfl; have hcz52_3 : w51.cell? ⟨gb128, 3, none⟩ = some (.bool false) := (blk_cell BK128.out 3).trans rfl; have hcz52_4 : w51.cell? ⟨gb128, 4, none⟩ = some (.string (⟨#[]⟩ : ByteArray)) := (blk_cell BK128.out 4).trans rfl; have hcz52_5 : w51.cell? ⟨gb128, 5, none⟩ = some (.string (⟨#[]⟩ : ByteArray)) := (blk_cell BK128.out 5).trans rfl; have hcz52_6 : w51.cell? ⟨gb128, 6, none⟩ = some (.string (⟨#[]⟩ : ByteArray)) := (blk_cell BK128.out 6).trans rfl; have hcz52_7 : w51.cell? ⟨gb128, 7, none⟩ = some (.slice none 0 0) := (blk_cell BK128.out 7).trans rfl; have hfz52_0 := blk_frozen BK128.out 0; have hfz52_1 := blk_frozen BK128.out 1; have hfz52_2 := blk_frozen BK128.out 2; have hfz52_3 := blk_frozen BK128.out 3; have hfz52_4 := blk_frozen BK128.out 4; have hfz52_5 := blk_frozen BK128.out 5; have hfz52_6 := blk_frozen BK128.out 6; have hfz52_7 := blk_frozen BK128.out 7; obtain ⟨Ao53, co53, eo53⟩ := Kd.R_slice HO127.out; subst eo53) | ((with_reducible refine gate_store (t := 27) (p := 13) rfl ?_); refine store_event (t := 27) (p := 13) (v := ?vo_w54) (w1 := ((((((((w51.setCell ⟨gb128, 0, none⟩ (.int .i64 t118)).setCell ⟨gb128, 1, none⟩ (.int .i64 t119)).setCell ⟨gb128, 2, none⟩ (.bool t120)).setCell ⟨gb128, 3, none⟩ (.bool t121)).setCell ⟨gb128, 4, none⟩ (.string t122)).setCell ⟨gb128, 5, none⟩ (.string t123)).setCell ⟨gb128, 6, none⟩ (.string t124)).setCell ⟨gb128, 7, none⟩ (.slice Ao53 t125.length co53))) ?hg ?ho ?hn ?hr ?_; (case ho => rfl); (case hg => rfl); (case hn => rfl); (case hr => first | (go_simp; done) | (go_simp; rfl)); intro w54 hw; have n0_ : Aside0 (Kd.R Kd.string 9 w54 w.heap.size (fun _ => True) (.slice Ao49 x5_4.length co49) x5_4) := ⟨(by rw [hw]; exact (by (with_reducible repeat (first | apply Kd.R_alloc | apply Kd.R_drewN | apply Kd.R_drew)); exact Kd.R_mono (Kd.R_far (p := ⟨gb128, 7, none⟩) (Kd.R_far (p := ⟨gb128, 6, none⟩) (Kd.R_far (p := ⟨gb128, 5, none⟩) (Kd.R_far (p := ⟨gb128, 4, none⟩) (Kd.R_far (p := ⟨gb128, 3, none⟩) (Kd.R_far (p := ⟨gb128, 2, none⟩) (Kd.R_far (p := ⟨gb128, 1, none⟩) (Kd.R_far (p := ⟨gb128, 0, none⟩) (Kd.R_types HO_5.out BK128.out (by decide)) (fun _ hk => hk.2) (.int .i64 t118)) (fun _ hk => hk.2) (.int .i64 t119)) (fun _ hk => hk.2) (.bool t120)) (fun _ hk => hk.2) (.bool t121)) (fun _ hk => hk.2) (.string t122)) (fun _ hk => hk.2) (.string t123)) (fun _ hk => hk.2) (.string t124)) (fun _ hk => hk.2) (.slice Ao53 t125.length co53)) (fun _ hk => trivial)))⟩; have n1_ : Aside0 (Kd.R k27 27 w54 w.heap.size (fun k_ => k_ ≠ gb128) (.slice Ao53 t125.length co53) t125) := ⟨(by rw [hw]; exact (by (with_reducible repeat (first | apply Kd.R_alloc | apply Kd.R_drewN | apply Kd.R_drew)); exact Kd.R_mono (Kd.R_far (p := ⟨gb128, 7, none⟩) (Kd.R_far (p := ⟨gb128, 6, none⟩) (Kd.R_far (p := ⟨gb128, 5, none⟩) (Kd.R_far (p := ⟨gb128, 4, none⟩) (Kd.R_far (p := ⟨gb128, 3, none⟩) (Kd.R_far (p := ⟨gb128, 2, none⟩) (Kd.R_far (p := ⟨gb128, 1, none⟩) (Kd.R_far (p := ⟨gb128, 0, none⟩) (Kd.R_mono HO127.out (fun k_ hk => (⟨hk, hk.2⟩ : _ ∧ k_ ≠ gb128))) (fun _ hk => hk.2) (.int .i64 t118)) (fun _ hk => hk.2) (.int .i64 t119)) (fun _ hk => hk.2) (.bool t120)) (fun _ hk => hk.2) (.bool t121)) (fun _ hk => hk.2) (.string t122)) (fun _ hk => hk.2) (.string t123)) (fun _ hk => hk.2) (.string t124)) (fun _ hk => hk.2) (.slice Ao53 t125.length co53)) (fun _ hk => hk.1.2)))⟩; have n2_ : Aside0 (w54.heap[gb128]? = some (.cells #[.int .i64 t118, .int .i64 t119, .bool t120, .bool t121, .string t122, .string t123, .string t124, .slice Ao53 t125.length co53] 27 (0, 0))) := ⟨(by rw [hw]; exact (by (with_reducible repeat (first | refine blk_drewN ?_ _ | refine blk_drew ?_ | refine blk_alloc ?_ _)); refine blk_put (cs := #[.int .i64 t118, .int .i64 t119, .bool t120, .bool t121, .string t122, .string t123, .string t124, .slice none 0 0]) ?_ 7 _ rfl; (with_reducible repeat (first | refine blk_drewN ?_ _ | refine blk_drew ?_ | refine blk_alloc ?_ _)); refine blk_put (cs := #[.int .i64 t118, .int .i64 t119, .bool t120, .bool t121, .string t122, .string t123, .string (⟨#[]⟩ : ByteArray), .slice none 0 0]) ?_ 6 _ rfl; (with_reducible repeat (first | refine blk_drewN ?_ _ | refine blk_drew ?_ | refine blk_alloc ?_ _)); refine blk_put (cs := #[.int .i64 t118, .int .i64 t119, .bool t120, .bool t121, .string t122, .string (⟨#[]⟩ : ByteArray), .string (⟨#[]⟩ : ByteArray), .slice none 0 0]) ?_ 5 _ rfl; (with_reducible repeat (first | refine blk_drewN ?_ _ | refine blk_drew ?_ | refine blk_alloc ?_ _)); refine blk_put (cs := #[.int .i64 t118, .int .i64 t119, .bool t120, .bool t121, .string (⟨#[]⟩ : ByteArray), .string (⟨#[]⟩ : ByteArray), .string (⟨#[]⟩ : ByteArray), .slice none 0 0]) ?_ 4 _ rfl; (with_reducible repeat (first | refine blk_drewN ?_ _ | refine blk_drew ?_ | refine blk_alloc ?_ _)); refine blk_put (cs := #[.int .i64 t118, .int .i64 t119, .bool t120, .bool false, .string (⟨#[]⟩ : ByteArray), .string (⟨#[]⟩ : ByteArray), .string (⟨#[]⟩ : ByteArray), .slice none 0 0]) ?_ 3 _ rfl; (with_reducible repeat (first | refine blk_drewN ?_ _ | refine blk_drew ?_ | refine blk_alloc ?_ _)); refine blk_put (cs := #[.int .i64 t118, .int .i64 t119, .bool false, .bool false, .string (⟨#[]⟩ : ByteArray), .string (⟨#[]⟩ : ByteArray), .string (⟨#[]⟩ : ByteArray), .slice none 0 0]) ?_ 2 _ rfl; (with_reducible repeat (first | refine blk_drewN ?_ _ | refine blk_drew ?_ | refine blk_alloc ?_ _)); refine blk_put (cs := #[.int .i64 t118, .int .i64 0, .bool false, .bool false, .string (⟨#[]⟩ : ByteArray), .string (⟨#[]⟩ : ByteArray), .string (⟨#[]⟩ : ByteArray), .slice none 0 0]) ?_ 1 _ rfl; (with_reducible repeat (first | refine blk_drewN ?_ _ | refine blk_drew ?_ | refine blk_alloc ?_ _)); refine blk_put (cs := #[.int .i64 0, .int .i64 0, .bool false, .bool false, .string (⟨#[]⟩ : ByteArray), .string (⟨#[]⟩ : ByteArray), .string (⟨#[]⟩ : ByteArray), .slice none 0 0]) ?_ 0 _ rfl; (with_reducible repeat (first | refine blk_drewN ?_ _ | refine blk_drew ?_ | refine blk_alloc ?_ _)); exact BK128.out))⟩; have n3_ : Aside0 (Below w.heap.size w w54) := ⟨(by rw [hw]; exact (by repeat (first | (with_reducible first | exact HB.out | apply below_alloc | apply pw_below_drewN | apply below_drew1 | refine below_set ?_ GE128.out) | exact HB.out)))⟩; clear hw; clear HO_5; clear HO127; clear BK128; clear HB; have HO_5 := n0_; have HO127 := n1_; have BK128 := n2_; have HB := n3_; clear n0_ n1_ n2_ n3_; have hcz55_0 : w54.cell? ⟨gb128, 0, none⟩ = some (.int .i64 t118) := (blk_cell BK128.out 0).trans rfl; have hcz55_1 : w54.cell? ⟨gb128, 1, none⟩ = some (.int .i64 t119) := (blk_cell BK128.out 1).trans rfl; have hcz55_2 : w54.cell? ⟨gb128, 2, none⟩ = some (.bool t120) := (blk_cell BK128.out 2).trans rfl; have hcz55_3 : w54.cell? ⟨gb128, 3, none⟩ = some (.bool t121) := (blk_cell BK128.out 3).trans rfl; have hcz55_4 : w54.cell? ⟨gb128, 4, none⟩ = some (.string t122) := (blk_cell BK128.out 4).trans rfl; have hcz55_5 : w54.cell? ⟨gb128, 5, none⟩ = some (.string t123) := (blk_cell BK128.out 5).trans rfl; have hcz55_6 : w54.cell? ⟨gb128, 6, none⟩ = some (.string t124) := (blk_cell BK128.out 6).trans rfl; have hcz55_7 : w54.cell? ⟨gb128, 7, none⟩ = some (.slice Ao53 t125.length co53) := (blk_cell BK128.out 7).trans rfl; have hfz55_0 := blk_frozen BK128.out 0; have hfz55_1 := blk_frozen BK128.out 1; have hfz55_2 := blk_frozen BK128.out 2; have hfz55_3 := blk_frozen BK128.out 3; have hfz55_4 := blk_frozen BK128.out 4; have hfz55_5 := blk_frozen BK128.out 5; have hfz55_6 := blk_frozen BK128.out 6; have hfz55_7 := blk_frozen BK128.out 7; have p129 : 0 ≤ (0 : Int) := (by omega); have q129 : 0 < (t125.length : Int) := of_decide_eq_true (by first | (with_reducible assumption) | assumption); obtain ⟨ad129, A129_7, c129_7, e129, hx129_0, hx129_1, hx129_2, hx129_3, hx129_4, hx129_5, hx129_6, hx129_7, hl129_7, hi129_7⟩ := at_T27 (Kd.R_reads' HO127.out).2.2 0 p129 q129; cases e129; obtain ⟨ce129, hce129, hMe129, hcc129⟩ := Kd.R_get HO127.out z27 0 p129 (by first | exact q129 | exact of_decide_eq_true (by first | (with_reducible assumption) | assumption) | (have e_ := (Kd.R_reads' HO127.out).1; omega)); obtain ⟨ve129_7, rfl, ge129_7⟩ := k27_openM hMe129; have hv129_7 := hcc129 7 _ rfl; rw [add_field _ _ 7 (by omega)] at hv129_7; replace hv129_7 := Option.some.inj (hv129_7.symm.trans hx129_7); rw [hv129_7] at ge129_7; have HL129_7 := Aside0.mk (show Kd.R k27 27 _ _ _ _ ((rd_T27 t125 0).f7) from ge129_7); clear hv129_7 ge129_7; clear hcc129 hce129; have qi129 : (0 < t125.length) = True := eq_true (by omega); (try rw [show ((0 : Int)).toNat = 0 from rfl] at hx129_0); (try rw [show 0 * 8 = 0 from rfl] at hx129_0); (try rw [Addr.add_zero'] at hx129_0); (try rw [show ((0 : Int)).toNat = 0 from rfl] at hx129_1); (try rw [show 0 * 8 = 0 from rfl] at hx129_1); (try rw [Addr.add_zero'] at hx129_1); (try rw [show ((0 : Int)).toNat = 0 from rfl] at hx129_2); (try rw [show 0 * 8 = 0 from rfl] at hx129_2); (try rw [Addr.add_zero'] at hx129_2); (try rw [show ((0 : Int)).toNat = 0 from rfl] at hx129_3); (try rw [show 0 * 8 = 0 from rfl] at hx129_3); (try rw [Addr.add_zero'] at hx129_3); (try rw [show ((0 : Int)).toNat = 0 from rfl] at hx129_4); (try rw [show 0 * 8 = 0 from rfl] at hx129_4); (try rw [Addr.add_zero'] at hx129_4); (try rw [show ((0 : Int)).toNat = 0 from rfl] at hx129_5); (try rw [show 0 * 8 = 0 from rfl] at hx129_5); (try rw [Addr.add_zero'] at hx129_5); (try rw [show ((0 : Int)).toNat = 0 from rfl] at hx129_6); (try rw [show 0 * 8 = 0 from rfl] at hx129_6); (try rw [Addr.add_zero'] at hx129_6); (try rw [show ((0 : Int)).toNat = 0 from rfl] at hx129_7); (try rw [show 0 * 8 = 0 from rfl] at hx129_7); (try rw [Addr.add_zero'] at hx129_7); have HR129_7 := Aside0.mk hi129_7; have HC129_7 := Aside0.mk hl129_7; clear hi129_7 hl129_7; replace p129 := eq_true p129; replace q129 := eq_true q129; have p130 : 0 ≤ (0 : Int) := (by omega); have q130 : 0 < (t125.length : Int) := of_decide_eq_true (by first | (with_reducible assumption) | assumption); obtain ⟨ad130, A130_7, c130_7, e130, hx130_0, hx130_1, hx130_2, hx130_3, hx130_4, hx130_5, hx130_6, hx130_7, hl130_7, hi130_7⟩ := at_T27 (Kd.R_reads' HO127.out).2.2 0 p130 q130; obtain rfl : ad129 = ad130 := (by injection e130); obtain ⟨ce130, hce130, hMe130, hcc130⟩ := Kd.R_get HO127.out z27 0 p130 (by first | exact q130 | exact of_decide_eq_true (by first | (with_reducible assumption) | assumption) | (have e_ := (Kd.R_reads' HO127.out).1; omega)); obtain ⟨ve130_7, rfl, ge130_7⟩ := k27_openM hMe130; have hv130_7 := hcc130 7 _ rfl; rw [add_field _ _ 7 (by omega)] at hv130_7; replace hv130_7 := Option.some.inj (hv130_7.symm.trans hx130_7); rw [hv130_7] at ge130_7; have HL130_7 := Aside0.mk (show Kd.R k27 27 _ _ _ _ ((rd_T27 t125 0).f7) from ge130_7); clear hv130_7 ge130_7; clear hcc130 hce130; have qi130 : (0 < t125.length) = True := eq_true (by omega); (try rw [show ((0 : Int)).toNat = 0 from rfl] at hx130_0); (try rw [show 0 * 8 = 0 from rfl] at hx130_0); (try rw [Addr.add_zero'] at hx130_0); (try rw [show ((0 : Int)).toNat = 0 from rfl] at hx130_1); (try rw [show 0 * 8 = 0 from rfl] at hx130_1); (try rw [Addr.add_zero'] at hx130_1); (try rw [show ((0 : Int)).toNat = 0 from rfl] at hx130_2); (try rw [show 0 * 8 = 0 from rfl] at hx130_2); (try rw [Addr.add_zero'] at hx130_2); (try rw [show ((0 : Int)).toNat = 0 from rfl] at hx130_3); (try rw [show 0 * 8 = 0 from rfl] at hx130_3); (try rw [Addr.add_zero'] at hx130_3); (try rw [show ((0 : Int)).toNat = 0 from rfl] at hx130_4); (try rw [show 0 * 8 = 0 from rfl] at hx130_4); (try rw [Addr.add_zero'] at hx130_4); (try rw [show ((0 : Int)).toNat = 0 from rfl] at hx130_5); (try rw [show 0 * 8 = 0 from rfl] at hx130_5); (try rw [Addr.add_zero'] at hx130_5); (try rw [show ((0 : Int)).toNat = 0 from rfl] at hx130_6); (try rw [show 0 * 8 = 0 from rfl] at hx130_6); (try rw [Addr.add_zero'] at hx130_6); (try rw [show ((0 : Int)).toNat = 0 from rfl] at hx130_7); (try rw [show 0 * 8 = 0 from rfl] at hx130_7); (try rw [Addr.add_zero'] at hx130_7); have HR130_7 := Aside0.mk hi130_7; have HC130_7 := Aside0.mk hl130_7; clear hi130_7 hl130_7; replace p130 := eq_true p130; replace q130 := eq_true q130; have ea_ := Option.some.inj (hx129_7.symm.trans hx130_7); injection ea_ with ea_ en_ ec_; subst ea_; subst ec_; clear en_; have p131 : 0 ≤ (0 : Int) := (by omega); have q131 : 0 < (t125.length : Int) := of_decide_eq_true (by first | (with_reducible assumption) | assumption); obtain ⟨ad131, A131_7, c131_7, e131, hx131_0, hx131_1, hx131_2, hx131_3, hx131_4, hx131_5, hx131_6, hx131_7, hl131_7, hi131_7⟩ := at_T27 (Kd.R_reads' HO127.out).2.2 0 p131 q131; obtain rfl : ad129 = ad131 := (by injection e131); obtain ⟨ce131, hce131, hMe131, hcc131⟩ := Kd.R_get HO127.out z27 0 p131 (by first | exact q131 | exact of_decide_eq_true (by first | (with_reducible assumption) | assumption) | (have e_ := (Kd.R_reads' HO127.out).1; omega)); obtain ⟨ve131_7, rfl, ge131_7⟩ := k27_openM hMe131; have hv131_7 := hcc131 7 _ rfl; rw [add_field _ _ 7 (by omega)] at hv131_7; replace hv131_7 := Option.some.inj (hv131_7.symm.trans hx131_7); rw [hv131_7] at ge131_7; have HL131_7 := Aside0.mk (show Kd.R k27 27 _ _ _ _ ((rd_T27 t125 0).f7) from ge131_7); clear hv131_7 ge131_7; clear hcc131 hce131; have qi131 : (0 < t125.length) = True := eq_true (by omega); (try rw [show ((0 : Int)).toNat = 0 from rfl] at hx131_0); (try rw [show 0 * 8 = 0 from rfl] at hx131_0); (try rw [Addr.add_zero'] at hx131_0); (try rw [show ((0 : Int)).toNat = 0 from rfl] at hx131_1); (try rw [show 0 * 8 = 0 from rfl] at hx131_1); (try rw [Addr.add_zero'] at hx131_1); (try rw [show ((0 : Int)).toNat = 0 from rfl] at hx131_2); (try rw [show 0 * 8 = 0 from rfl] at hx131_2); (try rw [Addr.add_zero'] at hx131_2); (try rw [show ((0 : Int)).toNat = 0 from rfl] at hx131_3); (try rw [show 0 * 8 = 0 from rfl] at hx131_3); (try rw [Addr.add_zero'] at hx131_3); (try rw [show ((0 : Int)).toNat = 0 from rfl] at hx131_4); (try rw [show 0 * 8 = 0 from rfl] at hx131_4); (try rw [Addr.add_zero'] at hx131_4); (try rw [show ((0 : Int)).toNat = 0 from rfl] at hx131_5); (try rw [show 0 * 8 = 0 from rfl] at hx131_5); (try rw [Addr.add_zero'] at hx131_5); (try rw [show ((0 : Int)).toNat = 0 from rfl] at hx131_6); (try rw [show 0 * 8 = 0 from rfl] at hx131_6); (try rw [Addr.add_zero'] at hx131_6); (try rw [show ((0 : Int)).toNat = 0 from rfl] at hx131_7); (try rw [show 0 * 8 = 0 from rfl] at hx131_7); (try rw [Addr.add_zero'] at hx131_7); have HR131_7 := Aside0.mk hi131_7; have HC131_7 := Aside0.mk hl131_7; clear hi131_7 hl131_7; replace p131 := eq_true p131; replace q131 := eq_true q131; have ea_ := Option.some.inj (hx129_7.symm.trans hx131_7); injection ea_ with ea_ en_ ec_; subst ea_; subst ec_; clear en_) | (go_at_call 17; (with_reducible refine (rubricatorlaw19_known.calls  t132 _ ?side1 A48.out).mono ?_); (case side1 => first | (with_reducible exact hG) | (refine GL.below hG ?_; (repeat (first | (with_reducible first | exact HB.out | apply below_alloc | apply pw_below_drewN | apply below_drew1 | refine below_set ?_ GE128.out) | exact HB.out)); done) | (refine GL.drawn hG ?_; (repeat (first | exact Drawn0.refl _ | apply Drawn0.step)); done) | exact hG); rintro e w56 ⟨rfl, hb⟩; have n0_ := Aside0.mk (Kd.R_below (by (with_reducible repeat (first | apply Kd.R_alloc | apply Kd.R_drewN | apply Kd.R_drew)); exact HO_5.out) hb); have n1_ := Aside0.mk (Kd.R_below (by (with_reducible repeat (first | apply Kd.R_alloc | apply Kd.R_drewN | apply Kd.R_drew)); exact HO127.out) hb); have n2_ := Aside0.mk (Kd.R_below (by (with_reducible repeat (first | apply Kd.R_alloc | apply Kd.R_drewN | apply Kd.R_drew)); exact HL129_7.out) hb); have n3_ := Aside0.mk (Kd.R_below (by (with_reducible repeat (first | apply Kd.R_alloc | apply Kd.R_drewN | apply Kd.R_drew)); exact HL130_7.out) hb); have n4_ := Aside0.mk (Kd.R_below (by (with_reducible repeat (first | apply Kd.R_alloc | apply Kd.R_drewN | apply Kd.R_drew)); exact HL131_7.out) hb); have n5_ := Aside0.mk (blk_below (g := gb128) (o := .cells #[.int .i64 t118, .int .i64 t119, .bool t120, .bool t121, .string t122, .string t123, .string t124, .slice (some ad129) t125.length co53] 27 (0, 0)) (by (with_reducible repeat (first | refine blk_drewN ?_ _ | refine blk_drew ?_ | refine blk_alloc ?_ _)); exact BK128.out) hb); have n6_ := Aside0.mk (Kd.C_below (by repeat (first | (with_reducible exact HR129_7.out) | (with_reducible refine Kd.C_alloc ?_ _) | (with_reducible refine Kd.C_drewN ?_ _) | (with_reducible refine Kd.C_drew ?_) | exact HR129_7.out)) hb); have n7_ := Aside0.mk (Kd.C_below (by repeat (first | (with_reducible exact HR130_7.out) | (with_reducible refine Kd.C_alloc ?_ _) | (with_reducible refine Kd.C_drewN ?_ _) | (with_reducible refine Kd.C_drew ?_) | exact HR130_7.out)) hb); have n8_ := Aside0.mk (Kd.C_below (by repeat (first | (with_reducible exact HR131_7.out) | (with_reducible refine Kd.C_alloc ?_ _) | (with_reducible refine Kd.C_drewN ?_ _) | (with_reducible refine Kd.C_drew ?_) | exact HR131_7.out)) hb); have n9_ := Aside0.mk (below_step (by repeat (first | (with_reducible first | exact HB.out | apply below_alloc | apply pw_below_drewN | apply below_drew1 | refine below_set ?_ GE128.out) | exact HB.out)) hb); clear HO_5; clear HO127; clear HL129_7; clear HL130_7; clear HL131_7; clear BK128; clear HR129_7; clear HR130_7; clear HR131_7; clear HB; have HO_5 := n0_; have HO127 := n1_; have HL129_7 := n2_; have HL130_7 := n3_; have HL131_7 := n4_; have BK128 := n5_; have HR129_7 := n6_; have HR130_7 := n7_; have HR131_7 := n8_; have HB := n9_; clear n0_ n1_ n2_ n3_ n4_ n5_ n6_ n7_ n8_ n9_; (try clear hb); (try clear hb2); (try clear hk); (try clear hi)))
                                    go_ret
                                    exact ⟨by first | rfl | (simp [errW_none, errW_some] <;> rfl) | (simp [*, errW_none, errW_some] <;> rfl), by repeat (first | (with_reducible first | exact HB.out | apply below_alloc | apply pw_below_drewN | apply below_drew1 | refine below_set ?_ GE128.out) | exact HB.out)⟩
                                  · rw [if_neg c47] at H
                                    have c47b0 : (((rd_T27 t125 0).f6).toList == ([] : List UInt8)) = false := beq_eq_false_iff_ne.mpr c47
                                    have c47b1 : (((rd_T27 t125 0).f6).toList != ([] : List UInt8)) = true := bne_iff_ne.mpr c47
                                    obtain rfl := Option.some.inj H
                                    obtain ⟨Ao57, co57, eo57⟩ := Kd.R_slice HO_5.out
                                    subst eo57
                                    go_wp2_with (first | ((with_reducible refine gate_callee (f := 14) rfl ?_); refine goesL_ (some 101) rfl rfl Tryz.func14 (by kernel_rfl) rfl #[.slice Ao57 x5_4.length co57] rfl (by (try simp only [List.map_toArray, List.map_cons, List.map_nil]); first | done | rfl | (simp only [List.length_drop, List.length_take]; rfl)) ?_; (with_reducible refine (block_Parse.calls _ _ x5_4 t118 t119 t120 t121 t122 t123 t124 t125 _ ?side1 ?side2 ?side3 A42.out).mono ?_); (case side1 => first | (with_reducible exact hG) | (refine GL.below hG ?_; (repeat (first | (with_reducible first | exact HB.out | apply below_alloc | apply pw_below_drewN | apply below_drew1) | exact HB.out)); done) | (refine GL.drawn hG ?_; (repeat (first | exact Drawn0.refl _ | apply Drawn0.step)); done) | exact hG); (case side2 => repeat (first | exact (Kd.R_reads' HO_5.out).2.2 | (with_reducible refine Kd.C_alloc ?_ _) | (with_reducible refine Kd.C_drewN ?_ _) | (with_reducible refine Kd.C_drew ?_))); (case side3 => exact (Kd.R_reads' HO_5.out).2.1); rintro e w58 ⟨v126, rfl, ho0, hb⟩; refine ⟨_, rfl, ?_⟩; have n0_ := Aside0.mk (Kd.R_below (by (with_reducible repeat (first | apply Kd.R_alloc | apply Kd.R_drewN | apply Kd.R_drew)); exact HO_5.out) hb); have n1_ := Aside0.mk (Kd.R_lower ho0 (below_size (by repeat (first | (with_reducible first | exact HB.out | apply below_alloc | apply pw_below_drewN | apply below_drew1) | exact HB.out)))); have n2_ := Aside0.mk (below_step (by repeat (first | (with_reducible first | exact HB.out | apply below_alloc | apply pw_below_drewN | apply below_drew1) | exact HB.out)) hb); clear HO_5; clear HB; have HO_5 := n0_; have HO127 := n1_; have HB := n2_; clear n0_ n1_ n2_; (try clear hb); (try clear hb2); (try clear hk); (try clear hi); (try clear ho0)) | ((with_reducible refine gate_dst (N := 13) rfl ?_); (try (refine gate_guard (by rfl) ?_; dsimp only)); refine box_event ?hg (N := 13) ?hd (cs := #[.int .i64 0, .int .i64 0, .bool false, .bool false, .string (⟨#[]⟩ : ByteArray), .string (⟨#[]⟩ : ByteArray), .string (⟨#[]⟩ : ByteArray), .slice none 0 0]) (t := 27) ?hr ?_; (case hd => rfl); (case hg => rfl); (case hr => first | (go_simp; done) | (go_simp; rfl)); intro gb128 hg w59 hbox hb; have n0_ := Aside0.mk (Kd.R_below (by (with_reducible repeat (first | apply Kd.R_alloc | apply Kd.R_drewN | apply Kd.R_drew)); exact HO_5.out) hb); have n1_ := Aside0.mk (Kd.R_below (Kd.R_elderB (by (with_reducible repeat (first | apply Kd.R_alloc | apply Kd.R_drewN | apply Kd.R_drew)); exact HO127.out) gb128 (Nat.le_of_eq hg.symm)) hb); have n2_ := Aside0.mk (below_step (by repeat (first | (with_reducible first | exact HB.out | apply below_alloc | apply pw_below_drewN | apply below_drew1) | exact HB.out)) hb); have n3_ := Aside0.mk (hbox); have n4_ := Aside0.mk ((by rw [hg]; exact (below_size (by repeat (first | (with_reducible first | exact HB.out | apply below_alloc | apply pw_below_drewN | apply below_drew1) | exact HB.out))) : w.heap.size ≤ gb128)); have n5_ := Aside0.mk ((by rw [hg]; exact (below_size (by repeat (first | (with_reducible first | exact HB.out | apply below_alloc | apply pw_below_drewN | apply below_drew1) | exact HB.out))) : w.heap.size ≤ gb128)); clear HO_5; clear HO127; clear HB; have HO_5 := n0_; have HO127 := n1_; have HB := n2_; have BK128 := n3_; have GW128 := n4_; have GE128 := n5_; clear n0_ n1_ n2_ n3_ n4_ n5_; clear hb hbox hg; have hcz60_0 : w59.cell? ⟨gb128, 0, none⟩ = some (.int .i64 0) := (blk_cell BK128.out 0).trans rfl; have hcz60_1 : w59.cell? ⟨gb128, 1, none⟩ = some (.int .i64 0) := (blk_cell BK128.out 1).trans rfl; have hcz60_2 : w59.cell? ⟨gb128, 2, none⟩ = some (.bool false) := (blk_cell BK128.out 2).trans rfl; have hcz60_3 : w59.cell? ⟨gb128, 3, none⟩ = some (.bool false) := (blk_cell BK128.out 3).trans rfl; have hcz60_4 : w59.cell? ⟨gb128, 4, none⟩ = some (.string (⟨#[]⟩ : ByteArray)) := (blk_cell BK128.out 4).trans rfl; have hcz60_5 : w59.cell? ⟨gb128, 5, none⟩ = some (.string (⟨#[]⟩ : ByteArray)) := (blk_cell BK128.out 5).trans rfl; have hcz60_6 : w59.cell? ⟨gb128, 6, none⟩ = some (.string (⟨#[]⟩ : ByteArray)) := (blk_cell BK128.out 6).trans rfl; have hcz60_7 : w59.cell? ⟨gb128, 7, none⟩ = some (.slice none 0 0) := (blk_cell BK128.out 7).trans rfl; have hfz60_0 := blk_frozen BK128.out 0; have hfz60_1 := blk_frozen BK128.out 1; have hfz60_2 := blk_frozen BK128.out 2; have hfz60_3 := blk_frozen BK128.out 3; have hfz60_4 := blk_frozen BK128.out 4; have hfz60_5 := blk_frozen BK128.out 5; have hfz60_6 := blk_frozen BK128.out 6; have hfz60_7 := blk_frozen BK128.out 7; obtain ⟨Ao61, co61, eo61⟩ := Kd.R_slice HO127.out; subst eo61) | ((with_reducible refine gate_store (t := 27) (p := 13) rfl ?_); refine store_event (t := 27) (p := 13) (v := ?vo_w62) (w1 := ((((((((w59.setCell ⟨gb128, 0, none⟩ (.int .i64 t118)).setCell ⟨gb128, 1, none⟩ (.int .i64 t119)).setCell ⟨gb128, 2, none⟩ (.bool t120)).setCell ⟨gb128, 3, none⟩ (.bool t121)).setCell ⟨gb128, 4, none⟩ (.string t122)).setCell ⟨gb128, 5, none⟩ (.string t123)).setCell ⟨gb128, 6, none⟩ (.string t124)).setCell ⟨gb128, 7, none⟩ (.slice Ao61 t125.length co61))) ?hg ?ho ?hn ?hr ?_; (case ho => rfl); (case hg => rfl); (case hn => rfl); (case hr => first | (go_simp; done) | (go_simp; rfl)); intro w62 hw; have n0_ : Aside0 (Kd.R Kd.string 9 w62 w.heap.size (fun _ => True) (.slice Ao57 x5_4.length co57) x5_4) := ⟨(by rw [hw]; exact (by (with_reducible repeat (first | apply Kd.R_alloc | apply Kd.R_drewN | apply Kd.R_drew)); exact Kd.R_mono (Kd.R_far (p := ⟨gb128, 7, none⟩) (Kd.R_far (p := ⟨gb128, 6, none⟩) (Kd.R_far (p := ⟨gb128, 5, none⟩) (Kd.R_far (p := ⟨gb128, 4, none⟩) (Kd.R_far (p := ⟨gb128, 3, none⟩) (Kd.R_far (p := ⟨gb128, 2, none⟩) (Kd.R_far (p := ⟨gb128, 1, none⟩) (Kd.R_far (p := ⟨gb128, 0, none⟩) (Kd.R_types HO_5.out BK128.out (by decide)) (fun _ hk => hk.2) (.int .i64 t118)) (fun _ hk => hk.2) (.int .i64 t119)) (fun _ hk => hk.2) (.bool t120)) (fun _ hk => hk.2) (.bool t121)) (fun _ hk => hk.2) (.string t122)) (fun _ hk => hk.2) (.string t123)) (fun _ hk => hk.2) (.string t124)) (fun _ hk => hk.2) (.slice Ao61 t125.length co61)) (fun _ hk => trivial)))⟩; have n1_ : Aside0 (Kd.R k27 27 w62 w.heap.size (fun k_ => k_ ≠ gb128) (.slice Ao61 t125.length co61) t125) := ⟨(by rw [hw]; exact (by (with_reducible repeat (first | apply Kd.R_alloc | apply Kd.R_drewN | apply Kd.R_drew)); exact Kd.R_mono (Kd.R_far (p := ⟨gb128, 7, none⟩) (Kd.R_far (p := ⟨gb128, 6, none⟩) (Kd.R_far (p := ⟨gb128, 5, none⟩) (Kd.R_far (p := ⟨gb128, 4, none⟩) (Kd.R_far (p := ⟨gb128, 3, none⟩) (Kd.R_far (p := ⟨gb128, 2, none⟩) (Kd.R_far (p := ⟨gb128, 1, none⟩) (Kd.R_far (p := ⟨gb128, 0, none⟩) (Kd.R_mono HO127.out (fun k_ hk => (⟨hk, hk.2⟩ : _ ∧ k_ ≠ gb128))) (fun _ hk => hk.2) (.int .i64 t118)) (fun _ hk => hk.2) (.int .i64 t119)) (fun _ hk => hk.2) (.bool t120)) (fun _ hk => hk.2) (.bool t121)) (fun _ hk => hk.2) (.string t122)) (fun _ hk => hk.2) (.string t123)) (fun _ hk => hk.2) (.string t124)) (fun _ hk => hk.2) (.slice Ao61 t125.length co61)) (fun _ hk => hk.1.2)))⟩; have n2_ : Aside0 (w62.heap[gb128]? = some (.cells #[.int .i64 t118, .int .i64 t119, .bool t120, .bool t121, .string t122, .string t123, .string t124, .slice Ao61 t125.length co61] 27 (0, 0))) := ⟨(by rw [hw]; exact (by (with_reducible repeat (first | refine blk_drewN ?_ _ | refine blk_drew ?_ | refine blk_alloc ?_ _)); refine blk_put (cs := #[.int .i64 t118, .int .i64 t119, .bool t120, .bool t121, .string t122, .string t123, .string t124, .slice none 0 0]) ?_ 7 _ rfl; (with_reducible repeat (first | refine blk_drewN ?_ _ | refine blk_drew ?_ | refine blk_alloc ?_ _)); refine blk_put (cs := #[.int .i64 t118, .int .i64 t119, .bool t120, .bool t121, .string t122, .string t123, .string (⟨#[]⟩ : ByteArray), .slice none 0 0]) ?_ 6 _ rfl; (with_reducible repeat (first | refine blk_drewN ?_ _ | refine blk_drew ?_ | refine blk_alloc ?_ _)); refine blk_put (cs := #[.int .i64 t118, .int .i64 t119, .bool t120, .bool t121, .string t122, .string (⟨#[]⟩ : ByteArray), .string (⟨#[]⟩ : ByteArray), .slice none 0 0]) ?_ 5 _ rfl; (with_reducible repeat (first | refine blk_drewN ?_ _ | refine blk_drew ?_ | refine blk_alloc ?_ _)); refine blk_put (cs := #[.int .i64 t118, .int .i64 t119, .bool t120, .bool t121, .string (⟨#[]⟩ : ByteArray), .string (⟨#[]⟩ : ByteArray), .string (⟨#[]⟩ : ByteArray), .slice none 0 0]) ?_ 4 _ rfl; (with_reducible repeat (first | refine blk_drewN ?_ _ | refine blk_drew ?_ | refine blk_alloc ?_ _)); refine blk_put (cs := #[.int .i64 t118, .int .i64 t119, .bool t120, .bool false, .string (⟨#[]⟩ : ByteArray), .string (⟨#[]⟩ : ByteArray), .string (⟨#[]⟩ : ByteArray), .slice none 0 0]) ?_ 3 _ rfl; (with_reducible repeat (first | refine blk_drewN ?_ _ | refine blk_drew ?_ | refine blk_alloc ?_ _)); refine blk_put (cs := #[.int .i64 t118, .int .i64 t119, .bool false, .bool false, .string (⟨#[]⟩ : ByteArray), .string (⟨#[]⟩ : ByteArray), .string (⟨#[]⟩ : ByteArray), .slice none 0 0]) ?_ 2 _ rfl; (with_reducible repeat (first | refine blk_drewN ?_ _ | refine blk_drew ?_ | refine blk_alloc ?_ _)); refine blk_put (cs := #[.int .i64 t118, .int .i64 0, .bool false, .bool false, .string (⟨#[]⟩ : ByteArray), .string (⟨#[]⟩ : ByteArray), .string (⟨#[]⟩ : ByteArray), .slice none 0 0]) ?_ 1 _ rfl; (with_reducible repeat (first | refine blk_drewN ?_ _ | refine blk_drew ?_ | refine blk_alloc ?_ _)); refine blk_put (cs := #[.int .i64 0, .int .i64 0, .bool false, .bool false, .string (⟨#[]⟩ : ByteArray), .string (⟨#[]⟩ : ByteArray), .string (⟨#[]⟩ : ByteArray), .slice none 0 0]) ?_ 0 _ rfl; (with_reducible repeat (first | refine blk_drewN ?_ _ | refine blk_drew ?_ | refine blk_alloc ?_ _)); exact BK128.out))⟩; have n3_ : Aside0 (Below w.heap.size w w62) := ⟨(by rw [hw]; exact (by repeat (first | (with_reducible first | exact HB.out | apply below_alloc | apply pw_below_drewN | apply below_drew1 | refine below_set ?_ GE128.out) | exact HB.out)))⟩; clear hw; clear HO_5; clear HO127; clear BK128; clear HB; have HO_5 := n0_; have HO127 := n1_; have BK128 := n2_; have HB := n3_; clear n0_ n1_ n2_ n3_; have hcz63_0 : w62.cell? ⟨gb128, 0, none⟩ = some (.int .i64 t118) := (blk_cell BK128.out 0).trans rfl; have hcz63_1 : w62.cell? ⟨gb128, 1, none⟩ = some (.int .i64 t119) := (blk_cell BK128.out 1).trans rfl; have hcz63_2 : w62.cell? ⟨gb128, 2, none⟩ = some (.bool t120) := (blk_cell BK128.out 2).trans rfl; have hcz63_3 : w62.cell? ⟨gb128, 3, none⟩ = some (.bool t121) := (blk_cell BK128.out 3).trans rfl; have hcz63_4 : w62.cell? ⟨gb128, 4, none⟩ = some (.string t122) := (blk_cell BK128.out 4).trans rfl; have hcz63_5 : w62.cell? ⟨gb128, 5, none⟩ = some (.string t123) := (blk_cell BK128.out 5).trans rfl; have hcz63_6 : w62.cell? ⟨gb128, 6, none⟩ = some (.string t124) := (blk_cell BK128.out 6).trans rfl; have hcz63_7 : w62.cell? ⟨gb128, 7, none⟩ = some (.slice Ao61 t125.length co61) := (blk_cell BK128.out 7).trans rfl; have hfz63_0 := blk_frozen BK128.out 0; have hfz63_1 := blk_frozen BK128.out 1; have hfz63_2 := blk_frozen BK128.out 2; have hfz63_3 := blk_frozen BK128.out 3; have hfz63_4 := blk_frozen BK128.out 4; have hfz63_5 := blk_frozen BK128.out 5; have hfz63_6 := blk_frozen BK128.out 6; have hfz63_7 := blk_frozen BK128.out 7; have p129 : 0 ≤ (0 : Int) := (by omega); have q129 : 0 < (t125.length : Int) := of_decide_eq_true (by first | (with_reducible assumption) | assumption); obtain ⟨ad129, A129_7, c129_7, e129, hx129_0, hx129_1, hx129_2, hx129_3, hx129_4, hx129_5, hx129_6, hx129_7, hl129_7, hi129_7⟩ := at_T27 (Kd.R_reads' HO127.out).2.2 0 p129 q129; cases e129; obtain ⟨ce129, hce129, hMe129, hcc129⟩ := Kd.R_get HO127.out z27 0 p129 (by first | exact q129 | exact of_decide_eq_true (by first | (with_reducible assumption) | assumption) | (have e_ := (Kd.R_reads' HO127.out).1; omega)); obtain ⟨ve129_7, rfl, ge129_7⟩ := k27_openM hMe129; have hv129_7 := hcc129 7 _ rfl; rw [add_field _ _ 7 (by omega)] at hv129_7; replace hv129_7 := Option.some.inj (hv129_7.symm.trans hx129_7); rw [hv129_7] at ge129_7; have HL129_7 := Aside0.mk (show Kd.R k27 27 _ _ _ _ ((rd_T27 t125 0).f7) from ge129_7); clear hv129_7 ge129_7; clear hcc129 hce129; have qi129 : (0 < t125.length) = True := eq_true (by omega); (try rw [show ((0 : Int)).toNat = 0 from rfl] at hx129_0); (try rw [show 0 * 8 = 0 from rfl] at hx129_0); (try rw [Addr.add_zero'] at hx129_0); (try rw [show ((0 : Int)).toNat = 0 from rfl] at hx129_1); (try rw [show 0 * 8 = 0 from rfl] at hx129_1); (try rw [Addr.add_zero'] at hx129_1); (try rw [show ((0 : Int)).toNat = 0 from rfl] at hx129_2); (try rw [show 0 * 8 = 0 from rfl] at hx129_2); (try rw [Addr.add_zero'] at hx129_2); (try rw [show ((0 : Int)).toNat = 0 from rfl] at hx129_3); (try rw [show 0 * 8 = 0 from rfl] at hx129_3); (try rw [Addr.add_zero'] at hx129_3); (try rw [show ((0 : Int)).toNat = 0 from rfl] at hx129_4); (try rw [show 0 * 8 = 0 from rfl] at hx129_4); (try rw [Addr.add_zero'] at hx129_4); (try rw [show ((0 : Int)).toNat = 0 from rfl] at hx129_5); (try rw [show 0 * 8 = 0 from rfl] at hx129_5); (try rw [Addr.add_zero'] at hx129_5); (try rw [show ((0 : Int)).toNat = 0 from rfl] at hx129_6); (try rw [show 0 * 8 = 0 from rfl] at hx129_6); (try rw [Addr.add_zero'] at hx129_6); (try rw [show ((0 : Int)).toNat = 0 from rfl] at hx129_7); (try rw [show 0 * 8 = 0 from rfl] at hx129_7); (try rw [Addr.add_zero'] at hx129_7); have HR129_7 := Aside0.mk hi129_7; have HC129_7 := Aside0.mk hl129_7; clear hi129_7 hl129_7; replace p129 := eq_true p129; replace q129 := eq_true q129; have p130 : 0 ≤ (0 : Int) := (by omega); have q130 : 0 < (t125.length : Int) := of_decide_eq_true (by first | (with_reducible assumption) | assumption); obtain ⟨ad130, A130_7, c130_7, e130, hx130_0, hx130_1, hx130_2, hx130_3, hx130_4, hx130_5, hx130_6, hx130_7, hl130_7, hi130_7⟩ := at_T27 (Kd.R_reads' HO127.out).2.2 0 p130 q130; obtain rfl : ad129 = ad130 := (by injection e130); obtain ⟨ce130, hce130, hMe130, hcc130⟩ := Kd.R_get HO127.out z27 0 p130 (by first | exact q130 | exact of_decide_eq_true (by first | (with_reducible assumption) | assumption) | (have e_ := (Kd.R_reads' HO127.out).1; omega)); obtain ⟨ve130_7, rfl, ge130_7⟩ := k27_openM hMe130; have hv130_7 := hcc130 7 _ rfl; rw [add_field _ _ 7 (by omega)] at hv130_7; replace hv130_7 := Option.some.inj (hv130_7.symm.trans hx130_7); rw [hv130_7] at ge130_7; have HL130_7 := Aside0.mk (show Kd.R k27 27 _ _ _ _ ((rd_T27 t125 0).f7) from ge130_7); clear hv130_7 ge130_7; clear hcc130 hce130; have qi130 : (0 < t125.length) = True := eq_true (by omega); (try rw [show ((0 : Int)).toNat = 0 from rfl] at hx130_0); (try rw [show 0 * 8 = 0 from rfl] at hx130_0); (try rw [Addr.add_zero'] at hx130_0); (try rw [show ((0 : Int)).toNat = 0 from rfl] at hx130_1); (try rw [show 0 * 8 = 0 from rfl] at hx130_1); (try rw [Addr.add_zero'] at hx130_1); (try rw [show ((0 : Int)).toNat = 0 from rfl] at hx130_2); (try rw [show 0 * 8 = 0 from rfl] at hx130_2); (try rw [Addr.add_zero'] at hx130_2); (try rw [show ((0 : Int)).toNat = 0 from rfl] at hx130_3); (try rw [show 0 * 8 = 0 from rfl] at hx130_3); (try rw [Addr.add_zero'] at hx130_3); (try rw [show ((0 : Int)).toNat = 0 from rfl] at hx130_4); (try rw [show 0 * 8 = 0 from rfl] at hx130_4); (try rw [Addr.add_zero'] at hx130_4); (try rw [show ((0 : Int)).toNat = 0 from rfl] at hx130_5); (try rw [show 0 * 8 = 0 from rfl] at hx130_5); (try rw [Addr.add_zero'] at hx130_5); (try rw [show ((0 : Int)).toNat = 0 from rfl] at hx130_6); (try rw [show 0 * 8 = 0 from rfl] at hx130_6); (try rw [Addr.add_zero'] at hx130_6); (try rw [show ((0 : Int)).toNat = 0 from rfl] at hx130_7); (try rw [show 0 * 8 = 0 from rfl] at hx130_7); (try rw [Addr.add_zero'] at hx130_7); have HR130_7 := Aside0.mk hi130_7; have HC130_7 := Aside0.mk hl130_7; clear hi130_7 hl130_7; replace p130 := eq_true p130; replace q130 := eq_true q130; have ea_ := Option.some.inj (hx129_7.symm.trans hx130_7); injection ea_ with ea_ en_ ec_; subst ea_; subst ec_; clear en_; have p131 : 0 ≤ (0 : Int) := (by omega); have q131 : 0 < (t125.length : Int) := of_decide_eq_true (by first | (with_reducible assumption) | assumption); obtain ⟨ad131, A131_7, c131_7, e131, hx131_0, hx131_1, hx131_2, hx131_3, hx131_4, hx131_5, hx131_6, hx131_7, hl131_7, hi131_7⟩ := at_T27 (Kd.R_reads' HO127.out).2.2 0 p131 q131; obtain rfl : ad129 = ad131 := (by injection e131); obtain ⟨ce131, hce131, hMe131, hcc131⟩ := Kd.R_get HO127.out z27 0 p131 (by first | exact q131 | exact of_decide_eq_true (by first | (with_reducible assumption) | assumption) | (have e_ := (Kd.R_reads' HO127.out).1; omega)); obtain ⟨ve131_7, rfl, ge131_7⟩ := k27_openM hMe131; have hv131_7 := hcc131 7 _ rfl; rw [add_field _ _ 7 (by omega)] at hv131_7; replace hv131_7 := Option.some.inj (hv131_7.symm.trans hx131_7); rw [hv131_7] at ge131_7; have HL131_7 := Aside0.mk (show Kd.R k27 27 _ _ _ _ ((rd_T27 t125 0).f7) from ge131_7); clear hv131_7 ge131_7; clear hcc131 hce131; have qi131 : (0 < t125.length) = True := eq_true (by omega); (try rw [show ((0 : Int)).toNat = 0 from rfl] at hx131_0); (try rw [show 0 * 8 = 0 from rfl] at hx131_0); (try rw [Addr.add_zero'] at hx131_0); (try rw [show ((0 : Int)).toNat = 0 from rfl] at hx131_1); (try rw [show 0 * 8 = 0 from rfl] at hx131_1); (try rw [Addr.add_zero'] at hx131_1); (try rw [show ((0 : Int)).toNat = 0 from rfl] at hx131_2); (try rw [show 0 * 8 = 0 from rfl] at hx131_2); (try rw [Addr.add_zero'] at hx131_2); (try rw [show ((0 : Int)).toNat = 0 from rfl] at hx131_3); (try rw [show 0 * 8 = 0 from rfl] at hx131_3); (try rw [Addr.add_zero'] at hx131_3); (try rw [show ((0 : Int)).toNat = 0 from rfl] at hx131_4); (try rw [show 0 * 8 = 0 from rfl] at hx131_4); (try rw [Addr.add_zero'] at hx131_4); (try rw [show ((0 : Int)).toNat = 0 from rfl] at hx131_5); (try rw [show 0 * 8 = 0 from rfl] at hx131_5); (try rw [Addr.add_zero'] at hx131_5); (try rw [show ((0 : Int)).toNat = 0 from rfl] at hx131_6); (try rw [show 0 * 8 = 0 from rfl] at hx131_6); (try rw [Addr.add_zero'] at hx131_6); (try rw [show ((0 : Int)).toNat = 0 from rfl] at hx131_7); (try rw [show 0 * 8 = 0 from rfl] at hx131_7); (try rw [Addr.add_zero'] at hx131_7); have HR131_7 := Aside0.mk hi131_7; have HC131_7 := Aside0.mk hl131_7; clear hi131_7 hl131_7; replace p131 := eq_true p131; replace q131 := eq_true q131; have ea_ := Option.some.inj (hx129_7.symm.trans hx131_7); injection ea_ with ea_ en_ ec_; subst ea_; subst ec_; clear en_))
                                    go_ret
                                    exact ⟨by first | rfl | (simp [errW_none, errW_some] <;> rfl) | (simp [*, errW_none, errW_some] <;> rfl), by repeat (first | (with_reducible first | exact HB.out | apply below_alloc | apply pw_below_drewN | apply below_drew1 | refine below_set ?_ GE128.out) | exact HB.out)⟩
                                · rw [if_neg c46] at H
                                  have c46b0 : (((rd_T27 t125 0).f4).toList == x6_3.toList) = false := beq_eq_false_iff_ne.mpr c46
                                  have c46b1 : (((rd_T27 t125 0).f4).toList != x6_3.toList) = true := bne_iff_ne.mpr c46
                                  obtain rfl := Option.some.inj H
                                  obtain ⟨Ao64, co64, eo64⟩ := Kd.R_slice HO_5.out
                                  subst eo64
                                  go_wp2_with (first | ((with_reducible refine gate_callee (f := 14) rfl ?_); refine goesL_ (some 101) rfl rfl Tryz.func14 (by kernel_rfl) rfl #[.slice Ao64 x5_4.length co64] rfl (by (try simp only [List.map_toArray, List.map_cons, List.map_nil]); first | done | rfl | (simp only [List.length_drop, List.length_take]; rfl)) ?_; (with_reducible refine (block_Parse.calls _ _ x5_4 t118 t119 t120 t121 t122 t123 t124 t125 _ ?side1 ?side2 ?side3 A42.out).mono ?_); (case side1 => first | (with_reducible exact hG) | (refine GL.below hG ?_; (repeat (first | (with_reducible first | exact HB.out | apply below_alloc | apply pw_below_drewN | apply below_drew1) | exact HB.out)); done) | (refine GL.drawn hG ?_; (repeat (first | exact Drawn0.refl _ | apply Drawn0.step)); done) | exact hG); (case side2 => repeat (first | exact (Kd.R_reads' HO_5.out).2.2 | (with_reducible refine Kd.C_alloc ?_ _) | (with_reducible refine Kd.C_drewN ?_ _) | (with_reducible refine Kd.C_drew ?_))); (case side3 => exact (Kd.R_reads' HO_5.out).2.1); rintro e w65 ⟨v126, rfl, ho0, hb⟩; refine ⟨_, rfl, ?_⟩; have n0_ := Aside0.mk (Kd.R_below (by (with_reducible repeat (first | apply Kd.R_alloc | apply Kd.R_drewN | apply Kd.R_drew)); exact HO_5.out) hb); have n1_ := Aside0.mk (Kd.R_lower ho0 (below_size (by repeat (first | (with_reducible first | exact HB.out | apply below_alloc | apply pw_below_drewN | apply below_drew1) | exact HB.out)))); have n2_ := Aside0.mk (below_step (by repeat (first | (with_reducible first | exact HB.out | apply below_alloc | apply pw_below_drewN | apply below_drew1) | exact HB.out)) hb); clear HO_5; clear HB; have HO_5 := n0_; have HO127 := n1_; have HB := n2_; clear n0_ n1_ n2_; (try clear hb); (try clear hb2); (try clear hk); (try clear hi); (try clear ho0)) | ((with_reducible refine gate_dst (N := 13) rfl ?_); (try (refine gate_guard (by rfl) ?_; dsimp only)); refine box_event ?hg (N := 13) ?hd (cs := #[.int .i64 0, .int .i64 0, .bool false, .bool false, .string (⟨#[]⟩ : ByteArray), .string (⟨#[]⟩ : ByteArray), .string (⟨#[]⟩ : ByteArray), .slice none 0 0]) (t := 27) ?hr ?_; (case hd => rfl); (case hg => rfl); (case hr => first | (go_simp; done) | (go_simp; rfl)); intro gb128 hg w66 hbox hb; have n0_ := Aside0.mk (Kd.R_below (by (with_reducible repeat (first | apply Kd.R_alloc | apply Kd.R_drewN | apply Kd.R_drew)); exact HO_5.out) hb); have n1_ := Aside0.mk (Kd.R_below (Kd.R_elderB (by (with_reducible repeat (first | apply Kd.R_alloc | apply Kd.R_drewN | apply Kd.R_drew)); exact HO127.out) gb128 (Nat.le_of_eq hg.symm)) hb); have n2_ := Aside0.mk (below_step (by repeat (first | (with_reducible first | exact HB.out | apply below_alloc | apply pw_below_drewN | apply below_drew1) | exact HB.out)) hb); have n3_ := Aside0.mk (hbox); have n4_ := Aside0.mk ((by rw [hg]; exact (below_size (by repeat (first | (with_reducible first | exact HB.out | apply below_alloc | apply pw_below_drewN | apply below_drew1) | exact HB.out))) : w.heap.size ≤ gb128)); have n5_ := Aside0.mk ((by rw [hg]; exact (below_size (by repeat (first | (with_reducible first | exact HB.out | apply below_alloc | apply pw_below_drewN | apply below_drew1) | exact HB.out))) : w.heap.size ≤ gb128)); clear HO_5; clear HO127; clear HB; have HO_5 := n0_; have HO127 := n1_; have HB := n2_; have BK128 := n3_; have GW128 := n4_; have GE128 := n5_; clear n0_ n1_ n2_ n3_ n4_ n5_; clear hb hbox hg; have hcz67_0 : w66.cell? ⟨gb128, 0, none⟩ = some (.int .i64 0) := (blk_cell BK128.out 0).trans rfl; have hcz67_1 : w66.cell? ⟨gb128, 1, none⟩ = some (.int .i64 0) := (blk_cell BK128.out 1).trans rfl; have hcz67_2 : w66.cell? ⟨gb128, 2, none⟩ = some (.bool false) := (blk_cell BK128.out 2).trans rfl; have hcz67_3 : w66.cell? ⟨gb128, 3, none⟩ = some (.bool false) := (blk_cell BK128.out 3).trans rfl; have hcz67_4 : w66.cell? ⟨gb128, 4, none⟩ = some (.string (⟨#[]⟩ : ByteArray)) := (blk_cell BK128.out 4).trans rfl; have hcz67_5 : w66.cell? ⟨gb128, 5, none⟩ = some (.string (⟨#[]⟩ : ByteArray)) := (blk_cell BK128.out 5).trans rfl; have hcz67_6 : w66.cell? ⟨gb128, 6, none⟩ = some (.string (⟨#[]⟩ : ByteArray)) := (blk_cell BK128.out 6).trans rfl; have hcz67_7 : w66.cell? ⟨gb128, 7, none⟩ = some (.slice none 0 0) := (blk_cell BK128.out 7).trans rfl; have hfz67_0 := blk_frozen BK128.out 0; have hfz67_1 := blk_frozen BK128.out 1; have hfz67_2 := blk_frozen BK128.out 2; have hfz67_3 := blk_frozen BK128.out 3; have hfz67_4 := blk_frozen BK128.out 4; have hfz67_5 := blk_frozen BK128.out 5; have hfz67_6 := blk_frozen BK128.out 6; have hfz67_7 := blk_frozen BK128.out 7; obtain ⟨Ao68, co68, eo68⟩ := Kd.R_slice HO127.out; subst eo68) | ((with_reducible refine gate_store (t := 27) (p := 13) rfl ?_); refine store_event (t := 27) (p := 13) (v := ?vo_w69) (w1 := ((((((((w66.setCell ⟨gb128, 0, none⟩ (.int .i64 t118)).setCell ⟨gb128, 1, none⟩ (.int .i64 t119)).setCell ⟨gb128, 2, none⟩ (.bool t120)).setCell ⟨gb128, 3, none⟩ (.bool t121)).setCell ⟨gb128, 4, none⟩ (.string t122)).setCell ⟨gb128, 5, none⟩ (.string t123)).setCell ⟨gb128, 6, none⟩ (.string t124)).setCell ⟨gb128, 7, none⟩ (.slice Ao68 t125.length co68))) ?hg ?ho ?hn ?hr ?_; (case ho => rfl); (case hg => rfl); (case hn => rfl); (case hr => first | (go_simp; done) | (go_simp; rfl)); intro w69 hw; have n0_ : Aside0 (Kd.R Kd.string 9 w69 w.heap.size (fun _ => True) (.slice Ao64 x5_4.length co64) x5_4) := ⟨(by rw [hw]; exact (by (with_reducible repeat (first | apply Kd.R_alloc | apply Kd.R_drewN | apply Kd.R_drew)); exact Kd.R_mono (Kd.R_far (p := ⟨gb128, 7, none⟩) (Kd.R_far (p := ⟨gb128, 6, none⟩) (Kd.R_far (p := ⟨gb128, 5, none⟩) (Kd.R_far (p := ⟨gb128, 4, none⟩) (Kd.R_far (p := ⟨gb128, 3, none⟩) (Kd.R_far (p := ⟨gb128, 2, none⟩) (Kd.R_far (p := ⟨gb128, 1, none⟩) (Kd.R_far (p := ⟨gb128, 0, none⟩) (Kd.R_types HO_5.out BK128.out (by decide)) (fun _ hk => hk.2) (.int .i64 t118)) (fun _ hk => hk.2) (.int .i64 t119)) (fun _ hk => hk.2) (.bool t120)) (fun _ hk => hk.2) (.bool t121)) (fun _ hk => hk.2) (.string t122)) (fun _ hk => hk.2) (.string t123)) (fun _ hk => hk.2) (.string t124)) (fun _ hk => hk.2) (.slice Ao68 t125.length co68)) (fun _ hk => trivial)))⟩; have n1_ : Aside0 (Kd.R k27 27 w69 w.heap.size (fun k_ => k_ ≠ gb128) (.slice Ao68 t125.length co68) t125) := ⟨(by rw [hw]; exact (by (with_reducible repeat (first | apply Kd.R_alloc | apply Kd.R_drewN | apply Kd.R_drew)); exact Kd.R_mono (Kd.R_far (p := ⟨gb128, 7, none⟩) (Kd.R_far (p := ⟨gb128, 6, none⟩) (Kd.R_far (p := ⟨gb128, 5, none⟩) (Kd.R_far (p := ⟨gb128, 4, none⟩) (Kd.R_far (p := ⟨gb128, 3, none⟩) (Kd.R_far (p := ⟨gb128, 2, none⟩) (Kd.R_far (p := ⟨gb128, 1, none⟩) (Kd.R_far (p := ⟨gb128, 0, none⟩) (Kd.R_mono HO127.out (fun k_ hk => (⟨hk, hk.2⟩ : _ ∧ k_ ≠ gb128))) (fun _ hk => hk.2) (.int .i64 t118)) (fun _ hk => hk.2) (.int .i64 t119)) (fun _ hk => hk.2) (.bool t120)) (fun _ hk => hk.2) (.bool t121)) (fun _ hk => hk.2) (.string t122)) (fun _ hk => hk.2) (.string t123)) (fun _ hk => hk.2) (.string t124)) (fun _ hk => hk.2) (.slice Ao68 t125.length co68)) (fun _ hk => hk.1.2)))⟩; have n2_ : Aside0 (w69.heap[gb128]? = some (.cells #[.int .i64 t118, .int .i64 t119, .bool t120, .bool t121, .string t122, .string t123, .string t124, .slice Ao68 t125.length co68] 27 (0, 0))) := ⟨(by rw [hw]; exact (by (with_reducible repeat (first | refine blk_drewN ?_ _ | refine blk_drew ?_ | refine blk_alloc ?_ _)); refine blk_put (cs := #[.int .i64 t118, .int .i64 t119, .bool t120, .bool t121, .string t122, .string t123, .string t124, .slice none 0 0]) ?_ 7 _ rfl; (with_reducible repeat (first | refine blk_drewN ?_ _ | refine blk_drew ?_ | refine blk_alloc ?_ _)); refine blk_put (cs := #[.int .i64 t118, .int .i64 t119, .bool t120, .bool t121, .string t122, .string t123, .string (⟨#[]⟩ : ByteArray), .slice none 0 0]) ?_ 6 _ rfl; (with_reducible repeat (first | refine blk_drewN ?_ _ | refine blk_drew ?_ | refine blk_alloc ?_ _)); refine blk_put (cs := #[.int .i64 t118, .int .i64 t119, .bool t120, .bool t121, .string t122, .string (⟨#[]⟩ : ByteArray), .string (⟨#[]⟩ : ByteArray), .slice none 0 0]) ?_ 5 _ rfl; (with_reducible repeat (first | refine blk_drewN ?_ _ | refine blk_drew ?_ | refine blk_alloc ?_ _)); refine blk_put (cs := #[.int .i64 t118, .int .i64 t119, .bool t120, .bool t121, .string (⟨#[]⟩ : ByteArray), .string (⟨#[]⟩ : ByteArray), .string (⟨#[]⟩ : ByteArray), .slice none 0 0]) ?_ 4 _ rfl; (with_reducible repeat (first | refine blk_drewN ?_ _ | refine blk_drew ?_ | refine blk_alloc ?_ _)); refine blk_put (cs := #[.int .i64 t118, .int .i64 t119, .bool t120, .bool false, .string (⟨#[]⟩ : ByteArray), .string (⟨#[]⟩ : ByteArray), .string (⟨#[]⟩ : ByteArray), .slice none 0 0]) ?_ 3 _ rfl; (with_reducible repeat (first | refine blk_drewN ?_ _ | refine blk_drew ?_ | refine blk_alloc ?_ _)); refine blk_put (cs := #[.int .i64 t118, .int .i64 t119, .bool false, .bool false, .string (⟨#[]⟩ : ByteArray), .string (⟨#[]⟩ : ByteArray), .string (⟨#[]⟩ : ByteArray), .slice none 0 0]) ?_ 2 _ rfl; (with_reducible repeat (first | refine blk_drewN ?_ _ | refine blk_drew ?_ | refine blk_alloc ?_ _)); refine blk_put (cs := #[.int .i64 t118, .int .i64 0, .bool false, .bool false, .string (⟨#[]⟩ : ByteArray), .string (⟨#[]⟩ : ByteArray), .string (⟨#[]⟩ : ByteArray), .slice none 0 0]) ?_ 1 _ rfl; (with_reducible repeat (first | refine blk_drewN ?_ _ | refine blk_drew ?_ | refine blk_alloc ?_ _)); refine blk_put (cs := #[.int .i64 0, .int .i64 0, .bool false, .bool false, .string (⟨#[]⟩ : ByteArray), .string (⟨#[]⟩ : ByteArray), .string (⟨#[]⟩ : ByteArray), .slice none 0 0]) ?_ 0 _ rfl; (with_reducible repeat (first | refine blk_drewN ?_ _ | refine blk_drew ?_ | refine blk_alloc ?_ _)); exact BK128.out))⟩; have n3_ : Aside0 (Below w.heap.size w w69) := ⟨(by rw [hw]; exact (by repeat (first | (with_reducible first | exact HB.out | apply below_alloc | apply pw_below_drewN | apply below_drew1 | refine below_set ?_ GE128.out) | exact HB.out)))⟩; clear hw; clear HO_5; clear HO127; clear BK128; clear HB; have HO_5 := n0_; have HO127 := n1_; have BK128 := n2_; have HB := n3_; clear n0_ n1_ n2_ n3_; have hcz70_0 : w69.cell? ⟨gb128, 0, none⟩ = some (.int .i64 t118) := (blk_cell BK128.out 0).trans rfl; have hcz70_1 : w69.cell? ⟨gb128, 1, none⟩ = some (.int .i64 t119) := (blk_cell BK128.out 1).trans rfl; have hcz70_2 : w69.cell? ⟨gb128, 2, none⟩ = some (.bool t120) := (blk_cell BK128.out 2).trans rfl; have hcz70_3 : w69.cell? ⟨gb128, 3, none⟩ = some (.bool t121) := (blk_cell BK128.out 3).trans rfl; have hcz70_4 : w69.cell? ⟨gb128, 4, none⟩ = some (.string t122) := (blk_cell BK128.out 4).trans rfl; have hcz70_5 : w69.cell? ⟨gb128, 5, none⟩ = some (.string t123) := (blk_cell BK128.out 5).trans rfl; have hcz70_6 : w69.cell? ⟨gb128, 6, none⟩ = some (.string t124) := (blk_cell BK128.out 6).trans rfl; have hcz70_7 : w69.cell? ⟨gb128, 7, none⟩ = some (.slice Ao68 t125.length co68) := (blk_cell BK128.out 7).trans rfl; have hfz70_0 := blk_frozen BK128.out 0; have hfz70_1 := blk_frozen BK128.out 1; have hfz70_2 := blk_frozen BK128.out 2; have hfz70_3 := blk_frozen BK128.out 3; have hfz70_4 := blk_frozen BK128.out 4; have hfz70_5 := blk_frozen BK128.out 5; have hfz70_6 := blk_frozen BK128.out 6; have hfz70_7 := blk_frozen BK128.out 7; have p129 : 0 ≤ (0 : Int) := (by omega); have q129 : 0 < (t125.length : Int) := of_decide_eq_true (by first | (with_reducible assumption) | assumption); obtain ⟨ad129, A129_7, c129_7, e129, hx129_0, hx129_1, hx129_2, hx129_3, hx129_4, hx129_5, hx129_6, hx129_7, hl129_7, hi129_7⟩ := at_T27 (Kd.R_reads' HO127.out).2.2 0 p129 q129; cases e129; obtain ⟨ce129, hce129, hMe129, hcc129⟩ := Kd.R_get HO127.out z27 0 p129 (by first | exact q129 | exact of_decide_eq_true (by first | (with_reducible assumption) | assumption) | (have e_ := (Kd.R_reads' HO127.out).1; omega)); obtain ⟨ve129_7, rfl, ge129_7⟩ := k27_openM hMe129; have hv129_7 := hcc129 7 _ rfl; rw [add_field _ _ 7 (by omega)] at hv129_7; replace hv129_7 := Option.some.inj (hv129_7.symm.trans hx129_7); rw [hv129_7] at ge129_7; have HL129_7 := Aside0.mk (show Kd.R k27 27 _ _ _ _ ((rd_T27 t125 0).f7) from ge129_7); clear hv129_7 ge129_7; clear hcc129 hce129; have qi129 : (0 < t125.length) = True := eq_true (by omega); (try rw [show ((0 : Int)).toNat = 0 from rfl] at hx129_0); (try rw [show 0 * 8 = 0 from rfl] at hx129_0); (try rw [Addr.add_zero'] at hx129_0); (try rw [show ((0 : Int)).toNat = 0 from rfl] at hx129_1); (try rw [show 0 * 8 = 0 from rfl] at hx129_1); (try rw [Addr.add_zero'] at hx129_1); (try rw [show ((0 : Int)).toNat = 0 from rfl] at hx129_2); (try rw [show 0 * 8 = 0 from rfl] at hx129_2); (try rw [Addr.add_zero'] at hx129_2); (try rw [show ((0 : Int)).toNat = 0 from rfl] at hx129_3); (try rw [show 0 * 8 = 0 from rfl] at hx129_3); (try rw [Addr.add_zero'] at hx129_3); (try rw [show ((0 : Int)).toNat = 0 from rfl] at hx129_4); (try rw [show 0 * 8 = 0 from rfl] at hx129_4); (try rw [Addr.add_zero'] at hx129_4); (try rw [show ((0 : Int)).toNat = 0 from rfl] at hx129_5); (try rw [show 0 * 8 = 0 from rfl] at hx129_5); (try rw [Addr.add_zero'] at hx129_5); (try rw [show ((0 : Int)).toNat = 0 from rfl] at hx129_6); (try rw [show 0 * 8 = 0 from rfl] at hx129_6); (try rw [Addr.add_zero'] at hx129_6); (try rw [show ((0 : Int)).toNat = 0 from rfl] at hx129_7); (try rw [show 0 * 8 = 0 from rfl] at hx129_7); (try rw [Addr.add_zero'] at hx129_7); have HR129_7 := Aside0.mk hi129_7; have HC129_7 := Aside0.mk hl129_7; clear hi129_7 hl129_7; replace p129 := eq_true p129; replace q129 := eq_true q129; have p130 : 0 ≤ (0 : Int) := (by omega); have q130 : 0 < (t125.length : Int) := of_decide_eq_true (by first | (with_reducible assumption) | assumption); obtain ⟨ad130, A130_7, c130_7, e130, hx130_0, hx130_1, hx130_2, hx130_3, hx130_4, hx130_5, hx130_6, hx130_7, hl130_7, hi130_7⟩ := at_T27 (Kd.R_reads' HO127.out).2.2 0 p130 q130; obtain rfl : ad129 = ad130 := (by injection e130); obtain ⟨ce130, hce130, hMe130, hcc130⟩ := Kd.R_get HO127.out z27 0 p130 (by first | exact q130 | exact of_decide_eq_true (by first | (with_reducible assumption) | assumption) | (have e_ := (Kd.R_reads' HO127.out).1; omega)); obtain ⟨ve130_7, rfl, ge130_7⟩ := k27_openM hMe130; have hv130_7 := hcc130 7 _ rfl; rw [add_field _ _ 7 (by omega)] at hv130_7; replace hv130_7 := Option.some.inj (hv130_7.symm.trans hx130_7); rw [hv130_7] at ge130_7; have HL130_7 := Aside0.mk (show Kd.R k27 27 _ _ _ _ ((rd_T27 t125 0).f7) from ge130_7); clear hv130_7 ge130_7; clear hcc130 hce130; have qi130 : (0 < t125.length) = True := eq_true (by omega); (try rw [show ((0 : Int)).toNat = 0 from rfl] at hx130_0); (try rw [show 0 * 8 = 0 from rfl] at hx130_0); (try rw [Addr.add_zero'] at hx130_0); (try rw [show ((0 : Int)).toNat = 0 from rfl] at hx130_1); (try rw [show 0 * 8 = 0 from rfl] at hx130_1); (try rw [Addr.add_zero'] at hx130_1); (try rw [show ((0 : Int)).toNat = 0 from rfl] at hx130_2); (try rw [show 0 * 8 = 0 from rfl] at hx130_2); (try rw [Addr.add_zero'] at hx130_2); (try rw [show ((0 : Int)).toNat = 0 from rfl] at hx130_3); (try rw [show 0 * 8 = 0 from rfl] at hx130_3); (try rw [Addr.add_zero'] at hx130_3); (try rw [show ((0 : Int)).toNat = 0 from rfl] at hx130_4); (try rw [show 0 * 8 = 0 from rfl] at hx130_4); (try rw [Addr.add_zero'] at hx130_4); (try rw [show ((0 : Int)).toNat = 0 from rfl] at hx130_5); (try rw [show 0 * 8 = 0 from rfl] at hx130_5); (try rw [Addr.add_zero'] at hx130_5); (try rw [show ((0 : Int)).toNat = 0 from rfl] at hx130_6); (try rw [show 0 * 8 = 0 from rfl] at hx130_6); (try rw [Addr.add_zero'] at hx130_6); (try rw [show ((0 : Int)).toNat = 0 from rfl] at hx130_7); (try rw [show 0 * 8 = 0 from rfl] at hx130_7); (try rw [Addr.add_zero'] at hx130_7); have HR130_7 := Aside0.mk hi130_7; have HC130_7 := Aside0.mk hl130_7; clear hi130_7 hl130_7; replace p130 := eq_true p130; replace q130 := eq_true q130; have ea_ := Option.some.inj (hx129_7.symm.trans hx130_7); injection ea_ with ea_ en_ ec_; subst ea_; subst ec_; clear en_))
                                  go_ret
                                  exact ⟨by first | rfl | (simp [errW_none, errW_some] <;> rfl) | (simp [*, errW_none, errW_some] <;> rfl), by repeat (first | (with_reducible first | exact HB.out | apply below_alloc | apply pw_below_drewN | apply below_drew1 | refine below_set ?_ GE128.out) | exact HB.out)⟩
                              · rw [if_neg c45] at H
                                have c45b0 : (((rd_T27 t125 0).f0) == 5) = false := beq_eq_false_iff_ne.mpr c45
                                have c45b1 : (((rd_T27 t125 0).f0) != 5) = true := bne_iff_ne.mpr c45
                                obtain rfl := Option.some.inj H
                                obtain ⟨Ao71, co71, eo71⟩ := Kd.R_slice HO_5.out
                                subst eo71
                                go_wp2_with (first | ((with_reducible refine gate_callee (f := 14) rfl ?_); refine goesL_ (some 101) rfl rfl Tryz.func14 (by kernel_rfl) rfl #[.slice Ao71 x5_4.length co71] rfl (by (try simp only [List.map_toArray, List.map_cons, List.map_nil]); first | done | rfl | (simp only [List.length_drop, List.length_take]; rfl)) ?_; (with_reducible refine (block_Parse.calls _ _ x5_4 t118 t119 t120 t121 t122 t123 t124 t125 _ ?side1 ?side2 ?side3 A42.out).mono ?_); (case side1 => first | (with_reducible exact hG) | (refine GL.below hG ?_; (repeat (first | (with_reducible first | exact HB.out | apply below_alloc | apply pw_below_drewN | apply below_drew1) | exact HB.out)); done) | (refine GL.drawn hG ?_; (repeat (first | exact Drawn0.refl _ | apply Drawn0.step)); done) | exact hG); (case side2 => repeat (first | exact (Kd.R_reads' HO_5.out).2.2 | (with_reducible refine Kd.C_alloc ?_ _) | (with_reducible refine Kd.C_drewN ?_ _) | (with_reducible refine Kd.C_drew ?_))); (case side3 => exact (Kd.R_reads' HO_5.out).2.1); rintro e w72 ⟨v126, rfl, ho0, hb⟩; refine ⟨_, rfl, ?_⟩; have n0_ := Aside0.mk (Kd.R_below (by (with_reducible repeat (first | apply Kd.R_alloc | apply Kd.R_drewN | apply Kd.R_drew)); exact HO_5.out) hb); have n1_ := Aside0.mk (Kd.R_lower ho0 (below_size (by repeat (first | (with_reducible first | exact HB.out | apply below_alloc | apply pw_below_drewN | apply below_drew1) | exact HB.out)))); have n2_ := Aside0.mk (below_step (by repeat (first | (with_reducible first | exact HB.out | apply below_alloc | apply pw_below_drewN | apply below_drew1) | exact HB.out)) hb); clear HO_5; clear HB; have HO_5 := n0_; have HO127 := n1_; have HB := n2_; clear n0_ n1_ n2_; (try clear hb); (try clear hb2); (try clear hk); (try clear hi); (try clear ho0)) | ((with_reducible refine gate_dst (N := 13) rfl ?_); (try (refine gate_guard (by rfl) ?_; dsimp only)); refine box_event ?hg (N := 13) ?hd (cs := #[.int .i64 0, .int .i64 0, .bool false, .bool false, .string (⟨#[]⟩ : ByteArray), .string (⟨#[]⟩ : ByteArray), .string (⟨#[]⟩ : ByteArray), .slice none 0 0]) (t := 27) ?hr ?_; (case hd => rfl); (case hg => rfl); (case hr => first | (go_simp; done) | (go_simp; rfl)); intro gb128 hg w73 hbox hb; have n0_ := Aside0.mk (Kd.R_below (by (with_reducible repeat (first | apply Kd.R_alloc | apply Kd.R_drewN | apply Kd.R_drew)); exact HO_5.out) hb); have n1_ := Aside0.mk (Kd.R_below (Kd.R_elderB (by (with_reducible repeat (first | apply Kd.R_alloc | apply Kd.R_drewN | apply Kd.R_drew)); exact HO127.out) gb128 (Nat.le_of_eq hg.symm)) hb); have n2_ := Aside0.mk (below_step (by repeat (first | (with_reducible first | exact HB.out | apply below_alloc | apply pw_below_drewN | apply below_drew1) | exact HB.out)) hb); have n3_ := Aside0.mk (hbox); have n4_ := Aside0.mk ((by rw [hg]; exact (below_size (by repeat (first | (with_reducible first | exact HB.out | apply below_alloc | apply pw_below_drewN | apply below_drew1) | exact HB.out))) : w.heap.size ≤ gb128)); have n5_ := Aside0.mk ((by rw [hg]; exact (below_size (by repeat (first | (with_reducible first | exact HB.out | apply below_alloc | apply pw_below_drewN | apply below_drew1) | exact HB.out))) : w.heap.size ≤ gb128)); clear HO_5; clear HO127; clear HB; have HO_5 := n0_; have HO127 := n1_; have HB := n2_; have BK128 := n3_; have GW128 := n4_; have GE128 := n5_; clear n0_ n1_ n2_ n3_ n4_ n5_; clear hb hbox hg; have hcz74_0 : w73.cell? ⟨gb128, 0, none⟩ = some (.int .i64 0) := (blk_cell BK128.out 0).trans rfl; have hcz74_1 : w73.cell? ⟨gb128, 1, none⟩ = some (.int .i64 0) := (blk_cell BK128.out 1).trans rfl; have hcz74_2 : w73.cell? ⟨gb128, 2, none⟩ = some (.bool false) := (blk_cell BK128.out 2).trans rfl; have hcz74_3 : w73.cell? ⟨gb128, 3, none⟩ = some (.bool false) := (blk_cell BK128.out 3).trans rfl; have hcz74_4 : w73.cell? ⟨gb128, 4, none⟩ = some (.string (⟨#[]⟩ : ByteArray)) := (blk_cell BK128.out 4).trans rfl; have hcz74_5 : w73.cell? ⟨gb128, 5, none⟩ = some (.string (⟨#[]⟩ : ByteArray)) := (blk_cell BK128.out 5).trans rfl; have hcz74_6 : w73.cell? ⟨gb128, 6, none⟩ = some (.string (⟨#[]⟩ : ByteArray)) := (blk_cell BK128.out 6).trans rfl; have hcz74_7 : w73.cell? ⟨gb128, 7, none⟩ = some (.slice none 0 0) := (blk_cell BK128.out 7).trans rfl; have hfz74_0 := blk_frozen BK128.out 0; have hfz74_1 := blk_frozen BK128.out 1; have hfz74_2 := blk_frozen BK128.out 2; have hfz74_3 := blk_frozen BK128.out 3; have hfz74_4 := blk_frozen BK128.out 4; have hfz74_5 := blk_frozen BK128.out 5; have hfz74_6 := blk_frozen BK128.out 6; have hfz74_7 := blk_frozen BK128.out 7; obtain ⟨Ao75, co75, eo75⟩ := Kd.R_slice HO127.out; subst eo75) | ((with_reducible refine gate_store (t := 27) (p := 13) rfl ?_); refine store_event (t := 27) (p := 13) (v := ?vo_w76) (w1 := ((((((((w73.setCell ⟨gb128, 0, none⟩ (.int .i64 t118)).setCell ⟨gb128, 1, none⟩ (.int .i64 t119)).setCell ⟨gb128, 2, none⟩ (.bool t120)).setCell ⟨gb128, 3, none⟩ (.bool t121)).setCell ⟨gb128, 4, none⟩ (.string t122)).setCell ⟨gb128, 5, none⟩ (.string t123)).setCell ⟨gb128, 6, none⟩ (.string t124)).setCell ⟨gb128, 7, none⟩ (.slice Ao75 t125.length co75))) ?hg ?ho ?hn ?hr ?_; (case ho => rfl); (case hg => rfl); (case hn => rfl); (case hr => first | (go_simp; done) | (go_simp; rfl)); intro w76 hw; have n0_ : Aside0 (Kd.R Kd.string 9 w76 w.heap.size (fun _ => True) (.slice Ao71 x5_4.length co71) x5_4) := ⟨(by rw [hw]; exact (by (with_reducible repeat (first | apply Kd.R_alloc | apply Kd.R_drewN | apply Kd.R_drew)); exact Kd.R_mono (Kd.R_far (p := ⟨gb128, 7, none⟩) (Kd.R_far (p := ⟨gb128, 6, none⟩) (Kd.R_far (p := ⟨gb128, 5, none⟩) (Kd.R_far (p := ⟨gb128, 4, none⟩) (Kd.R_far (p := ⟨gb128, 3, none⟩) (Kd.R_far (p := ⟨gb128, 2, none⟩) (Kd.R_far (p := ⟨gb128, 1, none⟩) (Kd.R_far (p := ⟨gb128, 0, none⟩) (Kd.R_types HO_5.out BK128.out (by decide)) (fun _ hk => hk.2) (.int .i64 t118)) (fun _ hk => hk.2) (.int .i64 t119)) (fun _ hk => hk.2) (.bool t120)) (fun _ hk => hk.2) (.bool t121)) (fun _ hk => hk.2) (.string t122)) (fun _ hk => hk.2) (.string t123)) (fun _ hk => hk.2) (.string t124)) (fun _ hk => hk.2) (.slice Ao75 t125.length co75)) (fun _ hk => trivial)))⟩; have n1_ : Aside0 (Kd.R k27 27 w76 w.heap.size (fun k_ => k_ ≠ gb128) (.slice Ao75 t125.length co75) t125) := ⟨(by rw [hw]; exact (by (with_reducible repeat (first | apply Kd.R_alloc | apply Kd.R_drewN | apply Kd.R_drew)); exact Kd.R_mono (Kd.R_far (p := ⟨gb128, 7, none⟩) (Kd.R_far (p := ⟨gb128, 6, none⟩) (Kd.R_far (p := ⟨gb128, 5, none⟩) (Kd.R_far (p := ⟨gb128, 4, none⟩) (Kd.R_far (p := ⟨gb128, 3, none⟩) (Kd.R_far (p := ⟨gb128, 2, none⟩) (Kd.R_far (p := ⟨gb128, 1, none⟩) (Kd.R_far (p := ⟨gb128, 0, none⟩) (Kd.R_mono HO127.out (fun k_ hk => (⟨hk, hk.2⟩ : _ ∧ k_ ≠ gb128))) (fun _ hk => hk.2) (.int .i64 t118)) (fun _ hk => hk.2) (.int .i64 t119)) (fun _ hk => hk.2) (.bool t120)) (fun _ hk => hk.2) (.bool t121)) (fun _ hk => hk.2) (.string t122)) (fun _ hk => hk.2) (.string t123)) (fun _ hk => hk.2) (.string t124)) (fun _ hk => hk.2) (.slice Ao75 t125.length co75)) (fun _ hk => hk.1.2)))⟩; have n2_ : Aside0 (w76.heap[gb128]? = some (.cells #[.int .i64 t118, .int .i64 t119, .bool t120, .bool t121, .string t122, .string t123, .string t124, .slice Ao75 t125.length co75] 27 (0, 0))) := ⟨(by rw [hw]; exact (by (with_reducible repeat (first | refine blk_drewN ?_ _ | refine blk_drew ?_ | refine blk_alloc ?_ _)); refine blk_put (cs := #[.int .i64 t118, .int .i64 t119, .bool t120, .bool t121, .string t122, .string t123, .string t124, .slice none 0 0]) ?_ 7 _ rfl; (with_reducible repeat (first | refine blk_drewN ?_ _ | refine blk_drew ?_ | refine blk_alloc ?_ _)); refine blk_put (cs := #[.int .i64 t118, .int .i64 t119, .bool t120, .bool t121, .string t122, .string t123, .string (⟨#[]⟩ : ByteArray), .slice none 0 0]) ?_ 6 _ rfl; (with_reducible repeat (first | refine blk_drewN ?_ _ | refine blk_drew ?_ | refine blk_alloc ?_ _)); refine blk_put (cs := #[.int .i64 t118, .int .i64 t119, .bool t120, .bool t121, .string t122, .string (⟨#[]⟩ : ByteArray), .string (⟨#[]⟩ : ByteArray), .slice none 0 0]) ?_ 5 _ rfl; (with_reducible repeat (first | refine blk_drewN ?_ _ | refine blk_drew ?_ | refine blk_alloc ?_ _)); refine blk_put (cs := #[.int .i64 t118, .int .i64 t119, .bool t120, .bool t121, .string (⟨#[]⟩ : ByteArray), .string (⟨#[]⟩ : ByteArray), .string (⟨#[]⟩ : ByteArray), .slice none 0 0]) ?_ 4 _ rfl; (with_reducible repeat (first | refine blk_drewN ?_ _ | refine blk_drew ?_ | refine blk_alloc ?_ _)); refine blk_put (cs := #[.int .i64 t118, .int .i64 t119, .bool t120, .bool false, .string (⟨#[]⟩ : ByteArray), .string (⟨#[]⟩ : ByteArray), .string (⟨#[]⟩ : ByteArray), .slice none 0 0]) ?_ 3 _ rfl; (with_reducible repeat (first | refine blk_drewN ?_ _ | refine blk_drew ?_ | refine blk_alloc ?_ _)); refine blk_put (cs := #[.int .i64 t118, .int .i64 t119, .bool false, .bool false, .string (⟨#[]⟩ : ByteArray), .string (⟨#[]⟩ : ByteArray), .string (⟨#[]⟩ : ByteArray), .slice none 0 0]) ?_ 2 _ rfl; (with_reducible repeat (first | refine blk_drewN ?_ _ | refine blk_drew ?_ | refine blk_alloc ?_ _)); refine blk_put (cs := #[.int .i64 t118, .int .i64 0, .bool false, .bool false, .string (⟨#[]⟩ : ByteArray), .string (⟨#[]⟩ : ByteArray), .string (⟨#[]⟩ : ByteArray), .slice none 0 0]) ?_ 1 _ rfl; (with_reducible repeat (first | refine blk_drewN ?_ _ | refine blk_drew ?_ | refine blk_alloc ?_ _)); refine blk_put (cs := #[.int .i64 0, .int .i64 0, .bool false, .bool false, .string (⟨#[]⟩ : ByteArray), .string (⟨#[]⟩ : ByteArray), .string (⟨#[]⟩ : ByteArray), .slice none 0 0]) ?_ 0 _ rfl; (with_reducible repeat (first | refine blk_drewN ?_ _ | refine blk_drew ?_ | refine blk_alloc ?_ _)); exact BK128.out))⟩; have n3_ : Aside0 (Below w.heap.size w w76) := ⟨(by rw [hw]; exact (by repeat (first | (with_reducible first | exact HB.out | apply below_alloc | apply pw_below_drewN | apply below_drew1 | refine below_set ?_ GE128.out) | exact HB.out)))⟩; clear hw; clear HO_5; clear HO127; clear BK128; clear HB; have HO_5 := n0_; have HO127 := n1_; have BK128 := n2_; have HB := n3_; clear n0_ n1_ n2_ n3_; have hcz77_0 : w76.cell? ⟨gb128, 0, none⟩ = some (.int .i64 t118) := (blk_cell BK128.out 0).trans rfl; have hcz77_1 : w76.cell? ⟨gb128, 1, none⟩ = some (.int .i64 t119) := (blk_cell BK128.out 1).trans rfl; have hcz77_2 : w76.cell? ⟨gb128, 2, none⟩ = some (.bool t120) := (blk_cell BK128.out 2).trans rfl; have hcz77_3 : w76.cell? ⟨gb128, 3, none⟩ = some (.bool t121) := (blk_cell BK128.out 3).trans rfl; have hcz77_4 : w76.cell? ⟨gb128, 4, none⟩ = some (.string t122) := (blk_cell BK128.out 4).trans rfl; have hcz77_5 : w76.cell? ⟨gb128, 5, none⟩ = some (.string t123) := (blk_cell BK128.out 5).trans rfl; have hcz77_6 : w76.cell? ⟨gb128, 6, none⟩ = some (.string t124) := (blk_cell BK128.out 6).trans rfl; have hcz77_7 : w76.cell? ⟨gb128, 7, none⟩ = some (.slice Ao75 t125.length co75) := (blk_cell BK128.out 7).trans rfl; have hfz77_0 := blk_frozen BK128.out 0; have hfz77_1 := blk_frozen BK128.out 1; have hfz77_2 := blk_frozen BK128.out 2; have hfz77_3 := blk_frozen BK128.out 3; have hfz77_4 := blk_frozen BK128.out 4; have hfz77_5 := blk_frozen BK128.out 5; have hfz77_6 := blk_frozen BK128.out 6; have hfz77_7 := blk_frozen BK128.out 7; have p129 : 0 ≤ (0 : Int) := (by omega); have q129 : 0 < (t125.length : Int) := of_decide_eq_true (by first | (with_reducible assumption) | assumption); obtain ⟨ad129, A129_7, c129_7, e129, hx129_0, hx129_1, hx129_2, hx129_3, hx129_4, hx129_5, hx129_6, hx129_7, hl129_7, hi129_7⟩ := at_T27 (Kd.R_reads' HO127.out).2.2 0 p129 q129; cases e129; obtain ⟨ce129, hce129, hMe129, hcc129⟩ := Kd.R_get HO127.out z27 0 p129 (by first | exact q129 | exact of_decide_eq_true (by first | (with_reducible assumption) | assumption) | (have e_ := (Kd.R_reads' HO127.out).1; omega)); obtain ⟨ve129_7, rfl, ge129_7⟩ := k27_openM hMe129; have hv129_7 := hcc129 7 _ rfl; rw [add_field _ _ 7 (by omega)] at hv129_7; replace hv129_7 := Option.some.inj (hv129_7.symm.trans hx129_7); rw [hv129_7] at ge129_7; have HL129_7 := Aside0.mk (show Kd.R k27 27 _ _ _ _ ((rd_T27 t125 0).f7) from ge129_7); clear hv129_7 ge129_7; clear hcc129 hce129; have qi129 : (0 < t125.length) = True := eq_true (by omega); (try rw [show ((0 : Int)).toNat = 0 from rfl] at hx129_0); (try rw [show 0 * 8 = 0 from rfl] at hx129_0); (try rw [Addr.add_zero'] at hx129_0); (try rw [show ((0 : Int)).toNat = 0 from rfl] at hx129_1); (try rw [show 0 * 8 = 0 from rfl] at hx129_1); (try rw [Addr.add_zero'] at hx129_1); (try rw [show ((0 : Int)).toNat = 0 from rfl] at hx129_2); (try rw [show 0 * 8 = 0 from rfl] at hx129_2); (try rw [Addr.add_zero'] at hx129_2); (try rw [show ((0 : Int)).toNat = 0 from rfl] at hx129_3); (try rw [show 0 * 8 = 0 from rfl] at hx129_3); (try rw [Addr.add_zero'] at hx129_3); (try rw [show ((0 : Int)).toNat = 0 from rfl] at hx129_4); (try rw [show 0 * 8 = 0 from rfl] at hx129_4); (try rw [Addr.add_zero'] at hx129_4); (try rw [show ((0 : Int)).toNat = 0 from rfl] at hx129_5); (try rw [show 0 * 8 = 0 from rfl] at hx129_5); (try rw [Addr.add_zero'] at hx129_5); (try rw [show ((0 : Int)).toNat = 0 from rfl] at hx129_6); (try rw [show 0 * 8 = 0 from rfl] at hx129_6); (try rw [Addr.add_zero'] at hx129_6); (try rw [show ((0 : Int)).toNat = 0 from rfl] at hx129_7); (try rw [show 0 * 8 = 0 from rfl] at hx129_7); (try rw [Addr.add_zero'] at hx129_7); have HR129_7 := Aside0.mk hi129_7; have HC129_7 := Aside0.mk hl129_7; clear hi129_7 hl129_7; replace p129 := eq_true p129; replace q129 := eq_true q129))
                                go_ret
                                exact ⟨by first | rfl | (simp [errW_none, errW_some] <;> rfl) | (simp [*, errW_none, errW_some] <;> rfl), by repeat (first | (with_reducible first | exact HB.out | apply below_alloc | apply pw_below_drewN | apply below_drew1 | refine below_set ?_ GE128.out) | exact HB.out)⟩
                            · rw [if_neg c44] at H
                              exact absurd H (by simp)
                          · rw [if_neg c43] at H
                            have c43b0 : ((t125.length : Int) == 1) = false := beq_eq_false_iff_ne.mpr c43
                            have c43b1 : ((t125.length : Int) != 1) = true := bne_iff_ne.mpr c43
                            obtain rfl := Option.some.inj H
                            obtain ⟨Ao78, co78, eo78⟩ := Kd.R_slice HO_5.out
                            subst eo78
                            go_wp2_with (first | ((with_reducible refine gate_callee (f := 14) rfl ?_); refine goesL_ (some 101) rfl rfl Tryz.func14 (by kernel_rfl) rfl #[.slice Ao78 x5_4.length co78] rfl (by (try simp only [List.map_toArray, List.map_cons, List.map_nil]); first | done | rfl | (simp only [List.length_drop, List.length_take]; rfl)) ?_; (with_reducible refine (block_Parse.calls _ _ x5_4 t118 t119 t120 t121 t122 t123 t124 t125 _ ?side1 ?side2 ?side3 A42.out).mono ?_); (case side1 => first | (with_reducible exact hG) | (refine GL.below hG ?_; (repeat (first | (with_reducible first | exact HB.out | apply below_alloc | apply pw_below_drewN | apply below_drew1) | exact HB.out)); done) | (refine GL.drawn hG ?_; (repeat (first | exact Drawn0.refl _ | apply Drawn0.step)); done) | exact hG); (case side2 => repeat (first | exact (Kd.R_reads' HO_5.out).2.2 | (with_reducible refine Kd.C_alloc ?_ _) | (with_reducible refine Kd.C_drewN ?_ _) | (with_reducible refine Kd.C_drew ?_))); (case side3 => exact (Kd.R_reads' HO_5.out).2.1); rintro e w79 ⟨v126, rfl, ho0, hb⟩; refine ⟨_, rfl, ?_⟩; have n0_ := Aside0.mk (Kd.R_below (by (with_reducible repeat (first | apply Kd.R_alloc | apply Kd.R_drewN | apply Kd.R_drew)); exact HO_5.out) hb); have n1_ := Aside0.mk (Kd.R_lower ho0 (below_size (by repeat (first | (with_reducible first | exact HB.out | apply below_alloc | apply pw_below_drewN | apply below_drew1) | exact HB.out)))); have n2_ := Aside0.mk (below_step (by repeat (first | (with_reducible first | exact HB.out | apply below_alloc | apply pw_below_drewN | apply below_drew1) | exact HB.out)) hb); clear HO_5; clear HB; have HO_5 := n0_; have HO127 := n1_; have HB := n2_; clear n0_ n1_ n2_; (try clear hb); (try clear hb2); (try clear hk); (try clear hi); (try clear ho0)) | ((with_reducible refine gate_dst (N := 13) rfl ?_); (try (refine gate_guard (by rfl) ?_; dsimp only)); refine box_event ?hg (N := 13) ?hd (cs := #[.int .i64 0, .int .i64 0, .bool false, .bool false, .string (⟨#[]⟩ : ByteArray), .string (⟨#[]⟩ : ByteArray), .string (⟨#[]⟩ : ByteArray), .slice none 0 0]) (t := 27) ?hr ?_; (case hd => rfl); (case hg => rfl); (case hr => first | (go_simp; done) | (go_simp; rfl)); intro gb128 hg w80 hbox hb; have n0_ := Aside0.mk (Kd.R_below (by (with_reducible repeat (first | apply Kd.R_alloc | apply Kd.R_drewN | apply Kd.R_drew)); exact HO_5.out) hb); have n1_ := Aside0.mk (Kd.R_below (Kd.R_elderB (by (with_reducible repeat (first | apply Kd.R_alloc | apply Kd.R_drewN | apply Kd.R_drew)); exact HO127.out) gb128 (Nat.le_of_eq hg.symm)) hb); have n2_ := Aside0.mk (below_step (by repeat (first | (with_reducible first | exact HB.out | apply below_alloc | apply pw_below_drewN | apply below_drew1) | exact HB.out)) hb); have n3_ := Aside0.mk (hbox); have n4_ := Aside0.mk ((by rw [hg]; exact (below_size (by repeat (first | (with_reducible first | exact HB.out | apply below_alloc | apply pw_below_drewN | apply below_drew1) | exact HB.out))) : w.heap.size ≤ gb128)); have n5_ := Aside0.mk ((by rw [hg]; exact (below_size (by repeat (first | (with_reducible first | exact HB.out | apply below_alloc | apply pw_below_drewN | apply below_drew1) | exact HB.out))) : w.heap.size ≤ gb128)); clear HO_5; clear HO127; clear HB; have HO_5 := n0_; have HO127 := n1_; have HB := n2_; have BK128 := n3_; have GW128 := n4_; have GE128 := n5_; clear n0_ n1_ n2_ n3_ n4_ n5_; clear hb hbox hg; have hcz81_0 : w80.cell? ⟨gb128, 0, none⟩ = some (.int .i64 0) := (blk_cell BK128.out 0).trans rfl; have hcz81_1 : w80.cell? ⟨gb128, 1, none⟩ = some (.int .i64 0) := (blk_cell BK128.out 1).trans rfl; have hcz81_2 : w80.cell? ⟨gb128, 2, none⟩ = some (.bool false) := (blk_cell BK128.out 2).trans rfl; have hcz81_3 : w80.cell? ⟨gb128, 3, none⟩ = some (.bool false) := (blk_cell BK128.out 3).trans rfl; have hcz81_4 : w80.cell? ⟨gb128, 4, none⟩ = some (.string (⟨#[]⟩ : ByteArray)) := (blk_cell BK128.out 4).trans rfl; have hcz81_5 : w80.cell? ⟨gb128, 5, none⟩ = some (.string (⟨#[]⟩ : ByteArray)) := (blk_cell BK128.out 5).trans rfl; have hcz81_6 : w80.cell? ⟨gb128, 6, none⟩ = some (.string (⟨#[]⟩ : ByteArray)) := (blk_cell BK128.out 6).trans rfl; have hcz81_7 : w80.cell? ⟨gb128, 7, none⟩ = some (.slice none 0 0) := (blk_cell BK128.out 7).trans rfl; have hfz81_0 := blk_frozen BK128.out 0; have hfz81_1 := blk_frozen BK128.out 1; have hfz81_2 := blk_frozen BK128.out 2; have hfz81_3 := blk_frozen BK128.out 3; have hfz81_4 := blk_frozen BK128.out 4; have hfz81_5 := blk_frozen BK128.out 5; have hfz81_6 := blk_frozen BK128.out 6; have hfz81_7 := blk_frozen BK128.out 7; obtain ⟨Ao82, co82, eo82⟩ := Kd.R_slice HO127.out; subst eo82))
                            go_ret
                            exact ⟨by first | rfl | (simp [errW_none, errW_some] <;> rfl) | (simp [*, errW_none, errW_some] <;> rfl), by repeat (first | (with_reducible first | exact HB.out | apply below_alloc | apply pw_below_drewN | apply below_drew1 | refine below_set ?_ GE128.out) | exact HB.out)⟩
end Go.Proofs.YtpimcdkhjingjaaGreatDoor.PLCo
