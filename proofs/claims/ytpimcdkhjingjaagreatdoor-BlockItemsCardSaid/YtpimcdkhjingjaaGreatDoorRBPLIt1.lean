/- A merged text (wip/mkclaim.py). -/
import Derived.Lib.Hide
import Derived.Test.YtpimcdkhjingjaaGreatDoorRBR
import Derived.Test.YtpimcdkhjingjaaGreatDoorRBS
import Derived.Test.YtpimcdkhjingjaaGreatDoorRBP
set_option linter.unusedVariables false
set_option linter.unusedSimpArgs false
set_option linter.unusedSectionVars false
namespace Go.Proofs.YtpimcdkhjingjaaGreatDoor.PLIt
open Go.RowKit Go.Proofs.YtpimcdkhjingjaaGreatDoorW.PrintWords Go.Proofs.YtpimcdkhjingjaaGreatDoorW.PrintLast Go.Proofs.YtpimcdkhjingjaaGreatDoorW.PrintMore Go.Proofs.YtpimcdkhjingjaaGreatDoor.X Go.Proofs.YtpimcdkhjingjaaGreatDoor.PBlk
attribute [local go_sem] max2_int min2_int max_two min_two max_three min_three max_four min_four
set_option linter.unusedVariables false
set_option linter.unusedSimpArgs false
mutual
def rubricatorlaw19_BlockItems.j0 : Nat → List ByteArray → Int → Bool → Option (Bool)
  | 0, _, _, _ => none
  | k + 1, x0, x1, x32 => if x32 = true then (some true) else ((some (([(⟨#[45, 32]⟩ : ByteArray), (⟨#[43, 32]⟩ : ByteArray), (⟨#[49, 46, 32]⟩ : ByteArray), (⟨#[55, 41, 32]⟩ : ByteArray), (⟨#[49, 50, 51, 52, 53, 54, 55, 56, 57, 46, 32]⟩ : ByteArray)] : List ByteArray) : List ByteArray)).bind fun y104 => (if (y104.length : Int) = 0 then (none) else (if 0 ≤ (Int.tmod (Go.bits .and .i64 x1 1023) (y104.length : Int)) then (if (Int.tmod (Go.bits .and .i64 x1 1023) (y104.length : Int)) < (y104.length : Int) then (if 0 ≤ ((rdOf ByteArray.empty y104 (Int.tmod (Go.bits .and .i64 x1 1023) (y104.length : Int))).size : Int) then (if ((rdOf ByteArray.empty y104 (Int.tmod (Go.bits .and .i64 x1 1023) (y104.length : Int))).size : Int) ≤ 12 then (rubricatorlaw19_BlockItems.l0 k x0 (rdOf ByteArray.empty y104 (Int.tmod (Go.bits .and .i64 x1 1023) (y104.length : Int))) ((⟨#[32, 32, 32, 32, 32, 32, 32, 32, 32, 32, 32, 32]⟩ : ByteArray).extract 0 (((rdOf ByteArray.empty y104 (Int.tmod (Go.bits .and .i64 x1 1023) (y104.length : Int))).size : Int) : Int).toNat) ([] : List ByteArray) 0) else (none)) else (none)) else (none)) else (none))))
def rubricatorlaw19_BlockItems.l0 : Nat → List ByteArray → ByteArray → ByteArray → List ByteArray → Int → Option (Bool)
  | 0, _, _, _, _, _ => none
  | k + 1, x0, x6, x7, x8, x9 => if x9 < (x0.length : Int) then (rubricatorlaw19_BlockItems.l1 k x0 x6 x7 x8 x9 0) else ((block_Parse.f x8).bind fun bt119 => ((block_Parse.f x0).bind fun bt129 => (if (bt119.2.2.2.2.2.2.2.length : Int) = 1 then (if 0 < (bt119.2.2.2.2.2.2.2.length : Int) then (rubricatorlaw19_BlockItems.j3 k x8 (((rd_T27 bt119.2.2.2.2.2.2.2 0).f0) != 7) bt119.1 bt119.2.1 bt119.2.2.1 bt119.2.2.2.1 bt119.2.2.2.2.1 bt119.2.2.2.2.2.1 bt119.2.2.2.2.2.2.1 bt119.2.2.2.2.2.2.2 bt129.1 bt129.2.1 bt129.2.2.1 bt129.2.2.2.1 bt129.2.2.2.2.1 bt129.2.2.2.2.2.1 bt129.2.2.2.2.2.2.1 bt129.2.2.2.2.2.2.2) else (none)) else (rubricatorlaw19_BlockItems.j3 k x8 true bt119.1 bt119.2.1 bt119.2.2.1 bt119.2.2.2.1 bt119.2.2.2.2.1 bt119.2.2.2.2.2.1 bt119.2.2.2.2.2.2.1 bt119.2.2.2.2.2.2.2 bt129.1 bt129.2.1 bt129.2.2.1 bt129.2.2.2.1 bt129.2.2.2.2.1 bt129.2.2.2.2.2.1 bt129.2.2.2.2.2.2.1 bt129.2.2.2.2.2.2.2))))
def rubricatorlaw19_BlockItems.l1 : Nat → List ByteArray → ByteArray → ByteArray → List ByteArray → Int → Int → Option (Bool)
  | 0, _, _, _, _, _, _ => none
  | k + 1, x0, x6, x7, x8, x9, x10 => if 0 ≤ x9 then (if x9 < (x0.length : Int) then (if x10 < ((rdOf ByteArray.empty x0 x9).size : Int) then (if 0 ≤ x10 then (if (bt (rdOf ByteArray.empty x0 x9) x10) = 9 then ((rubricatorlaw19_known.f).bind fun t110 => (some t110)) else (rubricatorlaw19_BlockItems.l1 k x0 x6 x7 x8 x9 (wrap64 (x10 + 1)))) else (none)) else (if x9 = 0 then (if x6.size + (rdOf ByteArray.empty x0 x9).size ≤ 9223372036854775807 then (if x8.length < 8796093022208 then (rubricatorlaw19_BlockItems.l0 k x0 x6 x7 (x8 ++ [x6 ++ (rdOf ByteArray.empty x0 x9)]) (wrap64 (x9 + 1))) else (none)) else (none)) else (if x7.size + (rdOf ByteArray.empty x0 x9).size ≤ 9223372036854775807 then (if x8.length < 8796093022208 then (rubricatorlaw19_BlockItems.l0 k x0 x6 x7 (x8 ++ [x7 ++ (rdOf ByteArray.empty x0 x9)]) (wrap64 (x9 + 1))) else (none)) else (none)))) else (none)) else (none)
def rubricatorlaw19_BlockItems.j3 : Nat → List ByteArray → Bool → Int → Int → Bool → Bool → ByteArray → ByteArray → ByteArray → List (S27) → Int → Int → Bool → Bool → ByteArray → ByteArray → ByteArray → List (S27) → Option (Bool)
  | 0, _, _, _, _, _, _, _, _, _, _, _, _, _, _, _, _, _, _ => none
  | k + 1, x8, x103, x140000, x140001, x140002, x140003, x140004, x140005, x140006, x140007, x141000, x141001, x141002, x141003, x141004, x141005, x141006, x141007 => if x103 = true then (if 0 < (x8.length : Int) then ((rubricatorlaw19_rule.f k (rdOf ByteArray.empty x8 0)).bind fun t143 => (if t143 = true then ((rubricatorlaw19_known.f).bind fun t144 => (some t144)) else (some false))) else (none)) else (if 0 < (x140007.length : Int) then (if (((rd_T27 x140007 0).f7).length : Int) = 1 then (if 0 < (((rd_T27 x140007 0).f7).length : Int) then ((rubricatorlaw19_same.f k 0 0 false false (⟨#[]⟩ : ByteArray) (⟨#[]⟩ : ByteArray) (⟨#[]⟩ : ByteArray) ((rd_T27 ((rd_T27 x140007 0).f7) 0).f7) 0 0 false false (⟨#[]⟩ : ByteArray) (⟨#[]⟩ : ByteArray) (⟨#[]⟩ : ByteArray) x141007).bind fun t148 => (if t148 = true then ((rubricatorlaw19_known.f).bind fun t149 => (some t149)) else (some false))) else (none)) else (some false)) else (none))
end
def rubricatorlaw19_BlockItems.f (k : Nat) (l0 : List ByteArray) (a1 : Int) : Option (Bool) := (rubricatorlaw19_heavy.f k l0).bind fun t101 => (if t101 = true then (rubricatorlaw19_BlockItems.j0 k l0 a1 true) else (if (l0.length : Int) = 0 then (rubricatorlaw19_BlockItems.j0 k l0 a1 true) else (if 0 < (l0.length : Int) then (if (rdOf ByteArray.empty l0 0).toList = ([] : List UInt8) then (rubricatorlaw19_BlockItems.j0 k l0 a1 true) else (if 0 < ((rdOf ByteArray.empty l0 0).size : Int) then (rubricatorlaw19_BlockItems.j0 k l0 a1 ((bt (rdOf ByteArray.empty l0 0) 0) == 32)) else (none))) else (none))))
theorem rubricatorlaw19_BlockItems.mono_l : ∀ k, (∀ y0 y1 y2, LeO (rubricatorlaw19_BlockItems.j0 k y0 y1 y2) (rubricatorlaw19_BlockItems.j0 (k + 1) y0 y1 y2)) ∧ (∀ y0 y1 y2 y3 y4, LeO (rubricatorlaw19_BlockItems.l0 k y0 y1 y2 y3 y4) (rubricatorlaw19_BlockItems.l0 (k + 1) y0 y1 y2 y3 y4)) ∧ (∀ y0 y1 y2 y3 y4 y5, LeO (rubricatorlaw19_BlockItems.l1 k y0 y1 y2 y3 y4 y5) (rubricatorlaw19_BlockItems.l1 (k + 1) y0 y1 y2 y3 y4 y5)) ∧ (∀ y0 y1 y2 y3 y4 y5 y6 y7 y8 y9 y10 y11 y12 y13 y14 y15 y16 y17, LeO (rubricatorlaw19_BlockItems.j3 k y0 y1 y2 y3 y4 y5 y6 y7 y8 y9 y10 y11 y12 y13 y14 y15 y16 y17) (rubricatorlaw19_BlockItems.j3 (k + 1) y0 y1 y2 y3 y4 y5 y6 y7 y8 y9 y10 y11 y12 y13 y14 y15 y16 y17))
  | 0 => ⟨fun _ _ _ r h => by simp [rubricatorlaw19_BlockItems.j0] at h, fun _ _ _ _ _ r h => by simp [rubricatorlaw19_BlockItems.l0] at h, fun _ _ _ _ _ _ r h => by simp [rubricatorlaw19_BlockItems.l1] at h, fun _ _ _ _ _ _ _ _ _ _ _ _ _ _ _ _ _ _ r h => by simp [rubricatorlaw19_BlockItems.j3] at h⟩
  | k + 1 => by
    obtain ⟨ih0, ih1, ih2, ih3⟩ := rubricatorlaw19_BlockItems.mono_l k
    refine ⟨?_, ?_, ?_, ?_⟩
    · intro y0 y1 y2
      unfold rubricatorlaw19_BlockItems.j0
      repeat' first
      | (with_reducible exact ih0 _ _ _)
      | (with_reducible exact ih1 _ _ _ _ _)
      | (with_reducible exact ih2 _ _ _ _ _ _)
      | (with_reducible exact ih3 _ _ _ _ _ _ _ _ _ _ _ _ _ _ _ _ _ _)
      | (with_reducible exact rubricatorlaw19_heavy.mono _ _)
      | (with_reducible exact rubricatorlaw19_rule.mono _ _)
      | (with_reducible exact rubricatorlaw19_same.mono _ _ _ _ _ _ _ _ _ _ _ _ _ _ _ _ _)
      | (with_reducible exact LeO.refl _)
      | (with_reducible exact LeO.none _)
      | (with_reducible refine LeO.ite ?_ ?_)
      | (with_reducible refine LeO.bind ?_ (fun _ => ?_))
      | exact ih0 _ _ _
      | exact ih1 _ _ _ _ _
      | exact ih2 _ _ _ _ _ _
      | exact ih3 _ _ _ _ _ _ _ _ _ _ _ _ _ _ _ _ _ _
      | exact rubricatorlaw19_heavy.mono _ _
      | exact rubricatorlaw19_rule.mono _ _
      | exact rubricatorlaw19_same.mono _ _ _ _ _ _ _ _ _ _ _ _ _ _ _ _ _
      | exact LeO.none _
      | refine LeO.ite ?_ ?_
      | refine LeO.bind ?_ (fun _ => ?_)
    · intro y0 y1 y2 y3 y4
      unfold rubricatorlaw19_BlockItems.l0
      repeat' first
      | (with_reducible exact ih0 _ _ _)
      | (with_reducible exact ih1 _ _ _ _ _)
      | (with_reducible exact ih2 _ _ _ _ _ _)
      | (with_reducible exact ih3 _ _ _ _ _ _ _ _ _ _ _ _ _ _ _ _ _ _)
      | (with_reducible exact rubricatorlaw19_heavy.mono _ _)
      | (with_reducible exact rubricatorlaw19_rule.mono _ _)
      | (with_reducible exact rubricatorlaw19_same.mono _ _ _ _ _ _ _ _ _ _ _ _ _ _ _ _ _)
      | (with_reducible exact LeO.refl _)
      | (with_reducible exact LeO.none _)
      | (with_reducible refine LeO.ite ?_ ?_)
      | (with_reducible refine LeO.bind ?_ (fun _ => ?_))
      | exact ih0 _ _ _
      | exact ih1 _ _ _ _ _
      | exact ih2 _ _ _ _ _ _
      | exact ih3 _ _ _ _ _ _ _ _ _ _ _ _ _ _ _ _ _ _
      | exact rubricatorlaw19_heavy.mono _ _
      | exact rubricatorlaw19_rule.mono _ _
      | exact rubricatorlaw19_same.mono _ _ _ _ _ _ _ _ _ _ _ _ _ _ _ _ _
      | exact LeO.none _
      | refine LeO.ite ?_ ?_
      | refine LeO.bind ?_ (fun _ => ?_)
    · intro y0 y1 y2 y3 y4 y5
      unfold rubricatorlaw19_BlockItems.l1
      repeat' first
      | (with_reducible exact ih0 _ _ _)
      | (with_reducible exact ih1 _ _ _ _ _)
      | (with_reducible exact ih2 _ _ _ _ _ _)
      | (with_reducible exact ih3 _ _ _ _ _ _ _ _ _ _ _ _ _ _ _ _ _ _)
      | (with_reducible exact rubricatorlaw19_heavy.mono _ _)
      | (with_reducible exact rubricatorlaw19_rule.mono _ _)
      | (with_reducible exact rubricatorlaw19_same.mono _ _ _ _ _ _ _ _ _ _ _ _ _ _ _ _ _)
      | (with_reducible exact LeO.refl _)
      | (with_reducible exact LeO.none _)
      | (with_reducible refine LeO.ite ?_ ?_)
      | (with_reducible refine LeO.bind ?_ (fun _ => ?_))
      | exact ih0 _ _ _
      | exact ih1 _ _ _ _ _
      | exact ih2 _ _ _ _ _ _
      | exact ih3 _ _ _ _ _ _ _ _ _ _ _ _ _ _ _ _ _ _
      | exact rubricatorlaw19_heavy.mono _ _
      | exact rubricatorlaw19_rule.mono _ _
      | exact rubricatorlaw19_same.mono _ _ _ _ _ _ _ _ _ _ _ _ _ _ _ _ _
      | exact LeO.none _
      | refine LeO.ite ?_ ?_
      | refine LeO.bind ?_ (fun _ => ?_)
    · intro y0 y1 y2 y3 y4 y5 y6 y7 y8 y9 y10 y11 y12 y13 y14 y15 y16 y17
      unfold rubricatorlaw19_BlockItems.j3
      repeat' first
      | (with_reducible exact ih0 _ _ _)
      | (with_reducible exact ih1 _ _ _ _ _)
      | (with_reducible exact ih2 _ _ _ _ _ _)
      | (with_reducible exact ih3 _ _ _ _ _ _ _ _ _ _ _ _ _ _ _ _ _ _)
      | (with_reducible exact rubricatorlaw19_heavy.mono _ _)
      | (with_reducible exact rubricatorlaw19_rule.mono _ _)
      | (with_reducible exact rubricatorlaw19_same.mono _ _ _ _ _ _ _ _ _ _ _ _ _ _ _ _ _)
      | (with_reducible exact LeO.refl _)
      | (with_reducible exact LeO.none _)
      | (with_reducible refine LeO.ite ?_ ?_)
      | (with_reducible refine LeO.bind ?_ (fun _ => ?_))
      | exact ih0 _ _ _
      | exact ih1 _ _ _ _ _
      | exact ih2 _ _ _ _ _ _
      | exact ih3 _ _ _ _ _ _ _ _ _ _ _ _ _ _ _ _ _ _
      | exact rubricatorlaw19_heavy.mono _ _
      | exact rubricatorlaw19_rule.mono _ _
      | exact rubricatorlaw19_same.mono _ _ _ _ _ _ _ _ _ _ _ _ _ _ _ _ _
      | exact LeO.none _
      | refine LeO.ite ?_ ?_
      | refine LeO.bind ?_ (fun _ => ?_)
theorem rubricatorlaw19_BlockItems.mono : ∀ a0 a1 k, LeO (rubricatorlaw19_BlockItems.f k a0 a1) (rubricatorlaw19_BlockItems.f (k + 1) a0 a1) := by
  intro a0 a1 k
  obtain ⟨ih0, ih1, ih2, ih3⟩ := rubricatorlaw19_BlockItems.mono_l k
  unfold rubricatorlaw19_BlockItems.f
  repeat' first
      | (with_reducible exact ih0 _ _ _)
      | (with_reducible exact ih1 _ _ _ _ _)
      | (with_reducible exact ih2 _ _ _ _ _ _)
      | (with_reducible exact ih3 _ _ _ _ _ _ _ _ _ _ _ _ _ _ _ _ _ _)
      | (with_reducible exact rubricatorlaw19_heavy.mono _ _)
      | (with_reducible exact rubricatorlaw19_rule.mono _ _)
      | (with_reducible exact rubricatorlaw19_same.mono _ _ _ _ _ _ _ _ _ _ _ _ _ _ _ _ _)
      | (with_reducible exact LeO.refl _)
      | (with_reducible exact LeO.none _)
      | (with_reducible refine LeO.ite ?_ ?_)
      | (with_reducible refine LeO.bind ?_ (fun _ => ?_))
      | exact ih0 _ _ _
      | exact ih1 _ _ _ _ _
      | exact ih2 _ _ _ _ _ _
      | exact ih3 _ _ _ _ _ _ _ _ _ _ _ _ _ _ _ _ _ _
      | exact rubricatorlaw19_heavy.mono _ _
      | exact rubricatorlaw19_rule.mono _ _
      | exact rubricatorlaw19_same.mono _ _ _ _ _ _ _ _ _ _ _ _ _ _ _ _ _
      | exact LeO.none _
      | refine LeO.ite ?_ ?_
      | refine LeO.bind ?_ (fun _ => ?_)
def rubricatorlaw19_BlockItems.T21 : Bool × List (List Nat × List Nat) := (true, [([], []), ([0], [0]), ([1], [1]), ([2], [2]), ([3], [3]), ([4], [4]), ([5], [5]), ([6], [6]), ([7], [7]), ([8, 7], [7, 8]), ([9, 7], [7, 9]), ([10, 7], [7, 10]), ([11, 7], [7, 11]), ([12, 7], [7, 12]), ([13, 7], [7, 13]), ([14, 7], [7, 14]), ([15, 7], [7, 15]), ([7], [7]), ([17, 7], [7, 17]), ([18, 7], [7, 18]), ([16, 19, 7, 7], [7, 16, 19]), ([7, 20], [7, 20]), ([21, 20], [21]), ([22, 22], [22]), ([22, 23], [22, 23]), ([24, 23, 0, 1, 2, 3, 4, 5, 6, 7, 8, 9, 10, 11, 12, 13, 14, 15, 16, 17, 18, 19, 20, 21, 22, 23, 24], [24])])
def rubricatorlaw19_BlockItems.B21 : List Nat := [0, 1, 3, 7, 15, 31, 63, 127, 255, 511, 1023, 2047, 4095, 8191, 16383, 32767, 65535, 255, 131327, 393471, 1048575, 2097151, 4194303, 8388607, 16777215, 33554431]
theorem rubricatorlaw19_BlockItems.tab21 : rtab .any (opsOf Tryz.f8 21) = rubricatorlaw19_BlockItems.T21 := by kernel_rfl
theorem rubricatorlaw19_BlockItems.bits21 : waitsOk rubricatorlaw19_BlockItems.T21.2 rubricatorlaw19_BlockItems.B21 = true := by kernel_rfl
set_option maxHeartbeats 8000000 in
set_option maxRecDepth 100000 in
theorem rubricatorlaw19_BlockItems.calls (k : Nat) (A0 : Option Addr) (c0 : Nat) (l0 : List ByteArray) (a1 : Int) (r : Bool) (w : World) (hG : GL w) (hr0 : Kd.C Kd.string w A0 l0.length l0) (hc0 : l0.length ≤ c0) (h : rubricatorlaw19_BlockItems.f k l0 a1 = some r) (hr : Hid (r = true)) :
    Calls Tryz.prog 8 #[.slice A0 l0.length c0, .int .i64 a1] w fun e w' => e = .returned (.bool r) ∧ Below w.heap.size w w' := by
  have hu27 := Tryz.underlying27
  have HR0 := Aside0.mk hr0
  have HC0 := Aside0.mk hc0
  clear hr0 hc0
  have HB := Aside0.mk (Below.refl w.heap.size w)
  have H : ((rubricatorlaw19_heavy.f k l0).bind fun t101 => (if t101 = true then (rubricatorlaw19_BlockItems.j0 k l0 a1 true) else (if (l0.length : Int) = 0 then (rubricatorlaw19_BlockItems.j0 k l0 a1 true) else (if 0 < (l0.length : Int) then (if (rdOf ByteArray.empty l0 0).toList = ([] : List UInt8) then (rubricatorlaw19_BlockItems.j0 k l0 a1 true) else (if 0 < ((rdOf ByteArray.empty l0 0).size : Int) then (rubricatorlaw19_BlockItems.j0 k l0 a1 ((bt (rdOf ByteArray.empty l0 0) 0) == 32)) else (none))) else (none))))) = some r := h
  clear h
  have HC3 := Aside0.mk H
  clear H
  go_enter Tryz.func8, Tryz.ntmps8
  go_upto_region 1 with (fail)
  go_cut [32] (fun v32 wc => ∃ (kq : Nat) (x32_2 : Bool), v32 = .bool x32_2 ∧ Aside0 (rubricatorlaw19_BlockItems.j0 kq l0 a1 x32_2 = some r) ∧ Aside0 (kq ≤ k) ∧ Aside0 (Below w.heap.size w wc))
  case first =>
    have H := HC3.out
    clear HC3
    replace H := Option.bind_eq_some_iff.mp H
    obtain ⟨t101, A40, H⟩ := H
    replace H : (if t101 = true then (rubricatorlaw19_BlockItems.j0 k l0 a1 true) else (if (l0.length : Int) = 0 then (rubricatorlaw19_BlockItems.j0 k l0 a1 true) else (if 0 < (l0.length : Int) then (if (rdOf ByteArray.empty l0 0).toList = ([] : List UInt8) then (rubricatorlaw19_BlockItems.j0 k l0 a1 true) else (if 0 < ((rdOf ByteArray.empty l0 0).size : Int) then (rubricatorlaw19_BlockItems.j0 k l0 a1 ((bt (rdOf ByteArray.empty l0 0) 0) == 32)) else (none))) else (none)))) = some r := H
    have A4 := Aside0.mk A40
    clear A40
    by_cases c5 : t101 = true
    · subst c5
      have H1 : (rubricatorlaw19_BlockItems.j0 k l0 a1 true) = some r := by rw [if_pos rfl] at H; exact H
      clear H
      have H := H1
      clear H1
      have H' := Aside0.mk H
      clear H
      go_wp2_with (first | ((with_reducible refine gate_callee (f := 12) rfl ?_); refine goesL_ (some 14) rfl rfl Tryz.func12 (by kernel_rfl) rfl #[.slice A0 l0.length c0] rfl (by (try simp only [List.map_toArray, List.map_cons, List.map_nil]); first | done | rfl | (simp only [List.length_drop, List.length_take]; rfl)) ?_; (with_reducible refine (rubricatorlaw19_heavy.calls k _ _ l0 true _ ?side1 ?side2 A4.out).mono ?_); (case side1 => repeat (first | exact (Kd.C_below HR0.out HB.out) | (with_reducible refine Kd.C_alloc ?_ _) | (with_reducible refine Kd.C_drewN ?_ _) | (with_reducible refine Kd.C_drew ?_))); (case side2 => exact HC0.out); rintro e w' ⟨rfl, ⟨nd, rfl⟩⟩; refine ⟨_, rfl, ?_⟩))
      go_meet
      case rel => exact ⟨_, (true), (by first | rfl | (simp; done) | (simp [*]; done)), H', ⟨by first | omega | exact Nat.le_refl _⟩, ⟨by repeat (first | (with_reducible first | exact HB.out | apply below_alloc | apply pw_below_drewN | apply below_drew1) | exact HB.out)⟩⟩
    · replace c5 := Bool.eq_false_iff.mpr c5
      subst c5
      have H1 : (if (l0.length : Int) = 0 then (rubricatorlaw19_BlockItems.j0 k l0 a1 true) else (if 0 < (l0.length : Int) then (if (rdOf ByteArray.empty l0 0).toList = ([] : List UInt8) then (rubricatorlaw19_BlockItems.j0 k l0 a1 true) else (if 0 < ((rdOf ByteArray.empty l0 0).size : Int) then (rubricatorlaw19_BlockItems.j0 k l0 a1 ((bt (rdOf ByteArray.empty l0 0) 0) == 32)) else (none))) else (none))) = some r := by rw [if_neg (show ¬ (false = true) by decide)] at H; exact H
      clear H
      have H := H1
      clear H1
      by_cases c6 : (l0.length : Int) = 0
      · rw [if_pos c6] at H
        have c6b0 : ((l0.length : Int) == 0) = true := beq_iff_eq.mpr c6
        have c6b1 : ((l0.length : Int) != 0) = false := bne_eq_false_iff_eq.mpr c6
        clear c6
        (first | rw [c6b0] | (simp only [i64_w, i32_w]; rw [c6b0]) | skip)
        have H' := Aside0.mk H
        clear H
        go_wp2_with (first | ((with_reducible refine gate_callee (f := 12) rfl ?_); refine goesL_ (some 14) rfl rfl Tryz.func12 (by kernel_rfl) rfl #[.slice A0 l0.length c0] rfl (by (try simp only [List.map_toArray, List.map_cons, List.map_nil]); first | done | rfl | (simp only [List.length_drop, List.length_take]; rfl)) ?_; (with_reducible refine (rubricatorlaw19_heavy.calls k _ _ l0 false _ ?side1 ?side2 A4.out).mono ?_); (case side1 => repeat (first | exact (Kd.C_below HR0.out HB.out) | (with_reducible refine Kd.C_alloc ?_ _) | (with_reducible refine Kd.C_drewN ?_ _) | (with_reducible refine Kd.C_drew ?_))); (case side2 => exact HC0.out); rintro e w' ⟨rfl, ⟨nd, rfl⟩⟩; refine ⟨_, rfl, ?_⟩))
        go_meet
        case rel => exact ⟨_, (true), (by first | rfl | (simp; done) | (simp [*]; done)), H', ⟨by first | omega | exact Nat.le_refl _⟩, ⟨by repeat (first | (with_reducible first | exact HB.out | apply below_alloc | apply pw_below_drewN | apply below_drew1) | exact HB.out)⟩⟩
      · rw [if_neg c6] at H
        have c6b0 : ((l0.length : Int) == 0) = false := beq_eq_false_iff_ne.mpr c6
        have c6b1 : ((l0.length : Int) != 0) = true := bne_iff_ne.mpr c6
        have c6b2 : ¬ (l0 = []) := fun h_ => c6 (by rw [h_]; rfl)
        (first | rw [c6b0] | (simp only [i64_w, i32_w]; rw [c6b0]) | skip)
        by_cases c7 : 0 < (l0.length : Int)
        case neg => rw [if_neg c7] at H; exact absurd H (by simp)
        rw [if_pos c7] at H
        have c7b0 : decide (0 < (l0.length : Int)) = true := decide_eq_true c7
        have c7b1 : decide (0 < l0.length) = true := decide_eq_true (by omega)
        clear c7
        by_cases c8 : (rdOf ByteArray.empty l0 0).toList = ([] : List UInt8)
        · rw [if_pos c8] at H
          have c8b0 : ((rdOf ByteArray.empty l0 0).toList == ([] : List UInt8)) = true := beq_iff_eq.mpr c8
          have c8b1 : ((rdOf ByteArray.empty l0 0).toList != ([] : List UInt8)) = false := bne_eq_false_iff_eq.mpr c8
          clear c8
          have H' := Aside0.mk H
          clear H
          go_wp2_with (first | ((with_reducible refine gate_callee (f := 12) rfl ?_); refine goesL_ (some 14) rfl rfl Tryz.func12 (by kernel_rfl) rfl #[.slice A0 l0.length c0] rfl (by (try simp only [List.map_toArray, List.map_cons, List.map_nil]); first | done | rfl | (simp only [List.length_drop, List.length_take]; rfl)) ?_; (with_reducible refine (rubricatorlaw19_heavy.calls k _ _ l0 false _ ?side1 ?side2 A4.out).mono ?_); (case side1 => repeat (first | exact (Kd.C_below HR0.out HB.out) | (with_reducible refine Kd.C_alloc ?_ _) | (with_reducible refine Kd.C_drewN ?_ _) | (with_reducible refine Kd.C_drew ?_))); (case side2 => exact HC0.out); rintro e w' ⟨rfl, ⟨nd, rfl⟩⟩; refine ⟨_, rfl, ?_⟩; have p102 : 0 ≤ (0 : Int) := (by omega); have q102 : 0 < (l0.length : Int) := of_decide_eq_true (by first | (with_reducible assumption) | assumption); obtain ⟨ad102, e102, hx102_0⟩ := Kd.at_string HR0.out 0 p102 q102; cases e102; have qi102 : (0 < l0.length) = True := eq_true (by omega); (try rw [show ((0 : Int)).toNat = 0 from rfl] at hx102_0); (try rw [Addr.add_zero'] at hx102_0); replace hx102_0 := (HB.out.cell (World.block_lt_of_cell? w _ hx102_0)).trans hx102_0; replace p102 := eq_true p102; replace q102 := eq_true q102))
          go_meet
          case rel => exact ⟨_, (true), (by first | rfl | (simp; done) | (simp [*]; done)), H', ⟨by first | omega | exact Nat.le_refl _⟩, ⟨by repeat (first | (with_reducible first | exact HB.out | apply below_alloc | apply pw_below_drewN | apply below_drew1) | exact HB.out)⟩⟩
        · rw [if_neg c8] at H
          have c8b0 : ((rdOf ByteArray.empty l0 0).toList == ([] : List UInt8)) = false := beq_eq_false_iff_ne.mpr c8
          have c8b1 : ((rdOf ByteArray.empty l0 0).toList != ([] : List UInt8)) = true := bne_iff_ne.mpr c8
          by_cases c9 : 0 < ((rdOf ByteArray.empty l0 0).size : Int)
          case neg => rw [if_neg c9] at H; exact absurd H (by simp)
          rw [if_pos c9] at H
          have c9b0 : decide (0 < ((rdOf ByteArray.empty l0 0).size : Int)) = true := decide_eq_true c9
          have c9b1 : decide (0 < (rdOf ByteArray.empty l0 0).size) = true := decide_eq_true (by omega)
          clear c9
          have H' := Aside0.mk H
          clear H
          go_wp2_with (first | ((with_reducible refine gate_callee (f := 12) rfl ?_); refine goesL_ (some 14) rfl rfl Tryz.func12 (by kernel_rfl) rfl #[.slice A0 l0.length c0] rfl (by (try simp only [List.map_toArray, List.map_cons, List.map_nil]); first | done | rfl | (simp only [List.length_drop, List.length_take]; rfl)) ?_; (with_reducible refine (rubricatorlaw19_heavy.calls k _ _ l0 false _ ?side1 ?side2 A4.out).mono ?_); (case side1 => repeat (first | exact (Kd.C_below HR0.out HB.out) | (with_reducible refine Kd.C_alloc ?_ _) | (with_reducible refine Kd.C_drewN ?_ _) | (with_reducible refine Kd.C_drew ?_))); (case side2 => exact HC0.out); rintro e w' ⟨rfl, ⟨nd, rfl⟩⟩; refine ⟨_, rfl, ?_⟩; have p102 : 0 ≤ (0 : Int) := (by omega); have q102 : 0 < (l0.length : Int) := of_decide_eq_true (by first | (with_reducible assumption) | assumption); obtain ⟨ad102, e102, hx102_0⟩ := Kd.at_string HR0.out 0 p102 q102; cases e102; have qi102 : (0 < l0.length) = True := eq_true (by omega); (try rw [show ((0 : Int)).toNat = 0 from rfl] at hx102_0); (try rw [Addr.add_zero'] at hx102_0); replace hx102_0 := (HB.out.cell (World.block_lt_of_cell? w _ hx102_0)).trans hx102_0; replace p102 := eq_true p102; replace q102 := eq_true q102; have p103 : 0 ≤ (0 : Int) := (by omega); have q103 : 0 < (l0.length : Int) := of_decide_eq_true (by first | (with_reducible assumption) | assumption); obtain ⟨ad103, e103, hx103_0⟩ := Kd.at_string HR0.out 0 p103 q103; obtain rfl : ad102 = ad103 := (by injection e103); have qi103 : (0 < l0.length) = True := eq_true (by omega); (try rw [show ((0 : Int)).toNat = 0 from rfl] at hx103_0); (try rw [Addr.add_zero'] at hx103_0); replace hx103_0 := (HB.out.cell (World.block_lt_of_cell? w _ hx103_0)).trans hx103_0; replace p103 := eq_true p103; replace q103 := eq_true q103; have p10 : 0 ≤ (0 : Int) := (by omega); have q10 : 0 < (rdOf ByteArray.empty l0 0).size := (by have : (0 : Int) < ((rdOf ByteArray.empty l0 0).size : Int) := of_decide_eq_true (by first | (with_reducible assumption) | assumption); omega); have hx10 : ∀ h : 0 < (rdOf ByteArray.empty l0 0).size, (((rdOf ByteArray.empty l0 0)[0]'h).toNat : Int) = bt (rdOf ByteArray.empty l0 0) 0 := bt_at (rdOf ByteArray.empty l0 0) 0; clear p10; have qi10 : (0 < ((rdOf ByteArray.empty l0 0).size : Int)) = True := eq_true (of_decide_eq_true (by first | (with_reducible assumption) | assumption)); replace q10 := eq_true q10))
          go_meet
          case rel => exact ⟨_, (((bt (rdOf ByteArray.empty l0 0) 0) == 32)), (by first | rfl | (simp; done) | (simp [*]; done)), H', ⟨by first | omega | exact Nat.le_refl _⟩, ⟨by repeat (first | (with_reducible first | exact HB.out | apply below_alloc | apply pw_below_drewN | apply below_drew1) | exact HB.out)⟩⟩
  case rest =>
    clear HC3
    try clear c1
    try clear p1
    try clear q1
    try clear hx1
    try clear qi1
    try clear p2
    try clear c5
    try clear c6
    try clear c6b0
    try clear c6b1
    try clear c6b2
    try clear c7
    try clear c7b0
    try clear c7b1
    try clear c8
    try clear c8b0
    try clear c8b1
    try clear c9
    try clear c9b0
    try clear c9b1
    try clear p10
    try clear q10
    try clear hx10
    try clear qi10
    try clear hx102_0
    try clear hx103_0
    try clear p10
    try clear p102
    try clear p103
    try clear q10
    try clear q102
    try clear q103
    obtain ⟨kq, x32_2, rfl, HA, HJ2, HB⟩ := hcut
    cases kq with
    | zero => exact absurd HA.out (by simp [rubricatorlaw19_BlockItems.j0])
    | succ kj2 =>
      have H := HA.out
      clear HA
      simp only [rubricatorlaw19_BlockItems.j0] at H
      by_cases c11 : x32_2 = true
      · subst c11
        have H1 : (some true) = some r := by rw [if_pos rfl] at H; exact H
        clear H
        have H := H1
        clear H1
        obtain rfl := Option.some.inj H
        go_wp2
        go_ret
        exact ⟨by first | rfl | (simp [errW_none, errW_some] <;> rfl) | (simp [*, errW_none, errW_some] <;> rfl), by repeat (first | (with_reducible first | exact HB.out | apply below_alloc | apply pw_below_drewN | apply below_drew1) | exact HB.out)⟩
      · replace c11 := Bool.eq_false_iff.mpr c11
        subst c11
        have H1 : ((some (([(⟨#[45, 32]⟩ : ByteArray), (⟨#[43, 32]⟩ : ByteArray), (⟨#[49, 46, 32]⟩ : ByteArray), (⟨#[55, 41, 32]⟩ : ByteArray), (⟨#[49, 50, 51, 52, 53, 54, 55, 56, 57, 46, 32]⟩ : ByteArray)] : List ByteArray) : List ByteArray)).bind fun y104 => (if (y104.length : Int) = 0 then (none) else (if 0 ≤ (Int.tmod (Go.bits .and .i64 a1 1023) (y104.length : Int)) then (if (Int.tmod (Go.bits .and .i64 a1 1023) (y104.length : Int)) < (y104.length : Int) then (if 0 ≤ ((rdOf ByteArray.empty y104 (Int.tmod (Go.bits .and .i64 a1 1023) (y104.length : Int))).size : Int) then (if ((rdOf ByteArray.empty y104 (Int.tmod (Go.bits .and .i64 a1 1023) (y104.length : Int))).size : Int) ≤ 12 then (rubricatorlaw19_BlockItems.l0 kj2 l0 (rdOf ByteArray.empty y104 (Int.tmod (Go.bits .and .i64 a1 1023) (y104.length : Int))) ((⟨#[32, 32, 32, 32, 32, 32, 32, 32, 32, 32, 32, 32]⟩ : ByteArray).extract 0 (((rdOf ByteArray.empty y104 (Int.tmod (Go.bits .and .i64 a1 1023) (y104.length : Int))).size : Int) : Int).toNat) ([] : List ByteArray) 0) else (none)) else (none)) else (none)) else (none)))) = some r := by rw [if_neg (show ¬ (false = true) by decide)] at H; exact H
        clear H
        have H := H1
        clear H1
        obtain ⟨y104, hy104⟩ : ∃ y_ : List ByteArray, y_ = (([(⟨#[45, 32]⟩ : ByteArray), (⟨#[43, 32]⟩ : ByteArray), (⟨#[49, 46, 32]⟩ : ByteArray), (⟨#[55, 41, 32]⟩ : ByteArray), (⟨#[49, 50, 51, 52, 53, 54, 55, 56, 57, 46, 32]⟩ : ByteArray)] : List ByteArray)) := ⟨_, rfl⟩
        replace H : (if (y104.length : Int) = 0 then (none) else (if 0 ≤ (Int.tmod (Go.bits .and .i64 a1 1023) (y104.length : Int)) then (if (Int.tmod (Go.bits .and .i64 a1 1023) (y104.length : Int)) < (y104.length : Int) then (if 0 ≤ ((rdOf ByteArray.empty y104 (Int.tmod (Go.bits .and .i64 a1 1023) (y104.length : Int))).size : Int) then (if ((rdOf ByteArray.empty y104 (Int.tmod (Go.bits .and .i64 a1 1023) (y104.length : Int))).size : Int) ≤ 12 then (rubricatorlaw19_BlockItems.l0 kj2 l0 (rdOf ByteArray.empty y104 (Int.tmod (Go.bits .and .i64 a1 1023) (y104.length : Int))) ((⟨#[32, 32, 32, 32, 32, 32, 32, 32, 32, 32, 32, 32]⟩ : ByteArray).extract 0 (((rdOf ByteArray.empty y104 (Int.tmod (Go.bits .and .i64 a1 1023) (y104.length : Int))).size : Int) : Int).toNat) ([] : List ByteArray) 0) else (none)) else (none)) else (none)) else (none))) = some r := by first | (rw [hy104]; with_reducible exact H) | (have H2_ := (Option.bind_some _ _).symm.trans H; rw [hy104]; with_reducible exact H2_) | (have H2_ := (Option.bind_some _ _).symm.trans H; with_reducible exact H2_) | with_reducible exact H | (rw [hy104]; exact H) | exact H
        have Ny104 := Aside0.mk hy104
        clear hy104
        by_cases c12 : (y104.length : Int) = 0
        · rw [if_pos c12] at H
          exact absurd H (by simp)
        · rw [if_neg c12] at H
          have c12b0 : ((y104.length : Int) == 0) = false := beq_eq_false_iff_ne.mpr c12
          have c12b1 : ((y104.length : Int) != 0) = true := bne_iff_ne.mpr c12
          have c12b2 : ¬ (y104 = []) := fun h_ => c12 (by rw [h_]; rfl)
          obtain ⟨ji13, hji13⟩ : ∃ j_ : Int, (Int.tmod (Go.bits .and .i64 a1 1023) (y104.length : Int)) = j_ := ⟨_, rfl⟩
          replace H : (if 0 ≤ (ji13) then (if (ji13) < (y104.length : Int) then (if 0 ≤ ((rdOf ByteArray.empty y104 (ji13)).size : Int) then (if ((rdOf ByteArray.empty y104 (ji13)).size : Int) ≤ 12 then (rubricatorlaw19_BlockItems.l0 kj2 l0 (rdOf ByteArray.empty y104 (ji13)) ((⟨#[32, 32, 32, 32, 32, 32, 32, 32, 32, 32, 32, 32]⟩ : ByteArray).extract 0 (((rdOf ByteArray.empty y104 (ji13)).size : Int) : Int).toNat) ([] : List ByteArray) 0) else (none)) else (none)) else (none)) else (none)) = some r := by first | (rw [hji13] at H; exact H) | (simp only [hji13] at H ⊢; exact H)
          by_cases c14 : 0 ≤ (ji13)
          case neg => rw [if_neg c14] at H; exact absurd H (by simp)
          rw [if_pos c14] at H
          have c14b0 : decide (0 ≤ (ji13)) = true := decide_eq_true c14
          clear c14
          by_cases c15 : (ji13) < (y104.length : Int)
          case neg => rw [if_neg c15] at H; exact absurd H (by simp)
          rw [if_pos c15] at H
          have c15b0 : decide ((ji13) < (y104.length : Int)) = true := decide_eq_true c15
          clear c15
          by_cases c16 : 0 ≤ ((rdOf ByteArray.empty y104 (ji13)).size : Int)
          case neg => rw [if_neg c16] at H; exact absurd H (by simp)
          rw [if_pos c16] at H
          have c16b0 := eq_true c16
          have c16b1 : decide (0 ≤ ((rdOf ByteArray.empty y104 (ji13)).size : Int)) = true := decide_eq_true c16
          clear c16
          by_cases c17 : ((rdOf ByteArray.empty y104 (ji13)).size : Int) ≤ 12
          case neg => rw [if_neg c17] at H; exact absurd H (by simp)
          rw [if_pos c17] at H
          have c17b0 := eq_true c17
          have c17b1 : decide (((rdOf ByteArray.empty y104 (ji13)).size : Int) ≤ 12) = true := decide_eq_true c17
          clear c17
          have H' := Aside0.mk H
          clear H
          go_wp2_with (first | ((with_reducible refine gate_dst (N := 33) rfl ?_); (try (refine gate_guard (by rfl) ?_; dsimp only)); refine Kd.R_lit Kd.string _ 9 ?hg (N := 33) ?hd (xs := ([(⟨#[45, 32]⟩ : ByteArray), (⟨#[43, 32]⟩ : ByteArray), (⟨#[49, 46, 32]⟩ : ByteArray), (⟨#[55, 41, 32]⟩ : ByteArray), (⟨#[49, 50, 51, 52, 53, 54, 55, 56, 57, 46, 32]⟩ : ByteArray)] : List ByteArray)) (inner := [.string (⟨#[45, 32]⟩ : ByteArray), .string (⟨#[43, 32]⟩ : ByteArray), .string (⟨#[49, 46, 32]⟩ : ByteArray), .string (⟨#[55, 41, 32]⟩ : ByteArray), .string (⟨#[49, 50, 51, 52, 53, 54, 55, 56, 57, 46, 32]⟩ : ByteArray)]) (ok := fun _ => True) (okp := fun _ => True) ?hr ?hp (fun _ hk => hk) trivial (Below.refl _ _) (Nat.le_refl _) (by simp) ?_; (case hd => rfl); (case hg => rfl); (case hr => first | (go_simp; done) | (go_simp; rfl)); (case hp => exact (Reps.one (show Kd.M Kd.string _ _ _ (⟨#[45, 32]⟩ : ByteArray) [.string (⟨#[45, 32]⟩ : ByteArray)] from rfl) (Reps.one (show Kd.M Kd.string _ _ _ (⟨#[43, 32]⟩ : ByteArray) [.string (⟨#[43, 32]⟩ : ByteArray)] from rfl) (Reps.one (show Kd.M Kd.string _ _ _ (⟨#[49, 46, 32]⟩ : ByteArray) [.string (⟨#[49, 46, 32]⟩ : ByteArray)] from rfl) (Reps.one (show Kd.M Kd.string _ _ _ (⟨#[55, 41, 32]⟩ : ByteArray) [.string (⟨#[55, 41, 32]⟩ : ByteArray)] from rfl) (Reps.one (show Kd.M Kd.string _ _ _ (⟨#[49, 50, 51, 52, 53, 54, 55, 56, 57, 46, 32]⟩ : ByteArray) [.string (⟨#[49, 50, 51, 52, 53, 54, 55, 56, 57, 46, 32]⟩ : ByteArray)] from rfl) (Reps.none _ _))))))); intro v105 w18 ho19 hb hg_ hnew_; clear hg_ hnew_; (first | rw [← Ny104.out] at ho19 | (simp only [Int.reduceToNat] at ho19; rw [← Ny104.out] at ho19)); have n0_ := Aside0.mk (Kd.R_lower ho19 (below_size (by repeat (first | (with_reducible first | exact HB.out | apply below_alloc | apply pw_below_drewN | apply below_drew1) | exact HB.out)))); have n1_ := Aside0.mk (below_step (by repeat (first | (with_reducible first | exact HB.out | apply below_alloc | apply pw_below_drewN | apply below_drew1) | exact HB.out)) hb); clear HB; have HO106 := n0_; have HB := n1_; clear n0_ n1_; clear hb ho19; obtain ⟨Ao20, co20, eo20⟩ := Kd.R_slice HO106.out; subst eo20; have p107 : 0 ≤ ((ji13) : Int) := of_decide_eq_true (by first | (with_reducible assumption) | assumption); have q107 : (ji13) < (y104.length : Int) := of_decide_eq_true (by first | (with_reducible assumption) | assumption); obtain ⟨ad107, e107, hx107_0⟩ := Kd.at_string (Kd.R_reads' HO106.out).2.2 (ji13) p107 q107; cases e107; replace p107 := eq_true p107; replace q107 := eq_true q107))
          go_loopg [8, 9] kj2 (fun kq v8 v9 w' => ∃ (x8_2 : List ByteArray) (x9_2 : Int), v9 = .int .i64 x9_2 ∧ Aside0 (rubricatorlaw19_BlockItems.l0 kq l0 (rdOf ByteArray.empty y104 (ji13)) ((⟨#[32, 32, 32, 32, 32, 32, 32, 32, 32, 32, 32, 32]⟩ : ByteArray).extract 0 (((rdOf ByteArray.empty y104 (ji13)).size : Int) : Int).toNat) x8_2 x9_2 = some r) ∧ Aside0 (kq ≤ kj2) ∧ Aside0 (Kd.R Kd.string 9 w' w.heap.size (fun _ => True) v8 x8_2) ∧ Aside0 (Below w.heap.size w w'))
          case atStart => exact ⟨(([] : List ByteArray)), (0), (by first | rfl | (simp; done) | (simp [*]; done)), H', ⟨Nat.le_refl _⟩, ⟨by first | exact Kd.R_nil _ _ _ _ _ | exact Kd.N_nil _ _ _ _ _ | exact Kd.V_nil _ _ _ _ _ | exact Kd.Q_nil _ _ _ _ _ | exact Kd.S_nil _ _ _ _ _⟩, ⟨by repeat (first | (with_reducible first | exact HB.out | apply below_alloc | apply pw_below_drewN | apply below_drew1) | exact HB.out)⟩⟩
          case round =>
            clear H'
            try clear c1
            try clear p1
            try clear q1
            try clear hx1
            try clear qi1
            try clear p2
            try clear c5
            try clear c6
            try clear c6b0
            try clear c6b1
            try clear c6b2
            try clear c7
            try clear c7b0
            try clear c7b1
            try clear c8
            try clear c8b0
            try clear c8b1
            try clear c9
            try clear c9b0
            try clear c9b1
            try clear p10
            try clear q10
            try clear hx10
            try clear qi10
            try clear c11
            try clear c12
            try clear c12b0
            try clear c12b1
            try clear c12b2
            try clear c14
            try clear c14b0
            try clear c15
            try clear c15b0
            try clear c16
            try clear c16b0
            try clear c16b1
            try clear c17
            try clear c17b0
            try clear c17b1
            try clear hx102_0
            try clear hx103_0
            try clear hx107_0
            try clear p1
            try clear p10
            try clear p102
            try clear p103
            try clear p107
            try clear p2
            try clear q1
            try clear q10
            try clear q102
            try clear q103
            try clear q107
            obtain ⟨x8_2, x9_2, rfl, HA, HK2, HO_8, HB⟩ := hrel
            cases gk with
            | zero => exact absurd HA.out (by simp [rubricatorlaw19_BlockItems.l0])
            | succ k2 =>
              have H := HA.out
              clear HA
              simp only [rubricatorlaw19_BlockItems.l0] at H
              by_cases c21 : x9_2 < (l0.length : Int)
              · rw [if_pos c21] at H
                have c21b0 : decide (x9_2 < (l0.length : Int)) = true := decide_eq_true c21
                clear c21
                have H' := Aside0.mk H
                clear H
                go_wp2
                go_loopg [10] k2 (fun kq v10 w' => ∃ (x10_3 : Int), v10 = .int .i64 x10_3 ∧ Aside0 (rubricatorlaw19_BlockItems.l1 kq l0 (rdOf ByteArray.empty y104 (ji13)) ((⟨#[32, 32, 32, 32, 32, 32, 32, 32, 32, 32, 32, 32]⟩ : ByteArray).extract 0 (((rdOf ByteArray.empty y104 (ji13)).size : Int) : Int).toNat) x8_2 x9_2 x10_3 = some r) ∧ Aside0 (kq ≤ k2) ∧ Aside0 (Kd.R Kd.string 9 w' w.heap.size (fun _ => True) u8 x8_2) ∧ Aside0 (Below w.heap.size w w'))
                case atStart => exact ⟨(0), (by first | rfl | (simp; done) | (simp [*]; done)), H', ⟨Nat.le_refl _⟩, ⟨by (with_reducible repeat (first | apply Kd.R_alloc | apply Kd.R_drewN | apply Kd.R_drew)); exact HO_8.out⟩, ⟨by repeat (first | (with_reducible first | exact HB.out | apply below_alloc | apply pw_below_drewN | apply below_drew1) | exact HB.out)⟩⟩
                case round =>
                  clear H'
                  try clear c1
                  try clear p1
                  try clear q1
                  try clear hx1
                  try clear qi1
                  try clear c2
                  try clear p2
                  try clear c5
                  try clear c6
                  try clear c6b0
                  try clear c6b1
                  try clear c6b2
                  try clear c7
                  try clear c7b0
                  try clear c7b1
                  try clear c8
                  try clear c8b0
                  try clear c8b1
                  try clear c9
                  try clear c9b0
                  try clear c9b1
                  try clear p10
                  try clear q10
                  try clear hx10
                  try clear qi10
                  try clear c11
                  try clear c12
                  try clear c12b0
                  try clear c12b1
                  try clear c12b2
                  try clear c14
                  try clear c14b0
                  try clear c15
                  try clear c15b0
                  try clear c16
                  try clear c16b0
                  try clear c16b1
                  try clear c17
                  try clear c17b0
                  try clear c17b1
                  try clear c21
                  try clear c21b0
                  try clear hx102_0
                  try clear hx103_0
                  try clear hx107_0
                  try clear p1
                  try clear p10
                  try clear p102
                  try clear p103
                  try clear p107
                  try clear p2
                  try clear q1
                  try clear q10
                  try clear q102
                  try clear q103
                  try clear q107
                  obtain ⟨x10_3, rfl, HA, HK3, HO_8, HB⟩ := hrel
                  cases gk with
                  | zero => exact absurd HA.out (by simp [rubricatorlaw19_BlockItems.l1])
                  | succ k3 =>
                    have H := HA.out
                    clear HA
                    simp only [rubricatorlaw19_BlockItems.l1] at H
                    by_cases c22 : 0 ≤ x9_2
                    case neg => rw [if_neg c22] at H; exact absurd H (by simp)
                    rw [if_pos c22] at H
                    have c22b0 : decide (0 ≤ x9_2) = true := decide_eq_true c22
                    clear c22
                    by_cases c23 : x9_2 < (l0.length : Int)
                    case neg => rw [if_neg c23] at H; exact absurd H (by simp)
                    rw [if_pos c23] at H
                    have c23b0 : decide (x9_2 < (l0.length : Int)) = true := decide_eq_true c23
                    clear c23
                    by_cases c24 : x10_3 < ((rdOf ByteArray.empty l0 x9_2).size : Int)
                    · rw [if_pos c24] at H
                      have c24b0 : decide (x10_3 < ((rdOf ByteArray.empty l0 x9_2).size : Int)) = true := decide_eq_true c24
                      clear c24
                      by_cases c25 : 0 ≤ x10_3
                      case neg => rw [if_neg c25] at H; exact absurd H (by simp)
                      rw [if_pos c25] at H
                      have c25b0 : decide (0 ≤ x10_3) = true := decide_eq_true c25
                      clear c25
                      by_cases c27 : (bt (rdOf ByteArray.empty l0 x9_2) x10_3) = 9
                      · rw [if_pos c27] at H
                        have c27b0 : ((bt (rdOf ByteArray.empty l0 x9_2) x10_3) == 9) = true := beq_iff_eq.mpr c27
                        have c27b1 : ((bt (rdOf ByteArray.empty l0 x9_2) x10_3) != 9) = false := bne_eq_false_iff_eq.mpr c27
                        clear c27
                        replace H := Option.bind_eq_some_iff.mp H
                        obtain ⟨t110, A280, H⟩ := H
                        replace H : (some t110) = some r := H
                        have A28 := Aside0.mk A280
                        clear A280
                        obtain rfl := Option.some.inj H
                        have p108 : 0 ≤ (x9_2 : Int) := of_decide_eq_true (by first | (with_reducible assumption) | assumption)
                        have q108 : x9_2 < (l0.length : Int) := of_decide_eq_true (by first | (with_reducible assumption) | assumption)
                        obtain ⟨ad108, e108, hx108_0⟩ := Kd.at_string HR0.out x9_2 p108 q108
                        cases e108
                        replace hx108_0 := (HB.out.cell (World.block_lt_of_cell? w _ hx108_0)).trans hx108_0
                        replace p108 := eq_true p108
                        replace q108 := eq_true q108
                        have p109 : 0 ≤ (x9_2 : Int) := of_decide_eq_true (by first | (with_reducible assumption) | assumption)
                        have q109 : x9_2 < (l0.length : Int) := of_decide_eq_true (by first | (with_reducible assumption) | assumption)
                        obtain ⟨ad109, e109, hx109_0⟩ := Kd.at_string HR0.out x9_2 p109 q109
                        obtain rfl : ad108 = ad109 := (by injection e109)
                        replace hx109_0 := (HB.out.cell (World.block_lt_of_cell? w _ hx109_0)).trans hx109_0
                        replace p109 := eq_true p109
                        replace q109 := eq_true q109
                        have p26 : 0 ≤ (x10_3 : Int) := of_decide_eq_true (by first | (with_reducible assumption) | assumption)
                        have q26 : x10_3 < ((rdOf ByteArray.empty l0 x9_2).size : Int) := of_decide_eq_true (by first | (with_reducible assumption) | assumption)
                        have hx26 := bt_at (rdOf ByteArray.empty l0 x9_2) x10_3
                        replace p26 := eq_true p26
                        replace q26 := eq_true q26
                        go_wp2_with (first | ((with_reducible refine gate_callee (f := 17) rfl ?_); refine goesL_ (some 67) rfl rfl Tryz.func17 (by kernel_rfl) rfl #[] rfl (by (try simp only [List.map_toArray, List.map_cons, List.map_nil]); first | done | rfl | (simp only [List.length_drop, List.length_take]; rfl)) ?_; (with_reducible refine (rubricatorlaw19_known.calls  t110 _ ?side1 A28.out).mono ?_); (case side1 => first | (with_reducible exact hG) | (refine GL.below hG ?_; (repeat (first | (with_reducible first | exact HB.out | apply below_alloc | apply pw_below_drewN | apply below_drew1) | exact HB.out)); done) | (refine GL.drawn hG ?_; (repeat (first | exact Drawn0.refl _ | apply Drawn0.step)); done) | exact hG); rintro e w29 ⟨rfl, hb⟩; refine ⟨_, rfl, ?_⟩; have n0_ := Aside0.mk (Kd.R_below (by (with_reducible repeat (first | apply Kd.R_alloc | apply Kd.R_drewN | apply Kd.R_drew)); exact HO_8.out) hb); have n1_ := Aside0.mk (below_step (by repeat (first | (with_reducible first | exact HB.out | apply below_alloc | apply pw_below_drewN | apply below_drew1) | exact HB.out)) hb); clear HO_8; clear HB; have HO_8 := n0_; have HB := n1_; clear n0_ n1_; (try clear hb); (try clear hb2); (try clear hk); (try clear hi)))
                        go_ret
                        exact ⟨by first | rfl | (simp [errW_none, errW_some] <;> rfl) | (simp only [← hji13]; first | rfl | (simp [errW_none, errW_some] <;> rfl)) | (simp [*, errW_none, errW_some] <;> rfl), by repeat (first | (with_reducible first | exact HB.out | apply below_alloc | apply pw_below_drewN | apply below_drew1) | exact HB.out)⟩
                      · rw [if_neg c27] at H
                        have c27b0 : ((bt (rdOf ByteArray.empty l0 x9_2) x10_3) == 9) = false := beq_eq_false_iff_ne.mpr c27
                        have c27b1 : ((bt (rdOf ByteArray.empty l0 x9_2) x10_3) != 9) = true := bne_iff_ne.mpr c27
                        have H' := Aside0.mk H
                        clear H
                        have p108 : 0 ≤ (x9_2 : Int) := of_decide_eq_true (by first | (with_reducible assumption) | assumption)
                        have q108 : x9_2 < (l0.length : Int) := of_decide_eq_true (by first | (with_reducible assumption) | assumption)
                        obtain ⟨ad108, e108, hx108_0⟩ := Kd.at_string HR0.out x9_2 p108 q108
                        cases e108
                        replace hx108_0 := (HB.out.cell (World.block_lt_of_cell? w _ hx108_0)).trans hx108_0
                        replace p108 := eq_true p108
                        replace q108 := eq_true q108
                        have p109 : 0 ≤ (x9_2 : Int) := of_decide_eq_true (by first | (with_reducible assumption) | assumption)
                        have q109 : x9_2 < (l0.length : Int) := of_decide_eq_true (by first | (with_reducible assumption) | assumption)
                        obtain ⟨ad109, e109, hx109_0⟩ := Kd.at_string HR0.out x9_2 p109 q109
                        obtain rfl : ad108 = ad109 := (by injection e109)
                        replace hx109_0 := (HB.out.cell (World.block_lt_of_cell? w _ hx109_0)).trans hx109_0
                        replace p109 := eq_true p109
                        replace q109 := eq_true q109
                        have p26 : 0 ≤ (x10_3 : Int) := of_decide_eq_true (by first | (with_reducible assumption) | assumption)
                        have q26 : x10_3 < ((rdOf ByteArray.empty l0 x9_2).size : Int) := of_decide_eq_true (by first | (with_reducible assumption) | assumption)
                        have hx26 := bt_at (rdOf ByteArray.empty l0 x9_2) x10_3
                        replace p26 := eq_true p26
                        replace q26 := eq_true q26
                        go_wp2
                        go_roundg k3
                        case measure => have := HJ2.out; have := HK2.out; have := HK3.out; omega
                        case rel => exact ⟨(wrap64 (x10_3 + 1)), (by first | rfl | (simp; done) | (simp [*]; done)), H', ⟨by have := HJ2.out; have := HK2.out; have := HK3.out; omega⟩, ⟨by (with_reducible repeat (first | apply Kd.R_alloc | apply Kd.R_drewN | apply Kd.R_drew)); exact HO_8.out⟩, ⟨by repeat (first | (with_reducible first | exact HB.out | apply below_alloc | apply pw_below_drewN | apply below_drew1) | exact HB.out)⟩⟩
                    · rw [if_neg c24] at H
                      have c24b0 : decide (x10_3 < ((rdOf ByteArray.empty l0 x9_2).size : Int)) = false := decide_eq_false c24
                      clear c24
                      by_cases c30 : x9_2 = 0
                      · rw [if_pos c30] at H
                        have c30b0 : (x9_2 == 0) = true := beq_iff_eq.mpr c30
                        have c30b1 : (x9_2 != 0) = false := bne_eq_false_iff_eq.mpr c30
                        clear c30
                        by_cases c31 : (rdOf ByteArray.empty y104 (ji13)).size + (rdOf ByteArray.empty l0 x9_2).size ≤ 9223372036854775807
                        case neg => rw [if_neg c31] at H; exact absurd H (by simp)
                        rw [if_pos c31] at H
                        have c31b0 := eq_true c31
                        have c31b1 : decide ((rdOf ByteArray.empty y104 (ji13)).size + (rdOf ByteArray.empty l0 x9_2).size ≤ 9223372036854775807) = true := decide_eq_true c31
                        try have c31b2 : (9223372036854775807 < (rdOf ByteArray.empty y104 (ji13)).size + (rdOf ByteArray.empty l0 x9_2).size) = False := eq_false (Nat.not_lt.2 c31)
                        by_cases c32 : x8_2.length < 8796093022208
                        case neg => rw [if_neg c32] at H; exact absurd H (by simp)
                        rw [if_pos c32] at H
                        have LMc32 := Aside0.mk c32
                        clear c32
                        obtain ⟨y112, hy112⟩ : ∃ y_ : List ByteArray, y_ = (x8_2 ++ [(rdOf ByteArray.empty y104 (ji13)) ++ (rdOf ByteArray.empty l0 x9_2)]) := ⟨_, rfl⟩
                        replace H : (rubricatorlaw19_BlockItems.l0 k3 l0 (rdOf ByteArray.empty y104 (ji13)) ((⟨#[32, 32, 32, 32, 32, 32, 32, 32, 32, 32, 32, 32]⟩ : ByteArray).extract 0 (((rdOf ByteArray.empty y104 (ji13)).size : Int) : Int).toNat) y112 (wrap64 (x9_2 + 1))) = some r := by first | (rw [hy112]; with_reducible exact H) | (have H2_ := (Option.bind_some _ _).symm.trans H; rw [hy112]; with_reducible exact H2_) | (have H2_ := (Option.bind_some _ _).symm.trans H; with_reducible exact H2_) | with_reducible exact H | (rw [hy112]; exact H) | exact H
                        have Ny112 := Aside0.mk hy112
                        clear hy112
                        have H' := Aside0.mk H
                        clear H
                        have p108 : 0 ≤ (x9_2 : Int) := of_decide_eq_true (by first | (with_reducible assumption) | assumption)
                        have q108 : x9_2 < (l0.length : Int) := of_decide_eq_true (by first | (with_reducible assumption) | assumption)
                        obtain ⟨ad108, e108, hx108_0⟩ := Kd.at_string HR0.out x9_2 p108 q108
                        cases e108
                        replace hx108_0 := (HB.out.cell (World.block_lt_of_cell? w _ hx108_0)).trans hx108_0
                        replace p108 := eq_true p108
                        replace q108 := eq_true q108
                        have p111 : 0 ≤ (x9_2 : Int) := of_decide_eq_true (by first | (with_reducible assumption) | assumption)
                        have q111 : x9_2 < (l0.length : Int) := of_decide_eq_true (by first | (with_reducible assumption) | assumption)
                        obtain ⟨ad111, e111, hx111_0⟩ := Kd.at_string HR0.out x9_2 p111 q111
                        obtain rfl : ad108 = ad111 := (by injection e111)
                        replace hx111_0 := (HB.out.cell (World.block_lt_of_cell? w _ hx111_0)).trans hx111_0
                        replace p111 := eq_true p111
                        replace q111 := eq_true q111
                        go_wp2_with (first | ((with_reducible refine gate_builtin (b := .append) (xs := #[.tmp 70, .tmp 77]) rfl ?_); (try (refine gate_guard (by rfl) ?_; dsimp only)); at_builtin; refine Kd.R_append Kd.string (w0 := w) w.heap.size rfl (.tmp 70) (.tmp 77) 22 9 (.string ⟨#[]⟩) 16 rfl Tryz.underlying22 info9 rfl (by decide) (by omega) u8 x8_2 ((rdOf ByteArray.empty y104 (ji13)) ++ (rdOf ByteArray.empty l0 x9_2)) [.string ((rdOf ByteArray.empty y104 (ji13)) ++ (rdOf ByteArray.empty l0 x9_2))] (fun _ => True) (fun _ => False) rfl rfl ?aP (fun _ hk => hk.elim) ?aF ?aO ?aB ?aS ?aL ?_; (case aP => exact rfl); (case aB => exact (by repeat (first | (with_reducible first | exact HB.out | apply below_alloc | apply pw_below_drewN | apply below_drew1) | exact HB.out))); (case aF => exact (fun _ _ => trivial)); (case aO => exact (by (with_reducible repeat (first | apply Kd.R_alloc | apply Kd.R_drewN | apply Kd.R_drew)); exact HO_8.out)); (case aS => exact (below_size (by repeat (first | (with_reducible first | exact HB.out | apply below_alloc | apply pw_below_drewN | apply below_drew1) | exact HB.out)))); (case aL => have := LMc32.out; omega); intro v113 w33 ho hb hg hat; rw [← Ny112.out] at ho; have n0_ := Aside0.mk (hb); have n1_ := Aside0.mk (ho); clear HB; clear HO_8; have HB := n0_; have HO114 := n1_; clear n0_ n1_; clear ho hb hg hat))
                        go_roundg k3
                        case measure => have := HJ2.out; have := HK2.out; have := HK3.out; omega
                        case rel => exact ⟨(y112), (wrap64 (x9_2 + 1)), (by first | rfl | (simp; done) | (simp [*]; done)), H', ⟨by have := HJ2.out; have := HK2.out; have := HK3.out; omega⟩, ⟨by (with_reducible repeat (first | apply Kd.R_alloc | apply Kd.R_drewN | apply Kd.R_drew)); exact HO114.out⟩, ⟨by repeat (first | (with_reducible first | exact HB.out | apply below_alloc | apply pw_below_drewN | apply below_drew1) | exact HB.out)⟩⟩
                      · rw [if_neg c30] at H
                        have c30b0 : (x9_2 == 0) = false := beq_eq_false_iff_ne.mpr c30
                        have c30b1 : (x9_2 != 0) = true := bne_iff_ne.mpr c30
                        by_cases c34 : ((⟨#[32, 32, 32, 32, 32, 32, 32, 32, 32, 32, 32, 32]⟩ : ByteArray).extract 0 (((rdOf ByteArray.empty y104 (ji13)).size : Int) : Int).toNat).size + (rdOf ByteArray.empty l0 x9_2).size ≤ 9223372036854775807
                        case neg => rw [if_neg c34] at H; exact absurd H (by simp)
                        rw [if_pos c34] at H
                        have c34k := Aside0.mk c34
                        have c34y := c34
                        clear c34
                        (try simp [*, min_lit5] at c34y)
                        (try (have c34z := lim_false c34y))
                        (try clear c34y)
                        have c34 := c34k.out
                        have c34q := lim_false (show min (rdOf ByteArray.empty y104 (ji13)).size 12 + (rdOf ByteArray.empty l0 x9_2).size ≤ 9223372036854775807 by have z := c34; rw [ByteArray.size_extract, Int.toNat_natCast] at z; exact z)
                        clear c34k
                        have c34b0 := eq_true c34
                        have c34b1 : decide (((⟨#[32, 32, 32, 32, 32, 32, 32, 32, 32, 32, 32, 32]⟩ : ByteArray).extract 0 (((rdOf ByteArray.empty y104 (ji13)).size : Int) : Int).toNat).size + (rdOf ByteArray.empty l0 x9_2).size ≤ 9223372036854775807) = true := decide_eq_true c34
                        try have c34b2 : (9223372036854775807 < ((⟨#[32, 32, 32, 32, 32, 32, 32, 32, 32, 32, 32, 32]⟩ : ByteArray).extract 0 (((rdOf ByteArray.empty y104 (ji13)).size : Int) : Int).toNat).size + (rdOf ByteArray.empty l0 x9_2).size) = False := eq_false (Nat.not_lt.2 c34)
                        by_cases c35 : x8_2.length < 8796093022208
                        case neg => rw [if_neg c35] at H; exact absurd H (by simp)
                        rw [if_pos c35] at H
                        have LMc35 := Aside0.mk c35
                        clear c35
                        obtain ⟨y116, hy116⟩ : ∃ y_ : List ByteArray, y_ = (x8_2 ++ [((⟨#[32, 32, 32, 32, 32, 32, 32, 32, 32, 32, 32, 32]⟩ : ByteArray).extract 0 (((rdOf ByteArray.empty y104 (ji13)).size : Int) : Int).toNat) ++ (rdOf ByteArray.empty l0 x9_2)]) := ⟨_, rfl⟩
                        replace H : (rubricatorlaw19_BlockItems.l0 k3 l0 (rdOf ByteArray.empty y104 (ji13)) ((⟨#[32, 32, 32, 32, 32, 32, 32, 32, 32, 32, 32, 32]⟩ : ByteArray).extract 0 (((rdOf ByteArray.empty y104 (ji13)).size : Int) : Int).toNat) y116 (wrap64 (x9_2 + 1))) = some r := by first | (rw [hy116]; with_reducible exact H) | (have H2_ := (Option.bind_some _ _).symm.trans H; rw [hy116]; with_reducible exact H2_) | (have H2_ := (Option.bind_some _ _).symm.trans H; with_reducible exact H2_) | with_reducible exact H | (rw [hy116]; exact H) | exact H
                        have Ny116 := Aside0.mk hy116
                        clear hy116
                        have H' := Aside0.mk H
                        clear H
                        have p108 : 0 ≤ (x9_2 : Int) := of_decide_eq_true (by first | (with_reducible assumption) | assumption)
                        have q108 : x9_2 < (l0.length : Int) := of_decide_eq_true (by first | (with_reducible assumption) | assumption)
                        obtain ⟨ad108, e108, hx108_0⟩ := Kd.at_string HR0.out x9_2 p108 q108
                        cases e108
                        replace hx108_0 := (HB.out.cell (World.block_lt_of_cell? w _ hx108_0)).trans hx108_0
                        replace p108 := eq_true p108
                        replace q108 := eq_true q108
                        have p115 : 0 ≤ (x9_2 : Int) := of_decide_eq_true (by first | (with_reducible assumption) | assumption)
                        have q115 : x9_2 < (l0.length : Int) := of_decide_eq_true (by first | (with_reducible assumption) | assumption)
                        obtain ⟨ad115, e115, hx115_0⟩ := Kd.at_string HR0.out x9_2 p115 q115
                        obtain rfl : ad108 = ad115 := (by injection e115)
                        replace hx115_0 := (HB.out.cell (World.block_lt_of_cell? w _ hx115_0)).trans hx115_0
                        replace p115 := eq_true p115
                        replace q115 := eq_true q115
                        go_wp2_with (first | ((with_reducible refine gate_builtin (b := .append) (xs := #[.tmp 79, .tmp 86]) rfl ?_); (try (refine gate_guard (by rfl) ?_; dsimp only)); at_builtin; refine Kd.R_append Kd.string (w0 := w) w.heap.size rfl (.tmp 79) (.tmp 86) 22 9 (.string ⟨#[]⟩) 16 rfl Tryz.underlying22 info9 rfl (by decide) (by omega) u8 x8_2 (((⟨#[32, 32, 32, 32, 32, 32, 32, 32, 32, 32, 32, 32]⟩ : ByteArray).extract 0 (((rdOf ByteArray.empty y104 (ji13)).size : Int) : Int).toNat) ++ (rdOf ByteArray.empty l0 x9_2)) [.string (((⟨#[32, 32, 32, 32, 32, 32, 32, 32, 32, 32, 32, 32]⟩ : ByteArray).extract 0 (((rdOf ByteArray.empty y104 (ji13)).size : Int) : Int).toNat) ++ (rdOf ByteArray.empty l0 x9_2))] (fun _ => True) (fun _ => False) rfl rfl ?aP (fun _ hk => hk.elim) ?aF ?aO ?aB ?aS ?aL ?_; (case aP => exact rfl); (case aB => exact (by repeat (first | (with_reducible first | exact HB.out | apply below_alloc | apply pw_below_drewN | apply below_drew1) | exact HB.out))); (case aF => exact (fun _ _ => trivial)); (case aO => exact (by (with_reducible repeat (first | apply Kd.R_alloc | apply Kd.R_drewN | apply Kd.R_drew)); exact HO_8.out)); (case aS => exact (below_size (by repeat (first | (with_reducible first | exact HB.out | apply below_alloc | apply pw_below_drewN | apply below_drew1) | exact HB.out)))); (case aL => have := LMc35.out; omega); intro v117 w36 ho hb hg hat; rw [← Ny116.out] at ho; have n0_ := Aside0.mk (hb); have n1_ := Aside0.mk (ho); clear HB; clear HO_8; have HB := n0_; have HO118 := n1_; clear n0_ n1_; clear ho hb hg hat))
                        go_roundg k3
                        case measure => have := HJ2.out; have := HK2.out; have := HK3.out; omega
                        case rel => exact ⟨(y116), (wrap64 (x9_2 + 1)), (by first | rfl | (simp; done) | (simp [*]; done)), H', ⟨by have := HJ2.out; have := HK2.out; have := HK3.out; omega⟩, ⟨by (with_reducible repeat (first | apply Kd.R_alloc | apply Kd.R_drewN | apply Kd.R_drew)); exact HO118.out⟩, ⟨by repeat (first | (with_reducible first | exact HB.out | apply below_alloc | apply pw_below_drewN | apply below_drew1) | exact HB.out)⟩⟩
              · rw [if_neg c21] at H
                have c21b0 : decide (x9_2 < (l0.length : Int)) = false := decide_eq_false c21
                clear c21
                replace H := Option.bind_eq_some_iff.mp H
                obtain ⟨⟨t119, t120, t121, t122, t123, t124, t125, t126⟩, A370, H⟩ := H
                replace H : ((block_Parse.f l0).bind fun bt129 => (if (t126.length : Int) = 1 then (if 0 < (t126.length : Int) then (rubricatorlaw19_BlockItems.j3 k2 x8_2 (((rd_T27 t126 0).f0) != 7) t119 t120 t121 t122 t123 t124 t125 t126 bt129.1 bt129.2.1 bt129.2.2.1 bt129.2.2.2.1 bt129.2.2.2.2.1 bt129.2.2.2.2.2.1 bt129.2.2.2.2.2.2.1 bt129.2.2.2.2.2.2.2) else (none)) else (rubricatorlaw19_BlockItems.j3 k2 x8_2 true t119 t120 t121 t122 t123 t124 t125 t126 bt129.1 bt129.2.1 bt129.2.2.1 bt129.2.2.2.1 bt129.2.2.2.2.1 bt129.2.2.2.2.2.1 bt129.2.2.2.2.2.2.1 bt129.2.2.2.2.2.2.2))) = some r := H
                have A37 := Aside0.mk A370
                clear A370
                replace H := Option.bind_eq_some_iff.mp H
                obtain ⟨⟨t129, t130, t131, t132, t133, t134, t135, t136⟩, A380, H⟩ := H
                replace H : (if (t126.length : Int) = 1 then (if 0 < (t126.length : Int) then (rubricatorlaw19_BlockItems.j3 k2 x8_2 (((rd_T27 t126 0).f0) != 7) t119 t120 t121 t122 t123 t124 t125 t126 t129 t130 t131 t132 t133 t134 t135 t136) else (none)) else (rubricatorlaw19_BlockItems.j3 k2 x8_2 true t119 t120 t121 t122 t123 t124 t125 t126 t129 t130 t131 t132 t133 t134 t135 t136)) = some r := H
                have A38 := Aside0.mk A380
                clear A380
                have HC39 := Aside0.mk H
                clear H
                obtain ⟨Ao40, co40, eo40⟩ := Kd.R_slice HO_8.out
                subst eo40
                go_upto_region 19 with (first | ((with_reducible refine gate_callee (f := 14) rfl ?_); refine goesL_ (some 89) rfl rfl Tryz.func14 (by kernel_rfl) rfl #[.slice Ao40 x8_2.length co40] rfl (by (try simp only [List.map_toArray, List.map_cons, List.map_nil]); first | done | rfl | (simp only [List.length_drop, List.length_take]; rfl)) ?_; (with_reducible refine (block_Parse.calls _ _ x8_2 t119 t120 t121 t122 t123 t124 t125 t126 _ ?side1 ?side2 ?side3 A37.out).mono ?_); (case side1 => first | (with_reducible exact hG) | (refine GL.below hG ?_; (repeat (first | (with_reducible first | exact HB.out | apply below_alloc | apply pw_below_drewN | apply below_drew1) | exact HB.out)); done) | (refine GL.drawn hG ?_; (repeat (first | exact Drawn0.refl _ | apply Drawn0.step)); done) | exact hG); (case side2 => repeat (first | exact (Kd.R_reads' HO_8.out).2.2 | (with_reducible refine Kd.C_alloc ?_ _) | (with_reducible refine Kd.C_drewN ?_ _) | (with_reducible refine Kd.C_drew ?_))); (case side3 => exact (Kd.R_reads' HO_8.out).2.1); rintro e w41 ⟨v127, rfl, ho0, hb⟩; refine ⟨_, rfl, ?_⟩; have n0_ := Aside0.mk (Kd.R_below (by (with_reducible repeat (first | apply Kd.R_alloc | apply Kd.R_drewN | apply Kd.R_drew)); exact HO_8.out) hb); have n1_ := Aside0.mk (Kd.R_lower ho0 (below_size (by repeat (first | (with_reducible first | exact HB.out | apply below_alloc | apply pw_below_drewN | apply below_drew1) | exact HB.out)))); have n2_ := Aside0.mk (below_step (by repeat (first | (with_reducible first | exact HB.out | apply below_alloc | apply pw_below_drewN | apply below_drew1) | exact HB.out)) hb); clear HO_8; clear HB; have HO_8 := n0_; have HO128 := n1_; have HB := n2_; clear n0_ n1_ n2_; (try clear hb); (try clear hb2); (try clear hk); (try clear hi); (try clear ho0)) | ((with_reducible refine gate_callee (f := 14) rfl ?_); refine goesL_ (some 91) rfl rfl Tryz.func14 (by kernel_rfl) rfl #[.slice A0 l0.length c0] rfl (by (try simp only [List.map_toArray, List.map_cons, List.map_nil]); first | done | rfl | (simp only [List.length_drop, List.length_take]; rfl)) ?_; (with_reducible refine (block_Parse.calls _ _ l0 t129 t130 t131 t132 t133 t134 t135 t136 _ ?side1 ?side2 ?side3 A38.out).mono ?_); (case side1 => first | (with_reducible exact hG) | (refine GL.below hG ?_; (repeat (first | (with_reducible first | exact HB.out | apply below_alloc | apply pw_below_drewN | apply below_drew1) | exact HB.out)); done) | (refine GL.drawn hG ?_; (repeat (first | exact Drawn0.refl _ | apply Drawn0.step)); done) | exact hG); (case side2 => repeat (first | exact (Kd.C_below HR0.out HB.out) | (with_reducible refine Kd.C_alloc ?_ _) | (with_reducible refine Kd.C_drewN ?_ _) | (with_reducible refine Kd.C_drew ?_))); (case side3 => exact HC0.out); rintro e w42 ⟨v137, rfl, ho0, hb⟩; refine ⟨_, rfl, ?_⟩; have n0_ := Aside0.mk (Kd.R_below (by (with_reducible repeat (first | apply Kd.R_alloc | apply Kd.R_drewN | apply Kd.R_drew)); exact HO_8.out) hb); have n1_ := Aside0.mk (Kd.R_elder' (by (with_reducible repeat (first | apply Kd.R_alloc | apply Kd.R_drewN | apply Kd.R_drew)); exact HO128.out) (Kd.R_base ho0) hb); have n2_ := Aside0.mk (Kd.R_lower (Kd.R_new' ho0 (Kd.R_lt (by (with_reducible repeat (first | apply Kd.R_alloc | apply Kd.R_drewN | apply Kd.R_drew)); exact HO128.out))) (below_size (by repeat (first | (with_reducible first | exact HB.out | apply below_alloc | apply pw_below_drewN | apply below_drew1) | exact HB.out)))); have n3_ := Aside0.mk (below_step (by repeat (first | (with_reducible first | exact HB.out | apply below_alloc | apply pw_below_drewN | apply below_drew1) | exact HB.out)) hb); clear HO_8; clear HO128; clear HB; have HO_8 := n0_; have HO128 := n1_; have HO138 := n2_; have HB := n3_; clear n0_ n1_ n2_ n3_; (try clear hb); (try clear hb2); (try clear hk); (try clear hi); (try clear ho0)) | ((with_reducible refine gate_dst (N := 11) rfl ?_); (try (refine gate_guard (by rfl) ?_; dsimp only)); refine box_event ?hg (N := 11) ?hd (cs := #[.int .i64 0, .int .i64 0, .bool false, .bool false, .string (⟨#[]⟩ : ByteArray), .string (⟨#[]⟩ : ByteArray), .string (⟨#[]⟩ : ByteArray), .slice none 0 0]) (t := 27) ?hr ?_; (case hd => rfl); (case hg => rfl); (case hr => first | (go_simp; done) | (go_simp; rfl)); intro gb139 hg w43 hbox hb; have n0_ := Aside0.mk (Kd.R_below (by (with_reducible repeat (first | apply Kd.R_alloc | apply Kd.R_drewN | apply Kd.R_drew)); exact HO_8.out) hb); have n1_ := Aside0.mk (Kd.R_below (Kd.R_elderB (by (with_reducible repeat (first | apply Kd.R_alloc | apply Kd.R_drewN | apply Kd.R_drew)); exact HO128.out) gb139 (Nat.le_of_eq hg.symm)) hb); have n2_ := Aside0.mk (Kd.R_below (Kd.R_elderB (by (with_reducible repeat (first | apply Kd.R_alloc | apply Kd.R_drewN | apply Kd.R_drew)); exact HO138.out) gb139 (Nat.le_of_eq hg.symm)) hb); have n3_ := Aside0.mk (below_step (by repeat (first | (with_reducible first | exact HB.out | apply below_alloc | apply pw_below_drewN | apply below_drew1) | exact HB.out)) hb); have n4_ := Aside0.mk (hbox); have n5_ := Aside0.mk ((by rw [hg]; exact (below_size (by repeat (first | (with_reducible first | exact HB.out | apply below_alloc | apply pw_below_drewN | apply below_drew1) | exact HB.out))) : w.heap.size ≤ gb139)); have n6_ := Aside0.mk ((by rw [hg]; exact (below_size (by repeat (first | (with_reducible first | exact HB.out | apply below_alloc | apply pw_below_drewN | apply below_drew1) | exact HB.out))) : w.heap.size ≤ gb139)); clear HO_8; clear HO128; clear HO138; clear HB; have HO_8 := n0_; have HO128 := n1_; have HO138 := n2_; have HB := n3_; have BK139 := n4_; have GW139 := n5_; have GE139 := n6_; clear n0_ n1_ n2_ n3_ n4_ n5_ n6_; clear hb hbox hg) | ((with_reducible refine gate_dst (N := 12) rfl ?_); (try (refine gate_guard (by rfl) ?_; dsimp only)); refine box_event ?hg (N := 12) ?hd (cs := #[.int .i64 0, .int .i64 0, .bool false, .bool false, .string (⟨#[]⟩ : ByteArray), .string (⟨#[]⟩ : ByteArray), .string (⟨#[]⟩ : ByteArray), .slice none 0 0]) (t := 27) ?hr ?_; (case hd => rfl); (case hg => rfl); (case hr => first | (go_simp; done) | (go_simp; rfl)); intro gb140 hg w44 hbox hb; have n0_ := Aside0.mk (Kd.R_below (by (with_reducible repeat (first | apply Kd.R_alloc | apply Kd.R_drewN | apply Kd.R_drew)); exact HO_8.out) hb); have n1_ := Aside0.mk (Kd.R_below (Kd.R_elderB (by (with_reducible repeat (first | apply Kd.R_alloc | apply Kd.R_drewN | apply Kd.R_drew)); exact HO128.out) gb140 (Nat.le_of_eq hg.symm)) hb); have n2_ := Aside0.mk (Kd.R_below (Kd.R_elderB (by (with_reducible repeat (first | apply Kd.R_alloc | apply Kd.R_drewN | apply Kd.R_drew)); exact HO138.out) gb140 (Nat.le_of_eq hg.symm)) hb); have n3_ := Aside0.mk (blk_below (g := gb139) (o := .cells #[.int .i64 0, .int .i64 0, .bool false, .bool false, .string (⟨#[]⟩ : ByteArray), .string (⟨#[]⟩ : ByteArray), .string (⟨#[]⟩ : ByteArray), .slice none 0 0] 27 (0, 0)) (by (with_reducible repeat (first | refine blk_drewN ?_ _ | refine blk_drew ?_ | refine blk_alloc ?_ _)); exact BK139.out) hb); have n4_ := Aside0.mk (below_step (by repeat (first | (with_reducible first | exact HB.out | apply below_alloc | apply pw_below_drewN | apply below_drew1 | refine below_set ?_ GE139.out) | exact HB.out)) hb); have n5_ := Aside0.mk (hbox); have n6_ := Aside0.mk ((by rw [hg]; exact (below_size (by repeat (first | (with_reducible first | exact HB.out | apply below_alloc | apply pw_below_drewN | apply below_drew1 | refine below_set ?_ GE139.out) | exact HB.out))) : w.heap.size ≤ gb140)); have n7_ := Aside0.mk ((by rw [hg]; exact (below_size (by repeat (first | (with_reducible first | exact HB.out | apply below_alloc | apply pw_below_drewN | apply below_drew1 | refine below_set ?_ GE139.out) | exact HB.out))) : w.heap.size ≤ gb140)); have n8_ := Aside0.mk ((by rw [hg]; exact Nat.ne_of_lt (blk_lt (g := gb139) (o := .cells #[.int .i64 0, .int .i64 0, .bool false, .bool false, .string (⟨#[]⟩ : ByteArray), .string (⟨#[]⟩ : ByteArray), .string (⟨#[]⟩ : ByteArray), .slice none 0 0] 27 (0, 0)) (by (with_reducible repeat (first | refine blk_drewN ?_ _ | refine blk_drew ?_ | refine blk_alloc ?_ _)); exact BK139.out)) : gb139 ≠ gb140)); have n9_ := Aside0.mk ((by rw [hg]; exact Nat.ne_of_gt (blk_lt (g := gb139) (o := .cells #[.int .i64 0, .int .i64 0, .bool false, .bool false, .string (⟨#[]⟩ : ByteArray), .string (⟨#[]⟩ : ByteArray), .string (⟨#[]⟩ : ByteArray), .slice none 0 0] 27 (0, 0)) (by (with_reducible repeat (first | refine blk_drewN ?_ _ | refine blk_drew ?_ | refine blk_alloc ?_ _)); exact BK139.out)) : gb140 ≠ gb139)); clear HO_8; clear HO128; clear HO138; clear BK139; clear HB; have HO_8 := n0_; have HO128 := n1_; have HO138 := n2_; have BK139 := n3_; have HB := n4_; have BK140 := n5_; have GW140 := n6_; have GE140 := n7_; have NB139_140 := n8_; have NB140_139 := n9_; clear n0_ n1_ n2_ n3_ n4_ n5_ n6_ n7_ n8_ n9_; clear hb hbox hg; have hnb45 := NB139_140.out; have hnc45 := NB140_139.out; have hcz46_0 : w44.cell? ⟨gb139, 0, none⟩ = some (.int .i64 0) := (blk_cell BK139.out 0).trans rfl; have hcz46_1 : w44.cell? ⟨gb139, 1, none⟩ = some (.int .i64 0) := (blk_cell BK139.out 1).trans rfl; have hcz46_2 : w44.cell? ⟨gb139, 2, none⟩ = some (.bool false) := (blk_cell BK139.out 2).trans rfl; have hcz46_3 : w44.cell? ⟨gb139, 3, none⟩ = some (.bool false) := (blk_cell BK139.out 3).trans rfl; have hcz46_4 : w44.cell? ⟨gb139, 4, none⟩ = some (.string (⟨#[]⟩ : ByteArray)) := (blk_cell BK139.out 4).trans rfl; have hcz46_5 : w44.cell? ⟨gb139, 5, none⟩ = some (.string (⟨#[]⟩ : ByteArray)) := (blk_cell BK139.out 5).trans rfl; have hcz46_6 : w44.cell? ⟨gb139, 6, none⟩ = some (.string (⟨#[]⟩ : ByteArray)) := (blk_cell BK139.out 6).trans rfl; have hcz46_7 : w44.cell? ⟨gb139, 7, none⟩ = some (.slice none 0 0) := (blk_cell BK139.out 7).trans rfl; have hfz46_0 := blk_frozen BK139.out 0; have hfz46_1 := blk_frozen BK139.out 1; have hfz46_2 := blk_frozen BK139.out 2; have hfz46_3 := blk_frozen BK139.out 3; have hfz46_4 := blk_frozen BK139.out 4; have hfz46_5 := blk_frozen BK139.out 5; have hfz46_6 := blk_frozen BK139.out 6; have hfz46_7 := blk_frozen BK139.out 7; obtain ⟨Ao47, co47, eo47⟩ := Kd.R_slice HO128.out; subst eo47; have hcz48_0 : w44.cell? ⟨gb140, 0, none⟩ = some (.int .i64 0) := (blk_cell BK140.out 0).trans rfl; have hcz48_1 : w44.cell? ⟨gb140, 1, none⟩ = some (.int .i64 0) := (blk_cell BK140.out 1).trans rfl; have hcz48_2 : w44.cell? ⟨gb140, 2, none⟩ = some (.bool false) := (blk_cell BK140.out 2).trans rfl; have hcz48_3 : w44.cell? ⟨gb140, 3, none⟩ = some (.bool false) := (blk_cell BK140.out 3).trans rfl; have hcz48_4 : w44.cell? ⟨gb140, 4, none⟩ = some (.string (⟨#[]⟩ : ByteArray)) := (blk_cell BK140.out 4).trans rfl; have hcz48_5 : w44.cell? ⟨gb140, 5, none⟩ = some (.string (⟨#[]⟩ : ByteArray)) := (blk_cell BK140.out 5).trans rfl; have hcz48_6 : w44.cell? ⟨gb140, 6, none⟩ = some (.string (⟨#[]⟩ : ByteArray)) := (blk_cell BK140.out 6).trans rfl; have hcz48_7 : w44.cell? ⟨gb140, 7, none⟩ = some (.slice none 0 0) := (blk_cell BK140.out 7).trans rfl; have hfz48_0 := blk_frozen BK140.out 0; have hfz48_1 := blk_frozen BK140.out 1; have hfz48_2 := blk_frozen BK140.out 2; have hfz48_3 := blk_frozen BK140.out 3; have hfz48_4 := blk_frozen BK140.out 4; have hfz48_5 := blk_frozen BK140.out 5; have hfz48_6 := blk_frozen BK140.out 6; have hfz48_7 := blk_frozen BK140.out 7; obtain ⟨Ao49, co49, eo49⟩ := Kd.R_slice HO138.out; subst eo49))
                (try simp only [Act.put, List.setIfInBounds_toArray, List.set_cons_zero, List.set_cons_succ])
                go_cut [103] (fun v103 wc => ∃ (kq : Nat) (x103_38 : Bool), v103 = .bool x103_38 ∧ Aside0 (rubricatorlaw19_BlockItems.j3 kq x8_2 x103_38 t119 t120 t121 t122 t123 t124 t125 t126 t129 t130 t131 t132 t133 t134 t135 t136 = some r) ∧ Aside0 (kq ≤ k2) ∧ Aside0 (Kd.R Kd.string 9 wc w.heap.size (fun _ => True) (.slice Ao40 x8_2.length co40) x8_2) ∧ Aside0 (Kd.R k27 27 wc w.heap.size (fun k_ => some k_ ≠ ((.slice Ao49 t136.length co49) : Value).ownBlock ∧ k_ ≠ gb139 ∧ k_ ≠ gb140) (.slice Ao47 t126.length co47) t126) ∧ Aside0 (Kd.R k27 27 wc w.heap.size (fun k_ => some k_ ≠ ((.slice Ao47 t126.length co47) : Value).ownBlock ∧ k_ ≠ gb139 ∧ k_ ≠ gb140) (.slice Ao49 t136.length co49) t136) ∧ Aside0 (wc.heap[gb139]? = some (.cells #[.int .i64 t119, .int .i64 t120, .bool t121, .bool t122, .string t123, .string t124, .string t125, (.slice Ao47 t126.length co47)] 27 (0, 0))) ∧ Aside0 (wc.heap[gb140]? = some (.cells #[.int .i64 t129, .int .i64 t130, .bool t131, .bool t132, .string t133, .string t134, .string t135, (.slice Ao49 t136.length co49)] 27 (0, 0))) ∧ Aside0 (Below w.heap.size w wc))
                case first =>
                  have H := HC39.out
                  clear HC39
                  by_cases c50 : (t126.length : Int) = 1
                  · rw [if_pos c50] at H
                    have c50b0 : ((t126.length : Int) == 1) = true := beq_iff_eq.mpr c50
                    have c50b1 : ((t126.length : Int) != 1) = false := bne_eq_false_iff_eq.mpr c50
                    clear c50
                    (first | rw [c50b0] | (simp only [i64_w, i32_w]; rw [c50b0]) | skip)
                    by_cases c51 : 0 < (t126.length : Int)
                    case neg => rw [if_neg c51] at H; exact absurd H (by simp)
                    rw [if_pos c51] at H
                    have c51b0 : decide (0 < (t126.length : Int)) = true := decide_eq_true c51
                    have c51b1 : decide (0 < t126.length) = true := decide_eq_true (by omega)
                    clear c51
                    have H' := Aside0.mk H
                    clear H
                    have hnb52 := NB139_140.out
                    have hnc52 := NB140_139.out
                    have hcz53_0 : w44.cell? ⟨gb139, 0, none⟩ = some (.int .i64 0) := (blk_cell BK139.out 0).trans rfl
                    have hcz53_1 : w44.cell? ⟨gb139, 1, none⟩ = some (.int .i64 0) := (blk_cell BK139.out 1).trans rfl
                    have hcz53_2 : w44.cell? ⟨gb139, 2, none⟩ = some (.bool false) := (blk_cell BK139.out 2).trans rfl
                    have hcz53_3 : w44.cell? ⟨gb139, 3, none⟩ = some (.bool false) := (blk_cell BK139.out 3).trans rfl
                    have hcz53_4 : w44.cell? ⟨gb139, 4, none⟩ = some (.string (⟨#[]⟩ : ByteArray)) := (blk_cell BK139.out 4).trans rfl
                    have hcz53_5 : w44.cell? ⟨gb139, 5, none⟩ = some (.string (⟨#[]⟩ : ByteArray)) := (blk_cell BK139.out 5).trans rfl
                    have hcz53_6 : w44.cell? ⟨gb139, 6, none⟩ = some (.string (⟨#[]⟩ : ByteArray)) := (blk_cell BK139.out 6).trans rfl
                    have hcz53_7 : w44.cell? ⟨gb139, 7, none⟩ = some (.slice none 0 0) := (blk_cell BK139.out 7).trans rfl
                    have hfz53_0 := blk_frozen BK139.out 0
                    have hfz53_1 := blk_frozen BK139.out 1
                    have hfz53_2 := blk_frozen BK139.out 2
                    have hfz53_3 := blk_frozen BK139.out 3
                    have hfz53_4 := blk_frozen BK139.out 4
                    have hfz53_5 := blk_frozen BK139.out 5
                    have hfz53_6 := blk_frozen BK139.out 6
                    have hfz53_7 := blk_frozen BK139.out 7
                    have p141 : 0 ≤ (0 : Int) := (by omega)
                    have q141 : 0 < (t126.length : Int) := of_decide_eq_true (by first | (with_reducible assumption) | assumption)
                    obtain ⟨ad141, A141_7, c141_7, e141, hx141_0, hx141_1, hx141_2, hx141_3, hx141_4, hx141_5, hx141_6, hx141_7, hl141_7, hi141_7⟩ := at_T27 (Kd.R_reads' HO128.out).2.2 0 p141 q141
                    cases e141
                    have qi141 : (0 < t126.length) = True := eq_true (by omega)
                    (try rw [show ((0 : Int)).toNat = 0 from rfl] at hx141_0)
                    (try rw [show 0 * 8 = 0 from rfl] at hx141_0)
                    (try rw [Addr.add_zero'] at hx141_0)
                    (try rw [show ((0 : Int)).toNat = 0 from rfl] at hx141_1)
                    (try rw [show 0 * 8 = 0 from rfl] at hx141_1)
                    (try rw [Addr.add_zero'] at hx141_1)
                    (try rw [show ((0 : Int)).toNat = 0 from rfl] at hx141_2)
                    (try rw [show 0 * 8 = 0 from rfl] at hx141_2)
                    (try rw [Addr.add_zero'] at hx141_2)
                    (try rw [show ((0 : Int)).toNat = 0 from rfl] at hx141_3)
                    (try rw [show 0 * 8 = 0 from rfl] at hx141_3)
                    (try rw [Addr.add_zero'] at hx141_3)
                    (try rw [show ((0 : Int)).toNat = 0 from rfl] at hx141_4)
                    (try rw [show 0 * 8 = 0 from rfl] at hx141_4)
                    (try rw [Addr.add_zero'] at hx141_4)
                    (try rw [show ((0 : Int)).toNat = 0 from rfl] at hx141_5)
                    (try rw [show 0 * 8 = 0 from rfl] at hx141_5)
                    (try rw [Addr.add_zero'] at hx141_5)
                    (try rw [show ((0 : Int)).toNat = 0 from rfl] at hx141_6)
                    (try rw [show 0 * 8 = 0 from rfl] at hx141_6)
                    (try rw [Addr.add_zero'] at hx141_6)
                    (try rw [show ((0 : Int)).toNat = 0 from rfl] at hx141_7)
                    (try rw [show 0 * 8 = 0 from rfl] at hx141_7)
                    (try rw [Addr.add_zero'] at hx141_7)
                    have hn141_0 : ad141.block ≠ gb139 := (by have z := HO128.out.1 ad141.block (by simp [Value.ownBlock]); first | exact z.2 | exact z.1.2 | exact z.1.1.2 | exact z.2.1 | exact z.2.2 | exact z.2.2.1)
                    have hn141_1 : ad141.block ≠ gb139 := (by have z := HO128.out.1 ad141.block (by simp [Value.ownBlock]); first | exact z.2 | exact z.1.2 | exact z.1.1.2 | exact z.2.1 | exact z.2.2 | exact z.2.2.1)
                    have hn141_2 : ad141.block ≠ gb139 := (by have z := HO128.out.1 ad141.block (by simp [Value.ownBlock]); first | exact z.2 | exact z.1.2 | exact z.1.1.2 | exact z.2.1 | exact z.2.2 | exact z.2.2.1)
                    have hn141_3 : ad141.block ≠ gb139 := (by have z := HO128.out.1 ad141.block (by simp [Value.ownBlock]); first | exact z.2 | exact z.1.2 | exact z.1.1.2 | exact z.2.1 | exact z.2.2 | exact z.2.2.1)
                    have hn141_4 : ad141.block ≠ gb139 := (by have z := HO128.out.1 ad141.block (by simp [Value.ownBlock]); first | exact z.2 | exact z.1.2 | exact z.1.1.2 | exact z.2.1 | exact z.2.2 | exact z.2.2.1)
                    have hn141_5 : ad141.block ≠ gb139 := (by have z := HO128.out.1 ad141.block (by simp [Value.ownBlock]); first | exact z.2 | exact z.1.2 | exact z.1.1.2 | exact z.2.1 | exact z.2.2 | exact z.2.2.1)
                    have hn141_6 : ad141.block ≠ gb139 := (by have z := HO128.out.1 ad141.block (by simp [Value.ownBlock]); first | exact z.2 | exact z.1.2 | exact z.1.1.2 | exact z.2.1 | exact z.2.2 | exact z.2.2.1)
                    have hn141_7 : ad141.block ≠ gb139 := (by have z := HO128.out.1 ad141.block (by simp [Value.ownBlock]); first | exact z.2 | exact z.1.2 | exact z.1.1.2 | exact z.2.1 | exact z.2.2 | exact z.2.2.1)
                    have hn141_8 : ad141.block ≠ gb140 := (by have z := HO128.out.1 ad141.block (by simp [Value.ownBlock]); first | exact z.2 | exact z.1.2 | exact z.1.1.2 | exact z.2.1 | exact z.2.2 | exact z.2.2.1)
                    have hn141_9 : ad141.block ≠ gb140 := (by have z := HO128.out.1 ad141.block (by simp [Value.ownBlock]); first | exact z.2 | exact z.1.2 | exact z.1.1.2 | exact z.2.1 | exact z.2.2 | exact z.2.2.1)
                    have hn141_10 : ad141.block ≠ gb140 := (by have z := HO128.out.1 ad141.block (by simp [Value.ownBlock]); first | exact z.2 | exact z.1.2 | exact z.1.1.2 | exact z.2.1 | exact z.2.2 | exact z.2.2.1)
                    have hn141_11 : ad141.block ≠ gb140 := (by have z := HO128.out.1 ad141.block (by simp [Value.ownBlock]); first | exact z.2 | exact z.1.2 | exact z.1.1.2 | exact z.2.1 | exact z.2.2 | exact z.2.2.1)
                    have hn141_12 : ad141.block ≠ gb140 := (by have z := HO128.out.1 ad141.block (by simp [Value.ownBlock]); first | exact z.2 | exact z.1.2 | exact z.1.1.2 | exact z.2.1 | exact z.2.2 | exact z.2.2.1)
                    have hn141_13 : ad141.block ≠ gb140 := (by have z := HO128.out.1 ad141.block (by simp [Value.ownBlock]); first | exact z.2 | exact z.1.2 | exact z.1.1.2 | exact z.2.1 | exact z.2.2 | exact z.2.2.1)
                    have hn141_14 : ad141.block ≠ gb140 := (by have z := HO128.out.1 ad141.block (by simp [Value.ownBlock]); first | exact z.2 | exact z.1.2 | exact z.1.1.2 | exact z.2.1 | exact z.2.2 | exact z.2.2.1)
                    have hn141_15 : ad141.block ≠ gb140 := (by have z := HO128.out.1 ad141.block (by simp [Value.ownBlock]); first | exact z.2 | exact z.1.2 | exact z.1.1.2 | exact z.2.1 | exact z.2.2 | exact z.2.2.1)
                    have HR141_7 := Aside0.mk hi141_7
                    have HC141_7 := Aside0.mk hl141_7
                    clear hi141_7 hl141_7
                    replace hx141_0 := (cell_far (p := ⟨gb139, 0, none⟩) (by first | (rw [add_block]; exact hn141_0) | (show (Addr.add _ _).block ≠ _; rw [add_block]; exact hn141_0) | exact hn141_0) (.int .i64 t119)).trans hx141_0
                    replace hx141_1 := (cell_far (p := ⟨gb139, 0, none⟩) (by first | (rw [add_block]; exact hn141_0) | (show (Addr.add _ _).block ≠ _; rw [add_block]; exact hn141_0) | exact hn141_0) (.int .i64 t119)).trans hx141_1
                    replace hx141_2 := (cell_far (p := ⟨gb139, 0, none⟩) (by first | (rw [add_block]; exact hn141_0) | (show (Addr.add _ _).block ≠ _; rw [add_block]; exact hn141_0) | exact hn141_0) (.int .i64 t119)).trans hx141_2
                    replace hx141_3 := (cell_far (p := ⟨gb139, 0, none⟩) (by first | (rw [add_block]; exact hn141_0) | (show (Addr.add _ _).block ≠ _; rw [add_block]; exact hn141_0) | exact hn141_0) (.int .i64 t119)).trans hx141_3
                    replace hx141_4 := (cell_far (p := ⟨gb139, 0, none⟩) (by first | (rw [add_block]; exact hn141_0) | (show (Addr.add _ _).block ≠ _; rw [add_block]; exact hn141_0) | exact hn141_0) (.int .i64 t119)).trans hx141_4
                    replace hx141_5 := (cell_far (p := ⟨gb139, 0, none⟩) (by first | (rw [add_block]; exact hn141_0) | (show (Addr.add _ _).block ≠ _; rw [add_block]; exact hn141_0) | exact hn141_0) (.int .i64 t119)).trans hx141_5
                    replace hx141_6 := (cell_far (p := ⟨gb139, 0, none⟩) (by first | (rw [add_block]; exact hn141_0) | (show (Addr.add _ _).block ≠ _; rw [add_block]; exact hn141_0) | exact hn141_0) (.int .i64 t119)).trans hx141_6
                    replace hx141_7 := (cell_far (p := ⟨gb139, 0, none⟩) (by first | (rw [add_block]; exact hn141_0) | (show (Addr.add _ _).block ≠ _; rw [add_block]; exact hn141_0) | exact hn141_0) (.int .i64 t119)).trans hx141_7
                    replace hx141_0 := (cell_far (p := ⟨gb139, 1, none⟩) (by first | (rw [add_block]; exact hn141_1) | (show (Addr.add _ _).block ≠ _; rw [add_block]; exact hn141_1) | exact hn141_1) (.int .i64 t120)).trans hx141_0
                    replace hx141_1 := (cell_far (p := ⟨gb139, 1, none⟩) (by first | (rw [add_block]; exact hn141_1) | (show (Addr.add _ _).block ≠ _; rw [add_block]; exact hn141_1) | exact hn141_1) (.int .i64 t120)).trans hx141_1
                    replace hx141_2 := (cell_far (p := ⟨gb139, 1, none⟩) (by first | (rw [add_block]; exact hn141_1) | (show (Addr.add _ _).block ≠ _; rw [add_block]; exact hn141_1) | exact hn141_1) (.int .i64 t120)).trans hx141_2
                    replace hx141_3 := (cell_far (p := ⟨gb139, 1, none⟩) (by first | (rw [add_block]; exact hn141_1) | (show (Addr.add _ _).block ≠ _; rw [add_block]; exact hn141_1) | exact hn141_1) (.int .i64 t120)).trans hx141_3
                    replace hx141_4 := (cell_far (p := ⟨gb139, 1, none⟩) (by first | (rw [add_block]; exact hn141_1) | (show (Addr.add _ _).block ≠ _; rw [add_block]; exact hn141_1) | exact hn141_1) (.int .i64 t120)).trans hx141_4
                    replace hx141_5 := (cell_far (p := ⟨gb139, 1, none⟩) (by first | (rw [add_block]; exact hn141_1) | (show (Addr.add _ _).block ≠ _; rw [add_block]; exact hn141_1) | exact hn141_1) (.int .i64 t120)).trans hx141_5
                    replace hx141_6 := (cell_far (p := ⟨gb139, 1, none⟩) (by first | (rw [add_block]; exact hn141_1) | (show (Addr.add _ _).block ≠ _; rw [add_block]; exact hn141_1) | exact hn141_1) (.int .i64 t120)).trans hx141_6
                    replace hx141_7 := (cell_far (p := ⟨gb139, 1, none⟩) (by first | (rw [add_block]; exact hn141_1) | (show (Addr.add _ _).block ≠ _; rw [add_block]; exact hn141_1) | exact hn141_1) (.int .i64 t120)).trans hx141_7
                    replace hx141_0 := (cell_far (p := ⟨gb139, 2, none⟩) (by first | (rw [add_block]; exact hn141_2) | (show (Addr.add _ _).block ≠ _; rw [add_block]; exact hn141_2) | exact hn141_2) (.bool t121)).trans hx141_0
                    replace hx141_1 := (cell_far (p := ⟨gb139, 2, none⟩) (by first | (rw [add_block]; exact hn141_2) | (show (Addr.add _ _).block ≠ _; rw [add_block]; exact hn141_2) | exact hn141_2) (.bool t121)).trans hx141_1
                    replace hx141_2 := (cell_far (p := ⟨gb139, 2, none⟩) (by first | (rw [add_block]; exact hn141_2) | (show (Addr.add _ _).block ≠ _; rw [add_block]; exact hn141_2) | exact hn141_2) (.bool t121)).trans hx141_2
                    replace hx141_3 := (cell_far (p := ⟨gb139, 2, none⟩) (by first | (rw [add_block]; exact hn141_2) | (show (Addr.add _ _).block ≠ _; rw [add_block]; exact hn141_2) | exact hn141_2) (.bool t121)).trans hx141_3
                    replace hx141_4 := (cell_far (p := ⟨gb139, 2, none⟩) (by first | (rw [add_block]; exact hn141_2) | (show (Addr.add _ _).block ≠ _; rw [add_block]; exact hn141_2) | exact hn141_2) (.bool t121)).trans hx141_4
                    replace hx141_5 := (cell_far (p := ⟨gb139, 2, none⟩) (by first | (rw [add_block]; exact hn141_2) | (show (Addr.add _ _).block ≠ _; rw [add_block]; exact hn141_2) | exact hn141_2) (.bool t121)).trans hx141_5
                    replace hx141_6 := (cell_far (p := ⟨gb139, 2, none⟩) (by first | (rw [add_block]; exact hn141_2) | (show (Addr.add _ _).block ≠ _; rw [add_block]; exact hn141_2) | exact hn141_2) (.bool t121)).trans hx141_6
                    replace hx141_7 := (cell_far (p := ⟨gb139, 2, none⟩) (by first | (rw [add_block]; exact hn141_2) | (show (Addr.add _ _).block ≠ _; rw [add_block]; exact hn141_2) | exact hn141_2) (.bool t121)).trans hx141_7
                    replace hx141_0 := (cell_far (p := ⟨gb139, 3, none⟩) (by first | (rw [add_block]; exact hn141_3) | (show (Addr.add _ _).block ≠ _; rw [add_block]; exact hn141_3) | exact hn141_3) (.bool t122)).trans hx141_0
                    replace hx141_1 := (cell_far (p := ⟨gb139, 3, none⟩) (by first | (rw [add_block]; exact hn141_3) | (show (Addr.add _ _).block ≠ _; rw [add_block]; exact hn141_3) | exact hn141_3) (.bool t122)).trans hx141_1
                    replace hx141_2 := (cell_far (p := ⟨gb139, 3, none⟩) (by first | (rw [add_block]; exact hn141_3) | (show (Addr.add _ _).block ≠ _; rw [add_block]; exact hn141_3) | exact hn141_3) (.bool t122)).trans hx141_2
                    replace hx141_3 := (cell_far (p := ⟨gb139, 3, none⟩) (by first | (rw [add_block]; exact hn141_3) | (show (Addr.add _ _).block ≠ _; rw [add_block]; exact hn141_3) | exact hn141_3) (.bool t122)).trans hx141_3
                    replace hx141_4 := (cell_far (p := ⟨gb139, 3, none⟩) (by first | (rw [add_block]; exact hn141_3) | (show (Addr.add _ _).block ≠ _; rw [add_block]; exact hn141_3) | exact hn141_3) (.bool t122)).trans hx141_4
                    replace hx141_5 := (cell_far (p := ⟨gb139, 3, none⟩) (by first | (rw [add_block]; exact hn141_3) | (show (Addr.add _ _).block ≠ _; rw [add_block]; exact hn141_3) | exact hn141_3) (.bool t122)).trans hx141_5
                    replace hx141_6 := (cell_far (p := ⟨gb139, 3, none⟩) (by first | (rw [add_block]; exact hn141_3) | (show (Addr.add _ _).block ≠ _; rw [add_block]; exact hn141_3) | exact hn141_3) (.bool t122)).trans hx141_6
                    replace hx141_7 := (cell_far (p := ⟨gb139, 3, none⟩) (by first | (rw [add_block]; exact hn141_3) | (show (Addr.add _ _).block ≠ _; rw [add_block]; exact hn141_3) | exact hn141_3) (.bool t122)).trans hx141_7
                    replace hx141_0 := (cell_far (p := ⟨gb139, 4, none⟩) (by first | (rw [add_block]; exact hn141_4) | (show (Addr.add _ _).block ≠ _; rw [add_block]; exact hn141_4) | exact hn141_4) (.string t123)).trans hx141_0
                    replace hx141_1 := (cell_far (p := ⟨gb139, 4, none⟩) (by first | (rw [add_block]; exact hn141_4) | (show (Addr.add _ _).block ≠ _; rw [add_block]; exact hn141_4) | exact hn141_4) (.string t123)).trans hx141_1
                    replace hx141_2 := (cell_far (p := ⟨gb139, 4, none⟩) (by first | (rw [add_block]; exact hn141_4) | (show (Addr.add _ _).block ≠ _; rw [add_block]; exact hn141_4) | exact hn141_4) (.string t123)).trans hx141_2
                    replace hx141_3 := (cell_far (p := ⟨gb139, 4, none⟩) (by first | (rw [add_block]; exact hn141_4) | (show (Addr.add _ _).block ≠ _; rw [add_block]; exact hn141_4) | exact hn141_4) (.string t123)).trans hx141_3
                    replace hx141_4 := (cell_far (p := ⟨gb139, 4, none⟩) (by first | (rw [add_block]; exact hn141_4) | (show (Addr.add _ _).block ≠ _; rw [add_block]; exact hn141_4) | exact hn141_4) (.string t123)).trans hx141_4
                    replace hx141_5 := (cell_far (p := ⟨gb139, 4, none⟩) (by first | (rw [add_block]; exact hn141_4) | (show (Addr.add _ _).block ≠ _; rw [add_block]; exact hn141_4) | exact hn141_4) (.string t123)).trans hx141_5
                    replace hx141_6 := (cell_far (p := ⟨gb139, 4, none⟩) (by first | (rw [add_block]; exact hn141_4) | (show (Addr.add _ _).block ≠ _; rw [add_block]; exact hn141_4) | exact hn141_4) (.string t123)).trans hx141_6
                    replace hx141_7 := (cell_far (p := ⟨gb139, 4, none⟩) (by first | (rw [add_block]; exact hn141_4) | (show (Addr.add _ _).block ≠ _; rw [add_block]; exact hn141_4) | exact hn141_4) (.string t123)).trans hx141_7
                    replace hx141_0 := (cell_far (p := ⟨gb139, 5, none⟩) (by first | (rw [add_block]; exact hn141_5) | (show (Addr.add _ _).block ≠ _; rw [add_block]; exact hn141_5) | exact hn141_5) (.string t124)).trans hx141_0
                    replace hx141_1 := (cell_far (p := ⟨gb139, 5, none⟩) (by first | (rw [add_block]; exact hn141_5) | (show (Addr.add _ _).block ≠ _; rw [add_block]; exact hn141_5) | exact hn141_5) (.string t124)).trans hx141_1
                    replace hx141_2 := (cell_far (p := ⟨gb139, 5, none⟩) (by first | (rw [add_block]; exact hn141_5) | (show (Addr.add _ _).block ≠ _; rw [add_block]; exact hn141_5) | exact hn141_5) (.string t124)).trans hx141_2
                    replace hx141_3 := (cell_far (p := ⟨gb139, 5, none⟩) (by first | (rw [add_block]; exact hn141_5) | (show (Addr.add _ _).block ≠ _; rw [add_block]; exact hn141_5) | exact hn141_5) (.string t124)).trans hx141_3
                    replace hx141_4 := (cell_far (p := ⟨gb139, 5, none⟩) (by first | (rw [add_block]; exact hn141_5) | (show (Addr.add _ _).block ≠ _; rw [add_block]; exact hn141_5) | exact hn141_5) (.string t124)).trans hx141_4
                    replace hx141_5 := (cell_far (p := ⟨gb139, 5, none⟩) (by first | (rw [add_block]; exact hn141_5) | (show (Addr.add _ _).block ≠ _; rw [add_block]; exact hn141_5) | exact hn141_5) (.string t124)).trans hx141_5
                    replace hx141_6 := (cell_far (p := ⟨gb139, 5, none⟩) (by first | (rw [add_block]; exact hn141_5) | (show (Addr.add _ _).block ≠ _; rw [add_block]; exact hn141_5) | exact hn141_5) (.string t124)).trans hx141_6
                    replace hx141_7 := (cell_far (p := ⟨gb139, 5, none⟩) (by first | (rw [add_block]; exact hn141_5) | (show (Addr.add _ _).block ≠ _; rw [add_block]; exact hn141_5) | exact hn141_5) (.string t124)).trans hx141_7
                    replace hx141_0 := (cell_far (p := ⟨gb139, 6, none⟩) (by first | (rw [add_block]; exact hn141_6) | (show (Addr.add _ _).block ≠ _; rw [add_block]; exact hn141_6) | exact hn141_6) (.string t125)).trans hx141_0
                    replace hx141_1 := (cell_far (p := ⟨gb139, 6, none⟩) (by first | (rw [add_block]; exact hn141_6) | (show (Addr.add _ _).block ≠ _; rw [add_block]; exact hn141_6) | exact hn141_6) (.string t125)).trans hx141_1
                    replace hx141_2 := (cell_far (p := ⟨gb139, 6, none⟩) (by first | (rw [add_block]; exact hn141_6) | (show (Addr.add _ _).block ≠ _; rw [add_block]; exact hn141_6) | exact hn141_6) (.string t125)).trans hx141_2
                    replace hx141_3 := (cell_far (p := ⟨gb139, 6, none⟩) (by first | (rw [add_block]; exact hn141_6) | (show (Addr.add _ _).block ≠ _; rw [add_block]; exact hn141_6) | exact hn141_6) (.string t125)).trans hx141_3
                    replace hx141_4 := (cell_far (p := ⟨gb139, 6, none⟩) (by first | (rw [add_block]; exact hn141_6) | (show (Addr.add _ _).block ≠ _; rw [add_block]; exact hn141_6) | exact hn141_6) (.string t125)).trans hx141_4
                    replace hx141_5 := (cell_far (p := ⟨gb139, 6, none⟩) (by first | (rw [add_block]; exact hn141_6) | (show (Addr.add _ _).block ≠ _; rw [add_block]; exact hn141_6) | exact hn141_6) (.string t125)).trans hx141_5
                    replace hx141_6 := (cell_far (p := ⟨gb139, 6, none⟩) (by first | (rw [add_block]; exact hn141_6) | (show (Addr.add _ _).block ≠ _; rw [add_block]; exact hn141_6) | exact hn141_6) (.string t125)).trans hx141_6
                    replace hx141_7 := (cell_far (p := ⟨gb139, 6, none⟩) (by first | (rw [add_block]; exact hn141_6) | (show (Addr.add _ _).block ≠ _; rw [add_block]; exact hn141_6) | exact hn141_6) (.string t125)).trans hx141_7
                    replace hx141_0 := (cell_far (p := ⟨gb139, 7, none⟩) (by first | (rw [add_block]; exact hn141_7) | (show (Addr.add _ _).block ≠ _; rw [add_block]; exact hn141_7) | exact hn141_7) (.slice (some ad141) t126.length co47)).trans hx141_0
                    replace hx141_1 := (cell_far (p := ⟨gb139, 7, none⟩) (by first | (rw [add_block]; exact hn141_7) | (show (Addr.add _ _).block ≠ _; rw [add_block]; exact hn141_7) | exact hn141_7) (.slice (some ad141) t126.length co47)).trans hx141_1
                    replace hx141_2 := (cell_far (p := ⟨gb139, 7, none⟩) (by first | (rw [add_block]; exact hn141_7) | (show (Addr.add _ _).block ≠ _; rw [add_block]; exact hn141_7) | exact hn141_7) (.slice (some ad141) t126.length co47)).trans hx141_2
                    replace hx141_3 := (cell_far (p := ⟨gb139, 7, none⟩) (by first | (rw [add_block]; exact hn141_7) | (show (Addr.add _ _).block ≠ _; rw [add_block]; exact hn141_7) | exact hn141_7) (.slice (some ad141) t126.length co47)).trans hx141_3
                    replace hx141_4 := (cell_far (p := ⟨gb139, 7, none⟩) (by first | (rw [add_block]; exact hn141_7) | (show (Addr.add _ _).block ≠ _; rw [add_block]; exact hn141_7) | exact hn141_7) (.slice (some ad141) t126.length co47)).trans hx141_4
                    replace hx141_5 := (cell_far (p := ⟨gb139, 7, none⟩) (by first | (rw [add_block]; exact hn141_7) | (show (Addr.add _ _).block ≠ _; rw [add_block]; exact hn141_7) | exact hn141_7) (.slice (some ad141) t126.length co47)).trans hx141_5
                    replace hx141_6 := (cell_far (p := ⟨gb139, 7, none⟩) (by first | (rw [add_block]; exact hn141_7) | (show (Addr.add _ _).block ≠ _; rw [add_block]; exact hn141_7) | exact hn141_7) (.slice (some ad141) t126.length co47)).trans hx141_6
                    replace hx141_7 := (cell_far (p := ⟨gb139, 7, none⟩) (by first | (rw [add_block]; exact hn141_7) | (show (Addr.add _ _).block ≠ _; rw [add_block]; exact hn141_7) | exact hn141_7) (.slice (some ad141) t126.length co47)).trans hx141_7
                    replace hx141_0 := (cell_far (p := ⟨gb140, 0, none⟩) (by first | (rw [add_block]; exact hn141_8) | (show (Addr.add _ _).block ≠ _; rw [add_block]; exact hn141_8) | exact hn141_8) (.int .i64 t129)).trans hx141_0
                    replace hx141_1 := (cell_far (p := ⟨gb140, 0, none⟩) (by first | (rw [add_block]; exact hn141_8) | (show (Addr.add _ _).block ≠ _; rw [add_block]; exact hn141_8) | exact hn141_8) (.int .i64 t129)).trans hx141_1
                    replace hx141_2 := (cell_far (p := ⟨gb140, 0, none⟩) (by first | (rw [add_block]; exact hn141_8) | (show (Addr.add _ _).block ≠ _; rw [add_block]; exact hn141_8) | exact hn141_8) (.int .i64 t129)).trans hx141_2
                    replace hx141_3 := (cell_far (p := ⟨gb140, 0, none⟩) (by first | (rw [add_block]; exact hn141_8) | (show (Addr.add _ _).block ≠ _; rw [add_block]; exact hn141_8) | exact hn141_8) (.int .i64 t129)).trans hx141_3
                    replace hx141_4 := (cell_far (p := ⟨gb140, 0, none⟩) (by first | (rw [add_block]; exact hn141_8) | (show (Addr.add _ _).block ≠ _; rw [add_block]; exact hn141_8) | exact hn141_8) (.int .i64 t129)).trans hx141_4
                    replace hx141_5 := (cell_far (p := ⟨gb140, 0, none⟩) (by first | (rw [add_block]; exact hn141_8) | (show (Addr.add _ _).block ≠ _; rw [add_block]; exact hn141_8) | exact hn141_8) (.int .i64 t129)).trans hx141_5
                    replace hx141_6 := (cell_far (p := ⟨gb140, 0, none⟩) (by first | (rw [add_block]; exact hn141_8) | (show (Addr.add _ _).block ≠ _; rw [add_block]; exact hn141_8) | exact hn141_8) (.int .i64 t129)).trans hx141_6
                    replace hx141_7 := (cell_far (p := ⟨gb140, 0, none⟩) (by first | (rw [add_block]; exact hn141_8) | (show (Addr.add _ _).block ≠ _; rw [add_block]; exact hn141_8) | exact hn141_8) (.int .i64 t129)).trans hx141_7
                    replace hx141_0 := (cell_far (p := ⟨gb140, 1, none⟩) (by first | (rw [add_block]; exact hn141_9) | (show (Addr.add _ _).block ≠ _; rw [add_block]; exact hn141_9) | exact hn141_9) (.int .i64 t130)).trans hx141_0
                    replace hx141_1 := (cell_far (p := ⟨gb140, 1, none⟩) (by first | (rw [add_block]; exact hn141_9) | (show (Addr.add _ _).block ≠ _; rw [add_block]; exact hn141_9) | exact hn141_9) (.int .i64 t130)).trans hx141_1
                    replace hx141_2 := (cell_far (p := ⟨gb140, 1, none⟩) (by first | (rw [add_block]; exact hn141_9) | (show (Addr.add _ _).block ≠ _; rw [add_block]; exact hn141_9) | exact hn141_9) (.int .i64 t130)).trans hx141_2
                    replace hx141_3 := (cell_far (p := ⟨gb140, 1, none⟩) (by first | (rw [add_block]; exact hn141_9) | (show (Addr.add _ _).block ≠ _; rw [add_block]; exact hn141_9) | exact hn141_9) (.int .i64 t130)).trans hx141_3
                    replace hx141_4 := (cell_far (p := ⟨gb140, 1, none⟩) (by first | (rw [add_block]; exact hn141_9) | (show (Addr.add _ _).block ≠ _; rw [add_block]; exact hn141_9) | exact hn141_9) (.int .i64 t130)).trans hx141_4
                    replace hx141_5 := (cell_far (p := ⟨gb140, 1, none⟩) (by first | (rw [add_block]; exact hn141_9) | (show (Addr.add _ _).block ≠ _; rw [add_block]; exact hn141_9) | exact hn141_9) (.int .i64 t130)).trans hx141_5
                    replace hx141_6 := (cell_far (p := ⟨gb140, 1, none⟩) (by first | (rw [add_block]; exact hn141_9) | (show (Addr.add _ _).block ≠ _; rw [add_block]; exact hn141_9) | exact hn141_9) (.int .i64 t130)).trans hx141_6
                    replace hx141_7 := (cell_far (p := ⟨gb140, 1, none⟩) (by first | (rw [add_block]; exact hn141_9) | (show (Addr.add _ _).block ≠ _; rw [add_block]; exact hn141_9) | exact hn141_9) (.int .i64 t130)).trans hx141_7
                    replace hx141_0 := (cell_far (p := ⟨gb140, 2, none⟩) (by first | (rw [add_block]; exact hn141_10) | (show (Addr.add _ _).block ≠ _; rw [add_block]; exact hn141_10) | exact hn141_10) (.bool t131)).trans hx141_0
                    replace hx141_1 := (cell_far (p := ⟨gb140, 2, none⟩) (by first | (rw [add_block]; exact hn141_10) | (show (Addr.add _ _).block ≠ _; rw [add_block]; exact hn141_10) | exact hn141_10) (.bool t131)).trans hx141_1
                    replace hx141_2 := (cell_far (p := ⟨gb140, 2, none⟩) (by first | (rw [add_block]; exact hn141_10) | (show (Addr.add _ _).block ≠ _; rw [add_block]; exact hn141_10) | exact hn141_10) (.bool t131)).trans hx141_2
                    replace hx141_3 := (cell_far (p := ⟨gb140, 2, none⟩) (by first | (rw [add_block]; exact hn141_10) | (show (Addr.add _ _).block ≠ _; rw [add_block]; exact hn141_10) | exact hn141_10) (.bool t131)).trans hx141_3
                    replace hx141_4 := (cell_far (p := ⟨gb140, 2, none⟩) (by first | (rw [add_block]; exact hn141_10) | (show (Addr.add _ _).block ≠ _; rw [add_block]; exact hn141_10) | exact hn141_10) (.bool t131)).trans hx141_4
                    replace hx141_5 := (cell_far (p := ⟨gb140, 2, none⟩) (by first | (rw [add_block]; exact hn141_10) | (show (Addr.add _ _).block ≠ _; rw [add_block]; exact hn141_10) | exact hn141_10) (.bool t131)).trans hx141_5
                    replace hx141_6 := (cell_far (p := ⟨gb140, 2, none⟩) (by first | (rw [add_block]; exact hn141_10) | (show (Addr.add _ _).block ≠ _; rw [add_block]; exact hn141_10) | exact hn141_10) (.bool t131)).trans hx141_6
                    replace hx141_7 := (cell_far (p := ⟨gb140, 2, none⟩) (by first | (rw [add_block]; exact hn141_10) | (show (Addr.add _ _).block ≠ _; rw [add_block]; exact hn141_10) | exact hn141_10) (.bool t131)).trans hx141_7
                    replace hx141_0 := (cell_far (p := ⟨gb140, 3, none⟩) (by first | (rw [add_block]; exact hn141_11) | (show (Addr.add _ _).block ≠ _; rw [add_block]; exact hn141_11) | exact hn141_11) (.bool t132)).trans hx141_0
                    replace hx141_1 := (cell_far (p := ⟨gb140, 3, none⟩) (by first | (rw [add_block]; exact hn141_11) | (show (Addr.add _ _).block ≠ _; rw [add_block]; exact hn141_11) | exact hn141_11) (.bool t132)).trans hx141_1
                    replace hx141_2 := (cell_far (p := ⟨gb140, 3, none⟩) (by first | (rw [add_block]; exact hn141_11) | (show (Addr.add _ _).block ≠ _; rw [add_block]; exact hn141_11) | exact hn141_11) (.bool t132)).trans hx141_2
                    replace hx141_3 := (cell_far (p := ⟨gb140, 3, none⟩) (by first | (rw [add_block]; exact hn141_11) | (show (Addr.add _ _).block ≠ _; rw [add_block]; exact hn141_11) | exact hn141_11) (.bool t132)).trans hx141_3
                    replace hx141_4 := (cell_far (p := ⟨gb140, 3, none⟩) (by first | (rw [add_block]; exact hn141_11) | (show (Addr.add _ _).block ≠ _; rw [add_block]; exact hn141_11) | exact hn141_11) (.bool t132)).trans hx141_4
                    replace hx141_5 := (cell_far (p := ⟨gb140, 3, none⟩) (by first | (rw [add_block]; exact hn141_11) | (show (Addr.add _ _).block ≠ _; rw [add_block]; exact hn141_11) | exact hn141_11) (.bool t132)).trans hx141_5
                    replace hx141_6 := (cell_far (p := ⟨gb140, 3, none⟩) (by first | (rw [add_block]; exact hn141_11) | (show (Addr.add _ _).block ≠ _; rw [add_block]; exact hn141_11) | exact hn141_11) (.bool t132)).trans hx141_6
                    replace hx141_7 := (cell_far (p := ⟨gb140, 3, none⟩) (by first | (rw [add_block]; exact hn141_11) | (show (Addr.add _ _).block ≠ _; rw [add_block]; exact hn141_11) | exact hn141_11) (.bool t132)).trans hx141_7
                    replace hx141_0 := (cell_far (p := ⟨gb140, 4, none⟩) (by first | (rw [add_block]; exact hn141_12) | (show (Addr.add _ _).block ≠ _; rw [add_block]; exact hn141_12) | exact hn141_12) (.string t133)).trans hx141_0
                    replace hx141_1 := (cell_far (p := ⟨gb140, 4, none⟩) (by first | (rw [add_block]; exact hn141_12) | (show (Addr.add _ _).block ≠ _; rw [add_block]; exact hn141_12) | exact hn141_12) (.string t133)).trans hx141_1
                    replace hx141_2 := (cell_far (p := ⟨gb140, 4, none⟩) (by first | (rw [add_block]; exact hn141_12) | (show (Addr.add _ _).block ≠ _; rw [add_block]; exact hn141_12) | exact hn141_12) (.string t133)).trans hx141_2
                    replace hx141_3 := (cell_far (p := ⟨gb140, 4, none⟩) (by first | (rw [add_block]; exact hn141_12) | (show (Addr.add _ _).block ≠ _; rw [add_block]; exact hn141_12) | exact hn141_12) (.string t133)).trans hx141_3
                    replace hx141_4 := (cell_far (p := ⟨gb140, 4, none⟩) (by first | (rw [add_block]; exact hn141_12) | (show (Addr.add _ _).block ≠ _; rw [add_block]; exact hn141_12) | exact hn141_12) (.string t133)).trans hx141_4
                    replace hx141_5 := (cell_far (p := ⟨gb140, 4, none⟩) (by first | (rw [add_block]; exact hn141_12) | (show (Addr.add _ _).block ≠ _; rw [add_block]; exact hn141_12) | exact hn141_12) (.string t133)).trans hx141_5
                    replace hx141_6 := (cell_far (p := ⟨gb140, 4, none⟩) (by first | (rw [add_block]; exact hn141_12) | (show (Addr.add _ _).block ≠ _; rw [add_block]; exact hn141_12) | exact hn141_12) (.string t133)).trans hx141_6
                    replace hx141_7 := (cell_far (p := ⟨gb140, 4, none⟩) (by first | (rw [add_block]; exact hn141_12) | (show (Addr.add _ _).block ≠ _; rw [add_block]; exact hn141_12) | exact hn141_12) (.string t133)).trans hx141_7
                    replace hx141_0 := (cell_far (p := ⟨gb140, 5, none⟩) (by first | (rw [add_block]; exact hn141_13) | (show (Addr.add _ _).block ≠ _; rw [add_block]; exact hn141_13) | exact hn141_13) (.string t134)).trans hx141_0
                    replace hx141_1 := (cell_far (p := ⟨gb140, 5, none⟩) (by first | (rw [add_block]; exact hn141_13) | (show (Addr.add _ _).block ≠ _; rw [add_block]; exact hn141_13) | exact hn141_13) (.string t134)).trans hx141_1
                    replace hx141_2 := (cell_far (p := ⟨gb140, 5, none⟩) (by first | (rw [add_block]; exact hn141_13) | (show (Addr.add _ _).block ≠ _; rw [add_block]; exact hn141_13) | exact hn141_13) (.string t134)).trans hx141_2
                    replace hx141_3 := (cell_far (p := ⟨gb140, 5, none⟩) (by first | (rw [add_block]; exact hn141_13) | (show (Addr.add _ _).block ≠ _; rw [add_block]; exact hn141_13) | exact hn141_13) (.string t134)).trans hx141_3
                    replace hx141_4 := (cell_far (p := ⟨gb140, 5, none⟩) (by first | (rw [add_block]; exact hn141_13) | (show (Addr.add _ _).block ≠ _; rw [add_block]; exact hn141_13) | exact hn141_13) (.string t134)).trans hx141_4
                    replace hx141_5 := (cell_far (p := ⟨gb140, 5, none⟩) (by first | (rw [add_block]; exact hn141_13) | (show (Addr.add _ _).block ≠ _; rw [add_block]; exact hn141_13) | exact hn141_13) (.string t134)).trans hx141_5
                    replace hx141_6 := (cell_far (p := ⟨gb140, 5, none⟩) (by first | (rw [add_block]; exact hn141_13) | (show (Addr.add _ _).block ≠ _; rw [add_block]; exact hn141_13) | exact hn141_13) (.string t134)).trans hx141_6
                    replace hx141_7 := (cell_far (p := ⟨gb140, 5, none⟩) (by first | (rw [add_block]; exact hn141_13) | (show (Addr.add _ _).block ≠ _; rw [add_block]; exact hn141_13) | exact hn141_13) (.string t134)).trans hx141_7
                    replace hx141_0 := (cell_far (p := ⟨gb140, 6, none⟩) (by first | (rw [add_block]; exact hn141_14) | (show (Addr.add _ _).block ≠ _; rw [add_block]; exact hn141_14) | exact hn141_14) (.string t135)).trans hx141_0
                    replace hx141_1 := (cell_far (p := ⟨gb140, 6, none⟩) (by first | (rw [add_block]; exact hn141_14) | (show (Addr.add _ _).block ≠ _; rw [add_block]; exact hn141_14) | exact hn141_14) (.string t135)).trans hx141_1
                    replace hx141_2 := (cell_far (p := ⟨gb140, 6, none⟩) (by first | (rw [add_block]; exact hn141_14) | (show (Addr.add _ _).block ≠ _; rw [add_block]; exact hn141_14) | exact hn141_14) (.string t135)).trans hx141_2
                    replace hx141_3 := (cell_far (p := ⟨gb140, 6, none⟩) (by first | (rw [add_block]; exact hn141_14) | (show (Addr.add _ _).block ≠ _; rw [add_block]; exact hn141_14) | exact hn141_14) (.string t135)).trans hx141_3
                    replace hx141_4 := (cell_far (p := ⟨gb140, 6, none⟩) (by first | (rw [add_block]; exact hn141_14) | (show (Addr.add _ _).block ≠ _; rw [add_block]; exact hn141_14) | exact hn141_14) (.string t135)).trans hx141_4
                    replace hx141_5 := (cell_far (p := ⟨gb140, 6, none⟩) (by first | (rw [add_block]; exact hn141_14) | (show (Addr.add _ _).block ≠ _; rw [add_block]; exact hn141_14) | exact hn141_14) (.string t135)).trans hx141_5
                    replace hx141_6 := (cell_far (p := ⟨gb140, 6, none⟩) (by first | (rw [add_block]; exact hn141_14) | (show (Addr.add _ _).block ≠ _; rw [add_block]; exact hn141_14) | exact hn141_14) (.string t135)).trans hx141_6
                    replace hx141_7 := (cell_far (p := ⟨gb140, 6, none⟩) (by first | (rw [add_block]; exact hn141_14) | (show (Addr.add _ _).block ≠ _; rw [add_block]; exact hn141_14) | exact hn141_14) (.string t135)).trans hx141_7
                    replace hx141_0 := (cell_far (p := ⟨gb140, 7, none⟩) (by first | (rw [add_block]; exact hn141_15) | (show (Addr.add _ _).block ≠ _; rw [add_block]; exact hn141_15) | exact hn141_15) (.slice Ao49 t136.length co49)).trans hx141_0
                    replace hx141_1 := (cell_far (p := ⟨gb140, 7, none⟩) (by first | (rw [add_block]; exact hn141_15) | (show (Addr.add _ _).block ≠ _; rw [add_block]; exact hn141_15) | exact hn141_15) (.slice Ao49 t136.length co49)).trans hx141_1
                    replace hx141_2 := (cell_far (p := ⟨gb140, 7, none⟩) (by first | (rw [add_block]; exact hn141_15) | (show (Addr.add _ _).block ≠ _; rw [add_block]; exact hn141_15) | exact hn141_15) (.slice Ao49 t136.length co49)).trans hx141_2
                    replace hx141_3 := (cell_far (p := ⟨gb140, 7, none⟩) (by first | (rw [add_block]; exact hn141_15) | (show (Addr.add _ _).block ≠ _; rw [add_block]; exact hn141_15) | exact hn141_15) (.slice Ao49 t136.length co49)).trans hx141_3
                    replace hx141_4 := (cell_far (p := ⟨gb140, 7, none⟩) (by first | (rw [add_block]; exact hn141_15) | (show (Addr.add _ _).block ≠ _; rw [add_block]; exact hn141_15) | exact hn141_15) (.slice Ao49 t136.length co49)).trans hx141_4
                    replace hx141_5 := (cell_far (p := ⟨gb140, 7, none⟩) (by first | (rw [add_block]; exact hn141_15) | (show (Addr.add _ _).block ≠ _; rw [add_block]; exact hn141_15) | exact hn141_15) (.slice Ao49 t136.length co49)).trans hx141_5
                    replace hx141_6 := (cell_far (p := ⟨gb140, 7, none⟩) (by first | (rw [add_block]; exact hn141_15) | (show (Addr.add _ _).block ≠ _; rw [add_block]; exact hn141_15) | exact hn141_15) (.slice Ao49 t136.length co49)).trans hx141_6
                    replace hx141_7 := (cell_far (p := ⟨gb140, 7, none⟩) (by first | (rw [add_block]; exact hn141_15) | (show (Addr.add _ _).block ≠ _; rw [add_block]; exact hn141_15) | exact hn141_15) (.slice Ao49 t136.length co49)).trans hx141_7
                    clear hn141_0
                    clear hn141_1
                    clear hn141_2
                    clear hn141_3
                    clear hn141_4
                    clear hn141_5
                    clear hn141_6
                    clear hn141_7
                    clear hn141_8
                    clear hn141_9
                    clear hn141_10
                    clear hn141_11
                    clear hn141_12
                    clear hn141_13
                    clear hn141_14
                    clear hn141_15
                    replace p141 := eq_true p141
                    replace q141 := eq_true q141
                    go_wp2
                    go_meet
                    case rel => exact ⟨_, ((((rd_T27 t126 0).f0) != 7)), (by first | rfl | (simp; done) | (simp [*]; done)), H', ⟨by have := HJ2.out; have := HK2.out; first | omega | exact Nat.le_refl _⟩, ⟨by (with_reducible repeat (first | apply Kd.R_alloc | apply Kd.R_drewN | apply Kd.R_drew)); exact Kd.R_mono (Kd.R_far (p := ⟨gb140, 7, none⟩) (Kd.R_far (p := ⟨gb140, 6, none⟩) (Kd.R_far (p := ⟨gb140, 5, none⟩) (Kd.R_far (p := ⟨gb140, 4, none⟩) (Kd.R_far (p := ⟨gb140, 3, none⟩) (Kd.R_far (p := ⟨gb140, 2, none⟩) (Kd.R_far (p := ⟨gb140, 1, none⟩) (Kd.R_far (p := ⟨gb140, 0, none⟩) (Kd.R_far (p := ⟨gb139, 7, none⟩) (Kd.R_far (p := ⟨gb139, 6, none⟩) (Kd.R_far (p := ⟨gb139, 5, none⟩) (Kd.R_far (p := ⟨gb139, 4, none⟩) (Kd.R_far (p := ⟨gb139, 3, none⟩) (Kd.R_far (p := ⟨gb139, 2, none⟩) (Kd.R_far (p := ⟨gb139, 1, none⟩) (Kd.R_far (p := ⟨gb139, 0, none⟩) (Kd.R_types (Kd.R_types HO_8.out BK139.out (by decide)) BK140.out (by decide)) (fun _ hk => hk.1.2) (.int .i64 t119)) (fun _ hk => hk.1.2) (.int .i64 t120)) (fun _ hk => hk.1.2) (.bool t121)) (fun _ hk => hk.1.2) (.bool t122)) (fun _ hk => hk.1.2) (.string t123)) (fun _ hk => hk.1.2) (.string t124)) (fun _ hk => hk.1.2) (.string t125)) (fun _ hk => hk.1.2) (.slice (some ad141) t126.length co47)) (fun _ hk => hk.2) (.int .i64 t129)) (fun _ hk => hk.2) (.int .i64 t130)) (fun _ hk => hk.2) (.bool t131)) (fun _ hk => hk.2) (.bool t132)) (fun _ hk => hk.2) (.string t133)) (fun _ hk => hk.2) (.string t134)) (fun _ hk => hk.2) (.string t135)) (fun _ hk => hk.2) (.slice Ao49 t136.length co49)) (fun _ hk => trivial)⟩, ⟨by (with_reducible repeat (first | apply Kd.R_alloc | apply Kd.R_drewN | apply Kd.R_drew)); exact Kd.R_mono (Kd.R_far (p := ⟨gb140, 7, none⟩) (Kd.R_far (p := ⟨gb140, 6, none⟩) (Kd.R_far (p := ⟨gb140, 5, none⟩) (Kd.R_far (p := ⟨gb140, 4, none⟩) (Kd.R_far (p := ⟨gb140, 3, none⟩) (Kd.R_far (p := ⟨gb140, 2, none⟩) (Kd.R_far (p := ⟨gb140, 1, none⟩) (Kd.R_far (p := ⟨gb140, 0, none⟩) (Kd.R_far (p := ⟨gb139, 7, none⟩) (Kd.R_far (p := ⟨gb139, 6, none⟩) (Kd.R_far (p := ⟨gb139, 5, none⟩) (Kd.R_far (p := ⟨gb139, 4, none⟩) (Kd.R_far (p := ⟨gb139, 3, none⟩) (Kd.R_far (p := ⟨gb139, 2, none⟩) (Kd.R_far (p := ⟨gb139, 1, none⟩) (Kd.R_far (p := ⟨gb139, 0, none⟩) (Kd.R_mono (Kd.R_mono HO128.out (fun k_ hk => (⟨hk, hk.1.2⟩ : _ ∧ k_ ≠ gb139))) (fun k_ hk => (⟨hk, hk.1.2⟩ : _ ∧ k_ ≠ gb140))) (fun _ hk => hk.1.2) (.int .i64 t119)) (fun _ hk => hk.1.2) (.int .i64 t120)) (fun _ hk => hk.1.2) (.bool t121)) (fun _ hk => hk.1.2) (.bool t122)) (fun _ hk => hk.1.2) (.string t123)) (fun _ hk => hk.1.2) (.string t124)) (fun _ hk => hk.1.2) (.string t125)) (fun _ hk => hk.1.2) (.slice (some ad141) t126.length co47)) (fun _ hk => hk.2) (.int .i64 t129)) (fun _ hk => hk.2) (.int .i64 t130)) (fun _ hk => hk.2) (.bool t131)) (fun _ hk => hk.2) (.bool t132)) (fun _ hk => hk.2) (.string t133)) (fun _ hk => hk.2) (.string t134)) (fun _ hk => hk.2) (.string t135)) (fun _ hk => hk.2) (.slice Ao49 t136.length co49)) (fun _ hk => ⟨hk.1.1.1.1.2, ⟨hk.1.1.1.2, hk.1.1.2⟩⟩)⟩, ⟨by (with_reducible repeat (first | apply Kd.R_alloc | apply Kd.R_drewN | apply Kd.R_drew)); exact Kd.R_mono (Kd.R_far (p := ⟨gb140, 7, none⟩) (Kd.R_far (p := ⟨gb140, 6, none⟩) (Kd.R_far (p := ⟨gb140, 5, none⟩) (Kd.R_far (p := ⟨gb140, 4, none⟩) (Kd.R_far (p := ⟨gb140, 3, none⟩) (Kd.R_far (p := ⟨gb140, 2, none⟩) (Kd.R_far (p := ⟨gb140, 1, none⟩) (Kd.R_far (p := ⟨gb140, 0, none⟩) (Kd.R_far (p := ⟨gb139, 7, none⟩) (Kd.R_far (p := ⟨gb139, 6, none⟩) (Kd.R_far (p := ⟨gb139, 5, none⟩) (Kd.R_far (p := ⟨gb139, 4, none⟩) (Kd.R_far (p := ⟨gb139, 3, none⟩) (Kd.R_far (p := ⟨gb139, 2, none⟩) (Kd.R_far (p := ⟨gb139, 1, none⟩) (Kd.R_far (p := ⟨gb139, 0, none⟩) (Kd.R_mono (Kd.R_mono HO138.out (fun k_ hk => (⟨hk, hk.1.2⟩ : _ ∧ k_ ≠ gb139))) (fun k_ hk => (⟨hk, hk.1.2⟩ : _ ∧ k_ ≠ gb140))) (fun _ hk => hk.1.2) (.int .i64 t119)) (fun _ hk => hk.1.2) (.int .i64 t120)) (fun _ hk => hk.1.2) (.bool t121)) (fun _ hk => hk.1.2) (.bool t122)) (fun _ hk => hk.1.2) (.string t123)) (fun _ hk => hk.1.2) (.string t124)) (fun _ hk => hk.1.2) (.string t125)) (fun _ hk => hk.1.2) (.slice (some ad141) t126.length co47)) (fun _ hk => hk.2) (.int .i64 t129)) (fun _ hk => hk.2) (.int .i64 t130)) (fun _ hk => hk.2) (.bool t131)) (fun _ hk => hk.2) (.bool t132)) (fun _ hk => hk.2) (.string t133)) (fun _ hk => hk.2) (.string t134)) (fun _ hk => hk.2) (.string t135)) (fun _ hk => hk.2) (.slice Ao49 t136.length co49)) (fun _ hk => ⟨hk.1.1.1.1.2, ⟨hk.1.1.1.2, hk.1.1.2⟩⟩)⟩, ⟨by (with_reducible repeat (first | refine blk_drewN ?_ _ | refine blk_drew ?_ | refine blk_alloc ?_ _)); refine blk_far ?_ NB139_140.out _; (with_reducible repeat (first | refine blk_drewN ?_ _ | refine blk_drew ?_ | refine blk_alloc ?_ _)); refine blk_far ?_ NB139_140.out _; (with_reducible repeat (first | refine blk_drewN ?_ _ | refine blk_drew ?_ | refine blk_alloc ?_ _)); refine blk_far ?_ NB139_140.out _; (with_reducible repeat (first | refine blk_drewN ?_ _ | refine blk_drew ?_ | refine blk_alloc ?_ _)); refine blk_far ?_ NB139_140.out _; (with_reducible repeat (first | refine blk_drewN ?_ _ | refine blk_drew ?_ | refine blk_alloc ?_ _)); refine blk_far ?_ NB139_140.out _; (with_reducible repeat (first | refine blk_drewN ?_ _ | refine blk_drew ?_ | refine blk_alloc ?_ _)); refine blk_far ?_ NB139_140.out _; (with_reducible repeat (first | refine blk_drewN ?_ _ | refine blk_drew ?_ | refine blk_alloc ?_ _)); refine blk_far ?_ NB139_140.out _; (with_reducible repeat (first | refine blk_drewN ?_ _ | refine blk_drew ?_ | refine blk_alloc ?_ _)); refine blk_far ?_ NB139_140.out _; (with_reducible repeat (first | refine blk_drewN ?_ _ | refine blk_drew ?_ | refine blk_alloc ?_ _)); refine blk_put (cs := #[.int .i64 t119, .int .i64 t120, .bool t121, .bool t122, .string t123, .string t124, .string t125, .slice none 0 0]) ?_ 7 _ rfl; (with_reducible repeat (first | refine blk_drewN ?_ _ | refine blk_drew ?_ | refine blk_alloc ?_ _)); refine blk_put (cs := #[.int .i64 t119, .int .i64 t120, .bool t121, .bool t122, .string t123, .string t124, .string (⟨#[]⟩ : ByteArray), .slice none 0 0]) ?_ 6 _ rfl; (with_reducible repeat (first | refine blk_drewN ?_ _ | refine blk_drew ?_ | refine blk_alloc ?_ _)); refine blk_put (cs := #[.int .i64 t119, .int .i64 t120, .bool t121, .bool t122, .string t123, .string (⟨#[]⟩ : ByteArray), .string (⟨#[]⟩ : ByteArray), .slice none 0 0]) ?_ 5 _ rfl; (with_reducible repeat (first | refine blk_drewN ?_ _ | refine blk_drew ?_ | refine blk_alloc ?_ _)); refine blk_put (cs := #[.int .i64 t119, .int .i64 t120, .bool t121, .bool t122, .string (⟨#[]⟩ : ByteArray), .string (⟨#[]⟩ : ByteArray), .string (⟨#[]⟩ : ByteArray), .slice none 0 0]) ?_ 4 _ rfl; (with_reducible repeat (first | refine blk_drewN ?_ _ | refine blk_drew ?_ | refine blk_alloc ?_ _)); refine blk_put (cs := #[.int .i64 t119, .int .i64 t120, .bool t121, .bool false, .string (⟨#[]⟩ : ByteArray), .string (⟨#[]⟩ : ByteArray), .string (⟨#[]⟩ : ByteArray), .slice none 0 0]) ?_ 3 _ rfl; (with_reducible repeat (first | refine blk_drewN ?_ _ | refine blk_drew ?_ | refine blk_alloc ?_ _)); refine blk_put (cs := #[.int .i64 t119, .int .i64 t120, .bool false, .bool false, .string (⟨#[]⟩ : ByteArray), .string (⟨#[]⟩ : ByteArray), .string (⟨#[]⟩ : ByteArray), .slice none 0 0]) ?_ 2 _ rfl; (with_reducible repeat (first | refine blk_drewN ?_ _ | refine blk_drew ?_ | refine blk_alloc ?_ _)); refine blk_put (cs := #[.int .i64 t119, .int .i64 0, .bool false, .bool false, .string (⟨#[]⟩ : ByteArray), .string (⟨#[]⟩ : ByteArray), .string (⟨#[]⟩ : ByteArray), .slice none 0 0]) ?_ 1 _ rfl; (with_reducible repeat (first | refine blk_drewN ?_ _ | refine blk_drew ?_ | refine blk_alloc ?_ _)); refine blk_put (cs := #[.int .i64 0, .int .i64 0, .bool false, .bool false, .string (⟨#[]⟩ : ByteArray), .string (⟨#[]⟩ : ByteArray), .string (⟨#[]⟩ : ByteArray), .slice none 0 0]) ?_ 0 _ rfl; (with_reducible repeat (first | refine blk_drewN ?_ _ | refine blk_drew ?_ | refine blk_alloc ?_ _)); exact BK139.out⟩, ⟨by (with_reducible repeat (first | refine blk_drewN ?_ _ | refine blk_drew ?_ | refine blk_alloc ?_ _)); refine blk_put (cs := #[.int .i64 t129, .int .i64 t130, .bool t131, .bool t132, .string t133, .string t134, .string t135, .slice none 0 0]) ?_ 7 _ rfl; (with_reducible repeat (first | refine blk_drewN ?_ _ | refine blk_drew ?_ | refine blk_alloc ?_ _)); refine blk_put (cs := #[.int .i64 t129, .int .i64 t130, .bool t131, .bool t132, .string t133, .string t134, .string (⟨#[]⟩ : ByteArray), .slice none 0 0]) ?_ 6 _ rfl; (with_reducible repeat (first | refine blk_drewN ?_ _ | refine blk_drew ?_ | refine blk_alloc ?_ _)); refine blk_put (cs := #[.int .i64 t129, .int .i64 t130, .bool t131, .bool t132, .string t133, .string (⟨#[]⟩ : ByteArray), .string (⟨#[]⟩ : ByteArray), .slice none 0 0]) ?_ 5 _ rfl; (with_reducible repeat (first | refine blk_drewN ?_ _ | refine blk_drew ?_ | refine blk_alloc ?_ _)); refine blk_put (cs := #[.int .i64 t129, .int .i64 t130, .bool t131, .bool t132, .string (⟨#[]⟩ : ByteArray), .string (⟨#[]⟩ : ByteArray), .string (⟨#[]⟩ : ByteArray), .slice none 0 0]) ?_ 4 _ rfl; (with_reducible repeat (first | refine blk_drewN ?_ _ | refine blk_drew ?_ | refine blk_alloc ?_ _)); refine blk_put (cs := #[.int .i64 t129, .int .i64 t130, .bool t131, .bool false, .string (⟨#[]⟩ : ByteArray), .string (⟨#[]⟩ : ByteArray), .string (⟨#[]⟩ : ByteArray), .slice none 0 0]) ?_ 3 _ rfl; (with_reducible repeat (first | refine blk_drewN ?_ _ | refine blk_drew ?_ | refine blk_alloc ?_ _)); refine blk_put (cs := #[.int .i64 t129, .int .i64 t130, .bool false, .bool false, .string (⟨#[]⟩ : ByteArray), .string (⟨#[]⟩ : ByteArray), .string (⟨#[]⟩ : ByteArray), .slice none 0 0]) ?_ 2 _ rfl; (with_reducible repeat (first | refine blk_drewN ?_ _ | refine blk_drew ?_ | refine blk_alloc ?_ _)); refine blk_put (cs := #[.int .i64 t129, .int .i64 0, .bool false, .bool false, .string (⟨#[]⟩ : ByteArray), .string (⟨#[]⟩ : ByteArray), .string (⟨#[]⟩ : ByteArray), .slice none 0 0]) ?_ 1 _ rfl; (with_reducible repeat (first | refine blk_drewN ?_ _ | refine blk_drew ?_ | refine blk_alloc ?_ _)); refine blk_put (cs := #[.int .i64 0, .int .i64 0, .bool false, .bool false, .string (⟨#[]⟩ : ByteArray), .string (⟨#[]⟩ : ByteArray), .string (⟨#[]⟩ : ByteArray), .slice none 0 0]) ?_ 0 _ rfl; (with_reducible repeat (first | refine blk_drewN ?_ _ | refine blk_drew ?_ | refine blk_alloc ?_ _)); refine blk_far ?_ NB140_139.out _; (with_reducible repeat (first | refine blk_drewN ?_ _ | refine blk_drew ?_ | refine blk_alloc ?_ _)); refine blk_far ?_ NB140_139.out _; (with_reducible repeat (first | refine blk_drewN ?_ _ | refine blk_drew ?_ | refine blk_alloc ?_ _)); refine blk_far ?_ NB140_139.out _; (with_reducible repeat (first | refine blk_drewN ?_ _ | refine blk_drew ?_ | refine blk_alloc ?_ _)); refine blk_far ?_ NB140_139.out _; (with_reducible repeat (first | refine blk_drewN ?_ _ | refine blk_drew ?_ | refine blk_alloc ?_ _)); refine blk_far ?_ NB140_139.out _; (with_reducible repeat (first | refine blk_drewN ?_ _ | refine blk_drew ?_ | refine blk_alloc ?_ _)); refine blk_far ?_ NB140_139.out _; (with_reducible repeat (first | refine blk_drewN ?_ _ | refine blk_drew ?_ | refine blk_alloc ?_ _)); refine blk_far ?_ NB140_139.out _; (with_reducible repeat (first | refine blk_drewN ?_ _ | refine blk_drew ?_ | refine blk_alloc ?_ _)); refine blk_far ?_ NB140_139.out _; (with_reducible repeat (first | refine blk_drewN ?_ _ | refine blk_drew ?_ | refine blk_alloc ?_ _)); exact BK140.out⟩, ⟨by repeat (first | (with_reducible first | exact HB.out | apply below_alloc | apply pw_below_drewN | apply below_drew1 | refine below_set ?_ GE139.out | refine below_set ?_ GE140.out) | exact HB.out)⟩⟩
                  · rw [if_neg c50] at H
                    have c50b0 : ((t126.length : Int) == 1) = false := beq_eq_false_iff_ne.mpr c50
                    have c50b1 : ((t126.length : Int) != 1) = true := bne_iff_ne.mpr c50
                    (first | rw [c50b0] | (simp only [i64_w, i32_w]; rw [c50b0]) | skip)
                    have H' := Aside0.mk H
                    clear H
                    have hnb54 := NB139_140.out
                    have hnc54 := NB140_139.out
                    have hcz55_0 : w44.cell? ⟨gb139, 0, none⟩ = some (.int .i64 0) := (blk_cell BK139.out 0).trans rfl
                    have hcz55_1 : w44.cell? ⟨gb139, 1, none⟩ = some (.int .i64 0) := (blk_cell BK139.out 1).trans rfl
                    have hcz55_2 : w44.cell? ⟨gb139, 2, none⟩ = some (.bool false) := (blk_cell BK139.out 2).trans rfl
                    have hcz55_3 : w44.cell? ⟨gb139, 3, none⟩ = some (.bool false) := (blk_cell BK139.out 3).trans rfl
                    have hcz55_4 : w44.cell? ⟨gb139, 4, none⟩ = some (.string (⟨#[]⟩ : ByteArray)) := (blk_cell BK139.out 4).trans rfl
                    have hcz55_5 : w44.cell? ⟨gb139, 5, none⟩ = some (.string (⟨#[]⟩ : ByteArray)) := (blk_cell BK139.out 5).trans rfl
                    have hcz55_6 : w44.cell? ⟨gb139, 6, none⟩ = some (.string (⟨#[]⟩ : ByteArray)) := (blk_cell BK139.out 6).trans rfl
                    have hcz55_7 : w44.cell? ⟨gb139, 7, none⟩ = some (.slice none 0 0) := (blk_cell BK139.out 7).trans rfl
                    have hfz55_0 := blk_frozen BK139.out 0
                    have hfz55_1 := blk_frozen BK139.out 1
                    have hfz55_2 := blk_frozen BK139.out 2
                    have hfz55_3 := blk_frozen BK139.out 3
                    have hfz55_4 := blk_frozen BK139.out 4
                    have hfz55_5 := blk_frozen BK139.out 5
                    have hfz55_6 := blk_frozen BK139.out 6
                    have hfz55_7 := blk_frozen BK139.out 7
                    go_wp2
                    go_meet
                    case rel => exact ⟨_, (true), (by first | rfl | (simp; done) | (simp [*]; done)), H', ⟨by have := HJ2.out; have := HK2.out; first | omega | exact Nat.le_refl _⟩, ⟨by (with_reducible repeat (first | apply Kd.R_alloc | apply Kd.R_drewN | apply Kd.R_drew)); exact Kd.R_mono (Kd.R_far (p := ⟨gb140, 7, none⟩) (Kd.R_far (p := ⟨gb140, 6, none⟩) (Kd.R_far (p := ⟨gb140, 5, none⟩) (Kd.R_far (p := ⟨gb140, 4, none⟩) (Kd.R_far (p := ⟨gb140, 3, none⟩) (Kd.R_far (p := ⟨gb140, 2, none⟩) (Kd.R_far (p := ⟨gb140, 1, none⟩) (Kd.R_far (p := ⟨gb140, 0, none⟩) (Kd.R_far (p := ⟨gb139, 7, none⟩) (Kd.R_far (p := ⟨gb139, 6, none⟩) (Kd.R_far (p := ⟨gb139, 5, none⟩) (Kd.R_far (p := ⟨gb139, 4, none⟩) (Kd.R_far (p := ⟨gb139, 3, none⟩) (Kd.R_far (p := ⟨gb139, 2, none⟩) (Kd.R_far (p := ⟨gb139, 1, none⟩) (Kd.R_far (p := ⟨gb139, 0, none⟩) (Kd.R_types (Kd.R_types HO_8.out BK139.out (by decide)) BK140.out (by decide)) (fun _ hk => hk.1.2) (.int .i64 t119)) (fun _ hk => hk.1.2) (.int .i64 t120)) (fun _ hk => hk.1.2) (.bool t121)) (fun _ hk => hk.1.2) (.bool t122)) (fun _ hk => hk.1.2) (.string t123)) (fun _ hk => hk.1.2) (.string t124)) (fun _ hk => hk.1.2) (.string t125)) (fun _ hk => hk.1.2) (.slice Ao47 t126.length co47)) (fun _ hk => hk.2) (.int .i64 t129)) (fun _ hk => hk.2) (.int .i64 t130)) (fun _ hk => hk.2) (.bool t131)) (fun _ hk => hk.2) (.bool t132)) (fun _ hk => hk.2) (.string t133)) (fun _ hk => hk.2) (.string t134)) (fun _ hk => hk.2) (.string t135)) (fun _ hk => hk.2) (.slice Ao49 t136.length co49)) (fun _ hk => trivial)⟩, ⟨by (with_reducible repeat (first | apply Kd.R_alloc | apply Kd.R_drewN | apply Kd.R_drew)); exact Kd.R_mono (Kd.R_far (p := ⟨gb140, 7, none⟩) (Kd.R_far (p := ⟨gb140, 6, none⟩) (Kd.R_far (p := ⟨gb140, 5, none⟩) (Kd.R_far (p := ⟨gb140, 4, none⟩) (Kd.R_far (p := ⟨gb140, 3, none⟩) (Kd.R_far (p := ⟨gb140, 2, none⟩) (Kd.R_far (p := ⟨gb140, 1, none⟩) (Kd.R_far (p := ⟨gb140, 0, none⟩) (Kd.R_far (p := ⟨gb139, 7, none⟩) (Kd.R_far (p := ⟨gb139, 6, none⟩) (Kd.R_far (p := ⟨gb139, 5, none⟩) (Kd.R_far (p := ⟨gb139, 4, none⟩) (Kd.R_far (p := ⟨gb139, 3, none⟩) (Kd.R_far (p := ⟨gb139, 2, none⟩) (Kd.R_far (p := ⟨gb139, 1, none⟩) (Kd.R_far (p := ⟨gb139, 0, none⟩) (Kd.R_mono (Kd.R_mono HO128.out (fun k_ hk => (⟨hk, hk.1.2⟩ : _ ∧ k_ ≠ gb139))) (fun k_ hk => (⟨hk, hk.1.2⟩ : _ ∧ k_ ≠ gb140))) (fun _ hk => hk.1.2) (.int .i64 t119)) (fun _ hk => hk.1.2) (.int .i64 t120)) (fun _ hk => hk.1.2) (.bool t121)) (fun _ hk => hk.1.2) (.bool t122)) (fun _ hk => hk.1.2) (.string t123)) (fun _ hk => hk.1.2) (.string t124)) (fun _ hk => hk.1.2) (.string t125)) (fun _ hk => hk.1.2) (.slice Ao47 t126.length co47)) (fun _ hk => hk.2) (.int .i64 t129)) (fun _ hk => hk.2) (.int .i64 t130)) (fun _ hk => hk.2) (.bool t131)) (fun _ hk => hk.2) (.bool t132)) (fun _ hk => hk.2) (.string t133)) (fun _ hk => hk.2) (.string t134)) (fun _ hk => hk.2) (.string t135)) (fun _ hk => hk.2) (.slice Ao49 t136.length co49)) (fun _ hk => ⟨hk.1.1.1.1.2, ⟨hk.1.1.1.2, hk.1.1.2⟩⟩)⟩, ⟨by (with_reducible repeat (first | apply Kd.R_alloc | apply Kd.R_drewN | apply Kd.R_drew)); exact Kd.R_mono (Kd.R_far (p := ⟨gb140, 7, none⟩) (Kd.R_far (p := ⟨gb140, 6, none⟩) (Kd.R_far (p := ⟨gb140, 5, none⟩) (Kd.R_far (p := ⟨gb140, 4, none⟩) (Kd.R_far (p := ⟨gb140, 3, none⟩) (Kd.R_far (p := ⟨gb140, 2, none⟩) (Kd.R_far (p := ⟨gb140, 1, none⟩) (Kd.R_far (p := ⟨gb140, 0, none⟩) (Kd.R_far (p := ⟨gb139, 7, none⟩) (Kd.R_far (p := ⟨gb139, 6, none⟩) (Kd.R_far (p := ⟨gb139, 5, none⟩) (Kd.R_far (p := ⟨gb139, 4, none⟩) (Kd.R_far (p := ⟨gb139, 3, none⟩) (Kd.R_far (p := ⟨gb139, 2, none⟩) (Kd.R_far (p := ⟨gb139, 1, none⟩) (Kd.R_far (p := ⟨gb139, 0, none⟩) (Kd.R_mono (Kd.R_mono HO138.out (fun k_ hk => (⟨hk, hk.1.2⟩ : _ ∧ k_ ≠ gb139))) (fun k_ hk => (⟨hk, hk.1.2⟩ : _ ∧ k_ ≠ gb140))) (fun _ hk => hk.1.2) (.int .i64 t119)) (fun _ hk => hk.1.2) (.int .i64 t120)) (fun _ hk => hk.1.2) (.bool t121)) (fun _ hk => hk.1.2) (.bool t122)) (fun _ hk => hk.1.2) (.string t123)) (fun _ hk => hk.1.2) (.string t124)) (fun _ hk => hk.1.2) (.string t125)) (fun _ hk => hk.1.2) (.slice Ao47 t126.length co47)) (fun _ hk => hk.2) (.int .i64 t129)) (fun _ hk => hk.2) (.int .i64 t130)) (fun _ hk => hk.2) (.bool t131)) (fun _ hk => hk.2) (.bool t132)) (fun _ hk => hk.2) (.string t133)) (fun _ hk => hk.2) (.string t134)) (fun _ hk => hk.2) (.string t135)) (fun _ hk => hk.2) (.slice Ao49 t136.length co49)) (fun _ hk => ⟨hk.1.1.1.1.2, ⟨hk.1.1.1.2, hk.1.1.2⟩⟩)⟩, ⟨by (with_reducible repeat (first | refine blk_drewN ?_ _ | refine blk_drew ?_ | refine blk_alloc ?_ _)); refine blk_far ?_ NB139_140.out _; (with_reducible repeat (first | refine blk_drewN ?_ _ | refine blk_drew ?_ | refine blk_alloc ?_ _)); refine blk_far ?_ NB139_140.out _; (with_reducible repeat (first | refine blk_drewN ?_ _ | refine blk_drew ?_ | refine blk_alloc ?_ _)); refine blk_far ?_ NB139_140.out _; (with_reducible repeat (first | refine blk_drewN ?_ _ | refine blk_drew ?_ | refine blk_alloc ?_ _)); refine blk_far ?_ NB139_140.out _; (with_reducible repeat (first | refine blk_drewN ?_ _ | refine blk_drew ?_ | refine blk_alloc ?_ _)); refine blk_far ?_ NB139_140.out _; (with_reducible repeat (first | refine blk_drewN ?_ _ | refine blk_drew ?_ | refine blk_alloc ?_ _)); refine blk_far ?_ NB139_140.out _; (with_reducible repeat (first | refine blk_drewN ?_ _ | refine blk_drew ?_ | refine blk_alloc ?_ _)); refine blk_far ?_ NB139_140.out _; (with_reducible repeat (first | refine blk_drewN ?_ _ | refine blk_drew ?_ | refine blk_alloc ?_ _)); refine blk_far ?_ NB139_140.out _; (with_reducible repeat (first | refine blk_drewN ?_ _ | refine blk_drew ?_ | refine blk_alloc ?_ _)); refine blk_put (cs := #[.int .i64 t119, .int .i64 t120, .bool t121, .bool t122, .string t123, .string t124, .string t125, .slice none 0 0]) ?_ 7 _ rfl; (with_reducible repeat (first | refine blk_drewN ?_ _ | refine blk_drew ?_ | refine blk_alloc ?_ _)); refine blk_put (cs := #[.int .i64 t119, .int .i64 t120, .bool t121, .bool t122, .string t123, .string t124, .string (⟨#[]⟩ : ByteArray), .slice none 0 0]) ?_ 6 _ rfl; (with_reducible repeat (first | refine blk_drewN ?_ _ | refine blk_drew ?_ | refine blk_alloc ?_ _)); refine blk_put (cs := #[.int .i64 t119, .int .i64 t120, .bool t121, .bool t122, .string t123, .string (⟨#[]⟩ : ByteArray), .string (⟨#[]⟩ : ByteArray), .slice none 0 0]) ?_ 5 _ rfl; (with_reducible repeat (first | refine blk_drewN ?_ _ | refine blk_drew ?_ | refine blk_alloc ?_ _)); refine blk_put (cs := #[.int .i64 t119, .int .i64 t120, .bool t121, .bool t122, .string (⟨#[]⟩ : ByteArray), .string (⟨#[]⟩ : ByteArray), .string (⟨#[]⟩ : ByteArray), .slice none 0 0]) ?_ 4 _ rfl; (with_reducible repeat (first | refine blk_drewN ?_ _ | refine blk_drew ?_ | refine blk_alloc ?_ _)); refine blk_put (cs := #[.int .i64 t119, .int .i64 t120, .bool t121, .bool false, .string (⟨#[]⟩ : ByteArray), .string (⟨#[]⟩ : ByteArray), .string (⟨#[]⟩ : ByteArray), .slice none 0 0]) ?_ 3 _ rfl; (with_reducible repeat (first | refine blk_drewN ?_ _ | refine blk_drew ?_ | refine blk_alloc ?_ _)); refine blk_put (cs := #[.int .i64 t119, .int .i64 t120, .bool false, .bool false, .string (⟨#[]⟩ : ByteArray), .string (⟨#[]⟩ : ByteArray), .string (⟨#[]⟩ : ByteArray), .slice none 0 0]) ?_ 2 _ rfl; (with_reducible repeat (first | refine blk_drewN ?_ _ | refine blk_drew ?_ | refine blk_alloc ?_ _)); refine blk_put (cs := #[.int .i64 t119, .int .i64 0, .bool false, .bool false, .string (⟨#[]⟩ : ByteArray), .string (⟨#[]⟩ : ByteArray), .string (⟨#[]⟩ : ByteArray), .slice none 0 0]) ?_ 1 _ rfl; (with_reducible repeat (first | refine blk_drewN ?_ _ | refine blk_drew ?_ | refine blk_alloc ?_ _)); refine blk_put (cs := #[.int .i64 0, .int .i64 0, .bool false, .bool false, .string (⟨#[]⟩ : ByteArray), .string (⟨#[]⟩ : ByteArray), .string (⟨#[]⟩ : ByteArray), .slice none 0 0]) ?_ 0 _ rfl; (with_reducible repeat (first | refine blk_drewN ?_ _ | refine blk_drew ?_ | refine blk_alloc ?_ _)); exact BK139.out⟩, ⟨by (with_reducible repeat (first | refine blk_drewN ?_ _ | refine blk_drew ?_ | refine blk_alloc ?_ _)); refine blk_put (cs := #[.int .i64 t129, .int .i64 t130, .bool t131, .bool t132, .string t133, .string t134, .string t135, .slice none 0 0]) ?_ 7 _ rfl; (with_reducible repeat (first | refine blk_drewN ?_ _ | refine blk_drew ?_ | refine blk_alloc ?_ _)); refine blk_put (cs := #[.int .i64 t129, .int .i64 t130, .bool t131, .bool t132, .string t133, .string t134, .string (⟨#[]⟩ : ByteArray), .slice none 0 0]) ?_ 6 _ rfl; (with_reducible repeat (first | refine blk_drewN ?_ _ | refine blk_drew ?_ | refine blk_alloc ?_ _)); refine blk_put (cs := #[.int .i64 t129, .int .i64 t130, .bool t131, .bool t132, .string t133, .string (⟨#[]⟩ : ByteArray), .string (⟨#[]⟩ : ByteArray), .slice none 0 0]) ?_ 5 _ rfl; (with_reducible repeat (first | refine blk_drewN ?_ _ | refine blk_drew ?_ | refine blk_alloc ?_ _)); refine blk_put (cs := #[.int .i64 t129, .int .i64 t130, .bool t131, .bool t132, .string (⟨#[]⟩ : ByteArray), .string (⟨#[]⟩ : ByteArray), .string (⟨#[]⟩ : ByteArray), .slice none 0 0]) ?_ 4 _ rfl; (with_reducible repeat (first | refine blk_drewN ?_ _ | refine blk_drew ?_ | refine blk_alloc ?_ _)); refine blk_put (cs := #[.int .i64 t129, .int .i64 t130, .bool t131, .bool false, .string (⟨#[]⟩ : ByteArray), .string (⟨#[]⟩ : ByteArray), .string (⟨#[]⟩ : ByteArray), .slice none 0 0]) ?_ 3 _ rfl; (with_reducible repeat (first | refine blk_drewN ?_ _ | refine blk_drew ?_ | refine blk_alloc ?_ _)); refine blk_put (cs := #[.int .i64 t129, .int .i64 t130, .bool false, .bool false, .string (⟨#[]⟩ : ByteArray), .string (⟨#[]⟩ : ByteArray), .string (⟨#[]⟩ : ByteArray), .slice none 0 0]) ?_ 2 _ rfl; (with_reducible repeat (first | refine blk_drewN ?_ _ | refine blk_drew ?_ | refine blk_alloc ?_ _)); refine blk_put (cs := #[.int .i64 t129, .int .i64 0, .bool false, .bool false, .string (⟨#[]⟩ : ByteArray), .string (⟨#[]⟩ : ByteArray), .string (⟨#[]⟩ : ByteArray), .slice none 0 0]) ?_ 1 _ rfl; (with_reducible repeat (first | refine blk_drewN ?_ _ | refine blk_drew ?_ | refine blk_alloc ?_ _)); refine blk_put (cs := #[.int .i64 0, .int .i64 0, .bool false, .bool false, .string (⟨#[]⟩ : ByteArray), .string (⟨#[]⟩ : ByteArray), .string (⟨#[]⟩ : ByteArray), .slice none 0 0]) ?_ 0 _ rfl; (with_reducible repeat (first | refine blk_drewN ?_ _ | refine blk_drew ?_ | refine blk_alloc ?_ _)); refine blk_far ?_ NB140_139.out _; (with_reducible repeat (first | refine blk_drewN ?_ _ | refine blk_drew ?_ | refine blk_alloc ?_ _)); refine blk_far ?_ NB140_139.out _; (with_reducible repeat (first | refine blk_drewN ?_ _ | refine blk_drew ?_ | refine blk_alloc ?_ _)); refine blk_far ?_ NB140_139.out _; (with_reducible repeat (first | refine blk_drewN ?_ _ | refine blk_drew ?_ | refine blk_alloc ?_ _)); refine blk_far ?_ NB140_139.out _; (with_reducible repeat (first | refine blk_drewN ?_ _ | refine blk_drew ?_ | refine blk_alloc ?_ _)); refine blk_far ?_ NB140_139.out _; (with_reducible repeat (first | refine blk_drewN ?_ _ | refine blk_drew ?_ | refine blk_alloc ?_ _)); refine blk_far ?_ NB140_139.out _; (with_reducible repeat (first | refine blk_drewN ?_ _ | refine blk_drew ?_ | refine blk_alloc ?_ _)); refine blk_far ?_ NB140_139.out _; (with_reducible repeat (first | refine blk_drewN ?_ _ | refine blk_drew ?_ | refine blk_alloc ?_ _)); refine blk_far ?_ NB140_139.out _; (with_reducible repeat (first | refine blk_drewN ?_ _ | refine blk_drew ?_ | refine blk_alloc ?_ _)); exact BK140.out⟩, ⟨by repeat (first | (with_reducible first | exact HB.out | apply below_alloc | apply pw_below_drewN | apply below_drew1 | refine below_set ?_ GE139.out | refine below_set ?_ GE140.out) | exact HB.out)⟩⟩
                case rest =>
                  clear HC39
                  try clear c1
                  try clear p1
                  try clear q1
                  try clear hx1
                  try clear qi1
                  try clear c2
                  try clear p2
                  try clear q2
                  try clear hx2
                  try clear c3
                  try clear c4
                  try clear c5
                  try clear c6
                  try clear c6b0
                  try clear c6b1
                  try clear c6b2
                  try clear p6
                  try clear c7
                  try clear c7b0
                  try clear c7b1
                  try clear c8
                  try clear c8b0
                  try clear c8b1
                  try clear c9
                  try clear c9b0
                  try clear c9b1
                  try clear p10
                  try clear q10
                  try clear hx10
                  try clear qi10
                  try clear c11
                  try clear p11
                  try clear q11
                  try clear hx11
                  try clear c12
                  try clear c12b0
                  try clear c12b1
                  try clear c12b2
                  try clear c14
                  try clear c14b0
                  try clear p14
                  try clear q14
                  try clear hx14
                  try clear qi14
                  try clear c15
                  try clear c15b0
                  try clear c16
                  try clear c16b0
                  try clear c16b1
                  try clear c17
                  try clear c17b0
                  try clear c17b1
                  try clear c21
                  try clear c21b0
                  try clear c22
                  try clear c22b0
                  try clear c23
                  try clear c23b0
                  try clear c24
                  try clear c24b0
                  try clear c25
                  try clear c25b0
                  try clear p26
                  try clear q26
                  try clear hx26
                  try clear c27
                  try clear c27b0
                  try clear c27b1
                  try clear c30
                  try clear c30b0
                  try clear c30b1
                  try clear c31
                  try clear c31b0
                  try clear c31b1
                  try clear c31b2
                  try clear c32
                  try clear c34
                  try clear c34b0
                  try clear c34b1
                  try clear c34b2
                  try clear c35
                  try clear c45
                  try clear c50
                  try clear c50b0
                  try clear c50b1
                  try clear c51
                  try clear c51b0
                  try clear c51b1
                  try clear c52
                  try clear c54
                  try clear hcz46_0
                  try clear hcz46_1
                  try clear hcz46_2
                  try clear hcz46_3
                  try clear hcz46_4
                  try clear hcz46_5
                  try clear hcz46_6
                  try clear hcz46_7
                  try clear hcz48_0
                  try clear hcz48_1
                  try clear hcz48_2
                  try clear hcz48_3
                  try clear hcz48_4
                  try clear hcz48_5
                  try clear hcz48_6
                  try clear hcz48_7
                  try clear hcz53_0
                  try clear hcz53_1
                  try clear hcz53_2
                  try clear hcz53_3
                  try clear hcz53_4
                  try clear hcz53_5
                  try clear hcz53_6
                  try clear hcz53_7
                  try clear hcz55_0
                  try clear hcz55_1
                  try clear hcz55_2
                  try clear hcz55_3
                  try clear hcz55_4
                  try clear hcz55_5
                  try clear hcz55_6
                  try clear hcz55_7
                  try clear hfz46_0
                  try clear hfz46_1
                  try clear hfz46_2
                  try clear hfz46_3
                  try clear hfz46_4
                  try clear hfz46_5
                  try clear hfz46_6
                  try clear hfz46_7
                  try clear hfz48_0
                  try clear hfz48_1
                  try clear hfz48_2
                  try clear hfz48_3
                  try clear hfz48_4
                  try clear hfz48_5
                  try clear hfz48_6
                  try clear hfz48_7
                  try clear hfz53_0
                  try clear hfz53_1
                  try clear hfz53_2
                  try clear hfz53_3
                  try clear hfz53_4
                  try clear hfz53_5
                  try clear hfz53_6
                  try clear hfz53_7
                  try clear hfz55_0
                  try clear hfz55_1
                  try clear hfz55_2
                  try clear hfz55_3
                  try clear hfz55_4
                  try clear hfz55_5
                  try clear hfz55_6
                  try clear hfz55_7
                  try clear hx102_0
                  try clear hx103_0
                  try clear hx107_0
                  try clear hx108_0
                  try clear hx109_0
                  try clear hx111_0
                  try clear hx115_0
                  try clear hx141_0
                  try clear hx141_1
                  try clear hx141_2
                  try clear hx141_3
                  try clear hx141_4
                  try clear hx141_5
                  try clear hx141_6
                  try clear hx141_7
                  try clear p1
                  try clear p10
                  try clear p102
                  try clear p103
                  try clear p107
                  try clear p108
                  try clear p109
                  try clear p111
                  try clear p115
                  try clear p141
                  try clear p2
                  try clear p26
                  try clear q1
                  try clear q10
                  try clear q102
                  try clear q103
                  try clear q107
                  try clear q108
                  try clear q109
                  try clear q111
                  try clear q115
                  try clear q141
                  try clear q26
                  obtain ⟨kq, x103_38, rfl, HA, HJ38, HO_8, HO_140007, HO_141007, BK139, BK140, HB⟩ := hcut
                  cases kq with
                  | zero => exact absurd HA.out (by simp [rubricatorlaw19_BlockItems.j3])
                  | succ kj38 =>
                    have H := HA.out
                    clear HA
                    simp only [rubricatorlaw19_BlockItems.j3] at H
                    by_cases c56 : x103_38 = true
                    · subst c56
                      have H1 : (if 0 < (x8_2.length : Int) then ((rubricatorlaw19_rule.f kj38 (rdOf ByteArray.empty x8_2 0)).bind fun t143 => (if t143 = true then ((rubricatorlaw19_known.f).bind fun t144 => (some t144)) else (some false))) else (none)) = some r := by rw [if_pos rfl] at H; exact H
                      clear H
                      have H := H1
                      clear H1
                      by_cases c57 : 0 < (x8_2.length : Int)
                      case neg => rw [if_neg c57] at H; exact absurd H (by simp)
                      rw [if_pos c57] at H
                      have c57b0 : decide (0 < (x8_2.length : Int)) = true := decide_eq_true c57
                      have c57b1 : decide (0 < x8_2.length) = true := decide_eq_true (by omega)
                      clear c57
                      replace H := Option.bind_eq_some_iff.mp H
                      obtain ⟨t143, A580, H⟩ := H
                      replace H : (if t143 = true then ((rubricatorlaw19_known.f).bind fun t144 => (some t144)) else (some false)) = some r := H
                      have A58 := Aside0.mk A580
                      clear A580
                      by_cases c59 : t143 = true
                      · subst c59
                        have H1 : ((rubricatorlaw19_known.f).bind fun t144 => (some t144)) = some r := by rw [if_pos rfl] at H; exact H
                        clear H
                        have H := H1
                        clear H1
                        replace H := Option.bind_eq_some_iff.mp H
                        obtain ⟨t144, A600, H⟩ := H
                        replace H : (some t144) = some r := H
                        have A60 := Aside0.mk A600
                        clear A600
                        obtain rfl := Option.some.inj H
                        have p142 : 0 ≤ (0 : Int) := (by omega)
                        have q142 : 0 < (x8_2.length : Int) := of_decide_eq_true (by first | (with_reducible assumption) | assumption)
                        obtain ⟨ad142, e142, hx142_0⟩ := Kd.at_string (Kd.R_reads' HO_8.out).2.2 0 p142 q142
                        cases e142
                        have qi142 : (0 < x8_2.length) = True := eq_true (by omega)
                        (try rw [show ((0 : Int)).toNat = 0 from rfl] at hx142_0)
                        (try rw [Addr.add_zero'] at hx142_0)
                        replace p142 := eq_true p142
                        replace q142 := eq_true q142
                        go_wp2_with (first | ((with_reducible refine gate_callee (f := 18) rfl ?_); refine goesL_ (some 107) rfl rfl Tryz.func18 (by kernel_rfl) rfl #[.string (rdOf ByteArray.empty x8_2 0)] rfl (by (try simp only [List.map_toArray, List.map_cons, List.map_nil]); first | done | rfl | (simp only [List.length_drop, List.length_take]; rfl)) ?_; (with_reducible refine (rubricatorlaw19_rule.calls kj38 (rdOf ByteArray.empty x8_2 0) true _ A58.out).mono ?_); rintro e w' ⟨rfl, ⟨nd, rfl⟩⟩; refine ⟨_, rfl, ?_⟩) | (go_at_call 17; (with_reducible refine (rubricatorlaw19_known.calls  t144 _ ?side1 A60.out).mono ?_); (case side1 => first | (with_reducible exact hG) | (refine GL.below hG ?_; (repeat (first | (with_reducible first | exact HB.out | apply below_alloc | apply pw_below_drewN | apply below_drew1 | refine below_set ?_ GE139.out | refine below_set ?_ GE140.out) | exact HB.out)); done) | (refine GL.drawn hG ?_; (repeat (first | exact Drawn0.refl _ | apply Drawn0.step)); done) | exact hG); rintro e w61 ⟨rfl, hb⟩; have n0_ := Aside0.mk (Kd.R_below (by (with_reducible repeat (first | apply Kd.R_alloc | apply Kd.R_drewN | apply Kd.R_drew)); exact HO_8.out) hb); have n1_ := Aside0.mk (Kd.R_below (by (with_reducible repeat (first | apply Kd.R_alloc | apply Kd.R_drewN | apply Kd.R_drew)); exact HO_140007.out) hb); have n2_ := Aside0.mk (Kd.R_below (by (with_reducible repeat (first | apply Kd.R_alloc | apply Kd.R_drewN | apply Kd.R_drew)); exact HO_141007.out) hb); have n3_ := Aside0.mk (blk_below (g := gb139) (o := .cells #[.int .i64 t119, .int .i64 t120, .bool t121, .bool t122, .string t123, .string t124, .string t125, .slice Ao47 t126.length co47] 27 (0, 0)) (by (with_reducible repeat (first | refine blk_drewN ?_ _ | refine blk_drew ?_ | refine blk_alloc ?_ _)); exact BK139.out) hb); have n4_ := Aside0.mk (blk_below (g := gb140) (o := .cells #[.int .i64 t129, .int .i64 t130, .bool t131, .bool t132, .string t133, .string t134, .string t135, .slice Ao49 t136.length co49] 27 (0, 0)) (by (with_reducible repeat (first | refine blk_drewN ?_ _ | refine blk_drew ?_ | refine blk_alloc ?_ _)); exact BK140.out) hb); have n5_ := Aside0.mk (below_step (by repeat (first | (with_reducible first | exact HB.out | apply below_alloc | apply pw_below_drewN | apply below_drew1 | refine below_set ?_ GE139.out | refine below_set ?_ GE140.out) | exact HB.out)) hb); clear HO_8; clear HO_140007; clear HO_141007; clear BK139; clear BK140; clear HB; have HO_8 := n0_; have HO_140007 := n1_; have HO_141007 := n2_; have BK139 := n3_; have BK140 := n4_; have HB := n5_; clear n0_ n1_ n2_ n3_ n4_ n5_; (try clear hb); (try clear hb2); (try clear hk); (try clear hi)))
                        go_ret
                        exact ⟨by first | rfl | (simp [errW_none, errW_some] <;> rfl) | (simp only [← hji13]; first | rfl | (simp [errW_none, errW_some] <;> rfl)) | (simp [*, errW_none, errW_some] <;> rfl), by repeat (first | (with_reducible first | exact HB.out | apply below_alloc | apply pw_below_drewN | apply below_drew1 | refine below_set ?_ GE139.out | refine below_set ?_ GE140.out) | exact HB.out)⟩
                      · replace c59 := Bool.eq_false_iff.mpr c59
                        subst c59
                        have H1 : (some false) = some r := by rw [if_neg (show ¬ (false = true) by decide)] at H; exact H
                        clear H
                        have H := H1
                        clear H1
                        exact absurd (Option.some.inj H) (by rw [hr.out]; decide)
                    · replace c56 := Bool.eq_false_iff.mpr c56
                      subst c56
                      have H1 : (if 0 < (t126.length : Int) then (if (((rd_T27 t126 0).f7).length : Int) = 1 then (if 0 < (((rd_T27 t126 0).f7).length : Int) then ((rubricatorlaw19_same.f kj38 0 0 false false (⟨#[]⟩ : ByteArray) (⟨#[]⟩ : ByteArray) (⟨#[]⟩ : ByteArray) ((rd_T27 ((rd_T27 t126 0).f7) 0).f7) 0 0 false false (⟨#[]⟩ : ByteArray) (⟨#[]⟩ : ByteArray) (⟨#[]⟩ : ByteArray) t136).bind fun t148 => (if t148 = true then ((rubricatorlaw19_known.f).bind fun t149 => (some t149)) else (some false))) else (none)) else (some false)) else (none)) = some r := by rw [if_neg (show ¬ (false = true) by decide)] at H; exact H
                      clear H
                      have H := H1
                      clear H1
                      by_cases c62 : 0 < (t126.length : Int)
                      case neg => rw [if_neg c62] at H; exact absurd H (by simp)
                      rw [if_pos c62] at H
                      have c62b0 : decide (0 < (t126.length : Int)) = true := decide_eq_true c62
                      have c62b1 : decide (0 < t126.length) = true := decide_eq_true (by omega)
                      clear c62
                      by_cases c63 : (((rd_T27 t126 0).f7).length : Int) = 1
                      · rw [if_pos c63] at H
                        have c63b0 : ((((rd_T27 t126 0).f7).length : Int) == 1) = true := beq_iff_eq.mpr c63
                        have c63b1 : ((((rd_T27 t126 0).f7).length : Int) != 1) = false := bne_eq_false_iff_eq.mpr c63
                        clear c63
                        by_cases c64 : 0 < (((rd_T27 t126 0).f7).length : Int)
                        case neg => rw [if_neg c64] at H; exact absurd H (by simp)
                        rw [if_pos c64] at H
                        have c64b0 : decide (0 < (((rd_T27 t126 0).f7).length : Int)) = true := decide_eq_true c64
                        have c64b1 : decide (0 < ((rd_T27 t126 0).f7).length) = true := decide_eq_true (by omega)
                        clear c64
                        replace H := Option.bind_eq_some_iff.mp H
                        obtain ⟨t148, A650, H⟩ := H
                        replace H : (if t148 = true then ((rubricatorlaw19_known.f).bind fun t149 => (some t149)) else (some false)) = some r := H
                        have A65 := Aside0.mk A650
                        clear A650
                        by_cases c66 : t148 = true
                        · subst c66
                          have H1 : ((rubricatorlaw19_known.f).bind fun t149 => (some t149)) = some r := by rw [if_pos rfl] at H; exact H
                          clear H
                          have H := H1
                          clear H1
                          replace H := Option.bind_eq_some_iff.mp H
                          obtain ⟨t149, A670, H⟩ := H
                          replace H : (some t149) = some r := H
                          have A67 := Aside0.mk A670
                          clear A670
                          obtain rfl := Option.some.inj H
                          try go_wp2
                          have n0_ := Aside0.mk (Kd.R_drew HO_8.out)
                          have n1_ := Aside0.mk (Kd.R_drew HO_140007.out)
                          have n2_ := Aside0.mk (Kd.R_drew HO_141007.out)
                          have n3_ := Aside0.mk (blk_drew BK139.out)
                          have n4_ := Aside0.mk (blk_drew BK140.out)
                          have n5_ := Aside0.mk (below_drew1 HB.out)
                          clear HO_8
                          clear HO_140007
                          clear HO_141007
                          clear BK139
                          clear BK140
                          clear HB
                          have HO_8 := n0_
                          have HO_140007 := n1_
                          have HO_141007 := n2_
                          have BK139 := n3_
                          have BK140 := n4_
                          have HB := n5_
                          clear n0_ n1_ n2_ n3_ n4_ n5_
                          have p145 : 0 ≤ (0 : Int) := (by omega)
                          have q145 : 0 < (t126.length : Int) := of_decide_eq_true (by first | (with_reducible assumption) | assumption)
                          obtain ⟨ad145, A145_7, c145_7, e145, hx145_0, hx145_1, hx145_2, hx145_3, hx145_4, hx145_5, hx145_6, hx145_7, hl145_7, hi145_7⟩ := at_T27 (Kd.R_reads' HO_140007.out).2.2 0 p145 q145
                          cases e145
                          obtain ⟨ce145, hce145, hMe145, hcc145⟩ := Kd.R_get HO_140007.out z27 0 p145 (by first | exact q145 | exact of_decide_eq_true (by first | (with_reducible assumption) | assumption) | (have e_ := (Kd.R_reads' HO_140007.out).1; omega))
                          obtain ⟨ve145_7, rfl, ge145_7⟩ := k27_openM hMe145
                          have hv145_7 := hcc145 7 _ rfl
                          rw [add_field _ _ 7 (by omega)] at hv145_7
                          replace hv145_7 := Option.some.inj (hv145_7.symm.trans hx145_7)
                          rw [hv145_7] at ge145_7
                          have HL145_7 := Aside0.mk (show Kd.R k27 27 _ _ _ _ ((rd_T27 t126 0).f7) from ge145_7)
                          clear hv145_7 ge145_7
                          clear hcc145 hce145
                          have qi145 : (0 < t126.length) = True := eq_true (by omega)
                          (try rw [show ((0 : Int)).toNat = 0 from rfl] at hx145_0)
                          (try rw [show 0 * 8 = 0 from rfl] at hx145_0)
                          (try rw [Addr.add_zero'] at hx145_0)
                          (try rw [show ((0 : Int)).toNat = 0 from rfl] at hx145_1)
                          (try rw [show 0 * 8 = 0 from rfl] at hx145_1)
                          (try rw [Addr.add_zero'] at hx145_1)
                          (try rw [show ((0 : Int)).toNat = 0 from rfl] at hx145_2)
                          (try rw [show 0 * 8 = 0 from rfl] at hx145_2)
                          (try rw [Addr.add_zero'] at hx145_2)
                          (try rw [show ((0 : Int)).toNat = 0 from rfl] at hx145_3)
                          (try rw [show 0 * 8 = 0 from rfl] at hx145_3)
                          (try rw [Addr.add_zero'] at hx145_3)
                          (try rw [show ((0 : Int)).toNat = 0 from rfl] at hx145_4)
                          (try rw [show 0 * 8 = 0 from rfl] at hx145_4)
                          (try rw [Addr.add_zero'] at hx145_4)
                          (try rw [show ((0 : Int)).toNat = 0 from rfl] at hx145_5)
                          (try rw [show 0 * 8 = 0 from rfl] at hx145_5)
                          (try rw [Addr.add_zero'] at hx145_5)
                          (try rw [show ((0 : Int)).toNat = 0 from rfl] at hx145_6)
                          (try rw [show 0 * 8 = 0 from rfl] at hx145_6)
                          (try rw [Addr.add_zero'] at hx145_6)
                          (try rw [show ((0 : Int)).toNat = 0 from rfl] at hx145_7)
                          (try rw [show 0 * 8 = 0 from rfl] at hx145_7)
                          (try rw [Addr.add_zero'] at hx145_7)
                          have HR145_7 := Aside0.mk hi145_7
                          have HC145_7 := Aside0.mk hl145_7
                          clear hi145_7 hl145_7
                          replace p145 := eq_true p145
                          replace q145 := eq_true q145
                          have p146 : 0 ≤ (0 : Int) := (by omega)
                          have q146 : 0 < (t126.length : Int) := of_decide_eq_true (by first | (with_reducible assumption) | assumption)
                          obtain ⟨ad146, A146_7, c146_7, e146, hx146_0, hx146_1, hx146_2, hx146_3, hx146_4, hx146_5, hx146_6, hx146_7, hl146_7, hi146_7⟩ := at_T27 (Kd.R_reads' HO_140007.out).2.2 0 p146 q146
                          obtain rfl : ad145 = ad146 := (by injection e146)
                          obtain ⟨ce146, hce146, hMe146, hcc146⟩ := Kd.R_get HO_140007.out z27 0 p146 (by first | exact q146 | exact of_decide_eq_true (by first | (with_reducible assumption) | assumption) | (have e_ := (Kd.R_reads' HO_140007.out).1; omega))
                          obtain ⟨ve146_7, rfl, ge146_7⟩ := k27_openM hMe146
                          have hv146_7 := hcc146 7 _ rfl
                          rw [add_field _ _ 7 (by omega)] at hv146_7
                          replace hv146_7 := Option.some.inj (hv146_7.symm.trans hx146_7)
                          rw [hv146_7] at ge146_7
                          have HL146_7 := Aside0.mk (show Kd.R k27 27 _ _ _ _ ((rd_T27 t126 0).f7) from ge146_7)
                          clear hv146_7 ge146_7
                          clear hcc146 hce146
                          have qi146 : (0 < t126.length) = True := eq_true (by omega)
                          (try rw [show ((0 : Int)).toNat = 0 from rfl] at hx146_0)
                          (try rw [show 0 * 8 = 0 from rfl] at hx146_0)
                          (try rw [Addr.add_zero'] at hx146_0)
                          (try rw [show ((0 : Int)).toNat = 0 from rfl] at hx146_1)
                          (try rw [show 0 * 8 = 0 from rfl] at hx146_1)
                          (try rw [Addr.add_zero'] at hx146_1)
                          (try rw [show ((0 : Int)).toNat = 0 from rfl] at hx146_2)
                          (try rw [show 0 * 8 = 0 from rfl] at hx146_2)
                          (try rw [Addr.add_zero'] at hx146_2)
                          (try rw [show ((0 : Int)).toNat = 0 from rfl] at hx146_3)
                          (try rw [show 0 * 8 = 0 from rfl] at hx146_3)
                          (try rw [Addr.add_zero'] at hx146_3)
                          (try rw [show ((0 : Int)).toNat = 0 from rfl] at hx146_4)
                          (try rw [show 0 * 8 = 0 from rfl] at hx146_4)
                          (try rw [Addr.add_zero'] at hx146_4)
                          (try rw [show ((0 : Int)).toNat = 0 from rfl] at hx146_5)
                          (try rw [show 0 * 8 = 0 from rfl] at hx146_5)
                          (try rw [Addr.add_zero'] at hx146_5)
                          (try rw [show ((0 : Int)).toNat = 0 from rfl] at hx146_6)
                          (try rw [show 0 * 8 = 0 from rfl] at hx146_6)
                          (try rw [Addr.add_zero'] at hx146_6)
                          (try rw [show ((0 : Int)).toNat = 0 from rfl] at hx146_7)
                          (try rw [show 0 * 8 = 0 from rfl] at hx146_7)
                          (try rw [Addr.add_zero'] at hx146_7)
                          have HR146_7 := Aside0.mk hi146_7
                          have HC146_7 := Aside0.mk hl146_7
                          clear hi146_7 hl146_7
                          replace p146 := eq_true p146
                          replace q146 := eq_true q146
                          have ea_ := Option.some.inj (hx145_7.symm.trans hx146_7)
                          injection ea_ with ea_ en_ ec_
                          subst ea_
                          subst ec_
                          clear en_
                          have p147 : 0 ≤ (0 : Int) := (by omega)
                          have q147 : 0 < (((rd_T27 t126 0).f7).length : Int) := of_decide_eq_true (by first | (with_reducible assumption) | assumption)
                          obtain ⟨ad147, A147_7, c147_7, e147, hx147_0, hx147_1, hx147_2, hx147_3, hx147_4, hx147_5, hx147_6, hx147_7, hl147_7, hi147_7⟩ := at_T27 (by repeat (first | (with_reducible exact HR146_7.out) | (with_reducible refine Kd.C_alloc ?_ _) | (with_reducible refine Kd.C_drewN ?_ _) | (with_reducible refine Kd.C_drew ?_) | exact HR146_7.out)) 0 p147 q147
                          cases e147
                          obtain ⟨ce147, hce147, hMe147, hcc147⟩ := Kd.R_get HL146_7.out z27 0 p147 (by first | exact q147 | exact of_decide_eq_true (by first | (with_reducible assumption) | assumption) | (have e_ := (Kd.R_reads' HL146_7.out).1; omega))
                          obtain ⟨ve147_7, rfl, ge147_7⟩ := k27_openM hMe147
                          have hv147_7 := hcc147 7 _ rfl
                          rw [add_field _ _ 7 (by omega)] at hv147_7
                          replace hv147_7 := Option.some.inj (hv147_7.symm.trans hx147_7)
                          rw [hv147_7] at ge147_7
                          have HL147_7 := Aside0.mk (show Kd.R k27 27 _ _ _ _ ((rd_T27 ((rd_T27 t126 0).f7) 0).f7) from ge147_7)
                          clear hv147_7 ge147_7
                          clear hcc147 hce147
                          have qi147 : (0 < ((rd_T27 t126 0).f7).length) = True := eq_true (by omega)
                          (try rw [show ((0 : Int)).toNat = 0 from rfl] at hx147_0)
                          (try rw [show 0 * 8 = 0 from rfl] at hx147_0)
                          (try rw [Addr.add_zero'] at hx147_0)
                          (try rw [show ((0 : Int)).toNat = 0 from rfl] at hx147_1)
                          (try rw [show 0 * 8 = 0 from rfl] at hx147_1)
                          (try rw [Addr.add_zero'] at hx147_1)
                          (try rw [show ((0 : Int)).toNat = 0 from rfl] at hx147_2)
                          (try rw [show 0 * 8 = 0 from rfl] at hx147_2)
                          (try rw [Addr.add_zero'] at hx147_2)
                          (try rw [show ((0 : Int)).toNat = 0 from rfl] at hx147_3)
                          (try rw [show 0 * 8 = 0 from rfl] at hx147_3)
                          (try rw [Addr.add_zero'] at hx147_3)
                          (try rw [show ((0 : Int)).toNat = 0 from rfl] at hx147_4)
                          (try rw [show 0 * 8 = 0 from rfl] at hx147_4)
                          (try rw [Addr.add_zero'] at hx147_4)
                          (try rw [show ((0 : Int)).toNat = 0 from rfl] at hx147_5)
                          (try rw [show 0 * 8 = 0 from rfl] at hx147_5)
                          (try rw [Addr.add_zero'] at hx147_5)
                          (try rw [show ((0 : Int)).toNat = 0 from rfl] at hx147_6)
                          (try rw [show 0 * 8 = 0 from rfl] at hx147_6)
                          (try rw [Addr.add_zero'] at hx147_6)
                          (try rw [show ((0 : Int)).toNat = 0 from rfl] at hx147_7)
                          (try rw [show 0 * 8 = 0 from rfl] at hx147_7)
                          (try rw [Addr.add_zero'] at hx147_7)
                          have HR147_7 := Aside0.mk hi147_7
                          have HC147_7 := Aside0.mk hl147_7
                          clear hi147_7 hl147_7
                          replace p147 := eq_true p147
                          replace q147 := eq_true q147
                          refine start_ (n := 26) (S := fun w' => w'.cell? ⟨gb139, 0, none⟩ = some (.int .i64 t119) ∧ w'.cell? ⟨gb139, 1, none⟩ = some (.int .i64 t120) ∧ w'.cell? ⟨gb139, 2, none⟩ = some (.bool t121) ∧ w'.cell? ⟨gb139, 3, none⟩ = some (.bool t122) ∧ w'.cell? ⟨gb139, 4, none⟩ = some (.string t123) ∧ w'.cell? ⟨gb139, 5, none⟩ = some (.string t124) ∧ w'.cell? ⟨gb139, 6, none⟩ = some (.string t125) ∧ w'.cell? ⟨gb139, 7, none⟩ = some (.slice (some ad145) t126.length co47) ∧ w'.cell? ⟨gb140, 0, none⟩ = some (.int .i64 t129) ∧ w'.cell? ⟨gb140, 1, none⟩ = some (.int .i64 t130) ∧ w'.cell? ⟨gb140, 2, none⟩ = some (.bool t131) ∧ w'.cell? ⟨gb140, 3, none⟩ = some (.bool t132) ∧ w'.cell? ⟨gb140, 4, none⟩ = some (.string t133) ∧ w'.cell? ⟨gb140, 5, none⟩ = some (.string t134) ∧ w'.cell? ⟨gb140, 6, none⟩ = some (.string t135) ∧ w'.cell? ⟨gb140, 7, none⟩ = some (.slice Ao49 t136.length co49) ∧ w'.cell? ad145 = some (.int .i64 ((rd_T27 t126 0).f0)) ∧ w'.cell? ⟨ad145.block, ad145.off + 1, none⟩ = some (.int .i64 ((rd_T27 t126 0).f1)) ∧ w'.cell? ⟨ad145.block, ad145.off + 2, none⟩ = some (.bool ((rd_T27 t126 0).f2)) ∧ w'.cell? ⟨ad145.block, ad145.off + 3, none⟩ = some (.bool ((rd_T27 t126 0).f3)) ∧ w'.cell? ⟨ad145.block, ad145.off + 4, none⟩ = some (.string ((rd_T27 t126 0).f4)) ∧ w'.cell? ⟨ad145.block, ad145.off + 5, none⟩ = some (.string ((rd_T27 t126 0).f5)) ∧ w'.cell? ⟨ad145.block, ad145.off + 6, none⟩ = some (.string ((rd_T27 t126 0).f6)) ∧ w'.cell? ⟨ad145.block, ad145.off + 7, none⟩ = some (.slice (some ad147) ((rd_T27 t126 0).f7).length c145_7) ∧ w'.cell? ad145 = some (.int .i64 ((rd_T27 t126 0).f0)) ∧ w'.cell? ⟨ad145.block, ad145.off + 1, none⟩ = some (.int .i64 ((rd_T27 t126 0).f1)) ∧ w'.cell? ⟨ad145.block, ad145.off + 2, none⟩ = some (.bool ((rd_T27 t126 0).f2)) ∧ w'.cell? ⟨ad145.block, ad145.off + 3, none⟩ = some (.bool ((rd_T27 t126 0).f3)) ∧ w'.cell? ⟨ad145.block, ad145.off + 4, none⟩ = some (.string ((rd_T27 t126 0).f4)) ∧ w'.cell? ⟨ad145.block, ad145.off + 5, none⟩ = some (.string ((rd_T27 t126 0).f5)) ∧ w'.cell? ⟨ad145.block, ad145.off + 6, none⟩ = some (.string ((rd_T27 t126 0).f6)) ∧ w'.cell? ⟨ad145.block, ad145.off + 7, none⟩ = some (.slice (some ad147) ((rd_T27 t126 0).f7).length c145_7) ∧ w'.cell? ad147 = some (.int .i64 ((rd_T27 ((rd_T27 t126 0).f7) 0).f0)) ∧ w'.cell? ⟨ad147.block, ad147.off + 1, none⟩ = some (.int .i64 ((rd_T27 ((rd_T27 t126 0).f7) 0).f1)) ∧ w'.cell? ⟨ad147.block, ad147.off + 2, none⟩ = some (.bool ((rd_T27 ((rd_T27 t126 0).f7) 0).f2)) ∧ w'.cell? ⟨ad147.block, ad147.off + 3, none⟩ = some (.bool ((rd_T27 ((rd_T27 t126 0).f7) 0).f3)) ∧ w'.cell? ⟨ad147.block, ad147.off + 4, none⟩ = some (.string ((rd_T27 ((rd_T27 t126 0).f7) 0).f4)) ∧ w'.cell? ⟨ad147.block, ad147.off + 5, none⟩ = some (.string ((rd_T27 ((rd_T27 t126 0).f7) 0).f5)) ∧ w'.cell? ⟨ad147.block, ad147.off + 6, none⟩ = some (.string ((rd_T27 ((rd_T27 t126 0).f7) 0).f6)) ∧ w'.cell? ⟨ad147.block, ad147.off + 7, none⟩ = some (.slice A147_7 ((rd_T27 ((rd_T27 t126 0).f7) 0).f7).length c147_7)) (ds := []) #[false, false, false, false, false, false, false, false, false, false, false, false, false, false, false, false, false, false, false, false, false, false, false, false, false, false] (by kernel_rfl) rfl rfl ⟨(blk_cell BK139.out 0).trans rfl, (blk_cell BK139.out 1).trans rfl, (blk_cell BK139.out 2).trans rfl, (blk_cell BK139.out 3).trans rfl, (blk_cell BK139.out 4).trans rfl, (blk_cell BK139.out 5).trans rfl, (blk_cell BK139.out 6).trans rfl, (blk_cell BK139.out 7).trans rfl, (blk_cell BK140.out 0).trans rfl, (blk_cell BK140.out 1).trans rfl, (blk_cell BK140.out 2).trans rfl, (blk_cell BK140.out 3).trans rfl, (blk_cell BK140.out 4).trans rfl, (blk_cell BK140.out 5).trans rfl, (blk_cell BK140.out 6).trans rfl, (blk_cell BK140.out 7).trans rfl, hx145_0, hx145_1, hx145_2, hx145_3, hx145_4, hx145_5, hx145_6, hx145_7, hx146_0, hx146_1, hx146_2, hx146_3, hx146_4, hx146_5, hx146_6, hx146_7, hx147_0, hx147_1, hx147_2, hx147_3, hx147_4, hx147_5, hx147_6, hx147_7⟩ (fun hHeld => ?_); refine with_tabW rubricatorlaw19_BlockItems.tab21 rubricatorlaw19_BlockItems.bits21 (fun HT_ HW_ => ?_)
                          generalize wc.drew = w68 at HO_8 HO_140007 HO_141007 BK139 BK140 HB HL145_7 HL146_7 HL147_7 HR145_7 HR146_7 HR147_7 hx145_0 hx145_1 hx145_2 hx145_3 hx145_4 hx145_5 hx145_6 hx145_7 hx146_0 hx146_1 hx146_2 hx146_3 hx146_4 hx146_5 hx146_6 hx146_7 hx147_0 hx147_1 hx147_2 hx147_3 hx147_4 hx147_5 hx147_6 hx147_7 hHeld ⊢
                          refine pure_ (i := 0) (N := some 111) (v := ?_) (a' := ?_) #[true, false, false, false, false, false, false, false, false, false, false, false, false, false, false, false, false, false, false, false, false, false, false, false, false, false] rfl rfl (any_of HT_.out (by kernel_rfl)) (fun _ _ _ h => h) (Or.inl ⟨by rfl, ?_⟩) ?_ ?_
                          rotate_left
                          · intro w'
                            go_simp
                            with_reducible rfl
                          rotate_left
                          · simp only [Act.put, List.setIfInBounds_toArray, List.set_cons_zero, List.set_cons_succ, i64_w, i32_w]
                            rfl
                          refine take_ (i := 1) (N := some 112) (v := ?_) (a' := ?_) #[true, true, false, false, false, false, false, false, false, false, false, false, false, false, false, false, false, false, false, false, false, false, false, false, false, false] rfl rfl (take_ofW HT_.out HW_.out (by kernel_rfl)) (fun _ _ _ h => h) (Or.inl ⟨by rfl, ?_⟩) hHeld ?_ ?_
                          rotate_left
                          · rintro w' ⟨s0, s1, s2, s3, s4, s5, s6, s7, s8, s9, s10, s11, s12, s13, s14, s15, s16, s17, s18, s19, s20, s21, s22, s23, s24, s25, s26, s27, s28, s29, s30, s31, s32, s33, s34, s35, s36, s37, s38, s39⟩
                            go_simp
                            with_reducible rfl
                          rotate_left
                          · simp only [Act.put, List.setIfInBounds_toArray, List.set_cons_zero, List.set_cons_succ, i64_w, i32_w]
                            rfl
                          refine pure_ (i := 2) (N := some 113) (v := ?_) (a' := ?_) #[true, true, true, false, false, false, false, false, false, false, false, false, false, false, false, false, false, false, false, false, false, false, false, false, false, false] rfl rfl (any_of HT_.out (by kernel_rfl)) (fun _ _ _ h => h) (Or.inl ⟨by rfl, ?_⟩) ?_ ?_
                          rotate_left
                          · intro w'
                            go_simp
                            with_reducible rfl
                          rotate_left
                          · simp only [Act.put, List.setIfInBounds_toArray, List.set_cons_zero, List.set_cons_succ, i64_w, i32_w]
                            rfl
                          refine pure_ (i := 3) (N := some 114) (v := ?_) (a' := ?_) #[true, true, true, true, false, false, false, false, false, false, false, false, false, false, false, false, false, false, false, false, false, false, false, false, false, false] rfl rfl (any_of HT_.out (by kernel_rfl)) (fun _ _ _ h => h) (Or.inl ⟨by rfl, ?_⟩) ?_ ?_
                          rotate_left
                          · intro w'
                            go_simp
                            with_reducible rfl
                          rotate_left
                          · simp only [Act.put, List.setIfInBounds_toArray, List.set_cons_zero, List.set_cons_succ, i64_w, i32_w]
                            rfl
                          refine take_ (i := 4) (N := some 115) (v := ?_) (a' := ?_) #[true, true, true, true, true, false, false, false, false, false, false, false, false, false, false, false, false, false, false, false, false, false, false, false, false, false] rfl rfl (take_ofW HT_.out HW_.out (by kernel_rfl)) (fun _ _ _ h => h) (Or.inl ⟨by rfl, ?_⟩) hHeld ?_ ?_
                          rotate_left
                          · rintro w' ⟨s0, s1, s2, s3, s4, s5, s6, s7, s8, s9, s10, s11, s12, s13, s14, s15, s16, s17, s18, s19, s20, s21, s22, s23, s24, s25, s26, s27, s28, s29, s30, s31, s32, s33, s34, s35, s36, s37, s38, s39⟩
                            go_simp
                            with_reducible rfl
                          rotate_left
                          · simp only [Act.put, List.setIfInBounds_toArray, List.set_cons_zero, List.set_cons_succ, i64_w, i32_w]
                            rfl
                          refine pure_ (i := 5) (N := some 116) (v := ?_) (a' := ?_) #[true, true, true, true, true, true, false, false, false, false, false, false, false, false, false, false, false, false, false, false, false, false, false, false, false, false] rfl rfl (any_of HT_.out (by kernel_rfl)) (fun _ _ _ h => h) (Or.inl ⟨by rfl, ?_⟩) ?_ ?_
                          rotate_left
                          · intro w'
                            go_simp
                            with_reducible rfl
                          rotate_left
                          · simp only [Act.put, List.setIfInBounds_toArray, List.set_cons_zero, List.set_cons_succ, i64_w, i32_w]
                            rfl
                          refine pure_ (i := 6) (N := some 117) (v := ?_) (a' := ?_) #[true, true, true, true, true, true, true, false, false, false, false, false, false, false, false, false, false, false, false, false, false, false, false, false, false, false] rfl rfl (any_of HT_.out (by kernel_rfl)) (fun _ _ _ h => h) (Or.inl ⟨by rfl, ?_⟩) ?_ ?_
                          rotate_left
                          · intro w'
                            go_simp
                            with_reducible rfl
                          rotate_left
                          · simp only [Act.put, List.setIfInBounds_toArray, List.set_cons_zero, List.set_cons_succ, i64_w, i32_w]
                            rfl
                          refine pure_ (i := 7) (N := some 118) (v := ?_) (a' := ?_) #[true, true, true, true, true, true, true, true, false, false, false, false, false, false, false, false, false, false, false, false, false, false, false, false, false, false] rfl rfl (any_of HT_.out (by kernel_rfl)) (fun _ _ _ h => h) (Or.inl ⟨by rfl, ?_⟩) ?_ ?_
                          rotate_left
                          · intro w'
                            go_simp
                            with_reducible rfl
                          rotate_left
                          · simp only [Act.put, List.setIfInBounds_toArray, List.set_cons_zero, List.set_cons_succ, i64_w, i32_w]
                            rfl
                          refine pure_ (i := 8) (N := some 119) (v := ?_) (a' := ?_) #[true, true, true, true, true, true, true, true, true, false, false, false, false, false, false, false, false, false, false, false, false, false, false, false, false, false] rfl rfl (any_of HT_.out (by kernel_rfl)) (fun _ _ _ h => h) (Or.inl ⟨by rfl, ?_⟩) ?_ ?_
                          rotate_left
                          · intro w'
                            go_simp
                            with_reducible rfl
                          rotate_left
                          · simp only [Act.put, List.setIfInBounds_toArray, List.set_cons_zero, List.set_cons_succ, i64_w, i32_w]
                            rfl
                          refine pure_ (i := 17) (N := some 128) (v := ?_) (a' := ?_) #[true, true, true, true, true, true, true, true, true, false, false, false, false, false, false, false, false, true, false, false, false, false, false, false, false, false] rfl rfl (any_of HT_.out (by kernel_rfl)) (fun _ _ _ h => h) (Or.inl ⟨by rfl, ?_⟩) ?_ ?_
                          rotate_left
                          · intro w'
                            go_simp
                            with_reducible rfl
                          rotate_left
                          · simp only [Act.put, List.setIfInBounds_toArray, List.set_cons_zero, List.set_cons_succ, i64_w, i32_w]
                            rfl
                          refine take_ (i := 9) (N := some 120) (v := ?_) (a' := ?_) #[true, true, true, true, true, true, true, true, true, true, false, false, false, false, false, false, false, true, false, false, false, false, false, false, false, false] rfl rfl (take_ofW HT_.out HW_.out (by kernel_rfl)) (fun _ _ _ h => h) (Or.inl ⟨by rfl, ?_⟩) hHeld ?_ ?_
                          rotate_left
                          · rintro w' ⟨s0, s1, s2, s3, s4, s5, s6, s7, s8, s9, s10, s11, s12, s13, s14, s15, s16, s17, s18, s19, s20, s21, s22, s23, s24, s25, s26, s27, s28, s29, s30, s31, s32, s33, s34, s35, s36, s37, s38, s39⟩
                            go_simp
                            with_reducible rfl
                          rotate_left
                          · simp only [Act.put, List.setIfInBounds_toArray, List.set_cons_zero, List.set_cons_succ, i64_w, i32_w]
                            rfl
                          refine pure_ (i := 10) (N := some 121) (v := ?_) (a' := ?_) #[true, true, true, true, true, true, true, true, true, true, true, false, false, false, false, false, false, true, false, false, false, false, false, false, false, false] rfl rfl (any_of HT_.out (by kernel_rfl)) (fun _ _ _ h => h) (Or.inl ⟨by rfl, ?_⟩) ?_ ?_
                          rotate_left
                          · intro w'
                            go_simp
                            with_reducible rfl
                          rotate_left
                          · simp only [Act.put, List.setIfInBounds_toArray, List.set_cons_zero, List.set_cons_succ, i64_w, i32_w]
                            rfl
                          refine pure_ (i := 11) (N := some 122) (v := ?_) (a' := ?_) #[true, true, true, true, true, true, true, true, true, true, true, true, false, false, false, false, false, true, false, false, false, false, false, false, false, false] rfl rfl (any_of HT_.out (by kernel_rfl)) (fun _ _ _ h => h) (Or.inl ⟨by rfl, ?_⟩) ?_ ?_
                          rotate_left
                          · intro w'
                            go_simp
                            with_reducible rfl
                          rotate_left
                          · simp only [Act.put, List.setIfInBounds_toArray, List.set_cons_zero, List.set_cons_succ, i64_w, i32_w]
                            rfl
                          refine take_ (i := 12) (N := some 123) (v := ?_) (a' := ?_) #[true, true, true, true, true, true, true, true, true, true, true, true, true, false, false, false, false, true, false, false, false, false, false, false, false, false] rfl rfl (take_ofW HT_.out HW_.out (by kernel_rfl)) (fun _ _ _ h => h) (Or.inl ⟨by rfl, ?_⟩) hHeld ?_ ?_
                          rotate_left
                          · rintro w' ⟨s0, s1, s2, s3, s4, s5, s6, s7, s8, s9, s10, s11, s12, s13, s14, s15, s16, s17, s18, s19, s20, s21, s22, s23, s24, s25, s26, s27, s28, s29, s30, s31, s32, s33, s34, s35, s36, s37, s38, s39⟩
                            go_simp
                            with_reducible rfl
                          rotate_left
                          · simp only [Act.put, List.setIfInBounds_toArray, List.set_cons_zero, List.set_cons_succ, i64_w, i32_w]
                            rfl
                          refine pure_ (i := 13) (N := some 124) (v := ?_) (a' := ?_) #[true, true, true, true, true, true, true, true, true, true, true, true, true, true, false, false, false, true, false, false, false, false, false, false, false, false] rfl rfl (any_of HT_.out (by kernel_rfl)) (fun _ _ _ h => h) (Or.inl ⟨by rfl, ?_⟩) ?_ ?_
                          rotate_left
                          · intro w'
                            go_simp
                            with_reducible rfl
                          rotate_left
                          · simp only [Act.put, List.setIfInBounds_toArray, List.set_cons_zero, List.set_cons_succ, i64_w, i32_w]
                            rfl
                          refine pure_ (i := 14) (N := some 125) (v := ?_) (a' := ?_) #[true, true, true, true, true, true, true, true, true, true, true, true, true, true, true, false, false, true, false, false, false, false, false, false, false, false] rfl rfl (any_of HT_.out (by kernel_rfl)) (fun _ _ _ h => h) (Or.inl ⟨by rfl, ?_⟩) ?_ ?_
                          rotate_left
                          · intro w'
                            go_simp
                            with_reducible rfl
                          rotate_left
                          · simp only [Act.put, List.setIfInBounds_toArray, List.set_cons_zero, List.set_cons_succ, i64_w, i32_w]
                            rfl
                          refine take_ (i := 15) (N := some 126) (v := ?_) (a' := ?_) #[true, true, true, true, true, true, true, true, true, true, true, true, true, true, true, true, false, true, false, false, false, false, false, false, false, false] rfl rfl (take_ofW HT_.out HW_.out (by kernel_rfl)) (fun _ _ _ h => h) (Or.inl ⟨by rfl, ?_⟩) hHeld ?_ ?_
                          rotate_left
                          · rintro w' ⟨s0, s1, s2, s3, s4, s5, s6, s7, s8, s9, s10, s11, s12, s13, s14, s15, s16, s17, s18, s19, s20, s21, s22, s23, s24, s25, s26, s27, s28, s29, s30, s31, s32, s33, s34, s35, s36, s37, s38, s39⟩
                            go_simp
                            with_reducible rfl
                          rotate_left
                          · simp only [Act.put, List.setIfInBounds_toArray, List.set_cons_zero, List.set_cons_succ, i64_w, i32_w]
                            rfl
                          refine pure_ (i := 16) (N := some 127) (v := ?_) (a' := ?_) #[true, true, true, true, true, true, true, true, true, true, true, true, true, true, true, true, true, true, false, false, false, false, false, false, false, false] rfl rfl (any_of HT_.out (by kernel_rfl)) (fun _ _ _ h => h) (Or.inl ⟨by rfl, ?_⟩) ?_ ?_
                          rotate_left
                          · intro w'
                            go_simp
                            with_reducible rfl
                          rotate_left
                          · simp only [Act.put, List.setIfInBounds_toArray, List.set_cons_zero, List.set_cons_succ, i64_w, i32_w]
                            rfl
                          refine take_ (i := 18) (N := some 129) (v := ?_) (a' := ?_) #[true, true, true, true, true, true, true, true, true, true, true, true, true, true, true, true, true, true, true, false, false, false, false, false, false, false] rfl rfl (take_ofW HT_.out HW_.out (by kernel_rfl)) (fun _ _ _ h => h) (Or.inl ⟨by rfl, ?_⟩) hHeld ?_ ?_
                          rotate_left
                          · rintro w' ⟨s0, s1, s2, s3, s4, s5, s6, s7, s8, s9, s10, s11, s12, s13, s14, s15, s16, s17, s18, s19, s20, s21, s22, s23, s24, s25, s26, s27, s28, s29, s30, s31, s32, s33, s34, s35, s36, s37, s38, s39⟩
                            go_simp
                            with_reducible rfl
                          rotate_left
                          · simp only [Act.put, List.setIfInBounds_toArray, List.set_cons_zero, List.set_cons_succ, i64_w, i32_w]
                            rfl
                          refine pure_ (i := 19) (N := some 130) (v := ?_) (a' := ?_) #[true, true, true, true, true, true, true, true, true, true, true, true, true, true, true, true, true, true, true, true, false, false, false, false, false, false] rfl rfl (any_of HT_.out (by kernel_rfl)) (fun _ _ _ h => h) (Or.inl ⟨by rfl, ?_⟩) ?_ ?_
                          rotate_left
                          · intro w'
                            go_simp
                            with_reducible rfl
                          rotate_left
                          · simp only [Act.put, List.setIfInBounds_toArray, List.set_cons_zero, List.set_cons_succ, i64_w, i32_w]
                            rfl
                          refine one_ (i := 20) (N := some 131) #[true, true, true, true, true, true, true, true, true, true, true, true, true, true, true, true, true, true, true, true, true, false, false, false, false, false] rfl rfl (one_of HT_.out (by kernel_rfl)) (by decide) (fun K hK => ?_)
                          refine goes_ Tryz.func15 (by kernel_rfl) rfl #[.agg #[.int .i64 0, .int .i64 0, .bool false, .bool false, .string (⟨#[]⟩ : ByteArray), .string (⟨#[]⟩ : ByteArray), .string (⟨#[]⟩ : ByteArray), .slice A147_7 ((rd_T27 ((rd_T27 t126 0).f7) 0).f7).length c147_7], .agg #[.int .i64 0, .int .i64 0, .bool false, .bool false, .string (⟨#[]⟩ : ByteArray), .string (⟨#[]⟩ : ByteArray), .string (⟨#[]⟩ : ByteArray), .slice Ao49 t136.length co49]] (by rfl) rfl rfl (by (try simp only [List.map_toArray, List.map_cons, List.map_nil]); first | done | rfl | (simp only [List.length_drop, List.length_take]; rfl)) ?_
                          with_reducible refine (rubricatorlaw19_same.calls kj38 0 0 false false (⟨#[]⟩ : ByteArray) (⟨#[]⟩ : ByteArray) (⟨#[]⟩ : ByteArray) _ _ ((rd_T27 ((rd_T27 t126 0).f7) 0).f7) 0 0 false false (⟨#[]⟩ : ByteArray) (⟨#[]⟩ : ByteArray) (⟨#[]⟩ : ByteArray) _ _ t136 true _ ?side1 ?side2 ?side3 ?side4 A65.out).mono ?_
                          (case side1 => repeat (first | exact (by repeat (first | (with_reducible exact HR147_7.out) | (with_reducible refine Kd.C_alloc ?_ _) | (with_reducible refine Kd.C_drewN ?_ _) | (with_reducible refine Kd.C_drew ?_) | exact HR147_7.out)) | (with_reducible refine Kd.C_alloc ?_ _) | (with_reducible refine Kd.C_drewN ?_ _) | (with_reducible refine Kd.C_drew ?_)))
                          (case side2 => exact HC147_7.out)
                          (case side3 => repeat (first | exact (Kd.R_reads' HO_141007.out).2.2 | (with_reducible refine Kd.C_alloc ?_ _) | (with_reducible refine Kd.C_drewN ?_ _) | (with_reducible refine Kd.C_drew ?_)))
                          (case side4 => exact (Kd.R_reads' HO_141007.out).2.1)
                          rintro e w69 ⟨rfl, hb⟩
                          have HS16_ := (hb.cell (World.block_lt_of_cell? _ _ (hHeld.2.2.2.2.2.2.2.2.2.2.2.2.2.2.2.2.1))).trans (hHeld.2.2.2.2.2.2.2.2.2.2.2.2.2.2.2.2.1)
                          have HS17_ := (hb.cell (World.block_lt_of_cell? _ _ (hHeld.2.2.2.2.2.2.2.2.2.2.2.2.2.2.2.2.2.1))).trans (hHeld.2.2.2.2.2.2.2.2.2.2.2.2.2.2.2.2.2.1)
                          have HS18_ := (hb.cell (World.block_lt_of_cell? _ _ (hHeld.2.2.2.2.2.2.2.2.2.2.2.2.2.2.2.2.2.2.1))).trans (hHeld.2.2.2.2.2.2.2.2.2.2.2.2.2.2.2.2.2.2.1)
                          have HS19_ := (hb.cell (World.block_lt_of_cell? _ _ (hHeld.2.2.2.2.2.2.2.2.2.2.2.2.2.2.2.2.2.2.2.1))).trans (hHeld.2.2.2.2.2.2.2.2.2.2.2.2.2.2.2.2.2.2.2.1)
                          have HS20_ := (hb.cell (World.block_lt_of_cell? _ _ (hHeld.2.2.2.2.2.2.2.2.2.2.2.2.2.2.2.2.2.2.2.2.1))).trans (hHeld.2.2.2.2.2.2.2.2.2.2.2.2.2.2.2.2.2.2.2.2.1)
                          have HS21_ := (hb.cell (World.block_lt_of_cell? _ _ (hHeld.2.2.2.2.2.2.2.2.2.2.2.2.2.2.2.2.2.2.2.2.2.1))).trans (hHeld.2.2.2.2.2.2.2.2.2.2.2.2.2.2.2.2.2.2.2.2.2.1)
                          have HS22_ := (hb.cell (World.block_lt_of_cell? _ _ (hHeld.2.2.2.2.2.2.2.2.2.2.2.2.2.2.2.2.2.2.2.2.2.2.1))).trans (hHeld.2.2.2.2.2.2.2.2.2.2.2.2.2.2.2.2.2.2.2.2.2.2.1)
                          have HS23_ := (hb.cell (World.block_lt_of_cell? _ _ (hHeld.2.2.2.2.2.2.2.2.2.2.2.2.2.2.2.2.2.2.2.2.2.2.2.1))).trans (hHeld.2.2.2.2.2.2.2.2.2.2.2.2.2.2.2.2.2.2.2.2.2.2.2.1)
                          have HS24_ := (hb.cell (World.block_lt_of_cell? _ _ (hHeld.2.2.2.2.2.2.2.2.2.2.2.2.2.2.2.2.2.2.2.2.2.2.2.2.1))).trans (hHeld.2.2.2.2.2.2.2.2.2.2.2.2.2.2.2.2.2.2.2.2.2.2.2.2.1)
                          have HS25_ := (hb.cell (World.block_lt_of_cell? _ _ (hHeld.2.2.2.2.2.2.2.2.2.2.2.2.2.2.2.2.2.2.2.2.2.2.2.2.2.1))).trans (hHeld.2.2.2.2.2.2.2.2.2.2.2.2.2.2.2.2.2.2.2.2.2.2.2.2.2.1)
                          have HS26_ := (hb.cell (World.block_lt_of_cell? _ _ (hHeld.2.2.2.2.2.2.2.2.2.2.2.2.2.2.2.2.2.2.2.2.2.2.2.2.2.2.1))).trans (hHeld.2.2.2.2.2.2.2.2.2.2.2.2.2.2.2.2.2.2.2.2.2.2.2.2.2.2.1)
                          have HS27_ := (hb.cell (World.block_lt_of_cell? _ _ (hHeld.2.2.2.2.2.2.2.2.2.2.2.2.2.2.2.2.2.2.2.2.2.2.2.2.2.2.2.1))).trans (hHeld.2.2.2.2.2.2.2.2.2.2.2.2.2.2.2.2.2.2.2.2.2.2.2.2.2.2.2.1)
                          have HS28_ := (hb.cell (World.block_lt_of_cell? _ _ (hHeld.2.2.2.2.2.2.2.2.2.2.2.2.2.2.2.2.2.2.2.2.2.2.2.2.2.2.2.2.1))).trans (hHeld.2.2.2.2.2.2.2.2.2.2.2.2.2.2.2.2.2.2.2.2.2.2.2.2.2.2.2.2.1)
                          have HS29_ := (hb.cell (World.block_lt_of_cell? _ _ (hHeld.2.2.2.2.2.2.2.2.2.2.2.2.2.2.2.2.2.2.2.2.2.2.2.2.2.2.2.2.2.1))).trans (hHeld.2.2.2.2.2.2.2.2.2.2.2.2.2.2.2.2.2.2.2.2.2.2.2.2.2.2.2.2.2.1)
                          have HS30_ := (hb.cell (World.block_lt_of_cell? _ _ (hHeld.2.2.2.2.2.2.2.2.2.2.2.2.2.2.2.2.2.2.2.2.2.2.2.2.2.2.2.2.2.2.1))).trans (hHeld.2.2.2.2.2.2.2.2.2.2.2.2.2.2.2.2.2.2.2.2.2.2.2.2.2.2.2.2.2.2.1)
                          have HS31_ := (hb.cell (World.block_lt_of_cell? _ _ (hHeld.2.2.2.2.2.2.2.2.2.2.2.2.2.2.2.2.2.2.2.2.2.2.2.2.2.2.2.2.2.2.2.1))).trans (hHeld.2.2.2.2.2.2.2.2.2.2.2.2.2.2.2.2.2.2.2.2.2.2.2.2.2.2.2.2.2.2.2.1)
                          have HS32_ := (hb.cell (World.block_lt_of_cell? _ _ (hHeld.2.2.2.2.2.2.2.2.2.2.2.2.2.2.2.2.2.2.2.2.2.2.2.2.2.2.2.2.2.2.2.2.1))).trans (hHeld.2.2.2.2.2.2.2.2.2.2.2.2.2.2.2.2.2.2.2.2.2.2.2.2.2.2.2.2.2.2.2.2.1)
                          have HS33_ := (hb.cell (World.block_lt_of_cell? _ _ (hHeld.2.2.2.2.2.2.2.2.2.2.2.2.2.2.2.2.2.2.2.2.2.2.2.2.2.2.2.2.2.2.2.2.2.1))).trans (hHeld.2.2.2.2.2.2.2.2.2.2.2.2.2.2.2.2.2.2.2.2.2.2.2.2.2.2.2.2.2.2.2.2.2.1)
                          have HS34_ := (hb.cell (World.block_lt_of_cell? _ _ (hHeld.2.2.2.2.2.2.2.2.2.2.2.2.2.2.2.2.2.2.2.2.2.2.2.2.2.2.2.2.2.2.2.2.2.2.1))).trans (hHeld.2.2.2.2.2.2.2.2.2.2.2.2.2.2.2.2.2.2.2.2.2.2.2.2.2.2.2.2.2.2.2.2.2.2.1)
                          have HS35_ := (hb.cell (World.block_lt_of_cell? _ _ (hHeld.2.2.2.2.2.2.2.2.2.2.2.2.2.2.2.2.2.2.2.2.2.2.2.2.2.2.2.2.2.2.2.2.2.2.2.1))).trans (hHeld.2.2.2.2.2.2.2.2.2.2.2.2.2.2.2.2.2.2.2.2.2.2.2.2.2.2.2.2.2.2.2.2.2.2.2.1)
                          have HS36_ := (hb.cell (World.block_lt_of_cell? _ _ (hHeld.2.2.2.2.2.2.2.2.2.2.2.2.2.2.2.2.2.2.2.2.2.2.2.2.2.2.2.2.2.2.2.2.2.2.2.2.1))).trans (hHeld.2.2.2.2.2.2.2.2.2.2.2.2.2.2.2.2.2.2.2.2.2.2.2.2.2.2.2.2.2.2.2.2.2.2.2.2.1)
                          have HS37_ := (hb.cell (World.block_lt_of_cell? _ _ (hHeld.2.2.2.2.2.2.2.2.2.2.2.2.2.2.2.2.2.2.2.2.2.2.2.2.2.2.2.2.2.2.2.2.2.2.2.2.2.1))).trans (hHeld.2.2.2.2.2.2.2.2.2.2.2.2.2.2.2.2.2.2.2.2.2.2.2.2.2.2.2.2.2.2.2.2.2.2.2.2.2.1)
                          have HS38_ := (hb.cell (World.block_lt_of_cell? _ _ (hHeld.2.2.2.2.2.2.2.2.2.2.2.2.2.2.2.2.2.2.2.2.2.2.2.2.2.2.2.2.2.2.2.2.2.2.2.2.2.2.1))).trans (hHeld.2.2.2.2.2.2.2.2.2.2.2.2.2.2.2.2.2.2.2.2.2.2.2.2.2.2.2.2.2.2.2.2.2.2.2.2.2.2.1)
                          have HS39_ := (hb.cell (World.block_lt_of_cell? _ _ (hHeld.2.2.2.2.2.2.2.2.2.2.2.2.2.2.2.2.2.2.2.2.2.2.2.2.2.2.2.2.2.2.2.2.2.2.2.2.2.2.2))).trans (hHeld.2.2.2.2.2.2.2.2.2.2.2.2.2.2.2.2.2.2.2.2.2.2.2.2.2.2.2.2.2.2.2.2.2.2.2.2.2.2.2)
                          refine ⟨_, rfl, ?_⟩
                          have n0_ := Aside0.mk (Kd.R_below (by (with_reducible repeat (first | apply Kd.R_alloc | apply Kd.R_drewN | apply Kd.R_drew)); exact HO_8.out) hb)
                          have n1_ := Aside0.mk (Kd.R_below (by (with_reducible repeat (first | apply Kd.R_alloc | apply Kd.R_drewN | apply Kd.R_drew)); exact HO_140007.out) hb)
                          have n2_ := Aside0.mk (Kd.R_below (by (with_reducible repeat (first | apply Kd.R_alloc | apply Kd.R_drewN | apply Kd.R_drew)); exact HO_141007.out) hb)
                          have n3_ := Aside0.mk (Kd.R_below (by (with_reducible repeat (first | apply Kd.R_alloc | apply Kd.R_drewN | apply Kd.R_drew)); exact HL145_7.out) hb)
                          have n4_ := Aside0.mk (Kd.R_below (by (with_reducible repeat (first | apply Kd.R_alloc | apply Kd.R_drewN | apply Kd.R_drew)); exact HL146_7.out) hb)
                          have n5_ := Aside0.mk (Kd.R_below (by (with_reducible repeat (first | apply Kd.R_alloc | apply Kd.R_drewN | apply Kd.R_drew)); exact HL147_7.out) hb)
                          have n6_ := Aside0.mk (blk_below (g := gb139) (o := .cells #[.int .i64 t119, .int .i64 t120, .bool t121, .bool t122, .string t123, .string t124, .string t125, .slice (some ad145) t126.length co47] 27 (0, 0)) (by (with_reducible repeat (first | refine blk_drewN ?_ _ | refine blk_drew ?_ | refine blk_alloc ?_ _)); exact BK139.out) hb)
                          have n7_ := Aside0.mk (blk_below (g := gb140) (o := .cells #[.int .i64 t129, .int .i64 t130, .bool t131, .bool t132, .string t133, .string t134, .string t135, .slice Ao49 t136.length co49] 27 (0, 0)) (by (with_reducible repeat (first | refine blk_drewN ?_ _ | refine blk_drew ?_ | refine blk_alloc ?_ _)); exact BK140.out) hb)
                          have n8_ := Aside0.mk (Kd.C_below (by repeat (first | (with_reducible exact HR145_7.out) | (with_reducible refine Kd.C_alloc ?_ _) | (with_reducible refine Kd.C_drewN ?_ _) | (with_reducible refine Kd.C_drew ?_) | exact HR145_7.out)) hb)
                          have n9_ := Aside0.mk (Kd.C_below (by repeat (first | (with_reducible exact HR146_7.out) | (with_reducible refine Kd.C_alloc ?_ _) | (with_reducible refine Kd.C_drewN ?_ _) | (with_reducible refine Kd.C_drew ?_) | exact HR146_7.out)) hb)
                          have n10_ := Aside0.mk (Kd.C_below (by repeat (first | (with_reducible exact HR147_7.out) | (with_reducible refine Kd.C_alloc ?_ _) | (with_reducible refine Kd.C_drewN ?_ _) | (with_reducible refine Kd.C_drew ?_) | exact HR147_7.out)) hb)
                          have n11_ := Aside0.mk (below_step (by repeat (first | (with_reducible first | exact HB.out | apply below_alloc | apply pw_below_drewN | apply below_drew1 | refine below_set ?_ GE139.out | refine below_set ?_ GE140.out) | exact HB.out)) hb)
                          clear HO_8
                          clear HO_140007
                          clear HO_141007
                          clear HL145_7
                          clear HL146_7
                          clear HL147_7
                          clear BK139
                          clear BK140
                          clear HR145_7
                          clear HR146_7
                          clear HR147_7
                          clear HB
                          have HO_8 := n0_
                          have HO_140007 := n1_
                          have HO_141007 := n2_
                          have HL145_7 := n3_
                          have HL146_7 := n4_
                          have HL147_7 := n5_
                          have BK139 := n6_
                          have BK140 := n7_
                          have HR145_7 := n8_
                          have HR146_7 := n9_
                          have HR147_7 := n10_
                          have HB := n11_
                          clear n0_ n1_ n2_ n3_ n4_ n5_ n6_ n7_ n8_ n9_ n10_ n11_
                          (try clear hb)
                          (try clear hb2)
                          (try clear hk)
                          (try clear hi)
                          refine hK.out _ _ ⟨(blk_cell BK139.out 0).trans rfl, (blk_cell BK139.out 1).trans rfl, (blk_cell BK139.out 2).trans rfl, (blk_cell BK139.out 3).trans rfl, (blk_cell BK139.out 4).trans rfl, (blk_cell BK139.out 5).trans rfl, (blk_cell BK139.out 6).trans rfl, (blk_cell BK139.out 7).trans rfl, (blk_cell BK140.out 0).trans rfl, (blk_cell BK140.out 1).trans rfl, (blk_cell BK140.out 2).trans rfl, (blk_cell BK140.out 3).trans rfl, (blk_cell BK140.out 4).trans rfl, (blk_cell BK140.out 5).trans rfl, (blk_cell BK140.out 6).trans rfl, (blk_cell BK140.out 7).trans rfl, HS16_, HS17_, HS18_, HS19_, HS20_, HS21_, HS22_, HS23_, HS24_, HS25_, HS26_, HS27_, HS28_, HS29_, HS30_, HS31_, HS32_, HS33_, HS34_, HS35_, HS36_, HS37_, HS38_, HS39_⟩ (fun hHeld => ?_)
                          clear hK K
                          refine norm_ (a' := ?_) ?_ ?_
                          rotate_left
                          · show Act.put _ (some 131) _ = _
                            simp only [Act.put, List.setIfInBounds_toArray, List.set_cons_zero, List.set_cons_succ, i64_w, i32_w]
                            rfl
                          refine pure_ (i := 21) (N := some 132) (v := ?_) (a' := ?_) #[true, true, true, true, true, true, true, true, true, true, true, true, true, true, true, true, true, true, true, true, true, true, false, false, false, false] rfl rfl (any_of HT_.out (by kernel_rfl)) (fun _ _ _ h => h) (Or.inl ⟨by rfl, ?_⟩) ?_ ?_
                          rotate_left
                          · intro w'
                            go_simp
                            with_reducible rfl
                          rotate_left
                          · simp only [Act.put, List.setIfInBounds_toArray, List.set_cons_zero, List.set_cons_succ, i64_w, i32_w]
                            rfl
                          refine pure_ (i := 22) (N := some 133) (v := ?_) (a' := ?_) #[true, true, true, true, true, true, true, true, true, true, true, true, true, true, true, true, true, true, true, true, true, true, true, false, false, false] rfl rfl (any_of HT_.out (by kernel_rfl)) (fun _ _ _ h => h) (Or.inl ⟨by rfl, ?_⟩) ?_ ?_
                          rotate_left
                          · intro w'
                            go_simp
                            with_reducible rfl
                          rotate_left
                          · simp only [Act.put, List.setIfInBounds_toArray, List.set_cons_zero, List.set_cons_succ, i64_w, i32_w]
                            rfl
                          refine one_ (i := 23) (N := some 134) #[true, true, true, true, true, true, true, true, true, true, true, true, true, true, true, true, true, true, true, true, true, true, true, true, false, false] rfl rfl (one_of HT_.out (by kernel_rfl)) (by decide) (fun K hK => ?_)
                          refine goes_ Tryz.func17 (by kernel_rfl) rfl #[] (by rfl) rfl rfl (by (try simp only [List.map_toArray, List.map_cons, List.map_nil]); first | done | rfl | (simp only [List.length_drop, List.length_take]; rfl)) ?_
                          with_reducible refine (rubricatorlaw19_known.calls  t149 _ ?side1 A67.out).mono ?_
                          (case side1 => first | (with_reducible exact hG) | (refine GL.below hG ?_; (repeat (first | (with_reducible first | exact HB.out | apply below_alloc | apply pw_below_drewN | apply below_drew1 | refine below_set ?_ GE139.out | refine below_set ?_ GE140.out) | exact HB.out)); done) | (refine GL.drawn hG ?_; (repeat (first | exact Drawn0.refl _ | apply Drawn0.step)); done) | exact hG)
                          rintro e w70 ⟨rfl, hb⟩
                          have HS16_ := (hb.cell (World.block_lt_of_cell? _ _ (hHeld.2.2.2.2.2.2.2.2.2.2.2.2.2.2.2.2.1))).trans (hHeld.2.2.2.2.2.2.2.2.2.2.2.2.2.2.2.2.1)
                          have HS17_ := (hb.cell (World.block_lt_of_cell? _ _ (hHeld.2.2.2.2.2.2.2.2.2.2.2.2.2.2.2.2.2.1))).trans (hHeld.2.2.2.2.2.2.2.2.2.2.2.2.2.2.2.2.2.1)
                          have HS18_ := (hb.cell (World.block_lt_of_cell? _ _ (hHeld.2.2.2.2.2.2.2.2.2.2.2.2.2.2.2.2.2.2.1))).trans (hHeld.2.2.2.2.2.2.2.2.2.2.2.2.2.2.2.2.2.2.1)
                          have HS19_ := (hb.cell (World.block_lt_of_cell? _ _ (hHeld.2.2.2.2.2.2.2.2.2.2.2.2.2.2.2.2.2.2.2.1))).trans (hHeld.2.2.2.2.2.2.2.2.2.2.2.2.2.2.2.2.2.2.2.1)
                          have HS20_ := (hb.cell (World.block_lt_of_cell? _ _ (hHeld.2.2.2.2.2.2.2.2.2.2.2.2.2.2.2.2.2.2.2.2.1))).trans (hHeld.2.2.2.2.2.2.2.2.2.2.2.2.2.2.2.2.2.2.2.2.1)
                          have HS21_ := (hb.cell (World.block_lt_of_cell? _ _ (hHeld.2.2.2.2.2.2.2.2.2.2.2.2.2.2.2.2.2.2.2.2.2.1))).trans (hHeld.2.2.2.2.2.2.2.2.2.2.2.2.2.2.2.2.2.2.2.2.2.1)
                          have HS22_ := (hb.cell (World.block_lt_of_cell? _ _ (hHeld.2.2.2.2.2.2.2.2.2.2.2.2.2.2.2.2.2.2.2.2.2.2.1))).trans (hHeld.2.2.2.2.2.2.2.2.2.2.2.2.2.2.2.2.2.2.2.2.2.2.1)
                          have HS23_ := (hb.cell (World.block_lt_of_cell? _ _ (hHeld.2.2.2.2.2.2.2.2.2.2.2.2.2.2.2.2.2.2.2.2.2.2.2.1))).trans (hHeld.2.2.2.2.2.2.2.2.2.2.2.2.2.2.2.2.2.2.2.2.2.2.2.1)
                          have HS24_ := (hb.cell (World.block_lt_of_cell? _ _ (hHeld.2.2.2.2.2.2.2.2.2.2.2.2.2.2.2.2.2.2.2.2.2.2.2.2.1))).trans (hHeld.2.2.2.2.2.2.2.2.2.2.2.2.2.2.2.2.2.2.2.2.2.2.2.2.1)
                          have HS25_ := (hb.cell (World.block_lt_of_cell? _ _ (hHeld.2.2.2.2.2.2.2.2.2.2.2.2.2.2.2.2.2.2.2.2.2.2.2.2.2.1))).trans (hHeld.2.2.2.2.2.2.2.2.2.2.2.2.2.2.2.2.2.2.2.2.2.2.2.2.2.1)
                          have HS26_ := (hb.cell (World.block_lt_of_cell? _ _ (hHeld.2.2.2.2.2.2.2.2.2.2.2.2.2.2.2.2.2.2.2.2.2.2.2.2.2.2.1))).trans (hHeld.2.2.2.2.2.2.2.2.2.2.2.2.2.2.2.2.2.2.2.2.2.2.2.2.2.2.1)
                          have HS27_ := (hb.cell (World.block_lt_of_cell? _ _ (hHeld.2.2.2.2.2.2.2.2.2.2.2.2.2.2.2.2.2.2.2.2.2.2.2.2.2.2.2.1))).trans (hHeld.2.2.2.2.2.2.2.2.2.2.2.2.2.2.2.2.2.2.2.2.2.2.2.2.2.2.2.1)
                          have HS28_ := (hb.cell (World.block_lt_of_cell? _ _ (hHeld.2.2.2.2.2.2.2.2.2.2.2.2.2.2.2.2.2.2.2.2.2.2.2.2.2.2.2.2.1))).trans (hHeld.2.2.2.2.2.2.2.2.2.2.2.2.2.2.2.2.2.2.2.2.2.2.2.2.2.2.2.2.1)
                          have HS29_ := (hb.cell (World.block_lt_of_cell? _ _ (hHeld.2.2.2.2.2.2.2.2.2.2.2.2.2.2.2.2.2.2.2.2.2.2.2.2.2.2.2.2.2.1))).trans (hHeld.2.2.2.2.2.2.2.2.2.2.2.2.2.2.2.2.2.2.2.2.2.2.2.2.2.2.2.2.2.1)
                          have HS30_ := (hb.cell (World.block_lt_of_cell? _ _ (hHeld.2.2.2.2.2.2.2.2.2.2.2.2.2.2.2.2.2.2.2.2.2.2.2.2.2.2.2.2.2.2.1))).trans (hHeld.2.2.2.2.2.2.2.2.2.2.2.2.2.2.2.2.2.2.2.2.2.2.2.2.2.2.2.2.2.2.1)
                          have HS31_ := (hb.cell (World.block_lt_of_cell? _ _ (hHeld.2.2.2.2.2.2.2.2.2.2.2.2.2.2.2.2.2.2.2.2.2.2.2.2.2.2.2.2.2.2.2.1))).trans (hHeld.2.2.2.2.2.2.2.2.2.2.2.2.2.2.2.2.2.2.2.2.2.2.2.2.2.2.2.2.2.2.2.1)
                          have HS32_ := (hb.cell (World.block_lt_of_cell? _ _ (hHeld.2.2.2.2.2.2.2.2.2.2.2.2.2.2.2.2.2.2.2.2.2.2.2.2.2.2.2.2.2.2.2.2.1))).trans (hHeld.2.2.2.2.2.2.2.2.2.2.2.2.2.2.2.2.2.2.2.2.2.2.2.2.2.2.2.2.2.2.2.2.1)
                          have HS33_ := (hb.cell (World.block_lt_of_cell? _ _ (hHeld.2.2.2.2.2.2.2.2.2.2.2.2.2.2.2.2.2.2.2.2.2.2.2.2.2.2.2.2.2.2.2.2.2.1))).trans (hHeld.2.2.2.2.2.2.2.2.2.2.2.2.2.2.2.2.2.2.2.2.2.2.2.2.2.2.2.2.2.2.2.2.2.1)
                          have HS34_ := (hb.cell (World.block_lt_of_cell? _ _ (hHeld.2.2.2.2.2.2.2.2.2.2.2.2.2.2.2.2.2.2.2.2.2.2.2.2.2.2.2.2.2.2.2.2.2.2.1))).trans (hHeld.2.2.2.2.2.2.2.2.2.2.2.2.2.2.2.2.2.2.2.2.2.2.2.2.2.2.2.2.2.2.2.2.2.2.1)
                          have HS35_ := (hb.cell (World.block_lt_of_cell? _ _ (hHeld.2.2.2.2.2.2.2.2.2.2.2.2.2.2.2.2.2.2.2.2.2.2.2.2.2.2.2.2.2.2.2.2.2.2.2.1))).trans (hHeld.2.2.2.2.2.2.2.2.2.2.2.2.2.2.2.2.2.2.2.2.2.2.2.2.2.2.2.2.2.2.2.2.2.2.2.1)
                          have HS36_ := (hb.cell (World.block_lt_of_cell? _ _ (hHeld.2.2.2.2.2.2.2.2.2.2.2.2.2.2.2.2.2.2.2.2.2.2.2.2.2.2.2.2.2.2.2.2.2.2.2.2.1))).trans (hHeld.2.2.2.2.2.2.2.2.2.2.2.2.2.2.2.2.2.2.2.2.2.2.2.2.2.2.2.2.2.2.2.2.2.2.2.2.1)
                          have HS37_ := (hb.cell (World.block_lt_of_cell? _ _ (hHeld.2.2.2.2.2.2.2.2.2.2.2.2.2.2.2.2.2.2.2.2.2.2.2.2.2.2.2.2.2.2.2.2.2.2.2.2.2.1))).trans (hHeld.2.2.2.2.2.2.2.2.2.2.2.2.2.2.2.2.2.2.2.2.2.2.2.2.2.2.2.2.2.2.2.2.2.2.2.2.2.1)
                          have HS38_ := (hb.cell (World.block_lt_of_cell? _ _ (hHeld.2.2.2.2.2.2.2.2.2.2.2.2.2.2.2.2.2.2.2.2.2.2.2.2.2.2.2.2.2.2.2.2.2.2.2.2.2.2.1))).trans (hHeld.2.2.2.2.2.2.2.2.2.2.2.2.2.2.2.2.2.2.2.2.2.2.2.2.2.2.2.2.2.2.2.2.2.2.2.2.2.2.1)
                          have HS39_ := (hb.cell (World.block_lt_of_cell? _ _ (hHeld.2.2.2.2.2.2.2.2.2.2.2.2.2.2.2.2.2.2.2.2.2.2.2.2.2.2.2.2.2.2.2.2.2.2.2.2.2.2.2))).trans (hHeld.2.2.2.2.2.2.2.2.2.2.2.2.2.2.2.2.2.2.2.2.2.2.2.2.2.2.2.2.2.2.2.2.2.2.2.2.2.2.2)
                          refine ⟨_, rfl, ?_⟩
                          have n0_ := Aside0.mk (Kd.R_below (by (with_reducible repeat (first | apply Kd.R_alloc | apply Kd.R_drewN | apply Kd.R_drew)); exact HO_8.out) hb)
                          have n1_ := Aside0.mk (Kd.R_below (by (with_reducible repeat (first | apply Kd.R_alloc | apply Kd.R_drewN | apply Kd.R_drew)); exact HO_140007.out) hb)
                          have n2_ := Aside0.mk (Kd.R_below (by (with_reducible repeat (first | apply Kd.R_alloc | apply Kd.R_drewN | apply Kd.R_drew)); exact HO_141007.out) hb)
                          have n3_ := Aside0.mk (Kd.R_below (by (with_reducible repeat (first | apply Kd.R_alloc | apply Kd.R_drewN | apply Kd.R_drew)); exact HL145_7.out) hb)
                          have n4_ := Aside0.mk (Kd.R_below (by (with_reducible repeat (first | apply Kd.R_alloc | apply Kd.R_drewN | apply Kd.R_drew)); exact HL146_7.out) hb)
                          have n5_ := Aside0.mk (Kd.R_below (by (with_reducible repeat (first | apply Kd.R_alloc | apply Kd.R_drewN | apply Kd.R_drew)); exact HL147_7.out) hb)
                          have n6_ := Aside0.mk (blk_below (g := gb139) (o := .cells #[.int .i64 t119, .int .i64 t120, .bool t121, .bool t122, .string t123, .string t124, .string t125, .slice (some ad145) t126.length co47] 27 (0, 0)) (by (with_reducible repeat (first | refine blk_drewN ?_ _ | refine blk_drew ?_ | refine blk_alloc ?_ _)); exact BK139.out) hb)
                          have n7_ := Aside0.mk (blk_below (g := gb140) (o := .cells #[.int .i64 t129, .int .i64 t130, .bool t131, .bool t132, .string t133, .string t134, .string t135, .slice Ao49 t136.length co49] 27 (0, 0)) (by (with_reducible repeat (first | refine blk_drewN ?_ _ | refine blk_drew ?_ | refine blk_alloc ?_ _)); exact BK140.out) hb)
                          have n8_ := Aside0.mk (Kd.C_below (by repeat (first | (with_reducible exact HR145_7.out) | (with_reducible refine Kd.C_alloc ?_ _) | (with_reducible refine Kd.C_drewN ?_ _) | (with_reducible refine Kd.C_drew ?_) | exact HR145_7.out)) hb)
                          have n9_ := Aside0.mk (Kd.C_below (by repeat (first | (with_reducible exact HR146_7.out) | (with_reducible refine Kd.C_alloc ?_ _) | (with_reducible refine Kd.C_drewN ?_ _) | (with_reducible refine Kd.C_drew ?_) | exact HR146_7.out)) hb)
                          have n10_ := Aside0.mk (Kd.C_below (by repeat (first | (with_reducible exact HR147_7.out) | (with_reducible refine Kd.C_alloc ?_ _) | (with_reducible refine Kd.C_drewN ?_ _) | (with_reducible refine Kd.C_drew ?_) | exact HR147_7.out)) hb)
                          have n11_ := Aside0.mk (below_step (by repeat (first | (with_reducible first | exact HB.out | apply below_alloc | apply pw_below_drewN | apply below_drew1 | refine below_set ?_ GE139.out | refine below_set ?_ GE140.out) | exact HB.out)) hb)
                          clear HO_8
                          clear HO_140007
                          clear HO_141007
                          clear HL145_7
                          clear HL146_7
                          clear HL147_7
                          clear BK139
                          clear BK140
                          clear HR145_7
                          clear HR146_7
                          clear HR147_7
                          clear HB
                          have HO_8 := n0_
                          have HO_140007 := n1_
                          have HO_141007 := n2_
                          have HL145_7 := n3_
                          have HL146_7 := n4_
                          have HL147_7 := n5_
                          have BK139 := n6_
                          have BK140 := n7_
                          have HR145_7 := n8_
                          have HR146_7 := n9_
                          have HR147_7 := n10_
                          have HB := n11_
                          clear n0_ n1_ n2_ n3_ n4_ n5_ n6_ n7_ n8_ n9_ n10_ n11_
                          (try clear hb)
                          (try clear hb2)
                          (try clear hk)
                          (try clear hi)
                          refine hK.out _ _ ⟨(blk_cell BK139.out 0).trans rfl, (blk_cell BK139.out 1).trans rfl, (blk_cell BK139.out 2).trans rfl, (blk_cell BK139.out 3).trans rfl, (blk_cell BK139.out 4).trans rfl, (blk_cell BK139.out 5).trans rfl, (blk_cell BK139.out 6).trans rfl, (blk_cell BK139.out 7).trans rfl, (blk_cell BK140.out 0).trans rfl, (blk_cell BK140.out 1).trans rfl, (blk_cell BK140.out 2).trans rfl, (blk_cell BK140.out 3).trans rfl, (blk_cell BK140.out 4).trans rfl, (blk_cell BK140.out 5).trans rfl, (blk_cell BK140.out 6).trans rfl, (blk_cell BK140.out 7).trans rfl, HS16_, HS17_, HS18_, HS19_, HS20_, HS21_, HS22_, HS23_, HS24_, HS25_, HS26_, HS27_, HS28_, HS29_, HS30_, HS31_, HS32_, HS33_, HS34_, HS35_, HS36_, HS37_, HS38_, HS39_⟩ (fun hHeld => ?_)
                          clear hK K
                          refine norm_ (a' := ?_) ?_ ?_
                          rotate_left
                          · show Act.put _ (some 134) _ = _
                            simp only [Act.put, List.setIfInBounds_toArray, List.set_cons_zero, List.set_cons_succ, i64_w, i32_w]
                            rfl
                          refine pure_ (i := 24) (N := some 135) (v := ?_) (a' := ?_) #[true, true, true, true, true, true, true, true, true, true, true, true, true, true, true, true, true, true, true, true, true, true, true, true, true, false] rfl rfl (any_of HT_.out (by kernel_rfl)) (fun _ _ _ h => h) (Or.inl ⟨by rfl, ?_⟩) ?_ ?_
                          rotate_left
                          · intro w'
                            go_simp
                            with_reducible rfl
                          rotate_left
                          · simp only [Act.put, List.setIfInBounds_toArray, List.set_cons_zero, List.set_cons_succ, i64_w, i32_w]
                            rfl
                          refine pure_ (i := 25) (N := some 4) (v := ?_) (a' := ?_) #[true, true, true, true, true, true, true, true, true, true, true, true, true, true, true, true, true, true, true, true, true, true, true, true, true, true] rfl rfl (any_of HT_.out (by kernel_rfl)) (fun _ _ _ h => h) (Or.inl ⟨by rfl, ?_⟩) ?_ ?_
                          rotate_left
                          · intro w'
                            go_simp
                            with_reducible rfl
                          rotate_left
                          · simp only [Act.put, List.setIfInBounds_toArray, List.set_cons_zero, List.set_cons_succ, i64_w, i32_w]
                            rfl
                          refine done_ (done_of HT_.out (by kernel_rfl)) ?_
                          try go_wp2
                          go_ret
                          exact ⟨by first | rfl | (simp [errW_none, errW_some] <;> rfl) | (simp only [← hji13]; first | rfl | (simp [errW_none, errW_some] <;> rfl)) | (simp [*, errW_none, errW_some] <;> rfl), by repeat (first | (with_reducible first | exact HB.out | apply below_alloc | apply pw_below_drewN | apply below_drew1 | refine below_set ?_ GE139.out | refine below_set ?_ GE140.out) | exact HB.out)⟩
                        · replace c66 := Bool.eq_false_iff.mpr c66
                          subst c66
                          have H1 : (some false) = some r := by rw [if_neg (show ¬ (false = true) by decide)] at H; exact H
                          clear H
                          have H := H1
                          clear H1
                          exact absurd (Option.some.inj H) (by rw [hr.out]; decide)
                      · rw [if_neg c63] at H
                        have c63b0 : ((((rd_T27 t126 0).f7).length : Int) == 1) = false := beq_eq_false_iff_ne.mpr c63
                        have c63b1 : ((((rd_T27 t126 0).f7).length : Int) != 1) = true := bne_iff_ne.mpr c63
                        exact absurd (Option.some.inj H) (by rw [hr.out]; decide)
end Go.Proofs.YtpimcdkhjingjaaGreatDoor.PLIt
