-- Written by wip/xprint.py, this session's own program over the kit's print.py. Lean checks it.
import Derived.Test.YtcmpmciadacapaaDoorPHeads0
namespace Go.Proofs.YtcmpmciadacapaaDoor.PHeads
open Go.RowKit Go.Proofs.YtcmpmciadacapaaDoorW.PrintWords Go.Proofs.YtcmpmciadacapaaDoorW.PrintLast Go.Proofs.YtcmpmciadacapaaDoorW.PrintMore Go.Proofs.YtcmpmciadacapaaDoor.X Go.Proofs.YtcmpmciadacapaaDoor.PLeaf
attribute [local go_sem] max2_int min2_int max_two min_two max_three min_three max_four min_four   -- for this text's walks alone
set_option linter.unusedVariables false
set_option linter.unusedSimpArgs false

/-! ### rubricatorref18_Heading: function 8 -/
mutual
def rubricatorref18_Heading.j0 : Nat → ByteArray → Int → Bool → Option (Int × ByteArray)
  | 0, _, _, _ => none
  | k + 1, x0, x4, x27 => if x27 = true then (some (0, (⟨#[]⟩ : ByteArray))) else (if 0 ≤ x4 then (if x4 ≤ (x0.size : Int) then ((rubricatorref18_Strip.f k (x0.extract (x4 : Int).toNat x0.size)).bind fun t103 => (rubricatorref18_Heading.l0 k x4 t103 (t103.size : Int))) else (none)) else (none))
def rubricatorref18_Heading.j2 : Nat → Int → ByteArray → Int → Option (Int × ByteArray)
  | 0, _, _, _ => none
  | k + 1, x4, x5, x6 => if x6 < (x5.size : Int) then (if x6 = 0 then (if 0 ≤ x6 then (if x6 ≤ (x5.size : Int) then ((rubricatorref18_Strip.f k (x5.extract 0 (x6 : Int).toNat)).bind fun t104 => (some (x4, t104))) else (none)) else (none)) else (if 0 ≤ (wrap64 (x6 - 1)) then (if (wrap64 (x6 - 1)) < (x5.size : Int) then ((rubricatorref18_blank.f (bt x5 (wrap64 (x6 - 1)))).bind fun t105 => (if t105 = true then (if 0 ≤ x6 then (if x6 ≤ (x5.size : Int) then ((rubricatorref18_Strip.f k (x5.extract 0 (x6 : Int).toNat)).bind fun t106 => (some (x4, t106))) else (none)) else (none)) else (some (x4, x5)))) else (none)) else (none))) else (some (x4, x5))
def rubricatorref18_Heading.l0 : Nat → Int → ByteArray → Int → Option (Int × ByteArray)
  | 0, _, _, _ => none
  | k + 1, x4, x5, x6 => if x6 > 0 then (if 0 ≤ (wrap64 (x6 - 1)) then (if (wrap64 (x6 - 1)) < (x5.size : Int) then (if (bt x5 (wrap64 (x6 - 1))) = 35 then (rubricatorref18_Heading.l0 k x4 x5 (wrap64 (x6 - 1))) else (rubricatorref18_Heading.j2 k x4 x5 x6)) else (none)) else (none)) else (rubricatorref18_Heading.j2 k x4 x5 x6)
end
def rubricatorref18_Heading.f (k : Nat) (a0 : ByteArray) : Option (Int × ByteArray) := (rubricatorref18_many.f k a0 35).bind fun t101 => (if t101 < 1 then (rubricatorref18_Heading.j0 k a0 t101 true) else (if t101 > 6 then (rubricatorref18_Heading.j0 k a0 t101 true) else (if (a0.size : Int) > t101 then (if 0 ≤ t101 then (if t101 < (a0.size : Int) then ((rubricatorref18_blank.f (bt a0 t101)).bind fun t102 => (rubricatorref18_Heading.j0 k a0 t101 (!t102))) else (none)) else (none)) else (rubricatorref18_Heading.j0 k a0 t101 false))))
theorem rubricatorref18_Heading.mono_l : ∀ k, (∀ y0 y1 y2, LeO (rubricatorref18_Heading.j0 k y0 y1 y2) (rubricatorref18_Heading.j0 (k + 1) y0 y1 y2)) ∧ (∀ y0 y1 y2, LeO (rubricatorref18_Heading.j2 k y0 y1 y2) (rubricatorref18_Heading.j2 (k + 1) y0 y1 y2)) ∧ (∀ y0 y1 y2, LeO (rubricatorref18_Heading.l0 k y0 y1 y2) (rubricatorref18_Heading.l0 (k + 1) y0 y1 y2))
  | 0 => ⟨fun _ _ _ r h => by simp [rubricatorref18_Heading.j0] at h, fun _ _ _ r h => by simp [rubricatorref18_Heading.j2] at h, fun _ _ _ r h => by simp [rubricatorref18_Heading.l0] at h⟩
  | k + 1 => by
    obtain ⟨ih0, ih1, ih2⟩ := rubricatorref18_Heading.mono_l k
    refine ⟨?_, ?_, ?_⟩
    · intro y0 y1 y2
      unfold rubricatorref18_Heading.j0
      repeat' first
      | (with_reducible exact ih0 _ _ _)
      | (with_reducible exact ih1 _ _ _)
      | (with_reducible exact ih2 _ _ _)
      | (with_reducible exact rubricatorref18_Strip.mono _ _)
      | (with_reducible exact rubricatorref18_many.mono _ _ _)
      | (with_reducible exact LeO.refl _)
      | (with_reducible exact LeO.none _)
      | (with_reducible refine LeO.ite ?_ ?_)
      | (with_reducible refine LeO.bind ?_ (fun _ => ?_))
      | exact ih0 _ _ _
      | exact ih1 _ _ _
      | exact ih2 _ _ _
      | exact rubricatorref18_Strip.mono _ _
      | exact rubricatorref18_many.mono _ _ _
      | exact LeO.none _
      | refine LeO.ite ?_ ?_
      | refine LeO.bind ?_ (fun _ => ?_)
    · intro y0 y1 y2
      unfold rubricatorref18_Heading.j2
      repeat' first
      | (with_reducible exact ih0 _ _ _)
      | (with_reducible exact ih1 _ _ _)
      | (with_reducible exact ih2 _ _ _)
      | (with_reducible exact rubricatorref18_Strip.mono _ _)
      | (with_reducible exact rubricatorref18_many.mono _ _ _)
      | (with_reducible exact LeO.refl _)
      | (with_reducible exact LeO.none _)
      | (with_reducible refine LeO.ite ?_ ?_)
      | (with_reducible refine LeO.bind ?_ (fun _ => ?_))
      | exact ih0 _ _ _
      | exact ih1 _ _ _
      | exact ih2 _ _ _
      | exact rubricatorref18_Strip.mono _ _
      | exact rubricatorref18_many.mono _ _ _
      | exact LeO.none _
      | refine LeO.ite ?_ ?_
      | refine LeO.bind ?_ (fun _ => ?_)
    · intro y0 y1 y2
      unfold rubricatorref18_Heading.l0
      repeat' first
      | (with_reducible exact ih0 _ _ _)
      | (with_reducible exact ih1 _ _ _)
      | (with_reducible exact ih2 _ _ _)
      | (with_reducible exact rubricatorref18_Strip.mono _ _)
      | (with_reducible exact rubricatorref18_many.mono _ _ _)
      | (with_reducible exact LeO.refl _)
      | (with_reducible exact LeO.none _)
      | (with_reducible refine LeO.ite ?_ ?_)
      | (with_reducible refine LeO.bind ?_ (fun _ => ?_))
      | exact ih0 _ _ _
      | exact ih1 _ _ _
      | exact ih2 _ _ _
      | exact rubricatorref18_Strip.mono _ _
      | exact rubricatorref18_many.mono _ _ _
      | exact LeO.none _
      | refine LeO.ite ?_ ?_
      | refine LeO.bind ?_ (fun _ => ?_)
theorem rubricatorref18_Heading.mono : ∀ a0 k, LeO (rubricatorref18_Heading.f k a0) (rubricatorref18_Heading.f (k + 1) a0) := by
  intro a0 k
  obtain ⟨ih0, ih1, ih2⟩ := rubricatorref18_Heading.mono_l k
  unfold rubricatorref18_Heading.f
  repeat' first
      | (with_reducible exact ih0 _ _ _)
      | (with_reducible exact ih1 _ _ _)
      | (with_reducible exact ih2 _ _ _)
      | (with_reducible exact rubricatorref18_Strip.mono _ _)
      | (with_reducible exact rubricatorref18_many.mono _ _ _)
      | (with_reducible exact LeO.refl _)
      | (with_reducible exact LeO.none _)
      | (with_reducible refine LeO.ite ?_ ?_)
      | (with_reducible refine LeO.bind ?_ (fun _ => ?_))
      | exact ih0 _ _ _
      | exact ih1 _ _ _
      | exact ih2 _ _ _
      | exact rubricatorref18_Strip.mono _ _
      | exact rubricatorref18_many.mono _ _ _
      | exact LeO.none _
      | refine LeO.ite ?_ ?_
      | refine LeO.bind ?_ (fun _ => ?_)
set_option maxHeartbeats 8000000 in
set_option maxRecDepth 100000 in
theorem rubricatorref18_Heading.calls (k : Nat) (a0 : ByteArray) (r1 : Int) (r2 : ByteArray) (w : World) (h : rubricatorref18_Heading.f k a0 = some (r1, r2)) :
    Calls Tryd.prog 8 #[.string a0] w fun e w' => e = .returned (.tuple #[.int .i64 r1, .string r2]) ∧ Drawn0 w w' := by
  have H : ((rubricatorref18_many.f k a0 35).bind fun t101 => (if t101 < 1 then (rubricatorref18_Heading.j0 k a0 t101 true) else (if t101 > 6 then (rubricatorref18_Heading.j0 k a0 t101 true) else (if (a0.size : Int) > t101 then (if 0 ≤ t101 then (if t101 < (a0.size : Int) then ((rubricatorref18_blank.f (bt a0 t101)).bind fun t102 => (rubricatorref18_Heading.j0 k a0 t101 (!t102))) else (none)) else (none)) else (rubricatorref18_Heading.j0 k a0 t101 false))))) = some (r1, r2) := h
  clear h
  replace H := Option.bind_eq_some_iff.mp H
  obtain ⟨t101, A20, H⟩ := H
  replace H : (if t101 < 1 then (rubricatorref18_Heading.j0 k a0 t101 true) else (if t101 > 6 then (rubricatorref18_Heading.j0 k a0 t101 true) else (if (a0.size : Int) > t101 then (if 0 ≤ t101 then (if t101 < (a0.size : Int) then ((rubricatorref18_blank.f (bt a0 t101)).bind fun t102 => (rubricatorref18_Heading.j0 k a0 t101 (!t102))) else (none)) else (none)) else (rubricatorref18_Heading.j0 k a0 t101 false)))) = some (r1, r2) := H
  have A2 := Aside0.mk A20
  clear A20
  have HC3 := Aside0.mk H
  clear H
  go_enter Tryd.func8, Tryd.ntmps8
  go_upto_region 2 with (first | ((with_reducible refine gate_callee (f := 21) rfl ?_); refine goesL_ (some 8) rfl rfl Tryd.func21 (by kernel_rfl) rfl #[.string a0, .int .u8 35] rfl (by (try simp only [List.map_toArray, List.map_cons, List.map_nil]); first | done | rfl | (simp only [List.length_drop, List.length_take]; rfl)) ?_; (with_reducible refine (rubricatorref18_many.calls k a0 35 t101 _ A2.out).mono ?_); rintro e w' ⟨rfl, ⟨nd, rfl⟩⟩; refine ⟨_, rfl, ?_⟩))
  (try simp only [Act.put, List.setIfInBounds_toArray, List.set_cons_zero, List.set_cons_succ])
  go_cut [27] (fun v27 wc => ∃ (kq : Nat) (x27_2 : Bool), v27 = .bool x27_2 ∧ Aside0 (rubricatorref18_Heading.j0 kq a0 t101 x27_2 = some (r1, r2)) ∧ Aside0 (kq ≤ k) ∧ Drawn0 w wc)
  case first =>
    have H := HC3.out
    clear HC3
    by_cases c4 : t101 < 1
    · rw [if_pos c4] at H
      have c4b0 : decide (t101 < 1) = true := decide_eq_true c4
      clear c4
      (first | rw [c4b0] | (simp only [i64_w, i32_w]; rw [c4b0]) | skip)
      have H' := Aside0.mk H
      clear H
      go_wp2
      go_meet
      case rel => exact ⟨_, (true), (by first | rfl | (simp; done) | (simp [*]; done)), H', ⟨by first | omega | exact Nat.le_refl _⟩, by repeat (first | exact Drawn0.refl _ | apply Drawn0.step)⟩
    · rw [if_neg c4] at H
      have c4b0 : decide (t101 < 1) = false := decide_eq_false c4
      clear c4
      (first | rw [c4b0] | (simp only [i64_w, i32_w]; rw [c4b0]) | skip)
      by_cases c5 : t101 > 6
      · rw [if_pos c5] at H
        have c5b0 : decide (6 < t101) = true := decide_eq_true c5
        clear c5
        have H' := Aside0.mk H
        clear H
        go_wp2
        go_meet
        case rel => exact ⟨_, (true), (by first | rfl | (simp; done) | (simp [*]; done)), H', ⟨by first | omega | exact Nat.le_refl _⟩, by repeat (first | exact Drawn0.refl _ | apply Drawn0.step)⟩
      · rw [if_neg c5] at H
        have c5b0 : decide (6 < t101) = false := decide_eq_false c5
        clear c5
        by_cases c6 : (a0.size : Int) > t101
        · rw [if_pos c6] at H
          have c6b0 : decide (t101 < (a0.size : Int)) = true := decide_eq_true c6
          clear c6
          by_cases c7 : 0 ≤ t101
          · rw [if_pos c7] at H
            have c7b0 : decide (0 ≤ t101) = true := decide_eq_true c7
            clear c7
            by_cases c8 : t101 < (a0.size : Int)
            · rw [if_pos c8] at H
              have c8b0 : decide (t101 < (a0.size : Int)) = true := decide_eq_true c8
              clear c8
              replace H := Option.bind_eq_some_iff.mp H
              obtain ⟨t102, A100, H⟩ := H
              replace H : (rubricatorref18_Heading.j0 k a0 t101 (!t102)) = some (r1, r2) := H
              have A10 := Aside0.mk A100
              clear A100
              have H' := Aside0.mk H
              clear H
              have p9 : 0 ≤ (t101 : Int) := of_decide_eq_true (by first | (with_reducible assumption) | assumption)
              have q9 : t101 < (a0.size : Int) := of_decide_eq_true (by first | (with_reducible assumption) | assumption)
              have hx9 := bt_at a0 t101
              replace p9 := eq_true p9
              replace q9 := eq_true q9
              go_wp2_with (first | (go_at_call 22; (with_reducible refine (rubricatorref18_blank.calls (bt a0 t101) t102 _ A10.out).mono ?_); rintro e w' ⟨rfl, ⟨nd, rfl⟩⟩))
              go_meet
              case rel => exact ⟨_, (!t102), (by first | rfl | (simp; done) | (simp [*]; done)), H', ⟨by first | omega | exact Nat.le_refl _⟩, by repeat (first | exact Drawn0.refl _ | apply Drawn0.step)⟩
            · rw [if_neg c8] at H
              exact absurd H (by simp)
          · rw [if_neg c7] at H
            exact absurd H (by simp)
        · rw [if_neg c6] at H
          have c6b0 : decide (t101 < (a0.size : Int)) = false := decide_eq_false c6
          clear c6
          have H' := Aside0.mk H
          clear H
          go_wp2
          go_meet
          case rel => exact ⟨_, (false), (by first | rfl | (simp; done) | (simp [*]; done)), H', ⟨by first | omega | exact Nat.le_refl _⟩, by repeat (first | exact Drawn0.refl _ | apply Drawn0.step)⟩
  case rest =>
    clear HC3
    try clear c2
    try clear p2
    try clear c4
    try clear c4b0
    try clear c5
    try clear c5b0
    try clear c6
    try clear c6b0
    try clear c7
    try clear c7b0
    try clear c8
    try clear c8b0
    try clear p9
    try clear q9
    try clear hx9
    try clear p9
    try clear q9
    obtain ⟨kq, x27_2, rfl, HA, HJ2, ⟨mc2, rfl⟩⟩ := hcut
    cases kq with
    | zero => exact absurd HA.out (by simp [rubricatorref18_Heading.j0])
    | succ kj2 =>
      have H := HA.out
      clear HA
      simp only [rubricatorref18_Heading.j0] at H
      by_cases c11 : x27_2 = true
      · subst c11
        have H1 : (some (0, (⟨#[]⟩ : ByteArray))) = some (r1, r2) := by rw [if_pos rfl] at H; exact H
        clear H
        have H := H1
        clear H1
        simp only [Option.some.injEq, Prod.mk.injEq] at H
        obtain ⟨rfl, rfl⟩ := H
        go_wp2
        go_ret2
        exact ⟨by first | rfl | (simp; done) | (simp [*]; done), by repeat (first | exact Drawn0.refl _ | apply Drawn0.step)⟩
      · replace c11 := Bool.eq_false_iff.mpr c11
        subst c11
        have H1 : (if 0 ≤ t101 then (if t101 ≤ (a0.size : Int) then ((rubricatorref18_Strip.f kj2 (a0.extract (t101 : Int).toNat a0.size)).bind fun t103 => (rubricatorref18_Heading.l0 kj2 t101 t103 (t103.size : Int))) else (none)) else (none)) = some (r1, r2) := by rw [if_neg (show ¬ (false = true) by decide)] at H; exact H
        clear H
        have H := H1
        clear H1
        by_cases c12 : 0 ≤ t101
        · rw [if_pos c12] at H
          have c12b0 := eq_true c12
          have c12b1 : decide (0 ≤ t101) = true := decide_eq_true c12
          clear c12
          by_cases c13 : t101 ≤ (a0.size : Int)
          · rw [if_pos c13] at H
            have c13b0 := eq_true c13
            have c13b1 : decide (t101 ≤ (a0.size : Int)) = true := decide_eq_true c13
            clear c13
            replace H := Option.bind_eq_some_iff.mp H
            obtain ⟨t103, A140, H⟩ := H
            replace H : (rubricatorref18_Heading.l0 kj2 t101 t103 (t103.size : Int)) = some (r1, r2) := H
            have A14 := Aside0.mk A140
            clear A140
            have HC15 := Aside0.mk H
            clear H
            go_upto_block 0 with (first | ((with_reducible refine gate_callee (f := 23) rfl ?_); refine goesL_ (some 31) rfl rfl Tryd.func23 (by kernel_rfl) rfl #[.string (a0.extract (t101 : Int).toNat a0.size)] rfl (by (try simp only [List.map_toArray, List.map_cons, List.map_nil]); first | done | rfl | (simp only [List.length_drop, List.length_take]; rfl)) ?_; (with_reducible refine (rubricatorref18_Strip.calls kj2 (a0.extract (t101 : Int).toNat a0.size) t103 _ A14.out).mono ?_); rintro e w' ⟨rfl, ⟨nd, rfl⟩⟩; refine ⟨_, rfl, ?_⟩))
            (try simp only [Act.put, List.setIfInBounds_toArray, List.set_cons_zero, List.set_cons_succ])
            go_cut [6] (fun v6 wc => ∃ (kq : Nat) (x6_14 : Int), v6 = .int .i64 x6_14 ∧ Aside0 (rubricatorref18_Heading.j2 kq t101 t103 x6_14 = some (r1, r2)) ∧ Aside0 (kq ≤ kj2) ∧ Drawn0 w wc)
            case first =>
              have H := HC15.out
              clear HC15
              have H' := Aside0.mk H
              clear H
              go_wp2
              go_loopg [6] kj2 (fun kq v6 w' => ∃ (x6_2 : Int), v6 = .int .i64 x6_2 ∧ Aside0 (rubricatorref18_Heading.l0 kq t101 t103 x6_2 = some (r1, r2)) ∧ Aside0 (kq ≤ kj2) ∧ Drawn0 w w')
              case atStart => exact ⟨((t103.size : Int)), (by first | rfl | (simp; done) | (simp [*]; done)), H', ⟨Nat.le_refl _⟩, by repeat (first | exact Drawn0.refl _ | apply Drawn0.step)⟩
              case round =>
                clear H'
                try clear c1
                try clear c2
                try clear p2
                try clear c4
                try clear c4b0
                try clear c5
                try clear c5b0
                try clear c6
                try clear c6b0
                try clear c7
                try clear c7b0
                try clear c8
                try clear c8b0
                try clear p9
                try clear q9
                try clear hx9
                try clear c11
                try clear c12
                try clear c12b0
                try clear c12b1
                try clear c13
                try clear c13b0
                try clear c13b1
                try clear p2
                try clear p9
                try clear q9
                obtain ⟨x6_2, rfl, HA, HK2, ⟨m2, rfl⟩⟩ := hrel
                cases gk with
                | zero => exact absurd HA.out (by simp [rubricatorref18_Heading.l0])
                | succ k2 =>
                  have H := HA.out
                  clear HA
                  simp only [rubricatorref18_Heading.l0] at H
                  by_cases c16 : x6_2 > 0
                  · rw [if_pos c16] at H
                    have c16b0 : decide (0 < x6_2) = true := decide_eq_true c16
                    clear c16
                    (first | rw [c16b0] | (simp only [i64_w, i32_w]; rw [c16b0]) | skip)
                    obtain ⟨ji17, hji17⟩ : ∃ j_ : Int, (wrap64 (x6_2 - 1)) = j_ := ⟨_, rfl⟩
                    replace H : (if 0 ≤ (ji17) then (if (ji17) < (t103.size : Int) then (if (bt t103 (ji17)) = 35 then (rubricatorref18_Heading.l0 k2 t101 t103 ji17) else (rubricatorref18_Heading.j2 k2 t101 t103 x6_2)) else (none)) else (none)) = some (r1, r2) := by first | (rw [hji17] at H; exact H) | (simp only [hji17] at H ⊢; exact H)
                    have hji17w : (IntKind.i64.wrap (x6_2 - 1)) = ji17 := (i64_w _).trans hji17
                    by_cases c18 : 0 ≤ (ji17)
                    · rw [if_pos c18] at H
                      have c18b0 : decide (0 ≤ (ji17)) = true := decide_eq_true c18
                      clear c18
                      by_cases c19 : (ji17) < (t103.size : Int)
                      · rw [if_pos c19] at H
                        have c19b0 : decide ((ji17) < (t103.size : Int)) = true := decide_eq_true c19
                        clear c19
                        by_cases c21 : (bt t103 (ji17)) = 35
                        · rw [if_pos c21] at H
                          have c21b0 : ((bt t103 (ji17)) == 35) = true := beq_iff_eq.mpr c21
                          have c21b1 : ((bt t103 (ji17)) != 35) = false := bne_eq_false_iff_eq.mpr c21
                          clear c21
                          have H' := Aside0.mk H
                          clear H
                          have p20 : 0 ≤ ((ji17) : Int) := of_decide_eq_true (by first | (with_reducible assumption) | assumption)
                          have q20 : (ji17) < (t103.size : Int) := of_decide_eq_true (by first | (with_reducible assumption) | assumption)
                          have hx20 := bt_at t103 (ji17)
                          replace p20 := eq_true p20
                          replace q20 := eq_true q20
                          go_wp2
                          go_roundg k2
                          case measure => have := HJ2.out; have := HK2.out; omega
                          case rel => exact ⟨(ji17), (by first | rfl | (simp; done) | (simp only [← hji17] <;> (first | rfl | simp)) | (simp [*]; done)), H', ⟨by have := HJ2.out; have := HK2.out; omega⟩, by repeat (first | exact Drawn0.refl _ | apply Drawn0.step)⟩
                        · rw [if_neg c21] at H
                          have c21b0 : ((bt t103 (ji17)) == 35) = false := beq_eq_false_iff_ne.mpr c21
                          have c21b1 : ((bt t103 (ji17)) != 35) = true := bne_iff_ne.mpr c21
                          have H' := Aside0.mk H
                          clear H
                          have p20 : 0 ≤ ((ji17) : Int) := of_decide_eq_true (by first | (with_reducible assumption) | assumption)
                          have q20 : (ji17) < (t103.size : Int) := of_decide_eq_true (by first | (with_reducible assumption) | assumption)
                          have hx20 := bt_at t103 (ji17)
                          replace p20 := eq_true p20
                          replace q20 := eq_true q20
                          go_wp2
                          go_meet
                          case rel => exact ⟨_, (x6_2), (by first | rfl | (simp; done) | (simp [*]; done)), H', ⟨by have := HJ2.out; have := HK2.out; first | omega | exact Nat.le_refl _⟩, by repeat (first | exact Drawn0.refl _ | apply Drawn0.step)⟩
                      · rw [if_neg c19] at H
                        exact absurd H (by simp)
                    · rw [if_neg c18] at H
                      exact absurd H (by simp)
                  · rw [if_neg c16] at H
                    have c16b0 : decide (0 < x6_2) = false := decide_eq_false c16
                    clear c16
                    (first | rw [c16b0] | (simp only [i64_w, i32_w]; rw [c16b0]) | skip)
                    have H' := Aside0.mk H
                    clear H
                    go_wp2
                    go_meet
                    case rel => exact ⟨_, (x6_2), (by first | rfl | (simp; done) | (simp [*]; done)), H', ⟨by have := HJ2.out; have := HK2.out; first | omega | exact Nat.le_refl _⟩, by repeat (first | exact Drawn0.refl _ | apply Drawn0.step)⟩
            case rest =>
              clear HC15
              try clear c1
              try clear c2
              try clear p2
              try clear q2
              try clear hx2
              try clear c4
              try clear c4b0
              try clear c5
              try clear c5b0
              try clear c6
              try clear c6b0
              try clear p6
              try clear c7
              try clear c7b0
              try clear c8
              try clear c8b0
              try clear p9
              try clear q9
              try clear hx9
              try clear c11
              try clear c12
              try clear c12b0
              try clear c12b1
              try clear c13
              try clear c13b0
              try clear c13b1
              try clear c16
              try clear c16b0
              try clear c18
              try clear c18b0
              try clear c19
              try clear c19b0
              try clear p20
              try clear q20
              try clear hx20
              try clear c21
              try clear c21b0
              try clear c21b1
              try clear p2
              try clear p20
              try clear p9
              try clear q20
              try clear q9
              obtain ⟨kq, x6_14, rfl, HA, HJ14, ⟨mc14, rfl⟩⟩ := hcut
              cases kq with
              | zero => exact absurd HA.out (by simp [rubricatorref18_Heading.j2])
              | succ kj14 =>
                have H := HA.out
                clear HA
                simp only [rubricatorref18_Heading.j2] at H
                by_cases c22 : x6_14 < (t103.size : Int)
                · rw [if_pos c22] at H
                  have c22b0 : decide (x6_14 < (t103.size : Int)) = true := decide_eq_true c22
                  clear c22
                  by_cases c23 : x6_14 = 0
                  · rw [if_pos c23] at H
                    have c23b0 : (x6_14 == 0) = true := beq_iff_eq.mpr c23
                    have c23b1 : (x6_14 != 0) = false := bne_eq_false_iff_eq.mpr c23
                    clear c23
                    by_cases c24 : 0 ≤ x6_14
                    · rw [if_pos c24] at H
                      have c24b0 := eq_true c24
                      have c24b1 : decide (0 ≤ x6_14) = true := decide_eq_true c24
                      clear c24
                      by_cases c25 : x6_14 ≤ (t103.size : Int)
                      · rw [if_pos c25] at H
                        have c25b0 := eq_true c25
                        have c25b1 : decide (x6_14 ≤ (t103.size : Int)) = true := decide_eq_true c25
                        clear c25
                        replace H := Option.bind_eq_some_iff.mp H
                        obtain ⟨t104, A260, H⟩ := H
                        replace H : (some (t101, t104)) = some (r1, r2) := H
                        have A26 := Aside0.mk A260
                        clear A260
                        simp only [Option.some.injEq, Prod.mk.injEq] at H
                        obtain ⟨rfl, rfl⟩ := H
                        go_wp2_with (first | ((with_reducible refine gate_callee (f := 23) rfl ?_); refine goesL_ (some 63) rfl rfl Tryd.func23 (by kernel_rfl) rfl #[.string (t103.extract 0 (x6_14 : Int).toNat)] rfl (by (try simp only [List.map_toArray, List.map_cons, List.map_nil]); first | done | rfl | (simp only [List.length_drop, List.length_take]; rfl)) ?_; (with_reducible refine (rubricatorref18_Strip.calls kj14 (t103.extract 0 (x6_14 : Int).toNat) t104 _ A26.out).mono ?_); rintro e w' ⟨rfl, ⟨nd, rfl⟩⟩; refine ⟨_, rfl, ?_⟩))
                        go_ret2
                        exact ⟨by first | rfl | (simp; done) | (simp [*]; done), by repeat (first | exact Drawn0.refl _ | apply Drawn0.step)⟩
                      · rw [if_neg c25] at H
                        exact absurd H (by simp)
                    · rw [if_neg c24] at H
                      exact absurd H (by simp)
                  · rw [if_neg c23] at H
                    have c23b0 : (x6_14 == 0) = false := beq_eq_false_iff_ne.mpr c23
                    have c23b1 : (x6_14 != 0) = true := bne_iff_ne.mpr c23
                    obtain ⟨ji27, hji27⟩ : ∃ j_ : Int, (wrap64 (x6_14 - 1)) = j_ := ⟨_, rfl⟩
                    replace H : (if 0 ≤ (ji27) then (if (ji27) < (t103.size : Int) then ((rubricatorref18_blank.f (bt t103 (ji27))).bind fun t105 => (if t105 = true then (if 0 ≤ x6_14 then (if x6_14 ≤ (t103.size : Int) then ((rubricatorref18_Strip.f kj14 (t103.extract 0 (x6_14 : Int).toNat)).bind fun t106 => (some (t101, t106))) else (none)) else (none)) else (some (t101, t103)))) else (none)) else (none)) = some (r1, r2) := by first | (rw [hji27] at H; exact H) | (simp only [hji27] at H ⊢; exact H)
                    have hji27w : (IntKind.i64.wrap (x6_14 - 1)) = ji27 := (i64_w _).trans hji27
                    by_cases c28 : 0 ≤ (ji27)
                    · rw [if_pos c28] at H
                      have c28b0 : decide (0 ≤ (ji27)) = true := decide_eq_true c28
                      clear c28
                      by_cases c29 : (ji27) < (t103.size : Int)
                      · rw [if_pos c29] at H
                        have c29b0 : decide ((ji27) < (t103.size : Int)) = true := decide_eq_true c29
                        clear c29
                        replace H := Option.bind_eq_some_iff.mp H
                        obtain ⟨t105, A310, H⟩ := H
                        replace H : (if t105 = true then (if 0 ≤ x6_14 then (if x6_14 ≤ (t103.size : Int) then ((rubricatorref18_Strip.f kj14 (t103.extract 0 (x6_14 : Int).toNat)).bind fun t106 => (some (t101, t106))) else (none)) else (none)) else (some (t101, t103))) = some (r1, r2) := H
                        have A31 := Aside0.mk A310
                        clear A310
                        by_cases c32 : t105 = true
                        · subst c32
                          have H1 : (if 0 ≤ x6_14 then (if x6_14 ≤ (t103.size : Int) then ((rubricatorref18_Strip.f kj14 (t103.extract 0 (x6_14 : Int).toNat)).bind fun t106 => (some (t101, t106))) else (none)) else (none)) = some (r1, r2) := by rw [if_pos rfl] at H; exact H
                          clear H
                          have H := H1
                          clear H1
                          by_cases c33 : 0 ≤ x6_14
                          · rw [if_pos c33] at H
                            have c33b0 := eq_true c33
                            have c33b1 : decide (0 ≤ x6_14) = true := decide_eq_true c33
                            clear c33
                            by_cases c34 : x6_14 ≤ (t103.size : Int)
                            · rw [if_pos c34] at H
                              have c34b0 := eq_true c34
                              have c34b1 : decide (x6_14 ≤ (t103.size : Int)) = true := decide_eq_true c34
                              clear c34
                              replace H := Option.bind_eq_some_iff.mp H
                              obtain ⟨t106, A350, H⟩ := H
                              replace H : (some (t101, t106)) = some (r1, r2) := H
                              have A35 := Aside0.mk A350
                              clear A350
                              simp only [Option.some.injEq, Prod.mk.injEq] at H
                              obtain ⟨rfl, rfl⟩ := H
                              have p30 : 0 ≤ ((ji27) : Int) := of_decide_eq_true (by first | (with_reducible assumption) | assumption)
                              have q30 : (ji27) < (t103.size : Int) := of_decide_eq_true (by first | (with_reducible assumption) | assumption)
                              have hx30 := bt_at t103 (ji27)
                              replace p30 := eq_true p30
                              replace q30 := eq_true q30
                              go_wp2_with (first | (go_at_call 22; (with_reducible refine (rubricatorref18_blank.calls (bt t103 (ji27)) true _ A31.out).mono ?_); rintro e w' ⟨rfl, ⟨nd, rfl⟩⟩) | ((with_reducible refine gate_callee (f := 23) rfl ?_); refine goesL_ (some 63) rfl rfl Tryd.func23 (by kernel_rfl) rfl #[.string (t103.extract 0 (x6_14 : Int).toNat)] rfl (by (try simp only [List.map_toArray, List.map_cons, List.map_nil]); first | done | rfl | (simp only [List.length_drop, List.length_take]; rfl)) ?_; (with_reducible refine (rubricatorref18_Strip.calls kj14 (t103.extract 0 (x6_14 : Int).toNat) t106 _ A35.out).mono ?_); rintro e w' ⟨rfl, ⟨nd, rfl⟩⟩; refine ⟨_, rfl, ?_⟩))
                              go_ret2
                              exact ⟨by first | rfl | (simp; done) | (simp only [← hji27] <;> (first | rfl | simp)) | (simp [*]; done), by repeat (first | exact Drawn0.refl _ | apply Drawn0.step)⟩
                            · rw [if_neg c34] at H
                              exact absurd H (by simp)
                          · rw [if_neg c33] at H
                            exact absurd H (by simp)
                        · replace c32 := Bool.eq_false_iff.mpr c32
                          subst c32
                          have H1 : (some (t101, t103)) = some (r1, r2) := by rw [if_neg (show ¬ (false = true) by decide)] at H; exact H
                          clear H
                          have H := H1
                          clear H1
                          simp only [Option.some.injEq, Prod.mk.injEq] at H
                          obtain ⟨rfl, rfl⟩ := H
                          have p30 : 0 ≤ ((ji27) : Int) := of_decide_eq_true (by first | (with_reducible assumption) | assumption)
                          have q30 : (ji27) < (t103.size : Int) := of_decide_eq_true (by first | (with_reducible assumption) | assumption)
                          have hx30 := bt_at t103 (ji27)
                          replace p30 := eq_true p30
                          replace q30 := eq_true q30
                          go_wp2_with (first | (go_at_call 22; (with_reducible refine (rubricatorref18_blank.calls (bt t103 (ji27)) false _ A31.out).mono ?_); rintro e w' ⟨rfl, ⟨nd, rfl⟩⟩))
                          go_ret2
                          exact ⟨by first | rfl | (simp; done) | (simp only [← hji27] <;> (first | rfl | simp)) | (simp [*]; done), by repeat (first | exact Drawn0.refl _ | apply Drawn0.step)⟩
                      · rw [if_neg c29] at H
                        exact absurd H (by simp)
                    · rw [if_neg c28] at H
                      exact absurd H (by simp)
                · rw [if_neg c22] at H
                  have c22b0 : decide (x6_14 < (t103.size : Int)) = false := decide_eq_false c22
                  clear c22
                  simp only [Option.some.injEq, Prod.mk.injEq] at H
                  obtain ⟨rfl, rfl⟩ := H
                  go_wp2
                  go_ret2
                  exact ⟨by first | rfl | (simp; done) | (simp [*]; done), by repeat (first | exact Drawn0.refl _ | apply Drawn0.step)⟩
          · rw [if_neg c13] at H
            exact absurd H (by simp)
        · rw [if_neg c12] at H
          exact absurd H (by simp)

end Go.Proofs.YtcmpmciadacapaaDoor.PHeads
