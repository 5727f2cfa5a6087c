/- A merged text (wip/mkclaim.py). -/
import Derived.Test.YtpimcdkhjingjaaGreatDoorRCJ
set_option linter.unusedVariables false
set_option linter.unusedSimpArgs false
set_option linter.unusedSectionVars false
namespace Go.Proofs.YtpimcdkhjingjaaGreatDoor.PBlk
open Go.RowKit Go.Proofs.YtpimcdkhjingjaaGreatDoorW.PrintWords Go.Proofs.YtpimcdkhjingjaaGreatDoorW.PrintLast Go.Proofs.YtpimcdkhjingjaaGreatDoorW.PrintMore Go.Proofs.YtpimcdkhjingjaaGreatDoor.X
attribute [local go_sem] max2_int min2_int max_two min_two max_three min_three max_four min_four
set_option linter.unusedVariables false
set_option linter.unusedSimpArgs false
mutual
def rubricatorlaw19_same.j0 : Nat → Bool → Int → Int → Bool → Bool → ByteArray → ByteArray → ByteArray → List (S27) → Int → Int → Bool → Bool → ByteArray → ByteArray → ByteArray → List (S27) → Option (Bool)
  | 0, _, _, _, _, _, _, _, _, _, _, _, _, _, _, _, _, _ => none
  | k + 1, x61, x122000, x122001, x122002, x122003, x122004, x122005, x122006, x122007, x123000, x123001, x123002, x123003, x123004, x123005, x123006, x123007 => if x61 = true then (some false) else (rubricatorlaw19_same.l0 k 0 x122000 x122001 x122002 x122003 x122004 x122005 x122006 x122007 x123000 x123001 x123002 x123003 x123004 x123005 x123006 x123007)
def rubricatorlaw19_same.l0 : Nat → Int → Int → Int → Bool → Bool → ByteArray → ByteArray → ByteArray → List (S27) → Int → Int → Bool → Bool → ByteArray → ByteArray → ByteArray → List (S27) → Option (Bool)
  | 0, _, _, _, _, _, _, _, _, _, _, _, _, _, _, _, _, _ => none
  | k + 1, x5, x122000, x122001, x122002, x122003, x122004, x122005, x122006, x122007, x123000, x123001, x123002, x123003, x123004, x123005, x123006, x123007 => if x5 < (x122007.length : Int) then (if 0 ≤ x5 then (if x5 < (x123007.length : Int) then ((rubricatorlaw19_same.f k ((rd_T27 x122007 x5).f0) ((rd_T27 x122007 x5).f1) ((rd_T27 x122007 x5).f2) ((rd_T27 x122007 x5).f3) ((rd_T27 x122007 x5).f4) ((rd_T27 x122007 x5).f5) ((rd_T27 x122007 x5).f6) ((rd_T27 x122007 x5).f7) ((rd_T27 x123007 x5).f0) ((rd_T27 x123007 x5).f1) ((rd_T27 x123007 x5).f2) ((rd_T27 x123007 x5).f3) ((rd_T27 x123007 x5).f4) ((rd_T27 x123007 x5).f5) ((rd_T27 x123007 x5).f6) ((rd_T27 x123007 x5).f7)).bind fun t125 => (if t125 = true then (rubricatorlaw19_same.l0 k (wrap64 (x5 + 1)) x122000 x122001 x122002 x122003 x122004 x122005 x122006 x122007 x123000 x123001 x123002 x123003 x123004 x123005 x123006 x123007) else (some false))) else (none)) else (none)) else (some true)
def rubricatorlaw19_same.f : Nat → Int → Int → Bool → Bool → ByteArray → ByteArray → ByteArray → List (S27) → Int → Int → Bool → Bool → ByteArray → ByteArray → ByteArray → List (S27) → Option (Bool)
  | 0, _, _, _, _, _, _, _, _, _, _, _, _, _, _, _, _ => none
  | k + 1, a0_0, a0_1, a0_2, a0_3, a0_4, a0_5, a0_6, l0_7, a1_0, a1_1, a1_2, a1_3, a1_4, a1_5, a1_6, l1_7 => if a0_0 = a1_0 then (if a0_1 = a1_1 then (if (a0_2 != a1_2) = true then (rubricatorlaw19_same.j0 k true a0_0 a0_1 a0_2 a0_3 a0_4 a0_5 a0_6 l0_7 a1_0 a1_1 a1_2 a1_3 a1_4 a1_5 a1_6 l1_7) else (if (a0_3 != a1_3) = true then (rubricatorlaw19_same.j0 k true a0_0 a0_1 a0_2 a0_3 a0_4 a0_5 a0_6 l0_7 a1_0 a1_1 a1_2 a1_3 a1_4 a1_5 a1_6 l1_7) else (if a0_4.toList = a1_4.toList then (if a0_5.toList = a1_5.toList then (if a0_6.toList = a1_6.toList then (rubricatorlaw19_same.j0 k ((l0_7.length : Int) != (l1_7.length : Int)) a0_0 a0_1 a0_2 a0_3 a0_4 a0_5 a0_6 l0_7 a1_0 a1_1 a1_2 a1_3 a1_4 a1_5 a1_6 l1_7) else (rubricatorlaw19_same.j0 k true a0_0 a0_1 a0_2 a0_3 a0_4 a0_5 a0_6 l0_7 a1_0 a1_1 a1_2 a1_3 a1_4 a1_5 a1_6 l1_7)) else (rubricatorlaw19_same.j0 k true a0_0 a0_1 a0_2 a0_3 a0_4 a0_5 a0_6 l0_7 a1_0 a1_1 a1_2 a1_3 a1_4 a1_5 a1_6 l1_7)) else (rubricatorlaw19_same.j0 k true a0_0 a0_1 a0_2 a0_3 a0_4 a0_5 a0_6 l0_7 a1_0 a1_1 a1_2 a1_3 a1_4 a1_5 a1_6 l1_7)))) else (rubricatorlaw19_same.j0 k true a0_0 a0_1 a0_2 a0_3 a0_4 a0_5 a0_6 l0_7 a1_0 a1_1 a1_2 a1_3 a1_4 a1_5 a1_6 l1_7)) else (rubricatorlaw19_same.j0 k true a0_0 a0_1 a0_2 a0_3 a0_4 a0_5 a0_6 l0_7 a1_0 a1_1 a1_2 a1_3 a1_4 a1_5 a1_6 l1_7)
end
theorem rubricatorlaw19_same.mono_l : ∀ k, (∀ y0 y1 y2 y3 y4 y5 y6 y7 y8 y9 y10 y11 y12 y13 y14 y15, LeO (rubricatorlaw19_same.f k y0 y1 y2 y3 y4 y5 y6 y7 y8 y9 y10 y11 y12 y13 y14 y15) (rubricatorlaw19_same.f (k + 1) y0 y1 y2 y3 y4 y5 y6 y7 y8 y9 y10 y11 y12 y13 y14 y15)) ∧ (∀ y0 y1 y2 y3 y4 y5 y6 y7 y8 y9 y10 y11 y12 y13 y14 y15 y16, LeO (rubricatorlaw19_same.j0 k y0 y1 y2 y3 y4 y5 y6 y7 y8 y9 y10 y11 y12 y13 y14 y15 y16) (rubricatorlaw19_same.j0 (k + 1) y0 y1 y2 y3 y4 y5 y6 y7 y8 y9 y10 y11 y12 y13 y14 y15 y16)) ∧ (∀ y0 y1 y2 y3 y4 y5 y6 y7 y8 y9 y10 y11 y12 y13 y14 y15 y16, LeO (rubricatorlaw19_same.l0 k y0 y1 y2 y3 y4 y5 y6 y7 y8 y9 y10 y11 y12 y13 y14 y15 y16) (rubricatorlaw19_same.l0 (k + 1) y0 y1 y2 y3 y4 y5 y6 y7 y8 y9 y10 y11 y12 y13 y14 y15 y16))
  | 0 => ⟨fun _ _ _ _ _ _ _ _ _ _ _ _ _ _ _ _ r h => by simp [rubricatorlaw19_same.f] at h, fun _ _ _ _ _ _ _ _ _ _ _ _ _ _ _ _ _ r h => by simp [rubricatorlaw19_same.j0] at h, fun _ _ _ _ _ _ _ _ _ _ _ _ _ _ _ _ _ r h => by simp [rubricatorlaw19_same.l0] at h⟩
  | k + 1 => by
    obtain ⟨ih0, ih1, ih2⟩ := rubricatorlaw19_same.mono_l k
    refine ⟨?_, ?_, ?_⟩
    · intro y0 y1 y2 y3 y4 y5 y6 y7 y8 y9 y10 y11 y12 y13 y14 y15
      unfold rubricatorlaw19_same.f
      repeat' first
      | (with_reducible exact ih0 _ _ _ _ _ _ _ _ _ _ _ _ _ _ _ _)
      | (with_reducible exact ih1 _ _ _ _ _ _ _ _ _ _ _ _ _ _ _ _ _)
      | (with_reducible exact ih2 _ _ _ _ _ _ _ _ _ _ _ _ _ _ _ _ _)
      | (with_reducible exact LeO.refl _)
      | (with_reducible exact LeO.none _)
      | (with_reducible refine LeO.ite ?_ ?_)
      | (with_reducible refine LeO.bind ?_ (fun _ => ?_))
      | exact ih0 _ _ _ _ _ _ _ _ _ _ _ _ _ _ _ _
      | exact ih1 _ _ _ _ _ _ _ _ _ _ _ _ _ _ _ _ _
      | exact ih2 _ _ _ _ _ _ _ _ _ _ _ _ _ _ _ _ _
      | exact LeO.none _
      | refine LeO.ite ?_ ?_
      | refine LeO.bind ?_ (fun _ => ?_)
    · intro y0 y1 y2 y3 y4 y5 y6 y7 y8 y9 y10 y11 y12 y13 y14 y15 y16
      unfold rubricatorlaw19_same.j0
      repeat' first
      | (with_reducible exact ih0 _ _ _ _ _ _ _ _ _ _ _ _ _ _ _ _)
      | (with_reducible exact ih1 _ _ _ _ _ _ _ _ _ _ _ _ _ _ _ _ _)
      | (with_reducible exact ih2 _ _ _ _ _ _ _ _ _ _ _ _ _ _ _ _ _)
      | (with_reducible exact LeO.refl _)
      | (with_reducible exact LeO.none _)
      | (with_reducible refine LeO.ite ?_ ?_)
      | (with_reducible refine LeO.bind ?_ (fun _ => ?_))
      | exact ih0 _ _ _ _ _ _ _ _ _ _ _ _ _ _ _ _
      | exact ih1 _ _ _ _ _ _ _ _ _ _ _ _ _ _ _ _ _
      | exact ih2 _ _ _ _ _ _ _ _ _ _ _ _ _ _ _ _ _
      | exact LeO.none _
      | refine LeO.ite ?_ ?_
      | refine LeO.bind ?_ (fun _ => ?_)
    · intro y0 y1 y2 y3 y4 y5 y6 y7 y8 y9 y10 y11 y12 y13 y14 y15 y16
      unfold rubricatorlaw19_same.l0
      repeat' first
      | (with_reducible exact ih0 _ _ _ _ _ _ _ _ _ _ _ _ _ _ _ _)
      | (with_reducible exact ih1 _ _ _ _ _ _ _ _ _ _ _ _ _ _ _ _ _)
      | (with_reducible exact ih2 _ _ _ _ _ _ _ _ _ _ _ _ _ _ _ _ _)
      | (with_reducible exact LeO.refl _)
      | (with_reducible exact LeO.none _)
      | (with_reducible refine LeO.ite ?_ ?_)
      | (with_reducible refine LeO.bind ?_ (fun _ => ?_))
      | exact ih0 _ _ _ _ _ _ _ _ _ _ _ _ _ _ _ _
      | exact ih1 _ _ _ _ _ _ _ _ _ _ _ _ _ _ _ _ _
      | exact ih2 _ _ _ _ _ _ _ _ _ _ _ _ _ _ _ _ _
      | exact LeO.none _
      | refine LeO.ite ?_ ?_
      | refine LeO.bind ?_ (fun _ => ?_)
theorem rubricatorlaw19_same.mono : ∀ a0 a1 a2 a3 a4 a5 a6 a7 a8 a9 a10 a11 a12 a13 a14 a15 k, LeO (rubricatorlaw19_same.f k a0 a1 a2 a3 a4 a5 a6 a7 a8 a9 a10 a11 a12 a13 a14 a15) (rubricatorlaw19_same.f (k + 1) a0 a1 a2 a3 a4 a5 a6 a7 a8 a9 a10 a11 a12 a13 a14 a15) := by
  intro a0 a1 a2 a3 a4 a5 a6 a7 a8 a9 a10 a11 a12 a13 a14 a15 k
  obtain ⟨ih0, ih1, ih2⟩ := rubricatorlaw19_same.mono_l k
  exact ih0 a0 a1 a2 a3 a4 a5 a6 a7 a8 a9 a10 a11 a12 a13 a14 a15
def rubricatorlaw19_same.T6 : Bool × List (List Nat × List Nat) := (true, [([], []), ([0], [0]), ([], []), ([1, 2], [1, 2]), ([3], [3]), ([], []), ([5], [5]), ([], []), ([6, 7], [6, 7]), ([8], [8]), ([4, 9], [4, 9]), ([10], [10])])
def rubricatorlaw19_same.B6 : List Nat := [0, 1, 0, 7, 15, 0, 32, 0, 224, 480, 1023, 2047]
theorem rubricatorlaw19_same.tab6 : rtab .any (opsOf Tryz.f15 6) = rubricatorlaw19_same.T6 := by kernel_rfl
theorem rubricatorlaw19_same.bits6 : waitsOk rubricatorlaw19_same.T6.2 rubricatorlaw19_same.B6 = true := by kernel_rfl
set_option maxHeartbeats 8000000 in
set_option maxRecDepth 100000 in
theorem rubricatorlaw19_same.calls (k : Nat) : ∀ (a0_0 : Int) (a0_1 : Int) (a0_2 : Bool) (a0_3 : Bool) (a0_4 : ByteArray) (a0_5 : ByteArray) (a0_6 : ByteArray) (A0_7 : Option Addr) (c0_7 : Nat) (l0_7 : List (S27)) (a1_0 : Int) (a1_1 : Int) (a1_2 : Bool) (a1_3 : Bool) (a1_4 : ByteArray) (a1_5 : ByteArray) (a1_6 : ByteArray) (A1_7 : Option Addr) (c1_7 : Nat) (l1_7 : List (S27)) (r : Bool) (w : World) (hr0_7 : Kd.C k27 w A0_7 l0_7.length l0_7) (hc0_7 : l0_7.length ≤ c0_7) (hr1_7 : Kd.C k27 w A1_7 l1_7.length l1_7) (hc1_7 : l1_7.length ≤ c1_7) (h : rubricatorlaw19_same.f k a0_0 a0_1 a0_2 a0_3 a0_4 a0_5 a0_6 l0_7 a1_0 a1_1 a1_2 a1_3 a1_4 a1_5 a1_6 l1_7 = some r),
    Calls Tryz.prog 15 #[.agg #[.int .i64 a0_0, .int .i64 a0_1, .bool a0_2, .bool a0_3, .string a0_4, .string a0_5, .string a0_6, .slice A0_7 l0_7.length c0_7], .agg #[.int .i64 a1_0, .int .i64 a1_1, .bool a1_2, .bool a1_3, .string a1_4, .string a1_5, .string a1_6, .slice A1_7 l1_7.length c1_7]] w fun e w' => e = .returned (.bool r) ∧ Below w.heap.size w w' := by
  induction k using Nat.strongRecOn with
  | _ k ih =>
  intro a0_0 a0_1 a0_2 a0_3 a0_4 a0_5 a0_6 A0_7 c0_7 l0_7 a1_0 a1_1 a1_2 a1_3 a1_4 a1_5 a1_6 A1_7 c1_7 l1_7 r w hr0_7 hc0_7 hr1_7 hc1_7 h
  cases k with
  | zero => exact absurd h (by simp [rubricatorlaw19_same.f])
  | succ k =>
  simp only [rubricatorlaw19_same.f] at h
  have hu27 := Tryz.underlying27
  have HR0_7 := Aside0.mk hr0_7
  have HC0_7 := Aside0.mk hc0_7
  clear hr0_7 hc0_7
  have HR1_7 := Aside0.mk hr1_7
  have HC1_7 := Aside0.mk hc1_7
  clear hr1_7 hc1_7
  have HB := Aside0.mk (Below.refl w.heap.size w)
  have H : (if a0_0 = a1_0 then (if a0_1 = a1_1 then (if (a0_2 != a1_2) = true then (rubricatorlaw19_same.j0 k true a0_0 a0_1 a0_2 a0_3 a0_4 a0_5 a0_6 l0_7 a1_0 a1_1 a1_2 a1_3 a1_4 a1_5 a1_6 l1_7) else (if (a0_3 != a1_3) = true then (rubricatorlaw19_same.j0 k true a0_0 a0_1 a0_2 a0_3 a0_4 a0_5 a0_6 l0_7 a1_0 a1_1 a1_2 a1_3 a1_4 a1_5 a1_6 l1_7) else (if a0_4.toList = a1_4.toList then (if a0_5.toList = a1_5.toList then (if a0_6.toList = a1_6.toList then (rubricatorlaw19_same.j0 k ((l0_7.length : Int) != (l1_7.length : Int)) a0_0 a0_1 a0_2 a0_3 a0_4 a0_5 a0_6 l0_7 a1_0 a1_1 a1_2 a1_3 a1_4 a1_5 a1_6 l1_7) else (rubricatorlaw19_same.j0 k true a0_0 a0_1 a0_2 a0_3 a0_4 a0_5 a0_6 l0_7 a1_0 a1_1 a1_2 a1_3 a1_4 a1_5 a1_6 l1_7)) else (rubricatorlaw19_same.j0 k true a0_0 a0_1 a0_2 a0_3 a0_4 a0_5 a0_6 l0_7 a1_0 a1_1 a1_2 a1_3 a1_4 a1_5 a1_6 l1_7)) else (rubricatorlaw19_same.j0 k true a0_0 a0_1 a0_2 a0_3 a0_4 a0_5 a0_6 l0_7 a1_0 a1_1 a1_2 a1_3 a1_4 a1_5 a1_6 l1_7)))) else (rubricatorlaw19_same.j0 k true a0_0 a0_1 a0_2 a0_3 a0_4 a0_5 a0_6 l0_7 a1_0 a1_1 a1_2 a1_3 a1_4 a1_5 a1_6 l1_7)) else (rubricatorlaw19_same.j0 k true a0_0 a0_1 a0_2 a0_3 a0_4 a0_5 a0_6 l0_7 a1_0 a1_1 a1_2 a1_3 a1_4 a1_5 a1_6 l1_7)) = some r := h
  clear h
  have HC3 := Aside0.mk H
  clear H
  go_enter Tryz.func15, Tryz.ntmps15
  go_upto_region 1 with (first | ((with_reducible refine gate_dst (N := 2) rfl ?_); (try (refine gate_guard (by rfl) ?_; dsimp only)); refine box_event ?hg (N := 2) ?hd (cs := #[.int .i64 a0_0, .int .i64 a0_1, .bool a0_2, .bool a0_3, .string a0_4, .string a0_5, .string a0_6, .slice A0_7 l0_7.length c0_7]) (t := 27) ?hr ?_; (case hd => rfl); (case hg => rfl); (case hr => first | (go_simp; done) | (go_simp; rfl)); intro gb121 hg w4 hbox hb; have n0_ := Aside0.mk (below_step (by repeat (first | (with_reducible first | exact HB.out | apply below_alloc | apply pw_below_drewN | apply below_drew1) | exact HB.out)) hb); have n1_ := Aside0.mk (hbox); have n2_ := Aside0.mk ((by rw [hg]; exact (below_size (by repeat (first | (with_reducible first | exact HB.out | apply below_alloc | apply pw_below_drewN | apply below_drew1) | exact HB.out))) : w.heap.size ≤ gb121)); have n3_ := Aside0.mk ((by rw [hg]; exact (below_size (by repeat (first | (with_reducible first | exact HB.out | apply below_alloc | apply pw_below_drewN | apply below_drew1) | exact HB.out))) : w.heap.size ≤ gb121)); clear HB; have HB := n0_; have BK121 := n1_; have GW121 := n2_; have GE121 := n3_; clear n0_ n1_ n2_ n3_; clear hb hbox hg) | ((with_reducible refine gate_dst (N := 3) rfl ?_); (try (refine gate_guard (by rfl) ?_; dsimp only)); refine box_event ?hg (N := 3) ?hd (cs := #[.int .i64 a1_0, .int .i64 a1_1, .bool a1_2, .bool a1_3, .string a1_4, .string a1_5, .string a1_6, .slice A1_7 l1_7.length c1_7]) (t := 27) ?hr ?_; (case hd => rfl); (case hg => rfl); (case hr => first | (go_simp; done) | (go_simp; rfl)); intro gb122 hg w5 hbox hb; have n0_ := Aside0.mk (blk_below (g := gb121) (o := .cells #[.int .i64 a0_0, .int .i64 a0_1, .bool a0_2, .bool a0_3, .string a0_4, .string a0_5, .string a0_6, .slice A0_7 l0_7.length c0_7] 27 (0, 0)) (by (with_reducible repeat (first | refine blk_drewN ?_ _ | refine blk_drew ?_ | refine blk_alloc ?_ _)); exact BK121.out) hb); have n1_ := Aside0.mk (below_step (by repeat (first | (with_reducible first | exact HB.out | apply below_alloc | apply pw_below_drewN | apply below_drew1 | refine below_set ?_ GE121.out) | exact HB.out)) hb); have n2_ := Aside0.mk (hbox); have n3_ := Aside0.mk ((by rw [hg]; exact (below_size (by repeat (first | (with_reducible first | exact HB.out | apply below_alloc | apply pw_below_drewN | apply below_drew1 | refine below_set ?_ GE121.out) | exact HB.out))) : w.heap.size ≤ gb122)); have n4_ := Aside0.mk ((by rw [hg]; exact (below_size (by repeat (first | (with_reducible first | exact HB.out | apply below_alloc | apply pw_below_drewN | apply below_drew1 | refine below_set ?_ GE121.out) | exact HB.out))) : w.heap.size ≤ gb122)); have n5_ := Aside0.mk ((by rw [hg]; exact Nat.ne_of_lt (blk_lt (g := gb121) (o := .cells #[.int .i64 a0_0, .int .i64 a0_1, .bool a0_2, .bool a0_3, .string a0_4, .string a0_5, .string a0_6, .slice A0_7 l0_7.length c0_7] 27 (0, 0)) (by (with_reducible repeat (first | refine blk_drewN ?_ _ | refine blk_drew ?_ | refine blk_alloc ?_ _)); exact BK121.out)) : gb121 ≠ gb122)); have n6_ := Aside0.mk ((by rw [hg]; exact Nat.ne_of_gt (blk_lt (g := gb121) (o := .cells #[.int .i64 a0_0, .int .i64 a0_1, .bool a0_2, .bool a0_3, .string a0_4, .string a0_5, .string a0_6, .slice A0_7 l0_7.length c0_7] 27 (0, 0)) (by (with_reducible repeat (first | refine blk_drewN ?_ _ | refine blk_drew ?_ | refine blk_alloc ?_ _)); exact BK121.out)) : gb122 ≠ gb121)); clear BK121; clear HB; have BK121 := n0_; have HB := n1_; have BK122 := n2_; have GW122 := n3_; have GE122 := n4_; have NB121_122 := n5_; have NB122_121 := n6_; clear n0_ n1_ n2_ n3_ n4_ n5_ n6_; clear hb hbox hg))
  (try simp only [Act.put, List.setIfInBounds_toArray, List.set_cons_zero, List.set_cons_succ])
  go_cut [61] (fun v61 wc => ∃ (kq : Nat) (x61_2 : Bool), v61 = .bool x61_2 ∧ Aside0 (rubricatorlaw19_same.j0 kq x61_2 a0_0 a0_1 a0_2 a0_3 a0_4 a0_5 a0_6 l0_7 a1_0 a1_1 a1_2 a1_3 a1_4 a1_5 a1_6 l1_7 = some r) ∧ Aside0 (kq ≤ k) ∧ Aside0 (wc.heap[gb121]? = some (.cells #[.int .i64 a0_0, .int .i64 a0_1, .bool a0_2, .bool a0_3, .string a0_4, .string a0_5, .string a0_6, (.slice A0_7 l0_7.length c0_7)] 27 (0, 0))) ∧ Aside0 (wc.heap[gb122]? = some (.cells #[.int .i64 a1_0, .int .i64 a1_1, .bool a1_2, .bool a1_3, .string a1_4, .string a1_5, .string a1_6, (.slice A1_7 l1_7.length c1_7)] 27 (0, 0))) ∧ Aside0 (Below w.heap.size w wc))
  case first =>
    have H := HC3.out
    clear HC3
    by_cases c6 : a0_0 = a1_0
    · rw [if_pos c6] at H
      have c6b0 : (a0_0 == a1_0) = true := beq_iff_eq.mpr c6
      have c6b1 : (a0_0 != a1_0) = false := bne_eq_false_iff_eq.mpr c6
      clear c6
      (first | rw [c6b0] | (simp only [i64_w, i32_w]; rw [c6b0]) | skip)
      by_cases c7 : a0_1 = a1_1
      · rw [if_pos c7] at H
        have c7b0 : (a0_1 == a1_1) = true := beq_iff_eq.mpr c7
        have c7b1 : (a0_1 != a1_1) = false := bne_eq_false_iff_eq.mpr c7
        clear c7
        by_cases c8 : (a0_2 != a1_2) = true
        · rw [if_pos c8] at H
          have c8b0 : (a0_2 != a1_2) = true := c8
          (try (have c8b1 : decide (a0_2 = a1_2) = false := by simpa using c8))
          (try (have c8b2 : (a0_2 == a1_2) = false := by simpa using c8))
          (try (have c8b3 : ¬ (a0_2 = a1_2) := by simpa using c8))
          clear c8
          have H' := Aside0.mk H
          clear H
          have hnb9 := NB121_122.out
          have hnc9 := NB122_121.out
          have hcz10_0 : w5.cell? ⟨gb121, 0, none⟩ = some (.int .i64 a0_0) := (blk_cell BK121.out 0).trans rfl
          have hcz10_1 : w5.cell? ⟨gb121, 1, none⟩ = some (.int .i64 a0_1) := (blk_cell BK121.out 1).trans rfl
          have hcz10_2 : w5.cell? ⟨gb121, 2, none⟩ = some (.bool a0_2) := (blk_cell BK121.out 2).trans rfl
          have hcz10_3 : w5.cell? ⟨gb121, 3, none⟩ = some (.bool a0_3) := (blk_cell BK121.out 3).trans rfl
          have hcz10_4 : w5.cell? ⟨gb121, 4, none⟩ = some (.string a0_4) := (blk_cell BK121.out 4).trans rfl
          have hcz10_5 : w5.cell? ⟨gb121, 5, none⟩ = some (.string a0_5) := (blk_cell BK121.out 5).trans rfl
          have hcz10_6 : w5.cell? ⟨gb121, 6, none⟩ = some (.string a0_6) := (blk_cell BK121.out 6).trans rfl
          have hcz10_7 : w5.cell? ⟨gb121, 7, none⟩ = some (.slice A0_7 l0_7.length c0_7) := (blk_cell BK121.out 7).trans rfl
          have hfz10_0 := blk_frozen BK121.out 0
          have hfz10_1 := blk_frozen BK121.out 1
          have hfz10_2 := blk_frozen BK121.out 2
          have hfz10_3 := blk_frozen BK121.out 3
          have hfz10_4 := blk_frozen BK121.out 4
          have hfz10_5 := blk_frozen BK121.out 5
          have hfz10_6 := blk_frozen BK121.out 6
          have hfz10_7 := blk_frozen BK121.out 7
          have hcz11_0 : w5.cell? ⟨gb122, 0, none⟩ = some (.int .i64 a1_0) := (blk_cell BK122.out 0).trans rfl
          have hcz11_1 : w5.cell? ⟨gb122, 1, none⟩ = some (.int .i64 a1_1) := (blk_cell BK122.out 1).trans rfl
          have hcz11_2 : w5.cell? ⟨gb122, 2, none⟩ = some (.bool a1_2) := (blk_cell BK122.out 2).trans rfl
          have hcz11_3 : w5.cell? ⟨gb122, 3, none⟩ = some (.bool a1_3) := (blk_cell BK122.out 3).trans rfl
          have hcz11_4 : w5.cell? ⟨gb122, 4, none⟩ = some (.string a1_4) := (blk_cell BK122.out 4).trans rfl
          have hcz11_5 : w5.cell? ⟨gb122, 5, none⟩ = some (.string a1_5) := (blk_cell BK122.out 5).trans rfl
          have hcz11_6 : w5.cell? ⟨gb122, 6, none⟩ = some (.string a1_6) := (blk_cell BK122.out 6).trans rfl
          have hcz11_7 : w5.cell? ⟨gb122, 7, none⟩ = some (.slice A1_7 l1_7.length c1_7) := (blk_cell BK122.out 7).trans rfl
          have hfz11_0 := blk_frozen BK122.out 0
          have hfz11_1 := blk_frozen BK122.out 1
          have hfz11_2 := blk_frozen BK122.out 2
          have hfz11_3 := blk_frozen BK122.out 3
          have hfz11_4 := blk_frozen BK122.out 4
          have hfz11_5 := blk_frozen BK122.out 5
          have hfz11_6 := blk_frozen BK122.out 6
          have hfz11_7 := blk_frozen BK122.out 7
          go_wp2
          go_meet
          case rel => exact ⟨_, (true), (by first | rfl | (simp; done) | (simp [*]; done)), H', ⟨by first | omega | exact Nat.le_refl _⟩, ⟨by (with_reducible repeat (first | refine blk_drewN ?_ _ | refine blk_drew ?_ | refine blk_alloc ?_ _)); exact BK121.out⟩, ⟨by (with_reducible repeat (first | refine blk_drewN ?_ _ | refine blk_drew ?_ | refine blk_alloc ?_ _)); exact BK122.out⟩, ⟨by repeat (first | (with_reducible first | exact HB.out | apply below_alloc | apply pw_below_drewN | apply below_drew1 | refine below_set ?_ GE121.out | refine below_set ?_ GE122.out) | exact HB.out)⟩⟩
        · rw [if_neg c8] at H
          have c8b0 : (a0_2 != a1_2) = false := by simpa using c8
          (try (have c8b1 : decide (a0_2 = a1_2) = true := by simpa using c8))
          (try (have c8b2 : (a0_2 == a1_2) = true := by simpa using c8))
          clear c8
          by_cases c12 : (a0_3 != a1_3) = true
          · rw [if_pos c12] at H
            have c12b0 : (a0_3 != a1_3) = true := c12
            (try (have c12b1 : decide (a0_3 = a1_3) = false := by simpa using c12))
            (try (have c12b2 : (a0_3 == a1_3) = false := by simpa using c12))
            (try (have c12b3 : ¬ (a0_3 = a1_3) := by simpa using c12))
            clear c12
            have H' := Aside0.mk H
            clear H
            have hnb13 := NB121_122.out
            have hnc13 := NB122_121.out
            have hcz14_0 : w5.cell? ⟨gb121, 0, none⟩ = some (.int .i64 a0_0) := (blk_cell BK121.out 0).trans rfl
            have hcz14_1 : w5.cell? ⟨gb121, 1, none⟩ = some (.int .i64 a0_1) := (blk_cell BK121.out 1).trans rfl
            have hcz14_2 : w5.cell? ⟨gb121, 2, none⟩ = some (.bool a0_2) := (blk_cell BK121.out 2).trans rfl
            have hcz14_3 : w5.cell? ⟨gb121, 3, none⟩ = some (.bool a0_3) := (blk_cell BK121.out 3).trans rfl
            have hcz14_4 : w5.cell? ⟨gb121, 4, none⟩ = some (.string a0_4) := (blk_cell BK121.out 4).trans rfl
            have hcz14_5 : w5.cell? ⟨gb121, 5, none⟩ = some (.string a0_5) := (blk_cell BK121.out 5).trans rfl
            have hcz14_6 : w5.cell? ⟨gb121, 6, none⟩ = some (.string a0_6) := (blk_cell BK121.out 6).trans rfl
            have hcz14_7 : w5.cell? ⟨gb121, 7, none⟩ = some (.slice A0_7 l0_7.length c0_7) := (blk_cell BK121.out 7).trans rfl
            have hfz14_0 := blk_frozen BK121.out 0
            have hfz14_1 := blk_frozen BK121.out 1
            have hfz14_2 := blk_frozen BK121.out 2
            have hfz14_3 := blk_frozen BK121.out 3
            have hfz14_4 := blk_frozen BK121.out 4
            have hfz14_5 := blk_frozen BK121.out 5
            have hfz14_6 := blk_frozen BK121.out 6
            have hfz14_7 := blk_frozen BK121.out 7
            have hcz15_0 : w5.cell? ⟨gb122, 0, none⟩ = some (.int .i64 a1_0) := (blk_cell BK122.out 0).trans rfl
            have hcz15_1 : w5.cell? ⟨gb122, 1, none⟩ = some (.int .i64 a1_1) := (blk_cell BK122.out 1).trans rfl
            have hcz15_2 : w5.cell? ⟨gb122, 2, none⟩ = some (.bool a1_2) := (blk_cell BK122.out 2).trans rfl
            have hcz15_3 : w5.cell? ⟨gb122, 3, none⟩ = some (.bool a1_3) := (blk_cell BK122.out 3).trans rfl
            have hcz15_4 : w5.cell? ⟨gb122, 4, none⟩ = some (.string a1_4) := (blk_cell BK122.out 4).trans rfl
            have hcz15_5 : w5.cell? ⟨gb122, 5, none⟩ = some (.string a1_5) := (blk_cell BK122.out 5).trans rfl
            have hcz15_6 : w5.cell? ⟨gb122, 6, none⟩ = some (.string a1_6) := (blk_cell BK122.out 6).trans rfl
            have hcz15_7 : w5.cell? ⟨gb122, 7, none⟩ = some (.slice A1_7 l1_7.length c1_7) := (blk_cell BK122.out 7).trans rfl
            have hfz15_0 := blk_frozen BK122.out 0
            have hfz15_1 := blk_frozen BK122.out 1
            have hfz15_2 := blk_frozen BK122.out 2
            have hfz15_3 := blk_frozen BK122.out 3
            have hfz15_4 := blk_frozen BK122.out 4
            have hfz15_5 := blk_frozen BK122.out 5
            have hfz15_6 := blk_frozen BK122.out 6
            have hfz15_7 := blk_frozen BK122.out 7
            go_wp2
            go_meet
            case rel => exact ⟨_, (true), (by first | rfl | (simp; done) | (simp [*]; done)), H', ⟨by first | omega | exact Nat.le_refl _⟩, ⟨by (with_reducible repeat (first | refine blk_drewN ?_ _ | refine blk_drew ?_ | refine blk_alloc ?_ _)); exact BK121.out⟩, ⟨by (with_reducible repeat (first | refine blk_drewN ?_ _ | refine blk_drew ?_ | refine blk_alloc ?_ _)); exact BK122.out⟩, ⟨by repeat (first | (with_reducible first | exact HB.out | apply below_alloc | apply pw_below_drewN | apply below_drew1 | refine below_set ?_ GE121.out | refine below_set ?_ GE122.out) | exact HB.out)⟩⟩
          · rw [if_neg c12] at H
            have c12b0 : (a0_3 != a1_3) = false := by simpa using c12
            (try (have c12b1 : decide (a0_3 = a1_3) = true := by simpa using c12))
            (try (have c12b2 : (a0_3 == a1_3) = true := by simpa using c12))
            clear c12
            by_cases c16 : a0_4.toList = a1_4.toList
            · rw [if_pos c16] at H
              have c16b0 : (a0_4.toList == a1_4.toList) = true := beq_iff_eq.mpr c16
              have c16b1 : (a0_4.toList != a1_4.toList) = false := bne_eq_false_iff_eq.mpr c16
              clear c16
              by_cases c17 : a0_5.toList = a1_5.toList
              · rw [if_pos c17] at H
                have c17b0 : (a0_5.toList == a1_5.toList) = true := beq_iff_eq.mpr c17
                have c17b1 : (a0_5.toList != a1_5.toList) = false := bne_eq_false_iff_eq.mpr c17
                clear c17
                by_cases c18 : a0_6.toList = a1_6.toList
                · rw [if_pos c18] at H
                  have c18b0 : (a0_6.toList == a1_6.toList) = true := beq_iff_eq.mpr c18
                  have c18b1 : (a0_6.toList != a1_6.toList) = false := bne_eq_false_iff_eq.mpr c18
                  clear c18
                  have H' := Aside0.mk H
                  clear H
                  have hnb19 := NB121_122.out
                  have hnc19 := NB122_121.out
                  have hcz20_0 : w5.cell? ⟨gb121, 0, none⟩ = some (.int .i64 a0_0) := (blk_cell BK121.out 0).trans rfl
                  have hcz20_1 : w5.cell? ⟨gb121, 1, none⟩ = some (.int .i64 a0_1) := (blk_cell BK121.out 1).trans rfl
                  have hcz20_2 : w5.cell? ⟨gb121, 2, none⟩ = some (.bool a0_2) := (blk_cell BK121.out 2).trans rfl
                  have hcz20_3 : w5.cell? ⟨gb121, 3, none⟩ = some (.bool a0_3) := (blk_cell BK121.out 3).trans rfl
                  have hcz20_4 : w5.cell? ⟨gb121, 4, none⟩ = some (.string a0_4) := (blk_cell BK121.out 4).trans rfl
                  have hcz20_5 : w5.cell? ⟨gb121, 5, none⟩ = some (.string a0_5) := (blk_cell BK121.out 5).trans rfl
                  have hcz20_6 : w5.cell? ⟨gb121, 6, none⟩ = some (.string a0_6) := (blk_cell BK121.out 6).trans rfl
                  have hcz20_7 : w5.cell? ⟨gb121, 7, none⟩ = some (.slice A0_7 l0_7.length c0_7) := (blk_cell BK121.out 7).trans rfl
                  have hfz20_0 := blk_frozen BK121.out 0
                  have hfz20_1 := blk_frozen BK121.out 1
                  have hfz20_2 := blk_frozen BK121.out 2
                  have hfz20_3 := blk_frozen BK121.out 3
                  have hfz20_4 := blk_frozen BK121.out 4
                  have hfz20_5 := blk_frozen BK121.out 5
                  have hfz20_6 := blk_frozen BK121.out 6
                  have hfz20_7 := blk_frozen BK121.out 7
                  have hcz21_0 : w5.cell? ⟨gb122, 0, none⟩ = some (.int .i64 a1_0) := (blk_cell BK122.out 0).trans rfl
                  have hcz21_1 : w5.cell? ⟨gb122, 1, none⟩ = some (.int .i64 a1_1) := (blk_cell BK122.out 1).trans rfl
                  have hcz21_2 : w5.cell? ⟨gb122, 2, none⟩ = some (.bool a1_2) := (blk_cell BK122.out 2).trans rfl
                  have hcz21_3 : w5.cell? ⟨gb122, 3, none⟩ = some (.bool a1_3) := (blk_cell BK122.out 3).trans rfl
                  have hcz21_4 : w5.cell? ⟨gb122, 4, none⟩ = some (.string a1_4) := (blk_cell BK122.out 4).trans rfl
                  have hcz21_5 : w5.cell? ⟨gb122, 5, none⟩ = some (.string a1_5) := (blk_cell BK122.out 5).trans rfl
                  have hcz21_6 : w5.cell? ⟨gb122, 6, none⟩ = some (.string a1_6) := (blk_cell BK122.out 6).trans rfl
                  have hcz21_7 : w5.cell? ⟨gb122, 7, none⟩ = some (.slice A1_7 l1_7.length c1_7) := (blk_cell BK122.out 7).trans rfl
                  have hfz21_0 := blk_frozen BK122.out 0
                  have hfz21_1 := blk_frozen BK122.out 1
                  have hfz21_2 := blk_frozen BK122.out 2
                  have hfz21_3 := blk_frozen BK122.out 3
                  have hfz21_4 := blk_frozen BK122.out 4
                  have hfz21_5 := blk_frozen BK122.out 5
                  have hfz21_6 := blk_frozen BK122.out 6
                  have hfz21_7 := blk_frozen BK122.out 7
                  go_wp2
                  go_meet
                  case rel => exact ⟨_, (((l0_7.length : Int) != (l1_7.length : Int))), (by first | rfl | (simp; done) | (simp [*]; done)), H', ⟨by first | omega | exact Nat.le_refl _⟩, ⟨by (with_reducible repeat (first | refine blk_drewN ?_ _ | refine blk_drew ?_ | refine blk_alloc ?_ _)); exact BK121.out⟩, ⟨by (with_reducible repeat (first | refine blk_drewN ?_ _ | refine blk_drew ?_ | refine blk_alloc ?_ _)); exact BK122.out⟩, ⟨by repeat (first | (with_reducible first | exact HB.out | apply below_alloc | apply pw_below_drewN | apply below_drew1 | refine below_set ?_ GE121.out | refine below_set ?_ GE122.out) | exact HB.out)⟩⟩
                · rw [if_neg c18] at H
                  have c18b0 : (a0_6.toList == a1_6.toList) = false := beq_eq_false_iff_ne.mpr c18
                  have c18b1 : (a0_6.toList != a1_6.toList) = true := bne_iff_ne.mpr c18
                  have H' := Aside0.mk H
                  clear H
                  have hnb22 := NB121_122.out
                  have hnc22 := NB122_121.out
                  have hcz23_0 : w5.cell? ⟨gb121, 0, none⟩ = some (.int .i64 a0_0) := (blk_cell BK121.out 0).trans rfl
                  have hcz23_1 : w5.cell? ⟨gb121, 1, none⟩ = some (.int .i64 a0_1) := (blk_cell BK121.out 1).trans rfl
                  have hcz23_2 : w5.cell? ⟨gb121, 2, none⟩ = some (.bool a0_2) := (blk_cell BK121.out 2).trans rfl
                  have hcz23_3 : w5.cell? ⟨gb121, 3, none⟩ = some (.bool a0_3) := (blk_cell BK121.out 3).trans rfl
                  have hcz23_4 : w5.cell? ⟨gb121, 4, none⟩ = some (.string a0_4) := (blk_cell BK121.out 4).trans rfl
                  have hcz23_5 : w5.cell? ⟨gb121, 5, none⟩ = some (.string a0_5) := (blk_cell BK121.out 5).trans rfl
                  have hcz23_6 : w5.cell? ⟨gb121, 6, none⟩ = some (.string a0_6) := (blk_cell BK121.out 6).trans rfl
                  have hcz23_7 : w5.cell? ⟨gb121, 7, none⟩ = some (.slice A0_7 l0_7.length c0_7) := (blk_cell BK121.out 7).trans rfl
                  have hfz23_0 := blk_frozen BK121.out 0
                  have hfz23_1 := blk_frozen BK121.out 1
                  have hfz23_2 := blk_frozen BK121.out 2
                  have hfz23_3 := blk_frozen BK121.out 3
                  have hfz23_4 := blk_frozen BK121.out 4
                  have hfz23_5 := blk_frozen BK121.out 5
                  have hfz23_6 := blk_frozen BK121.out 6
                  have hfz23_7 := blk_frozen BK121.out 7
                  have hcz24_0 : w5.cell? ⟨gb122, 0, none⟩ = some (.int .i64 a1_0) := (blk_cell BK122.out 0).trans rfl
                  have hcz24_1 : w5.cell? ⟨gb122, 1, none⟩ = some (.int .i64 a1_1) := (blk_cell BK122.out 1).trans rfl
                  have hcz24_2 : w5.cell? ⟨gb122, 2, none⟩ = some (.bool a1_2) := (blk_cell BK122.out 2).trans rfl
                  have hcz24_3 : w5.cell? ⟨gb122, 3, none⟩ = some (.bool a1_3) := (blk_cell BK122.out 3).trans rfl
                  have hcz24_4 : w5.cell? ⟨gb122, 4, none⟩ = some (.string a1_4) := (blk_cell BK122.out 4).trans rfl
                  have hcz24_5 : w5.cell? ⟨gb122, 5, none⟩ = some (.string a1_5) := (blk_cell BK122.out 5).trans rfl
                  have hcz24_6 : w5.cell? ⟨gb122, 6, none⟩ = some (.string a1_6) := (blk_cell BK122.out 6).trans rfl
                  have hcz24_7 : w5.cell? ⟨gb122, 7, none⟩ = some (.slice A1_7 l1_7.length c1_7) := (blk_cell BK122.out 7).trans rfl
                  have hfz24_0 := blk_frozen BK122.out 0
                  have hfz24_1 := blk_frozen BK122.out 1
                  have hfz24_2 := blk_frozen BK122.out 2
                  have hfz24_3 := blk_frozen BK122.out 3
                  have hfz24_4 := blk_frozen BK122.out 4
                  have hfz24_5 := blk_frozen BK122.out 5
                  have hfz24_6 := blk_frozen BK122.out 6
                  have hfz24_7 := blk_frozen BK122.out 7
                  go_wp2
                  go_meet
                  case rel => exact ⟨_, (true), (by first | rfl | (simp; done) | (simp [*]; done)), H', ⟨by first | omega | exact Nat.le_refl _⟩, ⟨by (with_reducible repeat (first | refine blk_drewN ?_ _ | refine blk_drew ?_ | refine blk_alloc ?_ _)); exact BK121.out⟩, ⟨by (with_reducible repeat (first | refine blk_drewN ?_ _ | refine blk_drew ?_ | refine blk_alloc ?_ _)); exact BK122.out⟩, ⟨by repeat (first | (with_reducible first | exact HB.out | apply below_alloc | apply pw_below_drewN | apply below_drew1 | refine below_set ?_ GE121.out | refine below_set ?_ GE122.out) | exact HB.out)⟩⟩
              · rw [if_neg c17] at H
                have c17b0 : (a0_5.toList == a1_5.toList) = false := beq_eq_false_iff_ne.mpr c17
                have c17b1 : (a0_5.toList != a1_5.toList) = true := bne_iff_ne.mpr c17
                have H' := Aside0.mk H
                clear H
                have hnb25 := NB121_122.out
                have hnc25 := NB122_121.out
                have hcz26_0 : w5.cell? ⟨gb121, 0, none⟩ = some (.int .i64 a0_0) := (blk_cell BK121.out 0).trans rfl
                have hcz26_1 : w5.cell? ⟨gb121, 1, none⟩ = some (.int .i64 a0_1) := (blk_cell BK121.out 1).trans rfl
                have hcz26_2 : w5.cell? ⟨gb121, 2, none⟩ = some (.bool a0_2) := (blk_cell BK121.out 2).trans rfl
                have hcz26_3 : w5.cell? ⟨gb121, 3, none⟩ = some (.bool a0_3) := (blk_cell BK121.out 3).trans rfl
                have hcz26_4 : w5.cell? ⟨gb121, 4, none⟩ = some (.string a0_4) := (blk_cell BK121.out 4).trans rfl
                have hcz26_5 : w5.cell? ⟨gb121, 5, none⟩ = some (.string a0_5) := (blk_cell BK121.out 5).trans rfl
                have hcz26_6 : w5.cell? ⟨gb121, 6, none⟩ = some (.string a0_6) := (blk_cell BK121.out 6).trans rfl
                have hcz26_7 : w5.cell? ⟨gb121, 7, none⟩ = some (.slice A0_7 l0_7.length c0_7) := (blk_cell BK121.out 7).trans rfl
                have hfz26_0 := blk_frozen BK121.out 0
                have hfz26_1 := blk_frozen BK121.out 1
                have hfz26_2 := blk_frozen BK121.out 2
                have hfz26_3 := blk_frozen BK121.out 3
                have hfz26_4 := blk_frozen BK121.out 4
                have hfz26_5 := blk_frozen BK121.out 5
                have hfz26_6 := blk_frozen BK121.out 6
                have hfz26_7 := blk_frozen BK121.out 7
                have hcz27_0 : w5.cell? ⟨gb122, 0, none⟩ = some (.int .i64 a1_0) := (blk_cell BK122.out 0).trans rfl
                have hcz27_1 : w5.cell? ⟨gb122, 1, none⟩ = some (.int .i64 a1_1) := (blk_cell BK122.out 1).trans rfl
                have hcz27_2 : w5.cell? ⟨gb122, 2, none⟩ = some (.bool a1_2) := (blk_cell BK122.out 2).trans rfl
                have hcz27_3 : w5.cell? ⟨gb122, 3, none⟩ = some (.bool a1_3) := (blk_cell BK122.out 3).trans rfl
                have hcz27_4 : w5.cell? ⟨gb122, 4, none⟩ = some (.string a1_4) := (blk_cell BK122.out 4).trans rfl
                have hcz27_5 : w5.cell? ⟨gb122, 5, none⟩ = some (.string a1_5) := (blk_cell BK122.out 5).trans rfl
                have hcz27_6 : w5.cell? ⟨gb122, 6, none⟩ = some (.string a1_6) := (blk_cell BK122.out 6).trans rfl
                have hcz27_7 : w5.cell? ⟨gb122, 7, none⟩ = some (.slice A1_7 l1_7.length c1_7) := (blk_cell BK122.out 7).trans rfl
                have hfz27_0 := blk_frozen BK122.out 0
                have hfz27_1 := blk_frozen BK122.out 1
                have hfz27_2 := blk_frozen BK122.out 2
                have hfz27_3 := blk_frozen BK122.out 3
                have hfz27_4 := blk_frozen BK122.out 4
                have hfz27_5 := blk_frozen BK122.out 5
                have hfz27_6 := blk_frozen BK122.out 6
                have hfz27_7 := blk_frozen BK122.out 7
                go_wp2
                go_meet
                case rel => exact ⟨_, (true), (by first | rfl | (simp; done) | (simp [*]; done)), H', ⟨by first | omega | exact Nat.le_refl _⟩, ⟨by (with_reducible repeat (first | refine blk_drewN ?_ _ | refine blk_drew ?_ | refine blk_alloc ?_ _)); exact BK121.out⟩, ⟨by (with_reducible repeat (first | refine blk_drewN ?_ _ | refine blk_drew ?_ | refine blk_alloc ?_ _)); exact BK122.out⟩, ⟨by repeat (first | (with_reducible first | exact HB.out | apply below_alloc | apply pw_below_drewN | apply below_drew1 | refine below_set ?_ GE121.out | refine below_set ?_ GE122.out) | exact HB.out)⟩⟩
            · rw [if_neg c16] at H
              have c16b0 : (a0_4.toList == a1_4.toList) = false := beq_eq_false_iff_ne.mpr c16
              have c16b1 : (a0_4.toList != a1_4.toList) = true := bne_iff_ne.mpr c16
              have H' := Aside0.mk H
              clear H
              have hnb28 := NB121_122.out
              have hnc28 := NB122_121.out
              have hcz29_0 : w5.cell? ⟨gb121, 0, none⟩ = some (.int .i64 a0_0) := (blk_cell BK121.out 0).trans rfl
              have hcz29_1 : w5.cell? ⟨gb121, 1, none⟩ = some (.int .i64 a0_1) := (blk_cell BK121.out 1).trans rfl
              have hcz29_2 : w5.cell? ⟨gb121, 2, none⟩ = some (.bool a0_2) := (blk_cell BK121.out 2).trans rfl
              have hcz29_3 : w5.cell? ⟨gb121, 3, none⟩ = some (.bool a0_3) := (blk_cell BK121.out 3).trans rfl
              have hcz29_4 : w5.cell? ⟨gb121, 4, none⟩ = some (.string a0_4) := (blk_cell BK121.out 4).trans rfl
              have hcz29_5 : w5.cell? ⟨gb121, 5, none⟩ = some (.string a0_5) := (blk_cell BK121.out 5).trans rfl
              have hcz29_6 : w5.cell? ⟨gb121, 6, none⟩ = some (.string a0_6) := (blk_cell BK121.out 6).trans rfl
              have hcz29_7 : w5.cell? ⟨gb121, 7, none⟩ = some (.slice A0_7 l0_7.length c0_7) := (blk_cell BK121.out 7).trans rfl
              have hfz29_0 := blk_frozen BK121.out 0
              have hfz29_1 := blk_frozen BK121.out 1
              have hfz29_2 := blk_frozen BK121.out 2
              have hfz29_3 := blk_frozen BK121.out 3
              have hfz29_4 := blk_frozen BK121.out 4
              have hfz29_5 := blk_frozen BK121.out 5
              have hfz29_6 := blk_frozen BK121.out 6
              have hfz29_7 := blk_frozen BK121.out 7
              have hcz30_0 : w5.cell? ⟨gb122, 0, none⟩ = some (.int .i64 a1_0) := (blk_cell BK122.out 0).trans rfl
              have hcz30_1 : w5.cell? ⟨gb122, 1, none⟩ = some (.int .i64 a1_1) := (blk_cell BK122.out 1).trans rfl
              have hcz30_2 : w5.cell? ⟨gb122, 2, none⟩ = some (.bool a1_2) := (blk_cell BK122.out 2).trans rfl
              have hcz30_3 : w5.cell? ⟨gb122, 3, none⟩ = some (.bool a1_3) := (blk_cell BK122.out 3).trans rfl
              have hcz30_4 : w5.cell? ⟨gb122, 4, none⟩ = some (.string a1_4) := (blk_cell BK122.out 4).trans rfl
              have hcz30_5 : w5.cell? ⟨gb122, 5, none⟩ = some (.string a1_5) := (blk_cell BK122.out 5).trans rfl
              have hcz30_6 : w5.cell? ⟨gb122, 6, none⟩ = some (.string a1_6) := (blk_cell BK122.out 6).trans rfl
              have hcz30_7 : w5.cell? ⟨gb122, 7, none⟩ = some (.slice A1_7 l1_7.length c1_7) := (blk_cell BK122.out 7).trans rfl
              have hfz30_0 := blk_frozen BK122.out 0
              have hfz30_1 := blk_frozen BK122.out 1
              have hfz30_2 := blk_frozen BK122.out 2
              have hfz30_3 := blk_frozen BK122.out 3
              have hfz30_4 := blk_frozen BK122.out 4
              have hfz30_5 := blk_frozen BK122.out 5
              have hfz30_6 := blk_frozen BK122.out 6
              have hfz30_7 := blk_frozen BK122.out 7
              go_wp2
              go_meet
              case rel => exact ⟨_, (true), (by first | rfl | (simp; done) | (simp [*]; done)), H', ⟨by first | omega | exact Nat.le_refl _⟩, ⟨by (with_reducible repeat (first | refine blk_drewN ?_ _ | refine blk_drew ?_ | refine blk_alloc ?_ _)); exact BK121.out⟩, ⟨by (with_reducible repeat (first | refine blk_drewN ?_ _ | refine blk_drew ?_ | refine blk_alloc ?_ _)); exact BK122.out⟩, ⟨by repeat (first | (with_reducible first | exact HB.out | apply below_alloc | apply pw_below_drewN | apply below_drew1 | refine below_set ?_ GE121.out | refine below_set ?_ GE122.out) | exact HB.out)⟩⟩
      · rw [if_neg c7] at H
        have c7b0 : (a0_1 == a1_1) = false := beq_eq_false_iff_ne.mpr c7
        have c7b1 : (a0_1 != a1_1) = true := bne_iff_ne.mpr c7
        have H' := Aside0.mk H
        clear H
        have hnb31 := NB121_122.out
        have hnc31 := NB122_121.out
        have hcz32_0 : w5.cell? ⟨gb121, 0, none⟩ = some (.int .i64 a0_0) := (blk_cell BK121.out 0).trans rfl
        have hcz32_1 : w5.cell? ⟨gb121, 1, none⟩ = some (.int .i64 a0_1) := (blk_cell BK121.out 1).trans rfl
        have hcz32_2 : w5.cell? ⟨gb121, 2, none⟩ = some (.bool a0_2) := (blk_cell BK121.out 2).trans rfl
        have hcz32_3 : w5.cell? ⟨gb121, 3, none⟩ = some (.bool a0_3) := (blk_cell BK121.out 3).trans rfl
        have hcz32_4 : w5.cell? ⟨gb121, 4, none⟩ = some (.string a0_4) := (blk_cell BK121.out 4).trans rfl
        have hcz32_5 : w5.cell? ⟨gb121, 5, none⟩ = some (.string a0_5) := (blk_cell BK121.out 5).trans rfl
        have hcz32_6 : w5.cell? ⟨gb121, 6, none⟩ = some (.string a0_6) := (blk_cell BK121.out 6).trans rfl
        have hcz32_7 : w5.cell? ⟨gb121, 7, none⟩ = some (.slice A0_7 l0_7.length c0_7) := (blk_cell BK121.out 7).trans rfl
        have hfz32_0 := blk_frozen BK121.out 0
        have hfz32_1 := blk_frozen BK121.out 1
        have hfz32_2 := blk_frozen BK121.out 2
        have hfz32_3 := blk_frozen BK121.out 3
        have hfz32_4 := blk_frozen BK121.out 4
        have hfz32_5 := blk_frozen BK121.out 5
        have hfz32_6 := blk_frozen BK121.out 6
        have hfz32_7 := blk_frozen BK121.out 7
        have hcz33_0 : w5.cell? ⟨gb122, 0, none⟩ = some (.int .i64 a1_0) := (blk_cell BK122.out 0).trans rfl
        have hcz33_1 : w5.cell? ⟨gb122, 1, none⟩ = some (.int .i64 a1_1) := (blk_cell BK122.out 1).trans rfl
        have hcz33_2 : w5.cell? ⟨gb122, 2, none⟩ = some (.bool a1_2) := (blk_cell BK122.out 2).trans rfl
        have hcz33_3 : w5.cell? ⟨gb122, 3, none⟩ = some (.bool a1_3) := (blk_cell BK122.out 3).trans rfl
        have hcz33_4 : w5.cell? ⟨gb122, 4, none⟩ = some (.string a1_4) := (blk_cell BK122.out 4).trans rfl
        have hcz33_5 : w5.cell? ⟨gb122, 5, none⟩ = some (.string a1_5) := (blk_cell BK122.out 5).trans rfl
        have hcz33_6 : w5.cell? ⟨gb122, 6, none⟩ = some (.string a1_6) := (blk_cell BK122.out 6).trans rfl
        have hcz33_7 : w5.cell? ⟨gb122, 7, none⟩ = some (.slice A1_7 l1_7.length c1_7) := (blk_cell BK122.out 7).trans rfl
        have hfz33_0 := blk_frozen BK122.out 0
        have hfz33_1 := blk_frozen BK122.out 1
        have hfz33_2 := blk_frozen BK122.out 2
        have hfz33_3 := blk_frozen BK122.out 3
        have hfz33_4 := blk_frozen BK122.out 4
        have hfz33_5 := blk_frozen BK122.out 5
        have hfz33_6 := blk_frozen BK122.out 6
        have hfz33_7 := blk_frozen BK122.out 7
        go_wp2
        go_meet
        case rel => exact ⟨_, (true), (by first | rfl | (simp; done) | (simp [*]; done)), H', ⟨by first | omega | exact Nat.le_refl _⟩, ⟨by (with_reducible repeat (first | refine blk_drewN ?_ _ | refine blk_drew ?_ | refine blk_alloc ?_ _)); exact BK121.out⟩, ⟨by (with_reducible repeat (first | refine blk_drewN ?_ _ | refine blk_drew ?_ | refine blk_alloc ?_ _)); exact BK122.out⟩, ⟨by repeat (first | (with_reducible first | exact HB.out | apply below_alloc | apply pw_below_drewN | apply below_drew1 | refine below_set ?_ GE121.out | refine below_set ?_ GE122.out) | exact HB.out)⟩⟩
    · rw [if_neg c6] at H
      have c6b0 : (a0_0 == a1_0) = false := beq_eq_false_iff_ne.mpr c6
      have c6b1 : (a0_0 != a1_0) = true := bne_iff_ne.mpr c6
      (first | rw [c6b0] | (simp only [i64_w, i32_w]; rw [c6b0]) | skip)
      have H' := Aside0.mk H
      clear H
      have hnb34 := NB121_122.out
      have hnc34 := NB122_121.out
      have hcz35_0 : w5.cell? ⟨gb121, 0, none⟩ = some (.int .i64 a0_0) := (blk_cell BK121.out 0).trans rfl
      have hcz35_1 : w5.cell? ⟨gb121, 1, none⟩ = some (.int .i64 a0_1) := (blk_cell BK121.out 1).trans rfl
      have hcz35_2 : w5.cell? ⟨gb121, 2, none⟩ = some (.bool a0_2) := (blk_cell BK121.out 2).trans rfl
      have hcz35_3 : w5.cell? ⟨gb121, 3, none⟩ = some (.bool a0_3) := (blk_cell BK121.out 3).trans rfl
      have hcz35_4 : w5.cell? ⟨gb121, 4, none⟩ = some (.string a0_4) := (blk_cell BK121.out 4).trans rfl
      have hcz35_5 : w5.cell? ⟨gb121, 5, none⟩ = some (.string a0_5) := (blk_cell BK121.out 5).trans rfl
      have hcz35_6 : w5.cell? ⟨gb121, 6, none⟩ = some (.string a0_6) := (blk_cell BK121.out 6).trans rfl
      have hcz35_7 : w5.cell? ⟨gb121, 7, none⟩ = some (.slice A0_7 l0_7.length c0_7) := (blk_cell BK121.out 7).trans rfl
      have hfz35_0 := blk_frozen BK121.out 0
      have hfz35_1 := blk_frozen BK121.out 1
      have hfz35_2 := blk_frozen BK121.out 2
      have hfz35_3 := blk_frozen BK121.out 3
      have hfz35_4 := blk_frozen BK121.out 4
      have hfz35_5 := blk_frozen BK121.out 5
      have hfz35_6 := blk_frozen BK121.out 6
      have hfz35_7 := blk_frozen BK121.out 7
      have hcz36_0 : w5.cell? ⟨gb122, 0, none⟩ = some (.int .i64 a1_0) := (blk_cell BK122.out 0).trans rfl
      have hcz36_1 : w5.cell? ⟨gb122, 1, none⟩ = some (.int .i64 a1_1) := (blk_cell BK122.out 1).trans rfl
      have hcz36_2 : w5.cell? ⟨gb122, 2, none⟩ = some (.bool a1_2) := (blk_cell BK122.out 2).trans rfl
      have hcz36_3 : w5.cell? ⟨gb122, 3, none⟩ = some (.bool a1_3) := (blk_cell BK122.out 3).trans rfl
      have hcz36_4 : w5.cell? ⟨gb122, 4, none⟩ = some (.string a1_4) := (blk_cell BK122.out 4).trans rfl
      have hcz36_5 : w5.cell? ⟨gb122, 5, none⟩ = some (.string a1_5) := (blk_cell BK122.out 5).trans rfl
      have hcz36_6 : w5.cell? ⟨gb122, 6, none⟩ = some (.string a1_6) := (blk_cell BK122.out 6).trans rfl
      have hcz36_7 : w5.cell? ⟨gb122, 7, none⟩ = some (.slice A1_7 l1_7.length c1_7) := (blk_cell BK122.out 7).trans rfl
      have hfz36_0 := blk_frozen BK122.out 0
      have hfz36_1 := blk_frozen BK122.out 1
      have hfz36_2 := blk_frozen BK122.out 2
      have hfz36_3 := blk_frozen BK122.out 3
      have hfz36_4 := blk_frozen BK122.out 4
      have hfz36_5 := blk_frozen BK122.out 5
      have hfz36_6 := blk_frozen BK122.out 6
      have hfz36_7 := blk_frozen BK122.out 7
      go_wp2
      go_meet
      case rel => exact ⟨_, (true), (by first | rfl | (simp; done) | (simp [*]; done)), H', ⟨by first | omega | exact Nat.le_refl _⟩, ⟨by (with_reducible repeat (first | refine blk_drewN ?_ _ | refine blk_drew ?_ | refine blk_alloc ?_ _)); exact BK121.out⟩, ⟨by (with_reducible repeat (first | refine blk_drewN ?_ _ | refine blk_drew ?_ | refine blk_alloc ?_ _)); exact BK122.out⟩, ⟨by repeat (first | (with_reducible first | exact HB.out | apply below_alloc | apply pw_below_drewN | apply below_drew1 | refine below_set ?_ GE121.out | refine below_set ?_ GE122.out) | exact HB.out)⟩⟩
  case rest =>
    clear HC3
    try clear c1
    try clear c2
    try clear p2
    try clear c3
    try clear c6
    try clear c6b0
    try clear c6b1
    try clear c7
    try clear c7b0
    try clear c7b1
    try clear c8
    try clear c8b0
    try clear c8b1
    try clear c8b2
    try clear c9
    try clear c12
    try clear c12b0
    try clear c12b1
    try clear c12b2
    try clear c13
    try clear c15
    try clear c16
    try clear c16b0
    try clear c16b1
    try clear c17
    try clear c17b0
    try clear c17b1
    try clear c18
    try clear c18b0
    try clear c18b1
    try clear c19
    try clear c22
    try clear c25
    try clear c28
    try clear c31
    try clear c34
    try clear hcz10_0
    try clear hcz10_1
    try clear hcz10_2
    try clear hcz10_3
    try clear hcz10_4
    try clear hcz10_5
    try clear hcz10_6
    try clear hcz10_7
    try clear hcz11_0
    try clear hcz11_1
    try clear hcz11_2
    try clear hcz11_3
    try clear hcz11_4
    try clear hcz11_5
    try clear hcz11_6
    try clear hcz11_7
    try clear hcz14_0
    try clear hcz14_1
    try clear hcz14_2
    try clear hcz14_3
    try clear hcz14_4
    try clear hcz14_5
    try clear hcz14_6
    try clear hcz14_7
    try clear hcz15_0
    try clear hcz15_1
    try clear hcz15_2
    try clear hcz15_3
    try clear hcz15_4
    try clear hcz15_5
    try clear hcz15_6
    try clear hcz15_7
    try clear hcz20_0
    try clear hcz20_1
    try clear hcz20_2
    try clear hcz20_3
    try clear hcz20_4
    try clear hcz20_5
    try clear hcz20_6
    try clear hcz20_7
    try clear hcz21_0
    try clear hcz21_1
    try clear hcz21_2
    try clear hcz21_3
    try clear hcz21_4
    try clear hcz21_5
    try clear hcz21_6
    try clear hcz21_7
    try clear hcz23_0
    try clear hcz23_1
    try clear hcz23_2
    try clear hcz23_3
    try clear hcz23_4
    try clear hcz23_5
    try clear hcz23_6
    try clear hcz23_7
    try clear hcz24_0
    try clear hcz24_1
    try clear hcz24_2
    try clear hcz24_3
    try clear hcz24_4
    try clear hcz24_5
    try clear hcz24_6
    try clear hcz24_7
    try clear hcz26_0
    try clear hcz26_1
    try clear hcz26_2
    try clear hcz26_3
    try clear hcz26_4
    try clear hcz26_5
    try clear hcz26_6
    try clear hcz26_7
    try clear hcz27_0
    try clear hcz27_1
    try clear hcz27_2
    try clear hcz27_3
    try clear hcz27_4
    try clear hcz27_5
    try clear hcz27_6
    try clear hcz27_7
    try clear hcz29_0
    try clear hcz29_1
    try clear hcz29_2
    try clear hcz29_3
    try clear hcz29_4
    try clear hcz29_5
    try clear hcz29_6
    try clear hcz29_7
    try clear hcz30_0
    try clear hcz30_1
    try clear hcz30_2
    try clear hcz30_3
    try clear hcz30_4
    try clear hcz30_5
    try clear hcz30_6
    try clear hcz30_7
    try clear hcz32_0
    try clear hcz32_1
    try clear hcz32_2
    try clear hcz32_3
    try clear hcz32_4
    try clear hcz32_5
    try clear hcz32_6
    try clear hcz32_7
    try clear hcz33_0
    try clear hcz33_1
    try clear hcz33_2
    try clear hcz33_3
    try clear hcz33_4
    try clear hcz33_5
    try clear hcz33_6
    try clear hcz33_7
    try clear hcz35_0
    try clear hcz35_1
    try clear hcz35_2
    try clear hcz35_3
    try clear hcz35_4
    try clear hcz35_5
    try clear hcz35_6
    try clear hcz35_7
    try clear hcz36_0
    try clear hcz36_1
    try clear hcz36_2
    try clear hcz36_3
    try clear hcz36_4
    try clear hcz36_5
    try clear hcz36_6
    try clear hcz36_7
    try clear hfz10_0
    try clear hfz10_1
    try clear hfz10_2
    try clear hfz10_3
    try clear hfz10_4
    try clear hfz10_5
    try clear hfz10_6
    try clear hfz10_7
    try clear hfz11_0
    try clear hfz11_1
    try clear hfz11_2
    try clear hfz11_3
    try clear hfz11_4
    try clear hfz11_5
    try clear hfz11_6
    try clear hfz11_7
    try clear hfz14_0
    try clear hfz14_1
    try clear hfz14_2
    try clear hfz14_3
    try clear hfz14_4
    try clear hfz14_5
    try clear hfz14_6
    try clear hfz14_7
    try clear hfz15_0
    try clear hfz15_1
    try clear hfz15_2
    try clear hfz15_3
    try clear hfz15_4
    try clear hfz15_5
    try clear hfz15_6
    try clear hfz15_7
    try clear hfz20_0
    try clear hfz20_1
    try clear hfz20_2
    try clear hfz20_3
    try clear hfz20_4
    try clear hfz20_5
    try clear hfz20_6
    try clear hfz20_7
    try clear hfz21_0
    try clear hfz21_1
    try clear hfz21_2
    try clear hfz21_3
    try clear hfz21_4
    try clear hfz21_5
    try clear hfz21_6
    try clear hfz21_7
    try clear hfz23_0
    try clear hfz23_1
    try clear hfz23_2
    try clear hfz23_3
    try clear hfz23_4
    try clear hfz23_5
    try clear hfz23_6
    try clear hfz23_7
    try clear hfz24_0
    try clear hfz24_1
    try clear hfz24_2
    try clear hfz24_3
    try clear hfz24_4
    try clear hfz24_5
    try clear hfz24_6
    try clear hfz24_7
    try clear hfz26_0
    try clear hfz26_1
    try clear hfz26_2
    try clear hfz26_3
    try clear hfz26_4
    try clear hfz26_5
    try clear hfz26_6
    try clear hfz26_7
    try clear hfz27_0
    try clear hfz27_1
    try clear hfz27_2
    try clear hfz27_3
    try clear hfz27_4
    try clear hfz27_5
    try clear hfz27_6
    try clear hfz27_7
    try clear hfz29_0
    try clear hfz29_1
    try clear hfz29_2
    try clear hfz29_3
    try clear hfz29_4
    try clear hfz29_5
    try clear hfz29_6
    try clear hfz29_7
    try clear hfz30_0
    try clear hfz30_1
    try clear hfz30_2
    try clear hfz30_3
    try clear hfz30_4
    try clear hfz30_5
    try clear hfz30_6
    try clear hfz30_7
    try clear hfz32_0
    try clear hfz32_1
    try clear hfz32_2
    try clear hfz32_3
    try clear hfz32_4
    try clear hfz32_5
    try clear hfz32_6
    try clear hfz32_7
    try clear hfz33_0
    try clear hfz33_1
    try clear hfz33_2
    try clear hfz33_3
    try clear hfz33_4
    try clear hfz33_5
    try clear hfz33_6
    try clear hfz33_7
    try clear hfz35_0
    try clear hfz35_1
    try clear hfz35_2
    try clear hfz35_3
    try clear hfz35_4
    try clear hfz35_5
    try clear hfz35_6
    try clear hfz35_7
    try clear hfz36_0
    try clear hfz36_1
    try clear hfz36_2
    try clear hfz36_3
    try clear hfz36_4
    try clear hfz36_5
    try clear hfz36_6
    try clear hfz36_7
    obtain ⟨kq, x61_2, rfl, HA, HJ2, BK121, BK122, HB⟩ := hcut
    cases kq with
    | zero => exact absurd HA.out (by simp [rubricatorlaw19_same.j0])
    | succ kj2 =>
      have H := HA.out
      clear HA
      simp only [rubricatorlaw19_same.j0] at H
      by_cases c37 : x61_2 = true
      · subst c37
        have H1 : (some false) = some r := by rw [if_pos rfl] at H; exact H
        clear H
        have H := H1
        clear H1
        obtain rfl := Option.some.inj H
        go_wp2
        go_ret
        exact ⟨by first | rfl | (simp [errW_none, errW_some] <;> rfl) | (simp [*, errW_none, errW_some] <;> rfl), by repeat (first | (with_reducible first | exact HB.out | apply below_alloc | apply pw_below_drewN | apply below_drew1 | refine below_set ?_ GE121.out | refine below_set ?_ GE122.out) | exact HB.out)⟩
      · replace c37 := Bool.eq_false_iff.mpr c37
        subst c37
        have H1 : (rubricatorlaw19_same.l0 kj2 0 a0_0 a0_1 a0_2 a0_3 a0_4 a0_5 a0_6 l0_7 a1_0 a1_1 a1_2 a1_3 a1_4 a1_5 a1_6 l1_7) = some r := by rw [if_neg (show ¬ (false = true) by decide)] at H; exact H
        clear H
        have H := H1
        clear H1
        have H' := Aside0.mk H
        clear H
        go_wp2
        go_loopg [5] kj2 (fun kq v5 w' => ∃ (x5_2 : Int), v5 = .int .i64 x5_2 ∧ Aside0 (rubricatorlaw19_same.l0 kq x5_2 a0_0 a0_1 a0_2 a0_3 a0_4 a0_5 a0_6 l0_7 a1_0 a1_1 a1_2 a1_3 a1_4 a1_5 a1_6 l1_7 = some r) ∧ Aside0 (kq ≤ kj2) ∧ Aside0 (w'.heap[gb121]? = some (.cells #[.int .i64 a0_0, .int .i64 a0_1, .bool a0_2, .bool a0_3, .string a0_4, .string a0_5, .string a0_6, (.slice A0_7 l0_7.length c0_7)] 27 (0, 0))) ∧ Aside0 (w'.heap[gb122]? = some (.cells #[.int .i64 a1_0, .int .i64 a1_1, .bool a1_2, .bool a1_3, .string a1_4, .string a1_5, .string a1_6, (.slice A1_7 l1_7.length c1_7)] 27 (0, 0))) ∧ Aside0 (Below w.heap.size w w'))
        case atStart => exact ⟨(0), (by first | rfl | (simp; done) | (simp [*]; done)), H', ⟨Nat.le_refl _⟩, ⟨by (with_reducible repeat (first | refine blk_drewN ?_ _ | refine blk_drew ?_ | refine blk_alloc ?_ _)); exact BK121.out⟩, ⟨by (with_reducible repeat (first | refine blk_drewN ?_ _ | refine blk_drew ?_ | refine blk_alloc ?_ _)); exact BK122.out⟩, ⟨by repeat (first | (with_reducible first | exact HB.out | apply below_alloc | apply pw_below_drewN | apply below_drew1 | refine below_set ?_ GE121.out | refine below_set ?_ GE122.out) | exact HB.out)⟩⟩
        case round =>
          clear H'
          try clear c1
          try clear c2
          try clear p2
          try clear c3
          try clear c6
          try clear c6b0
          try clear c6b1
          try clear c7
          try clear c7b0
          try clear c7b1
          try clear c8
          try clear c8b0
          try clear c8b1
          try clear c8b2
          try clear c9
          try clear c12
          try clear c12b0
          try clear c12b1
          try clear c12b2
          try clear c13
          try clear c15
          try clear c16
          try clear c16b0
          try clear c16b1
          try clear c17
          try clear c17b0
          try clear c17b1
          try clear c18
          try clear c18b0
          try clear c18b1
          try clear c19
          try clear c22
          try clear c25
          try clear c28
          try clear c31
          try clear c34
          try clear c37
          try clear hcz10_0
          try clear hcz10_1
          try clear hcz10_2
          try clear hcz10_3
          try clear hcz10_4
          try clear hcz10_5
          try clear hcz10_6
          try clear hcz10_7
          try clear hcz11_0
          try clear hcz11_1
          try clear hcz11_2
          try clear hcz11_3
          try clear hcz11_4
          try clear hcz11_5
          try clear hcz11_6
          try clear hcz11_7
          try clear hcz14_0
          try clear hcz14_1
          try clear hcz14_2
          try clear hcz14_3
          try clear hcz14_4
          try clear hcz14_5
          try clear hcz14_6
          try clear hcz14_7
          try clear hcz15_0
          try clear hcz15_1
          try clear hcz15_2
          try clear hcz15_3
          try clear hcz15_4
          try clear hcz15_5
          try clear hcz15_6
          try clear hcz15_7
          try clear hcz20_0
          try clear hcz20_1
          try clear hcz20_2
          try clear hcz20_3
          try clear hcz20_4
          try clear hcz20_5
          try clear hcz20_6
          try clear hcz20_7
          try clear hcz21_0
          try clear hcz21_1
          try clear hcz21_2
          try clear hcz21_3
          try clear hcz21_4
          try clear hcz21_5
          try clear hcz21_6
          try clear hcz21_7
          try clear hcz23_0
          try clear hcz23_1
          try clear hcz23_2
          try clear hcz23_3
          try clear hcz23_4
          try clear hcz23_5
          try clear hcz23_6
          try clear hcz23_7
          try clear hcz24_0
          try clear hcz24_1
          try clear hcz24_2
          try clear hcz24_3
          try clear hcz24_4
          try clear hcz24_5
          try clear hcz24_6
          try clear hcz24_7
          try clear hcz26_0
          try clear hcz26_1
          try clear hcz26_2
          try clear hcz26_3
          try clear hcz26_4
          try clear hcz26_5
          try clear hcz26_6
          try clear hcz26_7
          try clear hcz27_0
          try clear hcz27_1
          try clear hcz27_2
          try clear hcz27_3
          try clear hcz27_4
          try clear hcz27_5
          try clear hcz27_6
          try clear hcz27_7
          try clear hcz29_0
          try clear hcz29_1
          try clear hcz29_2
          try clear hcz29_3
          try clear hcz29_4
          try clear hcz29_5
          try clear hcz29_6
          try clear hcz29_7
          try clear hcz30_0
          try clear hcz30_1
          try clear hcz30_2
          try clear hcz30_3
          try clear hcz30_4
          try clear hcz30_5
          try clear hcz30_6
          try clear hcz30_7
          try clear hcz32_0
          try clear hcz32_1
          try clear hcz32_2
          try clear hcz32_3
          try clear hcz32_4
          try clear hcz32_5
          try clear hcz32_6
          try clear hcz32_7
          try clear hcz33_0
          try clear hcz33_1
          try clear hcz33_2
          try clear hcz33_3
          try clear hcz33_4
          try clear hcz33_5
          try clear hcz33_6
          try clear hcz33_7
          try clear hcz35_0
          try clear hcz35_1
          try clear hcz35_2
          try clear hcz35_3
          try clear hcz35_4
          try clear hcz35_5
          try clear hcz35_6
          try clear hcz35_7
          try clear hcz36_0
          try clear hcz36_1
          try clear hcz36_2
          try clear hcz36_3
          try clear hcz36_4
          try clear hcz36_5
          try clear hcz36_6
          try clear hcz36_7
          try clear hfz10_0
          try clear hfz10_1
          try clear hfz10_2
          try clear hfz10_3
          try clear hfz10_4
          try clear hfz10_5
          try clear hfz10_6
          try clear hfz10_7
          try clear hfz11_0
          try clear hfz11_1
          try clear hfz11_2
          try clear hfz11_3
          try clear hfz11_4
          try clear hfz11_5
          try clear hfz11_6
          try clear hfz11_7
          try clear hfz14_0
          try clear hfz14_1
          try clear hfz14_2
          try clear hfz14_3
          try clear hfz14_4
          try clear hfz14_5
          try clear hfz14_6
          try clear hfz14_7
          try clear hfz15_0
          try clear hfz15_1
          try clear hfz15_2
          try clear hfz15_3
          try clear hfz15_4
          try clear hfz15_5
          try clear hfz15_6
          try clear hfz15_7
          try clear hfz20_0
          try clear hfz20_1
          try clear hfz20_2
          try clear hfz20_3
          try clear hfz20_4
          try clear hfz20_5
          try clear hfz20_6
          try clear hfz20_7
          try clear hfz21_0
          try clear hfz21_1
          try clear hfz21_2
          try clear hfz21_3
          try clear hfz21_4
          try clear hfz21_5
          try clear hfz21_6
          try clear hfz21_7
          try clear hfz23_0
          try clear hfz23_1
          try clear hfz23_2
          try clear hfz23_3
          try clear hfz23_4
          try clear hfz23_5
          try clear hfz23_6
          try clear hfz23_7
          try clear hfz24_0
          try clear hfz24_1
          try clear hfz24_2
          try clear hfz24_3
          try clear hfz24_4
          try clear hfz24_5
          try clear hfz24_6
          try clear hfz24_7
          try clear hfz26_0
          try clear hfz26_1
          try clear hfz26_2
          try clear hfz26_3
          try clear hfz26_4
          try clear hfz26_5
          try clear hfz26_6
          try clear hfz26_7
          try clear hfz27_0
          try clear hfz27_1
          try clear hfz27_2
          try clear hfz27_3
          try clear hfz27_4
          try clear hfz27_5
          try clear hfz27_6
          try clear hfz27_7
          try clear hfz29_0
          try clear hfz29_1
          try clear hfz29_2
          try clear hfz29_3
          try clear hfz29_4
          try clear hfz29_5
          try clear hfz29_6
          try clear hfz29_7
          try clear hfz30_0
          try clear hfz30_1
          try clear hfz30_2
          try clear hfz30_3
          try clear hfz30_4
          try clear hfz30_5
          try clear hfz30_6
          try clear hfz30_7
          try clear hfz32_0
          try clear hfz32_1
          try clear hfz32_2
          try clear hfz32_3
          try clear hfz32_4
          try clear hfz32_5
          try clear hfz32_6
          try clear hfz32_7
          try clear hfz33_0
          try clear hfz33_1
          try clear hfz33_2
          try clear hfz33_3
          try clear hfz33_4
          try clear hfz33_5
          try clear hfz33_6
          try clear hfz33_7
          try clear hfz35_0
          try clear hfz35_1
          try clear hfz35_2
          try clear hfz35_3
          try clear hfz35_4
          try clear hfz35_5
          try clear hfz35_6
          try clear hfz35_7
          try clear hfz36_0
          try clear hfz36_1
          try clear hfz36_2
          try clear hfz36_3
          try clear hfz36_4
          try clear hfz36_5
          try clear hfz36_6
          try clear hfz36_7
          try clear p2
          obtain ⟨x5_2, rfl, HA, HK2, BK121, BK122, HB⟩ := hrel
          cases gk with
          | zero => exact absurd HA.out (by simp [rubricatorlaw19_same.l0])
          | succ k2 =>
            have H := HA.out
            clear HA
            simp only [rubricatorlaw19_same.l0] at H
            by_cases c38 : x5_2 < (l0_7.length : Int)
            · rw [if_pos c38] at H
              have c38b0 : decide (x5_2 < (l0_7.length : Int)) = true := decide_eq_true c38
              clear c38
              by_cases c39 : 0 ≤ x5_2
              · rw [if_pos c39] at H
                have c39b0 : decide (0 ≤ x5_2) = true := decide_eq_true c39
                clear c39
                by_cases c40 : x5_2 < (l1_7.length : Int)
                · rw [if_pos c40] at H
                  have c40b0 : decide (x5_2 < (l1_7.length : Int)) = true := decide_eq_true c40
                  clear c40
                  replace H := Option.bind_eq_some_iff.mp H
                  obtain ⟨t125, A410, H⟩ := H
                  replace H : (if t125 = true then (rubricatorlaw19_same.l0 k2 (wrap64 (x5_2 + 1)) a0_0 a0_1 a0_2 a0_3 a0_4 a0_5 a0_6 l0_7 a1_0 a1_1 a1_2 a1_3 a1_4 a1_5 a1_6 l1_7) else (some false)) = some r := H
                  have A41 := Aside0.mk A410
                  clear A410
                  by_cases c42 : t125 = true
                  · subst c42
                    have H1 : (rubricatorlaw19_same.l0 k2 (wrap64 (x5_2 + 1)) a0_0 a0_1 a0_2 a0_3 a0_4 a0_5 a0_6 l0_7 a1_0 a1_1 a1_2 a1_3 a1_4 a1_5 a1_6 l1_7) = some r := by rw [if_pos rfl] at H; exact H
                    clear H
                    have H := H1
                    clear H1
                    have H' := Aside0.mk H
                    clear H
                    have hnb43 := NB121_122.out
                    have hnc43 := NB122_121.out
                    have hcz44_0 : wr.cell? ⟨gb121, 0, none⟩ = some (.int .i64 a0_0) := (blk_cell BK121.out 0).trans rfl
                    have hcz44_1 : wr.cell? ⟨gb121, 1, none⟩ = some (.int .i64 a0_1) := (blk_cell BK121.out 1).trans rfl
                    have hcz44_2 : wr.cell? ⟨gb121, 2, none⟩ = some (.bool a0_2) := (blk_cell BK121.out 2).trans rfl
                    have hcz44_3 : wr.cell? ⟨gb121, 3, none⟩ = some (.bool a0_3) := (blk_cell BK121.out 3).trans rfl
                    have hcz44_4 : wr.cell? ⟨gb121, 4, none⟩ = some (.string a0_4) := (blk_cell BK121.out 4).trans rfl
                    have hcz44_5 : wr.cell? ⟨gb121, 5, none⟩ = some (.string a0_5) := (blk_cell BK121.out 5).trans rfl
                    have hcz44_6 : wr.cell? ⟨gb121, 6, none⟩ = some (.string a0_6) := (blk_cell BK121.out 6).trans rfl
                    have hcz44_7 : wr.cell? ⟨gb121, 7, none⟩ = some (.slice A0_7 l0_7.length c0_7) := (blk_cell BK121.out 7).trans rfl
                    have hfz44_0 := blk_frozen BK121.out 0
                    have hfz44_1 := blk_frozen BK121.out 1
                    have hfz44_2 := blk_frozen BK121.out 2
                    have hfz44_3 := blk_frozen BK121.out 3
                    have hfz44_4 := blk_frozen BK121.out 4
                    have hfz44_5 := blk_frozen BK121.out 5
                    have hfz44_6 := blk_frozen BK121.out 6
                    have hfz44_7 := blk_frozen BK121.out 7
                    try go_wp2
                    have n0_ := Aside0.mk (blk_drew BK121.out)
                    have n1_ := Aside0.mk (blk_drew BK122.out)
                    have n2_ := Aside0.mk (below_drew1 HB.out)
                    clear BK121
                    clear BK122
                    clear HB
                    have BK121 := n0_
                    have BK122 := n1_
                    have HB := n2_
                    clear n0_ n1_ n2_
                    have p123 : 0 ≤ (x5_2 : Int) := of_decide_eq_true (by first | (with_reducible assumption) | assumption)
                    have q123 : x5_2 < (l0_7.length : Int) := of_decide_eq_true (by first | (with_reducible assumption) | assumption)
                    obtain ⟨ad123, A123_7, c123_7, e123, hx123_0, hx123_1, hx123_2, hx123_3, hx123_4, hx123_5, hx123_6, hx123_7, hl123_7, hi123_7⟩ := at_T27 HR0_7.out x5_2 p123 q123
                    have hw123_7 := hx123_7
                    have hw123_6 := hx123_6
                    have hw123_5 := hx123_5
                    have hw123_4 := hx123_4
                    have hw123_3 := hx123_3
                    have hw123_2 := hx123_2
                    have hw123_1 := hx123_1
                    have hw123_0 := hx123_0
                    cases e123
                    replace hx123_0 := (HB.out.cell (World.block_lt_of_cell? w _ hx123_0)).trans hx123_0
                    replace hx123_1 := (HB.out.cell (World.block_lt_of_cell? w _ hx123_1)).trans hx123_1
                    replace hx123_2 := (HB.out.cell (World.block_lt_of_cell? w _ hx123_2)).trans hx123_2
                    replace hx123_3 := (HB.out.cell (World.block_lt_of_cell? w _ hx123_3)).trans hx123_3
                    replace hx123_4 := (HB.out.cell (World.block_lt_of_cell? w _ hx123_4)).trans hx123_4
                    replace hx123_5 := (HB.out.cell (World.block_lt_of_cell? w _ hx123_5)).trans hx123_5
                    replace hx123_6 := (HB.out.cell (World.block_lt_of_cell? w _ hx123_6)).trans hx123_6
                    replace hx123_7 := (HB.out.cell (World.block_lt_of_cell? w _ hx123_7)).trans hx123_7
                    have HR123_7 := Aside0.mk hi123_7
                    have HC123_7 := Aside0.mk hl123_7
                    clear hi123_7 hl123_7
                    replace p123 := eq_true p123
                    replace q123 := eq_true q123
                    have p124 : 0 ≤ (x5_2 : Int) := of_decide_eq_true (by first | (with_reducible assumption) | assumption)
                    have q124 : x5_2 < (l1_7.length : Int) := of_decide_eq_true (by first | (with_reducible assumption) | assumption)
                    obtain ⟨ad124, A124_7, c124_7, e124, hx124_0, hx124_1, hx124_2, hx124_3, hx124_4, hx124_5, hx124_6, hx124_7, hl124_7, hi124_7⟩ := at_T27 HR1_7.out x5_2 p124 q124
                    have hw124_7 := hx124_7
                    have hw124_6 := hx124_6
                    have hw124_5 := hx124_5
                    have hw124_4 := hx124_4
                    have hw124_3 := hx124_3
                    have hw124_2 := hx124_2
                    have hw124_1 := hx124_1
                    have hw124_0 := hx124_0
                    cases e124
                    replace hx124_0 := (HB.out.cell (World.block_lt_of_cell? w _ hx124_0)).trans hx124_0
                    replace hx124_1 := (HB.out.cell (World.block_lt_of_cell? w _ hx124_1)).trans hx124_1
                    replace hx124_2 := (HB.out.cell (World.block_lt_of_cell? w _ hx124_2)).trans hx124_2
                    replace hx124_3 := (HB.out.cell (World.block_lt_of_cell? w _ hx124_3)).trans hx124_3
                    replace hx124_4 := (HB.out.cell (World.block_lt_of_cell? w _ hx124_4)).trans hx124_4
                    replace hx124_5 := (HB.out.cell (World.block_lt_of_cell? w _ hx124_5)).trans hx124_5
                    replace hx124_6 := (HB.out.cell (World.block_lt_of_cell? w _ hx124_6)).trans hx124_6
                    replace hx124_7 := (HB.out.cell (World.block_lt_of_cell? w _ hx124_7)).trans hx124_7
                    have HR124_7 := Aside0.mk hi124_7
                    have HC124_7 := Aside0.mk hl124_7
                    clear hi124_7 hl124_7
                    replace p124 := eq_true p124
                    replace q124 := eq_true q124
                    refine start_ (n := 12) (S := fun w' => w'.cell? ⟨gb121, 0, none⟩ = some (.int .i64 a0_0) ∧ w'.cell? ⟨gb121, 1, none⟩ = some (.int .i64 a0_1) ∧ w'.cell? ⟨gb121, 2, none⟩ = some (.bool a0_2) ∧ w'.cell? ⟨gb121, 3, none⟩ = some (.bool a0_3) ∧ w'.cell? ⟨gb121, 4, none⟩ = some (.string a0_4) ∧ w'.cell? ⟨gb121, 5, none⟩ = some (.string a0_5) ∧ w'.cell? ⟨gb121, 6, none⟩ = some (.string a0_6) ∧ w'.cell? ⟨gb121, 7, none⟩ = some (.slice (some ad123) l0_7.length c0_7) ∧ w'.cell? ⟨gb122, 0, none⟩ = some (.int .i64 a1_0) ∧ w'.cell? ⟨gb122, 1, none⟩ = some (.int .i64 a1_1) ∧ w'.cell? ⟨gb122, 2, none⟩ = some (.bool a1_2) ∧ w'.cell? ⟨gb122, 3, none⟩ = some (.bool a1_3) ∧ w'.cell? ⟨gb122, 4, none⟩ = some (.string a1_4) ∧ w'.cell? ⟨gb122, 5, none⟩ = some (.string a1_5) ∧ w'.cell? ⟨gb122, 6, none⟩ = some (.string a1_6) ∧ w'.cell? ⟨gb122, 7, none⟩ = some (.slice (some ad124) l1_7.length c1_7) ∧ w'.cell? (ad123.add ((x5_2).toNat * 8)) = some (.int .i64 ((rd_T27 l0_7 x5_2).f0)) ∧ w'.cell? ⟨(ad123.add ((x5_2).toNat * 8)).block, (ad123.add ((x5_2).toNat * 8)).off + 1, none⟩ = some (.int .i64 ((rd_T27 l0_7 x5_2).f1)) ∧ w'.cell? ⟨(ad123.add ((x5_2).toNat * 8)).block, (ad123.add ((x5_2).toNat * 8)).off + 2, none⟩ = some (.bool ((rd_T27 l0_7 x5_2).f2)) ∧ w'.cell? ⟨(ad123.add ((x5_2).toNat * 8)).block, (ad123.add ((x5_2).toNat * 8)).off + 3, none⟩ = some (.bool ((rd_T27 l0_7 x5_2).f3)) ∧ w'.cell? ⟨(ad123.add ((x5_2).toNat * 8)).block, (ad123.add ((x5_2).toNat * 8)).off + 4, none⟩ = some (.string ((rd_T27 l0_7 x5_2).f4)) ∧ w'.cell? ⟨(ad123.add ((x5_2).toNat * 8)).block, (ad123.add ((x5_2).toNat * 8)).off + 5, none⟩ = some (.string ((rd_T27 l0_7 x5_2).f5)) ∧ w'.cell? ⟨(ad123.add ((x5_2).toNat * 8)).block, (ad123.add ((x5_2).toNat * 8)).off + 6, none⟩ = some (.string ((rd_T27 l0_7 x5_2).f6)) ∧ w'.cell? ⟨(ad123.add ((x5_2).toNat * 8)).block, (ad123.add ((x5_2).toNat * 8)).off + 7, none⟩ = some (.slice A123_7 ((rd_T27 l0_7 x5_2).f7).length c123_7) ∧ w'.cell? (ad124.add ((x5_2).toNat * 8)) = some (.int .i64 ((rd_T27 l1_7 x5_2).f0)) ∧ w'.cell? ⟨(ad124.add ((x5_2).toNat * 8)).block, (ad124.add ((x5_2).toNat * 8)).off + 1, none⟩ = some (.int .i64 ((rd_T27 l1_7 x5_2).f1)) ∧ w'.cell? ⟨(ad124.add ((x5_2).toNat * 8)).block, (ad124.add ((x5_2).toNat * 8)).off + 2, none⟩ = some (.bool ((rd_T27 l1_7 x5_2).f2)) ∧ w'.cell? ⟨(ad124.add ((x5_2).toNat * 8)).block, (ad124.add ((x5_2).toNat * 8)).off + 3, none⟩ = some (.bool ((rd_T27 l1_7 x5_2).f3)) ∧ w'.cell? ⟨(ad124.add ((x5_2).toNat * 8)).block, (ad124.add ((x5_2).toNat * 8)).off + 4, none⟩ = some (.string ((rd_T27 l1_7 x5_2).f4)) ∧ w'.cell? ⟨(ad124.add ((x5_2).toNat * 8)).block, (ad124.add ((x5_2).toNat * 8)).off + 5, none⟩ = some (.string ((rd_T27 l1_7 x5_2).f5)) ∧ w'.cell? ⟨(ad124.add ((x5_2).toNat * 8)).block, (ad124.add ((x5_2).toNat * 8)).off + 6, none⟩ = some (.string ((rd_T27 l1_7 x5_2).f6)) ∧ w'.cell? ⟨(ad124.add ((x5_2).toNat * 8)).block, (ad124.add ((x5_2).toNat * 8)).off + 7, none⟩ = some (.slice A124_7 ((rd_T27 l1_7 x5_2).f7).length c124_7)) (ds := []) #[false, false, false, false, false, false, false, false, false, false, false, false] (by kernel_rfl) rfl rfl ⟨(blk_cell BK121.out 0).trans rfl, (blk_cell BK121.out 1).trans rfl, (blk_cell BK121.out 2).trans rfl, (blk_cell BK121.out 3).trans rfl, (blk_cell BK121.out 4).trans rfl, (blk_cell BK121.out 5).trans rfl, (blk_cell BK121.out 6).trans rfl, (blk_cell BK121.out 7).trans rfl, (blk_cell BK122.out 0).trans rfl, (blk_cell BK122.out 1).trans rfl, (blk_cell BK122.out 2).trans rfl, (blk_cell BK122.out 3).trans rfl, (blk_cell BK122.out 4).trans rfl, (blk_cell BK122.out 5).trans rfl, (blk_cell BK122.out 6).trans rfl, (blk_cell BK122.out 7).trans rfl, ((HB.out.cell (World.block_lt_of_cell? w _ hw123_0)).trans hw123_0), ((HB.out.cell (World.block_lt_of_cell? w _ hw123_1)).trans hw123_1), ((HB.out.cell (World.block_lt_of_cell? w _ hw123_2)).trans hw123_2), ((HB.out.cell (World.block_lt_of_cell? w _ hw123_3)).trans hw123_3), ((HB.out.cell (World.block_lt_of_cell? w _ hw123_4)).trans hw123_4), ((HB.out.cell (World.block_lt_of_cell? w _ hw123_5)).trans hw123_5), ((HB.out.cell (World.block_lt_of_cell? w _ hw123_6)).trans hw123_6), ((HB.out.cell (World.block_lt_of_cell? w _ hw123_7)).trans hw123_7), ((HB.out.cell (World.block_lt_of_cell? w _ hw124_0)).trans hw124_0), ((HB.out.cell (World.block_lt_of_cell? w _ hw124_1)).trans hw124_1), ((HB.out.cell (World.block_lt_of_cell? w _ hw124_2)).trans hw124_2), ((HB.out.cell (World.block_lt_of_cell? w _ hw124_3)).trans hw124_3), ((HB.out.cell (World.block_lt_of_cell? w _ hw124_4)).trans hw124_4), ((HB.out.cell (World.block_lt_of_cell? w _ hw124_5)).trans hw124_5), ((HB.out.cell (World.block_lt_of_cell? w _ hw124_6)).trans hw124_6), ((HB.out.cell (World.block_lt_of_cell? w _ hw124_7)).trans hw124_7)⟩ (fun hHeld => ?_); refine with_tabW rubricatorlaw19_same.tab6 rubricatorlaw19_same.bits6 (fun HT_ HW_ => ?_)
                    generalize wr.drew = w45 at BK121 BK122 HB HR123_7 HR124_7 hx123_0 hx123_1 hx123_2 hx123_3 hx123_4 hx123_5 hx123_6 hx123_7 hx124_0 hx124_1 hx124_2 hx124_3 hx124_4 hx124_5 hx124_6 hx124_7 hHeld ⊢
                    refine pure_ (i := 0) (N := some 69) (v := ?_) (a' := ?_) #[true, false, false, false, false, false, false, false, false, false, false, false] rfl rfl (any_of HT_.out (by kernel_rfl)) (fun _ _ _ h => h) (Or.inl ⟨by rfl, ?_⟩) ?_ ?_
                    rotate_left
                    · intro w'
                      go_simp
                      with_reducible rfl
                    rotate_left
                    · simp only [Act.put, List.setIfInBounds_toArray, List.set_cons_zero, List.set_cons_succ, i64_w, i32_w]
                      rfl
                    refine pure_ (i := 2) (N := some 71) (v := ?_) (a' := ?_) #[true, false, true, false, false, false, false, false, false, false, false, false] rfl rfl (any_of HT_.out (by kernel_rfl)) (fun _ _ _ h => h) (Or.inl ⟨by rfl, ?_⟩) ?_ ?_
                    rotate_left
                    · intro w'
                      go_simp
                      with_reducible rfl
                    rotate_left
                    · simp only [Act.put, List.setIfInBounds_toArray, List.set_cons_zero, List.set_cons_succ, i64_w, i32_w]
                      rfl
                    refine pure_ (i := 5) (N := some 74) (v := ?_) (a' := ?_) #[true, false, true, false, false, true, false, false, false, false, false, false] rfl rfl (any_of HT_.out (by kernel_rfl)) (fun _ _ _ h => h) (Or.inl ⟨by rfl, ?_⟩) ?_ ?_
                    rotate_left
                    · intro w'
                      go_simp
                      with_reducible rfl
                    rotate_left
                    · simp only [Act.put, List.setIfInBounds_toArray, List.set_cons_zero, List.set_cons_succ, i64_w, i32_w]
                      rfl
                    refine pure_ (i := 7) (N := some 76) (v := ?_) (a' := ?_) #[true, false, true, false, false, true, false, true, false, false, false, false] rfl rfl (any_of HT_.out (by kernel_rfl)) (fun _ _ _ h => h) (Or.inl ⟨by rfl, ?_⟩) ?_ ?_
                    rotate_left
                    · intro w'
                      go_simp
                      with_reducible rfl
                    rotate_left
                    · simp only [Act.put, List.setIfInBounds_toArray, List.set_cons_zero, List.set_cons_succ, i64_w, i32_w]
                      rfl
                    refine take_ (i := 1) (N := some 70) (v := ?_) (a' := ?_) #[true, true, true, false, false, true, false, true, false, false, false, false] rfl rfl (take_ofW HT_.out HW_.out (by kernel_rfl)) (fun _ _ _ h => h) (Or.inl ⟨by rfl, ?_⟩) hHeld ?_ ?_
                    rotate_left
                    · rintro w' ⟨s0, s1, s2, s3, s4, s5, s6, s7, s8, s9, s10, s11, s12, s13, s14, s15, s16, s17, s18, s19, s20, s21, s22, s23, s24, s25, s26, s27, s28, s29, s30, s31⟩
                      go_simp
                      with_reducible rfl
                    rotate_left
                    · simp only [Act.put, List.setIfInBounds_toArray, List.set_cons_zero, List.set_cons_succ, i64_w, i32_w]
                      rfl
                    refine pure_ (i := 3) (N := some 72) (v := ?_) (a' := ?_) #[true, true, true, true, false, true, false, true, false, false, false, false] rfl rfl (any_of HT_.out (by kernel_rfl)) (fun _ _ _ h => h) (Or.inl ⟨by rfl, ?_⟩) ?_ ?_
                    rotate_left
                    · intro w'
                      go_simp
                      with_reducible rfl
                    rotate_left
                    · simp only [Act.put, List.setIfInBounds_toArray, List.set_cons_zero, List.set_cons_succ, i64_w, i32_w]
                      rfl
                    refine take_ (i := 4) (N := some 73) (v := ?_) (a' := ?_) #[true, true, true, true, true, true, false, true, false, false, false, false] rfl rfl (take_ofW HT_.out HW_.out (by kernel_rfl)) (fun _ _ _ h => h) (Or.inl ⟨by rfl, ?_⟩) hHeld ?_ ?_
                    rotate_left
                    · rintro w' ⟨s0, s1, s2, s3, s4, s5, s6, s7, s8, s9, s10, s11, s12, s13, s14, s15, s16, s17, s18, s19, s20, s21, s22, s23, s24, s25, s26, s27, s28, s29, s30, s31⟩
                      go_simp
                      with_reducible rfl
                    rotate_left
                    · simp only [Act.put, List.setIfInBounds_toArray, List.set_cons_zero, List.set_cons_succ, i64_w, i32_w]
                      rfl
                    refine take_ (i := 6) (N := some 75) (v := ?_) (a' := ?_) #[true, true, true, true, true, true, true, true, false, false, false, false] rfl rfl (take_ofW HT_.out HW_.out (by kernel_rfl)) (fun _ _ _ h => h) (Or.inl ⟨by rfl, ?_⟩) hHeld ?_ ?_
                    rotate_left
                    · rintro w' ⟨s0, s1, s2, s3, s4, s5, s6, s7, s8, s9, s10, s11, s12, s13, s14, s15, s16, s17, s18, s19, s20, s21, s22, s23, s24, s25, s26, s27, s28, s29, s30, s31⟩
                      go_simp
                      with_reducible rfl
                    rotate_left
                    · simp only [Act.put, List.setIfInBounds_toArray, List.set_cons_zero, List.set_cons_succ, i64_w, i32_w]
                      rfl
                    refine pure_ (i := 8) (N := some 77) (v := ?_) (a' := ?_) #[true, true, true, true, true, true, true, true, true, false, false, false] rfl rfl (any_of HT_.out (by kernel_rfl)) (fun _ _ _ h => h) (Or.inl ⟨by rfl, ?_⟩) ?_ ?_
                    rotate_left
                    · intro w'
                      go_simp
                      with_reducible rfl
                    rotate_left
                    · simp only [Act.put, List.setIfInBounds_toArray, List.set_cons_zero, List.set_cons_succ, i64_w, i32_w]
                      rfl
                    refine take_ (i := 9) (N := some 78) (v := ?_) (a' := ?_) #[true, true, true, true, true, true, true, true, true, true, false, false] rfl rfl (take_ofW HT_.out HW_.out (by kernel_rfl)) (fun _ _ _ h => h) (Or.inl ⟨by rfl, ?_⟩) hHeld ?_ ?_
                    rotate_left
                    · rintro w' ⟨s0, s1, s2, s3, s4, s5, s6, s7, s8, s9, s10, s11, s12, s13, s14, s15, s16, s17, s18, s19, s20, s21, s22, s23, s24, s25, s26, s27, s28, s29, s30, s31⟩
                      go_simp
                      with_reducible rfl
                    rotate_left
                    · simp only [Act.put, List.setIfInBounds_toArray, List.set_cons_zero, List.set_cons_succ, i64_w, i32_w]
                      rfl
                    refine one_ (i := 10) (N := some 79) #[true, true, true, true, true, true, true, true, true, true, true, false] rfl rfl (one_of HT_.out (by kernel_rfl)) (by decide) (fun K hK => ?_)
                    refine goes_ Tryz.func15 (by kernel_rfl) rfl #[.agg #[.int .i64 ((rd_T27 l0_7 x5_2).f0), .int .i64 ((rd_T27 l0_7 x5_2).f1), .bool ((rd_T27 l0_7 x5_2).f2), .bool ((rd_T27 l0_7 x5_2).f3), .string ((rd_T27 l0_7 x5_2).f4), .string ((rd_T27 l0_7 x5_2).f5), .string ((rd_T27 l0_7 x5_2).f6), .slice A123_7 ((rd_T27 l0_7 x5_2).f7).length c123_7], .agg #[.int .i64 ((rd_T27 l1_7 x5_2).f0), .int .i64 ((rd_T27 l1_7 x5_2).f1), .bool ((rd_T27 l1_7 x5_2).f2), .bool ((rd_T27 l1_7 x5_2).f3), .string ((rd_T27 l1_7 x5_2).f4), .string ((rd_T27 l1_7 x5_2).f5), .string ((rd_T27 l1_7 x5_2).f6), .slice A124_7 ((rd_T27 l1_7 x5_2).f7).length c124_7]] (by rfl) rfl rfl (by (try simp only [List.map_toArray, List.map_cons, List.map_nil]); first | done | rfl | (simp only [List.length_drop, List.length_take]; rfl)) ?_
                    with_reducible refine (ih k2 (by have := HJ2.out; have := HK2.out; omega) ((rd_T27 l0_7 x5_2).f0) ((rd_T27 l0_7 x5_2).f1) ((rd_T27 l0_7 x5_2).f2) ((rd_T27 l0_7 x5_2).f3) ((rd_T27 l0_7 x5_2).f4) ((rd_T27 l0_7 x5_2).f5) ((rd_T27 l0_7 x5_2).f6) _ _ ((rd_T27 l0_7 x5_2).f7) ((rd_T27 l1_7 x5_2).f0) ((rd_T27 l1_7 x5_2).f1) ((rd_T27 l1_7 x5_2).f2) ((rd_T27 l1_7 x5_2).f3) ((rd_T27 l1_7 x5_2).f4) ((rd_T27 l1_7 x5_2).f5) ((rd_T27 l1_7 x5_2).f6) _ _ ((rd_T27 l1_7 x5_2).f7) true _ ?side1 ?side2 ?side3 ?side4 A41.out).mono ?_
                    (case side1 => repeat (first | exact (Kd.C_below HR123_7.out HB.out) | (with_reducible refine Kd.C_alloc ?_ _) | (with_reducible refine Kd.C_drewN ?_ _) | (with_reducible refine Kd.C_drew ?_)))
                    (case side2 => exact HC123_7.out)
                    (case side3 => repeat (first | exact (Kd.C_below HR124_7.out HB.out) | (with_reducible refine Kd.C_alloc ?_ _) | (with_reducible refine Kd.C_drewN ?_ _) | (with_reducible refine Kd.C_drew ?_)))
                    (case side4 => exact HC124_7.out)
                    rintro e w46 ⟨rfl, hb⟩
                    refine ⟨_, rfl, ?_⟩
                    have n0_ := Aside0.mk (blk_below (g := gb121) (o := .cells #[.int .i64 a0_0, .int .i64 a0_1, .bool a0_2, .bool a0_3, .string a0_4, .string a0_5, .string a0_6, .slice (some ad123) l0_7.length c0_7] 27 (0, 0)) (by (with_reducible repeat (first | refine blk_drewN ?_ _ | refine blk_drew ?_ | refine blk_alloc ?_ _)); exact BK121.out) hb)
                    have n1_ := Aside0.mk (blk_below (g := gb122) (o := .cells #[.int .i64 a1_0, .int .i64 a1_1, .bool a1_2, .bool a1_3, .string a1_4, .string a1_5, .string a1_6, .slice (some ad124) l1_7.length c1_7] 27 (0, 0)) (by (with_reducible repeat (first | refine blk_drewN ?_ _ | refine blk_drew ?_ | refine blk_alloc ?_ _)); exact BK122.out) hb)
                    have n2_ := Aside0.mk (below_step (by repeat (first | (with_reducible first | exact HB.out | apply below_alloc | apply pw_below_drewN | apply below_drew1 | refine below_set ?_ GE121.out | refine below_set ?_ GE122.out) | exact HB.out)) hb)
                    clear BK121
                    clear BK122
                    clear HB
                    have BK121 := n0_
                    have BK122 := n1_
                    have HB := n2_
                    clear n0_ n1_ n2_
                    (try clear hb)
                    (try clear hb2)
                    (try clear hk)
                    (try clear hi)
                    refine hK.out _ _ ⟨(blk_cell BK121.out 0).trans rfl, (blk_cell BK121.out 1).trans rfl, (blk_cell BK121.out 2).trans rfl, (blk_cell BK121.out 3).trans rfl, (blk_cell BK121.out 4).trans rfl, (blk_cell BK121.out 5).trans rfl, (blk_cell BK121.out 6).trans rfl, (blk_cell BK121.out 7).trans rfl, (blk_cell BK122.out 0).trans rfl, (blk_cell BK122.out 1).trans rfl, (blk_cell BK122.out 2).trans rfl, (blk_cell BK122.out 3).trans rfl, (blk_cell BK122.out 4).trans rfl, (blk_cell BK122.out 5).trans rfl, (blk_cell BK122.out 6).trans rfl, (blk_cell BK122.out 7).trans rfl, ((HB.out.cell (World.block_lt_of_cell? w _ hw123_0)).trans hw123_0), ((HB.out.cell (World.block_lt_of_cell? w _ hw123_1)).trans hw123_1), ((HB.out.cell (World.block_lt_of_cell? w _ hw123_2)).trans hw123_2), ((HB.out.cell (World.block_lt_of_cell? w _ hw123_3)).trans hw123_3), ((HB.out.cell (World.block_lt_of_cell? w _ hw123_4)).trans hw123_4), ((HB.out.cell (World.block_lt_of_cell? w _ hw123_5)).trans hw123_5), ((HB.out.cell (World.block_lt_of_cell? w _ hw123_6)).trans hw123_6), ((HB.out.cell (World.block_lt_of_cell? w _ hw123_7)).trans hw123_7), ((HB.out.cell (World.block_lt_of_cell? w _ hw124_0)).trans hw124_0), ((HB.out.cell (World.block_lt_of_cell? w _ hw124_1)).trans hw124_1), ((HB.out.cell (World.block_lt_of_cell? w _ hw124_2)).trans hw124_2), ((HB.out.cell (World.block_lt_of_cell? w _ hw124_3)).trans hw124_3), ((HB.out.cell (World.block_lt_of_cell? w _ hw124_4)).trans hw124_4), ((HB.out.cell (World.block_lt_of_cell? w _ hw124_5)).trans hw124_5), ((HB.out.cell (World.block_lt_of_cell? w _ hw124_6)).trans hw124_6), ((HB.out.cell (World.block_lt_of_cell? w _ hw124_7)).trans hw124_7)⟩ (fun hHeld => ?_)
                    clear hK K
                    refine norm_ (a' := ?_) ?_ ?_
                    rotate_left
                    · show Act.put _ (some 79) _ = _
                      simp only [Act.put, List.setIfInBounds_toArray, List.set_cons_zero, List.set_cons_succ, i64_w, i32_w]
                      rfl
                    refine pure_ (i := 11) (N := some 80) (v := ?_) (a' := ?_) #[true, true, true, true, true, true, true, true, true, true, true, true] rfl rfl (any_of HT_.out (by kernel_rfl)) (fun _ _ _ h => h) (Or.inl ⟨by rfl, ?_⟩) ?_ ?_
                    rotate_left
                    · intro w'
                      go_simp
                      with_reducible rfl
                    rotate_left
                    · simp only [Act.put, List.setIfInBounds_toArray, List.set_cons_zero, List.set_cons_succ, i64_w, i32_w]
                      rfl
                    refine done_ (done_of HT_.out (by kernel_rfl)) ?_
                    try go_wp2
                    go_roundg k2
                    case measure => have := HJ2.out; have := HK2.out; omega
                    case rel => exact ⟨(wrap64 (x5_2 + 1)), (by first | rfl | (simp; done) | (simp [*]; done)), H', ⟨by have := HJ2.out; have := HK2.out; omega⟩, ⟨by (with_reducible repeat (first | refine blk_drewN ?_ _ | refine blk_drew ?_ | refine blk_alloc ?_ _)); exact BK121.out⟩, ⟨by (with_reducible repeat (first | refine blk_drewN ?_ _ | refine blk_drew ?_ | refine blk_alloc ?_ _)); exact BK122.out⟩, ⟨by repeat (first | (with_reducible first | exact HB.out | apply below_alloc | apply pw_below_drewN | apply below_drew1 | refine below_set ?_ GE121.out | refine below_set ?_ GE122.out) | exact HB.out)⟩⟩
                  · replace c42 := Bool.eq_false_iff.mpr c42
                    subst c42
                    have H1 : (some false) = some r := by rw [if_neg (show ¬ (false = true) by decide)] at H; exact H
                    clear H
                    have H := H1
                    clear H1
                    obtain rfl := Option.some.inj H
                    have hnb47 := NB121_122.out
                    have hnc47 := NB122_121.out
                    have hcz48_0 : wr.cell? ⟨gb121, 0, none⟩ = some (.int .i64 a0_0) := (blk_cell BK121.out 0).trans rfl
                    have hcz48_1 : wr.cell? ⟨gb121, 1, none⟩ = some (.int .i64 a0_1) := (blk_cell BK121.out 1).trans rfl
                    have hcz48_2 : wr.cell? ⟨gb121, 2, none⟩ = some (.bool a0_2) := (blk_cell BK121.out 2).trans rfl
                    have hcz48_3 : wr.cell? ⟨gb121, 3, none⟩ = some (.bool a0_3) := (blk_cell BK121.out 3).trans rfl
                    have hcz48_4 : wr.cell? ⟨gb121, 4, none⟩ = some (.string a0_4) := (blk_cell BK121.out 4).trans rfl
                    have hcz48_5 : wr.cell? ⟨gb121, 5, none⟩ = some (.string a0_5) := (blk_cell BK121.out 5).trans rfl
                    have hcz48_6 : wr.cell? ⟨gb121, 6, none⟩ = some (.string a0_6) := (blk_cell BK121.out 6).trans rfl
                    have hcz48_7 : wr.cell? ⟨gb121, 7, none⟩ = some (.slice A0_7 l0_7.length c0_7) := (blk_cell BK121.out 7).trans rfl
                    have hfz48_0 := blk_frozen BK121.out 0
                    have hfz48_1 := blk_frozen BK121.out 1
                    have hfz48_2 := blk_frozen BK121.out 2
                    have hfz48_3 := blk_frozen BK121.out 3
                    have hfz48_4 := blk_frozen BK121.out 4
                    have hfz48_5 := blk_frozen BK121.out 5
                    have hfz48_6 := blk_frozen BK121.out 6
                    have hfz48_7 := blk_frozen BK121.out 7
                    try go_wp2
                    have n0_ := Aside0.mk (blk_drew BK121.out)
                    have n1_ := Aside0.mk (blk_drew BK122.out)
                    have n2_ := Aside0.mk (below_drew1 HB.out)
                    clear BK121
                    clear BK122
                    clear HB
                    have BK121 := n0_
                    have BK122 := n1_
                    have HB := n2_
                    clear n0_ n1_ n2_
                    have p123 : 0 ≤ (x5_2 : Int) := of_decide_eq_true (by first | (with_reducible assumption) | assumption)
                    have q123 : x5_2 < (l0_7.length : Int) := of_decide_eq_true (by first | (with_reducible assumption) | assumption)
                    obtain ⟨ad123, A123_7, c123_7, e123, hx123_0, hx123_1, hx123_2, hx123_3, hx123_4, hx123_5, hx123_6, hx123_7, hl123_7, hi123_7⟩ := at_T27 HR0_7.out x5_2 p123 q123
                    have hw123_7 := hx123_7
                    have hw123_6 := hx123_6
                    have hw123_5 := hx123_5
                    have hw123_4 := hx123_4
                    have hw123_3 := hx123_3
                    have hw123_2 := hx123_2
                    have hw123_1 := hx123_1
                    have hw123_0 := hx123_0
                    cases e123
                    replace hx123_0 := (HB.out.cell (World.block_lt_of_cell? w _ hx123_0)).trans hx123_0
                    replace hx123_1 := (HB.out.cell (World.block_lt_of_cell? w _ hx123_1)).trans hx123_1
                    replace hx123_2 := (HB.out.cell (World.block_lt_of_cell? w _ hx123_2)).trans hx123_2
                    replace hx123_3 := (HB.out.cell (World.block_lt_of_cell? w _ hx123_3)).trans hx123_3
                    replace hx123_4 := (HB.out.cell (World.block_lt_of_cell? w _ hx123_4)).trans hx123_4
                    replace hx123_5 := (HB.out.cell (World.block_lt_of_cell? w _ hx123_5)).trans hx123_5
                    replace hx123_6 := (HB.out.cell (World.block_lt_of_cell? w _ hx123_6)).trans hx123_6
                    replace hx123_7 := (HB.out.cell (World.block_lt_of_cell? w _ hx123_7)).trans hx123_7
                    have HR123_7 := Aside0.mk hi123_7
                    have HC123_7 := Aside0.mk hl123_7
                    clear hi123_7 hl123_7
                    replace p123 := eq_true p123
                    replace q123 := eq_true q123
                    have p124 : 0 ≤ (x5_2 : Int) := of_decide_eq_true (by first | (with_reducible assumption) | assumption)
                    have q124 : x5_2 < (l1_7.length : Int) := of_decide_eq_true (by first | (with_reducible assumption) | assumption)
                    obtain ⟨ad124, A124_7, c124_7, e124, hx124_0, hx124_1, hx124_2, hx124_3, hx124_4, hx124_5, hx124_6, hx124_7, hl124_7, hi124_7⟩ := at_T27 HR1_7.out x5_2 p124 q124
                    have hw124_7 := hx124_7
                    have hw124_6 := hx124_6
                    have hw124_5 := hx124_5
                    have hw124_4 := hx124_4
                    have hw124_3 := hx124_3
                    have hw124_2 := hx124_2
                    have hw124_1 := hx124_1
                    have hw124_0 := hx124_0
                    cases e124
                    replace hx124_0 := (HB.out.cell (World.block_lt_of_cell? w _ hx124_0)).trans hx124_0
                    replace hx124_1 := (HB.out.cell (World.block_lt_of_cell? w _ hx124_1)).trans hx124_1
                    replace hx124_2 := (HB.out.cell (World.block_lt_of_cell? w _ hx124_2)).trans hx124_2
                    replace hx124_3 := (HB.out.cell (World.block_lt_of_cell? w _ hx124_3)).trans hx124_3
                    replace hx124_4 := (HB.out.cell (World.block_lt_of_cell? w _ hx124_4)).trans hx124_4
                    replace hx124_5 := (HB.out.cell (World.block_lt_of_cell? w _ hx124_5)).trans hx124_5
                    replace hx124_6 := (HB.out.cell (World.block_lt_of_cell? w _ hx124_6)).trans hx124_6
                    replace hx124_7 := (HB.out.cell (World.block_lt_of_cell? w _ hx124_7)).trans hx124_7
                    have HR124_7 := Aside0.mk hi124_7
                    have HC124_7 := Aside0.mk hl124_7
                    clear hi124_7 hl124_7
                    replace p124 := eq_true p124
                    replace q124 := eq_true q124
                    refine start_ (n := 12) (S := fun w' => w'.cell? ⟨gb121, 0, none⟩ = some (.int .i64 a0_0) ∧ w'.cell? ⟨gb121, 1, none⟩ = some (.int .i64 a0_1) ∧ w'.cell? ⟨gb121, 2, none⟩ = some (.bool a0_2) ∧ w'.cell? ⟨gb121, 3, none⟩ = some (.bool a0_3) ∧ w'.cell? ⟨gb121, 4, none⟩ = some (.string a0_4) ∧ w'.cell? ⟨gb121, 5, none⟩ = some (.string a0_5) ∧ w'.cell? ⟨gb121, 6, none⟩ = some (.string a0_6) ∧ w'.cell? ⟨gb121, 7, none⟩ = some (.slice (some ad123) l0_7.length c0_7) ∧ w'.cell? ⟨gb122, 0, none⟩ = some (.int .i64 a1_0) ∧ w'.cell? ⟨gb122, 1, none⟩ = some (.int .i64 a1_1) ∧ w'.cell? ⟨gb122, 2, none⟩ = some (.bool a1_2) ∧ w'.cell? ⟨gb122, 3, none⟩ = some (.bool a1_3) ∧ w'.cell? ⟨gb122, 4, none⟩ = some (.string a1_4) ∧ w'.cell? ⟨gb122, 5, none⟩ = some (.string a1_5) ∧ w'.cell? ⟨gb122, 6, none⟩ = some (.string a1_6) ∧ w'.cell? ⟨gb122, 7, none⟩ = some (.slice (some ad124) l1_7.length c1_7) ∧ w'.cell? (ad123.add ((x5_2).toNat * 8)) = some (.int .i64 ((rd_T27 l0_7 x5_2).f0)) ∧ w'.cell? ⟨(ad123.add ((x5_2).toNat * 8)).block, (ad123.add ((x5_2).toNat * 8)).off + 1, none⟩ = some (.int .i64 ((rd_T27 l0_7 x5_2).f1)) ∧ w'.cell? ⟨(ad123.add ((x5_2).toNat * 8)).block, (ad123.add ((x5_2).toNat * 8)).off + 2, none⟩ = some (.bool ((rd_T27 l0_7 x5_2).f2)) ∧ w'.cell? ⟨(ad123.add ((x5_2).toNat * 8)).block, (ad123.add ((x5_2).toNat * 8)).off + 3, none⟩ = some (.bool ((rd_T27 l0_7 x5_2).f3)) ∧ w'.cell? ⟨(ad123.add ((x5_2).toNat * 8)).block, (ad123.add ((x5_2).toNat * 8)).off + 4, none⟩ = some (.string ((rd_T27 l0_7 x5_2).f4)) ∧ w'.cell? ⟨(ad123.add ((x5_2).toNat * 8)).block, (ad123.add ((x5_2).toNat * 8)).off + 5, none⟩ = some (.string ((rd_T27 l0_7 x5_2).f5)) ∧ w'.cell? ⟨(ad123.add ((x5_2).toNat * 8)).block, (ad123.add ((x5_2).toNat * 8)).off + 6, none⟩ = some (.string ((rd_T27 l0_7 x5_2).f6)) ∧ w'.cell? ⟨(ad123.add ((x5_2).toNat * 8)).block, (ad123.add ((x5_2).toNat * 8)).off + 7, none⟩ = some (.slice A123_7 ((rd_T27 l0_7 x5_2).f7).length c123_7) ∧ w'.cell? (ad124.add ((x5_2).toNat * 8)) = some (.int .i64 ((rd_T27 l1_7 x5_2).f0)) ∧ w'.cell? ⟨(ad124.add ((x5_2).toNat * 8)).block, (ad124.add ((x5_2).toNat * 8)).off + 1, none⟩ = some (.int .i64 ((rd_T27 l1_7 x5_2).f1)) ∧ w'.cell? ⟨(ad124.add ((x5_2).toNat * 8)).block, (ad124.add ((x5_2).toNat * 8)).off + 2, none⟩ = some (.bool ((rd_T27 l1_7 x5_2).f2)) ∧ w'.cell? ⟨(ad124.add ((x5_2).toNat * 8)).block, (ad124.add ((x5_2).toNat * 8)).off + 3, none⟩ = some (.bool ((rd_T27 l1_7 x5_2).f3)) ∧ w'.cell? ⟨(ad124.add ((x5_2).toNat * 8)).block, (ad124.add ((x5_2).toNat * 8)).off + 4, none⟩ = some (.string ((rd_T27 l1_7 x5_2).f4)) ∧ w'.cell? ⟨(ad124.add ((x5_2).toNat * 8)).block, (ad124.add ((x5_2).toNat * 8)).off + 5, none⟩ = some (.string ((rd_T27 l1_7 x5_2).f5)) ∧ w'.cell? ⟨(ad124.add ((x5_2).toNat * 8)).block, (ad124.add ((x5_2).toNat * 8)).off + 6, none⟩ = some (.string ((rd_T27 l1_7 x5_2).f6)) ∧ w'.cell? ⟨(ad124.add ((x5_2).toNat * 8)).block, (ad124.add ((x5_2).toNat * 8)).off + 7, none⟩ = some (.slice A124_7 ((rd_T27 l1_7 x5_2).f7).length c124_7)) (ds := []) #[false, false, false, false, false, false, false, false, false, false, false, false] (by kernel_rfl) rfl rfl ⟨(blk_cell BK121.out 0).trans rfl, (blk_cell BK121.out 1).trans rfl, (blk_cell BK121.out 2).trans rfl, (blk_cell BK121.out 3).trans rfl, (blk_cell BK121.out 4).trans rfl, (blk_cell BK121.out 5).trans rfl, (blk_cell BK121.out 6).trans rfl, (blk_cell BK121.out 7).trans rfl, (blk_cell BK122.out 0).trans rfl, (blk_cell BK122.out 1).trans rfl, (blk_cell BK122.out 2).trans rfl, (blk_cell BK122.out 3).trans rfl, (blk_cell BK122.out 4).trans rfl, (blk_cell BK122.out 5).trans rfl, (blk_cell BK122.out 6).trans rfl, (blk_cell BK122.out 7).trans rfl, ((HB.out.cell (World.block_lt_of_cell? w _ hw123_0)).trans hw123_0), ((HB.out.cell (World.block_lt_of_cell? w _ hw123_1)).trans hw123_1), ((HB.out.cell (World.block_lt_of_cell? w _ hw123_2)).trans hw123_2), ((HB.out.cell (World.block_lt_of_cell? w _ hw123_3)).trans hw123_3), ((HB.out.cell (World.block_lt_of_cell? w _ hw123_4)).trans hw123_4), ((HB.out.cell (World.block_lt_of_cell? w _ hw123_5)).trans hw123_5), ((HB.out.cell (World.block_lt_of_cell? w _ hw123_6)).trans hw123_6), ((HB.out.cell (World.block_lt_of_cell? w _ hw123_7)).trans hw123_7), ((HB.out.cell (World.block_lt_of_cell? w _ hw124_0)).trans hw124_0), ((HB.out.cell (World.block_lt_of_cell? w _ hw124_1)).trans hw124_1), ((HB.out.cell (World.block_lt_of_cell? w _ hw124_2)).trans hw124_2), ((HB.out.cell (World.block_lt_of_cell? w _ hw124_3)).trans hw124_3), ((HB.out.cell (World.block_lt_of_cell? w _ hw124_4)).trans hw124_4), ((HB.out.cell (World.block_lt_of_cell? w _ hw124_5)).trans hw124_5), ((HB.out.cell (World.block_lt_of_cell? w _ hw124_6)).trans hw124_6), ((HB.out.cell (World.block_lt_of_cell? w _ hw124_7)).trans hw124_7)⟩ (fun hHeld => ?_); refine with_tabW rubricatorlaw19_same.tab6 rubricatorlaw19_same.bits6 (fun HT_ HW_ => ?_)
                    generalize wr.drew = w49 at BK121 BK122 HB HR123_7 HR124_7 hx123_0 hx123_1 hx123_2 hx123_3 hx123_4 hx123_5 hx123_6 hx123_7 hx124_0 hx124_1 hx124_2 hx124_3 hx124_4 hx124_5 hx124_6 hx124_7 hHeld ⊢
                    refine pure_ (i := 0) (N := some 69) (v := ?_) (a' := ?_) #[true, false, false, false, false, false, false, false, false, false, false, false] rfl rfl (any_of HT_.out (by kernel_rfl)) (fun _ _ _ h => h) (Or.inl ⟨by rfl, ?_⟩) ?_ ?_
                    rotate_left
                    · intro w'
                      go_simp
                      with_reducible rfl
                    rotate_left
                    · simp only [Act.put, List.setIfInBounds_toArray, List.set_cons_zero, List.set_cons_succ, i64_w, i32_w]
                      rfl
                    refine pure_ (i := 2) (N := some 71) (v := ?_) (a' := ?_) #[true, false, true, false, false, false, false, false, false, false, false, false] rfl rfl (any_of HT_.out (by kernel_rfl)) (fun _ _ _ h => h) (Or.inl ⟨by rfl, ?_⟩) ?_ ?_
                    rotate_left
                    · intro w'
                      go_simp
                      with_reducible rfl
                    rotate_left
                    · simp only [Act.put, List.setIfInBounds_toArray, List.set_cons_zero, List.set_cons_succ, i64_w, i32_w]
                      rfl
                    refine pure_ (i := 5) (N := some 74) (v := ?_) (a' := ?_) #[true, false, true, false, false, true, false, false, false, false, false, false] rfl rfl (any_of HT_.out (by kernel_rfl)) (fun _ _ _ h => h) (Or.inl ⟨by rfl, ?_⟩) ?_ ?_
                    rotate_left
                    · intro w'
                      go_simp
                      with_reducible rfl
                    rotate_left
                    · simp only [Act.put, List.setIfInBounds_toArray, List.set_cons_zero, List.set_cons_succ, i64_w, i32_w]
                      rfl
                    refine pure_ (i := 7) (N := some 76) (v := ?_) (a' := ?_) #[true, false, true, false, false, true, false, true, false, false, false, false] rfl rfl (any_of HT_.out (by kernel_rfl)) (fun _ _ _ h => h) (Or.inl ⟨by rfl, ?_⟩) ?_ ?_
                    rotate_left
                    · intro w'
                      go_simp
                      with_reducible rfl
                    rotate_left
                    · simp only [Act.put, List.setIfInBounds_toArray, List.set_cons_zero, List.set_cons_succ, i64_w, i32_w]
                      rfl
                    refine take_ (i := 1) (N := some 70) (v := ?_) (a' := ?_) #[true, true, true, false, false, true, false, true, false, false, false, false] rfl rfl (take_ofW HT_.out HW_.out (by kernel_rfl)) (fun _ _ _ h => h) (Or.inl ⟨by rfl, ?_⟩) hHeld ?_ ?_
                    rotate_left
                    · rintro w' ⟨s0, s1, s2, s3, s4, s5, s6, s7, s8, s9, s10, s11, s12, s13, s14, s15, s16, s17, s18, s19, s20, s21, s22, s23, s24, s25, s26, s27, s28, s29, s30, s31⟩
                      go_simp
                      with_reducible rfl
                    rotate_left
                    · simp only [Act.put, List.setIfInBounds_toArray, List.set_cons_zero, List.set_cons_succ, i64_w, i32_w]
                      rfl
                    refine pure_ (i := 3) (N := some 72) (v := ?_) (a' := ?_) #[true, true, true, true, false, true, false, true, false, false, false, false] rfl rfl (any_of HT_.out (by kernel_rfl)) (fun _ _ _ h => h) (Or.inl ⟨by rfl, ?_⟩) ?_ ?_
                    rotate_left
                    · intro w'
                      go_simp
                      with_reducible rfl
                    rotate_left
                    · simp only [Act.put, List.setIfInBounds_toArray, List.set_cons_zero, List.set_cons_succ, i64_w, i32_w]
                      rfl
                    refine take_ (i := 4) (N := some 73) (v := ?_) (a' := ?_) #[true, true, true, true, true, true, false, true, false, false, false, false] rfl rfl (take_ofW HT_.out HW_.out (by kernel_rfl)) (fun _ _ _ h => h) (Or.inl ⟨by rfl, ?_⟩) hHeld ?_ ?_
                    rotate_left
                    · rintro w' ⟨s0, s1, s2, s3, s4, s5, s6, s7, s8, s9, s10, s11, s12, s13, s14, s15, s16, s17, s18, s19, s20, s21, s22, s23, s24, s25, s26, s27, s28, s29, s30, s31⟩
                      go_simp
                      with_reducible rfl
                    rotate_left
                    · simp only [Act.put, List.setIfInBounds_toArray, List.set_cons_zero, List.set_cons_succ, i64_w, i32_w]
                      rfl
                    refine take_ (i := 6) (N := some 75) (v := ?_) (a' := ?_) #[true, true, true, true, true, true, true, true, false, false, false, false] rfl rfl (take_ofW HT_.out HW_.out (by kernel_rfl)) (fun _ _ _ h => h) (Or.inl ⟨by rfl, ?_⟩) hHeld ?_ ?_
                    rotate_left
                    · rintro w' ⟨s0, s1, s2, s3, s4, s5, s6, s7, s8, s9, s10, s11, s12, s13, s14, s15, s16, s17, s18, s19, s20, s21, s22, s23, s24, s25, s26, s27, s28, s29, s30, s31⟩
                      go_simp
                      with_reducible rfl
                    rotate_left
                    · simp only [Act.put, List.setIfInBounds_toArray, List.set_cons_zero, List.set_cons_succ, i64_w, i32_w]
                      rfl
                    refine pure_ (i := 8) (N := some 77) (v := ?_) (a' := ?_) #[true, true, true, true, true, true, true, true, true, false, false, false] rfl rfl (any_of HT_.out (by kernel_rfl)) (fun _ _ _ h => h) (Or.inl ⟨by rfl, ?_⟩) ?_ ?_
                    rotate_left
                    · intro w'
                      go_simp
                      with_reducible rfl
                    rotate_left
                    · simp only [Act.put, List.setIfInBounds_toArray, List.set_cons_zero, List.set_cons_succ, i64_w, i32_w]
                      rfl
                    refine take_ (i := 9) (N := some 78) (v := ?_) (a' := ?_) #[true, true, true, true, true, true, true, true, true, true, false, false] rfl rfl (take_ofW HT_.out HW_.out (by kernel_rfl)) (fun _ _ _ h => h) (Or.inl ⟨by rfl, ?_⟩) hHeld ?_ ?_
                    rotate_left
                    · rintro w' ⟨s0, s1, s2, s3, s4, s5, s6, s7, s8, s9, s10, s11, s12, s13, s14, s15, s16, s17, s18, s19, s20, s21, s22, s23, s24, s25, s26, s27, s28, s29, s30, s31⟩
                      go_simp
                      with_reducible rfl
                    rotate_left
                    · simp only [Act.put, List.setIfInBounds_toArray, List.set_cons_zero, List.set_cons_succ, i64_w, i32_w]
                      rfl
                    refine one_ (i := 10) (N := some 79) #[true, true, true, true, true, true, true, true, true, true, true, false] rfl rfl (one_of HT_.out (by kernel_rfl)) (by decide) (fun K hK => ?_)
                    refine goes_ Tryz.func15 (by kernel_rfl) rfl #[.agg #[.int .i64 ((rd_T27 l0_7 x5_2).f0), .int .i64 ((rd_T27 l0_7 x5_2).f1), .bool ((rd_T27 l0_7 x5_2).f2), .bool ((rd_T27 l0_7 x5_2).f3), .string ((rd_T27 l0_7 x5_2).f4), .string ((rd_T27 l0_7 x5_2).f5), .string ((rd_T27 l0_7 x5_2).f6), .slice A123_7 ((rd_T27 l0_7 x5_2).f7).length c123_7], .agg #[.int .i64 ((rd_T27 l1_7 x5_2).f0), .int .i64 ((rd_T27 l1_7 x5_2).f1), .bool ((rd_T27 l1_7 x5_2).f2), .bool ((rd_T27 l1_7 x5_2).f3), .string ((rd_T27 l1_7 x5_2).f4), .string ((rd_T27 l1_7 x5_2).f5), .string ((rd_T27 l1_7 x5_2).f6), .slice A124_7 ((rd_T27 l1_7 x5_2).f7).length c124_7]] (by rfl) rfl rfl (by (try simp only [List.map_toArray, List.map_cons, List.map_nil]); first | done | rfl | (simp only [List.length_drop, List.length_take]; rfl)) ?_
                    with_reducible refine (ih k2 (by have := HJ2.out; have := HK2.out; omega) ((rd_T27 l0_7 x5_2).f0) ((rd_T27 l0_7 x5_2).f1) ((rd_T27 l0_7 x5_2).f2) ((rd_T27 l0_7 x5_2).f3) ((rd_T27 l0_7 x5_2).f4) ((rd_T27 l0_7 x5_2).f5) ((rd_T27 l0_7 x5_2).f6) _ _ ((rd_T27 l0_7 x5_2).f7) ((rd_T27 l1_7 x5_2).f0) ((rd_T27 l1_7 x5_2).f1) ((rd_T27 l1_7 x5_2).f2) ((rd_T27 l1_7 x5_2).f3) ((rd_T27 l1_7 x5_2).f4) ((rd_T27 l1_7 x5_2).f5) ((rd_T27 l1_7 x5_2).f6) _ _ ((rd_T27 l1_7 x5_2).f7) false _ ?side1 ?side2 ?side3 ?side4 A41.out).mono ?_
                    (case side1 => repeat (first | exact (Kd.C_below HR123_7.out HB.out) | (with_reducible refine Kd.C_alloc ?_ _) | (with_reducible refine Kd.C_drewN ?_ _) | (with_reducible refine Kd.C_drew ?_)))
                    (case side2 => exact HC123_7.out)
                    (case side3 => repeat (first | exact (Kd.C_below HR124_7.out HB.out) | (with_reducible refine Kd.C_alloc ?_ _) | (with_reducible refine Kd.C_drewN ?_ _) | (with_reducible refine Kd.C_drew ?_)))
                    (case side4 => exact HC124_7.out)
                    rintro e w50 ⟨rfl, hb⟩
                    refine ⟨_, rfl, ?_⟩
                    have n0_ := Aside0.mk (blk_below (g := gb121) (o := .cells #[.int .i64 a0_0, .int .i64 a0_1, .bool a0_2, .bool a0_3, .string a0_4, .string a0_5, .string a0_6, .slice (some ad123) l0_7.length c0_7] 27 (0, 0)) (by (with_reducible repeat (first | refine blk_drewN ?_ _ | refine blk_drew ?_ | refine blk_alloc ?_ _)); exact BK121.out) hb)
                    have n1_ := Aside0.mk (blk_below (g := gb122) (o := .cells #[.int .i64 a1_0, .int .i64 a1_1, .bool a1_2, .bool a1_3, .string a1_4, .string a1_5, .string a1_6, .slice (some ad124) l1_7.length c1_7] 27 (0, 0)) (by (with_reducible repeat (first | refine blk_drewN ?_ _ | refine blk_drew ?_ | refine blk_alloc ?_ _)); exact BK122.out) hb)
                    have n2_ := Aside0.mk (below_step (by repeat (first | (with_reducible first | exact HB.out | apply below_alloc | apply pw_below_drewN | apply below_drew1 | refine below_set ?_ GE121.out | refine below_set ?_ GE122.out) | exact HB.out)) hb)
                    clear BK121
                    clear BK122
                    clear HB
                    have BK121 := n0_
                    have BK122 := n1_
                    have HB := n2_
                    clear n0_ n1_ n2_
                    (try clear hb)
                    (try clear hb2)
                    (try clear hk)
                    (try clear hi)
                    refine hK.out _ _ ⟨(blk_cell BK121.out 0).trans rfl, (blk_cell BK121.out 1).trans rfl, (blk_cell BK121.out 2).trans rfl, (blk_cell BK121.out 3).trans rfl, (blk_cell BK121.out 4).trans rfl, (blk_cell BK121.out 5).trans rfl, (blk_cell BK121.out 6).trans rfl, (blk_cell BK121.out 7).trans rfl, (blk_cell BK122.out 0).trans rfl, (blk_cell BK122.out 1).trans rfl, (blk_cell BK122.out 2).trans rfl, (blk_cell BK122.out 3).trans rfl, (blk_cell BK122.out 4).trans rfl, (blk_cell BK122.out 5).trans rfl, (blk_cell BK122.out 6).trans rfl, (blk_cell BK122.out 7).trans rfl, ((HB.out.cell (World.block_lt_of_cell? w _ hw123_0)).trans hw123_0), ((HB.out.cell (World.block_lt_of_cell? w _ hw123_1)).trans hw123_1), ((HB.out.cell (World.block_lt_of_cell? w _ hw123_2)).trans hw123_2), ((HB.out.cell (World.block_lt_of_cell? w _ hw123_3)).trans hw123_3), ((HB.out.cell (World.block_lt_of_cell? w _ hw123_4)).trans hw123_4), ((HB.out.cell (World.block_lt_of_cell? w _ hw123_5)).trans hw123_5), ((HB.out.cell (World.block_lt_of_cell? w _ hw123_6)).trans hw123_6), ((HB.out.cell (World.block_lt_of_cell? w _ hw123_7)).trans hw123_7), ((HB.out.cell (World.block_lt_of_cell? w _ hw124_0)).trans hw124_0), ((HB.out.cell (World.block_lt_of_cell? w _ hw124_1)).trans hw124_1), ((HB.out.cell (World.block_lt_of_cell? w _ hw124_2)).trans hw124_2), ((HB.out.cell (World.block_lt_of_cell? w _ hw124_3)).trans hw124_3), ((HB.out.cell (World.block_lt_of_cell? w _ hw124_4)).trans hw124_4), ((HB.out.cell (World.block_lt_of_cell? w _ hw124_5)).trans hw124_5), ((HB.out.cell (World.block_lt_of_cell? w _ hw124_6)).trans hw124_6), ((HB.out.cell (World.block_lt_of_cell? w _ hw124_7)).trans hw124_7)⟩ (fun hHeld => ?_)
                    clear hK K
                    refine norm_ (a' := ?_) ?_ ?_
                    rotate_left
                    · show Act.put _ (some 79) _ = _
                      simp only [Act.put, List.setIfInBounds_toArray, List.set_cons_zero, List.set_cons_succ, i64_w, i32_w]
                      rfl
                    refine pure_ (i := 11) (N := some 80) (v := ?_) (a' := ?_) #[true, true, true, true, true, true, true, true, true, true, true, true] rfl rfl (any_of HT_.out (by kernel_rfl)) (fun _ _ _ h => h) (Or.inl ⟨by rfl, ?_⟩) ?_ ?_
                    rotate_left
                    · intro w'
                      go_simp
                      with_reducible rfl
                    rotate_left
                    · simp only [Act.put, List.setIfInBounds_toArray, List.set_cons_zero, List.set_cons_succ, i64_w, i32_w]
                      rfl
                    refine done_ (done_of HT_.out (by kernel_rfl)) ?_
                    try go_wp2
                    go_ret
                    exact ⟨by first | rfl | (simp [errW_none, errW_some] <;> rfl) | (simp [*, errW_none, errW_some] <;> rfl), by repeat (first | (with_reducible first | exact HB.out | apply below_alloc | apply pw_below_drewN | apply below_drew1 | refine below_set ?_ GE121.out | refine below_set ?_ GE122.out) | exact HB.out)⟩
                · rw [if_neg c40] at H
                  exact absurd H (by simp)
              · rw [if_neg c39] at H
                exact absurd H (by simp)
            · rw [if_neg c38] at H
              have c38b0 : decide (x5_2 < (l0_7.length : Int)) = false := decide_eq_false c38
              clear c38
              obtain rfl := Option.some.inj H
              have hnb51 := NB121_122.out
              have hnc51 := NB122_121.out
              have hcz52_0 : wr.cell? ⟨gb121, 0, none⟩ = some (.int .i64 a0_0) := (blk_cell BK121.out 0).trans rfl
              have hcz52_1 : wr.cell? ⟨gb121, 1, none⟩ = some (.int .i64 a0_1) := (blk_cell BK121.out 1).trans rfl
              have hcz52_2 : wr.cell? ⟨gb121, 2, none⟩ = some (.bool a0_2) := (blk_cell BK121.out 2).trans rfl
              have hcz52_3 : wr.cell? ⟨gb121, 3, none⟩ = some (.bool a0_3) := (blk_cell BK121.out 3).trans rfl
              have hcz52_4 : wr.cell? ⟨gb121, 4, none⟩ = some (.string a0_4) := (blk_cell BK121.out 4).trans rfl
              have hcz52_5 : wr.cell? ⟨gb121, 5, none⟩ = some (.string a0_5) := (blk_cell BK121.out 5).trans rfl
              have hcz52_6 : wr.cell? ⟨gb121, 6, none⟩ = some (.string a0_6) := (blk_cell BK121.out 6).trans rfl
              have hcz52_7 : wr.cell? ⟨gb121, 7, none⟩ = some (.slice A0_7 l0_7.length c0_7) := (blk_cell BK121.out 7).trans rfl
              have hfz52_0 := blk_frozen BK121.out 0
              have hfz52_1 := blk_frozen BK121.out 1
              have hfz52_2 := blk_frozen BK121.out 2
              have hfz52_3 := blk_frozen BK121.out 3
              have hfz52_4 := blk_frozen BK121.out 4
              have hfz52_5 := blk_frozen BK121.out 5
              have hfz52_6 := blk_frozen BK121.out 6
              have hfz52_7 := blk_frozen BK121.out 7
              go_wp2
              go_ret
              exact ⟨by first | rfl | (simp [errW_none, errW_some] <;> rfl) | (simp [*, errW_none, errW_some] <;> rfl), by repeat (first | (with_reducible first | exact HB.out | apply below_alloc | apply pw_below_drewN | apply below_drew1 | refine below_set ?_ GE121.out | refine below_set ?_ GE122.out) | exact HB.out)⟩
end Go.Proofs.YtpimcdkhjingjaaGreatDoor.PBlk
