/- A merged text (wip/mkclaim.py). -/
import Derived.Lib.Hide
import Derived.Test.YtpimcdkhjingjaaGreatDoorRCJ
import Derived.Test.YtpimcdkhjingjaaGreatDoorRCP
set_option linter.unusedVariables false
set_option linter.unusedSimpArgs false
set_option linter.unusedSectionVars false
namespace Go.Proofs.YtpimcdkhjingjaaGreatDoor.PBlk
open Go.RowKit Go.Proofs.YtpimcdkhjingjaaGreatDoorW.PrintWords Go.Proofs.YtpimcdkhjingjaaGreatDoorW.PrintLast Go.Proofs.YtpimcdkhjingjaaGreatDoorW.PrintMore Go.Proofs.YtpimcdkhjingjaaGreatDoor.X
attribute [local go_sem] max2_int min2_int max_two min_two max_three min_three max_four min_four
set_option linter.unusedVariables false
set_option linter.unusedSimpArgs false
def rubricatorlaw19_known.f  : Option (Bool) := (block_Parse.f (([(⟨#[45, 32, 97]⟩ : ByteArray), (⟨#[]⟩ : ByteArray), (⟨#[32, 32, 98]⟩ : ByteArray)] : List ByteArray))).bind fun bt104 => (if bt104.1 = 1 then (if (bt104.2.2.2.2.2.2.2.length : Int) = 1 then (if 0 < (bt104.2.2.2.2.2.2.2.length : Int) then (if ((rd_T27 bt104.2.2.2.2.2.2.2 0).f0) = 7 then (if ((rd_T27 bt104.2.2.2.2.2.2.2 0).f3 = true) then (some false) else (if (((rd_T27 bt104.2.2.2.2.2.2.2 0).f7).length : Int) = 1 then (if 0 < (((rd_T27 bt104.2.2.2.2.2.2.2 0).f7).length : Int) then (some ((((rd_T27 ((rd_T27 bt104.2.2.2.2.2.2.2 0).f7) 0).f7).length : Int) == 2)) else (none)) else (some false))) else (some false)) else (none)) else (some false)) else (some false))
set_option maxHeartbeats 8000000 in
set_option maxRecDepth 100000 in
theorem rubricatorlaw19_known.callsT  (r : Bool) (w : World) (hG : GL w) (h : rubricatorlaw19_known.f  = some r) (hr : Hid (r = true)) :
    Calls Tryz.prog 17 #[] w fun e w' => e = .returned (.bool r) ∧ Below w.heap.size w w' := by
  have hu27 := Tryz.underlying27
  have HB := Aside0.mk (Below.refl w.heap.size w)
  have H : ((block_Parse.f (([(⟨#[45, 32, 97]⟩ : ByteArray), (⟨#[]⟩ : ByteArray), (⟨#[32, 32, 98]⟩ : ByteArray)] : List ByteArray))).bind fun bt104 => (if bt104.1 = 1 then (if (bt104.2.2.2.2.2.2.2.length : Int) = 1 then (if 0 < (bt104.2.2.2.2.2.2.2.length : Int) then (if ((rd_T27 bt104.2.2.2.2.2.2.2 0).f0) = 7 then (if ((rd_T27 bt104.2.2.2.2.2.2.2 0).f3 = true) then (some false) else (if (((rd_T27 bt104.2.2.2.2.2.2.2 0).f7).length : Int) = 1 then (if 0 < (((rd_T27 bt104.2.2.2.2.2.2.2 0).f7).length : Int) then (some ((((rd_T27 ((rd_T27 bt104.2.2.2.2.2.2.2 0).f7) 0).f7).length : Int) == 2)) else (none)) else (some false))) else (some false)) else (none)) else (some false)) else (some false))) = some r := h
  clear h
  obtain ⟨y101, hy101⟩ : ∃ y_ : List ByteArray, y_ = (([(⟨#[45, 32, 97]⟩ : ByteArray), (⟨#[]⟩ : ByteArray), (⟨#[32, 32, 98]⟩ : ByteArray)] : List ByteArray)) := ⟨_, rfl⟩
  replace H : ((block_Parse.f y101).bind fun bt104 => (if bt104.1 = 1 then (if (bt104.2.2.2.2.2.2.2.length : Int) = 1 then (if 0 < (bt104.2.2.2.2.2.2.2.length : Int) then (if ((rd_T27 bt104.2.2.2.2.2.2.2 0).f0) = 7 then (if ((rd_T27 bt104.2.2.2.2.2.2.2 0).f3 = true) then (some false) else (if (((rd_T27 bt104.2.2.2.2.2.2.2 0).f7).length : Int) = 1 then (if 0 < (((rd_T27 bt104.2.2.2.2.2.2.2 0).f7).length : Int) then (some ((((rd_T27 ((rd_T27 bt104.2.2.2.2.2.2.2 0).f7) 0).f7).length : Int) == 2)) else (none)) else (some false))) else (some false)) else (none)) else (some false)) else (some false))) = some r := by first | (rw [hy101]; with_reducible exact H) | (have H2_ := (Option.bind_some _ _).symm.trans H; rw [hy101]; with_reducible exact H2_) | (have H2_ := (Option.bind_some _ _).symm.trans H; with_reducible exact H2_) | with_reducible exact H | (rw [hy101]; exact H) | exact H
  have Ny101 := Aside0.mk hy101
  clear hy101
  replace H := Option.bind_eq_some_iff.mp H
  obtain ⟨⟨t104, t105, t106, t107, t108, t109, t110, t111⟩, A10, H⟩ := H
  replace H : (if t104 = 1 then (if (t111.length : Int) = 1 then (if 0 < (t111.length : Int) then (if ((rd_T27 t111 0).f0) = 7 then (if ((rd_T27 t111 0).f3 = true) then (some false) else (if (((rd_T27 t111 0).f7).length : Int) = 1 then (if 0 < (((rd_T27 t111 0).f7).length : Int) then (some ((((rd_T27 ((rd_T27 t111 0).f7) 0).f7).length : Int) == 2)) else (none)) else (some false))) else (some false)) else (none)) else (some false)) else (some false)) = some r := H
  have A1 := Aside0.mk A10
  clear A10
  by_cases c2 : t104 = 1
  · rw [if_pos c2] at H
    have c2b0 : (t104 == 1) = true := beq_iff_eq.mpr c2
    have c2b1 : (t104 != 1) = false := bne_eq_false_iff_eq.mpr c2
    clear c2
    by_cases c3 : (t111.length : Int) = 1
    · rw [if_pos c3] at H
      have c3b0 : ((t111.length : Int) == 1) = true := beq_iff_eq.mpr c3
      have c3b1 : ((t111.length : Int) != 1) = false := bne_eq_false_iff_eq.mpr c3
      clear c3
      by_cases c4 : 0 < (t111.length : Int)
      · rw [if_pos c4] at H
        have c4b0 : decide (0 < (t111.length : Int)) = true := decide_eq_true c4
        have c4b1 : decide (0 < t111.length) = true := decide_eq_true (by omega)
        clear c4
        by_cases c5 : ((rd_T27 t111 0).f0) = 7
        · rw [if_pos c5] at H
          have c5b0 : (((rd_T27 t111 0).f0) == 7) = true := beq_iff_eq.mpr c5
          have c5b1 : (((rd_T27 t111 0).f0) != 7) = false := bne_eq_false_iff_eq.mpr c5
          clear c5
          obtain ⟨bq6, hbq6⟩ : ∃ b_ : Bool, b_ = ((rd_T27 t111 0).f3) := ⟨_, rfl⟩
          replace H : (if (bq6 = true) then (some false) else (if (((rd_T27 t111 0).f7).length : Int) = 1 then (if 0 < (((rd_T27 t111 0).f7).length : Int) then (some ((((rd_T27 ((rd_T27 t111 0).f7) 0).f7).length : Int) == 2)) else (none)) else (some false))) = some r := by rw [← hbq6] at H; exact H
          have Nbq6 := Aside0.mk hbq6
          clear hbq6
          by_cases c7 : (bq6 = true)
          · subst c7
            have H1 : (some false) = some r := by rw [if_pos rfl] at H; exact H
            clear H
            have H := H1
            clear H1
            exact absurd (Option.some.inj H) (by rw [hr.out]; decide)
          · replace c7 := Bool.eq_false_iff.mpr c7
            subst c7
            have H1 : (if (((rd_T27 t111 0).f7).length : Int) = 1 then (if 0 < (((rd_T27 t111 0).f7).length : Int) then (some ((((rd_T27 ((rd_T27 t111 0).f7) 0).f7).length : Int) == 2)) else (none)) else (some false)) = some r := by rw [if_neg (show ¬ (false = true) by decide)] at H; exact H
            clear H
            have H := H1
            clear H1
            by_cases c17 : (((rd_T27 t111 0).f7).length : Int) = 1
            · rw [if_pos c17] at H
              have c17b0 : ((((rd_T27 t111 0).f7).length : Int) == 1) = true := beq_iff_eq.mpr c17
              have c17b1 : ((((rd_T27 t111 0).f7).length : Int) != 1) = false := bne_eq_false_iff_eq.mpr c17
              clear c17
              by_cases c18 : 0 < (((rd_T27 t111 0).f7).length : Int)
              · rw [if_pos c18] at H
                have c18b0 : decide (0 < (((rd_T27 t111 0).f7).length : Int)) = true := decide_eq_true c18
                have c18b1 : decide (0 < ((rd_T27 t111 0).f7).length) = true := decide_eq_true (by omega)
                clear c18
                obtain rfl := Option.some.inj H
                go_enter Tryz.func17, Tryz.ntmps17
                go_wp2_with (first | ((with_reducible refine gate_dst (N := 2) rfl ?_); (try (refine gate_guard (by rfl) ?_; dsimp only)); refine Kd.R_lit Kd.string _ 9 ?hg (N := 2) ?hd (xs := ([(⟨#[45, 32, 97]⟩ : ByteArray), (⟨#[]⟩ : ByteArray), (⟨#[32, 32, 98]⟩ : ByteArray)] : List ByteArray)) (inner := [.string (⟨#[45, 32, 97]⟩ : ByteArray), .string (⟨#[]⟩ : ByteArray), .string (⟨#[32, 32, 98]⟩ : ByteArray)]) (ok := fun _ => True) (okp := fun _ => True) ?hr ?hp (fun _ hk => hk) trivial (Below.refl _ _) (Nat.le_refl _) (by simp) ?_; (case hd => rfl); (case hg => rfl); (case hr => first | (go_simp; done) | (go_simp; rfl)); (case hp => exact (Reps.one (show Kd.M Kd.string _ _ _ (⟨#[45, 32, 97]⟩ : ByteArray) [.string (⟨#[45, 32, 97]⟩ : ByteArray)] from rfl) (Reps.one (show Kd.M Kd.string _ _ _ (⟨#[]⟩ : ByteArray) [.string (⟨#[]⟩ : ByteArray)] from rfl) (Reps.one (show Kd.M Kd.string _ _ _ (⟨#[32, 32, 98]⟩ : ByteArray) [.string (⟨#[32, 32, 98]⟩ : ByteArray)] from rfl) (Reps.none _ _))))); intro v102 w19 ho20 hb hg_ hnew_; clear hg_ hnew_; (first | rw [← Ny101.out] at ho20 | (simp only [Int.reduceToNat] at ho20; rw [← Ny101.out] at ho20)); have n0_ := Aside0.mk (Kd.R_lower ho20 (below_size (by repeat (first | (with_reducible first | exact HB.out | apply below_alloc | apply pw_below_drewN | apply below_drew1) | exact HB.out)))); have n1_ := Aside0.mk (below_step (by repeat (first | (with_reducible first | exact HB.out | apply below_alloc | apply pw_below_drewN | apply below_drew1) | exact HB.out)) hb); clear HB; have HO103 := n0_; have HB := n1_; clear n0_ n1_; clear hb ho20; obtain ⟨Ao21, co21, eo21⟩ := Kd.R_slice HO103.out; subst eo21) | ((with_reducible refine gate_callee (f := 14) rfl ?_); refine goesL_ (some 3) rfl rfl Tryz.func14 (by kernel_rfl) rfl #[.slice Ao21 y101.length co21] rfl (by (try simp only [List.map_toArray, List.map_cons, List.map_nil]); first | done | rfl | (simp only [List.length_drop, List.length_take]; rfl)) ?_; (with_reducible refine (block_Parse.calls _ _ y101 t104 t105 t106 t107 t108 t109 t110 t111 _ ?side1 ?side2 ?side3 A1.out).mono ?_); (case side1 => first | (with_reducible exact hG) | (refine GL.below hG ?_; (repeat (first | (with_reducible first | exact HB.out | apply below_alloc | apply pw_below_drewN | apply below_drew1) | exact HB.out)); done) | (refine GL.drawn hG ?_; (repeat (first | exact Drawn0.refl _ | apply Drawn0.step)); done) | exact hG); (case side2 => repeat (first | exact (Kd.R_reads' HO103.out).2.2 | (with_reducible refine Kd.C_alloc ?_ _) | (with_reducible refine Kd.C_drewN ?_ _) | (with_reducible refine Kd.C_drew ?_))); (case side3 => exact (Kd.R_reads' HO103.out).2.1); rintro e w22 ⟨v112, rfl, ho0, hb⟩; refine ⟨_, rfl, ?_⟩; have n0_ := Aside0.mk (Kd.R_below (by (with_reducible repeat (first | apply Kd.R_alloc | apply Kd.R_drewN | apply Kd.R_drew)); exact HO103.out) hb); have n1_ := Aside0.mk (Kd.R_lower ho0 (below_size (by repeat (first | (with_reducible first | exact HB.out | apply below_alloc | apply pw_below_drewN | apply below_drew1) | exact HB.out)))); have n2_ := Aside0.mk (below_step (by repeat (first | (with_reducible first | exact HB.out | apply below_alloc | apply pw_below_drewN | apply below_drew1) | exact HB.out)) hb); clear HO103; clear HB; have HO103 := n0_; have HO113 := n1_; have HB := n2_; clear n0_ n1_ n2_; (try clear hb); (try clear hb2); (try clear hk); (try clear hi); (try clear ho0)) | ((with_reducible refine gate_dst (N := 1) rfl ?_); (try (refine gate_guard (by rfl) ?_; dsimp only)); refine box_event ?hg (N := 1) ?hd (cs := #[.int .i64 0, .int .i64 0, .bool false, .bool false, .string (⟨#[]⟩ : ByteArray), .string (⟨#[]⟩ : ByteArray), .string (⟨#[]⟩ : ByteArray), .slice none 0 0]) (t := 27) ?hr ?_; (case hd => rfl); (case hg => rfl); (case hr => first | (go_simp; done) | (go_simp; rfl)); intro gb114 hg w23 hbox hb; have n0_ := Aside0.mk (Kd.R_below (by (with_reducible repeat (first | apply Kd.R_alloc | apply Kd.R_drewN | apply Kd.R_drew)); exact HO103.out) hb); have n1_ := Aside0.mk (Kd.R_below (Kd.R_elderB (by (with_reducible repeat (first | apply Kd.R_alloc | apply Kd.R_drewN | apply Kd.R_drew)); exact HO113.out) gb114 (Nat.le_of_eq hg.symm)) hb); have n2_ := Aside0.mk (below_step (by repeat (first | (with_reducible first | exact HB.out | apply below_alloc | apply pw_below_drewN | apply below_drew1) | exact HB.out)) hb); have n3_ := Aside0.mk (hbox); have n4_ := Aside0.mk ((by rw [hg]; exact (below_size (by repeat (first | (with_reducible first | exact HB.out | apply below_alloc | apply pw_below_drewN | apply below_drew1) | exact HB.out))) : w.heap.size ≤ gb114)); have n5_ := Aside0.mk ((by rw [hg]; exact (below_size (by repeat (first | (with_reducible first | exact HB.out | apply below_alloc | apply pw_below_drewN | apply below_drew1) | exact HB.out))) : w.heap.size ≤ gb114)); clear HO103; clear HO113; clear HB; have HO103 := n0_; have HO113 := n1_; have HB := n2_; have BK114 := n3_; have GW114 := n4_; have GE114 := n5_; clear n0_ n1_ n2_ n3_ n4_ n5_; clear hb hbox hg; have hcz24_0 : w23.cell? ⟨gb114, 0, none⟩ = some (.int .i64 0) := (blk_cell BK114.out 0).trans rfl; have hcz24_1 : w23.cell? ⟨gb114, 1, none⟩ = some (.int .i64 0) := (blk_cell BK114.out 1).trans rfl; have hcz24_2 : w23.cell? ⟨gb114, 2, none⟩ = some (.bool false) := (blk_cell BK114.out 2).trans rfl; have hcz24_3 : w23.cell? ⟨gb114, 3, none⟩ = some (.bool false) := (blk_cell BK114.out 3).trans rfl; have hcz24_4 : w23.cell? ⟨gb114, 4, none⟩ = some (.string (⟨#[]⟩ : ByteArray)) := (blk_cell BK114.out 4).trans rfl; have hcz24_5 : w23.cell? ⟨gb114, 5, none⟩ = some (.string (⟨#[]⟩ : ByteArray)) := (blk_cell BK114.out 5).trans rfl; have hcz24_6 : w23.cell? ⟨gb114, 6, none⟩ = some (.string (⟨#[]⟩ : ByteArray)) := (blk_cell BK114.out 6).trans rfl; have hcz24_7 : w23.cell? ⟨gb114, 7, none⟩ = some (.slice none 0 0) := (blk_cell BK114.out 7).trans rfl; have hfz24_0 := blk_frozen BK114.out 0; have hfz24_1 := blk_frozen BK114.out 1; have hfz24_2 := blk_frozen BK114.out 2; have hfz24_3 := blk_frozen BK114.out 3; have hfz24_4 := blk_frozen BK114.out 4; have hfz24_5 := blk_frozen BK114.out 5; have hfz24_6 := blk_frozen BK114.out 6; have hfz24_7 := blk_frozen BK114.out 7; obtain ⟨Ao25, co25, eo25⟩ := Kd.R_slice HO113.out; subst eo25) | ((with_reducible refine gate_store (t := 27) (p := 1) rfl ?_); refine store_event (t := 27) (p := 1) (v := ?vo_w26) (w1 := ((((((((w23.setCell ⟨gb114, 0, none⟩ (.int .i64 t104)).setCell ⟨gb114, 1, none⟩ (.int .i64 t105)).setCell ⟨gb114, 2, none⟩ (.bool t106)).setCell ⟨gb114, 3, none⟩ (.bool t107)).setCell ⟨gb114, 4, none⟩ (.string t108)).setCell ⟨gb114, 5, none⟩ (.string t109)).setCell ⟨gb114, 6, none⟩ (.string t110)).setCell ⟨gb114, 7, none⟩ (.slice Ao25 t111.length co25))) ?hg ?ho ?hn ?hr ?_; (case ho => rfl); (case hg => rfl); (case hn => rfl); (case hr => first | (go_simp; done) | (go_simp; rfl)); intro w26 hw; have n0_ : Aside0 (Kd.R Kd.string 9 w26 w.heap.size (fun _ => True) (.slice Ao21 y101.length co21) y101) := ⟨(by rw [hw]; exact (by (with_reducible repeat (first | apply Kd.R_alloc | apply Kd.R_drewN | apply Kd.R_drew)); exact Kd.R_mono (Kd.R_far (p := ⟨gb114, 7, none⟩) (Kd.R_far (p := ⟨gb114, 6, none⟩) (Kd.R_far (p := ⟨gb114, 5, none⟩) (Kd.R_far (p := ⟨gb114, 4, none⟩) (Kd.R_far (p := ⟨gb114, 3, none⟩) (Kd.R_far (p := ⟨gb114, 2, none⟩) (Kd.R_far (p := ⟨gb114, 1, none⟩) (Kd.R_far (p := ⟨gb114, 0, none⟩) (Kd.R_types HO103.out BK114.out (by decide)) (fun _ hk => hk.2) (.int .i64 t104)) (fun _ hk => hk.2) (.int .i64 t105)) (fun _ hk => hk.2) (.bool t106)) (fun _ hk => hk.2) (.bool t107)) (fun _ hk => hk.2) (.string t108)) (fun _ hk => hk.2) (.string t109)) (fun _ hk => hk.2) (.string t110)) (fun _ hk => hk.2) (.slice Ao25 t111.length co25)) (fun _ hk => trivial)))⟩; have n1_ : Aside0 (Kd.R k27 27 w26 w.heap.size (fun k_ => k_ ≠ gb114) (.slice Ao25 t111.length co25) t111) := ⟨(by rw [hw]; exact (by (with_reducible repeat (first | apply Kd.R_alloc | apply Kd.R_drewN | apply Kd.R_drew)); exact Kd.R_mono (Kd.R_far (p := ⟨gb114, 7, none⟩) (Kd.R_far (p := ⟨gb114, 6, none⟩) (Kd.R_far (p := ⟨gb114, 5, none⟩) (Kd.R_far (p := ⟨gb114, 4, none⟩) (Kd.R_far (p := ⟨gb114, 3, none⟩) (Kd.R_far (p := ⟨gb114, 2, none⟩) (Kd.R_far (p := ⟨gb114, 1, none⟩) (Kd.R_far (p := ⟨gb114, 0, none⟩) (Kd.R_mono HO113.out (fun k_ hk => (⟨hk, hk.2⟩ : _ ∧ k_ ≠ gb114))) (fun _ hk => hk.2) (.int .i64 t104)) (fun _ hk => hk.2) (.int .i64 t105)) (fun _ hk => hk.2) (.bool t106)) (fun _ hk => hk.2) (.bool t107)) (fun _ hk => hk.2) (.string t108)) (fun _ hk => hk.2) (.string t109)) (fun _ hk => hk.2) (.string t110)) (fun _ hk => hk.2) (.slice Ao25 t111.length co25)) (fun _ hk => hk.1.2)))⟩; have n2_ : Aside0 (w26.heap[gb114]? = some (.cells #[.int .i64 t104, .int .i64 t105, .bool t106, .bool t107, .string t108, .string t109, .string t110, .slice Ao25 t111.length co25] 27 (0, 0))) := ⟨(by rw [hw]; exact (by (with_reducible repeat (first | refine blk_drewN ?_ _ | refine blk_drew ?_ | refine blk_alloc ?_ _)); refine blk_put (cs := #[.int .i64 t104, .int .i64 t105, .bool t106, .bool t107, .string t108, .string t109, .string t110, .slice none 0 0]) ?_ 7 _ rfl; (with_reducible repeat (first | refine blk_drewN ?_ _ | refine blk_drew ?_ | refine blk_alloc ?_ _)); refine blk_put (cs := #[.int .i64 t104, .int .i64 t105, .bool t106, .bool t107, .string t108, .string t109, .string (⟨#[]⟩ : ByteArray), .slice none 0 0]) ?_ 6 _ rfl; (with_reducible repeat (first | refine blk_drewN ?_ _ | refine blk_drew ?_ | refine blk_alloc ?_ _)); refine blk_put (cs := #[.int .i64 t104, .int .i64 t105, .bool t106, .bool t107, .string t108, .string (⟨#[]⟩ : ByteArray), .string (⟨#[]⟩ : ByteArray), .slice none 0 0]) ?_ 5 _ rfl; (with_reducible repeat (first | refine blk_drewN ?_ _ | refine blk_drew ?_ | refine blk_alloc ?_ _)); refine blk_put (cs := #[.int .i64 t104, .int .i64 t105, .bool t106, .bool t107, .string (⟨#[]⟩ : ByteArray), .string (⟨#[]⟩ : ByteArray), .string (⟨#[]⟩ : ByteArray), .slice none 0 0]) ?_ 4 _ rfl; (with_reducible repeat (first | refine blk_drewN ?_ _ | refine blk_drew ?_ | refine blk_alloc ?_ _)); refine blk_put (cs := #[.int .i64 t104, .int .i64 t105, .bool t106, .bool false, .string (⟨#[]⟩ : ByteArray), .string (⟨#[]⟩ : ByteArray), .string (⟨#[]⟩ : ByteArray), .slice none 0 0]) ?_ 3 _ rfl; (with_reducible repeat (first | refine blk_drewN ?_ _ | refine blk_drew ?_ | refine blk_alloc ?_ _)); refine blk_put (cs := #[.int .i64 t104, .int .i64 t105, .bool false, .bool false, .string (⟨#[]⟩ : ByteArray), .string (⟨#[]⟩ : ByteArray), .string (⟨#[]⟩ : ByteArray), .slice none 0 0]) ?_ 2 _ rfl; (with_reducible repeat (first | refine blk_drewN ?_ _ | refine blk_drew ?_ | refine blk_alloc ?_ _)); refine blk_put (cs := #[.int .i64 t104, .int .i64 0, .bool false, .bool false, .string (⟨#[]⟩ : ByteArray), .string (⟨#[]⟩ : ByteArray), .string (⟨#[]⟩ : ByteArray), .slice none 0 0]) ?_ 1 _ rfl; (with_reducible repeat (first | refine blk_drewN ?_ _ | refine blk_drew ?_ | refine blk_alloc ?_ _)); refine blk_put (cs := #[.int .i64 0, .int .i64 0, .bool false, .bool false, .string (⟨#[]⟩ : ByteArray), .string (⟨#[]⟩ : ByteArray), .string (⟨#[]⟩ : ByteArray), .slice none 0 0]) ?_ 0 _ rfl; (with_reducible repeat (first | refine blk_drewN ?_ _ | refine blk_drew ?_ | refine blk_alloc ?_ _)); exact BK114.out))⟩; have n3_ : Aside0 (Below w.heap.size w w26) := ⟨(by rw [hw]; exact (by repeat (first | (with_reducible first | exact HB.out | apply below_alloc | apply pw_below_drewN | apply below_drew1 | refine below_set ?_ GE114.out) | exact HB.out)))⟩; clear hw; clear HO103; clear HO113; clear BK114; clear HB; have HO103 := n0_; have HO113 := n1_; have BK114 := n2_; have HB := n3_; clear n0_ n1_ n2_ n3_; have hcz27_0 : w26.cell? ⟨gb114, 0, none⟩ = some (.int .i64 t104) := (blk_cell BK114.out 0).trans rfl; have hcz27_1 : w26.cell? ⟨gb114, 1, none⟩ = some (.int .i64 t105) := (blk_cell BK114.out 1).trans rfl; have hcz27_2 : w26.cell? ⟨gb114, 2, none⟩ = some (.bool t106) := (blk_cell BK114.out 2).trans rfl; have hcz27_3 : w26.cell? ⟨gb114, 3, none⟩ = some (.bool t107) := (blk_cell BK114.out 3).trans rfl; have hcz27_4 : w26.cell? ⟨gb114, 4, none⟩ = some (.string t108) := (blk_cell BK114.out 4).trans rfl; have hcz27_5 : w26.cell? ⟨gb114, 5, none⟩ = some (.string t109) := (blk_cell BK114.out 5).trans rfl; have hcz27_6 : w26.cell? ⟨gb114, 6, none⟩ = some (.string t110) := (blk_cell BK114.out 6).trans rfl; have hcz27_7 : w26.cell? ⟨gb114, 7, none⟩ = some (.slice Ao25 t111.length co25) := (blk_cell BK114.out 7).trans rfl; have hfz27_0 := blk_frozen BK114.out 0; have hfz27_1 := blk_frozen BK114.out 1; have hfz27_2 := blk_frozen BK114.out 2; have hfz27_3 := blk_frozen BK114.out 3; have hfz27_4 := blk_frozen BK114.out 4; have hfz27_5 := blk_frozen BK114.out 5; have hfz27_6 := blk_frozen BK114.out 6; have hfz27_7 := blk_frozen BK114.out 7; have p115 : 0 ≤ (0 : Int) := (by omega); have q115 : 0 < (t111.length : Int) := of_decide_eq_true (by first | (with_reducible assumption) | assumption); obtain ⟨ad115, A115_7, c115_7, e115, hx115_0, hx115_1, hx115_2, hx115_3, hx115_4, hx115_5, hx115_6, hx115_7, hl115_7, hi115_7⟩ := at_T27 (Kd.R_reads' HO113.out).2.2 0 p115 q115; (try rw [← Nbq6.out] at hx115_2); (try rw [← Nbq6.out] at hx115_3); cases e115; obtain ⟨ce115, hce115, hMe115, hcc115⟩ := Kd.R_get HO113.out z27 0 p115 (by first | exact q115 | exact of_decide_eq_true (by first | (with_reducible assumption) | assumption) | (have e_ := (Kd.R_reads' HO113.out).1; omega)); obtain ⟨ve115_7, rfl, ge115_7⟩ := k27_openM hMe115; have hv115_7 := hcc115 7 _ rfl; rw [add_field _ _ 7 (by omega)] at hv115_7; replace hv115_7 := Option.some.inj (hv115_7.symm.trans hx115_7); rw [hv115_7] at ge115_7; have HL115_7 := Aside0.mk (show Kd.R k27 27 _ _ _ _ ((rd_T27 t111 0).f7) from ge115_7); clear hv115_7 ge115_7; clear hcc115 hce115; have qi115 : (0 < t111.length) = True := eq_true (by omega); (try rw [show ((0 : Int)).toNat = 0 from rfl] at hx115_0); (try rw [show 0 * 8 = 0 from rfl] at hx115_0); (try rw [Addr.add_zero'] at hx115_0); (try rw [show ((0 : Int)).toNat = 0 from rfl] at hx115_1); (try rw [show 0 * 8 = 0 from rfl] at hx115_1); (try rw [Addr.add_zero'] at hx115_1); (try rw [show ((0 : Int)).toNat = 0 from rfl] at hx115_2); (try rw [show 0 * 8 = 0 from rfl] at hx115_2); (try rw [Addr.add_zero'] at hx115_2); (try rw [show ((0 : Int)).toNat = 0 from rfl] at hx115_3); (try rw [show 0 * 8 = 0 from rfl] at hx115_3); (try rw [Addr.add_zero'] at hx115_3); (try rw [show ((0 : Int)).toNat = 0 from rfl] at hx115_4); (try rw [show 0 * 8 = 0 from rfl] at hx115_4); (try rw [Addr.add_zero'] at hx115_4); (try rw [show ((0 : Int)).toNat = 0 from rfl] at hx115_5); (try rw [show 0 * 8 = 0 from rfl] at hx115_5); (try rw [Addr.add_zero'] at hx115_5); (try rw [show ((0 : Int)).toNat = 0 from rfl] at hx115_6); (try rw [show 0 * 8 = 0 from rfl] at hx115_6); (try rw [Addr.add_zero'] at hx115_6); (try rw [show ((0 : Int)).toNat = 0 from rfl] at hx115_7); (try rw [show 0 * 8 = 0 from rfl] at hx115_7); (try rw [Addr.add_zero'] at hx115_7); have HR115_7 := Aside0.mk hi115_7; have HC115_7 := Aside0.mk hl115_7; clear hi115_7 hl115_7; replace p115 := eq_true p115; replace q115 := eq_true q115; have p116 : 0 ≤ (0 : Int) := (by omega); have q116 : 0 < (t111.length : Int) := of_decide_eq_true (by first | (with_reducible assumption) | assumption); obtain ⟨ad116, A116_7, c116_7, e116, hx116_0, hx116_1, hx116_2, hx116_3, hx116_4, hx116_5, hx116_6, hx116_7, hl116_7, hi116_7⟩ := at_T27 (Kd.R_reads' HO113.out).2.2 0 p116 q116; (try rw [← Nbq6.out] at hx116_2); (try rw [← Nbq6.out] at hx116_3); obtain rfl : ad115 = ad116 := (by injection e116); obtain ⟨ce116, hce116, hMe116, hcc116⟩ := Kd.R_get HO113.out z27 0 p116 (by first | exact q116 | exact of_decide_eq_true (by first | (with_reducible assumption) | assumption) | (have e_ := (Kd.R_reads' HO113.out).1; omega)); obtain ⟨ve116_7, rfl, ge116_7⟩ := k27_openM hMe116; have hv116_7 := hcc116 7 _ rfl; rw [add_field _ _ 7 (by omega)] at hv116_7; replace hv116_7 := Option.some.inj (hv116_7.symm.trans hx116_7); rw [hv116_7] at ge116_7; have HL116_7 := Aside0.mk (show Kd.R k27 27 _ _ _ _ ((rd_T27 t111 0).f7) from ge116_7); clear hv116_7 ge116_7; clear hcc116 hce116; have qi116 : (0 < t111.length) = True := eq_true (by omega); (try rw [show ((0 : Int)).toNat = 0 from rfl] at hx116_0); (try rw [show 0 * 8 = 0 from rfl] at hx116_0); (try rw [Addr.add_zero'] at hx116_0); (try rw [show ((0 : Int)).toNat = 0 from rfl] at hx116_1); (try rw [show 0 * 8 = 0 from rfl] at hx116_1); (try rw [Addr.add_zero'] at hx116_1); (try rw [show ((0 : Int)).toNat = 0 from rfl] at hx116_2); (try rw [show 0 * 8 = 0 from rfl] at hx116_2); (try rw [Addr.add_zero'] at hx116_2); (try rw [show ((0 : Int)).toNat = 0 from rfl] at hx116_3); (try rw [show 0 * 8 = 0 from rfl] at hx116_3); (try rw [Addr.add_zero'] at hx116_3); (try rw [show ((0 : Int)).toNat = 0 from rfl] at hx116_4); (try rw [show 0 * 8 = 0 from rfl] at hx116_4); (try rw [Addr.add_zero'] at hx116_4); (try rw [show ((0 : Int)).toNat = 0 from rfl] at hx116_5); (try rw [show 0 * 8 = 0 from rfl] at hx116_5); (try rw [Addr.add_zero'] at hx116_5); (try rw [show ((0 : Int)).toNat = 0 from rfl] at hx116_6); (try rw [show 0 * 8 = 0 from rfl] at hx116_6); (try rw [Addr.add_zero'] at hx116_6); (try rw [show ((0 : Int)).toNat = 0 from rfl] at hx116_7); (try rw [show 0 * 8 = 0 from rfl] at hx116_7); (try rw [Addr.add_zero'] at hx116_7); have HR116_7 := Aside0.mk hi116_7; have HC116_7 := Aside0.mk hl116_7; clear hi116_7 hl116_7; replace p116 := eq_true p116; replace q116 := eq_true q116; have ea_ := Option.some.inj (hx115_7.symm.trans hx116_7); injection ea_ with ea_ en_ ec_; subst ea_; subst ec_; clear en_; have p117 : 0 ≤ (0 : Int) := (by omega); have q117 : 0 < (t111.length : Int) := of_decide_eq_true (by first | (with_reducible assumption) | assumption); obtain ⟨ad117, A117_7, c117_7, e117, hx117_0, hx117_1, hx117_2, hx117_3, hx117_4, hx117_5, hx117_6, hx117_7, hl117_7, hi117_7⟩ := at_T27 (Kd.R_reads' HO113.out).2.2 0 p117 q117; (try rw [← Nbq6.out] at hx117_2); (try rw [← Nbq6.out] at hx117_3); obtain rfl : ad115 = ad117 := (by injection e117); obtain ⟨ce117, hce117, hMe117, hcc117⟩ := Kd.R_get HO113.out z27 0 p117 (by first | exact q117 | exact of_decide_eq_true (by first | (with_reducible assumption) | assumption) | (have e_ := (Kd.R_reads' HO113.out).1; omega)); obtain ⟨ve117_7, rfl, ge117_7⟩ := k27_openM hMe117; have hv117_7 := hcc117 7 _ rfl; rw [add_field _ _ 7 (by omega)] at hv117_7; replace hv117_7 := Option.some.inj (hv117_7.symm.trans hx117_7); rw [hv117_7] at ge117_7; have HL117_7 := Aside0.mk (show Kd.R k27 27 _ _ _ _ ((rd_T27 t111 0).f7) from ge117_7); clear hv117_7 ge117_7; clear hcc117 hce117; have qi117 : (0 < t111.length) = True := eq_true (by omega); (try rw [show ((0 : Int)).toNat = 0 from rfl] at hx117_0); (try rw [show 0 * 8 = 0 from rfl] at hx117_0); (try rw [Addr.add_zero'] at hx117_0); (try rw [show ((0 : Int)).toNat = 0 from rfl] at hx117_1); (try rw [show 0 * 8 = 0 from rfl] at hx117_1); (try rw [Addr.add_zero'] at hx117_1); (try rw [show ((0 : Int)).toNat = 0 from rfl] at hx117_2); (try rw [show 0 * 8 = 0 from rfl] at hx117_2); (try rw [Addr.add_zero'] at hx117_2); (try rw [show ((0 : Int)).toNat = 0 from rfl] at hx117_3); (try rw [show 0 * 8 = 0 from rfl] at hx117_3); (try rw [Addr.add_zero'] at hx117_3); (try rw [show ((0 : Int)).toNat = 0 from rfl] at hx117_4); (try rw [show 0 * 8 = 0 from rfl] at hx117_4); (try rw [Addr.add_zero'] at hx117_4); (try rw [show ((0 : Int)).toNat = 0 from rfl] at hx117_5); (try rw [show 0 * 8 = 0 from rfl] at hx117_5); (try rw [Addr.add_zero'] at hx117_5); (try rw [show ((0 : Int)).toNat = 0 from rfl] at hx117_6); (try rw [show 0 * 8 = 0 from rfl] at hx117_6); (try rw [Addr.add_zero'] at hx117_6); (try rw [show ((0 : Int)).toNat = 0 from rfl] at hx117_7); (try rw [show 0 * 8 = 0 from rfl] at hx117_7); (try rw [Addr.add_zero'] at hx117_7); have HR117_7 := Aside0.mk hi117_7; have HC117_7 := Aside0.mk hl117_7; clear hi117_7 hl117_7; replace p117 := eq_true p117; replace q117 := eq_true q117; have ea_ := Option.some.inj (hx115_7.symm.trans hx117_7); injection ea_ with ea_ en_ ec_; subst ea_; subst ec_; clear en_; have p118 : 0 ≤ (0 : Int) := (by omega); have q118 : 0 < (t111.length : Int) := of_decide_eq_true (by first | (with_reducible assumption) | assumption); obtain ⟨ad118, A118_7, c118_7, e118, hx118_0, hx118_1, hx118_2, hx118_3, hx118_4, hx118_5, hx118_6, hx118_7, hl118_7, hi118_7⟩ := at_T27 (Kd.R_reads' HO113.out).2.2 0 p118 q118; (try rw [← Nbq6.out] at hx118_2); (try rw [← Nbq6.out] at hx118_3); obtain rfl : ad115 = ad118 := (by injection e118); obtain ⟨ce118, hce118, hMe118, hcc118⟩ := Kd.R_get HO113.out z27 0 p118 (by first | exact q118 | exact of_decide_eq_true (by first | (with_reducible assumption) | assumption) | (have e_ := (Kd.R_reads' HO113.out).1; omega)); obtain ⟨ve118_7, rfl, ge118_7⟩ := k27_openM hMe118; have hv118_7 := hcc118 7 _ rfl; rw [add_field _ _ 7 (by omega)] at hv118_7; replace hv118_7 := Option.some.inj (hv118_7.symm.trans hx118_7); rw [hv118_7] at ge118_7; have HL118_7 := Aside0.mk (show Kd.R k27 27 _ _ _ _ ((rd_T27 t111 0).f7) from ge118_7); clear hv118_7 ge118_7; clear hcc118 hce118; have qi118 : (0 < t111.length) = True := eq_true (by omega); (try rw [show ((0 : Int)).toNat = 0 from rfl] at hx118_0); (try rw [show 0 * 8 = 0 from rfl] at hx118_0); (try rw [Addr.add_zero'] at hx118_0); (try rw [show ((0 : Int)).toNat = 0 from rfl] at hx118_1); (try rw [show 0 * 8 = 0 from rfl] at hx118_1); (try rw [Addr.add_zero'] at hx118_1); (try rw [show ((0 : Int)).toNat = 0 from rfl] at hx118_2); (try rw [show 0 * 8 = 0 from rfl] at hx118_2); (try rw [Addr.add_zero'] at hx118_2); (try rw [show ((0 : Int)).toNat = 0 from rfl] at hx118_3); (try rw [show 0 * 8 = 0 from rfl] at hx118_3); (try rw [Addr.add_zero'] at hx118_3); (try rw [show ((0 : Int)).toNat = 0 from rfl] at hx118_4); (try rw [show 0 * 8 = 0 from rfl] at hx118_4); (try rw [Addr.add_zero'] at hx118_4); (try rw [show ((0 : Int)).toNat = 0 from rfl] at hx118_5); (try rw [show 0 * 8 = 0 from rfl] at hx118_5); (try rw [Addr.add_zero'] at hx118_5); (try rw [show ((0 : Int)).toNat = 0 from rfl] at hx118_6); (try rw [show 0 * 8 = 0 from rfl] at hx118_6); (try rw [Addr.add_zero'] at hx118_6); (try rw [show ((0 : Int)).toNat = 0 from rfl] at hx118_7); (try rw [show 0 * 8 = 0 from rfl] at hx118_7); (try rw [Addr.add_zero'] at hx118_7); have HR118_7 := Aside0.mk hi118_7; have HC118_7 := Aside0.mk hl118_7; clear hi118_7 hl118_7; replace p118 := eq_true p118; replace q118 := eq_true q118; have ea_ := Option.some.inj (hx115_7.symm.trans hx118_7); injection ea_ with ea_ en_ ec_; subst ea_; subst ec_; clear en_; have p119 : 0 ≤ (0 : Int) := (by omega); have q119 : 0 < (((rd_T27 t111 0).f7).length : Int) := of_decide_eq_true (by first | (with_reducible assumption) | assumption); obtain ⟨ad119, A119_7, c119_7, e119, hx119_0, hx119_1, hx119_2, hx119_3, hx119_4, hx119_5, hx119_6, hx119_7, hl119_7, hi119_7⟩ := at_T27 (by repeat (first | (with_reducible exact HR118_7.out) | (with_reducible refine Kd.C_alloc ?_ _) | (with_reducible refine Kd.C_drewN ?_ _) | (with_reducible refine Kd.C_drew ?_) | exact HR118_7.out)) 0 p119 q119; (try rw [← Nbq6.out] at hx119_2); (try rw [← Nbq6.out] at hx119_3); cases e119; obtain ⟨ce119, hce119, hMe119, hcc119⟩ := Kd.R_get HL118_7.out z27 0 p119 (by first | exact q119 | exact of_decide_eq_true (by first | (with_reducible assumption) | assumption) | (have e_ := (Kd.R_reads' HL118_7.out).1; omega)); obtain ⟨ve119_7, rfl, ge119_7⟩ := k27_openM hMe119; have hv119_7 := hcc119 7 _ rfl; rw [add_field _ _ 7 (by omega)] at hv119_7; replace hv119_7 := Option.some.inj (hv119_7.symm.trans hx119_7); rw [hv119_7] at ge119_7; have HL119_7 := Aside0.mk (show Kd.R k27 27 _ _ _ _ ((rd_T27 ((rd_T27 t111 0).f7) 0).f7) from ge119_7); clear hv119_7 ge119_7; clear hcc119 hce119; have qi119 : (0 < ((rd_T27 t111 0).f7).length) = True := eq_true (by omega); (try rw [show ((0 : Int)).toNat = 0 from rfl] at hx119_0); (try rw [show 0 * 8 = 0 from rfl] at hx119_0); (try rw [Addr.add_zero'] at hx119_0); (try rw [show ((0 : Int)).toNat = 0 from rfl] at hx119_1); (try rw [show 0 * 8 = 0 from rfl] at hx119_1); (try rw [Addr.add_zero'] at hx119_1); (try rw [show ((0 : Int)).toNat = 0 from rfl] at hx119_2); (try rw [show 0 * 8 = 0 from rfl] at hx119_2); (try rw [Addr.add_zero'] at hx119_2); (try rw [show ((0 : Int)).toNat = 0 from rfl] at hx119_3); (try rw [show 0 * 8 = 0 from rfl] at hx119_3); (try rw [Addr.add_zero'] at hx119_3); (try rw [show ((0 : Int)).toNat = 0 from rfl] at hx119_4); (try rw [show 0 * 8 = 0 from rfl] at hx119_4); (try rw [Addr.add_zero'] at hx119_4); (try rw [show ((0 : Int)).toNat = 0 from rfl] at hx119_5); (try rw [show 0 * 8 = 0 from rfl] at hx119_5); (try rw [Addr.add_zero'] at hx119_5); (try rw [show ((0 : Int)).toNat = 0 from rfl] at hx119_6); (try rw [show 0 * 8 = 0 from rfl] at hx119_6); (try rw [Addr.add_zero'] at hx119_6); (try rw [show ((0 : Int)).toNat = 0 from rfl] at hx119_7); (try rw [show 0 * 8 = 0 from rfl] at hx119_7); (try rw [Addr.add_zero'] at hx119_7); have HR119_7 := Aside0.mk hi119_7; have HC119_7 := Aside0.mk hl119_7; clear hi119_7 hl119_7; replace p119 := eq_true p119; replace q119 := eq_true q119))
                go_ret
                exact ⟨by first | rfl | (simp [errW_none, errW_some] <;> rfl) | (simp [*, errW_none, errW_some] <;> rfl), by repeat (first | (with_reducible first | exact HB.out | apply below_alloc | apply pw_below_drewN | apply below_drew1 | refine below_set ?_ GE114.out) | exact HB.out)⟩
              · rw [if_neg c18] at H
                exact absurd H (by simp)
            · rw [if_neg c17] at H
              have c17b0 : ((((rd_T27 t111 0).f7).length : Int) == 1) = false := beq_eq_false_iff_ne.mpr c17
              have c17b1 : ((((rd_T27 t111 0).f7).length : Int) != 1) = true := bne_iff_ne.mpr c17
              exact absurd (Option.some.inj H) (by rw [hr.out]; decide)
        · rw [if_neg c5] at H
          have c5b0 : (((rd_T27 t111 0).f0) == 7) = false := beq_eq_false_iff_ne.mpr c5
          have c5b1 : (((rd_T27 t111 0).f0) != 7) = true := bne_iff_ne.mpr c5
          exact absurd (Option.some.inj H) (by rw [hr.out]; decide)
      · rw [if_neg c4] at H
        exact absurd H (by simp)
    · rw [if_neg c3] at H
      have c3b0 : ((t111.length : Int) == 1) = false := beq_eq_false_iff_ne.mpr c3
      have c3b1 : ((t111.length : Int) != 1) = true := bne_iff_ne.mpr c3
      exact absurd (Option.some.inj H) (by rw [hr.out]; decide)
  · rw [if_neg c2] at H
    have c2b0 : (t104 == 1) = false := beq_eq_false_iff_ne.mpr c2
    have c2b1 : (t104 != 1) = true := bne_iff_ne.mpr c2
    exact absurd (Option.some.inj H) (by rw [hr.out]; decide)
theorem rubricatorlaw19_known.calls  (r : Bool) (w : World) (hG : GL w) (h : rubricatorlaw19_known.f  = some r) :
    Calls Tryz.prog 17 #[] w fun e w' => e = .returned (.bool r) ∧ Below w.heap.size w w' :=
  rubricatorlaw19_known.callsT r w hG h (show r = true from Option.some.inj (h.symm.trans (by decide +kernel : rubricatorlaw19_known.f = some true)))
def rubricatorlaw19_known.Pure : Prop := rubricatorlaw19_known.f  = some true
def rubricatorlaw19_heavy.l0 : Nat → List ByteArray → Int → Int → Option (Bool)
  | 0, _, _, _ => none
  | k + 1, x0, x3, x4 => if x4 < (x0.length : Int) then (if 0 ≤ x4 then (if (wrap64 ((wrap64 (x3 + 1)) + ((rdOf ByteArray.empty x0 x4).size : Int))) > 1500 then (some true) else (rubricatorlaw19_heavy.l0 k x0 (wrap64 ((wrap64 (x3 + 1)) + ((rdOf ByteArray.empty x0 x4).size : Int))) (wrap64 (x4 + 1)))) else (none)) else (some false)
def rubricatorlaw19_heavy.f (k : Nat) (l0 : List ByteArray) : Option (Bool) := rubricatorlaw19_heavy.l0 k l0 0 0
theorem rubricatorlaw19_heavy.mono_l : ∀ k, (∀ y0 y1 y2, LeO (rubricatorlaw19_heavy.l0 k y0 y1 y2) (rubricatorlaw19_heavy.l0 (k + 1) y0 y1 y2))
  | 0 => fun _ _ _ r h => by simp [rubricatorlaw19_heavy.l0] at h
  | k + 1 => by
    have ih0 := rubricatorlaw19_heavy.mono_l k
    · intro y0 y1 y2
      unfold rubricatorlaw19_heavy.l0
      repeat' first
      | (with_reducible exact ih0 _ _ _)
      | (with_reducible exact LeO.refl _)
      | (with_reducible exact LeO.none _)
      | (with_reducible refine LeO.ite ?_ ?_)
      | (with_reducible refine LeO.bind ?_ (fun _ => ?_))
      | exact ih0 _ _ _
      | exact LeO.none _
      | refine LeO.ite ?_ ?_
      | refine LeO.bind ?_ (fun _ => ?_)
theorem rubricatorlaw19_heavy.mono : ∀ a0 k, LeO (rubricatorlaw19_heavy.f k a0) (rubricatorlaw19_heavy.f (k + 1) a0) := by
  intro a0 k
  have ih0 := rubricatorlaw19_heavy.mono_l k
  unfold rubricatorlaw19_heavy.f
  repeat' first
      | (with_reducible exact ih0 _ _ _)
      | (with_reducible exact LeO.refl _)
      | (with_reducible exact LeO.none _)
      | (with_reducible refine LeO.ite ?_ ?_)
      | (with_reducible refine LeO.bind ?_ (fun _ => ?_))
      | exact ih0 _ _ _
      | exact LeO.none _
      | refine LeO.ite ?_ ?_
      | refine LeO.bind ?_ (fun _ => ?_)
set_option maxHeartbeats 8000000 in
set_option maxRecDepth 100000 in
theorem rubricatorlaw19_heavy.calls (k : Nat) (A0 : Option Addr) (c0 : Nat) (l0 : List ByteArray) (r : Bool) (w : World) (hr0 : Kd.C Kd.string w A0 l0.length l0) (hc0 : l0.length ≤ c0) (h : rubricatorlaw19_heavy.f k l0 = some r) :
    Calls Tryz.prog 12 #[.slice A0 l0.length c0] w fun e w' => e = .returned (.bool r) ∧ Drawn0 w w' := by
  have HR0 := Aside0.mk hr0
  have HC0 := Aside0.mk hc0
  clear hr0 hc0
  have H : (rubricatorlaw19_heavy.l0 k l0 0 0) = some r := h
  clear h
  have H' := Aside0.mk H
  clear H
  go_enter Tryz.func12, Tryz.ntmps12
  go_wp2
  go_loopg [3, 4] k (fun kq v3 v4 w' => ∃ (x3_1 : Int) (x4_1 : Int), v3 = .int .i64 x3_1 ∧ v4 = .int .i64 x4_1 ∧ Aside0 (rubricatorlaw19_heavy.l0 kq l0 x3_1 x4_1 = some r) ∧ Aside0 (kq ≤ k) ∧ Drawn0 w w')
  case atStart => exact ⟨(0), (0), (by first | rfl | (simp; done) | (simp [*]; done)), (by first | rfl | (simp; done) | (simp [*]; done)), H', ⟨Nat.le_refl _⟩, by repeat (first | exact Drawn0.refl _ | apply Drawn0.step)⟩
  case round =>
    clear H'
    try clear c1
    obtain ⟨x3_1, x4_1, rfl, rfl, HA, HK1, ⟨m1, rfl⟩⟩ := hrel
    cases gk with
    | zero => exact absurd HA.out (by simp [rubricatorlaw19_heavy.l0])
    | succ k1 =>
      have H := HA.out
      clear HA
      simp only [rubricatorlaw19_heavy.l0] at H
      by_cases c2 : x4_1 < (l0.length : Int)
      · rw [if_pos c2] at H
        have c2b0 : decide (x4_1 < (l0.length : Int)) = true := decide_eq_true c2
        clear c2
        by_cases c3 : 0 ≤ x4_1
        · rw [if_pos c3] at H
          have c3b0 : decide (0 ≤ x4_1) = true := decide_eq_true c3
          clear c3
          by_cases c4 : (wrap64 ((wrap64 (x3_1 + 1)) + ((rdOf ByteArray.empty l0 x4_1).size : Int))) > 1500
          · rw [if_pos c4] at H
            have c4b0 : decide (1500 < (wrap64 ((wrap64 (x3_1 + 1)) + ((rdOf ByteArray.empty l0 x4_1).size : Int)))) = true := decide_eq_true c4
            clear c4
            obtain rfl := Option.some.inj H
            have p120 : 0 ≤ (x4_1 : Int) := of_decide_eq_true (by first | (with_reducible assumption) | assumption)
            have q120 : x4_1 < (l0.length : Int) := of_decide_eq_true (by first | (with_reducible assumption) | assumption)
            obtain ⟨ad120, e120, hx120_0⟩ := Kd.at_string HR0.out x4_1 p120 q120
            cases e120
            replace p120 := eq_true p120
            replace q120 := eq_true q120
            go_wp2
            go_ret
            exact ⟨by first | rfl | (simp; done) | (simp [*]; done), by repeat (first | exact Drawn0.refl _ | apply Drawn0.step)⟩
          · rw [if_neg c4] at H
            have c4b0 : decide (1500 < (wrap64 ((wrap64 (x3_1 + 1)) + ((rdOf ByteArray.empty l0 x4_1).size : Int)))) = false := decide_eq_false c4
            clear c4
            have H' := Aside0.mk H
            clear H
            have p120 : 0 ≤ (x4_1 : Int) := of_decide_eq_true (by first | (with_reducible assumption) | assumption)
            have q120 : x4_1 < (l0.length : Int) := of_decide_eq_true (by first | (with_reducible assumption) | assumption)
            obtain ⟨ad120, e120, hx120_0⟩ := Kd.at_string HR0.out x4_1 p120 q120
            cases e120
            replace p120 := eq_true p120
            replace q120 := eq_true q120
            go_wp2
            go_roundg k1
            case measure => have := HK1.out; omega
            case rel => exact ⟨(wrap64 ((wrap64 (x3_1 + 1)) + ((rdOf ByteArray.empty l0 x4_1).size : Int))), (wrap64 (x4_1 + 1)), (by first | rfl | (simp; done) | (simp [*]; done)), (by first | rfl | (simp; done) | (simp [*]; done)), H', ⟨by have := HK1.out; omega⟩, by repeat (first | exact Drawn0.refl _ | apply Drawn0.step)⟩
        · rw [if_neg c3] at H
          exact absurd H (by simp)
      · rw [if_neg c2] at H
        have c2b0 : decide (x4_1 < (l0.length : Int)) = false := decide_eq_false c2
        clear c2
        obtain rfl := Option.some.inj H
        go_wp2
        go_ret
        exact ⟨by first | rfl | (simp; done) | (simp [*]; done), by repeat (first | exact Drawn0.refl _ | apply Drawn0.step)⟩
end Go.Proofs.YtpimcdkhjingjaaGreatDoor.PBlk
