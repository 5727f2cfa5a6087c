/- A merged text (wip/mkclaim.py). -/
import Derived.Test.YtpimcdkhjingjaaGreatDoorRCD
import Derived.Deep.CutRange
import Derived.Deep.CutBlock
set_option linter.unusedVariables false
set_option linter.unusedSimpArgs false
set_option linter.unusedSectionVars false
namespace Go.Proofs.YtpimcdkhjingjaaGreatDoor.X
open Go.RowKit Go.Proofs.YtpimcdkhjingjaaGreatDoorW.PrintWords
def St.layUp (s : St) (k : Nat) : St := if (s.get (s.opAt s.here)).kind = 2 ∨ (s.get (s.opAt s.here)).kind = 7 ∧ (s.get k).kind ≠ 8 then { s with here := s.here - 1 } else s
def St.layTop (s : St) (k : Nat) : St := (s.cutOpen (s.here + 1)).set k { s.get k with first := s.at_ }
def St.layIn (s : St) (k : Nat) : St := (s.pushKid (s.opAt s.here) k).pushOpen k
def St.layEnd (s : St) : St := St.touch { s with here := s.here + 1 } s.op.length
def St.lays (s : St) (k : Nat) : St := (((s.layUp k).layTop k).layIn k).layEnd
theorem St.layUp_len (s : St) (k : Nat) : (s.layUp k).bs.length = s.bs.length := by unfold St.layUp; split <;> rfl
theorem St.layUp_at (s : St) (k : Nat) : (s.layUp k).at_ = s.at_ := by unfold St.layUp; split <;> rfl
theorem Wf.layUp {N : Nat} {s : St} (h : Wf N s) (k : Nat) : Wf N (s.layUp k) := by
  unfold St.layUp
  split
  · exact h.goHere (by have := h.here; omega)
  · exact h
theorem Wf.layTop {N : Nat} {s : St} (h : Wf N s) {k : Nat} (hk : k < s.bs.length) : Wf N (s.layTop k) :=
  (h.cut (Nat.lt_succ_self _)).setB (show k < s.bs.length from hk) rfl rfl (.inl rfl)
theorem Wf.layIn {N : Nat} {s : St} (h : Wf N s) {k : Nat} (hk : k < s.bs.length) (hN : N + 2 ≤ 1099511627776) : Wf (N + 2) (s.layIn k) :=
  (h.pushKid (h.opAt h.here) hk (by omega)).pushOpen (by unfold St.pushKid; rw [St.set_len]; exact hk) hN
theorem layTop_len {N : Nat} {s : St} (h : Wf N s) (k : Nat) : (s.layTop k).op.length = s.here + 1 := by
  have := h.here
  show (s.op.take (s.here + 1)).length = _
  rw [List.length_take]; omega
theorem layIn_len (s : St) (k : Nat) : (s.layIn k).op.length = s.op.length + 1 := by
  show (s.op ++ [k]).length = _
  simp
theorem Wf.layEnd {N : Nat} {s : St} (h : Wf N s) (hh : s.here + 1 < s.op.length) : Wf N s.layEnd := (h.goHere hh).touch _
theorem Wf.lays {N : Nat} {s : St} (h : Wf N s) {k : Nat} (hk : k < s.bs.length) (hN : N + 2 ≤ 1099511627776) : Wf (N + 2) (s.lays k) := by
  have h1 := h.layUp k
  have hk1 : k < (s.layUp k).bs.length := by rw [St.layUp_len]; exact hk
  have h2 := h1.layTop hk1
  have hk2 : k < ((s.layUp k).layTop k).bs.length := by unfold St.layTop; rw [St.set_len]; exact hk1
  have h3 := h2.layIn hk2 hN
  refine h3.layEnd ?_
  rw [layIn_len, layTop_len h1]
  exact Nat.lt_succ_self _
set_option maxRecDepth 100000 in
set_option maxHeartbeats 4000000 in
theorem lays_c {B : Nat} {w : World} {L : Lay} {s : St} {N : Nat} (h : Rep B w L s) (hf : Wf N s) (k : Nat) (hk : k < s.bs.length) (hN : N + 2 ≤ 1099511627776) :
    Calls Tryz.prog 49 #[.pointer (some ⟨L.pb, 0, none⟩), .pointer (some ⟨L.ad k, 0, none⟩)] w fun e w' => e = .returned (.pointer (some ⟨L.ad k, 0, none⟩)) ∧ Move B w L (s.lays k) w' := by
  have HN := Lib.hid (fun w' (hr : Rep B w' L s) => now_c hr hf)
  have ho := hf.opAt hf.here
  have hb0 := h.b0 _ ho
  have hk0 := h.b0 k hk
  have hp1 := h.p1
  have hpf := h.pf 1
  have HE := Lib.hid (St.layUp_len s k)
  have HU := Lib.hid (hf.layUp k)
  have hlen := Nat.le_trans hf.opl hf.big
  have hhere := hf.here
  have HD := Lib.hid hf.deep
  obtain ⟨h0, hh0⟩ : ∃ h0, h0 = s.here - 1 := ⟨_, rfl⟩
  have Hh0 := Lib.hid hh0
  have hwr : (s.get (s.opAt s.here)).kind ≠ 1 → IntKind.i64.wrap ((s.here : Int) - 1) = (h0 : Int) := fun hk => by
    have := HD.out hk
    rw [IntWalk.i64_in _ (by omega)]; omega
  clear hh0
  go_enter Tryz.func49, Tryz.ntmps49
  have hcase : (s.get (s.opAt s.here)).kind = 2 ∨ (s.get (s.opAt s.here)).kind ≠ 2 ∧ (s.get (s.opAt s.here)).kind = 7 ∧ (s.get k).kind ≠ 8 ∨ (s.get (s.opAt s.here)).kind ≠ 2 ∧ (s.get (s.opAt s.here)).kind = 7 ∧ (s.get k).kind = 8 ∨ (s.get (s.opAt s.here)).kind ≠ 2 ∧ (s.get (s.opAt s.here)).kind ≠ 7 := by omega
  obtain ⟨x0, hx0⟩ : ∃ x, x = (s.get (s.opAt s.here)).kind := ⟨_, rfl⟩
  obtain ⟨xk, hxk⟩ : ∃ x, x = (s.get k).kind := ⟨_, rfl⟩
  have HX0 := Lib.hid hx0
  have HXk := Lib.hid hxk
  rw [← hx0] at hcase hb0 hwr
  rw [← hxk] at hcase hk0
  clear hx0 hxk
  rcases hcase with c1 | ⟨c1, c2, c3⟩ | ⟨c1, c2, c3⟩ | ⟨c1, c2⟩
  case' inl =>
    have c1' : (x0 : Int) = 2 := by omega
    have hwr' := hwr (by omega)
    have hu : Hid (s.layUp k = { s with here := h0 }) := by show _ = _; unfold St.layUp; rw [← HX0.out, if_pos (.inl c1), Hh0.out]
    clear hwr
    go_upto_region 4 with (first
      | (go_at_call 47; refine (HN.out _ ?_).mono ?_; exact h.keep fun _ _ _ => rfl; rintro e w1 ⟨rfl, n1, rfl⟩)
      | (go_at_call 31; refine (over_c (s := s.layUp k) (by rw [hu.out]; exact (h.drewN _).setHere h0) HU.out).mono ?_; rintro e w2 ⟨rfl, rv2, hr2, hb2⟩; have hb12 : Below B w w2 := Below.trans (Below.of_touch (((Touch.refl L.pb w).drewN _).setCell 1 _) h.size h.bp) hb2))
    clear hwr'
  case' inr.inl =>
    have c1' : ¬ (x0 : Int) = 2 := by omega
    have c2' : (x0 : Int) = 7 := by omega
    have c3' : ¬ (xk : Int) = 8 := by omega
    have hwr' := hwr (by omega)
    have hu : Hid (s.layUp k = { s with here := h0 }) := by show _ = _; unfold St.layUp; rw [← HX0.out, ← HXk.out, if_pos (.inr ⟨c2, c3⟩), Hh0.out]
    clear hwr
    go_upto_region 4 with (first
      | (go_at_call 47; refine (HN.out _ ?_).mono ?_; exact h.keep fun _ _ _ => rfl; rintro e w1 ⟨rfl, n1, rfl⟩)
      | (go_at_call 31; refine (over_c (s := s.layUp k) (by rw [hu.out]; exact (h.drewN _).setHere h0) HU.out).mono ?_; rintro e w2 ⟨rfl, rv2, hr2, hb2⟩; have hb12 : Below B w w2 := Below.trans (Below.of_touch (((Touch.refl L.pb w).drewN _).setCell 1 _) h.size h.bp) hb2))
    clear hwr'
  case' inr.inr.inl =>
    have c1' : ¬ (x0 : Int) = 2 := by omega
    have c2' : (x0 : Int) = 7 := by omega
    have c3' : (xk : Int) = 8 := by omega
    have hu : Hid (s.layUp k = s) := by show _ = _; unfold St.layUp; rw [← HX0.out, ← HXk.out, if_neg (by omega)]
    clear hwr
    go_upto_region 4 with (first
      | (go_at_call 47; refine (HN.out _ ?_).mono ?_; exact h.keep fun _ _ _ => rfl; rintro e w1 ⟨rfl, n1, rfl⟩)
      | (go_at_call 31; refine (over_c (s := s.layUp k) (by rw [hu.out]; exact h.drewN _) HU.out).mono ?_; rintro e w2 ⟨rfl, rv2, hr2, hb2⟩; have hb12 : Below B w w2 := Below.trans (below_drewN (Below.refl _ _) _) hb2))
  case' inr.inr.inr =>
    have c1' : ¬ (x0 : Int) = 2 := by omega
    have c2' : ¬ (x0 : Int) = 7 := by omega
    have hu : Hid (s.layUp k = s) := by show _ = _; unfold St.layUp; rw [← HX0.out, ← HXk.out, if_neg (by omega)]
    clear hwr
    go_upto_region 4 with (first
      | (go_at_call 47; refine (HN.out _ ?_).mono ?_; exact h.keep fun _ _ _ => rfl; rintro e w1 ⟨rfl, n1, rfl⟩)
      | (go_at_call 31; refine (over_c (s := s.layUp k) (by rw [hu.out]; exact h.drewN _) HU.out).mono ?_; rintro e w2 ⟨rfl, rv2, hr2, hb2⟩; have hb12 : Below B w w2 := Below.trans (below_drewN (Below.refl _ _) _) hb2))
  all_goals
    have hk2 : k < ((s.layUp k).cutOpen ((s.layUp k).here + 1)).bs.length := by show k < (s.layUp k).bs.length; rw [HE.out]; exact hk
    have hr3 : Rep B (w2.setCell ⟨L.ad k, 1, none⟩ (.int .i64 (s.at_ : Int))) ⟨L.pb, L.cb, L.ad, rv2⟩ ((s.layUp k).layTop k) := by
      have e := hr2.setB k hk2 1 (.int .i64 (s.at_ : Int)) { (s.layUp k).get k with first := s.at_ } rfl rfl (fun _ _ => rfl)
      unfold St.layTop
      rw [St.layUp_at]
      exact e
    have hb3 : Below B w2 (w2.setCell ⟨L.ad k, 1, none⟩ (.int .i64 (s.at_ : Int))) := Below.of_touch (touch_set _ _ _ _) hr2.size (hr2.bb k hk2)
    have hb13 := hb12.trans hb3
    have q3 := hr2.p3
    have ha : ((s.layUp k).cutOpen ((s.layUp k).here + 1)).at_ = s.at_ := St.layUp_at s k
    rw [ha] at q3
    have q1 := hr2.b1 k hk2
    have qf := hr2.bf k hk2 1
    clear h HN hb0 hk0 hp1 hpf hb2
    go_wp2_with (fail)
    obtain ⟨w3, hw3⟩ : ∃ w3, w3 = w2.setCell ⟨L.ad k, 1, none⟩ (.int .i64 (s.at_ : Int)) := ⟨_, rfl⟩
    rw [← hw3] at hr3 hb13
    rw [← hw3]
    clear hw3 q1 qf q3 ha hb3 hb12 hr2 hk2
    have hf3 := HU.out.layTop (k := k) (by rw [HE.out]; exact hk)
    have ht3 := layTop_len HU.out k
    have hk3 : k < ((s.layUp k).layTop k).bs.length := by unfold St.layTop; rw [St.set_len]; show k < (s.layUp k).bs.length; rw [HE.out]; exact hk
    obtain ⟨s3, hs3⟩ : ∃ s3, s3 = (s.layUp k).layTop k := ⟨_, rfl⟩
    rw [← hs3] at hr3 hf3 ht3 hk3
    have hh3 : s3.here = (s.layUp k).here := by rw [hs3]; rfl
    have Hs3 := Lib.hid hs3
    clear hs3
    have HN3 : Hid (∀ w', Rep B w' ⟨L.pb, L.cb, L.ad, rv2⟩ s3 → Calls Tryz.prog 47 #[.pointer (some ⟨L.pb, 0, none⟩)] w' fun e w'' => e = .returned (.pointer (some ⟨L.ad (s3.opAt s3.here), 0, none⟩)) ∧ Drawn0 w' w'') := Lib.hid (fun w' hr => now_c (L := ⟨L.pb, L.cb, L.ad, rv2⟩) hr hf3)
    have ho3 := hf3.opAt hf3.here
    obtain ⟨o, hoo⟩ : ∃ o, o = s3.opAt s3.here := ⟨_, rfl⟩
    rw [← hoo] at HN3 ho3
    have Ho := Lib.hid hoo
    clear hoo
    have r3 : w3.cell? ⟨L.ad o, 3, none⟩ = some (rv2 (.kid o)) := hr3.b3 o ho3
    have r3f : w3.frozen? ⟨L.ad o, 3, none⟩ = false := hr3.bf o ho3 3
    have hkl := Nat.le_trans (hf3.kidl o ho3) hf3.big
    go_upto_region 6 with (first
      | (go_at_call 47; refine (HN3.out _ ?_).mono ?_; exact hr3.keep fun _ _ _ => rfl; rintro e w4 ⟨rfl, n4, rfl⟩)
      | (at_builtin; refine app_block (w3.drewN _) (.pointer (some ⟨L.ad k, 0, none⟩)) B (rv2 (.kid o)) (s3.get o).kids.length (elems ⟨L.pb, L.cb, L.ad, rv2⟩ s3 (.kid o)) rfl _ _ rfl rfl rfl ((hr3.drewN _).ownK o ho3) rfl hkl hr3.size ?_; intro g5 cap5 w5 hown5 hg5 hat5; have r5f : w5.frozen? ⟨L.ad o, 3, none⟩ = false := blk_frozen (((hr3.drewN _).alloc _).grown_b (.kid o) ho3 hg5 o ho3) 3; have r5 : w5.cell? ⟨L.ad o, 3, none⟩ = some (rv2 (.kid o)) := (blk_cell (((hr3.drewN _).alloc _).grown_b (.kid o) ho3 hg5 o ho3) 3).trans rfl))
    obtain ⟨rv6, w6, hr6, hb6, hw6⟩ : ∃ rv6 w6, Rep B w6 ⟨L.pb, L.cb, L.ad, rv6⟩ (s3.pushKid o k) ∧ Below B w w6 ∧ w6 = w5.setCell ⟨L.ad o, 3, none⟩ (.slice (some ⟨g5, 0, none⟩) ((s3.get o).kids.length + 1) cap5) := by
      refine ⟨_, _, ((hr3.drewN _).alloc _).pushKid o k ho3 hown5 hg5 hat5, ?_, rfl⟩
      exact hb13.trans (((below_drewN (Below.refl _ _) _).alloc hr3.size _).trans ((((hr3.drewN _).alloc _).grown_below (.kid o) ho3 hg5).setCell (hr3.bb o ho3) _))
    rw [← hw6]
    clear hw6 r5 r5f hat5 hg5 hown5 r3 r3f
    have hf6 := hf3.pushKid ho3 hk3 (by omega)
    have hk6 : k < (s3.pushKid o k).bs.length := by unfold St.pushKid; rw [St.set_len]; exact hk3
    have r6 : w6.cell? ⟨L.pb, 0, none⟩ = some (rv6 .open_) := hr6.p0
    have r6f : w6.frozen? ⟨L.pb, 0, none⟩ = false := hr6.pf 0
    have hol := Nat.le_trans hf6.opl hf6.big
    go_upto_region 7 with (at_builtin; refine app_block w6 (.pointer (some ⟨L.ad k, 0, none⟩)) B (rv6 .open_) (s3.pushKid o k).op.length (elems ⟨L.pb, L.cb, L.ad, rv6⟩ (s3.pushKid o k) .open_) rfl _ _ rfl rfl rfl hr6.ownO rfl hol hr6.size ?_; intro g7 cap7 w7 hown7 hg7 hat7; have r7f : w7.frozen? ⟨L.pb, 0, none⟩ = false := blk_frozen ((hr6.alloc _).grown_p .open_ trivial hg7) 0; have r7 : w7.cell? ⟨L.pb, 0, none⟩ = some (rv6 .open_) := (blk_cell ((hr6.alloc _).grown_p .open_ trivial hg7) 0).trans rfl)
    obtain ⟨rv8, w8, hr8, hb8, hw8⟩ : ∃ rv8 w8, Rep B w8 ⟨L.pb, L.cb, L.ad, rv8⟩ (s3.layIn k) ∧ Below B w w8 ∧ w8 = w7.setCell ⟨L.pb, 0, none⟩ (.slice (some ⟨g7, 0, none⟩) ((s3.pushKid o k).op.length + 1) cap7) := by
      have hx := hr6.alloc (.cells #[.pointer (some ⟨L.ad k, 0, none⟩)] 40)
      have e : s3.layIn k = (s3.pushKid o k).pushOpen k := by unfold St.layIn; rw [← Ho.out]
      rw [e]
      refine ⟨_, _, hx.pushOpen k hown7 hg7 hat7, ?_, rfl⟩
      exact hb6.trans (((Below.refl _ _).alloc hr6.size _).trans ((hx.grown_below .open_ trivial hg7).setCell hr6.bp _))
    rw [← hw8]
    clear hw8 r7 r7f hat7 hg7 hown7 r6 r6f
    have hf8 := hf3.layIn hk3 hN
    have hl8 : (s3.layIn k).op.length = s3.here + 2 := by rw [layIn_len, ht3, hh3]
    have hh8 : (s3.layIn k).here = s3.here := rfl
    obtain ⟨s8, hs8⟩ : ∃ s8, s8 = s3.layIn k := ⟨_, rfl⟩
    rw [← hs8] at hf8 hl8 hh8 hr8
    have Hs8 := Lib.hid hs8
    clear hs8
    have r8 : w8.cell? ⟨L.pb, 1, none⟩ = some (.int .i64 (s8.here : Int)) := hr8.p1
    have r8f : w8.frozen? ⟨L.pb, 1, none⟩ = false := hr8.pf 1
    obtain ⟨m, hm⟩ : ∃ m, m = s8.here + 1 := ⟨_, rfl⟩
    have hr9 := hr8.setHere m
    have hf9 := hf8.goHere (m := m) (by omega)
    have hw1 : IntKind.i64.wrap ((s8.here : Int) + 1) = (m : Int) := by
      have := hf8.opl; have := hf8.big
      rw [IntWalk.i64_in _ (by omega)]; omega
    have r8o : w8.cell? ⟨L.pb, 0, none⟩ = some (rv8 .open_) := hr8.p0
    obtain ⟨g, cap, hv, _⟩ := hr8.opened (by omega)
    change rv8 .open_ = _ at hv
    rw [hv] at r8o
    have HT := Lib.hid (touch_c hr9 hf9 s8.op.length (Nat.le_refl _))
    have hb9 := Below.of_touch (touch_set w8 L.pb 1 (.int .i64 (m : Int))) hr8.size hr8.bp
    have hb89 := hb8.trans hb9
    obtain ⟨n8, hn8⟩ : ∃ n8, n8 = s8.op.length := ⟨_, rfl⟩
    rw [← hn8] at r8o HT
    have Hn8 := Lib.hid hn8
    have Hm := Lib.hid hm
    clear hv hn8 hm hl8 hh8 hb9 hb8 hr8 hr9 hf9 hf8
    go_wp2_with (go_at_call 30; refine HT.out.mono ?_; rintro e w10 ⟨rfl, hr10, hb10⟩)
    go_ret
    refine ⟨rfl, rv8, ?_, hb89.trans hb10⟩
    have e : s.lays k = St.touch { s8 with here := m } n8 := by rw [Hn8.out, Hm.out, Hs8.out, Hs3.out]; rfl
    rw [e]
    exact hr10
end Go.Proofs.YtpimcdkhjingjaaGreatDoor.X
namespace Go.Proofs.YtpimcdkhjingjaaGreatDoor.X
open Go.RowKit Go.Proofs.YtpimcdkhjingjaaGreatDoorW.PrintWords
def St.up (s : St) : St := St.cutOpen { s with here := s.here - 1 } s.here
def St.ends (s : St) (k : Nat) : St := (s.lays k).up
theorem lays_here {s : St} (k : Nat) : (s.lays k).here = (s.layUp k).here + 1 := by
  unfold St.lays St.layEnd
  rw [St.touch_here]
  rfl
theorem Wf.up {N : Nat} {s : St} (h : Wf N s) (h0 : 0 < s.here) : Wf N s.up := by
  have := h.here
  exact (h.goHere (m := s.here - 1) (by omega)).cut (by show s.here - 1 < s.here; omega)
theorem up_eq {s : St} (h0 : 0 < s.here) (m : Nat) (hm : m = s.here - 1) : St.cutOpen { s with here := m } (m + 1) = s.up := by
  unfold St.up
  rw [hm, Nat.sub_add_cancel h0]
set_option maxRecDepth 100000 in
theorem ends_c {B : Nat} {w : World} {L : Lay} {s : St} {N : Nat} (h : Rep B w L s) (hf : Wf N s) (k : Nat) (hk : k < s.bs.length) (hN : N + 2 ≤ 1099511627776) :
    Calls Tryz.prog 89 #[.pointer (some ⟨L.pb, 0, none⟩), .pointer (some ⟨L.ad k, 0, none⟩)] w fun e w' => e = .returned (.tuple #[]) ∧ Move B w L (s.ends k) w' := by
  have HL := Lib.hid (lays_c h hf k hk hN)
  have hf1 := hf.lays hk hN
  have h0 : 0 < (s.lays k).here := by rw [lays_here]; omega
  have Hs : Hid (s.ends k = (s.lays k).up) := rfl
  obtain ⟨s1, hs1⟩ : ∃ s1, s1 = s.lays k := ⟨_, rfl⟩
  rw [← hs1] at HL hf1 h0 Hs
  clear hs1
  obtain ⟨m, hm⟩ : ∃ m, m = s1.here - 1 := ⟨_, rfl⟩
  have Hm := Lib.hid hm
  have hhere := hf1.here
  have hof := Nat.le_trans hf1.opl hf1.big
  have hw1 : IntKind.i64.wrap ((s1.here : Int) - 1) = (m : Int) := by rw [IntWalk.i64_in _ (by omega)]; omega
  have hf2 := hf1.goHere (m := m) (by omega)
  clear hm
  go_enter Tryz.func89, Tryz.ntmps89
  go_wp2_with (first
    | (go_at_call 49; refine HL.out.mono ?_; rintro e w1 ⟨rfl, rv1, hr1, hb1⟩; have r1 : w1.cell? ⟨L.pb, 1, none⟩ = some (.int .i64 (s1.here : Int)) := hr1.p1; have r1f : w1.frozen? ⟨L.pb, 1, none⟩ = false := hr1.pf 1; have hb2 := hb1.trans (Below.of_touch (touch_set w1 L.pb 1 (.int .i64 (m : Int))) hr1.size hr1.bp))
    | (go_at_call 31; refine (over_c (hr1.setHere m) hf2).mono ?_; rintro e w2 ⟨rfl, rv2, hr2, hb3⟩))
  go_end0
  refine ⟨rfl, rv2, ?_, hb2.trans hb3⟩
  rw [Hs.out, ← up_eq h0 m Hm.out]
  exact hr2
end Go.Proofs.YtpimcdkhjingjaaGreatDoor.X
namespace Go.Proofs.YtpimcdkhjingjaaGreatDoor.X
open Go.RowKit Go.Proofs.YtpimcdkhjingjaaGreatDoorW.PrintWords
def St.puts (s : St) (b : Blk) : St := (s.born b).lays s.bs.length
def St.sets (s : St) (b : Blk) : St := (s.born b).ends s.bs.length
theorem Wf.puts {N : Nat} {s : St} (h : Wf N s) {b : Blk} (hk : b.kids = []) (hl : b.lines.length ≤ N + 1) (hw : b.width ≤ 1099511627776 ∧ b.in_ ≤ 1099511627776) (hN : N + 3 ≤ 1099511627776) : Wf (N + 3) (s.puts b) :=
  (h.born hk hl hw (by omega)).lays (by simp [St.born]) (by omega)
theorem Wf.sets {N : Nat} {s : St} (h : Wf N s) {b : Blk} (hk : b.kids = []) (hl : b.lines.length ≤ N + 1) (hw : b.width ≤ 1099511627776 ∧ b.in_ ≤ 1099511627776) (hN : N + 3 ≤ 1099511627776) : Wf (N + 3) (s.sets b) :=
  (h.puts hk hl hw hN).up (by unfold St.puts; rw [lays_here]; omega)
section
variable {B N : Nat} {w : World} {L : Lay} {s : St}
theorem Rep.born0 (h : Rep B w L s) (hf : Wf N s) (b : Blk) (hk : b.kids = []) (hl : b.lines = []) :
    Rep B (w.alloc (.cells (cellsB b (.slice none 0 0) (.slice none 0 0)) 43)) (L.more s.bs.length w.heap.size (.slice none 0 0)) (s.born b) :=
  h.born hf.kids hf.op h.size b hk (by rw [hl]; exact own_nil _ _ _ _) (fun u _ g hg => by simp [Value.ownBlock] at hg)
theorem Rep.born1 (h : Rep B w L s) (hf : Wf N s) (b : Blk) (l : List UInt8) (hk : b.kids = []) (hl : b.lines = [l]) :
    Rep B ((w.alloc (.cells #[.string (S l)] 9)).alloc (.cells (cellsB b (.slice none 0 0) (.slice (some ⟨w.heap.size, 0, none⟩) 1 1)) 43))
      (L.more s.bs.length (w.heap.size + 1) (.slice (some ⟨w.heap.size, 0, none⟩) 1 1)) (s.born b) := by
  have h2 := h.alloc (.cells #[.string (S l)] 9)
  have hz : (w.alloc (.cells #[.string (S l)] 9)).heap.size = w.heap.size + 1 := by simp
  have hh := h2.born hf.kids hf.op h2.size b hk (lv := .slice (some ⟨w.heap.size, 0, none⟩) 1 1)
    (by rw [hl]; exact World.ownsRow_lit (base := B) (e := 9) (size := 1) w #[.string (S l)] 1 h.size (by decide) (by simp))
    (fun u hu g hg => by
      obtain rfl : w.heap.size = g := by simpa [Value.ownBlock] using hg
      intro e
      have := own_lt (h.own u hu) _ e
      omega)
  rw [hz] at hh
  exact hh
theorem Lay.more_ad (n a : Nat) (lv : Value) : (L.more n a lv).ad n = a := by simp [Lay.more]
theorem Lay.more_old (n a : Nat) (lv : Value) (i : Nat) (hi : i < n) : (L.more n a lv).ad i = L.ad i := by simp [Lay.more]; omega
theorem puts0 (h : Rep B w L s) (hf : Wf N s) (b : Blk) (hk : b.kids = []) (hl : b.lines = []) (hw : b.width ≤ 1099511627776 ∧ b.in_ ≤ 1099511627776) (hN : N + 3 ≤ 1099511627776) :
    Calls Tryz.prog 49 #[.pointer (some ⟨L.pb, 0, none⟩), .pointer (some ⟨w.heap.size, 0, none⟩)] (w.alloc (.cells (cellsB b (.slice none 0 0) (.slice none 0 0)) 43)) fun e w' => (∃ g, e = .returned (.pointer g)) ∧ Step B w L s (s.puts b) w' := by
  have h1 := lays_c (h.born0 hf b hk hl) (hf.born hk (by rw [hl]; simp) hw (by omega)) s.bs.length (by simp [St.born]) (by omega)
  rw [Lay.more_ad] at h1
  refine h1.mono ?_
  rintro e w' ⟨rfl, rv, hr, hb⟩
  exact ⟨⟨_, rfl⟩, _, rv, hr, fun i hi => Lay.more_old _ _ _ i hi, ((Below.refl _ _).alloc h.size _).trans hb⟩
theorem puts1 (h : Rep B w L s) (hf : Wf N s) (b : Blk) (l : List UInt8) (hk : b.kids = []) (hl : b.lines = [l]) (hw : b.width ≤ 1099511627776 ∧ b.in_ ≤ 1099511627776) (hN : N + 3 ≤ 1099511627776) :
    Calls Tryz.prog 49 #[.pointer (some ⟨L.pb, 0, none⟩), .pointer (some ⟨w.heap.size + 1, 0, none⟩)] ((w.alloc (.cells #[.string (S l)] 9)).alloc (.cells (cellsB b (.slice none 0 0) (.slice (some ⟨w.heap.size, 0, none⟩) 1 1)) 43)) fun e w' => (∃ g, e = .returned (.pointer g)) ∧ Step B w L s (s.puts b) w' := by
  have h1 := lays_c (h.born1 hf b l hk hl) (hf.born hk (by rw [hl]; simp) hw (by omega)) s.bs.length (by simp [St.born]) (by omega)
  rw [Lay.more_ad] at h1
  refine h1.mono ?_
  rintro e w' ⟨rfl, rv, hr, hb⟩
  exact ⟨⟨_, rfl⟩, _, rv, hr, fun i hi => Lay.more_old _ _ _ i hi, (((Below.refl _ _).alloc h.size _).alloc (by have := h.size; simp; omega) _).trans hb⟩
theorem sets0 (h : Rep B w L s) (hf : Wf N s) (b : Blk) (hk : b.kids = []) (hl : b.lines = []) (hw : b.width ≤ 1099511627776 ∧ b.in_ ≤ 1099511627776) (hN : N + 3 ≤ 1099511627776) :
    Calls Tryz.prog 89 #[.pointer (some ⟨L.pb, 0, none⟩), .pointer (some ⟨w.heap.size, 0, none⟩)] (w.alloc (.cells (cellsB b (.slice none 0 0) (.slice none 0 0)) 43)) fun e w' => e = .returned (.tuple #[]) ∧ Step B w L s (s.sets b) w' := by
  have h1 := ends_c (h.born0 hf b hk hl) (hf.born hk (by rw [hl]; simp) hw (by omega)) s.bs.length (by simp [St.born]) (by omega)
  rw [Lay.more_ad] at h1
  refine h1.mono ?_
  rintro e w' ⟨rfl, rv, hr, hb⟩
  exact ⟨rfl, _, rv, hr, fun i hi => Lay.more_old _ _ _ i hi, ((Below.refl _ _).alloc h.size _).trans hb⟩
theorem sets1 (h : Rep B w L s) (hf : Wf N s) (b : Blk) (l : List UInt8) (hk : b.kids = []) (hl : b.lines = [l]) (hw : b.width ≤ 1099511627776 ∧ b.in_ ≤ 1099511627776) (hN : N + 3 ≤ 1099511627776) :
    Calls Tryz.prog 89 #[.pointer (some ⟨L.pb, 0, none⟩), .pointer (some ⟨w.heap.size + 1, 0, none⟩)] ((w.alloc (.cells #[.string (S l)] 9)).alloc (.cells (cellsB b (.slice none 0 0) (.slice (some ⟨w.heap.size, 0, none⟩) 1 1)) 43)) fun e w' => e = .returned (.tuple #[]) ∧ Step B w L s (s.sets b) w' := by
  have h1 := ends_c (h.born1 hf b l hk hl) (hf.born hk (by rw [hl]; simp) hw (by omega)) s.bs.length (by simp [St.born]) (by omega)
  rw [Lay.more_ad] at h1
  refine h1.mono ?_
  rintro e w' ⟨rfl, rv, hr, hb⟩
  exact ⟨rfl, _, rv, hr, fun i hi => Lay.more_old _ _ _ i hi, (((Below.refl _ _).alloc h.size _).alloc (by have := h.size; simp; omega) _).trans hb⟩
end
end Go.Proofs.YtpimcdkhjingjaaGreatDoor.X
namespace Go.Proofs.YtpimcdkhjingjaaGreatDoor.X
open Go.RowKit Go.Proofs.YtpimcdkhjingjaaGreatDoorW.PrintWords
def paraB (l : List UInt8) : Blk := { Blk.zero with kind := 2, lines := [l] }
def St.rest (s : St) : St :=
  if (s.get (s.opAt s.here)).kind = 5 then
    if 0 < (s.get (s.opAt s.here)).fence ∨ s.cur.blank = false then (s.pushLine (s.opAt s.here) s.cur.rest).touch (s.here + 1) else s.pushLine (s.opAt s.here) s.cur.rest
  else if s.cur.blank = true then s
  else if (s.get (s.opAt s.here)).kind = 2 then (s.pushLine (s.opAt s.here) s.cur.word).touch (s.here + 1)
  else s.puts (paraB s.cur.word)
def PS (B : Nat) (L : Lay) (s : St) (w w' : World) : Prop := Rep B w' L s ∧ Below B w w'
theorem PS.all {B : Nat} {L : Lay} {s : St} {w w' : World} (o : Nat) (ho : o < s.bs.length) (h : PS B L s w w') :
    w'.cell? ⟨L.ad o, 11, none⟩ = some (L.rv (.line o)) ∧ w'.frozen? ⟨L.ad o, 11, none⟩ = false ∧ w'.cell? ⟨L.pb, 2, none⟩ = some (.pointer (some ⟨L.cb, 0, none⟩)) ∧ PS B L s w w' := ⟨h.1.b11 o ho, h.1.bf o ho 11, h.1.p2, h⟩
theorem PS.cells {B : Nat} {L : Lay} {s : St} {w w' : World} (o : Nat) (ho : o < s.bs.length) (h : PS B L s w w') : w'.cell? ⟨L.ad o, 11, none⟩ = some (L.rv (.line o)) ∧ w'.frozen? ⟨L.ad o, 11, none⟩ = false ∧ w'.cell? ⟨L.pb, 2, none⟩ = some (.pointer (some ⟨L.cb, 0, none⟩)) := ⟨h.1.b11 o ho, h.1.bf o ho 11, h.1.p2⟩
set_option maxRecDepth 100000 in
set_option maxHeartbeats 4000000 in
theorem rest_code {B : Nat} {w : World} {L : Lay} {s : St} {N : Nat} (h : Rep B w L s) (hf : Wf N s) (hN : N + 3 ≤ 1099511627776) (hkind : (s.get (s.opAt s.here)).kind = 5) :
    Calls Tryz.prog 32 #[.pointer (some ⟨L.pb, 0, none⟩)] w fun e w' => e = .returned (.tuple #[]) ∧ Step B w L s s.rest w' := by
  have HN := Lib.hid (now_c h hf)
  have ho := hf.opAt hf.here
  have HRest := Lib.hid (fun w' (hr : PS B L s w w') => (Rest_p hf w' hr.1).mono (fun e w2 (hh : _ ∧ _ ∧ _) => (⟨hh.1, hh.2.1, hr.2.trans (hh.2.2.mono hr.1.size)⟩ : e = .returned (.string (S s.cur.rest)) ∧ PS B L s w w2)))
  have Hr : Hid (s.rest = if 0 < (s.get (s.opAt s.here)).fence ∨ s.cur.blank = false then (s.pushLine (s.opAt s.here) s.cur.rest).touch (s.here + 1) else s.pushLine (s.opAt s.here) s.cur.rest) := by
    show _ = _
    unfold St.rest
    rw [if_pos hkind]
  obtain ⟨o, hoo⟩ : ∃ o, o = s.opAt s.here := ⟨_, rfl⟩
  rw [← hoo] at HN ho Hr hkind
  have Ho := Lib.hid hoo
  clear hoo
  have hln := Nat.le_trans (hf.linl o ho) hf.big
  have b0 := h.b0 o ho
  rw [hkind] at b0
  obtain ⟨T, hT⟩ : ∃ T, T = s.cur.rest := ⟨_, rfl⟩
  rw [← hT] at HRest Hr
  clear hT hkind
  go_enter Tryz.func32, Tryz.ntmps32
  go_wp2_with (go_at_call 47; refine HN.out.mono ?_; rintro e w1 ⟨rfl, n1, rfl⟩)
  clear HN b0
  have c11 : w.cell? ⟨L.ad o, 11, none⟩ = some (L.rv (.line o)) := h.b11 o ho
  have c2 : w.cell? ⟨L.pb, 2, none⟩ = some (.pointer (some ⟨L.cb, 0, none⟩)) := h.p2
  go_region_law (first
      | (refine step_call rfl Tryz.func53 (by kernel_rfl) rfl #[.pointer (some ⟨L.cb, 0, none⟩)] rfl (by simp only [List.map_toArray, List.map_cons, List.map_nil]; rfl) ?_; refine (HRest.out _ ?_).mono ?_; exact ⟨h.keep fun _ _ _ => rfl, ⟨rfl, rfl, rfl, Nat.le_refl _, fun _ _ => rfl⟩⟩; rintro e w3 ⟨rfl, hb3⟩; refine ⟨_, rfl, ?_⟩; have d11 : w3.cell? ⟨L.ad o, 11, none⟩ = some (L.rv (.line o)) := hb3.1.b11 o ho; have d2 : w3.cell? ⟨L.pb, 2, none⟩ = some (.pointer (some ⟨L.cb, 0, none⟩)) := hb3.1.p2; have d11a : (w3.alloc (.cells #[.string (S T)] 9)).cell? ⟨L.ad o, 11, none⟩ = some (L.rv (.line o)) := (hb3.1.alloc _).b11 o ho)
      | (revert hb3; intro hb3; refine step_string w3 (.string (S T)) B (L.rv (.line o)) (s.get o).lines.length (elems L s (.line o)) rfl _ _ rfl rfl rfl (hb3.1.ownL o ho) rfl hln hb3.1.size ?_; intro g4 cap4 w4 hown4 hg4 hat4; have r4f : w4.frozen? ⟨L.ad o, 11, none⟩ = false := blk_frozen ((hb3.1.alloc _).grown_b (.line o) ho hg4 o ho) 11; have r4 : w4.cell? ⟨L.ad o, 11, none⟩ = some (L.rv (.line o)) := (blk_cell ((hb3.1.alloc _).grown_b (.line o) ho hg4 o ho) 11).trans rfl))
  all_goals
    obtain ⟨rv5, w5, hr5, hb5, hw5⟩ : ∃ rv5 w5, Rep B w5 ⟨L.pb, L.cb, L.ad, rv5⟩ (s.pushLine o T) ∧ Below B w w5 ∧ w5 = w4.setCell ⟨L.ad o, 11, none⟩ (.slice (some ⟨g4, 0, none⟩) ((s.get o).lines.length + 1) cap4) :=
      ⟨_, _, (hb3.1.alloc _).pushLine o T ho hown4 hg4 hat4, hb3.2.trans (((Below.refl _ _).alloc hb3.1.size _).trans (((hb3.1.alloc _).grown_below (.line o) ho hg4).setCell (h.bb o ho) _)), rfl⟩
    rw [← hw5]
    clear hw5 r4 r4f hat4 hg4 hown4 d11a d2 d11 hb3 HRest c11 c2
    have hf5 := hf.pushLine (l := T) ho (by omega)
    have ho5 : o < (s.pushLine o T).bs.length := by unfold St.pushLine; rw [St.set_len]; exact ho
    have hfe : ((s.pushLine o T).get o).fence = (s.get o).fence := by unfold St.pushLine; rw [St.get_set s o o _ ho, if_pos rfl]
    have r9 : w5.cell? ⟨L.ad o, 9, none⟩ = some (.int .i64 (((s.pushLine o T).get o).fence : Int)) := hr5.b9 o ho5
    rw [hfe] at r9
    have r2 : w5.cell? ⟨L.pb, 2, none⟩ = some (.pointer (some ⟨L.cb, 0, none⟩)) := hr5.p2
    have r1 : w5.cell? ⟨L.pb, 1, none⟩ = some (.int .i64 (s.here : Int)) := hr5.p1
    have HB := Lib.hid (Blank_p hf5 w5 hr5)
    obtain ⟨bl, hbl⟩ : ∃ bl, bl = s.cur.blank := ⟨_, rfl⟩
    change Hid (Calls _ _ _ _ fun e w' => e = .returned (.bool s.cur.blank) ∧ _) at HB
    rw [← hbl] at HB Hr
    obtain ⟨f, hff⟩ : ∃ f, f = (s.get o).fence := ⟨_, rfl⟩
    rw [← hff] at r9 Hr
    have hol := Nat.le_trans hf.opl hf.big
    have hhe := hf.here
    obtain ⟨m, hm⟩ : ∃ m, m = s.here + 1 := ⟨_, rfl⟩
    rw [← hm] at Hr
    have hw1 : IntKind.i64.wrap ((s.here : Int) + 1) = (m : Int) := by rw [IntWalk.i64_in _ (by omega)]; omega
    have HT := Lib.hid (fun w' hr => touch_c (B := B) (w := w') (L := ⟨L.pb, L.cb, L.ad, rv5⟩) hr hf5 m (by show m ≤ s.op.length; omega))
    clear hol hhe hm hff hbl hfe hf5 ho5
    have hc : 0 < f ∨ f = 0 ∧ bl = false ∨ f = 0 ∧ bl = true := by cases bl <;> simp <;> omega
    rcases hc with c1 | ⟨c1, rfl⟩ | ⟨c1, rfl⟩
    · have c1' : (0 : Int) < (f : Int) := by omega
      have Hr2 : Hid (s.rest = (s.pushLine o T).touch m) := by show _ = _; rw [Hr.out, if_pos (.inl c1)]
      clear Hr
      go_wp2_with (first
        | (go_at_call 30; refine (HT.out _ ?_).mono ?_; exact hr5.keep fun _ _ _ => rfl; rintro e w6 ⟨rfl, hr6, hb6⟩))
      go_end0
      exact ⟨rfl, L.ad, rv5, by rw [Hr2.out]; exact hr6, fun _ _ => rfl, hb5.trans (Below.trans ⟨rfl, rfl, rfl, Nat.le_refl _, fun _ _ => rfl⟩ hb6)⟩
    · subst c1
      have Hr2 : Hid (s.rest = (s.pushLine o T).touch m) := by show _ = _; rw [Hr.out, if_pos (.inr rfl)]
      clear Hr
      go_wp2_with (first
        | (go_at_call 27; refine HB.out.mono ?_; rintro e w6 ⟨rfl, hr6, hb6⟩; have r61 : w6.cell? ⟨L.pb, 1, none⟩ = some (.int .i64 (s.here : Int)) := hr6.p1)
        | (go_at_call 30; refine (HT.out _ ?_).mono ?_; exact hr6.keep fun _ _ _ => rfl; rintro e w7 ⟨rfl, hr7, hb7⟩))
      go_end0
      exact ⟨rfl, L.ad, rv5, by rw [Hr2.out]; exact hr7, fun _ _ => rfl, hb5.trans ((hb6.mono hr5.size).trans (Below.trans ⟨rfl, rfl, rfl, Nat.le_refl _, fun _ _ => rfl⟩ hb7))⟩
    · subst c1
      have Hr2 : Hid (s.rest = s.pushLine o T) := by show _ = _; rw [Hr.out, if_neg (by simp)]
      clear Hr
      go_wp2_with (first
        | (go_at_call 27; refine HB.out.mono ?_; rintro e w6 ⟨rfl, hr6, hb6⟩))
      go_end0
      exact ⟨rfl, L.ad, rv5, by rw [Hr2.out]; exact hr6, fun _ _ => rfl, hb5.trans (hb6.mono hr5.size)⟩
end Go.Proofs.YtpimcdkhjingjaaGreatDoor.X
namespace Go.Proofs.YtpimcdkhjingjaaGreatDoor.X
open Go.RowKit Go.Proofs.YtpimcdkhjingjaaGreatDoorW.PrintWords
set_option maxRecDepth 100000 in
set_option maxHeartbeats 4000000 in
theorem rest_para {B : Nat} {w : World} {L : Lay} {s : St} {N : Nat} (h : Rep B w L s) (hf : Wf N s) (hN : N + 3 ≤ 1099511627776) (hkind : (s.get (s.opAt s.here)).kind = 2) (hbl : s.cur.blank = false) :
    Calls Tryz.prog 32 #[.pointer (some ⟨L.pb, 0, none⟩)] w fun e w' => e = .returned (.tuple #[]) ∧ Step B w L s s.rest w' := by
  have HN := Lib.hid (now_c h hf)
  have ho := hf.opAt hf.here
  have HW := Lib.hid (fun w' (hr : PS B L s w w') => (Word_p hf w' hr.1).mono (fun e w2 (hh : _ ∧ _ ∧ _) => (⟨hh.1, hh.2.1, hr.2.trans (hh.2.2.mono hr.1.size)⟩ : e = .returned (.string (S s.cur.word)) ∧ PS B L s w w2)))
  have HB : Hid (∀ w', PS B L s w w' → Calls Tryz.prog 27 #[.pointer (some ⟨L.cb, 0, none⟩)] w' fun e w2 => e = .returned (.bool false) ∧ PS B L s w w2) := fun w' hr => (Blank_p hf w' hr.1).mono (fun e w2 (hh : _ ∧ _ ∧ _) => ⟨by rw [hh.1, hbl], hh.2.1, hr.2.trans (hh.2.2.mono hr.1.size)⟩)
  have Hr : Hid (s.rest = (s.pushLine (s.opAt s.here) s.cur.word).touch (s.here + 1)) := by
    show _ = _
    unfold St.rest
    rw [if_neg (by omega), if_neg (by simp [hbl]), if_pos hkind]
  obtain ⟨o, hoo⟩ : ∃ o, o = s.opAt s.here := ⟨_, rfl⟩
  rw [← hoo] at HN ho Hr hkind
  have Ho := Lib.hid hoo
  clear hoo
  have hln := Nat.le_trans (hf.linl o ho) hf.big
  have b0 := h.b0 o ho
  rw [hkind] at b0
  have hp2 := h.p2
  obtain ⟨T, hT⟩ : ∃ T, T = s.cur.word := ⟨_, rfl⟩
  rw [← hT] at HW Hr
  clear hT hbl
  go_enter Tryz.func32, Tryz.ntmps32
  go_wp2_with (first
    | (go_at_call 47; refine HN.out.mono ?_; rintro e w1 ⟨rfl, n1, rfl⟩)
    | (go_at_call 27; refine (HB.out _ ?_).mono ?_; exact ⟨h.keep fun _ _ _ => rfl, ⟨rfl, rfl, rfl, Nat.le_refl _, fun _ _ => rfl⟩⟩; rintro e w2 ⟨rfl, hb2⟩; have b02 : w2.cell? ⟨L.ad o, 0, none⟩ = some (.int .i64 2) := by rw [hb2.1.b0 o ho, hkind]; rfl))
  clear HN b0 hkind HB hp2
  have c11 : w2.cell? ⟨L.ad o, 11, none⟩ = some (L.rv (.line o)) := hb2.1.b11 o ho
  have c2 : w2.cell? ⟨L.pb, 2, none⟩ = some (.pointer (some ⟨L.cb, 0, none⟩)) := hb2.1.p2
  go_region_law (first
      | (refine step_call rfl Tryz.func29 (by kernel_rfl) rfl #[.pointer (some ⟨L.cb, 0, none⟩)] rfl (by simp only [List.map_toArray, List.map_cons, List.map_nil]; rfl) ?_; refine (HW.out _ ?_).mono ?_; exact ⟨hb2.1.keep fun _ _ _ => rfl, Below.trans hb2.2 ⟨rfl, rfl, rfl, Nat.le_refl _, fun _ _ => rfl⟩⟩; rintro e w3 ⟨rfl, hb3⟩; refine ⟨_, rfl, ?_⟩; have d11 : w3.cell? ⟨L.ad o, 11, none⟩ = some (L.rv (.line o)) := hb3.1.b11 o ho; have d2 : w3.cell? ⟨L.pb, 2, none⟩ = some (.pointer (some ⟨L.cb, 0, none⟩)) := hb3.1.p2; have d11a : (w3.alloc (.cells #[.string (S T)] 9)).cell? ⟨L.ad o, 11, none⟩ = some (L.rv (.line o)) := (hb3.1.alloc _).b11 o ho)
      | (revert hb3; intro hb3; refine step_string w3 (.string (S T)) B (L.rv (.line o)) (s.get o).lines.length (elems L s (.line o)) rfl _ _ rfl rfl rfl (hb3.1.ownL o ho) rfl hln hb3.1.size ?_; intro g4 cap4 w4 hown4 hg4 hat4; have r4f : w4.frozen? ⟨L.ad o, 11, none⟩ = false := blk_frozen ((hb3.1.alloc _).grown_b (.line o) ho hg4 o ho) 11; have r4 : w4.cell? ⟨L.ad o, 11, none⟩ = some (L.rv (.line o)) := (blk_cell ((hb3.1.alloc _).grown_b (.line o) ho hg4 o ho) 11).trans rfl))
  all_goals
    obtain ⟨rv5, w5, hr5, hb5, hw5⟩ : ∃ rv5 w5, Rep B w5 ⟨L.pb, L.cb, L.ad, rv5⟩ (s.pushLine o T) ∧ Below B w w5 ∧ w5 = w4.setCell ⟨L.ad o, 11, none⟩ (.slice (some ⟨g4, 0, none⟩) ((s.get o).lines.length + 1) cap4) :=
      ⟨_, _, (hb3.1.alloc _).pushLine o T ho hown4 hg4 hat4, hb3.2.trans (((Below.refl _ _).alloc hb3.1.size _).trans (((hb3.1.alloc _).grown_below (.line o) ho hg4).setCell (h.bb o ho) _)), rfl⟩
    rw [← hw5]
    clear hw5 r4 r4f hat4 hg4 hown4 d11a d2 d11 hb3 HW c11 c2 b02 hb2
    have hf5 := hf.pushLine (l := T) ho (by omega)
    have r1 : w5.cell? ⟨L.pb, 1, none⟩ = some (.int .i64 (s.here : Int)) := hr5.p1
    have hol := Nat.le_trans hf.opl hf.big
    have hhe := hf.here
    obtain ⟨m, hm⟩ : ∃ m, m = s.here + 1 := ⟨_, rfl⟩
    rw [← hm] at Hr
    have hw1 : IntKind.i64.wrap ((s.here : Int) + 1) = (m : Int) := by rw [IntWalk.i64_in _ (by omega)]; omega
    have HT := Lib.hid (fun w' hr => touch_c (B := B) (w := w') (L := ⟨L.pb, L.cb, L.ad, rv5⟩) hr hf5 m (by show m ≤ s.op.length; omega))
    clear hol hhe hm hf5
    go_wp2_with (first
        | (go_at_call 30; refine (HT.out _ ?_).mono ?_; exact hr5.keep fun _ _ _ => rfl; rintro e w6 ⟨rfl, hr6, hb6⟩))
    go_end0
    exact ⟨rfl, L.ad, rv5, by rw [Hr.out]; exact hr6, fun _ _ => rfl, hb5.trans (Below.trans ⟨rfl, rfl, rfl, Nat.le_refl _, fun _ _ => rfl⟩ hb6)⟩
set_option maxRecDepth 100000 in
set_option maxHeartbeats 4000000 in
theorem rest_other {B : Nat} {w : World} {L : Lay} {s : St} {N : Nat} (h : Rep B w L s) (hf : Wf N s) (hN : N + 3 ≤ 1099511627776) (hkind : (s.get (s.opAt s.here)).kind ≠ 5) (hoth : s.cur.blank = true ∨ s.cur.blank = false ∧ (s.get (s.opAt s.here)).kind ≠ 2) :
    Calls Tryz.prog 32 #[.pointer (some ⟨L.pb, 0, none⟩)] w fun e w' => e = .returned (.tuple #[]) ∧ Step B w L s s.rest w' := by
  have HN := Lib.hid (now_c h hf)
  have ho := hf.opAt hf.here
  have HW := Lib.hid (fun w' (hr : PS B L s w w') => (Word_p hf w' hr.1).mono (fun e w2 (hh : _ ∧ _ ∧ _) => (⟨hh.1, hh.2.1, hr.2.trans (hh.2.2.mono hr.1.size)⟩ : e = .returned (.string (S s.cur.word)) ∧ PS B L s w w2)))
  have HB : Hid (∀ w', PS B L s w w' → Calls Tryz.prog 27 #[.pointer (some ⟨L.cb, 0, none⟩)] w' fun e w2 => e = .returned (.bool s.cur.blank) ∧ PS B L s w w2) := fun w' hr => (Blank_p hf w' hr.1).mono (fun e w2 (hh : _ ∧ _ ∧ _) => ⟨hh.1, hh.2.1, hr.2.trans (hh.2.2.mono hr.1.size)⟩)
  have Hr : Hid (s.rest = if s.cur.blank = true then s else if (s.get (s.opAt s.here)).kind = 2 then (s.pushLine (s.opAt s.here) s.cur.word).touch (s.here + 1) else s.puts (paraB s.cur.word)) := by
    show _ = _
    unfold St.rest
    rw [if_neg hkind]
  obtain ⟨o, hoo⟩ : ∃ o, o = s.opAt s.here := ⟨_, rfl⟩
  rw [← hoo] at HN ho Hr hkind hoth
  have Ho := Lib.hid hoo
  clear hoo
  have b0 := h.b0 o ho
  have hp2 := h.p2
  obtain ⟨T, hT⟩ : ∃ T, T = s.cur.word := ⟨_, rfl⟩
  rw [← hT] at HW Hr
  clear hT
  obtain ⟨bl, hbl⟩ : ∃ bl, bl = s.cur.blank := ⟨_, rfl⟩
  rw [← hbl] at HB Hr hoth
  clear hbl
  have k5 : ¬ ((s.get o).kind : Int) = 5 := by omega
  rcases hoth with rfl | ⟨rfl, k2⟩
  · have Hr2 : Hid (s.rest = s) := by show _ = _; rw [Hr.out, if_pos rfl]
    clear Hr hkind
    go_enter Tryz.func32, Tryz.ntmps32
    go_wp2_with (first
      | (go_at_call 47; refine HN.out.mono ?_; rintro e w1 ⟨rfl, n1, rfl⟩)
      | (go_at_call 27; refine (HB.out _ ?_).mono ?_; exact ⟨h.keep fun _ _ _ => rfl, ⟨rfl, rfl, rfl, Nat.le_refl _, fun _ _ => rfl⟩⟩; rintro e w2 ⟨rfl, hb2⟩))
    go_end0
    exact ⟨rfl, L.ad, L.rv, by rw [Hr2.out]; exact hb2.1, fun _ _ => rfl, hb2.2⟩
  · have Hr2 : Hid (s.rest = s.puts (paraB T)) := by show _ = _; rw [Hr.out, if_neg (by simp), if_neg k2]
    have k2' : ¬ ((s.get o).kind : Int) = 2 := by omega
    clear Hr hkind k2
    go_enter Tryz.func32, Tryz.ntmps32
    go_wp2_with (first
      | (go_at_call 47; refine HN.out.mono ?_; rintro e w1 ⟨rfl, n1, rfl⟩)
      | (go_at_call 27; refine (HB.out _ ?_).mono ?_; exact ⟨h.keep fun _ _ _ => rfl, ⟨rfl, rfl, rfl, Nat.le_refl _, fun _ _ => rfl⟩⟩; rintro e w2 ⟨rfl, hb2⟩; have b02 : w2.cell? ⟨L.ad o, 0, none⟩ = some (.int .i64 ((s.get o).kind : Int)) := hb2.1.b0 o ho; have p22 : w2.cell? ⟨L.pb, 2, none⟩ = some (.pointer (some ⟨L.cb, 0, none⟩)) := hb2.1.p2)
      | (go_at_call 29; refine (HW.out _ ?_).mono ?_; exact ⟨hb2.1.keep fun _ _ _ => rfl, Below.trans hb2.2 ⟨rfl, rfl, rfl, Nat.le_refl _, fun _ _ => rfl⟩⟩; rintro e w3 ⟨rfl, hb3⟩)
      | (go_at_call 49; refine (puts1 hb3.1 hf (paraB T) T rfl rfl ⟨Nat.zero_le _, Nat.zero_le _⟩ hN).mono ?_; rintro e w4 ⟨⟨g, rfl⟩, ad4, rv4, hr4, had4, hb4⟩))
    go_end0
    exact ⟨rfl, ad4, rv4, by rw [Hr2.out]; exact hr4, had4, hb3.2.trans hb4⟩
theorem rest_c {B : Nat} {w : World} {L : Lay} {s : St} {N : Nat} (h : Rep B w L s) (hf : Wf N s) (hN : N + 3 ≤ 1099511627776) :
    Calls Tryz.prog 32 #[.pointer (some ⟨L.pb, 0, none⟩)] w fun e w' => e = .returned (.tuple #[]) ∧ Step B w L s s.rest w' := by
  by_cases k5 : (s.get (s.opAt s.here)).kind = 5
  · exact rest_code h hf hN k5
  · cases hb : s.cur.blank with
    | true => exact rest_other h hf hN k5 (.inl hb)
    | false =>
      by_cases k2 : (s.get (s.opAt s.here)).kind = 2
      · exact rest_para h hf hN k2 hb
      · exact rest_other h hf hN k5 (.inr ⟨hb, k2⟩)
end Go.Proofs.YtpimcdkhjingjaaGreatDoor.X
namespace Go.Proofs.YtpimcdkhjingjaaGreatDoor.X
open Go.RowKit Go.Proofs.YtpimcdkhjingjaaGreatDoorW.PrintWords
def GB (B : Nat) (w : World) : Prop := ∃ w0 : World, w0.heap.size = B ∧ GL w0 ∧ Below B w0 w
theorem GB.gl {B : Nat} {w : World} (h : GB B w) : GL w := by
  obtain ⟨w0, rfl, h1, h2⟩ := h
  exact h1.below h2
theorem GB.below {B : Nat} {w w' : World} (h : GB B w) (hb : Below B w w') : GB B w' := by
  obtain ⟨w0, h0, h1, h2⟩ := h
  exact ⟨w0, h0, h1, h2.trans hb⟩
structure LeafFns where
  heading : List UInt8 → Nat × List UInt8
  fence : List UInt8 → UInt8 × Nat × List UInt8
  under : List UInt8 → Nat
  rule : List UInt8 → Bool
  marker : List UInt8 → Nat × UInt8 × Nat
  closes : List UInt8 → UInt8 → Nat → Bool
structure LeafOk (F : LeafFns) : Prop where
  heading : ∀ (l : List UInt8) (w : World), GL w → l.length ≤ 1099511627776 → Calls Tryz.prog 88 #[.string (S l)] w fun e w' => e = .returned (.tuple #[.int .i64 ((F.heading l).1 : Int), .string (S (F.heading l).2)]) ∧ Below w.heap.size w w'
  fence : ∀ (l : List UInt8) (w : World), GL w → l.length ≤ 1099511627776 → Calls Tryz.prog 90 #[.string (S l)] w fun e w' => e = .returned (.tuple #[.int .u8 ((F.fence l).1.toNat : Int), .int .i64 ((F.fence l).2.1 : Int), .string (S (F.fence l).2.2)]) ∧ Below w.heap.size w w'
  under : ∀ (l : List UInt8) (w : World), GL w → l.length ≤ 1099511627776 → Calls Tryz.prog 91 #[.string (S l)] w fun e w' => e = .returned (.int .i64 (F.under l : Int)) ∧ Below w.heap.size w w'
  rule : ∀ (l : List UInt8) (w : World), GL w → l.length ≤ 1099511627776 → Calls Tryz.prog 92 #[.string (S l)] w fun e w' => e = .returned (.bool (F.rule l)) ∧ Below w.heap.size w w'
  marker : ∀ (l : List UInt8) (w : World), GL w → l.length ≤ 1099511627776 → Calls Tryz.prog 121 #[.string (S l)] w fun e w' => e = .returned (.tuple #[.int .i64 ((F.marker l).1 : Int), .int .u8 ((F.marker l).2.1.toNat : Int), .int .i64 ((F.marker l).2.2 : Int)]) ∧ Below w.heap.size w w'
  marker_le : ∀ l, (F.marker l).1 ≤ l.length ∧ (F.marker l).1 ≤ 11
  closes : ∀ (l : List UInt8) (c : UInt8) (n : Nat) (w : World), GL w → l.length ≤ 1099511627776 → Calls Tryz.prog 84 #[.string (S l), .int .u8 (c.toNat : Int), .int .i64 (n : Int)] w fun e w' => e = .returned (.bool (F.closes l c n)) ∧ Below w.heap.size w w'
theorem trim_c (l : List UInt8) (hl : l.length ≤ 1099511627776) (w : World) : Calls Tryz.prog 35 #[.string (S l), .string ⟨#[32, 9]⟩] w fun e w' => e = .returned (.string (S (Lib.trimS l [32, 9]))) ∧ Below w.heap.size w w' :=
  strings_Trim.calls _ _ _ w (by
    have hs : (S l).size ≤ 9223372036854775807 := by rw [S_size]; omega
    unfold strings_Trim.f trimOk
    rw [if_pos (by rw [decide_eq_true hs]; rfl)]
    rfl)
end Go.Proofs.YtpimcdkhjingjaaGreatDoor.X
namespace Go.Proofs.YtpimcdkhjingjaaGreatDoor.X
open Go.RowKit Go.Proofs.YtpimcdkhjingjaaGreatDoorW.PrintWords
def listB (c : UInt8) (num : Bool) (start : Nat) : Blk := { Blk.zero with kind := 7, sign := c, flag := num, n := start }
def itemB (width : Nat) : Blk := { Blk.zero with kind := 8, width := width }
def dotted (c : UInt8) : Bool := c == 46 || c == 41
def St.noItem (F : LeafFns) (s : St) (l : List UInt8) : Bool :=
  (F.marker l).1 == 0 || ((s.get (s.opAt s.here)).kind == 2 && ((Lib.trimS (l.drop (F.marker l).1) [32, 9]).isEmpty || (dotted (F.marker l).2.1 && (F.marker l).2.2 != 1)))
def St.newList (s : St) (c : UInt8) : Bool := (s.get (s.opAt s.here)).kind != 7 || (s.get (s.opAt s.here)).sign != c
def St.listed (F : LeafFns) (s : St) (l : List UInt8) : St :=
  if s.newList (F.marker l).2.1 then s.puts (listB (F.marker l).2.1 (dotted (F.marker l).2.1) (F.marker l).2.2) else s
def Cur.marked (q : Cur) (n : Nat) : Cur := Cur.take n (q.skip q.indent)
def Cur.behind (q : Cur) : Nat := if q.blank || decide (5 ≤ q.indent) then 1 else q.indent
def St.itemed (s : St) (n : Nat) : St :=
  (s.at ((s.cur.marked n).skip (s.cur.marked n).behind)).puts (itemB (s.cur.indent + n + (s.cur.marked n).behind))
def St.item (F : LeafFns) (s : St) (l : List UInt8) : Bool × St :=
  if s.noItem F l then (false, s) else (true, (s.listed F l).itemed (F.marker l).1)
theorem u8_eq (c d : UInt8) : ((c.toNat : Int) == (d.toNat : Int)) = (c == d) := by
  by_cases h : c = d
  · subst h; simp
  · have h2 : c.toNat ≠ d.toNat := fun e => h (UInt8.toNat_inj.1 e)
    have h3 : (c == d) = false := by simpa using h
    rw [h3]
    have h4 : ¬ ((c.toNat : Int) = (d.toNat : Int)) := by omega
    simpa using h4
theorem int_beq (a b : Nat) : ((a : Int) == (b : Int)) = (a == b) := by
  by_cases h : a = b
  · subst h; simp
  · have h3 : (a == b) = false := by simpa using h
    rw [h3]
    have h4 : ¬ ((a : Int) = (b : Int)) := by omega
    simpa using h4
theorem loop_ne (bs : ByteArray) : ∀ k i (r : List UInt8), bs.size - i = k → r ≠ [] → ByteArray.toList.loop bs i r ≠ [] := by
  intro k
  induction k with
  | zero =>
    intro i r hk hr
    unfold ByteArray.toList.loop
    rw [if_neg (by omega)]
    simpa using hr
  | succ k ih =>
    intro i r hk hr
    unfold ByteArray.toList.loop
    rw [if_pos (by omega)]
    exact ih (i + 1) _ (by omega) (by simp)
theorem S_empty (l : List UInt8) : (S l).toList.isEmpty = l.isEmpty := by
  cases l with
  | nil =>
    unfold ByteArray.toList ByteArray.toList.loop
    rw [if_neg (by rw [S_size]; simp)]
    rfl
  | cons a t =>
    have h : (S (a :: t)).toList ≠ [] := by
      unfold ByteArray.toList ByteArray.toList.loop
      rw [if_pos (by rw [S_size]; simp)]
      exact loop_ne _ _ _ _ rfl (by simp)
    cases h2 : (S (a :: t)).toList with
    | cons b u => rfl
    | nil => exact absurd h2 h
theorem Cur.indent_le2 (q : Cur) (h : q.Ok) : q.indent ≤ 274877906948 := by
  have key : ∀ n (p : Cur), p.Ok → (Cur.skipAll n p).Ok := by
    intro n
    induction n with
    | zero => intro p hp; exact hp
    | succ n ih =>
      intro p hp
      simp only [Cur.skipAll]
      split
      · rename_i hh; exact ih _ (Cur.steps_ok hp (Cur.here_lt hh))
      · exact hp
  have hs : ∀ n (p : Cur), (Cur.skipAll n p).s = p.s := by
    intro n
    induction n with
    | zero => intro p; rfl
    | succ n ih =>
      intro p
      simp only [Cur.skipAll]
      split
      · exact ih _
      · rfl
  have hk := key (q.s.length - q.at_) q h
  have h1 := hk.col_le
  have h2 := hk.at_le
  have h3 := hk.len
  unfold Cur.indent
  omega
theorem lays_len (s : St) (k : Nat) : (s.lays k).bs.length = s.bs.length := by
  unfold St.lays St.layEnd
  rw [St.touch_len]
  show (((s.layUp k).layTop k).pushKid _ k).bs.length = _
  unfold St.pushKid
  rw [St.set_len]
  unfold St.layTop
  rw [St.set_len]
  exact St.layUp_len s k
theorem puts_len (s : St) (b : Blk) : (s.puts b).bs.length = s.bs.length + 1 := by
  unfold St.puts
  rw [lays_len]
  simp [St.born]
section
variable {B N : Nat} {L : Lay} {s : St} {w : World}
theorem Indent_q (hf : Wf N s) (w' : World) (h : PS B L s w w') : Calls Tryz.prog 48 #[.pointer (some ⟨L.cb, 0, none⟩)] w' fun e w2 => e = .returned (.int .i64 (s.cur.indent : Int)) ∧ PS B L s w w2 :=
  (Indent_p hf w' h.1).mono fun _ _ ⟨h1, h2, h3⟩ => ⟨h1, h2, h.2.trans (h3.mono h.1.size)⟩
theorem Word_q (hf : Wf N s) (w' : World) (h : PS B L s w w') : Calls Tryz.prog 29 #[.pointer (some ⟨L.cb, 0, none⟩)] w' fun e w2 => e = .returned (.string (S s.cur.word)) ∧ PS B L s w w2 :=
  (Word_p hf w' h.1).mono fun _ _ ⟨h1, h2, h3⟩ => ⟨h1, h2, h.2.trans (h3.mono h.1.size)⟩
theorem Blank_q (hf : Wf N s) (w' : World) (h : PS B L s w w') : Calls Tryz.prog 27 #[.pointer (some ⟨L.cb, 0, none⟩)] w' fun e w2 => e = .returned (.bool s.cur.blank) ∧ PS B L s w w2 :=
  (Blank_p hf w' h.1).mono fun _ _ ⟨h1, h2, h3⟩ => ⟨h1, h2, h.2.trans (h3.mono h.1.size)⟩
theorem Skip_q (hf : Wf N s) (n : Nat) (hn : n ≤ 1099511627776) (w' : World) (h : PS B L s w w') : Calls Tryz.prog 50 #[.pointer (some ⟨L.cb, 0, none⟩), .int .i64 (n : Int)] w' fun e w2 => RetInt e ∧ PS B L (s.at (s.cur.skip n)) w w2 ∧ (s.cur.skip n).Ok :=
  (Skip_p hf n hn w' h.1).mono fun _ _ ⟨h1, h2, h3, h4⟩ => ⟨h1, ⟨h2, h.2.trans h4⟩, h3⟩
theorem Take_q (hf : Wf N s) (n : Nat) (hn : n ≤ 1099511627776) (w' : World) (h : PS B L s w w') : Calls Tryz.prog 111 #[.pointer (some ⟨L.cb, 0, none⟩), .int .i64 (n : Int)] w' fun e w2 => RetStr e ∧ PS B L (s.at (Cur.take n s.cur)) w w2 ∧ (Cur.take n s.cur).Ok :=
  (Take_p hf n hn w' h.1).mono fun _ _ ⟨h1, h2, h3, h4⟩ => ⟨h1, ⟨h2, h.2.trans h4⟩, h3⟩
end
set_option maxRecDepth 100000 in
set_option maxHeartbeats 4000000 in
theorem item_c {F : LeafFns} (HF : LeafOk F) {B : Nat} {w : World} {L : Lay} {s : St} {N : Nat} (h : Rep B w L s) (hf : Wf N s) (hG : GB B w) (l : List UInt8) (hl : l.length ≤ 1099511627776) (hN : N + 6 ≤ 1099511627776) :
    Calls Tryz.prog 93 #[.pointer (some ⟨L.pb, 0, none⟩), .string (S l)] w fun e w' => e = .returned (.bool (s.item F l).1) ∧ Step B w L s (s.item F l).2 w' := by
  have HM := Lib.hid (HF.marker l w hG.gl hl)
  have hmle := HF.marker_le l
  have HN := Lib.hid (fun w' (hr : Rep B w' L s) => now_c hr hf)
  have ho := hf.opAt hf.here
  obtain ⟨n, hn⟩ : ∃ n, n = (F.marker l).1 := ⟨_, rfl⟩
  obtain ⟨c, hc⟩ : ∃ c, c = (F.marker l).2.1 := ⟨_, rfl⟩
  obtain ⟨st, hst⟩ : ∃ st, st = (F.marker l).2.2 := ⟨_, rfl⟩
  rw [← hn, ← hc, ← hst] at HM
  rw [← hn] at hmle
  have Hno : Hid (s.noItem F l = (n == 0 || ((s.get (s.opAt s.here)).kind == 2 && ((Lib.trimS (l.drop n) [32, 9]).isEmpty || (dotted c && st != 1))))) := by show _ = _; rw [hn, hc, hst]; rfl
  have Hit : Hid (s.item F l = if s.noItem F l then (false, s) else (true, (if s.newList c then s.puts (listB c (dotted c) st) else s).itemed n)) := by show _ = _; rw [hn, hc, hst]; rfl
  clear hn hc hst
  obtain ⟨d, hd0⟩ : ∃ d, d = dotted c := ⟨_, rfl⟩
  rw [← hd0] at Hno Hit
  have Hd := Lib.hid hd0
  clear hd0
  obtain ⟨no, hno⟩ : ∃ no, no = s.noItem F l := ⟨_, rfl⟩
  rw [← hno] at Hno Hit
  obtain ⟨K, hK⟩ : ∃ K, K = (s.get (s.opAt s.here)).kind := ⟨_, rfl⟩
  rw [← hK] at Hno
  have HK := Lib.hid hK
  have Hb := Lib.hid hno
  clear hno hK
  have HT := Lib.hid (trim_c (l.drop n) (by rw [List.length_drop]; omega))
  have hsz := S_size l
  have hn1 : (n : Int) ≤ ((S l).size : Int) := by omega
  have hn2 : n ≤ (S l).size := by omega
  have hex : (S l).extract n (S l).size = S (l.drop n) := S_drop l n
  clear hsz
  go_enter Tryz.func93, Tryz.ntmps93
  go_upto_region 2 with (go_at_call 121; refine HM.out.mono ?_; rintro e w1 ⟨rfl, hb1⟩)
  have h1 := h.below hb1
  have hB1 : Below B w w1 := hb1.mono h.size
  clear HM hb1
  go_cut [6, 8] from 12 to 23 (fun s6 s8 wx => s6 = .int .u8 (c.toNat : Int) ∧ s8 = .bool d ∧ wx = w1)
  case first =>
    have e46 : ((c.toNat : Int) == 46) = (c == 46) := u8_eq c 46
    have e41 : ((c.toNat : Int) == 41) = (c == 41) := u8_eq c 41
    cases h46 : (c == 46) with
    | true =>
      rw [h46] at e46
      go_wp2_with fail
      go_meet
      exact ⟨rfl, by rw [Hd.out]; unfold dotted; rw [h46]; rfl, rfl⟩
    | false =>
      rw [h46] at e46
      cases h41 : (c == 41) with
      | true =>
        rw [h41] at e41
        go_wp2_with fail
        go_meet
        exact ⟨rfl, by rw [Hd.out]; unfold dotted; rw [h46, h41]; rfl, rfl⟩
      | false =>
        rw [h41] at e41
        go_wp2_with fail
        go_meet
        exact ⟨rfl, by rw [Hd.out]; unfold dotted; rw [h46, h41]; rfl, rfl⟩
  case rest =>
  obtain ⟨rfl, rfl, ew⟩ := hcut
  rw [ew]
  clear ew
  go_upto_region 3 with fail
  go_cut [5, 6, 7, 8, 47] from 24 to 46 (fun s5 s6 s7 s8 s47 wx => s5 = .int .i64 (n : Int) ∧ s6 = .int .u8 (c.toNat : Int) ∧ s7 = .int .i64 (st : Int) ∧ s8 = .bool d ∧ s47 = .bool no ∧ PS B L s w wx)
  case first =>
    have b0 : w1.cell? ⟨L.ad (s.opAt s.here), 0, none⟩ = some (.int .i64 (K : Int)) := by rw [HK.out]; exact h1.b0 _ ho
    have e0 : ((n : Int) == 0) = (n == 0) := int_beq n 0
    have e2 : ((K : Int) == 2) = (K == 2) := int_beq K 2
    have e1 : ((st : Int) == 1) = (st == 1) := int_beq st 1
    have eT := S_empty (Lib.trimS (l.drop n) [32, 9])
    cases h0 : (n == 0) with
    | true =>
      rw [h0] at e0
      go_wp2_with fail
      go_meet
      exact ⟨rfl, rfl, rfl, rfl, by rw [Hno.out, h0]; rfl, h1, hB1⟩
    | false =>
      rw [h0] at e0
      cases hK2 : (K == 2) with
      | false =>
        rw [hK2] at e2
        go_wp2_with (go_at_call 47; refine (HN.out _ h1).mono ?_; rintro e w2 ⟨rfl, n2, rfl⟩)
        go_meet
        exact ⟨rfl, rfl, rfl, rfl, by rw [Hno.out, h0, hK2]; rfl, h1.drewN _, below_drewN hB1 _⟩
      | true =>
        rw [hK2] at e2
        obtain ⟨T, hT⟩ : ∃ T, T = Lib.trimS (l.drop n) [32, 9] := ⟨_, rfl⟩
        rw [← hT] at HT eT Hno
        clear hT
        have hn0 : ¬ (n : Int) < 0 := by omega
        have e1' : ((st : Int) != 1) = !(st == 1) := by rw [← e1]; rfl
        have hfour : T.isEmpty = true ∨ T.isEmpty = false ∧ d = false ∨ T.isEmpty = false ∧ d = true ∧ (st == 1) = true ∨ T.isEmpty = false ∧ d = true ∧ (st == 1) = false := by
          cases T.isEmpty <;> cases d <;> cases (st == 1) <;> simp
        rcases hfour with hte | ⟨hte, rfl⟩ | ⟨hte, rfl, hs1⟩ | ⟨hte, rfl, hs1⟩
        · rw [hte] at eT
          have eT' := List.isEmpty_iff.1 eT
          go_wp2_with (first | (go_at_call 47; refine (HN.out _ h1).mono ?_; rintro e w2 ⟨rfl, n2, rfl⟩) | (go_at_call 35; refine (HT.out _).mono ?_; rintro e w3 ⟨rfl, hb3⟩))
          go_meet
          exact ⟨rfl, rfl, rfl, rfl, by rw [Hno.out, h0, hK2, hte]; rfl, (h1.drewN _).below hb3, (below_drewN hB1 _).trans (hb3.mono (h1.drewN n2).size)⟩
        · rw [hte] at eT
          have eT' : ¬ (S T).toList = [] := fun e => by rw [e] at eT; cases eT
          go_wp2_with (first | (go_at_call 47; refine (HN.out _ h1).mono ?_; rintro e w2 ⟨rfl, n2, rfl⟩) | (go_at_call 35; refine (HT.out _).mono ?_; rintro e w3 ⟨rfl, hb3⟩))
          go_meet
          exact ⟨rfl, rfl, rfl, rfl, by rw [Hno.out, h0, hK2, hte]; rfl, (h1.drewN _).below hb3, (below_drewN hB1 _).trans (hb3.mono (h1.drewN n2).size)⟩
        · rw [hte] at eT
          have eT' : ¬ (S T).toList = [] := fun e => by rw [e] at eT; cases eT
          rw [hs1] at e1 e1'
          go_wp2_with (first | (go_at_call 47; refine (HN.out _ h1).mono ?_; rintro e w2 ⟨rfl, n2, rfl⟩) | (go_at_call 35; refine (HT.out _).mono ?_; rintro e w3 ⟨rfl, hb3⟩))
          go_meet
          exact ⟨rfl, rfl, rfl, rfl, by rw [Hno.out, h0, hK2, hte]; simp [bne, hs1], (h1.drewN _).below hb3, (below_drewN hB1 _).trans (hb3.mono (h1.drewN n2).size)⟩
        · rw [hte] at eT
          have eT' : ¬ (S T).toList = [] := fun e => by rw [e] at eT; cases eT
          rw [hs1] at e1 e1'
          go_wp2_with (first | (go_at_call 47; refine (HN.out _ h1).mono ?_; rintro e w2 ⟨rfl, n2, rfl⟩) | (go_at_call 35; refine (HT.out _).mono ?_; rintro e w3 ⟨rfl, hb3⟩))
          go_meet
          exact ⟨rfl, rfl, rfl, rfl, by rw [Hno.out, h0, hK2, hte]; simp [bne, hs1], (h1.drewN _).below hb3, (below_drewN hB1 _).trans (hb3.mono (h1.drewN n2).size)⟩
  case rest =>
  obtain ⟨rfl, rfl, rfl, rfl, rfl, hp3⟩ := hcut
  cases no with
  | true =>
    go_wp2_with fail
    go_ret
    exact ⟨by rw [Hit.out]; rfl, L.ad, L.rv, by rw [Hit.out]; exact hp3.1, fun _ _ => rfl, hp3.2⟩
  | false =>
  have Hit2 : Hid (s.item F l = (true, (if s.newList c then s.puts (listB c d st) else s).itemed n)) := by show _ = _; rw [Hit.out]; rfl
  clear Hit Hno HT
  go_upto_region 5 with fail
  obtain ⟨nl, hnl⟩ : ∃ nl, nl = s.newList c := ⟨_, rfl⟩
  rw [← hnl] at Hit2
  have Hnl := Lib.hid hnl
  clear hnl
  go_cut [5, 6, 7, 8, 62] from 12 to 61 (fun s5 s6 s7 s8 s62 wx => s5 = .int .i64 (n : Int) ∧ s6 = .int .u8 (c.toNat : Int) ∧ s7 = .int .i64 (st : Int) ∧ s8 = .bool d ∧ s62 = .bool nl ∧ PS B L s w wx)
  case first =>
    obtain ⟨sg, hsg⟩ : ∃ sg, sg = (s.get (s.opAt s.here)).sign := ⟨_, rfl⟩
    have b0 : ∀ m, (wc.drewN m).cell? ⟨L.ad (s.opAt s.here), 0, none⟩ = some (.int .i64 (K : Int)) := fun m => by rw [HK.out]; exact hp3.1.b0 _ ho
    have b6 : ∀ m, (wc.drewN m).cell? ⟨L.ad (s.opAt s.here), 6, none⟩ = some (.int .u8 (sg.toNat : Int)) := fun m => by rw [hsg]; exact hp3.1.b6 _ ho
    have e7 : ((K : Int) == 7) = (K == 7) := int_beq K 7
    have e7' : ((K : Int) != 7) = !(K == 7) := by rw [← e7]; rfl
    have eS := u8_eq sg c
    have eS' : ((sg.toNat : Int) != (c.toNat : Int)) = !(sg == c) := by rw [← eS]; rfl
    have Hn2 : Hid (nl = (!(K == 7) || !(sg == c))) := by show _ = _; rw [Hnl.out, HK.out, hsg]; rfl
    clear hsg Hnl
    have hthree : (K == 7) = false ∨ (K == 7) = true ∧ (sg == c) = true ∨ (K == 7) = true ∧ (sg == c) = false := by cases (K == 7) <;> cases (sg == c) <;> simp
    rcases hthree with hk7 | ⟨hk7, hsc⟩ | ⟨hk7, hsc⟩
    · rw [hk7] at e7 e7'
      go_wp2_with (go_at_call 47; refine (HN.out _ (hp3.1.keep fun _ _ _ => rfl)).mono ?_; rintro e w2 ⟨rfl, n2, rfl⟩; have b02 := b0 n2)
      go_meet
      exact ⟨rfl, rfl, rfl, rfl, by rw [Hn2.out, hk7]; rfl, hp3.1.drewN _, below_drewN hp3.2 _⟩
    · rw [hk7] at e7 e7'
      rw [hsc] at eS eS'
      go_wp2_with (go_at_call 47; refine (HN.out _ ?_).mono ?_; exact hp3.1.keep fun _ _ _ => rfl; rintro e w2 ⟨rfl, n2, rfl⟩)
      go_meet
      exact ⟨rfl, rfl, rfl, rfl, by rw [Hn2.out, hk7, hsc]; rfl, hp3.1.drewN _, below_drewN hp3.2 _⟩
    · rw [hk7] at e7 e7'
      rw [hsc] at eS eS'
      go_wp2_with (go_at_call 47; refine (HN.out _ ?_).mono ?_; exact hp3.1.keep fun _ _ _ => rfl; rintro e w2 ⟨rfl, n2, rfl⟩)
      go_meet
      exact ⟨rfl, rfl, rfl, rfl, by rw [Hn2.out, hk7, hsc]; rfl, hp3.1.drewN _, below_drewN hp3.2 _⟩
  case rest =>
  obtain ⟨rfl, rfl, rfl, rfl, rfl, hp4⟩ := hcut
  obtain ⟨s1, hs1⟩ : ∃ s1, s1 = if nl then s.puts (listB c d st) else s := ⟨_, rfl⟩
  rw [← hs1] at Hit2
  have hf1 : Wf (N + 3) s1 := by
    rw [hs1]
    split
    · exact hf.puts rfl (Nat.zero_le _) ⟨Nat.zero_le _, Nat.zero_le _⟩ (by omega)
    · exact hf.mono (by omega) (by omega)
  have hlen1 : s.bs.length ≤ s1.bs.length := by
    rw [hs1]
    split
    · rw [puts_len]; omega
    · exact Nat.le_refl _
  have Hs1 := Lib.hid hs1
  clear hs1 Hnl HN HK Hb Hd
  go_upto_if 62 with fail
  go_cut [5, 6, 7, 8] from 12 to 69 (fun s5 s6 s7 s8 wx => s5 = .int .i64 (n : Int) ∧ s6 = .int .u8 (c.toNat : Int) ∧ s7 = .int .i64 (st : Int) ∧ s8 = .bool d ∧ Step B w L s s1 wx)
  case first =>
    cases nl with
    | false =>
      go_wp2_with fail
      go_meet
      exact ⟨rfl, rfl, rfl, rfl, L.ad, L.rv, by rw [Hs1.out]; exact hp4.1, fun _ _ => rfl, hp4.2⟩
    | true =>
      go_wp2_with (go_at_call 49; refine (puts0 hp4.1 hf (listB c d st) rfl rfl ⟨Nat.zero_le _, Nat.zero_le _⟩ (by omega)).mono ?_; rintro e w4 ⟨⟨g, rfl⟩, ad4, rv4, hr4, had4, hb4⟩)
      go_meet
      exact ⟨rfl, rfl, rfl, rfl, ad4, rv4, by rw [Hs1.out]; exact hr4, had4, hp4.2.trans hb4⟩
  case rest =>
  obtain ⟨rfl, rfl, rfl, rfl, ad, rv, hr1, had, hb1⟩ := hcut
  clear hp4 Hs1
  have hp1 : PS B ⟨L.pb, L.cb, ad, rv⟩ s1 w wc := ⟨hr1, hb1⟩
  have HI := Lib.hid (fun w' (hq : PS B ⟨L.pb, L.cb, ad, rv⟩ s1 w w') => Indent_q hf1 w' hq)
  have hin := s1.cur.indent_le2 hf1.cur
  have HS := Lib.hid (fun w' (hq : PS B ⟨L.pb, L.cb, ad, rv⟩ s1 w w') => Skip_q hf1 s1.cur.indent (by omega) w' hq)
  have r2 : wc.cell? ⟨L.pb, 2, none⟩ = some (.pointer (some ⟨L.cb, 0, none⟩)) := hr1.p2
  obtain ⟨i0, hi0⟩ : ∃ i0, i0 = s1.cur.indent := ⟨_, rfl⟩
  have Hi0 := Lib.hid hi0
  rw [← hi0] at HI HS hin
  have hl1 := hf1.cur.len
  obtain ⟨wd, hwd⟩ : ∃ wd, wd = i0 + n := ⟨_, rfl⟩
  have hw0 : IntKind.i64.wrap ((i0 : Int) + (n : Int)) = (wd : Int) := by rw [IntWalk.i64_in _ (by omega)]; omega
  have Hwd := Lib.hid hwd
  clear hi0 hr1 hb1 hl1 hwd
  go_upto_region 10 with (first
    | (go_at_call 48; refine (HI.out _ ?_).mono ?_; assumption; rintro e w4 ⟨rfl, hq4⟩)
    | (go_at_call 50; refine (HS.out _ ?_).mono ?_; assumption; rintro e w5 ⟨⟨r, rfl⟩, hq5, hk5⟩))
  have hf5 := hf1.at hk5
  have HT := Lib.hid (fun w' (hq : PS B ⟨L.pb, L.cb, ad, rv⟩ (s1.at (s1.cur.skip i0)) w w') => Take_q hf5 n (by omega) w' hq)
  go_upto_region 11 with (go_at_call 111; refine (HT.out _ ?_).mono ?_; assumption; rintro e w6 ⟨⟨r6, rfl⟩, hq6, hk6⟩)
  have hf6 := hf5.at hk6
  obtain ⟨s6, hs6⟩ : ∃ s6, s6 = s1.at (s1.cur.marked n) := ⟨_, rfl⟩
  have hq : PS B ⟨L.pb, L.cb, ad, rv⟩ s6 w w6 := by rw [hs6]; unfold Cur.marked; rw [← Hi0.out]; exact hq6
  have hfs : Wf (N + 3) s6 := by rw [hs6]; unfold Cur.marked; rw [← Hi0.out]; exact hf6
  have hcu : s6.cur = s1.cur.marked n := by rw [hs6]; rfl
  have hat : ∀ q, s6.at q = s1.at q := fun q => by rw [hs6]; rfl
  have hln : s6.bs.length = s1.bs.length := by rw [hs6]; rfl
  clear hs6 hq6 hk6 hf6 HT HS HI hq5 hk5 hf5 hp1
  have HI := Lib.hid (fun w' (hq : PS B ⟨L.pb, L.cb, ad, rv⟩ s6 w w') => Indent_q hfs w' hq)
  have HB := Lib.hid (fun w' (hq : PS B ⟨L.pb, L.cb, ad, rv⟩ s6 w w') => Blank_q hfs w' hq)
  have hbi := s6.cur.indent_le2 hfs.cur
  obtain ⟨be, hbe⟩ : ∃ be, be = s6.cur.behind := ⟨_, rfl⟩
  have hbe2 : be = if s6.cur.blank || decide (5 ≤ s6.cur.indent) then 1 else s6.cur.indent := hbe
  have Hres : Hid (s1.itemed n = (s6.at (s6.cur.skip be)).puts (itemB (wd + be))) := by
    show _ = _
    unfold St.itemed
    rw [hat, hbe, hcu, Hwd.out, Hi0.out]
  have hbel : be ≤ 274877906948 := by rw [hbe2]; split <;> omega
  have HS := Lib.hid (fun w' (hq : PS B ⟨L.pb, L.cb, ad, rv⟩ s6 w w') => Skip_q hfs be (by omega) w' hq)
  obtain ⟨bl, hbl⟩ : ∃ bl, bl = s6.cur.blank := ⟨_, rfl⟩
  obtain ⟨bi, hbi2⟩ : ∃ bi, bi = s6.cur.indent := ⟨_, rfl⟩
  rw [← hbl, ← hbi2] at hbe2
  rw [← hbl] at HB
  rw [← hbi2] at HI hbi
  have Hln := Lib.hid hln
  obtain ⟨wt, hwt⟩ : ∃ wt, wt = wd + be := ⟨_, rfl⟩
  have hw5 : IntKind.i64.wrap ((wd : Int) + (be : Int)) = (wt : Int) := by
    have := Hwd.out
    have := hfs.cur.len
    rw [IntWalk.i64_in _ (by omega)]; omega
  have hwt2 : wt ≤ 1099511627776 := by have := Hwd.out; omega
  rw [← hwt] at Hres
  clear hbl hbi2 hbe hwt hat hcu hln hw0
  have hthree : bl = true ∧ be = 1 ∨ bl = false ∧ 5 ≤ bi ∧ be = 1 ∨ bl = false ∧ bi < 5 ∧ be = bi := by
    cases bl with
    | true => exact .inl ⟨rfl, by rw [hbe2]; rfl⟩
    | false =>
      rcases Nat.lt_or_ge bi 5 with h5 | h5
      · exact .inr (.inr ⟨rfl, h5, by rw [hbe2, decide_eq_false (by omega)]; rfl⟩)
      · exact .inr (.inl ⟨rfl, h5, by rw [hbe2, decide_eq_true h5]; rfl⟩)
  clear hbe2
  have hex : ∀ ad9 rv9 w9, Rep B w9 ⟨L.pb, L.cb, ad9, rv9⟩ ((s6.at (s6.cur.skip be)).puts (itemB wt)) → (∀ i, i < s6.bs.length → ad9 i = ad i) → Below B w w9 → Step B w L s (s.item F l).2 w9 := fun ad9 rv9 w9 h9 ha hb => by
    refine ⟨ad9, rv9, ?_, fun i hi => ?_, hb⟩
    · rw [Hit2.out]
      show Rep B w9 _ (s1.itemed n)
      rw [Hres.out]
      exact h9
    · rw [ha i (by rw [Hln.out]; omega), had i hi]
  have Hex := Lib.hid hex
  clear hex had
  rcases hthree with ⟨rfl, rfl⟩ | ⟨rfl, h5, rfl⟩ | ⟨rfl, h5, rfl⟩
  · have hw6 : IntKind.i64.wrap ((wd : Int) + 1) = (wt : Int) := hw5
    clear hw5
    go_wp2_with (first
      | (go_at_call 48; refine (HI.out _ ?_).mono ?_; assumption; rintro e w7 ⟨rfl, hq7⟩)
      | (go_at_call 27; refine (HB.out _ ?_).mono ?_; assumption; rintro e w8 ⟨rfl, hq8⟩)
      | (go_at_call 50; refine (HS.out _ ?_).mono ?_; assumption; rintro e w9 ⟨⟨r9, rfl⟩, hq9, hk9⟩)
      | (go_at_call 49; refine (puts0 hq9.1 (hfs.at hk9) (itemB wt) rfl rfl ⟨hwt2, Nat.zero_le _⟩ (by omega)).mono ?_; rintro e w10 ⟨⟨g, rfl⟩, ad4, rv4, hr4, had4, hb4⟩))
    go_ret
    exact ⟨by rw [Hit2.out]; rfl, Hex.out ad4 rv4 w10 hr4 had4 (hq9.2.trans hb4)⟩
  · have hw6 : IntKind.i64.wrap ((wd : Int) + 1) = (wt : Int) := hw5
    clear hw5
    have h5' : ¬ (bi : Int) < 5 := by omega
    have h5'' : (5 : Int) ≤ (bi : Int) := by omega
    go_wp2_with (first
      | (go_at_call 48; refine (HI.out _ ?_).mono ?_; assumption; rintro e w7 ⟨rfl, hq7⟩)
      | (go_at_call 27; refine (HB.out _ ?_).mono ?_; assumption; rintro e w8 ⟨rfl, hq8⟩)
      | (go_at_call 50; refine (HS.out _ ?_).mono ?_; assumption; rintro e w9 ⟨⟨r9, rfl⟩, hq9, hk9⟩)
      | (go_at_call 49; refine (puts0 hq9.1 (hfs.at hk9) (itemB wt) rfl rfl ⟨hwt2, Nat.zero_le _⟩ (by omega)).mono ?_; rintro e w10 ⟨⟨g, rfl⟩, ad4, rv4, hr4, had4, hb4⟩))
    go_ret
    exact ⟨by rw [Hit2.out]; rfl, Hex.out ad4 rv4 w10 hr4 had4 (hq9.2.trans hb4)⟩
  · have h5' : (be : Int) < 5 := by omega
    have h5'' : ¬ (5 : Int) ≤ (be : Int) := by omega
    go_wp2_with (first
      | (go_at_call 48; refine (HI.out _ ?_).mono ?_; assumption; rintro e w7 ⟨rfl, hq7⟩)
      | (go_at_call 27; refine (HB.out _ ?_).mono ?_; assumption; rintro e w8 ⟨rfl, hq8⟩)
      | (go_at_call 50; refine (HS.out _ ?_).mono ?_; assumption; rintro e w9 ⟨⟨r9, rfl⟩, hq9, hk9⟩)
      | (go_at_call 49; refine (puts0 hq9.1 (hfs.at hk9) (itemB wt) rfl rfl ⟨hwt2, Nat.zero_le _⟩ (by omega)).mono ?_; rintro e w10 ⟨⟨g, rfl⟩, ad4, rv4, hr4, had4, hb4⟩))
    go_ret
    exact ⟨by rw [Hit2.out]; rfl, Hex.out ad4 rv4 w10 hr4 had4 (hq9.2.trans hb4)⟩
end Go.Proofs.YtpimcdkhjingjaaGreatDoor.X
namespace Go.Proofs.YtpimcdkhjingjaaGreatDoor.X
open Go.RowKit Go.Proofs.YtpimcdkhjingjaaGreatDoorW.PrintWords
def quoteB : Blk := { Blk.zero with kind := 6 }
def headB (n : Nat) (t : List UInt8) : Blk := { Blk.zero with kind := 3, n := n, lines := [t] }
def fenceB (c : UInt8) (n i : Nat) (t : List UInt8) : Blk := { Blk.zero with kind := 5, sign := c, fence := n, in_ := i, title := t }
def ruleB : Blk := { Blk.zero with kind := 4 }
def St.asHead (s : St) (o u : Nat) : St := (s.set o { s.get o with kind := 3 }).set o { (s.set o { s.get o with kind := 3 }).get o with n := u }
def St.begin (F : LeafFns) (s : St) (l : List UInt8) : (Bool × Bool) × St :=
  if Lib.hasPrefix l [62] = true then ((true, false), (s.at s.cur.quote).puts quoteB)
  else if 0 < (F.heading l).1 then ((true, true), s.sets (headB (F.heading l).1 (F.heading l).2))
  else if 0 < (F.fence l).2.1 then ((true, true), s.puts (fenceB (F.fence l).1 (F.fence l).2.1 s.cur.indent (F.fence l).2.2))
  else if 0 < F.under l ∧ (s.get (s.opAt s.here)).kind = 2 then ((true, true), ((s.asHead (s.opAt s.here) (F.under l)).touch (s.here + 1)).up)
  else if F.rule l = true then ((true, true), s.sets ruleB)
  else (((s.item F l).1, false), (s.item F l).2)
section
variable {F : LeafFns} (HF : LeafOk F) {B N : Nat} {L : Lay} {s : St} {w : World} (hG : GB B w) (l : List UInt8) (hl : l.length ≤ 1099511627776)
include HF hG hl
theorem Heading_q (w' : World) (h : PS B L s w w') : Calls Tryz.prog 88 #[.string (S l)] w' fun e w2 => e = .returned (.tuple #[.int .i64 ((F.heading l).1 : Int), .string (S (F.heading l).2)]) ∧ PS B L s w w2 :=
  (HF.heading l w' (hG.below h.2).gl hl).mono fun _ _ ⟨h1, h2⟩ => ⟨h1, h.1.below h2, h.2.trans (h2.mono h.1.size)⟩
theorem Fence_q (w' : World) (h : PS B L s w w') : Calls Tryz.prog 90 #[.string (S l)] w' fun e w2 => e = .returned (.tuple #[.int .u8 ((F.fence l).1.toNat : Int), .int .i64 ((F.fence l).2.1 : Int), .string (S (F.fence l).2.2)]) ∧ PS B L s w w2 :=
  (HF.fence l w' (hG.below h.2).gl hl).mono fun _ _ ⟨h1, h2⟩ => ⟨h1, h.1.below h2, h.2.trans (h2.mono h.1.size)⟩
theorem Under_q (w' : World) (h : PS B L s w w') : Calls Tryz.prog 91 #[.string (S l)] w' fun e w2 => e = .returned (.int .i64 (F.under l : Int)) ∧ PS B L s w w2 :=
  (HF.under l w' (hG.below h.2).gl hl).mono fun _ _ ⟨h1, h2⟩ => ⟨h1, h.1.below h2, h.2.trans (h2.mono h.1.size)⟩
theorem Rule_q (w' : World) (h : PS B L s w w') : Calls Tryz.prog 92 #[.string (S l)] w' fun e w2 => e = .returned (.bool (F.rule l)) ∧ PS B L s w w2 :=
  (HF.rule l w' (hG.below h.2).gl hl).mono fun _ _ ⟨h1, h2⟩ => ⟨h1, h.1.below h2, h.2.trans (h2.mono h.1.size)⟩
end
theorem now_q {B N : Nat} {L : Lay} {s : St} {w : World} (hf : Wf N s) (w' : World) (h : PS B L s w w') : Calls Tryz.prog 47 #[.pointer (some ⟨L.pb, 0, none⟩)] w' fun e w2 => e = .returned (.pointer (some ⟨L.ad (s.opAt s.here), 0, none⟩)) ∧ PS B L s w w2 :=
  (now_c h.1 hf).mono fun _ _ ⟨h1, n, h2⟩ => ⟨h1, by rw [h2]; exact h.1.drewN n, by rw [h2]; exact below_drewN h.2 n⟩
theorem prefix_c (l p : List UInt8) (w : World) : Calls Tryz.prog 82 #[.string (S l), .string (S p)] w fun e w' => e = .returned (.bool (Lib.hasPrefix l p)) ∧ w' = w := Tryz.strings_HasPrefix (S l) (S p) w
set_option maxRecDepth 100000 in
set_option maxHeartbeats 4000000 in
theorem begin_c {F : LeafFns} (HF : LeafOk F) {B : Nat} {w : World} {L : Lay} {s : St} {N : Nat} (h : Rep B w L s) (hf : Wf N s) (hG : GB B w) (l : List UInt8) (hl : l.length ≤ 1099511627776) (hN : N + 6 ≤ 1099511627776) :
    Calls Tryz.prog 51 #[.pointer (some ⟨L.pb, 0, none⟩), .string (S l)] w fun e w' => e = .returned (.tuple #[.bool (s.begin F l).1.1, .bool (s.begin F l).1.2]) ∧ Step B w L s (s.begin F l).2 w' := by
  have hq : PS B L s w w := ⟨h, Below.refl _ _⟩
  have hin := s.cur.indent_le2 hf.cur
  have HQ := Lib.hid (quote_c h hf (by omega))
  have HP : Hid (∀ w', Calls Tryz.prog 82 #[.string (S l), .string ⟨#[62]⟩] w' fun e w2 => e = .returned (.bool (Lib.hasPrefix l [62])) ∧ w' = w2) := fun w' => (prefix_c l [62] w').mono fun _ _ h => ⟨h.1, h.2.symm⟩
  have HH := Lib.hid (fun w' (hq : PS B L s w w') => Heading_q HF hG l hl w' hq)
  have HFe := Lib.hid (fun w' (hq : PS B L s w w') => Fence_q HF hG l hl w' hq)
  have HU := Lib.hid (fun w' (hq : PS B L s w w') => Under_q HF hG l hl w' hq)
  have HR := Lib.hid (fun w' (hq : PS B L s w w') => Rule_q HF hG l hl w' hq)
  have HN := Lib.hid (fun w' (hq : PS B L s w w') => now_q hf w' hq)
  have HI := Lib.hid (fun w' (hq : PS B L s w w') => Indent_q hf w' hq)
  have HIt := Lib.hid (fun w' (hq : PS B L s w w') => item_c HF hq.1 hf (hG.below hq.2) l hl hN)
  have ho := hf.opAt hf.here
  have Hb : Hid (s.begin F l = if Lib.hasPrefix l [62] = true then ((true, false), (s.at s.cur.quote).puts quoteB)
  else if 0 < (F.heading l).1 then ((true, true), s.sets (headB (F.heading l).1 (F.heading l).2))
  else if 0 < (F.fence l).2.1 then ((true, true), s.puts (fenceB (F.fence l).1 (F.fence l).2.1 s.cur.indent (F.fence l).2.2))
  else if 0 < F.under l ∧ (s.get (s.opAt s.here)).kind = 2 then ((true, true), ((s.asHead (s.opAt s.here) (F.under l)).touch (s.here + 1)).up)
  else if F.rule l = true then ((true, true), s.sets ruleB)
  else (((s.item F l).1, false), (s.item F l).2)) := rfl
  obtain ⟨p, hp⟩ : ∃ p, p = Lib.hasPrefix l [62] := ⟨_, rfl⟩
  obtain ⟨hn, hhn⟩ : ∃ n, n = (F.heading l).1 := ⟨_, rfl⟩
  obtain ⟨ht, hht⟩ : ∃ n, n = (F.heading l).2 := ⟨_, rfl⟩
  obtain ⟨fc, hfc⟩ : ∃ n, n = (F.fence l).1 := ⟨_, rfl⟩
  obtain ⟨fn, hfn⟩ : ∃ n, n = (F.fence l).2.1 := ⟨_, rfl⟩
  obtain ⟨ft, hft⟩ : ∃ n, n = (F.fence l).2.2 := ⟨_, rfl⟩
  obtain ⟨u, hu⟩ : ∃ n, n = F.under l := ⟨_, rfl⟩
  obtain ⟨ru, hru⟩ : ∃ n, n = F.rule l := ⟨_, rfl⟩
  rw [← hp, ← hhn, ← hht, ← hfc, ← hfn, ← hft, ← hu, ← hru] at Hb
  rw [← hp] at HP
  rw [← hhn, ← hht] at HH
  rw [← hfc, ← hfn, ← hft] at HFe
  rw [← hu] at HU
  rw [← hru] at HR
  clear hp hhn hht hfc hfn hft hu hru
  obtain ⟨i0, hi0⟩ : ∃ i0, i0 = s.cur.indent := ⟨_, rfl⟩
  rw [← hi0] at HI Hb hin
  clear hi0
  go_enter Tryz.func51, Tryz.ntmps51
  cases p with
  | true =>
    have Hb2 : Hid (s.begin F l = ((true, false), (s.at s.cur.quote).puts quoteB)) := by show _ = _; rw [Hb.out]; rfl
    clear Hb
    go_wp2_with (first
      | (go_at_call 82; refine (HP.out _).mono ?_; rintro e w1 ⟨rfl, rfl⟩)
      | (go_at_call 83; refine HQ.out.mono ?_; rintro e w2 ⟨rfl, hr2, hk2, hb2⟩)
      | (go_at_call 49; refine (puts0 hr2 (hf.at hk2) quoteB rfl rfl ⟨Nat.zero_le _, Nat.zero_le _⟩ (by omega)).mono ?_; rintro e w4 ⟨⟨g, rfl⟩, ad4, rv4, hr4, had4, hb4⟩))
    go_ret2
    exact ⟨by rw [Hb2.out]; rfl, ad4, rv4, by rw [Hb2.out]; exact hr4, had4, hb2.trans hb4⟩
  | false =>
  rcases Nat.lt_or_ge 0 hn with hpos | hz
  · have Hb2 : Hid (s.begin F l = ((true, true), s.sets (headB hn ht))) := by show _ = _; rw [Hb.out, if_neg (by simp), if_pos hpos]
    have hpos' : (0 : Int) < (hn : Int) := by omega
    clear Hb
    go_wp2_with (first
      | (go_at_call 82; refine (HP.out _).mono ?_; rintro e w1 ⟨rfl, rfl⟩)
      | (go_at_call 88; refine (HH.out _ ?_).mono ?_; assumption; rintro e w2 ⟨rfl, hq2⟩)
      | (go_at_call 89; refine (sets1 hq2.1 hf (headB hn ht) ht rfl rfl ⟨Nat.zero_le _, Nat.zero_le _⟩ (by omega)).mono ?_; rintro e w4 ⟨rfl, ad4, rv4, hr4, had4, hb4⟩))
    go_ret2
    exact ⟨by rw [Hb2.out]; rfl, ad4, rv4, by rw [Hb2.out]; exact hr4, had4, hq2.2.trans hb4⟩
  obtain rfl : hn = 0 := by omega
  rcases Nat.lt_or_ge 0 fn with fpos | fz
  · have Hb2 : Hid (s.begin F l = ((true, true), s.puts (fenceB fc fn i0 ft))) := by show _ = _; rw [Hb.out, if_neg (by simp), if_neg (by omega), if_pos fpos]
    have fpos' : (0 : Int) < (fn : Int) := by omega
    clear Hb
    go_wp2_with (first
      | (go_at_call 82; refine (HP.out _).mono ?_; rintro e w1 ⟨rfl, rfl⟩)
      | (go_at_call 88; refine (HH.out _ ?_).mono ?_; assumption; rintro e w2 ⟨rfl, hq2⟩)
      | (go_at_call 90; refine (HFe.out _ ?_).mono ?_; assumption; rintro e w3 ⟨rfl, hq3⟩; have p23 : w3.cell? ⟨L.pb, 2, none⟩ = some (.pointer (some ⟨L.cb, 0, none⟩)) := hq3.1.p2)
      | (go_at_call 48; refine (HI.out _ ?_).mono ?_; (first | assumption | exact ⟨hq3.1.keep fun _ _ _ => rfl, Below.trans hq3.2 ⟨rfl, rfl, rfl, Nat.le_refl _, fun _ _ => rfl⟩⟩); rintro e w5 ⟨rfl, hq5⟩)
      | (go_at_call 49; refine (puts0 hq5.1 hf (fenceB fc fn i0 ft) rfl rfl ⟨Nat.zero_le _, Nat.le_trans hin (by decide)⟩ (by omega)).mono ?_; rintro e w7 ⟨⟨g, rfl⟩, ad4, rv4, hr4, had4, hb4⟩))
    go_ret2
    exact ⟨by rw [Hb2.out]; rfl, ad4, rv4, by rw [Hb2.out]; exact hr4, had4, hq5.2.trans hb4⟩
  obtain rfl : fn = 0 := by omega
  obtain ⟨K, hK⟩ : ∃ K, K = (s.get (s.opAt s.here)).kind := ⟨_, rfl⟩
  have HK := Lib.hid hK
  rw [← hK] at Hb
  clear hK
  have hu3 : u = 0 ∨ 0 < u ∧ K ≠ 2 ∨ 0 < u ∧ K = 2 := by omega
  rcases hu3 with rfl | ⟨upos, k2⟩ | ⟨upos, k2⟩
  · have Hb3 : Hid (s.begin F l = if ru = true then ((true, true), s.sets ruleB) else (((s.item F l).1, false), (s.item F l).2)) := by show _ = _; rw [Hb.out, if_neg (by simp), if_neg (by omega), if_neg (by omega), if_neg (by omega)]
    clear Hb
    have Hb := Hb3
    clear Hb3
    cases ru with
    | true =>
      have Hb2 : Hid (s.begin F l = ((true, true), s.sets ruleB)) := by show _ = _; rw [Hb.out]; rfl
      clear Hb
      go_wp2_with (first
      | (go_at_call 82; refine (HP.out _).mono ?_; rintro e w1 ⟨rfl, rfl⟩)
      | (go_at_call 88; refine (HH.out _ ?_).mono ?_; assumption; rintro e w2 ⟨rfl, hq2⟩)
      | (go_at_call 90; refine (HFe.out _ ?_).mono ?_; assumption; rintro e w3 ⟨rfl, hq3⟩)
      | (go_at_call 91; refine (HU.out _ ?_).mono ?_; assumption; rintro e w4 ⟨rfl, hq4⟩)
      | (go_at_call 92; refine (HR.out _ ?_).mono ?_; assumption; rintro e w6 ⟨rfl, hq6⟩)
      | (go_at_call 89; refine (sets0 hq6.1 hf ruleB rfl rfl ⟨Nat.zero_le _, Nat.zero_le _⟩ (by omega)).mono ?_; rintro e w7 ⟨rfl, ad4, rv4, hr4, had4, hb4⟩))
      go_ret2
      exact ⟨by rw [Hb2.out]; rfl, ad4, rv4, by rw [Hb2.out]; exact hr4, had4, hq6.2.trans hb4⟩
    | false =>
      have Hb2 : Hid (s.begin F l = (((s.item F l).1, false), (s.item F l).2)) := by show _ = _; rw [Hb.out]; rfl
      clear Hb
      go_wp2_with (first
      | (go_at_call 82; refine (HP.out _).mono ?_; rintro e w1 ⟨rfl, rfl⟩)
      | (go_at_call 88; refine (HH.out _ ?_).mono ?_; assumption; rintro e w2 ⟨rfl, hq2⟩)
      | (go_at_call 90; refine (HFe.out _ ?_).mono ?_; assumption; rintro e w3 ⟨rfl, hq3⟩)
      | (go_at_call 91; refine (HU.out _ ?_).mono ?_; assumption; rintro e w4 ⟨rfl, hq4⟩)
      | (go_at_call 92; refine (HR.out _ ?_).mono ?_; assumption; rintro e w6 ⟨rfl, hq6⟩)
      | (go_at_call 93; refine (HIt.out _ ?_).mono ?_; assumption; rintro e w7 ⟨rfl, ad4, rv4, hr4, had4, hb4⟩))
      go_ret2
      exact ⟨by rw [Hb2.out]; rfl, ad4, rv4, by rw [Hb2.out]; exact hr4, had4, hq6.2.trans hb4⟩
  · have upos' : (0 : Int) < (u : Int) := by omega
    have k2' : ¬ (K : Int) = 2 := by omega
    have Hb3 : Hid (s.begin F l = if ru = true then ((true, true), s.sets ruleB) else (((s.item F l).1, false), (s.item F l).2)) := by show _ = _; rw [Hb.out, if_neg (by simp), if_neg (by omega), if_neg (by omega), if_neg (by omega)]
    clear Hb
    have Hb := Hb3
    clear Hb3
    cases ru with
    | true =>
      have Hb2 : Hid (s.begin F l = ((true, true), s.sets ruleB)) := by show _ = _; rw [Hb.out]; rfl
      clear Hb
      go_wp2_with (first
      | (go_at_call 82; refine (HP.out _).mono ?_; rintro e w1 ⟨rfl, rfl⟩)
      | (go_at_call 88; refine (HH.out _ ?_).mono ?_; assumption; rintro e w2 ⟨rfl, hq2⟩)
      | (go_at_call 90; refine (HFe.out _ ?_).mono ?_; assumption; rintro e w3 ⟨rfl, hq3⟩)
      | (go_at_call 91; refine (HU.out _ ?_).mono ?_; assumption; rintro e w4 ⟨rfl, hq4⟩)
      | (go_at_call 47; refine (HN.out _ ?_).mono ?_; assumption; rintro e w5 ⟨rfl, hq5⟩; have b05 : w5.cell? ⟨L.ad (s.opAt s.here), 0, none⟩ = some (.int .i64 (K : Int)) := by rw [HK.out]; exact hq5.1.b0 _ ho)
      | (go_at_call 92; refine (HR.out _ ?_).mono ?_; assumption; rintro e w6 ⟨rfl, hq6⟩)
      | (go_at_call 89; refine (sets0 hq6.1 hf ruleB rfl rfl ⟨Nat.zero_le _, Nat.zero_le _⟩ (by omega)).mono ?_; rintro e w7 ⟨rfl, ad4, rv4, hr4, had4, hb4⟩))
      go_ret2
      exact ⟨by rw [Hb2.out]; rfl, ad4, rv4, by rw [Hb2.out]; exact hr4, had4, hq6.2.trans hb4⟩
    | false =>
      have Hb2 : Hid (s.begin F l = (((s.item F l).1, false), (s.item F l).2)) := by show _ = _; rw [Hb.out]; rfl
      clear Hb
      go_wp2_with (first
      | (go_at_call 82; refine (HP.out _).mono ?_; rintro e w1 ⟨rfl, rfl⟩)
      | (go_at_call 88; refine (HH.out _ ?_).mono ?_; assumption; rintro e w2 ⟨rfl, hq2⟩)
      | (go_at_call 90; refine (HFe.out _ ?_).mono ?_; assumption; rintro e w3 ⟨rfl, hq3⟩)
      | (go_at_call 91; refine (HU.out _ ?_).mono ?_; assumption; rintro e w4 ⟨rfl, hq4⟩)
      | (go_at_call 47; refine (HN.out _ ?_).mono ?_; assumption; rintro e w5 ⟨rfl, hq5⟩; have b05 : w5.cell? ⟨L.ad (s.opAt s.here), 0, none⟩ = some (.int .i64 (K : Int)) := by rw [HK.out]; exact hq5.1.b0 _ ho)
      | (go_at_call 92; refine (HR.out _ ?_).mono ?_; assumption; rintro e w6 ⟨rfl, hq6⟩)
      | (go_at_call 93; refine (HIt.out _ ?_).mono ?_; assumption; rintro e w7 ⟨rfl, ad4, rv4, hr4, had4, hb4⟩))
      go_ret2
      exact ⟨by rw [Hb2.out]; rfl, ad4, rv4, by rw [Hb2.out]; exact hr4, had4, hq6.2.trans hb4⟩
  · have upos' : (0 : Int) < (u : Int) := by omega
    have Hb2 : Hid (s.begin F l = ((true, true), ((s.asHead (s.opAt s.here) u).touch (s.here + 1)).up)) := by show _ = _; rw [Hb.out, if_neg (by simp), if_neg (by omega), if_neg (by omega), if_pos ⟨upos, k2⟩]
    clear Hb
    have hdeep := hf.deep (by rw [← HK.out, k2]; decide)
    have hne : s.opAt s.here ≠ s.opAt 0 := fun e => by
      have h5 := hf.root
      rw [← e, ← HK.out, k2] at h5
      cases h5
    obtain ⟨o, hoo⟩ : ∃ o, o = s.opAt s.here := ⟨_, rfl⟩
    rw [← hoo] at HN ho Hb2 hne HK
    clear hoo
    have hfA : Wf N (s.set o { s.get o with kind := 3 }) := hf.setB ho rfl rfl (.inr hne)
    have hoA : o < (s.set o { s.get o with kind := 3 }).bs.length := by rw [St.set_len]; exact ho
    have hfB : Wf N (s.asHead o u) := hfA.setB hoA rfl rfl (.inl rfl)
    have hhe : (s.asHead o u).here = s.here := rfl
    have hop : (s.asHead o u).op = s.op := rfl
    have hol := Nat.le_trans hf.opl hf.big
    have hhh := hf.here
    obtain ⟨m, hm⟩ : ∃ m, m = s.here + 1 := ⟨_, rfl⟩
    rw [← hm] at Hb2
    have HT := Lib.hid (fun w' (hr : Rep B w' L (s.asHead o u)) => touch_c hr hfB m (by rw [hop]; omega))
    have hfC := hfB.touch m
    have hhC : ((s.asHead o u).touch m).here = s.here := St.touch_here _ _
    have hopC : ((s.asHead o u).touch m).op = s.op := St.touch_op _ _
    obtain ⟨sC, hsC⟩ : ∃ sC, sC = (s.asHead o u).touch m := ⟨_, rfl⟩
    rw [← hsC] at hfC hhC hopC HT Hb2
    obtain ⟨m2, hm2⟩ : ∃ m2, m2 = s.here - 1 := ⟨_, rfl⟩
    have hfD := hfC.goHere (m := m2) (by rw [hopC]; omega)
    have Hup : Hid (St.cutOpen { sC with here := m2 } (m2 + 1) = sC.up) := up_eq (by rw [hhC]; exact hdeep) m2 (by rw [hhC]; exact hm2)
    have HO := Lib.hid (fun w' (hr : Rep B w' L { sC with here := m2 }) => over_c hr hfD)
    have hw1 : IntKind.i64.wrap ((s.here : Int) + 1) = (m : Int) := by rw [IntWalk.i64_in _ (by omega)]; omega
    have hw2 : IntKind.i64.wrap ((s.here : Int) - 1) = (m2 : Int) := by rw [IntWalk.i64_in _ (by omega)]; omega
    have Hh := Lib.hid hhC
    clear hm hm2 hsC hhC hopC hhe hop hfA hfB hfC hfD hol hhh hdeep hne
    have k2' : (K : Int) = 2 := by omega
    go_upto_region 16 with (first
      | (go_at_call 82; refine (HP.out _).mono ?_; rintro e w1 ⟨rfl, rfl⟩)
      | (go_at_call 88; refine (HH.out _ ?_).mono ?_; assumption; rintro e w2 ⟨rfl, hq2⟩)
      | (go_at_call 90; refine (HFe.out _ ?_).mono ?_; assumption; rintro e w3 ⟨rfl, hq3⟩)
      | (go_at_call 91; refine (HU.out _ ?_).mono ?_; assumption; rintro e w4 ⟨rfl, hq4⟩)
      | (go_at_call 47; refine (HN.out _ ?_).mono ?_; assumption; rintro e w5 ⟨rfl, hq5⟩; have b05 : w5.cell? ⟨L.ad o, 0, none⟩ = some (.int .i64 (K : Int)) := by rw [HK.out]; exact hq5.1.b0 _ ho))
    have hrA := hq5.1.setB o ho 0 (.int .i64 3) { s.get o with kind := 3 } rfl rfl (fun _ _ => rfl)
    have hrB := hrA.setB o hoA 4 (.int .i64 (u : Int)) { (s.set o { s.get o with kind := 3 }).get o with n := u } rfl rfl (fun _ _ => rfl)
    have hbo := hq5.1.bb o ho
    have hsz := hq5.1.size
    obtain ⟨w6, hr6, hb6, hw6⟩ : ∃ w6, Rep B w6 L (s.asHead o u) ∧ Below B w w6 ∧ w6 = (w5.setCell ⟨L.ad o, 0, none⟩ (.int .i64 3)).setCell ⟨L.ad o, 4, none⟩ (.int .i64 (u : Int)) := ⟨_, hrB, (hq5.2.setCell (p := ⟨L.ad o, 0, none⟩) hbo (.int .i64 3)).setCell (p := ⟨L.ad o, 4, none⟩) hbo (.int .i64 (u : Int)), rfl⟩
    have g0 := hq5.1.bf o ho 0
    have g4 : ((w5.setCell ⟨L.ad o, 0, none⟩ (.int .i64 3))).frozen? ⟨L.ad o, 4, none⟩ = false := hrA.bf o hoA 4
    have d4 := hrA.b4 o hoA
    clear hrA hrB
    have r61 : w6.cell? ⟨L.pb, 1, none⟩ = some (.int .i64 (s.here : Int)) := hr6.p1
    go_upto_region 17 with fail
    rw [← hw6]
    clear hw6 g0 g4 d4
    go_wp2_with (first
      | (go_at_call 30; refine (HT.out _ ?_).mono ?_; exact hr6.keep fun _ _ _ => rfl; rintro e w7 ⟨rfl, hr7, hb7⟩; have r71 : w7.cell? ⟨L.pb, 1, none⟩ = some (.int .i64 (s.here : Int)) := (by rw [← Hh.out]; exact hr7.p1); have r7f : w7.frozen? ⟨L.pb, 1, none⟩ = false := hr7.pf 1)
      | (go_at_call 31; refine (HO.out _ (hr7.setHere m2)).mono ?_; rintro e w8 ⟨rfl, rv8, hr8, hb8⟩))
    go_ret2
    refine ⟨by rw [Hb2.out]; rfl, L.ad, rv8, ?_, fun _ _ => rfl, ?_⟩
    · rw [Hb2.out]
      show Rep B w8 _ sC.up
      rw [← Hup.out]
      exact hr8
    · exact hb6.trans ((Below.trans ⟨rfl, rfl, rfl, Nat.le_refl _, fun _ _ => rfl⟩ hb7).trans (((Below.refl B w7).setCell (p := ⟨L.pb, 1, none⟩) hr7.bp (.int .i64 (m2 : Int))).trans hb8))
end Go.Proofs.YtpimcdkhjingjaaGreatDoor.X
