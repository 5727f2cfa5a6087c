/- A merged text (wip/mkclaim.py). -/
import Derived.Test.YtpimcdkhjingjaaGreatDoorRCF
set_option linter.unusedVariables false
set_option linter.unusedSimpArgs false
set_option linter.unusedSectionVars false
namespace Go.Proofs.YtpimcdkhjingjaaGreatDoor.X
open Go.RowKit Go.Proofs.YtpimcdkhjingjaaGreatDoorW.PrintWords
theorem Ends_q {F : LeafFns} (HF : LeafOk F) {B : Nat} {L : Lay} {s : St} {w : World} (hG : GB B w) (l : List UInt8) (hl : l.length ≤ 1099511627776) (c : UInt8) (n : Nat) (w' : World) (h : PS B L s w w') :
    Calls Tryz.prog 84 #[.string (S l), .int .u8 (c.toNat : Int), .int .i64 (n : Int)] w' fun e w2 => e = .returned (.bool (F.closes l c n)) ∧ PS B L s w w2 :=
  (HF.closes l c n w' (hG.below h.2).gl hl).mono fun _ _ ⟨h1, h2⟩ => ⟨h1, h.1.below h2, h.2.trans (h2.mono h.1.size)⟩
section
variable {F : LeafFns} (HF : LeafOk F) {B : Nat} {w : World} {L : Lay} {s : St} {N : Nat} (h : Rep B w L s) (hf : Wf N s) (hG : GB B w) (k : Nat) (hk : k < s.bs.length)
include HF h hf hG hk
set_option maxRecDepth 100000 in
set_option maxHeartbeats 4000000 in
theorem goes_fence (hkind : (s.get k).kind = 5) (hfen : 0 < (s.get k).fence) : GoesSaid F B w L s k := by
  unfold GoesSaid
  have hq : PS B L s w w := ⟨h, Below.refl _ _⟩
  have b0 := h.b0 k hk
  have b9 := h.b9 k hk
  rw [hkind] at b0
  have hp2 := h.p2
  have HI := Lib.hid (fun w' (h' : PS B L s w w') => Indent_q hf w' h')
  have HW := Lib.hid (fun w' (h' : PS B L s w w') => Word_q hf w' h')
  have HE := Lib.hid (fun w' (h' : PS B L s w w') => Ends_q HF hG s.cur.word (word_le _ hf.cur) (s.get k).sign (s.get k).fence w' h')
  have HS := Lib.hid (fun w' (h' : PS B L s w w') => Skip_q hf (s.get k).in_ (hf.wid k hk).2 w' h')
  have hg : Hid (s.goes F k = if s.cur.indent < 4 ∧ F.closes s.cur.word (s.get k).sign (s.get k).fence = true then ((false, true), s) else ((true, false), s.at (s.cur.skip (s.get k).in_))) := by show _ = _; unfold St.goes; rw [if_neg (by omega), if_neg (by omega), if_neg (by omega), if_pos hkind, if_pos hfen]
  have CK : Hid (∀ w', Rep B w' L s → w'.cell? ⟨L.ad k, 6, none⟩ = some (.int .u8 ((s.get k).sign.toNat : Int)) ∧ w'.cell? ⟨L.ad k, 9, none⟩ = some (.int .i64 ((s.get k).fence : Int)) ∧ w'.cell? ⟨L.ad k, 10, none⟩ = some (.int .i64 ((s.get k).in_ : Int))) := fun w' h' => ⟨h'.b6 k hk, h'.b9 k hk, h'.b10 k hk⟩
  obtain ⟨i0, hi0⟩ : ∃ K, K = s.cur.indent := ⟨_, rfl⟩
  obtain ⟨W, hW⟩ : ∃ K, K = s.cur.word := ⟨_, rfl⟩
  obtain ⟨sg, hsg⟩ : ∃ K, K = (s.get k).sign := ⟨_, rfl⟩
  obtain ⟨fe, hfe⟩ : ∃ K, K = (s.get k).fence := ⟨_, rfl⟩
  obtain ⟨inn, hinn⟩ : ∃ K, K = (s.get k).in_ := ⟨_, rfl⟩
  obtain ⟨cl, hcl⟩ : ∃ K, K = F.closes W sg fe := ⟨_, rfl⟩
  rw [← hi0, ← hW, ← hsg, ← hfe, ← hinn, ← hcl] at hg
  rw [← hi0] at HI
  rw [← hW] at HW
  rw [← hW, ← hsg, ← hfe, ← hcl] at HE
  rw [← hinn] at HS
  rw [← hsg, ← hfe, ← hinn] at CK
  rw [← hfe] at b9 hfen
  have hfen' : (0 : Int) < (fe : Int) := by omega
  clear hi0 hW hsg hfe hinn hcl hkind hfen
  go_enter Tryz.func46, Tryz.ntmps46
  go_upto_region 16 with fail
  obtain ⟨c61, c91, c101⟩ := CK.out _ h
  have hall : 4 ≤ i0 ∨ i0 < 4 ∧ cl = false ∨ i0 < 4 ∧ cl = true := by cases cl <;> simp <;> omega
  rcases hall with h4 | ⟨h4, rfl⟩ | ⟨h4, rfl⟩
  · have hd4 : decide ((i0 : Int) < 4) = false := decide_eq_false (by omega)
    have hr : Hid (s.goes F k = ((true, false), s.at (s.cur.skip inn))) := by show _ = _; rw [hg.out, if_neg (by omega)]
    refine wp_region_held_drew (S := fun w' => PS B L s w w') (by kernel_rfl) ⟨h.keep fun _ _ _ => rfl, ⟨rfl, rfl, rfl, Nat.le_refl _, fun _ _ => rfl⟩⟩ (fun hS => ?_)
    refine wpAnyH_take (i := 0) (v := .pointer (some ⟨L.cb, 0, none⟩)) rfl (by kernel_rfl) (by kernel_rfl) (by kernel_rfl) (fun _ _ _ h => h) (Or.inl ⟨by rfl, fun _ _ => by rfl⟩) (by assumption) ?_
    try dsimp only [Act.put, List.getElem_toArray, List.getElem_cons_zero, List.getElem_cons_succ]
    try simp only [List.setIfInBounds_toArray, List.set_cons_zero, List.set_cons_succ]
    refine wpAnyH_ready (rs := [1]) (by kernel_rfl) (by simp) ?_
    refine AllReadyH.cons rfl (fun K hK => ?_) AllReadyH.nil
    refine step_call rfl Tryz.func48 (by kernel_rfl) rfl #[.pointer (some ⟨L.cb, 0, none⟩)] rfl (by simp only [List.map_toArray, List.map_cons, List.map_nil]; rfl) ?_
    refine (HI.out _ hS).mono ?_
    rintro e w2 ⟨rfl, hq2⟩
    refine ⟨_, rfl, hK.out _ _ hq2 (fun hHeld => ?_)⟩
    try dsimp only [Act.put, List.getElem_toArray, List.getElem_cons_zero, List.getElem_cons_succ]
    try simp only [List.setIfInBounds_toArray, List.set_cons_zero, List.set_cons_succ]
    refine wpAnyH_take (i := 2) (v := .bool false) rfl (by kernel_rfl) (by kernel_rfl) (by kernel_rfl) (fun _ _ _ h => h) (Or.inl ⟨by rfl, fun _ _ => by rw [← hd4]; rfl⟩) (by assumption) ?_
    try dsimp only [Act.put, List.getElem_toArray, List.getElem_cons_zero, List.getElem_cons_succ]
    try simp only [List.setIfInBounds_toArray, List.set_cons_zero, List.set_cons_succ]
    refine wpAnyH_take (i := 3) (v := .bool false) rfl (by kernel_rfl) (by kernel_rfl) (by kernel_rfl) (fun _ _ _ h => h) (Or.inl ⟨by rfl, fun _ _ => by rfl⟩) (by assumption) ?_
    try dsimp only [Act.put, List.getElem_toArray, List.getElem_cons_zero, List.getElem_cons_succ]
    try simp only [List.setIfInBounds_toArray, List.set_cons_zero, List.set_cons_succ]
    refine wpAnyH_take (i := 4) (v := undef) rfl (by kernel_rfl) (by kernel_rfl) (by kernel_rfl) (fun _ _ _ h => h) (Or.inr ⟨by rfl, rfl⟩) (by assumption) ?_
    try dsimp only [Act.put, List.getElem_toArray, List.getElem_cons_zero, List.getElem_cons_succ]
    try simp only [List.setIfInBounds_toArray, List.set_cons_zero, List.set_cons_succ]
    refine wpAnyH_take (i := 5) (v := undef) rfl (by kernel_rfl) (by kernel_rfl) (by kernel_rfl) (fun _ _ _ h => h) (Or.inr ⟨by rfl, rfl⟩) (by assumption) ?_
    try dsimp only [Act.put, List.getElem_toArray, List.getElem_cons_zero, List.getElem_cons_succ]
    try simp only [List.setIfInBounds_toArray, List.set_cons_zero, List.set_cons_succ]
    refine wpAnyH_take (i := 6) (v := undef) rfl (by kernel_rfl) (by kernel_rfl) (by kernel_rfl) (fun _ _ _ h => h) (Or.inr ⟨by rfl, rfl⟩) (by assumption) ?_
    try dsimp only [Act.put, List.getElem_toArray, List.getElem_cons_zero, List.getElem_cons_succ]
    try simp only [List.setIfInBounds_toArray, List.set_cons_zero, List.set_cons_succ]
    refine wpAnyH_take (i := 7) (v := undef) rfl (by kernel_rfl) (by kernel_rfl) (by kernel_rfl) (fun _ _ _ h => h) (Or.inr ⟨by rfl, rfl⟩) (by assumption) ?_
    try dsimp only [Act.put, List.getElem_toArray, List.getElem_cons_zero, List.getElem_cons_succ]
    try simp only [List.setIfInBounds_toArray, List.set_cons_zero, List.set_cons_succ]
    refine wpAnyH_take (i := 8) (v := undef) rfl (by kernel_rfl) (by kernel_rfl) (by kernel_rfl) (fun _ _ _ h => h) (Or.inr ⟨by rfl, rfl⟩) (by assumption) ?_
    try dsimp only [Act.put, List.getElem_toArray, List.getElem_cons_zero, List.getElem_cons_succ]
    try simp only [List.setIfInBounds_toArray, List.set_cons_zero, List.set_cons_succ]
    refine wpAnyH_take (i := 9) (v := undef) rfl (by kernel_rfl) (by kernel_rfl) (by kernel_rfl) (fun _ _ _ h => h) (Or.inr ⟨by rfl, rfl⟩) (by assumption) ?_
    try dsimp only [Act.put, List.getElem_toArray, List.getElem_cons_zero, List.getElem_cons_succ]
    try simp only [List.setIfInBounds_toArray, List.set_cons_zero, List.set_cons_succ]
    refine wpAnyH_take (i := 10) (v := undef) rfl (by kernel_rfl) (by kernel_rfl) (by kernel_rfl) (fun _ _ _ h => h) (Or.inr ⟨by rfl, rfl⟩) (by assumption) ?_
    try dsimp only [Act.put, List.getElem_toArray, List.getElem_cons_zero, List.getElem_cons_succ]
    try simp only [List.setIfInBounds_toArray, List.set_cons_zero, List.set_cons_succ]
    refine wpAnyH_take (i := 11) (v := undef) rfl (by kernel_rfl) (by kernel_rfl) (by kernel_rfl) (fun _ _ _ h => h) (Or.inr ⟨by rfl, rfl⟩) (by assumption) ?_
    try dsimp only [Act.put, List.getElem_toArray, List.getElem_cons_zero, List.getElem_cons_succ]
    try simp only [List.setIfInBounds_toArray, List.set_cons_zero, List.set_cons_succ]
    refine wpAnyH_take (i := 12) (v := undef) rfl (by kernel_rfl) (by kernel_rfl) (by kernel_rfl) (fun _ _ _ h => h) (Or.inr ⟨by rfl, rfl⟩) (by assumption) ?_
    try dsimp only [Act.put, List.getElem_toArray, List.getElem_cons_zero, List.getElem_cons_succ]
    try simp only [List.setIfInBounds_toArray, List.set_cons_zero, List.set_cons_succ]
    refine wpAnyH_take (i := 13) (v := undef) rfl (by kernel_rfl) (by kernel_rfl) (by kernel_rfl) (fun _ _ _ h => h) (Or.inr ⟨by rfl, rfl⟩) (by assumption) ?_
    try dsimp only [Act.put, List.getElem_toArray, List.getElem_cons_zero, List.getElem_cons_succ]
    try simp only [List.setIfInBounds_toArray, List.set_cons_zero, List.set_cons_succ]
    refine wpAnyH_take (i := 14) (v := undef) rfl (by kernel_rfl) (by kernel_rfl) (by kernel_rfl) (fun _ _ _ h => h) (Or.inr ⟨by rfl, rfl⟩) (by assumption) ?_
    try dsimp only [Act.put, List.getElem_toArray, List.getElem_cons_zero, List.getElem_cons_succ]
    try simp only [List.setIfInBounds_toArray, List.set_cons_zero, List.set_cons_succ]
    refine wpAnyH_take (i := 15) (v := .bool false) rfl (by kernel_rfl) (by kernel_rfl) (by kernel_rfl) (fun _ _ _ h => h) (Or.inl ⟨by rfl, fun _ _ => by rfl⟩) (by assumption) ?_
    try dsimp only [Act.put, List.getElem_toArray, List.getElem_cons_zero, List.getElem_cons_succ]
    try simp only [List.setIfInBounds_toArray, List.set_cons_zero, List.set_cons_succ]
    refine wpAnyH_done (by kernel_rfl) ?_ _
    have b10 := (CK.out _ hq2.1).2.2
    go_wp2_with (first
        | (go_at_call 50; refine (HS.out _ ?_).mono ?_; assumption; rintro e w3 ⟨⟨r, rfl⟩, hq3, hk3⟩)
        )
    go_ret2
    exact ⟨by rw [hr.out]; rfl, by rw [hr.out]; exact hq3.1, hq3.2⟩
  · have hi : i0 = 0 ∨ i0 = 1 ∨ i0 = 2 ∨ i0 = 3 := by omega
    have hr : Hid (s.goes F k = ((true, false), s.at (s.cur.skip inn))) := by show _ = _; rw [hg.out, if_neg (by simp)]
    rcases hi with rfl | rfl | rfl | rfl <;>
    go_region_held3 (fun w' => w'.cell? ⟨L.ad k, 6, none⟩ = some (.int .u8 (sg.toNat : Int)) ∧ w'.cell? ⟨L.ad k, 9, none⟩ = some (.int .i64 (fe : Int)) ∧ w'.cell? ⟨L.ad k, 10, none⟩ = some (.int .i64 (inn : Int))) (first | exact CK.out _ hq4.1 | exact CK.out _ hq3.1 | exact CK.out _ hq2.1 | exact CK.out _ (h.keep fun _ _ _ => rfl) | assumption)
      (first
        | (go_at_call 48; refine (HI.out _ ?_).mono ?_; exact ⟨h.keep fun _ _ _ => rfl, ⟨rfl, rfl, rfl, Nat.le_refl _, fun _ _ => rfl⟩⟩; rintro e w2 ⟨rfl, hq2⟩)
        | (go_at_call 29; refine (HW.out _ ?_).mono ?_; assumption; rintro e w3 ⟨rfl, hq3⟩)
        | (go_at_call 84; refine (HE.out _ ?_).mono ?_; assumption; rintro e w4 ⟨rfl, hq4⟩))
    all_goals
      have b10 := (CK.out _ hq4.1).2.2
      go_wp2_with (first
        | (go_at_call 50; refine (HS.out _ ?_).mono ?_; assumption; rintro e w5 ⟨⟨r, rfl⟩, hq5, hk5⟩)
        )
      go_ret2
      exact ⟨by rw [hr.out]; rfl, by rw [hr.out]; exact hq5.1, hq5.2⟩
  · have hi : i0 = 0 ∨ i0 = 1 ∨ i0 = 2 ∨ i0 = 3 := by omega
    have hr : Hid (s.goes F k = ((false, true), s)) := by show _ = _; rw [hg.out, if_pos ⟨h4, rfl⟩]
    rcases hi with rfl | rfl | rfl | rfl <;>
    go_region_held3 (fun w' => w'.cell? ⟨L.ad k, 6, none⟩ = some (.int .u8 (sg.toNat : Int)) ∧ w'.cell? ⟨L.ad k, 9, none⟩ = some (.int .i64 (fe : Int)) ∧ w'.cell? ⟨L.ad k, 10, none⟩ = some (.int .i64 (inn : Int))) (first | exact CK.out _ hq4.1 | exact CK.out _ hq3.1 | exact CK.out _ hq2.1 | exact CK.out _ (h.keep fun _ _ _ => rfl) | assumption)
      (first
        | (go_at_call 48; refine (HI.out _ ?_).mono ?_; exact ⟨h.keep fun _ _ _ => rfl, ⟨rfl, rfl, rfl, Nat.le_refl _, fun _ _ => rfl⟩⟩; rintro e w2 ⟨rfl, hq2⟩)
        | (go_at_call 29; refine (HW.out _ ?_).mono ?_; assumption; rintro e w3 ⟨rfl, hq3⟩)
        | (go_at_call 84; refine (HE.out _ ?_).mono ?_; assumption; rintro e w4 ⟨rfl, hq4⟩))
    all_goals
      go_wp2
      go_ret2
      exact ⟨by rw [hr.out]; rfl, by rw [hr.out]; exact hq4.1, hq4.2⟩
theorem goes_c : GoesSaid F B w L s k := by
  by_cases h6 : (s.get k).kind = 6
  · exact goes_quote h hf k hk h6
  by_cases h7 : (s.get k).kind = 7
  · exact goes_list h hf k hk h7
  by_cases h8 : (s.get k).kind = 8
  · exact goes_item h hf k hk h8
  by_cases h5 : (s.get k).kind = 5
  · rcases Nat.eq_zero_or_pos (s.get k).fence with h0 | h0
    · exact goes_code h hf k hk h5 h0
    · exact goes_fence HF h hf hG k hk h5 h0
  · exact goes_other h hf k hk h5 h6 h7 h8
end
end Go.Proofs.YtpimcdkhjingjaaGreatDoor.X
namespace Go.Proofs.YtpimcdkhjingjaaGreatDoor.X
open Go.RowKit Go.Proofs.YtpimcdkhjingjaaGreatDoorW.PrintWords
def St.wentOn (t : St) : St := if (t.get (t.opAt t.here)).kind = 6 then t.touch (t.here + 1) else t
def St.alongGo (F : LeafFns) : Nat → St → Bool × St
  | 0, s => (false, s)
  | f + 1, s =>
    if s.here + 1 < s.op.length then
      if (s.goes F (s.opAt (s.here + 1))).1.2 = true then (true, ((s.goes F (s.opAt (s.here + 1))).2.touch (s.here + 2)).cutOpen (s.here + 1))
      else if (s.goes F (s.opAt (s.here + 1))).1.1 = false then (false, (s.goes F (s.opAt (s.here + 1))).2)
      else St.alongGo F f (St.wentOn { (s.goes F (s.opAt (s.here + 1))).2 with here := s.here + 1 })
    else (false, s)
def St.along (F : LeafFns) (s : St) : Bool × St := St.alongGo F s.op.length { s with here := 0 }
def St.line (F : LeafFns) (s : St) : St :=
  if (s.along F).1 = true then (s.along F).2
  else
    let t := (s.along F).2
    let r := t.begins F (t.cur.s.length - t.cur.at_ + 1) false
    if r.1.2 = true then r.2
    else if (decide (t.op.length = t.here + 1) || r.1.1 || r.2.cur.blank) = false ∧ (r.2.get r.2.leafAt).kind = 2 then (r.2.pushLine r.2.leafAt r.2.cur.word).touch r.2.op.length
    else (r.2.cutOpen (r.2.here + 1)).rest
end Go.Proofs.YtpimcdkhjingjaaGreatDoor.X
namespace Go.Proofs.YtpimcdkhjingjaaGreatDoor.X
open Go.RowKit Go.Proofs.YtpimcdkhjingjaaGreatDoorW.PrintWords
theorem After.refl {N : Nat} {s : St} (h : Wf N s) : After N s s := ⟨h, rfl, Nat.le_refl _, rfl, Nat.le_refl _⟩
theorem After.trans {N M : Nat} {s t u : St} (h : After N s t) (k : After M t u) : After M s u :=
  ⟨k.wf, k.text.trans h.text, Nat.le_trans h.le k.le, k.at_.trans h.at_, Nat.le_trans h.len k.len⟩
theorem goes_at (F : LeafFns) (s : St) (k : Nat) : ∃ q, (s.goes F k).2 = s.at q ∧ q.s = s.cur.s ∧ s.cur.at_ ≤ q.at_ ∧ (s.cur.Ok → q.Ok) := by
  have h0 : ∃ q, s = s.at q ∧ q.s = s.cur.s ∧ s.cur.at_ ≤ q.at_ ∧ (s.cur.Ok → q.Ok) := ⟨s.cur, rfl, rfl, Nat.le_refl _, id⟩
  have hs : ∀ n, ∃ q, s.at (s.cur.skip n) = s.at q ∧ q.s = s.cur.s ∧ s.cur.at_ ≤ q.at_ ∧ (s.cur.Ok → q.Ok) := fun n => ⟨_, rfl, Cur.skip_s _ _, Cur.skip_at _ _, Cur.skip_ok _⟩
  unfold St.goes
  split
  · split
    · refine ⟨_, rfl, (Cur.quote_all _).1, ?_, (Cur.quote_all _).2.1⟩
      unfold Cur.quote
      exact Nat.le_trans (Cur.skip_at _ _) (Nat.le_trans (Cur.take_all _ _).2.1 (Cur.skip_at _ _))
    · exact h0
  · split
    · exact h0
    · split
      · split <;> split <;> first | exact hs _ | exact h0
      · split
        · split
          · split
            · exact h0
            · exact hs _
          · split
            · exact hs _
            · exact h0
        · exact h0
theorem goes_after (F : LeafFns) {N : Nat} {s : St} (hf : Wf N s) (k : Nat) : After N s (s.goes F k).2 ∧ (s.goes F k).2.op = s.op ∧ (s.goes F k).2.here = s.here ∧ (s.goes F k).2.bs = s.bs := by
  obtain ⟨q, h1, h2, h3, h4⟩ := goes_at F s k
  rw [h1]
  exact ⟨⟨hf.at (h4 hf.cur), h2, h3, rfl, Nat.le_refl _⟩, rfl, rfl, rfl⟩
theorem touch_after {N : Nat} {s : St} (hf : Wf N s) (n : Nat) : After N s (s.touch n) :=
  ⟨hf.touch n, by rw [St.touch_cur], by rw [St.touch_cur]; exact Nat.le_refl _, St.touch_at _ _, by rw [St.touch_len]; exact Nat.le_refl _⟩
theorem wentOn_after {N : Nat} {s : St} (hf : Wf N s) : After N s s.wentOn ∧ s.wentOn.op = s.op ∧ s.wentOn.here = s.here ∧ s.wentOn.bs.length = s.bs.length := by
  unfold St.wentOn
  split
  · exact ⟨touch_after hf _, St.touch_op _ _, St.touch_here _ _, St.touch_len _ _⟩
  · exact ⟨After.refl hf, rfl, rfl, rfl⟩
theorem alongGo_after (F : LeafFns) {N : Nat} : ∀ (f : Nat) {s : St}, Wf N s → After N s (s.alongGo F f).2
  | 0, s, h => After.refl h
  | f + 1, s, h => by
    rw [St.alongGo]
    split
    · rename_i hop
      obtain ⟨h1, ho, hh, hb⟩ := goes_after F h (s.opAt (s.here + 1))
      split
      · have h2 := touch_after h1.wf (s.here + 2)
        refine h1.trans (h2.trans ⟨h2.wf.cut ?_, rfl, Nat.le_refl _, rfl, Nat.le_refl _⟩)
        rw [St.touch_here, hh]
        exact Nat.lt_succ_self _
      · split
        · exact h1
        · have h3 : Wf N { (s.goes F (s.opAt (s.here + 1))).2 with here := s.here + 1 } := h1.wf.goHere (by rw [ho]; exact hop)
          have h4 : After N s { (s.goes F (s.opAt (s.here + 1))).2 with here := s.here + 1 } := ⟨h3, h1.text, h1.le, h1.at_, h1.len⟩
          have h5 := (wentOn_after h3).1
          exact h4.trans (h5.trans (alongGo_after F f h5.wf))
    · exact After.refl h
theorem along_after (F : LeafFns) {N : Nat} {s : St} (h : Wf N s) : After N s (s.along F).2 := by
  have h1 : Wf N { s with here := 0 } := h.goHere (by have := h.here; omega)
  have h2 := alongGo_after F s.op.length h1
  exact ⟨h2.wf, h2.text, h2.le, h2.at_, h2.len⟩
theorem begins_after {F : LeafFns} (HF : LeafOk F) : ∀ (G : Nat) {N : Nat} {s : St} (b : Bool), Wf N s → N + 6 * G ≤ 1099511627776 → After (N + 6 * G) s (s.begins F G b).2
  | 0, N, s, b, h, hN => After.refl (h.mono (by omega) hN)
  | G + 1, N, s, b, h, hN => by
    rw [St.begins]
    have hr : After (N + 6 * (G + 1)) s s := After.refl (h.mono (by omega) hN)
    split
    · exact hr
    · split
      · split
        · exact hr
        · have h1 := puts_after h (b := codeB) rfl (Nat.zero_le _) ⟨Nat.zero_le _, Nat.zero_le _⟩ (by omega)
          unfold St.coded
          have h2 := h1.wf.mono (M := N + 6 * (G + 1)) (by omega) hN
          refine ⟨h2.at (Cur.skip_ok _ h.cur), Cur.skip_s _ _, Cur.skip_at _ _, h1.at_, h1.len⟩
      · have h1 := (begin_after HF h s.cur.word (by omega)).1
        split
        · exact ⟨h1.wf.mono (by omega) hN, h1.text, h1.le, h1.at_, h1.len⟩
        · have h2 := begins_after HF G (b || (s.begin F s.cur.word).1.1) h1.wf (by omega)
          have h3 := h1.trans h2
          exact ⟨h3.wf.mono (by omega) hN, h3.text, h3.le, h3.at_, h3.len⟩
theorem pushLine_after {N : Nat} {s : St} (h : Wf N s) {i : Nat} (hi : i < s.bs.length) (l : List UInt8) (hN : N + 1 ≤ 1099511627776) : After (N + 1) s (s.pushLine i l) :=
  ⟨h.pushLine hi hN, rfl, Nat.le_refl _, rfl, by unfold St.pushLine; rw [St.set_len]; exact Nat.le_refl _⟩
theorem rest_after {N : Nat} {s : St} (h : Wf N s) (hN : N + 6 ≤ 1099511627776) : After (N + 6) s s.rest := by
  have hm : ∀ {M : Nat} {t : St}, After M s t → M ≤ N + 6 → After (N + 6) s t := fun ha hM => ⟨ha.wf.mono hM hN, ha.text, ha.le, ha.at_, ha.len⟩
  have hp := fun l => pushLine_after h (h.opAt h.here) l (by omega)
  unfold St.rest
  split
  · split
    · exact hm ((hp _).trans (touch_after (hp _).wf _)) (by omega)
    · exact hm (hp _) (by omega)
  · split
    · exact hm (After.refl h) (by omega)
    · split
      · exact hm ((hp _).trans (touch_after (hp _).wf _)) (by omega)
      · exact puts_after h rfl (Nat.le_refl _) ⟨Nat.zero_le _, Nat.zero_le _⟩ hN
theorem line_after {F : LeafFns} (HF : LeafOk F) {N M : Nat} {s : St} (h : Wf N s) (hM : N + 6 * (s.cur.s.length + 2) ≤ M) (hb : M ≤ 1099511627776) : After M s (s.line F) := by
  have ha := along_after F h
  have hm : ∀ {K : Nat} {t : St}, After K s t → K ≤ M → After M s t := fun ha hK => ⟨ha.wf.mono hK hb, ha.text, ha.le, ha.at_, ha.len⟩
  unfold St.line
  split
  · exact hm ha (by omega)
  · have ht := ha.text
    obtain ⟨t, hteq⟩ : ∃ t, t = (s.along F).2 := ⟨_, rfl⟩
    rw [← hteq] at ha ht ⊢
    have hG : t.cur.s.length - t.cur.at_ + 1 ≤ s.cur.s.length + 1 := by rw [ht]; omega
    have hbg := begins_after HF (t.cur.s.length - t.cur.at_ + 1) false ha.wf (by omega)
    obtain ⟨r, hr⟩ : ∃ r, r = t.begins F (t.cur.s.length - t.cur.at_ + 1) false := ⟨_, rfl⟩
    rw [← hr] at hbg
    dsimp only
    rw [← hr]
    have hsb := ha.trans hbg
    split
    · exact hm hsb (by omega)
    · split
      · have hp := pushLine_after hbg.wf (i := r.2.leafAt) (hbg.wf.opAt (by have := hbg.wf.here; omega)) r.2.cur.word (by omega)
        exact hm (hsb.trans (hp.trans (touch_after hp.wf _))) (by omega)
      · have hc : Wf (N + 6 * (t.cur.s.length - t.cur.at_ + 1)) (r.2.cutOpen (r.2.here + 1)) := hbg.wf.cut (Nat.lt_succ_self _)
        have hre := rest_after hc (by omega)
        have hcc : After (N + 6 * (t.cur.s.length - t.cur.at_ + 1)) r.2 (r.2.cutOpen (r.2.here + 1)) := ⟨hc, rfl, Nat.le_refl _, rfl, Nat.le_refl _⟩
        exact hm (hsb.trans (hcc.trans hre)) (by omega)
end Go.Proofs.YtpimcdkhjingjaaGreatDoor.X
namespace Go.Proofs.YtpimcdkhjingjaaGreatDoor.X
open Go.RowKit Go.Proofs.YtpimcdkhjingjaaGreatDoorW.PrintWords
set_option maxRecDepth 100000 in
set_option maxHeartbeats 8000000 in
theorem along_c {F : LeafFns} (HF : LeafOk F) {B : Nat} {w : World} {L : Lay} {s : St} {N : Nat} (h : Rep B w L s) (hf : Wf N s) (hG : GB B w) :
    Calls Tryz.prog 25 #[.pointer (some ⟨L.pb, 0, none⟩)] w fun e w' => e = .returned (.bool (s.along F).1) ∧ Move B w L (s.along F).2 w' := by
  obtain ⟨res, hres⟩ : ∃ res, res = s.along F := ⟨_, rfl⟩
  have HRes := Lib.hid hres
  rw [← hres]
  clear hres
  have hf0 : Wf N { s with here := 0 } := hf.goHere (by have := hf.here; omega)
  have hr0 := h.setHere 0
  have hb0 : Below B w (w.setCell ⟨L.pb, 1, none⟩ (.int .i64 ((0 : Nat) : Int))) := Below.of_touch (touch_set _ _ _ _) h.size h.bp
  obtain ⟨n, hn⟩ : ∃ n, n = s.op.length := ⟨_, rfl⟩
  have Hn := Lib.hid hn
  clear hn
  have hpf := h.pf 1
  have hp1 := h.p1
  go_enter Tryz.func25, Tryz.ntmps25
  go_wp2
  go_loopg [3, 4] n (fun k v3 v4 wr => ∃ t : St, Hid (t.alongGo F k = res) ∧ t.here + k = n ∧ t.op.length = n ∧ Rep B wr L t ∧ Wf N t ∧ Below B w wr)
  case atStart => exact ⟨{ s with here := 0 }, (by rw [Hn.out, HRes.out]; exact rfl : Hid _), Nat.zero_add _, Hn.out.symm, hr0, hf0, hb0⟩
  case round =>
    obtain ⟨t, hr1, hk, hon, hr, hft, hb⟩ := hrel
    have hhere := hft.here
    cases gk with
    | zero => omega
    | succ k =>
      obtain ⟨g, cap, hv, hcap, hc⟩ := hr.opened (by omega)
      rw [hon] at hv hcap
      have hp0 := hr.p0
      have hp1 := hr.p1
      rw [hv] at hp0
      have hms := Nat.le_trans hft.opl hft.big
      rw [hon] at hms
      obtain ⟨h1, hh1⟩ : ∃ x, x = t.here + 1 := ⟨_, rfl⟩
      obtain ⟨h2, hh2⟩ : ∃ x, x = t.here + 2 := ⟨_, rfl⟩
      have hw1 : IntKind.i64.wrap ((t.here : Int) + 1) = (h1 : Int) := by rw [IntWalk.i64_in _ (by omega)]; omega
      have hw2 : IntKind.i64.wrap ((t.here : Int) + 2) = (h2 : Int) := by rw [IntWalk.i64_in _ (by omega)]; omega
      have hst : Hid (t.alongGo F (k + 1) = if t.here + 1 < t.op.length then
          if (t.goes F (t.opAt (t.here + 1))).1.2 = true then (true, ((t.goes F (t.opAt (t.here + 1))).2.touch (t.here + 2)).cutOpen (t.here + 1))
          else if (t.goes F (t.opAt (t.here + 1))).1.1 = false then (false, (t.goes F (t.opAt (t.here + 1))).2)
          else St.alongGo F k (St.wentOn { (t.goes F (t.opAt (t.here + 1))).2 with here := t.here + 1 })
        else (false, t)) := by show _ = _; rw [St.alongGo]
      rw [← hh1, ← hh2, hon] at hst
      by_cases hlt : h1 < n
      · have hlt' : (h1 : Int) < (n : Int) := by omega
        have hle0 : (0 : Int) ≤ (h1 : Int) := by omega
        have hcm := hc h1 (by omega)
        have ho : t.opAt h1 < t.bs.length := hft.opAt (by omega)
        obtain ⟨o, hoo⟩ : ∃ o, o = t.opAt h1 := ⟨_, rfl⟩
        rw [← hoo] at hcm ho hst
        have Hoo := Lib.hid hoo
        unfold Lay.ptr at hcm
        have hga := goes_after F hft o
        have HGo : Hid (∀ w', PS B L t wr w' → Calls Tryz.prog 46 #[.pointer (some ⟨L.pb, 0, none⟩), .pointer (some ⟨L.ad o, 0, none⟩)] w' fun e w2 => e = .returned (.tuple #[.bool (t.goes F o).1.1, .bool (t.goes F o).1.2]) ∧ PS B L (t.goes F o).2 wr w2) :=
          fun w' h' => (goes_c HF h'.1 hft ((hG.below hb).below h'.2) o ho).mono fun e w2 h2 => ⟨h2.1, h2.2.1, h'.2.trans h2.2.2⟩
        obtain ⟨r, hrr⟩ : ∃ r, r = t.goes F o := ⟨_, rfl⟩
        rw [← hrr] at hst hga HGo
        clear hrr hoo hc
        have hms1 : h2 ≤ n := by omega
        have Hh1 := Lib.hid hh1
        have Hh2 := Lib.hid hh2
        have Hv := Lib.hid hv
        have Hon := Lib.hid hon
        have Hk := Lib.hid hk
        clear hh1 hh2 hv hon hk hlt
        have hst : Hid (t.alongGo F (k + 1) = if r.1.2 = true then (true, (r.2.touch h2).cutOpen h1) else if r.1.1 = false then (false, r.2) else St.alongGo F k (St.wentOn { r.2 with here := h1 })) := by show _ = _; rw [hst.out, if_pos (by omega)]
        obtain ⟨⟨on, dn⟩, t2⟩ := r
        obtain ⟨ha2, hop2, hhe2, hbs2⟩ := hga
        change t2.op = t.op at hop2
        change t2.here = t.here at hhe2
        change t2.bs = t.bs at hbs2
        have hlen2 : t2.op.length = n := by rw [hop2]; exact Hon.out
        have ho2 : o < t2.bs.length := by rw [hbs2]; exact ho
        have Hop2 := Lib.hid hop2
        have Hhe2 := Lib.hid hhe2
        have Hbs2 := Lib.hid hbs2
        have Hlen2 := Lib.hid hlen2
        have hft2 := ha2.wf
        change Wf N t2 at hft2
        clear hop2 hhe2 hbs2 hlen2 ha2
        change Hid (∀ w', PS B L t wr w' → Calls Tryz.prog 46 #[.pointer (some ⟨L.pb, 0, none⟩), .pointer (some ⟨L.ad o, 0, none⟩)] w' fun e w2 => e = .returned (.tuple #[.bool on, .bool dn]) ∧ PS B L t2 wr w2) at HGo
        have CK : Hid (∀ w', PS B L t wr w' → w'.cell? ⟨L.pb, 0, none⟩ = some (.slice (some ⟨g, 0, none⟩) n cap) ∧ w'.cell? ⟨L.pb, 1, none⟩ = some (.int .i64 (t.here : Int)) ∧ w'.cell? ⟨g, h1, none⟩ = some (.pointer (some ⟨L.ad o, 0, none⟩))) := fun w' h' => by
          obtain ⟨g', cap', hv', _, hc'⟩ := h'.1.opened (by rw [Hon.out]; omega)
          have hp0' := h'.1.p0
          rw [Hv.out] at hp0' hv'
          rw [Hon.out] at hv'
          injection hv' with e1 e2 e3
          injection e1 with e1
          injection e1 with e1
          subst e1
          have := hc' h1 (by rw [Hon.out]; omega)
          rw [← Hoo.out] at this
          exact ⟨hp0', h'.1.p1, this⟩
        have CK2 : Hid (∀ w', PS B L t2 wr w' → w'.cell? ⟨L.pb, 0, none⟩ = some (.slice (some ⟨g, 0, none⟩) n cap) ∧ w'.cell? ⟨L.pb, 1, none⟩ = some (.int .i64 (t.here : Int)) ∧ w'.cell? ⟨g, h1, none⟩ = some (.pointer (some ⟨L.ad o, 0, none⟩))) := fun w' h' => by
          obtain ⟨g', cap', hv', _, hc'⟩ := h'.1.opened (by rw [Hlen2.out]; omega)
          have hp0' := h'.1.p0
          have hp1' := h'.1.p1
          rw [Hhe2.out] at hp1'
          rw [Hv.out] at hp0' hv'
          rw [Hlen2.out] at hv'
          injection hv' with e1 e2 e3
          injection e1 with e1
          injection e1 with e1
          subst e1
          have := hc' h1 (by rw [Hlen2.out]; omega)
          have e4 : t2.opAt h1 = o := by rw [Hoo.out]; unfold St.opAt; rw [Hop2.out]
          rw [e4] at this
          exact ⟨hp0', hp1', this⟩
        have HT := Lib.hid (fun w' (h' : PS B L t2 wr w') => (touch_c h'.1 hft2 h2 (by rw [Hlen2.out]; exact hms1)).mono fun e w3 (hh : _ ∧ _ ∧ _) => (⟨hh.1, hh.2.1, h'.2.trans hh.2.2⟩ : e = .returned (.tuple #[]) ∧ PS B L (t2.touch h2) wr w3))
        have hoth : (t2.touch h2).here + 1 = h1 := by rw [St.touch_here, Hhe2.out, Hh1.out]
        have HO : Hid (∀ w', PS B L (t2.touch h2) wr w' → Calls Tryz.prog 31 #[.pointer (some ⟨L.pb, 0, none⟩)] w' fun e w3 => e = .returned (.tuple #[]) ∧ Move B wr L ((t2.touch h2).cutOpen h1) w3) :=
          fun w' h' => (over_c h'.1 (hft2.touch h2)).mono fun e w3 hh => ⟨hh.1, by rw [← hoth]; obtain ⟨rv, q1, q2⟩ := hh.2; exact ⟨rv, q1, h'.2.trans q2⟩⟩
        clear hoth
        have hft3 : Wf N { t2 with here := h1 } := hft2.goHere (by rw [Hlen2.out]; omega)
        have hat3 : ({ t2 with here := h1 } : St).opAt ({ t2 with here := h1 } : St).here = o := by rw [Hoo.out]; show t2.op.getD h1 0 = t.op.getD h1 0; rw [Hop2.out]
        have HN : Hid (∀ w', PS B L { t2 with here := h1 } wr w' → Calls Tryz.prog 47 #[.pointer (some ⟨L.pb, 0, none⟩)] w' fun e w3 => e = .returned (.pointer (some ⟨L.ad o, 0, none⟩)) ∧ PS B L { t2 with here := h1 } wr w3) := fun w' h' => by
          have := now_q hft3 w' h'
          rw [hat3] at this
          exact this
        have HT3 := Lib.hid (fun w' (h' : PS B L { t2 with here := h1 } wr w') => (touch_c h'.1 hft3 h2 (by show h2 ≤ t2.op.length; rw [Hlen2.out]; exact hms1)).mono fun e w3 (hh : _ ∧ _ ∧ _) => (⟨hh.1, hh.2.1, h'.2.trans hh.2.2⟩ : e = .returned (.tuple #[]) ∧ PS B L (St.touch { t2 with here := h1 } h2) wr w3))
        have hwo : Hid (St.wentOn { t2 with here := h1 } = if (t2.get o).kind = 6 then St.touch { t2 with here := h1 } h2 else { t2 with here := h1 }) := by
          show _ = _
          unfold St.wentOn
          rw [hat3]
          have e1 : ({ t2 with here := h1 } : St).here + 1 = h2 := by show h1 + 1 = h2; rw [Hh1.out, Hh2.out]
          rw [e1]
          rfl
        clear hat3
        have hw3 : IntKind.i64.wrap ((h1 : Int) + 1) = (h2 : Int) := by
          have e1 := Hh1.out
          have e2 := Hh2.out
          rw [IntWalk.i64_in _ (by omega)]
          omega
        obtain ⟨K, hK⟩ : ∃ K, K = (t2.get o).kind := ⟨_, rfl⟩
        rw [← hK] at hwo
        have HK := Lib.hid hK
        clear hK
        go_wp2
        go_quiet (fail)
        go_wp2
        go_region_held3 (fun w' => w'.cell? ⟨L.pb, 0, none⟩ = some (.slice (some ⟨g, 0, none⟩) n cap) ∧ w'.cell? ⟨L.pb, 1, none⟩ = some (.int .i64 (t.here : Int)) ∧ w'.cell? ⟨g, h1, none⟩ = some (.pointer (some ⟨L.ad o, 0, none⟩))) (first | exact CK2.out _ hq2 | exact CK.out _ ⟨hr.keep fun _ _ _ => rfl, ⟨rfl, rfl, rfl, Nat.le_refl _, fun _ _ => rfl⟩⟩ | assumption)
          (first | (go_at_call 46; refine (HGo.out _ ?_).mono ?_; exact ⟨hr.keep fun _ _ _ => rfl, ⟨rfl, rfl, rfl, Nat.le_refl _, fun _ _ => rfl⟩⟩; rintro e w2 ⟨rfl, hq2⟩))
        all_goals
          have p1w : w2.cell? ⟨L.pb, 1, none⟩ = some (.int .i64 (t.here : Int)) := (CK2.out _ hq2).2.1
          cases dn with
          | true =>
            have hres : Hid (res = (true, (t2.touch h2).cutOpen h1)) := by show _ = _; rw [← hr1.out, hst.out]; rfl
            go_wp2_with (first
              | (go_at_call 30; refine (HT.out _ ?_).mono ?_; assumption; rintro e w3 ⟨rfl, hq3⟩)
              | (go_at_call 31; refine (HO.out _ ?_).mono ?_; assumption; rintro e w4 ⟨rfl, rv4, hr4, hb4⟩))
            go_ret
            exact ⟨by rw [hres.out]; rfl, rv4, by rw [hres.out]; exact hr4, hb.trans hb4⟩
          | false =>
            cases on with
            | false =>
              have hres : Hid (res = (false, t2)) := by show _ = _; rw [← hr1.out, hst.out]; rfl
              go_wp2
              go_ret
              exact ⟨by rw [hres.out]; rfl, L.rv, by rw [hres.out]; exact hq2.1, hb.trans hq2.2⟩
            | true =>
              have hres : Hid (St.alongGo F k (St.wentOn { t2 with here := h1 }) = res) := by show _ = _; rw [← hr1.out, hst.out]; rfl
              have pfw := hq2.1.pf 1
              have q3 : PS B L { t2 with here := h1 } wr (w2.setCell ⟨L.pb, 1, none⟩ (.int .i64 (h1 : Int))) := ⟨hq2.1.setHere h1, hq2.2.trans (Below.of_touch (touch_set _ _ _ _) hq2.1.size hq2.1.bp)⟩
              by_cases k6 : K = 6
              · have k6' : (K : Int) = 6 := by omega
                rw [if_pos k6] at hwo
                go_wp2_with (first
                  | (go_at_call 47; refine (HN.out _ ?_).mono ?_; assumption; rintro e w3 ⟨rfl, hq3⟩; have b03 : w3.cell? ⟨L.ad o, 0, none⟩ = some (.int .i64 (K : Int)) := (by rw [HK.out]; exact hq3.1.b0 _ ho2); have p13 : w3.cell? ⟨L.pb, 1, none⟩ = some (.int .i64 (h1 : Int)) := hq3.1.p1)
                  | (go_at_call 30; refine (HT3.out _ ?_).mono ?_; assumption; rintro e w4 ⟨rfl, hq4⟩))
                go_roundg k
                case measure => omega
                case rel => exact ⟨St.touch { t2 with here := h1 } h2, by rw [← hwo.out]; exact hres, by rw [St.touch_here]; show h1 + k = n; have := Hh1.out; have := Hk.out; omega, by rw [St.touch_op]; exact Hlen2.out, hq4.1, hft3.touch h2, hb.trans hq4.2⟩
              · have k6' : ¬ (K : Int) = 6 := by omega
                rw [if_neg k6] at hwo
                go_wp2_with (first
                  | (go_at_call 47; refine (HN.out _ ?_).mono ?_; assumption; rintro e w3 ⟨rfl, hq3⟩; have b03 : w3.cell? ⟨L.ad o, 0, none⟩ = some (.int .i64 (K : Int)) := (by rw [HK.out]; exact hq3.1.b0 _ ho2)))
                go_roundg k
                case measure => omega
                case rel => exact ⟨{ t2 with here := h1 }, by rw [← hwo.out]; exact hres, by show h1 + k = n; have := Hh1.out; have := Hk.out; omega, Hlen2.out, hq3.1, hft3, hb.trans hq3.2⟩
      · have hlt' : ¬ (h1 : Int) < (n : Int) := by omega
        have hres : Hid (res = (false, t)) := by show _ = _; rw [← hr1.out, hst.out, if_neg hlt]
        clear hon hh1 hh2 hk hlt hc hv
        go_wp2
        go_quiet (fail)
        go_wp2
        go_ret
        exact ⟨by rw [hres.out]; rfl, L.rv, by rw [hres.out]; exact hr.keep fun _ _ _ => rfl, hb.trans ⟨rfl, rfl, rfl, Nat.le_refl _, fun _ _ => rfl⟩⟩
end Go.Proofs.YtpimcdkhjingjaaGreatDoor.X
