/- A merged text (wip/mkclaim.py). -/
import Derived.Test.YtpimcdkhjingjaaGreatDoorRCG
import Derived.Test.YtpimcdkhjingjaaGreatDoorRCH
set_option linter.unusedVariables false
set_option linter.unusedSimpArgs false
set_option linter.unusedSectionVars false
namespace Go.Proofs.YtpimcdkhjingjaaGreatDoor.X
open Go.RowKit Go.Proofs.YtpimcdkhjingjaaGreatDoorW.PrintWords
set_option maxRecDepth 100000 in
set_option maxHeartbeats 16000000 in
theorem line_c {F : LeafFns} (HF : LeafOk F) {B : Nat} {w : World} {L : Lay} {s : St} {N : Nat} (h : Rep B w L s) (hf : Wf N s) (hG : GB B w) (hN : N + 6 * (s.cur.s.length + 2) ≤ 1099511627776) :
    Calls Tryz.prog 21 #[.pointer (some ⟨L.pb, 0, none⟩)] w fun e w' => e = .returned (.tuple #[]) ∧ Step B w L s (s.line F) w' := by
  have HA := Lib.hid (along_c HF h hf hG)
  have haf := along_after F hf
  have Hln : Hid (s.line F = if (s.along F).1 = true then (s.along F).2
    else if ((s.along F).2.begins F ((s.along F).2.cur.s.length - (s.along F).2.cur.at_ + 1) false).1.2 = true then ((s.along F).2.begins F ((s.along F).2.cur.s.length - (s.along F).2.cur.at_ + 1) false).2
    else if (decide ((s.along F).2.op.length = (s.along F).2.here + 1) || ((s.along F).2.begins F ((s.along F).2.cur.s.length - (s.along F).2.cur.at_ + 1) false).1.1 || ((s.along F).2.begins F ((s.along F).2.cur.s.length - (s.along F).2.cur.at_ + 1) false).2.cur.blank) = false ∧ (((s.along F).2.begins F ((s.along F).2.cur.s.length - (s.along F).2.cur.at_ + 1) false).2.get ((s.along F).2.begins F ((s.along F).2.cur.s.length - (s.along F).2.cur.at_ + 1) false).2.leafAt).kind = 2 then (((s.along F).2.begins F ((s.along F).2.cur.s.length - (s.along F).2.cur.at_ + 1) false).2.pushLine ((s.along F).2.begins F ((s.along F).2.cur.s.length - (s.along F).2.cur.at_ + 1) false).2.leafAt ((s.along F).2.begins F ((s.along F).2.cur.s.length - (s.along F).2.cur.at_ + 1) false).2.cur.word).touch ((s.along F).2.begins F ((s.along F).2.cur.s.length - (s.along F).2.cur.at_ + 1) false).2.op.length
    else (((s.along F).2.begins F ((s.along F).2.cur.s.length - (s.along F).2.cur.at_ + 1) false).2.cutOpen (((s.along F).2.begins F ((s.along F).2.cur.s.length - (s.along F).2.cur.at_ + 1) false).2.here + 1)).rest) := rfl
  obtain ⟨ra, hra⟩ : ∃ ra, ra = s.along F := ⟨_, rfl⟩
  rw [← hra] at HA haf Hln
  clear hra
  obtain ⟨da, t⟩ := ra
  change After N s t at haf
  cases da with
  | true =>
    have hres : Hid (s.line F = t) := by show _ = _; rw [Hln.out]; rfl
    go_enter Tryz.func21, Tryz.ntmps21
    go_wp2_with (first | (go_at_call 25; refine HA.out.mono ?_; rintro e w1 ⟨rfl, rv1, hr1, hb1⟩))
    refine bodyPost_ret (results_none rfl _ _ _) rfl ?_
    exact ⟨rfl, L.ad, rv1, by rw [hres.out]; exact hr1, fun _ _ => rfl, hb1⟩
  | false =>
    have Hln2 : Hid (s.line F = if (t.begins F (t.cur.s.length - t.cur.at_ + 1) false).1.2 = true then (t.begins F (t.cur.s.length - t.cur.at_ + 1) false).2
      else if (decide (t.op.length = t.here + 1) || (t.begins F (t.cur.s.length - t.cur.at_ + 1) false).1.1 || (t.begins F (t.cur.s.length - t.cur.at_ + 1) false).2.cur.blank) = false ∧ ((t.begins F (t.cur.s.length - t.cur.at_ + 1) false).2.get (t.begins F (t.cur.s.length - t.cur.at_ + 1) false).2.leafAt).kind = 2 then ((t.begins F (t.cur.s.length - t.cur.at_ + 1) false).2.pushLine (t.begins F (t.cur.s.length - t.cur.at_ + 1) false).2.leafAt (t.begins F (t.cur.s.length - t.cur.at_ + 1) false).2.cur.word).touch (t.begins F (t.cur.s.length - t.cur.at_ + 1) false).2.op.length
      else ((t.begins F (t.cur.s.length - t.cur.at_ + 1) false).2.cutOpen ((t.begins F (t.cur.s.length - t.cur.at_ + 1) false).2.here + 1)).rest) := by show _ = _; rw [Hln.out]; rfl
    clear Hln
    have hft := haf.wf
    obtain ⟨G, hGn⟩ : ∃ G, G = t.cur.s.length - t.cur.at_ + 1 := ⟨_, rfl⟩
    have htx := haf.text
    have hG1 : t.cur.s.length - t.cur.at_ < G := by omega
    have hG2 : G ≤ s.cur.s.length + 1 := by rw [← htx]; omega
    rw [← hGn] at Hln2
    have HB : Hid (∀ rv w', PS B ⟨L.pb, L.cb, L.ad, rv⟩ t w w' → Calls Tryz.prog 26 #[.pointer (some ⟨L.pb, 0, none⟩)] w' fun e w2 => e = .returned (.tuple #[.bool (t.begins F G false).1.1, .bool (t.begins F G false).1.2]) ∧ ∃ ad2 rv2, PS B ⟨L.pb, L.cb, ad2, rv2⟩ (t.begins F G false).2 w w2 ∧ ∀ i, i < t.bs.length → ad2 i = L.ad i) :=
      fun rv w' h' => (begins_c HF h'.1 hft (hG.below h'.2) G hG1 (by omega)).mono fun e w2 hh => ⟨hh.1, by obtain ⟨ad2, rv2, q1, q2, q3⟩ := hh.2; exact ⟨ad2, rv2, ⟨q1, h'.2.trans q3⟩, q2⟩⟩
    have hbf := begins_after HF G false hft (by omega)
    obtain ⟨r, hr⟩ : ∃ r, r = t.begins F G false := ⟨_, rfl⟩
    rw [← hr] at HB hbf Hln2
    clear hr
    obtain ⟨⟨bg, dn⟩, t2⟩ := r
    change After (N + 6 * G) t t2 at hbf
    have hf2 := hbf.wf
    have hlen : s.bs.length ≤ t.bs.length := haf.len
    have hth := hft.here
    have hbig := Nat.le_trans hft.opl hft.big
    have ho2 : t2.leafAt < t2.bs.length := hf2.opAt (by have := hf2.here; omega)
    have hh2 := hf2.here
    have hl2 := hf2.linl _ ho2
    have hop2 := hf2.opl
    have HBl : Hid (∀ ad rv w0 w', PS B ⟨L.pb, L.cb, ad, rv⟩ t2 w0 w' → Calls Tryz.prog 27 #[.pointer (some ⟨L.cb, 0, none⟩)] w' fun e w2 => e = .returned (.bool t2.cur.blank) ∧ PS B ⟨L.pb, L.cb, ad, rv⟩ t2 w0 w2) := fun ad rv w0 w' h' => Blank_q hf2 w' h'
    have HW : Hid (∀ ad rv w0 w', PS B ⟨L.pb, L.cb, ad, rv⟩ t2 w0 w' → Calls Tryz.prog 29 #[.pointer (some ⟨L.cb, 0, none⟩)] w' fun e w2 => e = .returned (.string (S t2.cur.word)) ∧ PS B ⟨L.pb, L.cb, ad, rv⟩ t2 w0 w2) := fun ad rv w0 w' h' => Word_q hf2 w' h'
    have HL : Hid (∀ ad rv w0 w', PS B ⟨L.pb, L.cb, ad, rv⟩ t2 w0 w' → Calls Tryz.prog 28 #[.pointer (some ⟨L.pb, 0, none⟩)] w' fun e w2 => e = .returned (.pointer (some ⟨ad t2.leafAt, 0, none⟩)) ∧ PS B ⟨L.pb, L.cb, ad, rv⟩ t2 w0 w2) := fun ad rv w0 w' h' => leaf_q hf2 w' h'
    have HOv : Hid (∀ ad rv w0 w', PS B ⟨L.pb, L.cb, ad, rv⟩ t2 w0 w' → Calls Tryz.prog 31 #[.pointer (some ⟨L.pb, 0, none⟩)] w' fun e w2 => e = .returned (.tuple #[]) ∧ ∃ rv2, PS B ⟨L.pb, L.cb, ad, rv2⟩ (t2.cutOpen (t2.here + 1)) w0 w2) :=
      fun ad rv w0 w' h' => (over_c h'.1 hf2).mono fun e w2 hh => ⟨hh.1, by obtain ⟨rv2, q1, q2⟩ := hh.2; exact ⟨rv2, q1, h'.2.trans q2⟩⟩
    have hf3 : Wf (N + 6 * G) (t2.cutOpen (t2.here + 1)) := hf2.cut (Nat.lt_succ_self _)
    have HR : Hid (∀ ad rv w0 w', PS B ⟨L.pb, L.cb, ad, rv⟩ (t2.cutOpen (t2.here + 1)) w0 w' → Calls Tryz.prog 32 #[.pointer (some ⟨L.pb, 0, none⟩)] w' fun e w2 => e = .returned (.tuple #[]) ∧ ∃ ad3 rv3, PS B ⟨L.pb, L.cb, ad3, rv3⟩ (t2.cutOpen (t2.here + 1)).rest w0 w2 ∧ ∀ i, i < t2.bs.length → ad3 i = ad i) :=
      fun ad rv w0 w' h' => (rest_c h'.1 hf3 (by omega)).mono fun e w2 hh => ⟨hh.1, by obtain ⟨ad3, rv3, q1, q2, q3⟩ := hh.2; exact ⟨ad3, rv3, ⟨q1, h'.2.trans q3⟩, q2⟩⟩
    have hlen2 : t.bs.length ≤ t2.bs.length := hbf.len
    obtain ⟨bl, hbl⟩ : ∃ bl, bl = t2.cur.blank := ⟨_, rfl⟩
    rw [← hbl] at HBl Hln2
    obtain ⟨K, hK⟩ : ∃ K, K = (t2.get t2.leafAt).kind := ⟨_, rfl⟩
    have HK := Lib.hid hK
    obtain ⟨n, hn⟩ : ∃ n, n = t.op.length := ⟨_, rfl⟩
    obtain ⟨h1, hh1⟩ : ∃ x, x = t.here + 1 := ⟨_, rfl⟩
    have hw1 : IntKind.i64.wrap ((t.here : Int) + 1) = (h1 : Int) := by rw [IntWalk.i64_in _ (by omega)]; omega
    have Hln3 : Hid (s.line F = if dn = true then t2
      else if (decide (n = h1) || bg || bl) = false ∧ K = 2 then (t2.pushLine t2.leafAt t2.cur.word).touch t2.op.length
      else (t2.cutOpen (t2.here + 1)).rest) := by show _ = _; rw [Hln2.out, hn, hh1, hK]
    have Hn := Lib.hid hn
    clear Hln2 hK hbl hn hh1 hGn htx
    go_enter Tryz.func21, Tryz.ntmps21
    go_upto_region 1 with (first | (go_at_call 25; refine HA.out.mono ?_; rintro e w1 ⟨rfl, rv1, hr1, hb1⟩))
    obtain ⟨g, cap, hv, hcap, hc⟩ := hr1.opened (by show 0 < t.op.length; omega)
    have hp0 := hr1.p0
    have hp1 := hr1.p1
    rw [hv] at hp0
    change w1.cell? ⟨L.pb, 0, none⟩ = some (.slice (some ⟨g, 0, none⟩) t.op.length cap) at hp0
    change w1.cell? ⟨L.pb, 1, none⟩ = some (.int .i64 (t.here : Int)) at hp1
    rw [← Hn.out] at hp0
    have q1 : PS B ⟨L.pb, L.cb, L.ad, rv1⟩ t w w1 := ⟨hr1, hb1⟩
    clear hv hcap hc
    cases dn with
    | true =>
      have hres : Hid (s.line F = t2) := by show _ = _; rw [Hln3.out]; rfl
      go_quiet (fail)
      go_wp2_with (first | (go_at_call 26; refine (HB.out rv1 _ ?_).mono ?_; exact ⟨hr1.keep fun _ _ _ => rfl, hb1.trans ⟨rfl, rfl, rfl, Nat.le_refl _, fun _ _ => rfl⟩⟩; rintro e w2 ⟨rfl, ad2, rv2, hq2, had2⟩; have p22 : w2.cell? ⟨L.pb, 2, none⟩ = some (.pointer (some ⟨L.cb, 0, none⟩)) := hq2.1.p2))
      refine bodyPost_ret (results_none rfl _ _ _) rfl ?_
      exact ⟨rfl, ad2, rv2, by rw [hres.out]; exact hq2.1, fun i hi => had2 i (by omega), hq2.2⟩
    | false =>
      have hall : (n = h1 ∨ bg = true ∨ bl = true ∨ K ≠ 2) ∨ (n ≠ h1 ∧ bg = false ∧ bl = false ∧ K = 2) := by
        cases bg <;> cases bl <;> simp <;> omega
      rcases hall with hall | ⟨hne, rfl, rfl, rfl⟩
      · have hres : Hid (s.line F = (t2.cutOpen (t2.here + 1)).rest) := by
          show _ = _
          rw [Hln3.out, if_neg (by simp), if_neg]
          rintro ⟨e1, e2⟩
          rcases hall with e | e | e | e
          · rw [e] at e1; simp at e1
          · rw [e] at e1; simp at e1
          · rw [e] at e1; simp at e1
          · exact e e2
        have hfour : n = h1 ∨ n ≠ h1 ∧ bg = true ∨ n ≠ h1 ∧ bg = false ∧ bl = true ∨ n ≠ h1 ∧ bg = false ∧ bl = false ∧ K ≠ 2 := by
          rcases Decidable.em (n = h1) with e | e
          · exact .inl e
          · cases bg with
            | true => exact .inr (.inl ⟨e, rfl⟩)
            | false =>
              cases bl with
              | true => exact .inr (.inr (.inl ⟨e, rfl, rfl⟩))
              | false => exact .inr (.inr (.inr ⟨e, rfl, rfl, by simpa [e] using hall⟩))
        clear hall Hln3
        rcases hfour with rfl | ⟨hne, rfl⟩ | ⟨hne, rfl, rfl⟩ | ⟨hne, rfl, rfl, hk2⟩
        · go_quiet (fail)
          go_wp2_with (first
            | (go_at_call 26; refine (HB.out rv1 _ ?_).mono ?_; exact ⟨hr1.keep fun _ _ _ => rfl, hb1.trans ⟨rfl, rfl, rfl, Nat.le_refl _, fun _ _ => rfl⟩⟩; rintro e w2 ⟨rfl, ad2, rv2, hq2, had2⟩; have p22 : w2.cell? ⟨L.pb, 2, none⟩ = some (.pointer (some ⟨L.cb, 0, none⟩)) := hq2.1.p2)
            | (go_at_call 27; refine (HBl.out ad2 rv2 w _ ?_).mono ?_; assumption; rintro e w3 ⟨rfl, hq2⟩)
            | (go_at_call 28; refine (HL.out ad2 rv2 w _ ?_).mono ?_; assumption; rintro e w4 ⟨rfl, hq2⟩; have b04 : w4.cell? ⟨ad2 t2.leafAt, 0, none⟩ = some (.int .i64 (K : Int)) := (by rw [HK.out]; exact hq2.1.b0 _ ho2))
            | (go_at_call 31; refine (HOv.out ad2 rv2 w _ ?_).mono ?_; assumption; rintro e w5 ⟨rfl, rv5, hq5⟩)
            | (go_at_call 32; refine (HR.out ad2 rv5 w _ ?_).mono ?_; assumption; rintro e w6 ⟨rfl, ad6, rv6, hq6, had6⟩))
          go_end0
          exact ⟨rfl, ad6, rv6, by rw [hres.out]; exact hq6.1, fun i hi => (had6 i (by omega)).trans (had2 i (by omega)), hq6.2⟩
        · have hne' : ¬ ((n : Int) = (h1 : Int)) := by omega
          go_quiet (fail)
          go_wp2_with (first
            | (go_at_call 26; refine (HB.out rv1 _ ?_).mono ?_; exact ⟨hr1.keep fun _ _ _ => rfl, hb1.trans ⟨rfl, rfl, rfl, Nat.le_refl _, fun _ _ => rfl⟩⟩; rintro e w2 ⟨rfl, ad2, rv2, hq2, had2⟩; have p22 : w2.cell? ⟨L.pb, 2, none⟩ = some (.pointer (some ⟨L.cb, 0, none⟩)) := hq2.1.p2)
            | (go_at_call 27; refine (HBl.out ad2 rv2 w _ ?_).mono ?_; assumption; rintro e w3 ⟨rfl, hq2⟩)
            | (go_at_call 28; refine (HL.out ad2 rv2 w _ ?_).mono ?_; assumption; rintro e w4 ⟨rfl, hq2⟩; have b04 : w4.cell? ⟨ad2 t2.leafAt, 0, none⟩ = some (.int .i64 (K : Int)) := (by rw [HK.out]; exact hq2.1.b0 _ ho2))
            | (go_at_call 31; refine (HOv.out ad2 rv2 w _ ?_).mono ?_; assumption; rintro e w5 ⟨rfl, rv5, hq5⟩)
            | (go_at_call 32; refine (HR.out ad2 rv5 w _ ?_).mono ?_; assumption; rintro e w6 ⟨rfl, ad6, rv6, hq6, had6⟩))
          go_end0
          exact ⟨rfl, ad6, rv6, by rw [hres.out]; exact hq6.1, fun i hi => (had6 i (by omega)).trans (had2 i (by omega)), hq6.2⟩
        · have hne' : ¬ ((n : Int) = (h1 : Int)) := by omega
          go_quiet (fail)
          go_wp2_with (first
            | (go_at_call 26; refine (HB.out rv1 _ ?_).mono ?_; exact ⟨hr1.keep fun _ _ _ => rfl, hb1.trans ⟨rfl, rfl, rfl, Nat.le_refl _, fun _ _ => rfl⟩⟩; rintro e w2 ⟨rfl, ad2, rv2, hq2, had2⟩; have p22 : w2.cell? ⟨L.pb, 2, none⟩ = some (.pointer (some ⟨L.cb, 0, none⟩)) := hq2.1.p2)
            | (go_at_call 27; refine (HBl.out ad2 rv2 w _ ?_).mono ?_; assumption; rintro e w3 ⟨rfl, hq2⟩)
            | (go_at_call 28; refine (HL.out ad2 rv2 w _ ?_).mono ?_; assumption; rintro e w4 ⟨rfl, hq2⟩; have b04 : w4.cell? ⟨ad2 t2.leafAt, 0, none⟩ = some (.int .i64 (K : Int)) := (by rw [HK.out]; exact hq2.1.b0 _ ho2))
            | (go_at_call 31; refine (HOv.out ad2 rv2 w _ ?_).mono ?_; assumption; rintro e w5 ⟨rfl, rv5, hq5⟩)
            | (go_at_call 32; refine (HR.out ad2 rv5 w _ ?_).mono ?_; assumption; rintro e w6 ⟨rfl, ad6, rv6, hq6, had6⟩))
          go_end0
          exact ⟨rfl, ad6, rv6, by rw [hres.out]; exact hq6.1, fun i hi => (had6 i (by omega)).trans (had2 i (by omega)), hq6.2⟩
        · have hne' : ¬ ((n : Int) = (h1 : Int)) := by omega
          have hk2' : ((K : Int) == 2) = false := beq_eq_false_iff_ne.2 (by omega)
          go_quiet (fail)
          go_wp2_with (first
            | (go_at_call 26; refine (HB.out rv1 _ ?_).mono ?_; exact ⟨hr1.keep fun _ _ _ => rfl, hb1.trans ⟨rfl, rfl, rfl, Nat.le_refl _, fun _ _ => rfl⟩⟩; rintro e w2 ⟨rfl, ad2, rv2, hq2, had2⟩; have p22 : w2.cell? ⟨L.pb, 2, none⟩ = some (.pointer (some ⟨L.cb, 0, none⟩)) := hq2.1.p2)
            | (go_at_call 27; refine (HBl.out ad2 rv2 w _ ?_).mono ?_; assumption; rintro e w3 ⟨rfl, hq2⟩)
            | (go_at_call 28; refine (HL.out ad2 rv2 w _ ?_).mono ?_; assumption; rintro e w4 ⟨rfl, hq2⟩; have b04 : w4.cell? ⟨ad2 t2.leafAt, 0, none⟩ = some (.int .i64 (K : Int)) := (by rw [HK.out]; exact hq2.1.b0 _ ho2))
            | (go_at_call 31; refine (HOv.out ad2 rv2 w _ ?_).mono ?_; assumption; rintro e w5 ⟨rfl, rv5, hq5⟩)
            | (go_at_call 32; refine (HR.out ad2 rv5 w _ ?_).mono ?_; assumption; rintro e w6 ⟨rfl, ad6, rv6, hq6, had6⟩))
          go_end0
          exact ⟨rfl, ad6, rv6, by rw [hres.out]; exact hq6.1, fun i hi => (had6 i (by omega)).trans (had2 i (by omega)), hq6.2⟩
      · have hne' : ((n : Int) == (h1 : Int)) = false := beq_eq_false_iff_ne.2 (by omega)
        have hres : Hid (s.line F = (t2.pushLine t2.leafAt t2.cur.word).touch t2.op.length) := by
          show _ = _
          rw [Hln3.out, if_neg (by simp), if_pos]
          simp [hne]
        clear Hln3
        obtain ⟨o, hoo⟩ : ∃ o, o = t2.leafAt := ⟨_, rfl⟩
        obtain ⟨T, hT⟩ : ∃ T, T = t2.cur.word := ⟨_, rfl⟩
        rw [← hoo] at HL hres ho2 HK hl2
        rw [← hT] at HW hres
        clear hoo hT
        have hln : (t2.get o).lines.length ≤ 1099511627776 := by omega
        go_quiet (fail)
        go_wp2_with (first
            | (go_at_call 26; refine (HB.out rv1 _ ?_).mono ?_; exact ⟨hr1.keep fun _ _ _ => rfl, hb1.trans ⟨rfl, rfl, rfl, Nat.le_refl _, fun _ _ => rfl⟩⟩; rintro e w2 ⟨rfl, ad2, rv2, hq2, had2⟩; have p22 : w2.cell? ⟨L.pb, 2, none⟩ = some (.pointer (some ⟨L.cb, 0, none⟩)) := hq2.1.p2)
            | (go_at_call 27; refine (HBl.out ad2 rv2 w _ ?_).mono ?_; assumption; rintro e w3 ⟨rfl, hq2⟩)
            | (go_at_call 28; refine (HL.out ad2 rv2 w _ ?_).mono ?_; assumption; rintro e w4 ⟨rfl, hq2⟩; have b04 : w4.cell? ⟨ad2 o, 0, none⟩ = some (.int .i64 2) := (by have hh := hq2.1.b0 _ ho2; rw [← HK.out] at hh; exact hh)))
        have c11 : w4.cell? ⟨ad2 o, 11, none⟩ = some (rv2 (.line o)) := hq2.1.b11 o ho2
        have c2 : w4.cell? ⟨L.pb, 2, none⟩ = some (.pointer (some ⟨L.cb, 0, none⟩)) := hq2.1.p2
        go_region_law (first
          | (refine step_call rfl Tryz.func28 (by kernel_rfl) rfl #[.pointer (some ⟨L.pb, 0, none⟩)] rfl (by simp only [List.map_toArray, List.map_cons, List.map_nil]; rfl) ?_; refine (HL.out ad2 rv2 w _ ?_).mono ?_; (first | assumption | exact ⟨hq2.1.keep fun _ _ _ => rfl, hq2.2.trans ⟨rfl, rfl, rfl, Nat.le_refl _, fun _ _ => rfl⟩⟩); rintro e w7 ⟨rfl, hq2⟩; refine ⟨_, rfl, ?_⟩; have d11 : w7.cell? ⟨ad2 o, 11, none⟩ = some (rv2 (.line o)) := hq2.1.b11 o ho2; have d2 : w7.cell? ⟨L.pb, 2, none⟩ = some (.pointer (some ⟨L.cb, 0, none⟩)) := hq2.1.p2)
          | (refine step_call rfl Tryz.func29 (by kernel_rfl) rfl #[.pointer (some ⟨L.cb, 0, none⟩)] rfl (by simp only [List.map_toArray, List.map_cons, List.map_nil]; rfl) ?_; refine (HW.out ad2 rv2 w _ ?_).mono ?_; (first | assumption | exact ⟨hq2.1.keep fun _ _ _ => rfl, hq2.2.trans ⟨rfl, rfl, rfl, Nat.le_refl _, fun _ _ => rfl⟩⟩); rintro e w8 ⟨rfl, hq2⟩; refine ⟨_, rfl, ?_⟩; have d11 : w8.cell? ⟨ad2 o, 11, none⟩ = some (rv2 (.line o)) := hq2.1.b11 o ho2; have d2 : w8.cell? ⟨L.pb, 2, none⟩ = some (.pointer (some ⟨L.cb, 0, none⟩)) := hq2.1.p2; have d11a : (w8.alloc (.cells #[.string (S T)] 9)).cell? ⟨ad2 o, 11, none⟩ = some (rv2 (.line o)) := (hq2.1.alloc _).b11 o ho2)
          | (revert d11a; intro d11a; refine step_string w8 (.string (S T)) B (rv2 (.line o)) (t2.get o).lines.length (elems ⟨L.pb, L.cb, ad2, rv2⟩ t2 (.line o)) rfl _ _ rfl rfl rfl (hq2.1.ownL o ho2) rfl hln hq2.1.size ?_; intro g4 cap4 w9 hown4 hg4 hat4; have r4f : w9.frozen? ⟨ad2 o, 11, none⟩ = false := blk_frozen ((hq2.1.alloc _).grown_b (.line o) ho2 hg4 o ho2) 11; have r4 : w9.cell? ⟨ad2 o, 11, none⟩ = some (rv2 (.line o)) := (blk_cell ((hq2.1.alloc _).grown_b (.line o) ho2 hg4 o ho2) 11).trans rfl))
        all_goals
          obtain ⟨rv5, w5, hr5, hb5, hw5⟩ : ∃ rv5 w5, Rep B w5 ⟨L.pb, L.cb, ad2, rv5⟩ (t2.pushLine o T) ∧ Below B w w5 ∧ w5 = w9.setCell ⟨ad2 o, 11, none⟩ (.slice (some ⟨g4, 0, none⟩) ((t2.get o).lines.length + 1) cap4) :=
            ⟨_, _, (hq2.1.alloc _).pushLine o T ho2 hown4 hg4 hat4, hq2.2.trans (((Below.refl _ _).alloc hq2.1.size _).trans (((hq2.1.alloc _).grown_below (.line o) ho2 hg4).setCell (hq2.1.bb o ho2) _)), rfl⟩
          rw [← hw5]
          clear hw5 r4 r4f hat4 hg4 hown4 d11a d2 d11 hq2 HW c11 c2 b04
          have hf5 := hf2.pushLine (l := T) ho2 (by omega)
          obtain ⟨g6, cap6, hv6, _, _⟩ := hr5.opened (by show 0 < t2.op.length; omega)
          have p05 := hr5.p0
          rw [hv6] at p05
          change w5.cell? ⟨L.pb, 0, none⟩ = some (.slice (some ⟨g6, 0, none⟩) t2.op.length cap6) at p05
          have HT := Lib.hid (fun w' hr' => touch_c (B := B) (w := w') (L := ⟨L.pb, L.cb, ad2, rv5⟩) hr' hf5 t2.op.length (Nat.le_refl _))
          clear hv6 hf5
          go_wp2_with (first
            | (go_at_call 30; refine (HT.out _ ?_).mono ?_; assumption; rintro e w6 ⟨rfl, hr6, hb6⟩))
          refine bodyPost_ret (results_none rfl _ _ _) rfl ?_
          exact ⟨rfl, ad2, rv5, by rw [hres.out]; exact hr6, fun i hi => had2 i (by omega), hb5.trans hb6⟩
end Go.Proofs.YtpimcdkhjingjaaGreatDoor.X
namespace Go.Proofs.YtpimcdkhjingjaaGreatDoor.X
open Go.RowKit Go.Proofs.YtpimcdkhjingjaaGreatDoorW.PrintWords
namespace Good
variable {M N : Nat} {s t : St}
theorem same (h : Good M s) (e : t.bs = s.bs) : Good M t := by
  have hg : ∀ i, t.get i = s.get i := fun i => by unfold St.get; rw [e]
  exact ⟨fun i hi => by rw [hg]; exact h.short i (by rw [← e]; exact hi), fun i hi => by rw [hg]; exact h.kin i (by rw [← e]; exact hi), fun i hi => by rw [hg]; exact h.last i (by rw [← e]; exact hi)⟩
theorem setB (h : Good M s) {i : Nat} (hi : i < s.bs.length) {b : Blk} (hl : ∀ l ∈ b.lines, l.length ≤ M) (hk : ∀ k ∈ b.kids, i < k) (ha : b.last ≤ 1099511627776) : Good M (s.set i b) := by
  refine ⟨fun j hj => ?_, fun j hj => ?_, fun j hj => ?_⟩ <;> rw [St.set_len] at hj <;> rw [St.get_set s i j b hi] <;> split
  · exact hl
  · exact h.short j hj
  · rename_i e; subst e; exact hk
  · exact h.kin j hj
  · exact ha
  · exact h.last j hj
theorem mark (h : Good M s) {k : Nat} (hk : k < s.bs.length) (ha : s.at_ ≤ 1099511627776) : Good M (s.mark k) := h.setB hk (h.short k hk) (h.kin k hk) ha
theorem touch (h : Good M s) (hf : Wf N s) (n : Nat) : Good M (s.touch n) := by
  have key : ∀ (l : List Nat) (t : St), Good M t → t.at_ ≤ 1099511627776 → (∀ k ∈ l, k < t.bs.length) → Good M (l.foldl St.mark t) := by
    intro l
    induction l with
    | nil => intro t ht _ _; exact ht
    | cons k l ih =>
      intro t ht ha hk
      refine ih (t.mark k) (ht.mark (hk k (by simp)) ha) ha fun j hj => ?_
      have : (t.mark k).bs.length = t.bs.length := St.set_len _ _ _
      rw [this]
      exact hk j (by simp [hj])
  exact key _ s h hf.at_ fun k hk => hf.op k (List.mem_of_mem_take hk)
theorem pushLine (h : Good M s) {i : Nat} (hi : i < s.bs.length) {l : List UInt8} (hl : l.length ≤ M) : Good M (s.pushLine i l) :=
  h.setB hi (fun x hx => by
    rcases List.mem_append.1 hx with hx | hx
    · exact h.short i hi x hx
    · rw [List.mem_singleton.1 hx]; exact hl) (h.kin i hi) (h.last i hi)
theorem pushKid (h : Good M s) {i k : Nat} (hi : i < s.bs.length) (hk : i < k) : Good M (s.pushKid i k) :=
  h.setB hi (h.short i hi) (fun x hx => by
    rcases List.mem_append.1 hx with hx | hx
    · exact h.kin i hi x hx
    · rw [List.mem_singleton.1 hx]; exact hk) (h.last i hi)
theorem born (h : Good M s) {b : Blk} (hl : ∀ l ∈ b.lines, l.length ≤ M) (hk : b.kids = []) (ha : b.last ≤ 1099511627776) : Good M (s.born b) := by
  have hlen : (s.born b).bs.length = s.bs.length + 1 := by simp [St.born]
  refine ⟨fun j hj => ?_, fun j hj => ?_, fun j hj => ?_⟩ <;> rw [hlen] at hj <;> rw [Rep.get_born] <;> split
  · exact hl
  · exact h.short j (by omega)
  · rw [hk]; intro k hk'; cases hk'
  · exact h.kin j (by omega)
  · exact ha
  · exact h.last j (by omega)
theorem puts (h : Good M s) (hf : Wf N s) (hN : N + 3 ≤ 1099511627776) {b : Blk} (hl : ∀ l ∈ b.lines, l.length ≤ M) (hll : b.lines.length ≤ 1) (hk : b.kids = []) (ha : b.last ≤ 1099511627776) (hw : b.width ≤ 1099511627776 ∧ b.in_ ≤ 1099511627776) : Good M (s.puts b) := by
  have hlen : (s.born b).bs.length = s.bs.length + 1 := by simp [St.born]
  have hfb := hf.born hk (by omega) hw (by omega)
  have h1 := (h.born hl hk ha).same (t := (s.born b).layUp s.bs.length) (by unfold St.layUp; split <;> rfl)
  have hn : s.bs.length < (s.born b).bs.length := by rw [hlen]; exact Nat.lt_succ_self _
  have hfu := hfb.layUp s.bs.length
  have hul : ((s.born b).layUp s.bs.length).bs.length = (s.born b).bs.length := St.layUp_len _ _
  have h2 : Good M (((s.born b).layUp s.bs.length).layTop s.bs.length) := by
    unfold St.layTop
    exact (h1.same (t := ((s.born b).layUp s.bs.length).cutOpen (((s.born b).layUp s.bs.length).here + 1)) rfl).setB (by show s.bs.length < ((s.born b).layUp s.bs.length).bs.length; rw [hul]; exact hn) (h1.short _ (by rw [hul]; exact hn)) (h1.kin _ (by rw [hul]; exact hn)) (h1.last _ (by rw [hul]; exact hn))
  have hft := hfu.layTop (k := s.bs.length) (by rw [hul]; exact hn)
  have hsm : ∀ {j : Nat}, j < ((s.born b).layUp s.bs.length).op.length → ((s.born b).layUp s.bs.length).opAt j < s.bs.length := by
    intro j hj
    have e : ((s.born b).layUp s.bs.length).op = s.op := by unfold St.layUp; split <;> rfl
    unfold St.opAt
    rw [e, List.getD_eq_getElem?_getD, List.getElem?_eq_getElem (by rw [← e]; exact hj)]
    exact hf.op _ (List.getElem_mem _)
  have hat : (((s.born b).layUp s.bs.length).layTop s.bs.length).opAt (((s.born b).layUp s.bs.length).layTop s.bs.length).here < s.bs.length := by
    show (((s.born b).layUp s.bs.length).cutOpen (((s.born b).layUp s.bs.length).here + 1)).opAt ((s.born b).layUp s.bs.length).here < s.bs.length
    rw [St.opAt_take _ _ _ (Nat.lt_succ_self _)]
    exact hsm hfu.here
  have htl : (((s.born b).layUp s.bs.length).layTop s.bs.length).bs.length = (s.born b).bs.length := (St.set_len _ _ _).trans hul
  have h3 : Good M ((((s.born b).layUp s.bs.length).layTop s.bs.length).layIn s.bs.length) :=
    (h2.pushKid (by rw [htl]; omega) hat).same rfl
  have hfi := hft.layIn (k := s.bs.length) (by rw [htl]; exact hn) (by omega)
  have hlt : ((((s.born b).layUp s.bs.length).layTop s.bs.length).layIn s.bs.length).here + 1 < ((((s.born b).layUp s.bs.length).layTop s.bs.length).layIn s.bs.length).op.length := by
    rw [layIn_len, layTop_len hfu]
    exact Nat.lt_succ_self _
  unfold St.puts St.lays St.layEnd
  exact Good.touch (h3.same (t := { ((((s.born b).layUp s.bs.length).layTop s.bs.length).layIn s.bs.length) with here := ((((s.born b).layUp s.bs.length).layTop s.bs.length).layIn s.bs.length).here + 1 }) rfl) (hfi.goHere hlt) _
theorem sets (h : Good M s) (hf : Wf N s) (hN : N + 3 ≤ 1099511627776) {b : Blk} (hl : ∀ l ∈ b.lines, l.length ≤ M) (hll : b.lines.length ≤ 1) (hk : b.kids = []) (ha : b.last ≤ 1099511627776) (hw : b.width ≤ 1099511627776 ∧ b.in_ ≤ 1099511627776) : Good M (s.sets b) :=
  (h.puts hf hN hl hll hk ha hw).same rfl
end Good
theorem nolines {M : Nat} {b : Blk} (e : b.lines = []) : ∀ l ∈ b.lines, l.length ≤ M := by rw [e]; intro l hl; cases hl
theorem oneline {M : Nat} {b : Blk} {l : List UInt8} (e : b.lines = [l]) (h : l.length ≤ M) : ∀ x ∈ b.lines, x.length ≤ M := by rw [e]; intro x hx; rw [List.mem_singleton.1 hx]; exact h
theorem word_le' (q : Cur) : q.word.length ≤ q.s.length := by
  have h1 : q.word.length ≤ (q.s.drop q.at_).length := List.Sublist.length_le (List.dropWhile_sublist _)
  rw [List.length_drop] at h1
  omega
theorem rest_le (q : Cur) (h : q.Ok) : q.rest.length ≤ q.s.length + 4 := by
  have := h.left_le
  unfold Cur.rest
  split
  · rw [List.length_append, List.length_replicate, List.length_drop]; omega
  · rw [List.length_drop]; omega
section
variable {F : LeafFns} (HF : LeafOk F) (HH : ∀ l, (F.heading l).2.length ≤ l.length) {M N : Nat}
theorem goes_good {s : St} (h : Good M s) (k : Nat) : Good M (s.goes F k).2 := by
  obtain ⟨q, e, _⟩ := goes_at F s k
  rw [e]
  exact h.same rfl
theorem alongGo_good : ∀ (f : Nat) {s : St}, Wf N s → Good M s → Good M (s.alongGo F f).2
  | 0, _, _, h => h
  | f + 1, s, hf, h => by
    rw [St.alongGo]
    split
    · rename_i hop
      have hga := goes_after F hf (s.opAt (s.here + 1))
      have h1 := goes_good (F := F) h (s.opAt (s.here + 1))
      split
      · exact (h1.touch hga.1.wf _).same rfl
      · split
        · exact h1
        · have h3 : Wf N { (s.goes F (s.opAt (s.here + 1))).2 with here := s.here + 1 } := hga.1.wf.goHere (by rw [hga.2.1]; exact hop)
          have h4 : Good M { (s.goes F (s.opAt (s.here + 1))).2 with here := s.here + 1 } := h1.same rfl
          refine alongGo_good f (wentOn_after h3).1.wf ?_
          unfold St.wentOn
          split
          · exact h4.touch h3 _
          · exact h4
    · exact h
theorem along_good {s : St} (hf : Wf N s) (h : Good M s) : Good M (s.along F).2 :=
  alongGo_good s.op.length (hf.goHere (by have := hf.here; omega)) (h.same rfl)
include HF HH in
theorem begin_good {s : St} (hf : Wf N s) (h : Good M s) (l : List UInt8) (hl : l.length ≤ M) (hN : N + 6 ≤ 1099511627776) : Good M (s.begin F l).2 := by
  have hin := s.cur.indent_le2 hf.cur
  have hm := Cur.marked_all (F.marker l).1 s.cur
  unfold St.begin
  split
  · exact (h.same (t := s.at s.cur.quote) rfl).puts (hf.at ((Cur.quote_all s.cur).2.1 hf.cur)) (by omega) (nolines rfl) (Nat.zero_le _) rfl (Nat.zero_le _) ⟨Nat.zero_le _, Nat.zero_le _⟩
  · split
    · exact h.sets hf (by omega) (oneline (l := (F.heading l).2) rfl (Nat.le_trans (HH l) hl)) (Nat.le_refl _) rfl (Nat.zero_le _) ⟨Nat.zero_le _, Nat.zero_le _⟩
    · split
      · exact h.puts hf (by omega) (nolines rfl) (Nat.zero_le _) rfl (Nat.zero_le _) ⟨Nat.zero_le _, by show s.cur.indent ≤ _; omega⟩
      · split
        · rename_i hu
          have hdeep := hf.deep (by rw [hu.2]; decide)
          have ho := hf.opAt hf.here
          have hne : s.opAt s.here ≠ s.opAt 0 := fun e => by
            have h5 := hf.root
            rw [← e, hu.2] at h5
            cases h5
          have hfA : Wf N (s.set (s.opAt s.here) { s.get (s.opAt s.here) with kind := 3 }) := hf.setB ho rfl rfl (.inr hne)
          have hoA : s.opAt s.here < (s.set (s.opAt s.here) { s.get (s.opAt s.here) with kind := 3 }).bs.length := by rw [St.set_len]; exact ho
          have hfB : Wf N (s.asHead (s.opAt s.here) (F.under l)) := hfA.setB hoA rfl rfl (.inl rfl)
          have hA : Good M (s.set (s.opAt s.here) { s.get (s.opAt s.here) with kind := 3 }) := h.setB ho (h.short _ ho) (h.kin _ ho) (h.last _ ho)
          have hB : Good M (s.asHead (s.opAt s.here) (F.under l)) := hA.setB hoA (hA.short _ hoA) (hA.kin _ hoA) (hA.last _ hoA)
          exact (hB.touch hfB _).same rfl
        · split
          · exact h.sets hf (by omega) (nolines rfl) (Nat.zero_le _) rfl (Nat.zero_le _) ⟨Nat.zero_le _, Nat.zero_le _⟩
          · show Good M (s.item F l).2
            unfold St.item
            split
            · exact h
            · have hf1 : Wf (N + 3) (s.listed F l) ∧ Good M (s.listed F l) ∧ (s.listed F l).cur = s.cur := by
                unfold St.listed
                split
                · exact ⟨hf.puts rfl (Nat.zero_le _) ⟨Nat.zero_le _, Nat.zero_le _⟩ (by omega), h.puts hf (by omega) (nolines rfl) (Nat.zero_le _) rfl (Nat.zero_le _) ⟨Nat.zero_le _, Nat.zero_le _⟩, puts_cur _ _⟩
                · exact ⟨hf.mono (by omega) (by omega), h, rfl⟩
              obtain ⟨h1, h2, h3⟩ := hf1
              have hbh : (s.cur.marked (F.marker l).1).behind ≤ 274877906948 := by
                unfold Cur.behind
                split
                · omega
                · exact Cur.indent_le2 _ (hm.2.1 hf.cur)
              have hml := (HF.marker_le l).2
              obtain ⟨u, hu⟩ : ∃ u, u = s.listed F l := ⟨_, rfl⟩
              rw [← hu] at h1 h2 h3
              show Good M ((s.listed F l).itemed (F.marker l).1)
              rw [← hu]
              unfold St.itemed
              rw [h3]
              have hq : ((s.cur.marked (F.marker l).1).skip (s.cur.marked (F.marker l).1).behind).Ok := Cur.skip_ok _ (hm.2.1 hf.cur)
              have hfu : Wf (N + 3) (u.at ((s.cur.marked (F.marker l).1).skip (s.cur.marked (F.marker l).1).behind)) := h1.at hq
              have hgu : Good M (u.at ((s.cur.marked (F.marker l).1).skip (s.cur.marked (F.marker l).1).behind)) := h2.same rfl
              exact hgu.puts hfu (by omega) (nolines rfl) (Nat.zero_le _) rfl (Nat.zero_le _) ⟨by show s.cur.indent + (F.marker l).1 + (s.cur.marked (F.marker l).1).behind ≤ _; omega, Nat.zero_le _⟩
include HF HH in
theorem begins_good : ∀ (G : Nat) {N : Nat} {s : St} (b : Bool), Wf N s → Good M s → s.cur.s.length ≤ M → N + 6 * G ≤ 1099511627776 → Good M (s.begins F G b).2
  | 0, _, _, _, _, h, _, _ => h
  | G + 1, N, s, b, hf, h, hM, hN => by
    rw [St.begins]
    split
    · exact h
    · split
      · split
        · exact h
        · unfold St.coded
          exact (h.puts hf (by omega) (nolines rfl) (Nat.zero_le _) rfl (Nat.zero_le _) ⟨Nat.zero_le _, Nat.zero_le _⟩).same rfl
      · have h1 := (begin_after HF hf s.cur.word (by omega)).1
        have h2 := begin_good HF HH hf h s.cur.word (Nat.le_trans (word_le' _) hM) (by omega)
        split
        · exact h2
        · exact begins_good G _ h1.wf h2 (by rw [h1.text]; exact hM) (by omega)
theorem rest_good {s : St} (hf : Wf N s) (h : Good M s) (hM : s.cur.s.length + 4 ≤ M) (hN : N + 6 ≤ 1099511627776) : Good M s.rest := by
  have ho := hf.opAt hf.here
  have h1 := h.pushLine ho (l := s.cur.rest) (Nat.le_trans (rest_le _ hf.cur) hM)
  have hw : s.cur.word.length ≤ M := Nat.le_trans (word_le' _) (by omega)
  have h2 := h.pushLine ho (l := s.cur.word) hw
  have hp := fun l => pushLine_after hf (hf.opAt hf.here) l (by omega)
  unfold St.rest
  split
  · split
    · exact h1.touch (hp _).wf _
    · exact h1
  · split
    · exact h
    · split
      · exact h2.touch (hp _).wf _
      · exact h.puts hf (by omega) (oneline rfl hw) (Nat.le_refl _) rfl (Nat.zero_le _) ⟨Nat.zero_le _, Nat.zero_le _⟩
include HF HH in
theorem line_good {s : St} (hf : Wf N s) (h : Good M s) (hM : s.cur.s.length + 4 ≤ M) (hb : N + 6 * (s.cur.s.length + 2) ≤ 1099511627776) : Good M (s.line F) := by
  have ha := along_after F hf
  have hag := along_good (F := F) hf h
  unfold St.line
  split
  · exact hag
  · have ht := ha.text
    obtain ⟨t, hteq⟩ : ∃ t, t = (s.along F).2 := ⟨_, rfl⟩
    rw [← hteq] at ha ht hag ⊢
    have hG : t.cur.s.length - t.cur.at_ + 1 ≤ s.cur.s.length + 1 := by rw [ht]; omega
    have hbg := begins_after HF (t.cur.s.length - t.cur.at_ + 1) false ha.wf (by omega)
    have hgg := begins_good HF HH (t.cur.s.length - t.cur.at_ + 1) false ha.wf hag (by rw [ht]; omega) (by omega)
    obtain ⟨r, hr⟩ : ∃ r, r = t.begins F (t.cur.s.length - t.cur.at_ + 1) false := ⟨_, rfl⟩
    rw [← hr] at hbg hgg
    dsimp only
    rw [← hr]
    have htx : r.2.cur.s = s.cur.s := hbg.text.trans ht
    have hlo : r.2.leafAt < r.2.bs.length := hbg.wf.opAt (by have := hbg.wf.here; omega)
    split
    · exact hgg
    · split
      · have hp := pushLine_after hbg.wf hlo r.2.cur.word (by omega)
        exact (hgg.pushLine hlo (Nat.le_trans (word_le' _) (by rw [htx]; omega))).touch hp.wf _
      · have hc : Wf (N + 6 * (t.cur.s.length - t.cur.at_ + 1)) (r.2.cutOpen (r.2.here + 1)) := hbg.wf.cut (Nat.lt_succ_self _)
        exact rest_good hc (hgg.same rfl) (by show r.2.cur.s.length + 4 ≤ M; rw [htx]; exact hM) (by omega)
end
end Go.Proofs.YtpimcdkhjingjaaGreatDoor.X
