/- A merged text (wip/mkclaim.py). -/
import Derived.Test.YtpimcdkhjingjaaGreatDoorRCN
import Derived.Test.YtpimcdkhjingjaaGreatDoorRCE
import Derived.Laws.Cover4
import Derived.Laws.Runes
import Derived.Lib.IndexLaws
import Derived.Test.YtpimcdkhjingjaaGreatDoorRCC
set_option linter.unusedVariables false
set_option linter.unusedSimpArgs false
set_option linter.unusedSectionVars false
namespace Go.Proofs.YtpimcdkhjingjaaGreatDoor.X
open Go.Shelf Go.RowKit Go.Proofs.YtpimcdkhjingjaaGreatDoorW.PrintWords Go.Proofs.YtpimcdkhjingjaaGreatDoor.PEnt Go.Proofs.YtpimcdkhjingjaaGreatDoor.Pure
def num10 (l : List UInt8) : Int × Bool := (ent_number.f 40 (S l) decS 10 7).getD (0, false)
def num16 (l : List UInt8) : Int × Bool := (ent_number.f 40 (S l) hexS 16 6).getD (0, false)
theorem num10_eq (l : List UInt8) (hl : l.length ≤ 4611686018427387904) : ent_number.f 40 (S l) decS 10 7 = some (num10 l) := by
  obtain ⟨r, hr⟩ := number10 l hl 36
  have hr' : ent_number.f 40 (S l) decS 10 7 = some r := hr
  unfold num10
  rw [hr']
  rfl
theorem num16_eq (l : List UInt8) (hl : l.length ≤ 4611686018427387904) : ent_number.f 40 (S l) hexS 16 6 = some (num16 l) := by
  obtain ⟨r, hr⟩ := number16 l hl 36
  have hr' : ent_number.f 40 (S l) hexS 16 6 = some r := hr
  unfold num16
  rw [hr']
  rfl
def atName (l : List UInt8) : List UInt8 := (l.take (Lib.indexByte l 59).toNat).drop 1
def atNum (d : List UInt8) : Int × Bool := if d.headD 0 = 120 ∨ d.headD 0 = 88 then num16 (d.drop 1) else num10 d
def atV (l : List UInt8) : ByteArray × Nat :=
  if Lib.indexByte l 59 < 0 ∨ l.headD 0 ≠ 38 then (⟨#[]⟩, 0)
  else if (namedV (atName l)).toList.isEmpty = false then (namedV (atName l), (Lib.indexByte l 59).toNat + 1)
  else if Lib.hasPrefix (atName l) [35] = false then (⟨#[]⟩, 0)
  else if (atNum (Lib.trimPrefix (atName l) [35])).2 = false then (⟨#[]⟩, 0)
  else (Utf8.encode (atNum (Lib.trimPrefix (atName l) [35])).1, (Lib.indexByte l 59).toNat + 1)
theorem idx_lt {l : List UInt8} {c : UInt8} (h : ¬ Lib.indexByte l c < 0) : (Lib.indexByte l c).toNat < l.length ∧ Lib.indexByte l c = ((Lib.indexByte l c).toNat : Int) ∧ l[(Lib.indexByte l c).toNat]? = some c := by
  have h1 : Lib.indexByte l c = ((Lib.indexByte l c).toNat : Int) := by omega
  have h2 := (Lib.indexByte_some h1).1
  exact ⟨(List.getElem?_eq_some_iff.1 h2).1, h1, h2⟩
theorem atV_le (l : List UInt8) : (atV l).2 ≤ l.length ∧ (atV l).1.size ≤ 4 := by
  have hz : (⟨#[]⟩ : ByteArray).size ≤ 4 := by decide
  unfold atV
  split
  · exact ⟨Nat.zero_le _, hz⟩
  · rename_i h
    have h1 := idx_lt (fun e => h (.inl e))
    split
    · exact ⟨h1.1, Nat.le_trans (named_eq _).2 (by decide)⟩
    · split
      · exact ⟨Nat.zero_le _, hz⟩
      · split
        · exact ⟨Nat.zero_le _, hz⟩
        · exact ⟨h1.1, encode_size_le _⟩
theorem number_c (l : List UInt8) (ds : ByteArray) (b m : Int) (r : Int × Bool) (h : ent_number.f 40 (S l) ds b m = some r) (w : World) (hG : GL w) :
    Calls Tryz.prog 150 #[.string (S l), .string ds, .int .i64 b, .int .i64 m] w fun e w' => e = .returned (.tuple #[.int .i32 r.1, .bool r.2]) ∧ Below w.heap.size w w' := ent_number.calls 40 _ _ _ _ _ _ w hG h
set_option maxRecDepth 100000 in
set_option maxHeartbeats 4000000 in
theorem At_c (l : List UInt8) (hl : l.length ≤ 1099511627776) (w : World) (hG : GL w) :
    Calls Tryz.prog 135 #[.string (S l)] w fun e w' => e = .returned (.tuple #[.string (atV l).1, .int .i64 ((atV l).2 : Int)]) ∧ Below w.heap.size w w' := by
  have HI : Hid (∀ w : World, Calls Tryz.prog 116 #[.string (S l), .int .u8 59] w fun e w' => e = .returned (.int .i64 (Lib.indexByte l 59)) ∧ w = w') := fun w => (Tryz.strings_IndexByte (S l) 59 w).mono fun e w' ⟨h1, h2⟩ => ⟨h1, h2.symm⟩
  have Hv : Hid (atV l = _) := atV.eq_1 l
  have hN := Lib.hid (fun w => ent_named.calls (S (atName l)) (namedV (atName l)) w (named_eq (atName l)).1)
  have hnm : (atName l).length ≤ 1099511627776 := by unfold atName; rw [List.length_drop, List.length_take]; omega
  have htp : (Lib.trimPrefix (atName l) [35]).length ≤ 1099511627776 := by
    unfold Lib.trimPrefix
    split
    · rw [List.length_drop]; omega
    · exact hnm
  have HC : Hid (∀ w : World, Calls Tryz.prog 149 #[.string (S (atName l)), .string ⟨#[35]⟩] w fun e w' => e = .returned (.tuple #[.string (S (Lib.trimPrefix (atName l) [35])), .bool (Lib.hasPrefix (atName l) [35])]) ∧ w = w') := fun w => (Tryz.strings_CutPrefix (S (atName l)) ⟨#[35]⟩ w).mono fun e w' ⟨h1, h2⟩ => ⟨h1, h2.symm⟩
  obtain ⟨z, hz⟩ : ∃ z, z = Lib.indexByte l 59 := ⟨_, rfl⟩
  have hidx := @idx_lt l 59
  have hname : atName l = (l.take (Lib.indexByte l 59).toNat).drop 1 := rfl
  rw [← hz] at HI Hv hidx hname
  clear hz
  obtain ⟨s, hs⟩ : ∃ s, s = S l := ⟨_, rfl⟩
  have hsz : s.size = l.length := by rw [hs, S_size]
  rw [← hs] at HI ⊢
  have Hs := Lib.hid hs
  have Hsz := Lib.hid hsz
  clear hs
  by_cases hz0 : z < 0
  · have hres : Hid (atV l = (⟨#[]⟩, 0)) := by show _ = _; rw [Hv.out, if_pos (.inl hz0)]
    have hzd : decide (z < 0) = true := decide_eq_true hz0
    clear Hv hidx hname hsz
    go_enter Tryz.func135, Tryz.ntmps135
    go_wp2_with (first | (go_at_call 116; refine (HI.out _).mono ?_; rintro e w2 ⟨rfl, rfl⟩))
    go_ret2
    exact ⟨by rw [hres.out]; rfl, Below.refl _ _⟩
  · obtain ⟨i, hi⟩ : ∃ i : Nat, i = z.toNat := ⟨_, rfl⟩
    obtain ⟨h1, h2, h3⟩ := hidx hz0
    clear hidx
    rw [← hi] at h1 h2 h3 hname Hv
    obtain ⟨c0, t, hct⟩ : ∃ c0 t, l = c0 :: t := by
      cases hll : l with
      | nil => rw [hll] at h1; simp at h1
      | cons c0 t => exact ⟨c0, t, rfl⟩
    have hpos : 0 < s.size := by rw [hsz]; omega
    have hs0 : s[0]'hpos = c0 := by
      have e := Lib.getD_at s 0 hpos
      have e2 : s.data.toList = c0 :: t := by rw [Hs.out, S_data, hct]
      rw [e2] at e
      exact e
    have hh : l.headD 0 = c0 := by rw [hct]; rfl
    have Hct := Lib.hid hct
    clear hct
    by_cases hc0 : c0 = 38
    · have hne : ((c0.toNat : Int) != 38) = false := by rw [hc0]; rfl
      have hzd : decide (z < 0) = false := decide_eq_false hz0
      have hi1 : 1 ≤ i := by
        rcases Nat.eq_zero_or_pos i with e | e
        · rw [e, Hct.out] at h3
          have e3 : c0 = 59 := Option.some.inj h3
          rw [hc0] at e3
          cases e3
        · exact e
      have hnames : s.extract 1 i = S (atName l) := by
        rw [Hs.out, S_extract, hname, List.drop_take]
      have Hv2 : Hid (atV l = if (namedV (atName l)).toList.isEmpty = false then (namedV (atName l), i + 1)
          else if Lib.hasPrefix (atName l) [35] = false then (⟨#[]⟩, 0)
          else if (atNum (Lib.trimPrefix (atName l) [35])).2 = false then (⟨#[]⟩, 0)
          else (Utf8.encode (atNum (Lib.trimPrefix (atName l) [35])).1, i + 1)) := by
        show _ = _
        rw [Hv.out, if_neg]
        rintro (e | e)
        · exact hz0 e
        · rw [hh] at e; exact e hc0
      obtain ⟨nm, hnmm⟩ : ∃ nm, nm = atName l := ⟨_, rfl⟩
      rw [← hnmm] at Hv2 hnames hN HC hnm htp
      obtain ⟨nv, hnv⟩ : ∃ nv, nv = namedV nm := ⟨_, rfl⟩
      rw [← hnv] at Hv2 hN
      have hzi : z = (i : Int) := h2
      subst hzi
      have hii : (i : Int) ≤ (s.size : Int) := by omega
      have hi1' : (1 : Int) ≤ (i : Int) := by omega
      have hw1 : IntKind.i64.wrap ((i : Int) + 1) = ((i + 1 : Nat) : Int) := by rw [IntWalk.i64_in _ (by omega)]; omega
      clear Hv hname h3 hi h2 hh hsz hnmm hnv hi1
      cases hnve : nv.toList.isEmpty with
      | false =>
        have hres : Hid (atV l = (nv, i + 1)) := by show _ = _; rw [Hv2.out, if_pos hnve]
        go_enter Tryz.func135, Tryz.ntmps135
        go_wp2_with (first
          | (go_at_call 116; refine (HI.out _).mono ?_; rintro e w2 ⟨rfl, rfl⟩)
          | (go_at_call 148; refine (hN.out _).mono ?_; rintro e w3 ⟨rfl, hd3⟩))
        go_ret2
        exact ⟨by rw [hres.out]; rfl, hd3.below⟩
      | true =>
        have hnv2 : nv.toList = [] := List.isEmpty_iff.1 hnve
        obtain ⟨d, hd⟩ : ∃ d, d = Lib.trimPrefix nm [35] := ⟨_, rfl⟩
        obtain ⟨hp, hhp⟩ : ∃ hp, hp = Lib.hasPrefix nm [35] := ⟨_, rfl⟩
        rw [← hd] at HC Hv2 htp
        rw [← hhp] at HC Hv2
        clear hd hhp
        have Hv3 : Hid (atV l = if hp = false then (⟨#[]⟩, 0) else if (atNum d).2 = false then (⟨#[]⟩, 0) else (Utf8.encode (atNum d).1, i + 1)) := by show _ = _; rw [Hv2.out, if_neg (by rw [hnve]; simp)]
        clear Hv2
        cases hp with
        | false =>
          have hres : Hid (atV l = (⟨#[]⟩, 0)) := by show _ = _; rw [Hv3.out]; rfl
          go_enter Tryz.func135, Tryz.ntmps135
          go_wp2_with (first
            | (go_at_call 116; refine (HI.out _).mono ?_; rintro e w2 ⟨rfl, rfl⟩)
            | (go_at_call 148; refine (hN.out _).mono ?_; rintro e w3 ⟨rfl, hd3⟩)
            | (go_at_call 149; refine (HC.out _).mono ?_; rintro e w4 ⟨rfl, rfl⟩))
          go_ret2
          exact ⟨by rw [hres.out]; rfl, hd3.below⟩
        | true =>
          have Hv4 : Hid (atV l = if (atNum d).2 = false then (⟨#[]⟩, 0) else (Utf8.encode (atNum d).1, i + 1)) := by show _ = _; rw [Hv3.out]; rfl
          clear Hv3
          have hdl : d.length ≤ 4611686018427387904 := by omega
          have hdl1 : (d.drop 1).length ≤ 4611686018427387904 := by rw [List.length_drop]; omega
          have HA := Lib.hid (fun w hG => number_c d decS 10 7 (num10 d) (num10_eq d hdl) w hG)
          have HB := Lib.hid (fun w hG => number_c (d.drop 1) hexS 16 6 (num16 (d.drop 1)) (num16_eq (d.drop 1) hdl1) w hG)
          have hatn : Hid (atNum d = if d.headD 0 = 120 ∨ d.headD 0 = 88 then num16 (d.drop 1) else num10 d) := rfl
          obtain ⟨⟨a1, b1⟩, hr1⟩ : ∃ r, r = num10 d := ⟨_, rfl⟩
          obtain ⟨⟨a2, b2⟩, hr2⟩ : ∃ r, r = num16 (d.drop 1) := ⟨_, rfl⟩
          rw [← hr1] at HA hatn
          rw [← hr2] at HB hatn
          have hex : (S d).extract 1 (S d).size = S (d.drop 1) := S_drop d 1
          have hsd : (S d).toList = d := S_toList d
          have hse : (S d).size = d.length := S_size d
          obtain ⟨d1, hd1⟩ : ∃ d1, d1 = d.drop 1 := ⟨_, rfl⟩
          rw [← hd1] at HB hex
          clear hr1 hr2 hd1 hdl hdl1
          cases hdd : d with
          | nil =>
            have e1 : atNum d = (a1, b1) := by rw [hatn.out, hdd, if_neg]; rintro (e | e) <;> cases e
            rw [hdd] at HC HA hsd hse
            clear hatn hex
            cases b1 with
            | false =>
              have hres : Hid (atV l = (⟨#[]⟩, 0)) := by show _ = _; rw [Hv4.out, e1]; rfl
              clear e1 hdd
              go_enter Tryz.func135, Tryz.ntmps135
              go_wp2_with (first
            | (go_at_call 116; refine (HI.out _).mono ?_; rintro e w2 ⟨rfl, rfl⟩)
            | (go_at_call 148; refine (hN.out _).mono ?_; rintro e w3 ⟨rfl, hd3⟩)
            | (go_at_call 149; refine (HC.out _).mono ?_; rintro e w4 ⟨rfl, rfl⟩)
            | (go_at_call 150; refine (HA.out _ ?_).mono ?_; exact hG.below hd3.below; rintro e w5 ⟨rfl, hb5⟩))
              go_ret2
              exact ⟨by rw [hres.out]; rfl, hd3.below.trans (hb5.mono hd3.below.size)⟩
            | true =>
              have hres : Hid (atV l = (Utf8.encode a1, i + 1)) := by show _ = _; rw [Hv4.out, e1]; rfl
              clear e1 hdd
              go_enter Tryz.func135, Tryz.ntmps135
              go_wp2_with (first
            | (go_at_call 116; refine (HI.out _).mono ?_; rintro e w2 ⟨rfl, rfl⟩)
            | (go_at_call 148; refine (hN.out _).mono ?_; rintro e w3 ⟨rfl, hd3⟩)
            | (go_at_call 149; refine (HC.out _).mono ?_; rintro e w4 ⟨rfl, rfl⟩)
            | (go_at_call 150; refine (HA.out _ ?_).mono ?_; exact hG.below hd3.below; rintro e w5 ⟨rfl, hb5⟩))
              go_ret2
              exact ⟨by rw [hres.out]; rfl, hd3.below.trans (hb5.mono hd3.below.size)⟩
          | cons c1 t1 =>
            obtain ⟨sd, hsd'⟩ : ∃ sd, sd = S d := ⟨_, rfl⟩
            rw [← hsd'] at HC HA hex hsd hse
            have hpd : 0 < sd.size := by rw [hse, hdd]; simp
            have hsd0 : sd[0]'hpd = c1 := by
              have e := Lib.getD_at sd 0 hpd
              have e2 : sd.data.toList = c1 :: t1 := by rw [hsd', S_data, hdd]
              rw [e2] at e
              exact e
            have hde : sd.toList.isEmpty = false := by rw [hsd, hdd]; rfl
            have hsz1 : (1 : Int) ≤ (sd.size : Int) := by omega
            have hhd : d.headD 0 = c1 := by rw [hdd]; rfl
            clear hsd' hsd hse
            have hthree : c1 = 120 ∨ c1 ≠ 120 ∧ c1 = 88 ∨ c1 ≠ 120 ∧ c1 ≠ 88 := by
              by_cases h1 : c1 = 120
              · exact .inl h1
              · by_cases h2 : c1 = 88
                · exact .inr (.inl ⟨h1, h2⟩)
                · exact .inr (.inr ⟨h1, h2⟩)
            rcases hthree with hx | ⟨hx, hy⟩ | ⟨hx, hy⟩
            · have e1 : atNum d = (a2, b2) := by rw [hatn.out, if_pos]; rw [hhd]; exact .inl hx
              have e120 : ((c1.toNat : Int) == 120) = true := by rw [hx]; rfl
              clear hatn hhd hx
              cases b2 with
              | false =>
                have hres : Hid (atV l = (⟨#[]⟩, 0)) := by show _ = _; rw [Hv4.out, e1]; rfl
                clear e1 hdd Hv4
                go_enter Tryz.func135, Tryz.ntmps135
                go_upto_region 12 with (first
              | (go_at_call 116; refine (HI.out _).mono ?_; rintro e w2 ⟨rfl, rfl⟩)
              | (go_at_call 148; refine (hN.out _).mono ?_; rintro e w3 ⟨rfl, hd3⟩)
              | (go_at_call 149; refine (HC.out _).mono ?_; rintro e w4 ⟨rfl, rfl⟩)
              | (go_at_call 150; refine (HA.out _ ?_).mono ?_; exact hG.below hd3.below; rintro e w5 ⟨rfl, hb5⟩))
                go_wp2_with (first
              | (go_at_call 150; refine (HB.out _ ?_).mono ?_; exact (hG.below hd3.below).below hb5; rintro e w6 ⟨rfl, hb6⟩))
                go_ret2
                exact ⟨by rw [hres.out]; rfl, hd3.below.trans ((hb5.mono hd3.below.size).trans (hb6.mono (Nat.le_trans hd3.below.size hb5.size)))⟩
              | true =>
                have hres : Hid (atV l = (Utf8.encode a2, i + 1)) := by show _ = _; rw [Hv4.out, e1]; rfl
                clear e1 hdd Hv4
                go_enter Tryz.func135, Tryz.ntmps135
                go_upto_region 12 with (first
              | (go_at_call 116; refine (HI.out _).mono ?_; rintro e w2 ⟨rfl, rfl⟩)
              | (go_at_call 148; refine (hN.out _).mono ?_; rintro e w3 ⟨rfl, hd3⟩)
              | (go_at_call 149; refine (HC.out _).mono ?_; rintro e w4 ⟨rfl, rfl⟩)
              | (go_at_call 150; refine (HA.out _ ?_).mono ?_; exact hG.below hd3.below; rintro e w5 ⟨rfl, hb5⟩))
                go_wp2_with (first
              | (go_at_call 150; refine (HB.out _ ?_).mono ?_; exact (hG.below hd3.below).below hb5; rintro e w6 ⟨rfl, hb6⟩))
                go_ret2
                exact ⟨by rw [hres.out]; rfl, hd3.below.trans ((hb5.mono hd3.below.size).trans (hb6.mono (Nat.le_trans hd3.below.size hb5.size)))⟩
            · have e1 : atNum d = (a2, b2) := by rw [hatn.out, if_pos]; rw [hhd]; exact .inr hy
              have e120 : ((c1.toNat : Int) == 120) = false := beq_eq_false_iff_ne.2 (fun e => hx (UInt8.toNat_inj.1 (by show c1.toNat = 120; omega)))
              have e88 : ((c1.toNat : Int) == 88) = true := by rw [hy]; rfl
              clear hatn hhd hx hy
              cases b2 with
              | false =>
                have hres : Hid (atV l = (⟨#[]⟩, 0)) := by show _ = _; rw [Hv4.out, e1]; rfl
                clear e1 hdd Hv4
                go_enter Tryz.func135, Tryz.ntmps135
                go_upto_region 12 with (first
              | (go_at_call 116; refine (HI.out _).mono ?_; rintro e w2 ⟨rfl, rfl⟩)
              | (go_at_call 148; refine (hN.out _).mono ?_; rintro e w3 ⟨rfl, hd3⟩)
              | (go_at_call 149; refine (HC.out _).mono ?_; rintro e w4 ⟨rfl, rfl⟩)
              | (go_at_call 150; refine (HA.out _ ?_).mono ?_; exact hG.below hd3.below; rintro e w5 ⟨rfl, hb5⟩))
                go_wp2_with (first
              | (go_at_call 150; refine (HB.out _ ?_).mono ?_; exact (hG.below hd3.below).below hb5; rintro e w6 ⟨rfl, hb6⟩))
                go_ret2
                exact ⟨by rw [hres.out]; rfl, hd3.below.trans ((hb5.mono hd3.below.size).trans (hb6.mono (Nat.le_trans hd3.below.size hb5.size)))⟩
              | true =>
                have hres : Hid (atV l = (Utf8.encode a2, i + 1)) := by show _ = _; rw [Hv4.out, e1]; rfl
                clear e1 hdd Hv4
                go_enter Tryz.func135, Tryz.ntmps135
                go_upto_region 12 with (first
              | (go_at_call 116; refine (HI.out _).mono ?_; rintro e w2 ⟨rfl, rfl⟩)
              | (go_at_call 148; refine (hN.out _).mono ?_; rintro e w3 ⟨rfl, hd3⟩)
              | (go_at_call 149; refine (HC.out _).mono ?_; rintro e w4 ⟨rfl, rfl⟩)
              | (go_at_call 150; refine (HA.out _ ?_).mono ?_; exact hG.below hd3.below; rintro e w5 ⟨rfl, hb5⟩))
                go_wp2_with (first
              | (go_at_call 150; refine (HB.out _ ?_).mono ?_; exact (hG.below hd3.below).below hb5; rintro e w6 ⟨rfl, hb6⟩))
                go_ret2
                exact ⟨by rw [hres.out]; rfl, hd3.below.trans ((hb5.mono hd3.below.size).trans (hb6.mono (Nat.le_trans hd3.below.size hb5.size)))⟩
            · have e1 : atNum d = (a1, b1) := by rw [hatn.out, if_neg]; rw [hhd]; rintro (e | e); exact hx e; exact hy e
              have e120 : ((c1.toNat : Int) == 120) = false := beq_eq_false_iff_ne.2 (fun e => hx (UInt8.toNat_inj.1 (by show c1.toNat = 120; omega)))
              have e88 : ((c1.toNat : Int) == 88) = false := beq_eq_false_iff_ne.2 (fun e => hy (UInt8.toNat_inj.1 (by show c1.toNat = 88; omega)))
              clear hatn hhd hx hy
              cases b1 with
              | false =>
                have hres : Hid (atV l = (⟨#[]⟩, 0)) := by show _ = _; rw [Hv4.out, e1]; rfl
                clear e1 hdd Hv4
                go_enter Tryz.func135, Tryz.ntmps135
                go_wp2_with (first
              | (go_at_call 116; refine (HI.out _).mono ?_; rintro e w2 ⟨rfl, rfl⟩)
              | (go_at_call 148; refine (hN.out _).mono ?_; rintro e w3 ⟨rfl, hd3⟩)
              | (go_at_call 149; refine (HC.out _).mono ?_; rintro e w4 ⟨rfl, rfl⟩)
              | (go_at_call 150; refine (HA.out _ ?_).mono ?_; exact hG.below hd3.below; rintro e w5 ⟨rfl, hb5⟩))
                go_ret2
                exact ⟨by rw [hres.out]; rfl, hd3.below.trans (hb5.mono hd3.below.size)⟩
              | true =>
                have hres : Hid (atV l = (Utf8.encode a1, i + 1)) := by show _ = _; rw [Hv4.out, e1]; rfl
                clear e1 hdd Hv4
                go_enter Tryz.func135, Tryz.ntmps135
                go_wp2_with (first
              | (go_at_call 116; refine (HI.out _).mono ?_; rintro e w2 ⟨rfl, rfl⟩)
              | (go_at_call 148; refine (hN.out _).mono ?_; rintro e w3 ⟨rfl, hd3⟩)
              | (go_at_call 149; refine (HC.out _).mono ?_; rintro e w4 ⟨rfl, rfl⟩)
              | (go_at_call 150; refine (HA.out _ ?_).mono ?_; exact hG.below hd3.below; rintro e w5 ⟨rfl, hb5⟩))
                go_ret2
                exact ⟨by rw [hres.out]; rfl, hd3.below.trans (hb5.mono hd3.below.size)⟩
    · have hres : Hid (atV l = (⟨#[]⟩, 0)) := by show _ = _; rw [Hv.out, if_pos (.inr (by rw [hh]; exact hc0))]
      have hne : ((c0.toNat : Int) != 38) = true := by
        rw [bne_iff_ne]
        intro e
        exact hc0 (UInt8.toNat_inj.1 (by show c0.toNat = 38; omega))
      have hzd : decide (z < 0) = false := decide_eq_false hz0
      clear Hv hname h3 hi h2 hh hsz
      go_enter Tryz.func135, Tryz.ntmps135
      go_wp2_with (first | (go_at_call 116; refine (HI.out _).mono ?_; rintro e w2 ⟨rfl, rfl⟩))
      go_ret2
      exact ⟨by rw [hres.out]; rfl, Below.refl _ _⟩
end Go.Proofs.YtpimcdkhjingjaaGreatDoor.X
namespace Go.Proofs.YtpimcdkhjingjaaGreatDoor.X
open Go.Shelf Go.RowKit Go.Proofs.YtpimcdkhjingjaaGreatDoorW.PrintWords Go.Proofs.YtpimcdkhjingjaaGreatDoor.PEnt Go.Proofs.YtpimcdkhjingjaaGreatDoor.Pure
def escB : List UInt8 → Bool
  | c :: d :: _ => c == 92 && signV d
  | _ => false
theorem escB_two (c d : UInt8) (t : List UInt8) : escB (c :: d :: t) = (c == 92 && signV d) := by rw [escB]
theorem e9292 : ((92 : UInt8) == 92) = true := rfl
def unGo : Nat → List UInt8 → List UInt8
  | 0, _ => []
  | _ + 1, [] => []
  | f + 1, c :: t =>
    if escB (c :: t) = true then t.headD 0 :: unGo f (t.drop 1)
    else if 0 < (atV (c :: t)).2 then (atV (c :: t)).1.data.toList ++ unGo f ((c :: t).drop (atV (c :: t)).2)
    else c :: unGo f t
def unescL (l : List UInt8) : List UInt8 := unGo l.length l
theorem unGo_nil (f : Nat) : unGo f [] = [] := by cases f <;> rfl
theorem esc_c (c : UInt8) (w : World) : Calls Tryz.prog 133 #[.int .u8 (c.toNat : Int)] w fun e w' => e = .returned (.bool (signV c)) ∧ Below w.heap.size w w' := class_Sign.calls 40 _ _ w (sign_eq c)
theorem next_at (l : List UInt8) (m : Nat) (d : UInt8) (t' : List UInt8) (e : l.drop (m + 1) = d :: t') : ∃ h : m + 1 < l.length, l[m + 1] = d ∧ t' = l.drop (m + 2) := by
  have h : m + 1 < l.length := by
    have := congrArg List.length e
    rw [List.length_drop, List.length_cons] at this
    omega
  have h2 := List.drop_eq_getElem_cons h
  rw [e] at h2
  injection h2 with h4 h5
  exact ⟨h, h4.symm, h5⟩
set_option maxRecDepth 100000 in
set_option maxHeartbeats 8000000 in
theorem Unescape_c (l : List UInt8) (hl : l.length ≤ 1099511627776) (w : World) (hG : GL w) :
    Calls Tryz.prog 117 #[.string (S l)] w fun e w' => e = .returned (.string (S (unescL l))) ∧ Below w.heap.size w w' := by
  obtain ⟨s, hs⟩ : ∃ s, s = S l := ⟨_, rfl⟩
  have hsz : s.size = l.length := by rw [hs, S_size]
  obtain ⟨n, hn⟩ : ∃ n, n = l.length := ⟨_, rfl⟩
  have hsn : s.size = n := hsz.trans hn.symm
  have Hs := Lib.hid hs
  have Hn := Lib.hid hn
  rw [← hs]
  have hb0 : Bld w.heap.size w.heap.size [] (w.alloc (.cells #[.pointer none, .slice none 0 0] 93)) := Bld.fresh w
  have hB0 : Below w.heap.size w (w.alloc (.cells #[.pointer none, .slice none 0 0] 93)) := (Below.refl _ _).alloc (Nat.le_refl _) _
  have hbs : ∀ j, (hj : j < l.length) → ∀ h : j < s.size, (s[j]'h).toNat = (l[j]).toNat := fun j hj h => by
    have e := Lib.getD_at s j h
    rw [e, Hs.out, S_data, List.getD_eq_getElem?_getD, List.getElem?_eq_getElem hj]
    rfl
  have Hbs := Lib.hid hbs
  have hnb : n ≤ 1099511627776 := by rw [hn]; exact hl
  clear hs hsz hn hbs
  go_enter Tryz.func117, Tryz.ntmps117
  go_wp2
  go_loopg [4, 5, 6] n (fun k v4 v5 v6 wr => ∃ (m : Nat) (acc : List UInt8), v4 = .int .i64 (m : Int) ∧ m ≤ n ∧ n - m ≤ k ∧ acc.length ≤ 4 * m ∧ Bld w.heap.size w.heap.size acc wr ∧ Below w.heap.size w wr ∧ Hid (acc ++ unGo k (l.drop m) = unescL l))
  case atStart => exact ⟨0, [], rfl, Nat.zero_le _, Nat.le_refl _, Nat.zero_le _, hb0, hB0, by show _ = _; rw [Hn.out]; rfl⟩
  case round =>
    obtain ⟨m, acc, rfl, hmn, hk, hacc, hbl, hb, hfd⟩ := hrel
    by_cases hlt : m < n
    · cases gk with
      | zero => omega
      | succ k =>
        have hml : m < l.length := by rw [← Hn.out]; exact hlt
        have hlt' : (m : Int) < (n : Int) := by omega
        have hcm := Hbs.out m hml
        have hdr : l.drop m = l[m] :: l.drop (m + 1) := List.drop_eq_getElem_cons hml
        obtain ⟨c, hc⟩ : ∃ c, c = l[m] := ⟨_, rfl⟩
        rw [← hc] at hcm hdr
        obtain ⟨t, ht⟩ : ∃ t, t = l.drop (m + 1) := ⟨_, rfl⟩
        rw [← ht] at hdr
        have htl : t.length = n - (m + 1) := by rw [ht, List.length_drop, Hn.out]
        rw [hdr, unGo] at hfd
        obtain ⟨m1, hm1⟩ : ∃ x, x = m + 1 := ⟨_, rfl⟩
        have hw1 : IntKind.i64.wrap ((m : Int) + 1) = (m1 : Int) := by rw [IntWalk.i64_in _ (by omega)]; omega
        have hm0 : (0 : Int) ≤ (m : Int) := by omega
        have hm10 : (0 : Int) ≤ (m1 : Int) := by omega
        have hdd : ∀ d t', t = d :: t' → (∀ h : m1 < s.size, (s[m1]'h).toNat = d.toNat) ∧ t' = l.drop (m + 2) ∧ m1 < n := fun d t' e => by
          subst hm1
          obtain ⟨h, h4, h5⟩ := next_at l m d t' (by rw [← ht]; exact e)
          exact ⟨fun h' => by rw [Hbs.out (m + 1) h h', h4], h5, by rw [Hn.out]; exact h⟩
        have Hdd := Lib.hid hdd
        have HS := Lib.hid (fun (d : UInt8) (w' : World) (h' : Bld w.heap.size w.heap.size acc w' ∧ Below w.heap.size w w') => (esc_c d w').mono fun e w2 (hh : _ ∧ _) => (⟨hh.1, h'.1.below hh.2, h'.2.trans (hh.2.mono h'.2.size)⟩ : e = .returned (.bool (signV d)) ∧ Bld w.heap.size w.heap.size acc w2 ∧ Below w.heap.size w w2))
        have Ht := Lib.hid ht
        have Hm1 := Lib.hid hm1
        have Hk := Lib.hid hk
        have Hacc := Lib.hid hacc
        have Hdr := Lib.hid hdr
        have q0 : Bld w.heap.size w.heap.size acc wr ∧ Below w.heap.size w wr := ⟨hbl, hb⟩
        clear hdd ht hm1 hk hacc hdr hmn hbl hc
        go_upto_region 4 with fail
        go_cut [28] from 11 to 28 (fun v28 wx => v28 = .bool (escB (c :: t)) ∧ Bld w.heap.size w.heap.size acc wx ∧ Below w.heap.size w wx)
        case first =>
          by_cases hc92 : c = 92
          · have e92 : ((c.toNat : Int) == 92) = true := by rw [hc92]; rfl
            cases hte : t with
            | nil =>
              have hle : ¬ (m1 : Int) < (n : Int) := by rw [hte] at htl; have := Hm1.out; simp at htl; omega
              have hes : Hid (escB (c :: t) = false) := by show _ = _; rw [hte]; rfl
              clear hc92 hte htl hlt
              go_wp2
              go_meet
              exact ⟨by rw [hes.out], q0⟩
            | cons d t' =>
              obtain ⟨hcm1, _, hlt1⟩ := Hdd.out d t' hte
              have hlt1' : (m1 : Int) < (n : Int) := by omega
              have hes : Hid (escB (c :: t) = signV d) := by show _ = _; rw [hte, hc92, escB_two, e9292, Bool.true_and]
              have HSd := Lib.hid (HS.out d)
              clear hc92 hte htl hlt
              cases hsv : signV d with
              | true =>
                rw [hsv] at HSd hes
                clear hsv
                go_wp2_with (first | (go_at_call 133; refine (HSd.out _ q0).mono ?_; rintro e w2 ⟨rfl, hq2⟩))
                go_meet
                exact ⟨by rw [hes.out], hq2⟩
              | false =>
                rw [hsv] at HSd hes
                clear hsv
                go_wp2_with (first | (go_at_call 133; refine (HSd.out _ q0).mono ?_; rintro e w2 ⟨rfl, hq2⟩))
                go_meet
                exact ⟨by rw [hes.out], hq2⟩
          · have e92 : ((c.toNat : Int) == 92) = false := beq_eq_false_iff_ne.2 (fun e => hc92 (UInt8.toNat_inj.1 (by show c.toNat = 92; omega)))
            have hes : Hid (escB (c :: t) = false) := by
              show _ = _
              cases t with
              | nil => rfl
              | cons d t' =>
                rw [escB_two, beq_eq_false_iff_ne.2 hc92, Bool.false_and]
            clear hc92 htl hlt
            go_wp2
            go_meet
            exact ⟨by rw [hes.out], q0⟩
        case rest =>
          obtain ⟨rfl, hblc, hbc⟩ := hcut
          have haccn : acc.length ≤ 4398046511104 := by have := Hacc.out; omega
          clear q0 HS
          cases hes : escB (c :: t) with
          | true =>
            cases hte : t with
            | nil => rw [hte] at hes; cases hes
            | cons d t' =>
              obtain ⟨hcm1, hdt, hlt1⟩ := Hdd.out d t' hte
              have hlt1' : (m1 : Int) < (n : Int) := by omega
              have HW := Lib.hid (byte_c w.heap.size w.heap.size acc d wc hblc (by omega) hbc.size)
              have hfd2 : Hid ((acc ++ [d]) ++ unGo k (l.drop (m + 2)) = unescL l) := by
                show _ = _
                rw [← hfd.out, if_pos hes, hte, ← hdt, List.append_assoc]
                rfl
              have hw2 : IntKind.i64.wrap ((m : Int) + 2) = ((m + 2 : Nat) : Int) := by rw [IntWalk.i64_in _ (by omega)]; omega
              have Hm2 : Hid (m + 2 ≤ n) := by show _ ≤ _; have := Hm1.out; omega
              have Hl2 : Hid ((acc ++ [d]).length ≤ 4 * (m + 2)) := by show _ ≤ _; rw [List.length_append]; have := Hacc.out; simp; omega
              clear hes hte hdt htl hlt hfd
              go_wp2_with (first | (go_at_call 134; refine HW.out.mono ?_; rintro e w2 ⟨rfl, hbl2, hb2⟩))
              go_roundg k
              case measure => omega
              case rel => exact ⟨m + 2, acc ++ [d], rfl, Hm2.out, by have := Hk.out; omega, Hl2.out, hbl2, hbc.trans hb2, hfd2⟩
          | false =>
            have hcl : (c :: t).length = n - m := by rw [List.length_cons, htl]; omega
            have HAt := Lib.hid (At_c (c :: t) (by rw [hcl]; omega) wc (hG.below hbc))
            have hle := atV_le (c :: t)
            have hex : s.extract m s.size = S (c :: t) := by rw [Hs.out, S_drop, Hdr.out]
            have hex2 : s.extract m n = S (c :: t) := by rw [← hsn]; exact hex
            have hfd1 : Hid ((if 0 < (atV (c :: t)).2 then acc ++ ((atV (c :: t)).1.data.toList ++ unGo k ((c :: t).drop (atV (c :: t)).2)) else acc ++ (c :: unGo k t)) = unescL l) := by
              show _ = _
              have hneg : ¬ (escB (c :: t) = true) := by rw [hes]; simp
              rw [← hfd.out, if_neg hneg]
              split <;> rfl
            obtain ⟨⟨tv, tn⟩, htv⟩ : ∃ r, r = atV (c :: t) := ⟨_, rfl⟩
            rw [← htv] at HAt hle hfd1
            have hle1 : tn ≤ n - m := by rw [← hcl]; exact hle.1
            have hle2 : tv.data.toList.length ≤ 4 := by rw [← Lib.size_eq]; exact hle.2
            have hmi : (m : Int) ≤ (n : Int) := by omega
            clear htv hle hcl hes hfd
            rcases Nat.eq_zero_or_pos tn with h0 | h0
            · have hfd2 : Hid ((acc ++ [c]) ++ unGo k (l.drop (m + 1)) = unescL l) := by
                show _ = _
                rw [← hfd1.out, if_neg (by show ¬ 0 < tn; omega), ← Ht.out, List.append_assoc]
                rfl
              have HW : Hid (∀ w2, Below wc.heap.size wc w2 → Calls Tryz.prog 134 #[.pointer (some ⟨w.heap.size, 0, none⟩), .int .u8 (c.toNat : Int)] w2 fun e w' => e = .returned .nilIface ∧ Bld w.heap.size w.heap.size (acc ++ [c]) w' ∧ Below w.heap.size w w') :=
                fun w2 h2 => (byte_c w.heap.size w.heap.size acc c w2 (hblc.below h2) (by omega) (Nat.le_trans hbc.size h2.size)).mono fun e w' ⟨q1, q2, q3⟩ => ⟨q1, q2, hbc.trans ((h2.mono hbc.size).trans q3)⟩
              have Hm2 : Hid (m1 ≤ n) := by show _ ≤ _; have := Hm1.out; omega
              have Hl2 : Hid ((acc ++ [c]).length ≤ 4 * m1) := by show _ ≤ _; rw [List.length_append]; have := Hacc.out; have := Hm1.out; simp; omega
              subst h0
              clear hfd1 htl hlt hle1 hle2
              go_wp2_with (first
                | (go_at_call 135; refine HAt.out.mono ?_; rintro e w2 ⟨rfl, hb2⟩)
                | (go_at_call 134; refine (HW.out _ hb2).mono ?_; rintro e w3 ⟨rfl, hbl3, hb3⟩))
              go_roundg k
              case measure => omega
              case rel => exact ⟨m1, acc ++ [c], rfl, Hm2.out, by have := Hk.out; have := Hm1.out; omega, Hl2.out, hbl3, hb3, by rw [Hm1.out]; exact hfd2⟩
            · have hfd2 : Hid ((acc ++ tv.data.toList) ++ unGo k (l.drop (m + tn)) = unescL l) := by
                show _ = _
                have e : (c :: t).drop tn = l.drop (m + tn) := by rw [← Hdr.out, List.drop_drop]
                rw [← hfd1.out, if_pos h0, List.append_assoc, e]
              have HW : Hid (∀ w2, Below wc.heap.size wc w2 → Calls Tryz.prog 59 #[.pointer (some ⟨w.heap.size, 0, none⟩), .string tv] w2 fun e w' => (∃ v, e = .returned v) ∧ Bld w.heap.size w.heap.size (acc ++ tv.data.toList) w' ∧ Below w.heap.size w w') :=
                fun w2 h2 => (str_c w.heap.size w.heap.size acc tv.data.toList w2 (hblc.below h2) (by omega) (Nat.le_trans hbc.size h2.size)).mono fun e w' ⟨q1, q2, q3⟩ => ⟨q1, q2, hbc.trans ((h2.mono hbc.size).trans q3)⟩
              obtain ⟨m2, hm2⟩ : ∃ x, x = m + tn := ⟨_, rfl⟩
              have hw2 : IntKind.i64.wrap ((m : Int) + (tn : Int)) = (m2 : Int) := by rw [IntWalk.i64_in _ (by omega)]; omega
              have Hm2 : Hid (m2 ≤ n) := by show _ ≤ _; omega
              have Hl2 : Hid ((acc ++ tv.data.toList).length ≤ 4 * m2) := by show _ ≤ _; rw [List.length_append]; have := Hacc.out; omega
              have HM2 := Lib.hid hm2
              have h0' : (0 : Int) < (tn : Int) := by omega
              have H0 := Lib.hid h0
              clear hfd1 htl hlt hle1 hle2 hm2 h0
              go_wp2_with (first
                | (go_at_call 135; refine HAt.out.mono ?_; rintro e w2 ⟨rfl, hb2⟩)
                | (go_at_call 59; refine (HW.out _ hb2).mono ?_; rintro e w3 ⟨⟨v, rfl⟩, hbl3, hb3⟩))
              go_roundg k
              case measure => omega
              case rel => exact ⟨m2, acc ++ tv.data.toList, rfl, Hm2.out, by have := Hk.out; have := HM2.out; have := H0.out; omega, Hl2.out, hbl3, hb3, by rw [HM2.out]; exact hfd2⟩
    · have hmm : m = n := by omega
      subst hmm
      have hlt' : ¬ (m : Int) < (m : Int) := by omega
      have hres : Hid (unescL l = acc) := by show _ = _; rw [← hfd.out, List.drop_eq_nil_of_le (by rw [Hn.out]; exact Nat.le_refl _), unGo_nil, List.append_nil]
      have HO := Lib.hid (fun w' (h' : Bld w.heap.size w.heap.size acc w') hB => out_c w.heap.size w.heap.size acc w' h' hB)
      clear hk hmn
      go_wp2_with (first | (go_at_call 60; refine (HO.out _ ?_ ?_).mono ?_; assumption; exact hb.size; rintro e w2 ⟨rfl, hb2⟩))
      go_ret
      exact ⟨by rw [hres.out]; rfl, hb.trans hb2⟩
end Go.Proofs.YtpimcdkhjingjaaGreatDoor.X
namespace Go.Proofs.YtpimcdkhjingjaaGreatDoor.X
open Go.Shelf Go.RowKit Go.Proofs.YtpimcdkhjingjaaGreatDoorW.PrintWords Go.Proofs.YtpimcdkhjingjaaGreatDoor.PLeaf Go.Proofs.YtpimcdkhjingjaaGreatDoor.Pure
def fenceAt (l : List UInt8) (c : UInt8) : Bool := decide (3 ≤ runB c l) && (c == 126 || !(l.drop (runB c l)).contains c)
def fenceOf (l : List UInt8) (c : UInt8) : UInt8 × Nat × List UInt8 := (c, runB c l, unescL (stripL (l.drop (runB c l))))
def fenceL (l : List UInt8) : UInt8 × Nat × List UInt8 := if fenceAt l 96 = true then fenceOf l 96 else if fenceAt l 126 = true then fenceOf l 126 else (0, 0, [])
def fg (i : Nat) : UInt8 := if i = 0 then 96 else 126
def fgs (B : Nat) (w : World) : Prop := ∀ j, j < 2 → w.cell? ⟨B, j, none⟩ = some (.int .u8 ((fg j).toNat : Int))
theorem fgs.kept {B K : Nat} {w w' : World} (h : fgs B w) (hb : Below K w w') (hk : B < K) : fgs B w' := fun j hj => by rw [hb.cell (p := ⟨B, j, none⟩) hk]; exact h j hj
theorem fgs.new (w : World) (t : TypeId) (fr : Nat × Nat) : fgs w.heap.size (w.alloc (.cells #[.int .u8 96, .int .u8 126] t fr)) := by
  intro j hj
  have hh : (w.alloc (.cells #[.int .u8 96, .int .u8 126] t fr)).heap[w.heap.size]? = some (.cells #[.int .u8 96, .int .u8 126] t fr) := by
    show (w.heap.push _)[w.heap.size]? = _
    simp
  have h2 : j = 0 ∨ j = 1 := by omega
  rcases h2 with rfl | rfl <;> (simp only [World.cell?, hh]; rfl)
theorem fenceL_none (l : List UInt8) (h : ∀ j, j < 2 → fenceAt l (fg j) = false) : fenceL l = (0, 0, []) := by
  unfold fenceL
  rw [if_neg, if_neg]
  · rw [show fenceAt l 126 = false from h 1 (by omega)]; simp
  · rw [show fenceAt l 96 = false from h 0 (by omega)]; simp
theorem fenceL_at (l : List UInt8) (i : Nat) (hi : i < 2) (h : ∀ j, j < i → fenceAt l (fg j) = false) (hy : fenceAt l (fg i) = true) : fenceL l = fenceOf l (fg i) := by
  have h2 : i = 0 ∨ i = 1 := by omega
  unfold fenceL
  rcases h2 with rfl | rfl
  · rw [if_pos (show fenceAt l 96 = true from hy)]; rfl
  · rw [if_neg, if_pos (show fenceAt l 126 = true from hy)]
    · rfl
    · rw [show fenceAt l 96 = false from h 0 (by omega)]; simp
theorem u8_eq' (c d : UInt8) : ((c.toNat : Int) == (d.toNat : Int)) = (c == d) := by
  cases h : (c == d) with
  | true => rw [beq_iff_eq.1 h]; simp
  | false => exact beq_eq_false_iff_ne.2 (fun e => (beq_eq_false_iff_ne.1 h) (UInt8.toNat_inj.1 (by omega)))
theorem strip_le (l : List UInt8) : (stripL l).length ≤ l.length := trimS_le l _
theorem unesc_c (l : List UInt8) (hl : l.length ≤ 1099511627776) (w : World) (hG : GL w) :
    Calls Tryz.prog 117 #[.string (S l)] w fun e w' => e = .returned (.string (S (unescL l))) ∧ Below w.heap.size w w' := Unescape_c l hl w hG
set_option maxRecDepth 1000000 in
set_option maxHeartbeats 4000000 in
theorem Fence_c (l : List UInt8) (hl : l.length ≤ 1099511627776) (w : World) (hG : GL w) :
    Calls Tryz.prog 90 #[.string (S l)] w fun e w' => e = .returned (.tuple #[.int .u8 ((fenceL l).1.toNat : Int), .int .i64 ((fenceL l).2.1 : Int), .string (S (fenceL l).2.2)]) ∧ Below w.heap.size w w' := by
  have kc := fun (w : World) (C : Array Value) (n c : Nat) => Lib.run_convert_bytes_const (P := Tryz.prog) w 91 5 C n c Tryz.underlying91 Tryz.underlying5
  obtain ⟨s, hs⟩ : ∃ s, s = S l := ⟨_, rfl⟩
  have hsz : s.size = l.length := by rw [hs, S_size]
  obtain ⟨sz, hszn⟩ : ∃ n, n = l.length := ⟨_, rfl⟩
  have hsn : s.size = sz := hsz.trans hszn.symm
  have Hs := Lib.hid hs
  have Hsz := Lib.hid hszn
  have Hl := Lib.hid hl
  rw [← hs]
  clear hs hsz hszn hl
  go_enter Tryz.func90, Tryz.ntmps90
  go_wp2
  go_loopg [6, 7, 11] 2 (fun k v6 v7 v11 wr => ∃ i : Nat, v11 = .int .i64 (i : Int) ∧ i + k = 2 ∧ w.heap.size < wr.heap.size ∧ fgs w.heap.size wr ∧ Below w.heap.size w wr ∧ Hid (∀ j, j < i → fenceAt l (fg j) = false))
  case atStart => exact ⟨0, rfl, by omega, by simp, fgs.new _ _ _, (Below.refl _ _).alloc (Nat.le_refl _) _, fun j h => by omega⟩
  case round =>
    obtain ⟨i, rfl, hk, hlt, hc, hb, hno⟩ := hrel
    clear kc
    cases gk with
    | succ k =>
      have hi2 : i < 2 := by omega
      have hc0 := hc i hi2
      have hrun := run_c s (fg i) _ rfl wr (by rw [hsn, Hsz.out]; have := Hl.out; omega)
      obtain ⟨n, hn⟩ : ∃ n, n = runB (fg i) s.data.toList := ⟨_, rfl⟩
      rw [← hn] at hrun
      have hnl : n = runB (fg i) l := by rw [hn, Hs.out, S_data]
      have hle : n ≤ sz := by rw [hnl, Hsz.out]; exact runB_le _ _
      have hex : s.extract n s.size = S (l.drop n) := by rw [Hs.out, S_drop]
      have hex2 : s.extract n sz = S (l.drop n) := by rw [← hsn]; exact hex
      have HIx : Hid (∀ w : World, Calls Tryz.prog 116 #[.string (S (l.drop n)), .int .u8 ((fg i).toNat : Int)] w fun e w' => e = .returned (.int .i64 (Lib.indexByte (l.drop n) (fg i))) ∧ w = w') := fun w => (Tryz.strings_IndexByte (S (l.drop n)) ((fg i).toNat : Int) w).mono fun e w' ⟨h1, h2⟩ => ⟨by rw [h1, byte_back]; rfl, h2.symm⟩
      have hdl : (S (l.drop n)).size ≤ 4611686018427387904 := by rw [S_size, List.length_drop]; have := Hl.out; omega
      have HSt := Lib.hid (fun w => strip_c (S (l.drop n)) w hdl)
      have HUn := Lib.hid (fun w hG => unesc_c (stripL (l.drop n)) (Nat.le_trans (strip_le _) (by rw [List.length_drop]; have := Hl.out; omega)) w hG)
      have hfa : Hid (fenceAt l (fg i) = (decide (3 ≤ n) && (fg i == 126 || !(l.drop n).contains (fg i)))) := by show _ = _; rw [hnl]; rfl
      have hfo : Hid (fenceOf l (fg i) = (fg i, n, unescL (stripL (l.drop n)))) := by show _ = _; rw [hnl]; rfl
      have hix := indexByte_dec (l.drop n) (fg i)
      have hle' : (n : Int) ≤ (sz : Int) := by omega
      have hn0 : (0 : Int) ≤ (n : Int) := by omega
      have hw3 : IntKind.i64.wrap ((i : Int) + 1) = ((i + 1 : Nat) : Int) := by rw [IntWalk.i64_in _ (by omega)]; omega
      have hi0 : (0 : Int) ≤ (i : Int) := by omega
      have hi2' : (i : Int) < 2 := by omega
      have Hk := Lib.hid hk
      have hno' : ∀ b, fenceAt l (fg i) = b → b = false → Hid (∀ j, j < i + 1 → fenceAt l (fg j) = false) := fun b h1 h2 j hj => by
        by_cases e : j < i
        · exact hno.out j e
        · obtain rfl : j = i := by omega
          rw [h1, h2]
      have Hno' := Lib.hid hno'
      have Hat := Lib.hid (fenceL_at l i hi2 hno.out)
      clear hn hnl hk hno' hi2
      obtain ⟨ix, hixe⟩ : ∃ ix, ix = Lib.indexByte (l.drop n) (fg i) := ⟨_, rfl⟩
      rw [← hixe] at hix HIx
      obtain ⟨cc, hcc⟩ : ∃ cc : Int, cc = ((fg i).toNat : Int) := ⟨_, rfl⟩
      have h126 : (cc == 126) = (fg i == 126) := by rw [hcc]; exact u8_eq' (fg i) 126
      have Hcc := Lib.hid hcc
      rw [← hcc] at hc0 hrun HIx
      clear hcc hixe
      obtain ⟨con, hcon⟩ : ∃ b, b = (l.drop n).contains (fg i) := ⟨_, rfl⟩
      rw [← hcon] at hfa hix
      obtain ⟨til, htil⟩ : ∃ b, b = (fg i == 126) := ⟨_, rfl⟩
      rw [← htil] at hfa h126
      clear hcon htil
      rcases Nat.lt_or_ge n 3 with h3 | h3
      · have h3' : decide ((n : Int) ≥ 3) = false := decide_eq_false (by omega)
        have h3'' : ¬ (3 : Int) ≤ (n : Int) := by omega
        have hf := Hno'.out false (by rw [hfa.out, decide_eq_false (by omega)]; rfl) rfl
        go_wp2_with (first | (go_at_call 112; refine hrun.mono ?_; rintro e w1 ⟨rfl, hb1⟩))
        go_roundg k
        case measure => omega
        case rel => exact ⟨i + 1, rfl, by have := Hk.out; omega, Nat.lt_of_lt_of_le hlt hb1.size, hc.kept hb1 hlt, hb.trans (hb1.mono (Nat.le_of_lt hlt)), hf⟩
      · have h3'' : (3 : Int) ≤ (n : Int) := by omega
        have hd3 : decide (3 ≤ n) = true := decide_eq_true h3
        cases til with
        | true =>
          have hres : Hid (fenceL l = (fg i, n, unescL (stripL (l.drop n)))) := by
            show _ = _
            rw [Hat.out (by rw [hfa.out, hd3]; rfl), hfo.out]
          clear hfa hix
          go_wp2_with (first
            | (go_at_call 112; refine hrun.mono ?_; rintro e w1 ⟨rfl, hb1⟩)
            | (go_at_call 116; refine (HIx.out _).mono ?_; rintro e w2 ⟨rfl, rfl⟩)
            | (go_at_call 113; refine (HSt.out _).mono ?_; rintro e w3 ⟨rfl, hb3⟩)
            | (go_at_call 117; refine (HUn.out _ ?_).mono ?_; exact ((hG.below hb).below hb1).below hb3; rintro e w4 ⟨rfl, hb4⟩))
          go_ret3
          refine ⟨?_, hb.trans ((hb1.mono (Nat.le_of_lt hlt)).trans ((hb3.mono (Nat.le_trans (Nat.le_of_lt hlt) hb1.size)).trans (hb4.mono (Nat.le_trans (Nat.le_trans (Nat.le_of_lt hlt) hb1.size) hb3.size))))⟩
          rw [hres.out, Hcc.out]
          rfl
        | false =>
          cases con with
          | false =>
            have hres : Hid (fenceL l = (fg i, n, unescL (stripL (l.drop n)))) := by
              show _ = _
              rw [Hat.out (by rw [hfa.out, hd3]; rfl), hfo.out]
            have hix' : ix < 0 := of_decide_eq_true (by rw [hix]; rfl)
            clear hfa
            go_wp2_with (first
            | (go_at_call 112; refine hrun.mono ?_; rintro e w1 ⟨rfl, hb1⟩)
            | (go_at_call 116; refine (HIx.out _).mono ?_; rintro e w2 ⟨rfl, rfl⟩)
            | (go_at_call 113; refine (HSt.out _).mono ?_; rintro e w3 ⟨rfl, hb3⟩)
            | (go_at_call 117; refine (HUn.out _ ?_).mono ?_; exact ((hG.below hb).below hb1).below hb3; rintro e w4 ⟨rfl, hb4⟩))
            go_ret3
            refine ⟨?_, hb.trans ((hb1.mono (Nat.le_of_lt hlt)).trans ((hb3.mono (Nat.le_trans (Nat.le_of_lt hlt) hb1.size)).trans (hb4.mono (Nat.le_trans (Nat.le_trans (Nat.le_of_lt hlt) hb1.size) hb3.size))))⟩
            rw [hres.out, Hcc.out]
            rfl
          | true =>
            have hf := Hno'.out false (by rw [hfa.out, hd3]; rfl) rfl
            have hix' : ¬ ix < 0 := of_decide_eq_false (by rw [hix]; rfl)
            clear hfa
            go_wp2_with (first
            | (go_at_call 112; refine hrun.mono ?_; rintro e w1 ⟨rfl, hb1⟩)
            | (go_at_call 116; refine (HIx.out _).mono ?_; rintro e w2 ⟨rfl, rfl⟩)
            | (go_at_call 113; refine (HSt.out _).mono ?_; rintro e w3 ⟨rfl, hb3⟩)
            | (go_at_call 117; refine (HUn.out _ ?_).mono ?_; exact ((hG.below hb).below hb1).below hb3; rintro e w4 ⟨rfl, hb4⟩))
            go_roundg k
            case measure => omega
            case rel => exact ⟨i + 1, rfl, by have := Hk.out; omega, Nat.lt_of_lt_of_le hlt hb1.size, hc.kept hb1 hlt, hb.trans (hb1.mono (Nat.le_of_lt hlt)), hf⟩
    | zero =>
      obtain rfl : i = 2 := by omega
      have hres := Lib.hid (fenceL_none l hno.out)
      go_wp2
      go_ret3
      exact ⟨by rw [hres.out]; rfl, hb⟩
end Go.Proofs.YtpimcdkhjingjaaGreatDoor.X
namespace Go.Proofs.YtpimcdkhjingjaaGreatDoor.X
open Go.Shelf Go.RowKit Go.Proofs.YtpimcdkhjingjaaGreatDoorW.PrintWords Go.Proofs.YtpimcdkhjingjaaGreatDoor.PLeaf Go.Proofs.YtpimcdkhjingjaaGreatDoor.Pure
def F0 : LeafFns := ⟨headingL, fenceL, underL, ruleL, markerL, closesL⟩
theorem leafOk : LeafOk F0 where
  heading l w hG hl := leaf_Heading.calls (l.length + 1) (S l) _ _ w (leaf_Heading_eq l (by omega) _ (Nat.lt_succ_self _))
  fence l w hG hl := Fence_c l hl w hG
  under l w hG hl := leaf_Under.calls (S l) _ w (by unfold leaf_Under.f; rw [if_pos (by rw [S_size]; omega)]; rfl)
  rule l w hG hl := leaf_Rule.calls 1 (S l) _ w hG (leaf_Rule_eq l (by omega) 0)
  marker l w hG hl := (leaf_Marker.calls 40 (S l) _ _ _ w (leaf_Marker_eq l (by omega) 40 (by omega))).mono fun _ _ h => ⟨h.1, h.2.below⟩
  marker_le l := ⟨by have := (markGo_le l 0 0).1; show (markGo 0 0 l).1 ≤ _; omega, by have := (markGo_le l 0 0).2 (by omega); show (markGo 0 0 l).1 ≤ _; omega⟩
  closes l c n w hG hl := leaf_Ends.calls (l.length + 1) (S l) _ _ _ w (leaf_Ends_eq l (by omega) c n _ (Nat.lt_succ_self _))
theorem headT_le (l : List UInt8) : (headT l).length ≤ l.length := by
  have h1 := trimS_le l [32, 9]
  have h2 := trimR_le (stripL l) [35]
  have h3 := trimS_le (Lib.trimRightS (stripL l) [35]) [32, 9]
  unfold headT
  dsimp only
  split
  · exact Nat.le_trans h3 (Nat.le_trans h2 h1)
  · split
    · exact Nat.le_trans h3 (Nat.le_trans h2 h1)
    · exact h1
theorem heading_le (l : List UInt8) : (F0.heading l).2.length ≤ l.length := by
  show (headingL l).2.length ≤ l.length
  unfold headingL
  dsimp only
  split
  · exact Nat.zero_le _
  · exact Nat.le_trans (headT_le _) (by rw [List.length_drop]; omega)
end Go.Proofs.YtpimcdkhjingjaaGreatDoor.X
