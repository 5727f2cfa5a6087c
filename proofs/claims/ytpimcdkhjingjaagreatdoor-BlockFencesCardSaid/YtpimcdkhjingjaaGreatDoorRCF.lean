/- A merged text (wip/mkclaim.py). -/
import Derived.Test.YtpimcdkhjingjaaGreatDoorRCE
set_option linter.unusedVariables false
set_option linter.unusedSimpArgs false
set_option linter.unusedSectionVars false
namespace Go.Proofs.YtpimcdkhjingjaaGreatDoor.X
open Go.RowKit Go.Proofs.YtpimcdkhjingjaaGreatDoorW.PrintWords
namespace Cur
theorem here_drop {q : Cur} (h : q.here = true) : ∃ b, blankB b = true ∧ q.s.drop q.at_ = b :: q.s.drop (q.at_ + 1) := by
  have hlt := here_lt h
  refine ⟨q.s[q.at_], ?_, List.drop_eq_getElem_cons hlt⟩
  unfold here at h
  rw [Bool.and_eq_true] at h
  have := h.2
  unfold byte at this
  rw [List.getD_eq_getElem?_getD, List.getElem?_eq_getElem hlt] at this
  exact this
theorem trim_blank (b : UInt8) (t : List UInt8) (h : blankB b = true) : Lib.trimLeftS (b :: t) [32, 9] = Lib.trimLeftS t [32, 9] := by
  unfold Lib.trimLeftS
  rw [List.dropWhile_cons]
  have : ([32, 9] : List UInt8).contains b = true := by
    unfold blankB at h
    rw [Bool.or_eq_true] at h
    rcases h with h | h
    · have := beq_iff_eq.1 h; subst this; rfl
    · have := beq_iff_eq.1 h; subst this; rfl
  rw [if_pos this]
theorem steps_word {q : Cur} (h : q.here = true) : q.steps.word = q.word := by
  obtain ⟨b, hb, hd⟩ := here_drop h
  unfold word
  rw [hd, trim_blank b _ hb]
  rfl
theorem skipGo_all (f : Nat) : ∀ (n : Nat) (q : Cur), (skipGo f n q).s = q.s ∧ q.at_ ≤ (skipGo f n q).at_ ∧ (skipGo f n q).word = q.word ∧ (q.Ok → (skipGo f n q).Ok) := by
  induction f with
  | zero => intro n q; exact ⟨rfl, Nat.le_refl _, rfl, id⟩
  | succ f ih =>
    intro n q
    unfold skipGo
    split
    · rename_i hc
      rw [Bool.and_eq_true] at hc
      split
      · rename_i hw
        refine ⟨rfl, Nat.le_refl _, rfl, fun hk => ⟨hk.len, hk.at_le, ?_, fun h0 => ?_, ?_, fun _ => here_lt hc.2⟩⟩
        · have := q.wide_col hk
          show q.col + n + (q.wide - n) ≤ 4 * q.at_ + 4
          omega
        · have h0' : q.wide - n = 0 := h0
          omega
        · have := q.wide_le hk
          show q.wide - n ≤ 4
          omega
      · obtain ⟨h1, h2, h3, h4⟩ := ih (n - q.wide) q.steps
        refine ⟨h1, Nat.le_trans (Nat.le_succ _) h2, h3.trans (steps_word hc.2), fun hk => h4 (steps_ok hk (here_lt hc.2))⟩
    · exact ⟨rfl, Nat.le_refl _, rfl, id⟩
theorem skip_s (n : Nat) (q : Cur) : (q.skip n).s = q.s := (skipGo_all _ n q).1
theorem skip_at (n : Nat) (q : Cur) : q.at_ ≤ (q.skip n).at_ := (skipGo_all _ n q).2.1
theorem skip_word (n : Nat) (q : Cur) : (q.skip n).word = q.word := (skipGo_all _ n q).2.2.1
theorem skip_ok (n : Nat) {q : Cur} (h : q.Ok) : (q.skip n).Ok := (skipGo_all _ n q).2.2.2 h
theorem take_all (n : Nat) : ∀ q : Cur, (take n q).s = q.s ∧ q.at_ ≤ (take n q).at_ ∧ (q.Ok → (take n q).Ok) := by
  induction n with
  | zero => intro q; exact ⟨rfl, Nat.le_refl _, id⟩
  | succ n ih =>
    intro q
    unfold take
    split
    · rename_i hl
      obtain ⟨h1, h2, h3⟩ := ih q.steps
      exact ⟨h1, Nat.le_trans (Nat.le_succ _) h2, fun hk => h3 (steps_ok hk hl)⟩
    · exact ⟨rfl, Nat.le_refl _, id⟩
theorem take_s (n : Nat) (q : Cur) : (take n q).s = q.s := (take_all n q).1
theorem take_ok (n : Nat) {q : Cur} (h : q.Ok) : (take n q).Ok := (take_all n q).2.2 h
theorem word_lt {q : Cur} (h : q.word ≠ []) : q.at_ < q.s.length := by
  rcases Nat.lt_or_ge q.at_ q.s.length with h1 | h1
  · exact h1
  · exfalso
    apply h
    unfold word
    rw [List.drop_eq_nil_of_le h1]
    rfl
theorem take_at {n : Nat} {q : Cur} (h : q.word ≠ []) (hn : 0 < n) : q.at_ < (take n q).at_ := by
  obtain ⟨m, rfl⟩ : ∃ m, n = m + 1 := ⟨n - 1, by omega⟩
  unfold take
  rw [if_pos (word_lt h)]
  exact Nat.lt_of_lt_of_le (Nat.lt_succ_self _) (take_all m q.steps).2.1
theorem marked_all (n : Nat) (q : Cur) : (q.marked n).s = q.s ∧ (q.Ok → (q.marked n).Ok) ∧ (q.word ≠ [] → 0 < n → q.at_ < (q.marked n).at_) := by
  unfold marked
  refine ⟨by rw [take_s, skip_s], fun h => take_ok n (skip_ok _ h), fun hw hn => ?_⟩
  have := take_at (n := n) (q := q.skip q.indent) (by rw [skip_word]; exact hw) hn
  exact Nat.lt_of_le_of_lt (skip_at _ q) this
theorem quote_all (q : Cur) : q.quote.s = q.s ∧ (q.Ok → q.quote.Ok) ∧ (q.word ≠ [] → q.at_ < q.quote.at_) := by
  have h := marked_all 1 q
  have e : q.quote = (q.marked 1).skip 1 := rfl
  rw [e]
  exact ⟨by rw [skip_s]; exact h.1, fun hk => skip_ok 1 (h.2.1 hk), fun hw => Nat.lt_of_lt_of_le (h.2.2 hw (by decide)) (skip_at 1 _)⟩
end Cur
theorem lays_cur (s : St) (k : Nat) : (s.lays k).cur = s.cur := by
  unfold St.lays St.layEnd
  rw [St.touch_cur]
  show (s.layUp k).cur = s.cur
  unfold St.layUp
  split <;> rfl
theorem puts_cur (s : St) (b : Blk) : (s.puts b).cur = s.cur := lays_cur _ _
theorem sets_cur (s : St) (b : Blk) : (s.sets b).cur = s.cur := lays_cur _ _
theorem listed_cur (F : LeafFns) (s : St) (l : List UInt8) : (s.listed F l).cur = s.cur := by
  unfold St.listed
  split
  · exact puts_cur _ _
  · rfl
structure After (N : Nat) (s t : St) : Prop where
  wf : Wf N t
  text : t.cur.s = s.cur.s
  le : s.cur.at_ ≤ t.cur.at_
  at_ : t.at_ = s.at_
  len : s.bs.length ≤ t.bs.length
theorem lays_at (s : St) (k : Nat) : (s.lays k).at_ = s.at_ := by
  unfold St.lays St.layEnd
  rw [St.touch_at]
  show (s.layUp k).at_ = s.at_
  exact St.layUp_at s k
theorem item_after {F : LeafFns} (HF : LeafOk F) {N : Nat} {s : St} (hf : Wf N s) (l : List UInt8) (hN : N + 6 ≤ 1099511627776) :
    After (N + 6) s (s.item F l).2 ∧ ((s.item F l).1 = true → l = s.cur.word → s.cur.at_ < (s.item F l).2.cur.at_) := by
  unfold St.item
  split
  · exact ⟨⟨hf.mono (by omega) (by omega), rfl, Nat.le_refl _, rfl, Nat.le_refl _⟩, fun h => by cases h⟩
  · rename_i hno
    have hf1 : Wf (N + 3) (s.listed F l) := by
      unfold St.listed
      split
      · exact hf.puts rfl (Nat.zero_le _) ⟨Nat.zero_le _, Nat.zero_le _⟩ (by omega)
      · exact hf.mono (by omega) (by omega)
    have hl1 : s.bs.length ≤ (s.listed F l).bs.length := by
      unfold St.listed
      split
      · rw [puts_len]; omega
      · exact Nat.le_refl _
    have ha1 : (s.listed F l).at_ = s.at_ := by
      unfold St.listed
      split
      · exact lays_at _ _
      · rfl
    have hc := listed_cur F s l
    have hm := Cur.marked_all (F.marker l).1 s.cur
    have hk := hf1.cur
    rw [hc] at hk
    have hi := s.cur.indent_le2 hf.cur
    have hi2 := (s.cur.marked (F.marker l).1).indent_le2 (hm.2.1 hf.cur)
    have hle := (HF.marker_le l).2
    have hb : (s.cur.marked (F.marker l).1).behind ≤ 274877906948 := by unfold Cur.behind; split <;> omega
    have e : ((s.listed F l).itemed (F.marker l).1).cur = (s.cur.marked (F.marker l).1).skip (s.cur.marked (F.marker l).1).behind := by
      unfold St.itemed
      rw [puts_cur, hc]
      rfl
    refine ⟨⟨?_, ?_, ?_, ?_, ?_⟩, fun _ hw => ?_⟩
    · unfold St.itemed
      rw [hc]
      exact (hf1.at (Cur.skip_ok _ (hm.2.1 hf.cur))).puts rfl (Nat.zero_le _) ⟨by show s.cur.indent + (F.marker l).1 + (s.cur.marked (F.marker l).1).behind ≤ 1099511627776; omega, Nat.zero_le _⟩ (by omega)
    · show ((s.listed F l).itemed (F.marker l).1).cur.s = _
      rw [e, Cur.skip_s]; exact hm.1
    · show _ ≤ ((s.listed F l).itemed (F.marker l).1).cur.at_
      rw [e]
      refine Nat.le_trans ?_ (Cur.skip_at _ _)
      unfold Cur.marked
      exact Nat.le_trans (Cur.skip_at _ _) (Cur.take_all _ _).2.1
    · show ((s.listed F l).itemed (F.marker l).1).at_ = _
      unfold St.itemed
      exact (lays_at _ _).trans ha1
    · show _ ≤ ((s.listed F l).itemed (F.marker l).1).bs.length
      unfold St.itemed
      rw [puts_len]
      exact Nat.le_succ_of_le hl1
    · show _ < ((s.listed F l).itemed (F.marker l).1).cur.at_
      rw [e]
      have h1 : (F.marker l).1 ≠ 0 := fun h0 => hno (by unfold St.noItem; rw [h0]; rfl)
      have h2 := (HF.marker_le l).1
      refine Nat.lt_of_lt_of_le (hm.2.2 ?_ (by omega)) (Cur.skip_at _ _)
      intro hnil
      rw [hw, hnil] at h2
      rw [hw, hnil] at h1
      simp at h2
      exact h1 h2
theorem sets_len (s : St) (b : Blk) : (s.sets b).bs.length = s.bs.length + 1 := puts_len s b
theorem sets_at (s : St) (b : Blk) : (s.sets b).at_ = s.at_ := lays_at _ _
theorem puts_at (s : St) (b : Blk) : (s.puts b).at_ = s.at_ := lays_at _ _
theorem puts_after {N : Nat} {s : St} (hf : Wf N s) {b : Blk} (hk : b.kids = []) (hl : b.lines.length ≤ 1) (hw : b.width ≤ 1099511627776 ∧ b.in_ ≤ 1099511627776) (hN : N + 6 ≤ 1099511627776) : After (N + 6) s (s.puts b) :=
  ⟨(hf.puts hk (by omega) hw (by omega)).mono (by omega) hN, by rw [puts_cur], by rw [puts_cur]; exact Nat.le_refl _, puts_at _ _, by rw [puts_len]; omega⟩
theorem sets_after {N : Nat} {s : St} (hf : Wf N s) {b : Blk} (hk : b.kids = []) (hl : b.lines.length ≤ 1) (hw : b.width ≤ 1099511627776 ∧ b.in_ ≤ 1099511627776) (hN : N + 6 ≤ 1099511627776) : After (N + 6) s (s.sets b) :=
  ⟨(hf.sets hk (by omega) hw (by omega)).mono (by omega) hN, by rw [sets_cur], by rw [sets_cur]; exact Nat.le_refl _, sets_at _ _, by rw [sets_len]; omega⟩
theorem begin_after {F : LeafFns} (HF : LeafOk F) {N : Nat} {s : St} (hf : Wf N s) (l : List UInt8) (hN : N + 6 ≤ 1099511627776) :
    After (N + 6) s (s.begin F l).2 ∧ ((s.begin F l).1 = (true, false) → l = s.cur.word → s.cur.at_ < (s.begin F l).2.cur.at_) := by
  have hin := s.cur.indent_le2 hf.cur
  unfold St.begin
  split
  · rename_i hp
    have hq := Cur.quote_all s.cur
    have h1 := puts_after (hf.at (hq.2.1 hf.cur)) (b := quoteB) rfl (Nat.zero_le _) ⟨Nat.zero_le _, Nat.zero_le _⟩ hN
    have hle : s.cur.at_ ≤ s.cur.quote.at_ := by
      unfold Cur.quote
      exact Nat.le_trans (Cur.skip_at _ _) (Nat.le_trans (Cur.take_all _ _).2.1 (Cur.skip_at _ _))
    refine ⟨⟨h1.wf, h1.text.trans hq.1, Nat.le_trans hle h1.le, h1.at_, h1.len⟩, fun _ hw => ?_⟩
    show _ < ((s.at s.cur.quote).puts quoteB).cur.at_
    rw [puts_cur]
    refine hq.2.2 fun e => ?_
    rw [hw, e] at hp
    cases hp
  · split
    · exact ⟨sets_after hf rfl (Nat.le_refl _) ⟨Nat.zero_le _, Nat.zero_le _⟩ hN, fun h => by cases h⟩
    · split
      · exact ⟨puts_after hf rfl (Nat.zero_le _) ⟨Nat.zero_le _, by show s.cur.indent ≤ _; omega⟩ hN, fun h => by cases h⟩
      · split
        · rename_i hu
          have hdeep := hf.deep (by rw [hu.2]; decide)
          have ho := hf.opAt hf.here
          have hne : s.opAt s.here ≠ s.opAt 0 := fun e => by
            have h5 := hf.root
            rw [← e, hu.2] at h5
            cases h5
          have hfA : Wf N (s.set (s.opAt s.here) { s.get (s.opAt s.here) with kind := 3 }) := hf.setB ho rfl rfl (.inr hne)
          have hoA : s.opAt s.here < (s.set (s.opAt s.here) { s.get (s.opAt s.here) with kind := 3 }).bs.length := by rw [St.set_len]; exact ho
          have hfB : Wf N (s.asHead (s.opAt s.here) (F.under l)) := hfA.setB hoA rfl rfl (.inl rfl)
          have hfC := hfB.touch (s.here + 1)
          have hfD := hfC.up (by rw [St.touch_here]; exact hdeep)
          have hcur : (((s.asHead (s.opAt s.here) (F.under l)).touch (s.here + 1)).up).cur = s.cur := St.touch_cur _ _
          refine ⟨⟨hfD.mono (by omega) hN, by rw [hcur], by rw [hcur]; exact Nat.le_refl _, St.touch_at _ _, ?_⟩, fun h => by cases h⟩
          show s.bs.length ≤ ((s.asHead (s.opAt s.here) (F.under l)).touch (s.here + 1)).bs.length
          rw [St.touch_len]
          unfold St.asHead
          rw [St.set_len, St.set_len]
          exact Nat.le_refl _
        · split
          · exact ⟨sets_after hf rfl (Nat.zero_le _) ⟨Nat.zero_le _, Nat.zero_le _⟩ hN, fun h => by cases h⟩
          · have h1 := item_after HF hf l hN
            exact ⟨h1.1, fun h hw => h1.2 (congrArg Prod.fst h) hw⟩
end Go.Proofs.YtpimcdkhjingjaaGreatDoor.X
namespace Go.Proofs.YtpimcdkhjingjaaGreatDoor.X
open Go.RowKit Go.Proofs.YtpimcdkhjingjaaGreatDoorW.PrintWords
def codeB : Blk := { Blk.zero with kind := 5 }
def St.leafAt (s : St) : Nat := s.opAt (s.op.length - 1)
def St.coded (s : St) : St := (s.puts codeB).at (s.cur.skip 4)
def St.begins (F : LeafFns) : Nat → Bool → St → (Bool × Bool) × St
  | 0, b, s => ((b, false), s)
  | f + 1, b, s =>
    if (s.get (s.opAt s.here)).kind = 5 then ((b, false), s)
    else if 4 ≤ s.cur.indent then
      if (s.get s.leafAt).kind = 2 ∨ s.cur.blank = true then ((b, false), s) else ((true, false), s.coded)
    else if (s.begin F s.cur.word).1.2 = true ∨ (s.begin F s.cur.word).1.1 = false then ((b || (s.begin F s.cur.word).1.1, (s.begin F s.cur.word).1.2), (s.begin F s.cur.word).2)
    else St.begins F f (b || (s.begin F s.cur.word).1.1) (s.begin F s.cur.word).2
theorem leaf_q {B N : Nat} {L : Lay} {s : St} {w : World} (hf : Wf N s) (w' : World) (h : PS B L s w w') : Calls Tryz.prog 28 #[.pointer (some ⟨L.pb, 0, none⟩)] w' fun e w2 => e = .returned (.pointer (some ⟨L.ad s.leafAt, 0, none⟩)) ∧ PS B L s w w2 :=
  (leaf_c h.1 hf).mono fun _ _ ⟨h1, n, h2⟩ => ⟨h1, by rw [h2]; exact h.1.drewN n, by rw [h2]; exact below_drewN h.2 n⟩
theorem word_le (q : Cur) (h : q.Ok) : q.word.length ≤ 1099511627776 := by
  have h1 : q.word.length ≤ (q.s.drop q.at_).length := List.Sublist.length_le (List.dropWhile_sublist _)
  rw [List.length_drop] at h1
  have := h.len
  omega
set_option maxRecDepth 100000 in
set_option maxHeartbeats 8000000 in
theorem begins_c {F : LeafFns} (HF : LeafOk F) {B : Nat} {w : World} {L : Lay} {s : St} {N : Nat} (h : Rep B w L s) (hf : Wf N s) (hG : GB B w) (G : Nat) (hrem : s.cur.s.length - s.cur.at_ < G) (hN : N + 6 * G ≤ 1099511627776) :
    Calls Tryz.prog 26 #[.pointer (some ⟨L.pb, 0, none⟩)] w fun e w' => e = .returned (.tuple #[.bool (s.begins F G false).1.1, .bool (s.begins F G false).1.2]) ∧ Step B w L s (s.begins F G false).2 w' := by
  obtain ⟨res, hres⟩ : ∃ res, res = s.begins F G false := ⟨_, rfl⟩
  have HRes := Lib.hid hres
  rw [← hres]
  clear hres
  obtain ⟨NB, hNB⟩ : ∃ NB, NB = N + 6 * G := ⟨_, rfl⟩
  have HNB := Lib.hid hNB
  rw [← hNB] at hN
  clear hNB
  go_enter Tryz.func26, Tryz.ntmps26
  go_wp2
  go_loopg [2, 4, 5] G (fun k v2 v4 v5 wr => ∃ (b : Bool) (t : St) (ad : Nat → Nat) (rv : Tag → Value) (M : Nat), v2 = .bool b ∧ Hid (t.begins F k b = res) ∧ t.cur.s.length - t.cur.at_ < k ∧ Rep B wr ⟨L.pb, L.cb, ad, rv⟩ t ∧ Wf M t ∧ M + 6 * k ≤ NB ∧ Below B w wr ∧ (∀ i, i < s.bs.length → ad i = L.ad i) ∧ s.bs.length ≤ t.bs.length)
  case atStart => exact ⟨false, s, L.ad, L.rv, N, rfl, HRes.out.symm, hrem, h, hf, by rw [HNB.out]; exact Nat.le_refl _, Below.refl _ _, fun _ _ => rfl, Nat.le_refl _⟩
  case round =>
    obtain ⟨b, t, ad, rv, M, rfl, hr0, hrm, hr, hft, hM, hb, had, hlen⟩ := hrel
    cases gk with
    | zero => omega
    | succ k =>
      have hq : PS B ⟨L.pb, L.cb, ad, rv⟩ t wr wr := ⟨hr, Below.refl _ _⟩
      have ho := hft.opAt hft.here
      have hlo : t.leafAt < t.bs.length := hft.opAt (by have := hft.here; omega)
      have HN : Hid (∀ w', PS B ⟨L.pb, L.cb, ad, rv⟩ t wr w' → Calls Tryz.prog 47 #[.pointer (some ⟨L.pb, 0, none⟩)] w' fun e w2 => e = .returned (.pointer (some ⟨ad (t.opAt t.here), 0, none⟩)) ∧ PS B ⟨L.pb, L.cb, ad, rv⟩ t wr w2) := fun w' h' => now_q hft w' h'
      have HL : Hid (∀ w', PS B ⟨L.pb, L.cb, ad, rv⟩ t wr w' → Calls Tryz.prog 28 #[.pointer (some ⟨L.pb, 0, none⟩)] w' fun e w2 => e = .returned (.pointer (some ⟨ad t.leafAt, 0, none⟩)) ∧ PS B ⟨L.pb, L.cb, ad, rv⟩ t wr w2) := fun w' h' => leaf_q hft w' h'
      have HI := Lib.hid (fun w' (h' : PS B ⟨L.pb, L.cb, ad, rv⟩ t wr w') => Indent_q hft w' h')
      have HB := Lib.hid (fun w' (h' : PS B ⟨L.pb, L.cb, ad, rv⟩ t wr w') => Blank_q hft w' h')
      have HW := Lib.hid (fun w' (h' : PS B ⟨L.pb, L.cb, ad, rv⟩ t wr w') => Word_q hft w' h')
      have hGr := hG.below hb
      have HBe := Lib.hid (fun w' (h' : PS B ⟨L.pb, L.cb, ad, rv⟩ t wr w') => begin_c HF h'.1 hft (hGr.below h'.2) t.cur.word (word_le _ hft.cur) (by omega))
      have haf := begin_after HF hft t.cur.word (by omega)
      have hst : Hid (t.begins F (k + 1) b = if (t.get (t.opAt t.here)).kind = 5 then ((b, false), t)
        else if 4 ≤ t.cur.indent then
          if (t.get t.leafAt).kind = 2 ∨ t.cur.blank = true then ((b, false), t) else ((true, false), t.coded)
        else if (t.begin F t.cur.word).1.2 = true ∨ (t.begin F t.cur.word).1.1 = false then ((b || (t.begin F t.cur.word).1.1, (t.begin F t.cur.word).1.2), (t.begin F t.cur.word).2)
        else St.begins F k (b || (t.begin F t.cur.word).1.1) (t.begin F t.cur.word).2) := rfl
      have HS := Lib.hid (fun (ad5 : Nat → Nat) (rv5 : Tag → Value) (w5 : World) (h5 : Rep B w5 ⟨L.pb, L.cb, ad5, rv5⟩ (t.puts codeB)) => Skip_p (hft.puts (b := codeB) rfl (Nat.zero_le _) ⟨Nat.zero_le _, Nat.zero_le _⟩ (by omega)) 4 (by omega) w5 h5)
      obtain ⟨K, hK⟩ : ∃ K, K = (t.get (t.opAt t.here)).kind := ⟨_, rfl⟩
      obtain ⟨KL, hKL⟩ : ∃ K, K = (t.get t.leafAt).kind := ⟨_, rfl⟩
      obtain ⟨i0, hi0⟩ : ∃ K, K = t.cur.indent := ⟨_, rfl⟩
      obtain ⟨bl, hbl⟩ : ∃ K, K = t.cur.blank := ⟨_, rfl⟩
      obtain ⟨r, hrr⟩ : ∃ r, r = t.begin F t.cur.word := ⟨_, rfl⟩
      rw [← hK, ← hKL, ← hi0, ← hbl, ← hrr] at hst
      rw [← hi0] at HI
      rw [← hbl] at HB
      rw [← hrr] at HBe haf
      have HK := Lib.hid hK
      have HKL := Lib.hid hKL
      clear hK hKL hi0 hbl hrr
      obtain ⟨⟨on, dn⟩, t2⟩ := r
      have hp2 : wr.cell? ⟨L.pb, 2, none⟩ = some (.pointer (some ⟨L.cb, 0, none⟩)) := hr.p2
      by_cases k5 : K = 5
      · have k5' : (K : Int) = 5 := by omega
        have hres : Hid (res = ((b, false), t)) := by show _ = _; rw [← hr0.out, hst.out, if_pos k5]
        go_wp2_with (first
        | (go_at_call 47; refine (HN.out _ ?_).mono ?_; assumption; rintro e w1 ⟨rfl, hq1⟩; have b01 : w1.cell? ⟨ad (t.opAt t.here), 0, none⟩ = some (.int .i64 (K : Int)) := (by rw [HK.out]; exact hq1.1.b0 _ ho); have p21 : w1.cell? ⟨L.pb, 2, none⟩ = some (.pointer (some ⟨L.cb, 0, none⟩)) := hq1.1.p2)
        )
        go_ret2
        exact ⟨by rw [hres.out]; rfl, ad, rv, by rw [hres.out]; exact hq1.1, had, hb.trans hq1.2⟩
      have k5' : ¬ (K : Int) = 5 := by omega
      rcases Nat.lt_or_ge i0 4 with hi4 | hi4
      · have hi4' : ¬ (4 : Int) ≤ (i0 : Int) := by omega
        have hall : dn = true ∨ dn = false ∧ on = false ∨ dn = false ∧ on = true := by cases dn <;> cases on <;> simp
        rcases hall with rfl | ⟨rfl, rfl⟩ | ⟨rfl, rfl⟩
        · have hres : Hid (res = ((b || on, true), t2)) := by show _ = _; rw [← hr0.out, hst.out, if_neg k5, if_neg (by omega), if_pos (.inl rfl)]
          cases b <;> cases on <;>
          · go_wp2_with (first
        | (go_at_call 47; refine (HN.out _ ?_).mono ?_; assumption; rintro e w1 ⟨rfl, hq1⟩; have b01 : w1.cell? ⟨ad (t.opAt t.here), 0, none⟩ = some (.int .i64 (K : Int)) := (by rw [HK.out]; exact hq1.1.b0 _ ho); have p21 : w1.cell? ⟨L.pb, 2, none⟩ = some (.pointer (some ⟨L.cb, 0, none⟩)) := hq1.1.p2)
        | (go_at_call 48; refine (HI.out _ ?_).mono ?_; assumption; rintro e w2 ⟨rfl, hq2⟩; have p22 : w2.cell? ⟨L.pb, 2, none⟩ = some (.pointer (some ⟨L.cb, 0, none⟩)) := hq2.1.p2)
        | (go_at_call 29; refine (HW.out _ ?_).mono ?_; assumption; rintro e w5 ⟨rfl, hq5⟩)
        | (go_at_call 51; refine (HBe.out _ ?_).mono ?_; assumption; rintro e w6 ⟨rfl, ad6, rv6, hr6, had6, hb6⟩)
            )
            go_ret2
            exact ⟨by rw [hres.out]; rfl, ad6, rv6, by rw [hres.out]; exact hr6, fun i hi => (had6 i (by omega)).trans (had i hi), hb.trans (hq5.2.trans hb6)⟩
        · have hres : Hid (res = ((b || false, false), t2)) := by show _ = _; rw [← hr0.out, hst.out, if_neg k5, if_neg (by omega), if_pos (.inr rfl)]
          cases b <;>
          · go_wp2_with (first
        | (go_at_call 47; refine (HN.out _ ?_).mono ?_; assumption; rintro e w1 ⟨rfl, hq1⟩; have b01 : w1.cell? ⟨ad (t.opAt t.here), 0, none⟩ = some (.int .i64 (K : Int)) := (by rw [HK.out]; exact hq1.1.b0 _ ho); have p21 : w1.cell? ⟨L.pb, 2, none⟩ = some (.pointer (some ⟨L.cb, 0, none⟩)) := hq1.1.p2)
        | (go_at_call 48; refine (HI.out _ ?_).mono ?_; assumption; rintro e w2 ⟨rfl, hq2⟩; have p22 : w2.cell? ⟨L.pb, 2, none⟩ = some (.pointer (some ⟨L.cb, 0, none⟩)) := hq2.1.p2)
        | (go_at_call 29; refine (HW.out _ ?_).mono ?_; assumption; rintro e w5 ⟨rfl, hq5⟩)
        | (go_at_call 51; refine (HBe.out _ ?_).mono ?_; assumption; rintro e w6 ⟨rfl, ad6, rv6, hr6, had6, hb6⟩)
            )
            go_ret2
            exact ⟨by rw [hres.out]; rfl, ad6, rv6, by rw [hres.out]; exact hr6, fun i hi => (had6 i (by omega)).trans (had i hi), hb.trans (hq5.2.trans hb6)⟩
        · have hres : Hid (t2.begins F k (b || true) = res) := by show _ = _; rw [← hr0.out, hst.out, if_neg k5, if_neg (by omega), if_neg (by simp)]
          have h7 := haf.2 rfl rfl
          have h8 := haf.1
          have h9 := h8.wf.cur.at_le
          have h10 : t2.cur.s = t.cur.s := h8.text
          rw [h10] at h9
          have h11 : t2.cur.s.length - t2.cur.at_ < k := by
            rw [h10]
            have h7' : t.cur.at_ < t2.cur.at_ := h7
            omega
          have H8 := Lib.hid h8
          have H11 := Lib.hid h11
          clear h7 h8 h9 h10 h11 haf
          cases b <;>
          · go_wp2_with (first
        | (go_at_call 47; refine (HN.out _ ?_).mono ?_; assumption; rintro e w1 ⟨rfl, hq1⟩; have b01 : w1.cell? ⟨ad (t.opAt t.here), 0, none⟩ = some (.int .i64 (K : Int)) := (by rw [HK.out]; exact hq1.1.b0 _ ho); have p21 : w1.cell? ⟨L.pb, 2, none⟩ = some (.pointer (some ⟨L.cb, 0, none⟩)) := hq1.1.p2)
        | (go_at_call 48; refine (HI.out _ ?_).mono ?_; assumption; rintro e w2 ⟨rfl, hq2⟩; have p22 : w2.cell? ⟨L.pb, 2, none⟩ = some (.pointer (some ⟨L.cb, 0, none⟩)) := hq2.1.p2)
        | (go_at_call 29; refine (HW.out _ ?_).mono ?_; assumption; rintro e w5 ⟨rfl, hq5⟩)
        | (go_at_call 51; refine (HBe.out _ ?_).mono ?_; assumption; rintro e w6 ⟨rfl, ad6, rv6, hr6, had6, hb6⟩)
            )
            go_roundg k
            case measure => omega
            case rel => exact ⟨true, t2, ad6, rv6, M + 6, rfl, hres.out, H11.out, hr6, H8.out.wf, by omega, hb.trans (hq5.2.trans hb6), fun i hi => (had6 i (by omega)).trans (had i hi), Nat.le_trans hlen H8.out.len⟩
      have hi4' : (4 : Int) ≤ (i0 : Int) := by omega
      by_cases kl : KL = 2
      · have kl' : (KL : Int) = 2 := by omega
        have hres : Hid (res = ((b, false), t)) := by show _ = _; rw [← hr0.out, hst.out, if_neg k5, if_pos hi4, if_pos (.inl kl)]
        go_wp2_with (first
        | (go_at_call 47; refine (HN.out _ ?_).mono ?_; assumption; rintro e w1 ⟨rfl, hq1⟩; have b01 : w1.cell? ⟨ad (t.opAt t.here), 0, none⟩ = some (.int .i64 (K : Int)) := (by rw [HK.out]; exact hq1.1.b0 _ ho); have p21 : w1.cell? ⟨L.pb, 2, none⟩ = some (.pointer (some ⟨L.cb, 0, none⟩)) := hq1.1.p2)
        | (go_at_call 48; refine (HI.out _ ?_).mono ?_; assumption; rintro e w2 ⟨rfl, hq2⟩; have p22 : w2.cell? ⟨L.pb, 2, none⟩ = some (.pointer (some ⟨L.cb, 0, none⟩)) := hq2.1.p2)
        | (go_at_call 28; refine (HL.out _ ?_).mono ?_; assumption; rintro e w3 ⟨rfl, hq3⟩; have b03 : w3.cell? ⟨ad t.leafAt, 0, none⟩ = some (.int .i64 (KL : Int)) := (by rw [HKL.out]; exact hq3.1.b0 _ hlo); have p23 : w3.cell? ⟨L.pb, 2, none⟩ = some (.pointer (some ⟨L.cb, 0, none⟩)) := hq3.1.p2)
        )
        go_ret2
        exact ⟨by rw [hres.out]; rfl, ad, rv, by rw [hres.out]; exact hq3.1, had, hb.trans hq3.2⟩
      have kl' : ¬ (KL : Int) = 2 := by omega
      cases bl with
      | true =>
        have hres : Hid (res = ((b, false), t)) := by show _ = _; rw [← hr0.out, hst.out, if_neg k5, if_pos hi4, if_pos (.inr rfl)]
        go_wp2_with (first
        | (go_at_call 47; refine (HN.out _ ?_).mono ?_; assumption; rintro e w1 ⟨rfl, hq1⟩; have b01 : w1.cell? ⟨ad (t.opAt t.here), 0, none⟩ = some (.int .i64 (K : Int)) := (by rw [HK.out]; exact hq1.1.b0 _ ho); have p21 : w1.cell? ⟨L.pb, 2, none⟩ = some (.pointer (some ⟨L.cb, 0, none⟩)) := hq1.1.p2)
        | (go_at_call 48; refine (HI.out _ ?_).mono ?_; assumption; rintro e w2 ⟨rfl, hq2⟩; have p22 : w2.cell? ⟨L.pb, 2, none⟩ = some (.pointer (some ⟨L.cb, 0, none⟩)) := hq2.1.p2)
        | (go_at_call 28; refine (HL.out _ ?_).mono ?_; assumption; rintro e w3 ⟨rfl, hq3⟩; have b03 : w3.cell? ⟨ad t.leafAt, 0, none⟩ = some (.int .i64 (KL : Int)) := (by rw [HKL.out]; exact hq3.1.b0 _ hlo); have p23 : w3.cell? ⟨L.pb, 2, none⟩ = some (.pointer (some ⟨L.cb, 0, none⟩)) := hq3.1.p2)
        | (go_at_call 27; refine (HB.out _ ?_).mono ?_; assumption; rintro e w4 ⟨rfl, hq4⟩)
        )
        go_ret2
        exact ⟨by rw [hres.out]; rfl, ad, rv, by rw [hres.out]; exact hq4.1, had, hb.trans hq4.2⟩
      | false =>
        have hres : Hid (res = ((true, false), t.coded)) := by show _ = _; rw [← hr0.out, hst.out, if_neg k5, if_pos hi4, if_neg (by simp [kl])]
        go_wp2_with (first
        | (go_at_call 47; refine (HN.out _ ?_).mono ?_; assumption; rintro e w1 ⟨rfl, hq1⟩; have b01 : w1.cell? ⟨ad (t.opAt t.here), 0, none⟩ = some (.int .i64 (K : Int)) := (by rw [HK.out]; exact hq1.1.b0 _ ho); have p21 : w1.cell? ⟨L.pb, 2, none⟩ = some (.pointer (some ⟨L.cb, 0, none⟩)) := hq1.1.p2)
        | (go_at_call 48; refine (HI.out _ ?_).mono ?_; assumption; rintro e w2 ⟨rfl, hq2⟩; have p22 : w2.cell? ⟨L.pb, 2, none⟩ = some (.pointer (some ⟨L.cb, 0, none⟩)) := hq2.1.p2)
        | (go_at_call 28; refine (HL.out _ ?_).mono ?_; assumption; rintro e w3 ⟨rfl, hq3⟩; have b03 : w3.cell? ⟨ad t.leafAt, 0, none⟩ = some (.int .i64 (KL : Int)) := (by rw [HKL.out]; exact hq3.1.b0 _ hlo); have p23 : w3.cell? ⟨L.pb, 2, none⟩ = some (.pointer (some ⟨L.cb, 0, none⟩)) := hq3.1.p2)
        | (go_at_call 27; refine (HB.out _ ?_).mono ?_; assumption; rintro e w4 ⟨rfl, hq4⟩)
        | (go_at_call 49; refine (puts0 hq4.1 hft codeB rfl rfl ⟨Nat.zero_le _, Nat.zero_le _⟩ (by omega)).mono ?_; rintro e w5 ⟨⟨g, rfl⟩, ad5, rv5, hr5, had5, hb5⟩; have p25 : w5.cell? ⟨L.pb, 2, none⟩ = some (.pointer (some ⟨L.cb, 0, none⟩)) := hr5.p2)
        | (go_at_call 50; refine (HS.out ad5 rv5 _ hr5).mono ?_; rintro e w6 ⟨⟨r6, rfl⟩, hr6, hk6, hb6⟩)
        )
        go_ret2
        refine ⟨by rw [hres.out]; rfl, ad5, rv5, ?_, fun i hi => (had5 i (by omega)).trans (had i hi), hb.trans (hq4.2.trans (hb5.trans hb6))⟩
        rw [hres.out]
        show Rep B w6 _ t.coded
        unfold St.coded
        rw [← puts_cur t codeB]
        exact hr6
end Go.Proofs.YtpimcdkhjingjaaGreatDoor.X
namespace Go.Proofs.YtpimcdkhjingjaaGreatDoor.X
open Go.RowKit Go.Proofs.YtpimcdkhjingjaaGreatDoorW.PrintWords
def St.goes (F : LeafFns) (s : St) (k : Nat) : (Bool × Bool) × St :=
  if (s.get k).kind = 6 then
    if s.cur.indent < 4 ∧ Lib.hasPrefix s.cur.word [62] = true then ((true, false), s.at s.cur.quote) else ((false, false), s)
  else if (s.get k).kind = 7 then ((true, false), s)
  else if (s.get k).kind = 8 then
    if (if s.cur.blank = true then 0 < (s.get k).kids.length else (s.get k).width ≤ s.cur.indent) then ((true, false), s.at (s.cur.skip (s.get k).width)) else ((false, false), s)
  else if (s.get k).kind = 5 then
    if 0 < (s.get k).fence then
      if s.cur.indent < 4 ∧ F.closes s.cur.word (s.get k).sign (s.get k).fence = true then ((false, true), s) else ((true, false), s.at (s.cur.skip (s.get k).in_))
    else if 4 ≤ s.cur.indent ∨ s.cur.blank = true then ((true, false), s.at (s.cur.skip 4)) else ((false, false), s)
  else ((!s.cur.blank, false), s)
theorem Rep.kidsLen {B : Nat} {w : World} {L : Lay} {s : St} (h : Rep B w L s) (i : Nat) (hi : i < s.bs.length) : ∃ A c, L.rv (.kid i) = .slice A (s.get i).kids.length c := own_slice (h.ownK i hi)
section
variable {F : LeafFns} (HF : LeafOk F) {B : Nat} {w : World} {L : Lay} {s : St} {N : Nat} (h : Rep B w L s) (hf : Wf N s) (hG : GB B w) (k : Nat) (hk : k < s.bs.length)
def GoesSaid (F : LeafFns) (B : Nat) (w : World) (L : Lay) (s : St) (k : Nat) : Prop :=
  Calls Tryz.prog 46 #[.pointer (some ⟨L.pb, 0, none⟩), .pointer (some ⟨L.ad k, 0, none⟩)] w fun e w' => e = .returned (.tuple #[.bool (s.goes F k).1.1, .bool (s.goes F k).1.2]) ∧ Rep B w' L (s.goes F k).2 ∧ Below B w w'
include h hf hk
set_option maxRecDepth 100000 in
set_option maxHeartbeats 4000000 in
theorem goes_quote (hkind : (s.get k).kind = 6) : GoesSaid F B w L s k := by
  unfold GoesSaid
  have hq : PS B L s w w := ⟨h, Below.refl _ _⟩
  have b0 := h.b0 k hk
  rw [hkind] at b0
  have hin := s.cur.indent_le2 hf.cur
  have HQ := Lib.hid (fun w' (h' : PS B L s w w') => (quote_c h'.1 hf (by omega)).mono (fun e w2 (hh : _ ∧ _ ∧ _ ∧ _) => (⟨hh.1, hh.2.1, h'.2.trans hh.2.2.2⟩ : e = .returned (.tuple #[]) ∧ PS B L (s.at s.cur.quote) w w2)))
  have HP : Hid (∀ l w', Calls Tryz.prog 82 #[.string (S l), .string ⟨#[62]⟩] w' fun e w2 => e = .returned (.bool (Lib.hasPrefix l [62])) ∧ w' = w2) := fun l w' => (prefix_c l [62] w').mono fun _ _ h => ⟨h.1, h.2.symm⟩
  have HI := Lib.hid (fun w' (h' : PS B L s w w') => Indent_q hf w' h')
  have HW := Lib.hid (fun w' (h' : PS B L s w w') => Word_q hf w' h')
  have hg : Hid (s.goes F k = if s.cur.indent < 4 ∧ Lib.hasPrefix s.cur.word [62] = true then ((true, false), s.at s.cur.quote) else ((false, false), s)) := by show _ = _; unfold St.goes; rw [if_pos hkind]
  have hp2 := h.p2
  obtain ⟨i0, hi0⟩ : ∃ K, K = s.cur.indent := ⟨_, rfl⟩
  obtain ⟨W, hW⟩ : ∃ K, K = s.cur.word := ⟨_, rfl⟩
  obtain ⟨p, hp⟩ : ∃ p, p = Lib.hasPrefix W [62] := ⟨_, rfl⟩
  rw [← hi0, ← hW, ← hp] at hg
  rw [← hi0] at HI
  rw [← hW] at HW
  have HPW := HP.out W
  rw [← hp] at HPW
  have HP2 := Lib.hid HPW
  clear HP HPW hi0 hW hp hkind
  go_enter Tryz.func46, Tryz.ntmps46
  have hall : 4 ≤ i0 ∨ i0 < 4 ∧ p = false ∨ i0 < 4 ∧ p = true := by cases p <;> simp <;> omega
  rcases hall with h4 | ⟨h4, rfl⟩ | ⟨h4, rfl⟩
  · have h4' : ¬ (i0 : Int) < 4 := by omega
    have hr : Hid (s.goes F k = ((false, false), s)) := by show _ = _; rw [hg.out, if_neg (by omega)]
    go_wp2_with (first
      | (go_at_call 48; refine (HI.out _ ?_).mono ?_; assumption; rintro e w2 ⟨rfl, hq2⟩)
      )
    go_ret2
    exact ⟨by rw [hr.out]; rfl, by rw [hr.out]; exact hq2.1, hq2.2⟩
  · have h4' : (i0 : Int) < 4 := by omega
    have hr : Hid (s.goes F k = ((false, false), s)) := by show _ = _; rw [hg.out, if_neg (by simp)]
    go_wp2_with (first
      | (go_at_call 48; refine (HI.out _ ?_).mono ?_; assumption; rintro e w2 ⟨rfl, hq2⟩)
      | (go_at_call 29; refine (HW.out _ ?_).mono ?_; assumption; rintro e w3 ⟨rfl, hq3⟩)
      | (go_at_call 82; refine (HP2.out _).mono ?_; rintro e w4 ⟨rfl, rfl⟩)
      )
    go_ret2
    exact ⟨by rw [hr.out]; rfl, by rw [hr.out]; exact hq3.1, hq3.2⟩
  · have h4' : (i0 : Int) < 4 := by omega
    have hr : Hid (s.goes F k = ((true, false), s.at s.cur.quote)) := by show _ = _; rw [hg.out, if_pos ⟨h4, rfl⟩]
    go_wp2_with (first
      | (go_at_call 48; refine (HI.out _ ?_).mono ?_; assumption; rintro e w2 ⟨rfl, hq2⟩)
      | (go_at_call 29; refine (HW.out _ ?_).mono ?_; assumption; rintro e w3 ⟨rfl, hq3⟩)
      | (go_at_call 82; refine (HP2.out _).mono ?_; rintro e w4 ⟨rfl, rfl⟩)
      | (go_at_call 83; refine (HQ.out _ ?_).mono ?_; assumption; rintro e w5 ⟨rfl, hq5⟩)
      )
    go_ret2
    exact ⟨by rw [hr.out]; rfl, by rw [hr.out]; exact hq5.1, hq5.2⟩
set_option maxRecDepth 100000 in
set_option maxHeartbeats 4000000 in
theorem goes_list (hkind : (s.get k).kind = 7) : GoesSaid F B w L s k := by
  have _h := hf
  unfold GoesSaid
  have b0 := h.b0 k hk
  rw [hkind] at b0
  have hp2 := h.p2
  have hr : Hid (s.goes F k = ((true, false), s)) := by show _ = _; unfold St.goes; rw [if_neg (by omega), if_pos hkind]
  clear hkind
  go_enter Tryz.func46, Tryz.ntmps46
  go_wp2
  go_ret2
  exact ⟨by rw [hr.out]; rfl, by rw [hr.out]; exact h, Below.refl _ _⟩
set_option maxRecDepth 100000 in
set_option maxHeartbeats 4000000 in
theorem goes_other (h5 : (s.get k).kind ≠ 5) (h6 : (s.get k).kind ≠ 6) (h7 : (s.get k).kind ≠ 7) (h8 : (s.get k).kind ≠ 8) : GoesSaid F B w L s k := by
  unfold GoesSaid
  have hq : PS B L s w w := ⟨h, Below.refl _ _⟩
  have b0 := h.b0 k hk
  have hp2 := h.p2
  have HB := Lib.hid (fun w' (h' : PS B L s w w') => Blank_q hf w' h')
  have hr : Hid (s.goes F k = ((!s.cur.blank, false), s)) := by show _ = _; unfold St.goes; rw [if_neg h6, if_neg h7, if_neg h8, if_neg h5]
  obtain ⟨bl, hbl⟩ : ∃ K, K = s.cur.blank := ⟨_, rfl⟩
  rw [← hbl] at HB hr
  obtain ⟨K, hK⟩ : ∃ K, K = (s.get k).kind := ⟨_, rfl⟩
  rw [← hK] at b0 h5 h6 h7 h8
  have k5 : ¬ (K : Int) = 5 := by omega
  have k6 : ¬ (K : Int) = 6 := by omega
  have k7 : ¬ (K : Int) = 7 := by omega
  have k8 : ¬ (K : Int) = 8 := by omega
  clear hbl hK h5 h6 h7 h8
  go_enter Tryz.func46, Tryz.ntmps46
  cases bl <;>
  · go_wp2_with (first
      | (go_at_call 27; refine (HB.out _ ?_).mono ?_; assumption; rintro e w4 ⟨rfl, hq4⟩)
      )
    go_ret2
    exact ⟨by rw [hr.out]; rfl, by rw [hr.out]; exact hq4.1, hq4.2⟩
set_option maxRecDepth 100000 in
set_option maxHeartbeats 4000000 in
theorem goes_code (hkind : (s.get k).kind = 5) (hfen : (s.get k).fence = 0) : GoesSaid F B w L s k := by
  unfold GoesSaid
  have hq : PS B L s w w := ⟨h, Below.refl _ _⟩
  have b0 := h.b0 k hk
  have b9 := h.b9 k hk
  rw [hkind] at b0
  rw [hfen] at b9
  have hp2 := h.p2
  have HI := Lib.hid (fun w' (h' : PS B L s w w') => Indent_q hf w' h')
  have HB := Lib.hid (fun w' (h' : PS B L s w w') => Blank_q hf w' h')
  have HS := Lib.hid (fun w' (h' : PS B L s w w') => Skip_q hf 4 (by omega) w' h')
  have hg : Hid (s.goes F k = if 4 ≤ s.cur.indent ∨ s.cur.blank = true then ((true, false), s.at (s.cur.skip 4)) else ((false, false), s)) := by show _ = _; unfold St.goes; rw [if_neg (by omega), if_neg (by omega), if_neg (by omega), if_pos hkind, if_neg (by omega)]
  obtain ⟨i0, hi0⟩ : ∃ K, K = s.cur.indent := ⟨_, rfl⟩
  obtain ⟨bl, hbl⟩ : ∃ K, K = s.cur.blank := ⟨_, rfl⟩
  rw [← hi0, ← hbl] at hg
  rw [← hi0] at HI
  rw [← hbl] at HB
  clear hi0 hbl hkind hfen
  go_enter Tryz.func46, Tryz.ntmps46
  have hall : 4 ≤ i0 ∨ i0 < 4 ∧ bl = true ∨ i0 < 4 ∧ bl = false := by cases bl <;> simp <;> omega
  rcases hall with h4 | ⟨h4, rfl⟩ | ⟨h4, rfl⟩
  · have h4' : (4 : Int) ≤ (i0 : Int) := by omega
    have hd4 : decide ((4 : Int) ≤ (i0 : Int)) = true := decide_eq_true h4'
    have hr : Hid (s.goes F k = ((true, false), s.at (s.cur.skip 4))) := by show _ = _; rw [hg.out, if_pos (.inl h4)]
    go_wp2_with (first
      | (go_at_call 48; refine (HI.out _ ?_).mono ?_; assumption; rintro e w2 ⟨rfl, hq2⟩)
      | (go_at_call 50; refine (HS.out _ ?_).mono ?_; assumption; rintro e w3 ⟨⟨r, rfl⟩, hq3, hk3⟩)
      )
    go_ret2
    exact ⟨by rw [hr.out]; rfl, by rw [hr.out]; exact hq3.1, hq3.2⟩
  · have h4' : ¬ (4 : Int) ≤ (i0 : Int) := by omega
    have hd4 : decide ((4 : Int) ≤ (i0 : Int)) = false := decide_eq_false h4'
    have hr : Hid (s.goes F k = ((true, false), s.at (s.cur.skip 4))) := by show _ = _; rw [hg.out, if_pos (.inr rfl)]
    go_wp2_with (first
      | (go_at_call 48; refine (HI.out _ ?_).mono ?_; assumption; rintro e w2 ⟨rfl, hq2⟩)
      | (go_at_call 27; refine (HB.out _ ?_).mono ?_; assumption; rintro e w4 ⟨rfl, hq4⟩)
      | (go_at_call 50; refine (HS.out _ ?_).mono ?_; assumption; rintro e w3 ⟨⟨r, rfl⟩, hq3, hk3⟩)
      )
    go_ret2
    exact ⟨by rw [hr.out]; rfl, by rw [hr.out]; exact hq3.1, hq3.2⟩
  · have h4' : ¬ (4 : Int) ≤ (i0 : Int) := by omega
    have hd4 : decide ((4 : Int) ≤ (i0 : Int)) = false := decide_eq_false h4'
    have hr : Hid (s.goes F k = ((false, false), s)) := by show _ = _; rw [hg.out, if_neg (by simp; omega)]
    go_wp2_with (first
      | (go_at_call 48; refine (HI.out _ ?_).mono ?_; assumption; rintro e w2 ⟨rfl, hq2⟩)
      | (go_at_call 27; refine (HB.out _ ?_).mono ?_; assumption; rintro e w4 ⟨rfl, hq4⟩)
      )
    go_ret2
    exact ⟨by rw [hr.out]; rfl, by rw [hr.out]; exact hq4.1, hq4.2⟩
end
end Go.Proofs.YtpimcdkhjingjaaGreatDoor.X
namespace Go.Proofs.YtpimcdkhjingjaaGreatDoor.X
open Go.RowKit Go.Proofs.YtpimcdkhjingjaaGreatDoorW.PrintWords
section
variable {F : LeafFns} (HF : LeafOk F) {B : Nat} {w : World} {L : Lay} {s : St} {N : Nat} (h : Rep B w L s) (hf : Wf N s) (hG : GB B w) (k : Nat) (hk : k < s.bs.length)
include h hf hk
set_option maxRecDepth 100000 in
set_option maxHeartbeats 4000000 in
theorem goes_item (hkind : (s.get k).kind = 8) : GoesSaid F B w L s k := by
  unfold GoesSaid
  have hq : PS B L s w w := ⟨h, Below.refl _ _⟩
  have b0 := h.b0 k hk
  rw [hkind] at b0
  have hp2 := h.p2
  have HI := Lib.hid (fun w' (h' : PS B L s w w') => Indent_q hf w' h')
  have HB := Lib.hid (fun w' (h' : PS B L s w w') => Blank_q hf w' h')
  have HS := Lib.hid (fun w' (h' : PS B L s w w') => Skip_q hf (s.get k).width (hf.wid k hk).1 w' h')
  have hg : Hid (s.goes F k = if (if s.cur.blank = true then 0 < (s.get k).kids.length else (s.get k).width ≤ s.cur.indent) then ((true, false), s.at (s.cur.skip (s.get k).width)) else ((false, false), s)) := by show _ = _; unfold St.goes; rw [if_neg (by omega), if_neg (by omega), if_pos hkind]
  obtain ⟨i0, hi0⟩ : ∃ K, K = s.cur.indent := ⟨_, rfl⟩
  obtain ⟨bl, hbl⟩ : ∃ K, K = s.cur.blank := ⟨_, rfl⟩
  obtain ⟨wd, hwd⟩ : ∃ K, K = (s.get k).width := ⟨_, rfl⟩
  obtain ⟨kn, hkn⟩ : ∃ K, K = (s.get k).kids.length := ⟨_, rfl⟩
  obtain ⟨A, c, hkv⟩ := h.kidsLen k hk
  rw [← hkn] at hkv
  rw [← hi0, ← hbl, ← hwd, ← hkn] at hg
  rw [← hi0] at HI
  rw [← hbl] at HB
  rw [← hwd] at HS
  have Hkv := Lib.hid hkv
  have Hwd := Lib.hid hwd
  clear hi0 hbl hkind hwd hkn hkv
  have B7 : Hid (∀ w', Rep B w' L s → w'.cell? ⟨L.ad k, 7, none⟩ = some (.int .i64 (wd : Int))) := fun w' h' => by rw [Hwd.out]; exact h'.b7 k hk
  have B3 : Hid (∀ w', Rep B w' L s → w'.cell? ⟨L.ad k, 3, none⟩ = some (.slice A kn c)) := fun w' h' => by rw [← Hkv.out]; exact h'.b3 k hk
  go_enter Tryz.func46, Tryz.ntmps46
  go_upto_region 10 with fail
  have hle : (wd ≤ i0) ∨ ¬ (wd ≤ i0) := Decidable.em _
  have hall : bl = true ∧ 0 < kn ∨ bl = true ∧ kn = 0 ∨ bl = false := by cases bl <;> simp <;> omega
  rcases hle with hle | hle
  · have hle' : (wd : Int) ≤ (i0 : Int) := by omega
    have hdle : decide ((wd : Int) ≤ (i0 : Int)) = true := decide_eq_true hle'
    go_region_held3 (fun w' => w'.cell? ⟨L.ad k, 7, none⟩ = some (.int .i64 (wd : Int))) (first | exact B7.out _ hq2.1 | exact B7.out _ (h.keep fun _ _ _ => rfl) | assumption)
      (first | (go_at_call 48; refine (HI.out _ ?_).mono ?_; exact ⟨h.keep fun _ _ _ => rfl, ⟨rfl, rfl, rfl, Nat.le_refl _, fun _ _ => rfl⟩⟩; rintro e w2 ⟨rfl, hq2⟩))
    all_goals
      rcases hall with ⟨rfl, hkn⟩ | ⟨rfl, rfl⟩ | rfl
      · have hkn' : (0 : Int) < (kn : Int) := by omega
        have hr : Hid (s.goes F k = ((true, false), s.at (s.cur.skip wd))) := by show _ = _; rw [hg.out, if_pos (by simpa using hkn)]
        go_wp2_with (first
          | (go_at_call 27; refine (HB.out _ ?_).mono ?_; assumption; rintro e w4 ⟨rfl, hq4⟩; have b34 := B3.out _ hq4.1; have b74 := B7.out _ hq4.1)
          | (go_at_call 50; refine (HS.out _ ?_).mono ?_; assumption; rintro e w3 ⟨⟨r, rfl⟩, hq3, hk3⟩)
          )
        go_ret2
        exact ⟨by rw [hr.out]; rfl, by rw [hr.out]; exact hq3.1, hq3.2⟩
      · have hr : Hid (s.goes F k = ((false, false), s)) := by show _ = _; rw [hg.out, if_neg (by simp)]
        go_wp2_with (first
          | (go_at_call 27; refine (HB.out _ ?_).mono ?_; assumption; rintro e w4 ⟨rfl, hq4⟩; have b34 := B3.out _ hq4.1; have b74 := B7.out _ hq4.1)
          )
        go_ret2
        exact ⟨by rw [hr.out]; rfl, by rw [hr.out]; exact hq4.1, hq4.2⟩
      · have hr : Hid (s.goes F k = ((true, false), s.at (s.cur.skip wd))) := by show _ = _; rw [hg.out, if_pos (by simpa using hle)]
        go_wp2_with (first
          | (go_at_call 27; refine (HB.out _ ?_).mono ?_; assumption; rintro e w4 ⟨rfl, hq4⟩; have b34 := B3.out _ hq4.1; have b74 := B7.out _ hq4.1)
          | (go_at_call 50; refine (HS.out _ ?_).mono ?_; assumption; rintro e w3 ⟨⟨r, rfl⟩, hq3, hk3⟩)
          )
        go_ret2
        exact ⟨by rw [hr.out]; rfl, by rw [hr.out]; exact hq3.1, hq3.2⟩
  · have hle' : ¬ (wd : Int) ≤ (i0 : Int) := by omega
    have hdle : decide ((wd : Int) ≤ (i0 : Int)) = false := decide_eq_false hle'
    go_region_held3 (fun w' => w'.cell? ⟨L.ad k, 7, none⟩ = some (.int .i64 (wd : Int))) (first | exact B7.out _ hq2.1 | exact B7.out _ (h.keep fun _ _ _ => rfl) | assumption)
      (first | (go_at_call 48; refine (HI.out _ ?_).mono ?_; exact ⟨h.keep fun _ _ _ => rfl, ⟨rfl, rfl, rfl, Nat.le_refl _, fun _ _ => rfl⟩⟩; rintro e w2 ⟨rfl, hq2⟩))
    all_goals
      rcases hall with ⟨rfl, hkn⟩ | ⟨rfl, rfl⟩ | rfl
      · have hkn' : (0 : Int) < (kn : Int) := by omega
        have hr : Hid (s.goes F k = ((true, false), s.at (s.cur.skip wd))) := by show _ = _; rw [hg.out, if_pos (by simpa using hkn)]
        go_wp2_with (first
          | (go_at_call 27; refine (HB.out _ ?_).mono ?_; assumption; rintro e w4 ⟨rfl, hq4⟩; have b34 := B3.out _ hq4.1; have b74 := B7.out _ hq4.1)
          | (go_at_call 50; refine (HS.out _ ?_).mono ?_; assumption; rintro e w3 ⟨⟨r, rfl⟩, hq3, hk3⟩)
          )
        go_ret2
        exact ⟨by rw [hr.out]; rfl, by rw [hr.out]; exact hq3.1, hq3.2⟩
      · have hr : Hid (s.goes F k = ((false, false), s)) := by show _ = _; rw [hg.out, if_neg (by simp)]
        go_wp2_with (first
          | (go_at_call 27; refine (HB.out _ ?_).mono ?_; assumption; rintro e w4 ⟨rfl, hq4⟩; have b34 := B3.out _ hq4.1; have b74 := B7.out _ hq4.1)
          )
        go_ret2
        exact ⟨by rw [hr.out]; rfl, by rw [hr.out]; exact hq4.1, hq4.2⟩
      · have hr : Hid (s.goes F k = ((false, false), s)) := by show _ = _; rw [hg.out, if_neg (by simpa using hle)]
        go_wp2_with (first
          | (go_at_call 27; refine (HB.out _ ?_).mono ?_; assumption; rintro e w4 ⟨rfl, hq4⟩; have b34 := B3.out _ hq4.1; have b74 := B7.out _ hq4.1)
          )
        go_ret2
        exact ⟨by rw [hr.out]; rfl, by rw [hr.out]; exact hq4.1, hq4.2⟩
end
end Go.Proofs.YtpimcdkhjingjaaGreatDoor.X
