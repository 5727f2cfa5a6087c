/- A merged text (wip/mkclaim.py). -/
import Derived.Test.YtpimcdkhjingjaaGreatDoorRBPar2
set_option linter.unusedVariables false
set_option linter.unusedSimpArgs false
set_option linter.unusedSectionVars false
set_option linter.unusedVariables false
namespace Go.Proofs.YtpimcdkhjingjaaGreatDoor.Pure
open Go.RowKit Go.Proofs.YtpimcdkhjingjaaGreatDoor.PBlk Go.Proofs.YtpimcdkhjingjaaGreatDoorW.PrintWords Go.Proofs.YtpimcdkhjingjaaGreatDoor.X
def wordL (l : List UInt8) : Prop := l ≠ [] ∧ ∀ c ∈ l, 97 ≤ c.toNat ∧ c.toNat ≤ 122
theorem word_head {l : List UInt8} (h : wordL l) : ∃ c t, l = c :: t ∧ 97 ≤ c.toNat ∧ c.toNat ≤ 122 := by
  cases l with
  | nil => exact absurd rfl h.1
  | cons c t => exact ⟨c, t, rfl, h.2 c List.mem_cons_self⟩
theorem ne_of_small {c : UInt8} (h : 97 ≤ c.toNat) (b : UInt8) (hb : b.toNat < 97) : c ≠ b := fun e => by rw [e] at h; omega
theorem small_nb {c : UInt8} (h : 97 ≤ c.toNat) : blankB c = false := by
  unfold blankB
  rw [beq_eq_false_iff_ne.2 (ne_of_small h 32 (by decide)), beq_eq_false_iff_ne.2 (ne_of_small h 9 (by decide))]
  rfl
theorem fence_no (a : UInt8) (t : List UInt8) (h1 : a ≠ 96) (h2 : a ≠ 126) : F0.fence (a :: t) = (0, 0, []) := by
  show fenceL (a :: t) = _
  unfold fenceL
  have e1 : fenceAt (a :: t) 96 = false := by unfold fenceAt; rw [runB_cons_ne _ h1]; rfl
  have e2 : fenceAt (a :: t) 126 = false := by unfold fenceAt; rw [runB_cons_ne _ h2]; rfl
  rw [e1, e2, if_neg (by decide), if_neg (by decide)]
theorem head_no (a : UInt8) (t : List UInt8) (h1 : a ≠ 35) : F0.heading (a :: t) = (0, []) := by
  show headingL (a :: t) = _
  unfold headingL
  rw [runB_cons_ne _ h1]
  dsimp only
  rw [if_pos (.inl (by decide))]
theorem under_no (a : UInt8) (t : List UInt8) (h1 : a ≠ 61) (h2 : a ≠ 45) : F0.under (a :: t) = 0 := by
  show underL (a :: t) = 0
  unfold underL
  rw [runB_cons_ne _ h1, runB_cons_ne _ h2, if_neg (by omega), if_neg (by omega)]
theorem rule_no (l : List UInt8) (c : UInt8) (hc : c ∈ l) (h : 97 ≤ c.toNat) (a : UInt8) (t : List UInt8) (hl : l = a :: t) (ha : ([42, 45, 95] : List UInt8).contains a = true ∨ ([42, 45, 95] : List UInt8).contains a = false) : F0.rule l = false := by
  show ruleL l = false
  rw [hl]
  unfold ruleL
  rcases ha with ha | ha
  · have hall : (a :: t).all (fun b => ([32, 9, a] : List UInt8).contains b) = false := by
      rw [List.all_eq_false]
      refine ⟨c, by rw [← hl]; exact hc, ?_⟩
      have h1 := ne_of_small h 32 (by decide)
      have h2 := ne_of_small h 9 (by decide)
      have h3 : c ≠ a := by
        have : a = 42 ∨ a = 45 ∨ a = 95 := by simpa using ha
        rcases this with e | e | e <;> rw [e] <;> exact ne_of_small h _ (by decide)
      simp [h1, h2, h3]
    simp only [hall, Bool.and_false]
  · simp only [ha, Bool.false_and]
theorem mark_no (a : UInt8) (t : List UInt8) (h : 97 ≤ a.toNat) : F0.marker (a :: t) = (0, 0, 0) := by
  show markGo 0 0 (a :: t) = _
  unfold markGo
  have h1 : digitB a = false := by unfold digitB; rw [decide_eq_true (by omega : 48 ≤ a.toNat), decide_eq_false (by omega : ¬ a.toNat ≤ 57)]; rfl
  rw [h1, if_neg (by decide)]
  unfold markEnd
  have h2 : (markSigns 0).contains a = false := by
    unfold markSigns
    rw [if_neg (by decide)]
    simp [ne_of_small h 45 (by decide), ne_of_small h 43 (by decide), ne_of_small h 42 (by decide)]
  show (if ((markSigns 0).contains a && endsL t) = true then (0 + 1, a, 0) else (0, 0, 0)) = _
  rw [h2]
  rfl
theorem begin_word {l : List UInt8} (h : wordL l) (s : St) : s.begin F0 l = ((false, false), s) := by
  obtain ⟨c, t, rfl, h1, h2⟩ := word_head h
  unfold St.begin
  rw [if_neg (by
    intro hp
    unfold Lib.hasPrefix at hp
    rw [List.isPrefixOf] at hp
    simp at hp
    exact ne_of_small h1 62 (by decide) hp.symm), head_no _ _ (ne_of_small h1 35 (by decide)), if_neg (by exact Nat.lt_irrefl 0), fence_no _ _ (ne_of_small h1 96 (by decide)) (fun e => by rw [e] at h2; exact absurd h2 (by decide)), if_neg (by exact Nat.lt_irrefl 0), under_no _ _ (ne_of_small h1 61 (by decide)) (ne_of_small h1 45 (by decide)), if_neg (by omega),
    rule_no (c :: t) c List.mem_cons_self h1 c t rfl (by cases ([42, 45, 95] : List UInt8).contains c <;> simp), if_neg (by decide)]
  unfold St.item
  rw [if_pos (by unfold St.noItem; rw [mark_no _ _ h1]; rfl)]
structure Chain (s : St) : Prop where
  op : s.op = List.range s.bs.length
  here : s.here + 1 = s.bs.length
  kids : ∀ i, i < s.bs.length → (s.get i).kids = if i + 1 < s.bs.length then [i + 1] else []
  root : (s.get 0).kind = 1
theorem Chain.opAt {s : St} (h : Chain s) {i : Nat} (hi : i < s.bs.length) : s.opAt i = i := by
  unfold St.opAt
  rw [h.op, List.getD_eq_getElem?_getD, List.getElem?_range hi]
  rfl
theorem Chain.opk {s : St} (h : Chain s) : ∀ k ∈ s.op, k < s.bs.length := fun k hk => by rw [h.op] at hk; exact List.mem_range.1 hk
theorem Chain.now {s : St} (h : Chain s) : s.opAt s.here = s.here := h.opAt (by have := h.here; omega)
theorem fold_same (l : List Nat) : ∀ (s : St), (∀ k ∈ l, k < s.bs.length) → ∀ j, ((l.foldl St.mark s).get j).noLast = (s.get j).noLast := by
  induction l with
  | nil => intro s _ j; rfl
  | cons k l ih =>
    intro s hk j
    rw [List.foldl_cons, ih (s.mark k) (fun x hx => by
      rw [show (s.mark k).bs.length = s.bs.length from St.set_len _ _ _]
      exact hk x (List.mem_cons_of_mem _ hx)) j, St.mark_get s k j (hk k List.mem_cons_self)]
    split
    · rename_i e; rw [e]; rfl
    · rfl
theorem touch_same (s : St) (n : Nat) (ho : ∀ k ∈ s.op, k < s.bs.length) (j : Nat) : ((s.touch n).get j).noLast = (s.get j).noLast :=
  fold_same _ s (fun k hk => ho k (List.mem_of_mem_take hk)) j
theorem nl_kids {b c : Blk} (h : b.noLast = c.noLast) : b.kids = c.kids := (congrArg Blk.kids h : b.noLast.kids = c.noLast.kids)
theorem nl_kind {b c : Blk} (h : b.noLast = c.noLast) : b.kind = c.kind := (congrArg Blk.kind h : b.noLast.kind = c.noLast.kind)
theorem nl_lines {b c : Blk} (h : b.noLast = c.noLast) : b.lines = c.lines := (congrArg Blk.lines h : b.noLast.lines = c.noLast.lines)
theorem more_old (s : St) (b : Blk) {i : Nat} (h : i < s.bs.length) : (s.more b).get i = s.get i := by
  unfold St.more St.get
  rw [List.getD_eq_getElem?_getD, List.getD_eq_getElem?_getD, List.getElem?_append_left h]
theorem more_new (s : St) (b : Blk) : (s.more b).get s.bs.length = { b with first := s.at_, last := s.at_ } := by
  unfold St.more St.get
  simp
theorem chain_puts {s : St} (h : Chain s) (b : Blk) (hb : b.kids = []) (h2 : (s.get s.here).kind ≠ 2) (h7 : (s.get s.here).kind = 7 → b.kind = 8) :
    Chain (s.puts b) ∧ (s.puts b).bs.length = s.bs.length + 1 ∧ (∀ i, i < s.bs.length → ((s.puts b).get i).kind = (s.get i).kind) ∧ ((s.puts b).get s.bs.length).kind = b.kind ∧ ((s.puts b).get s.bs.length).lines = b.lines ∧ (s.puts b).cur = s.cur := by
  have hlt : s.here < s.op.length := by rw [h.op, List.length_range]; have := h.here; omega
  have hl := h.here
  have e : s.puts b = s.hung.more b := by
    rw [St.puts_eq s b h.opk hlt]
    congr 1
    unfold St.layUp2
    rw [h.now, if_neg (by
      rintro (h3 | ⟨h3, h4⟩)
      · exact h2 h3
      · exact h4 (h7 h3))]
  have hc : s.cutOpen (s.here + 1) = s := by
    unfold St.cutOpen
    have : s.op.take (s.here + 1) = s.op := List.take_of_length_le (by rw [h.op, List.length_range]; omega)
    rw [this]
  obtain ⟨p, hp⟩ : ∃ p, p = s.pushKid s.here s.bs.length := ⟨_, rfl⟩
  have hhu : s.hung = p.touch (s.here + 1) := by unfold St.hung; rw [hc, h.now, hp]
  have pl : p.bs.length = s.bs.length := by rw [hp]; exact St.set_len _ _ _
  have po : p.op = s.op := by rw [hp]; rfl
  have pk : ∀ k ∈ p.op, k < p.bs.length := by rw [po, pl]; exact h.opk
  have hul : s.hung.bs.length = s.bs.length := by rw [hhu, St.touch_len, pl]
  have huo : s.hung.op = s.op := by rw [hhu, St.touch_op, po]
  have huh : s.hung.here = s.here := by rw [hhu, St.touch_here, hp]; rfl
  have pg : ∀ i, p.get i = if i = s.here then { s.get s.here with kids := (s.get s.here).kids ++ [s.bs.length] } else s.get i := fun i => by
    rw [hp]; unfold St.pushKid; exact St.get_set s s.here i _ (by omega)
  have hug : ∀ i, (s.hung.get i).noLast = (p.get i).noLast := fun i => by rw [hhu]; exact touch_same p _ pk i
  have hk0 : (s.get s.here).kids = [] := by rw [h.kids s.here (by omega), if_neg (by omega)]
  have hml : (s.hung.more b).bs.length = s.bs.length + 1 := by unfold St.more; simp [hul]
  rw [e]
  refine ⟨⟨?_, ?_, ?_, ?_⟩, hml, ?_, ?_, ?_, ?_⟩
  · show s.hung.op ++ [s.hung.bs.length] = _
    rw [huo, hul, hml, h.op, List.range_succ]
  · show s.hung.here + 1 + 1 = _
    rw [huh, hml]; omega
  · intro i hi
    rw [hml] at hi ⊢
    by_cases hn : i < s.bs.length
    · rw [more_old _ _ (by omega), nl_kids (hug i), pg]
      by_cases e2 : i = s.here
      · rw [if_pos e2, if_pos (by omega)]
        show (s.get s.here).kids ++ [s.bs.length] = _
        rw [hk0, List.nil_append]
        congr 1
        omega
      · rw [if_neg e2, h.kids i hn, if_pos (by omega), if_pos (by omega)]
    · have e2 : i = s.hung.bs.length := by omega
      rw [e2, more_new, if_neg (by omega)]
      exact hb
  · rw [more_old _ _ (by omega), nl_kind (hug 0), pg]
    split
    · rename_i e3; show (s.get s.here).kind = 1; rw [← e3]; exact h.root
    · exact h.root
  · intro i hi
    rw [more_old _ _ (by omega), nl_kind (hug i), pg]
    split
    · rename_i e3; rw [e3]
    · rfl
  · rw [← hul, more_new]
  · rw [← hul, more_new]
  · show s.hung.cur = _
    rw [hhu, St.touch_cur, hp]; rfl
def holdK (k : Nat) : Prop := k = 1 ∨ k = 6 ∨ k = 8
def pieceL (q : Nat) : List UInt8 := if q = 0 then [62, 32] else if q = 1 then [45, 32] else [49, 46, 32]
def piecesL (qs : List Nat) : List UInt8 := qs.flatMap pieceL
def AtL (q : Cur) (l : List UInt8) : Prop := q.left = 0 ∧ q.s.drop q.at_ = l
theorem AtL.go {q : Cur} {a l : List UInt8} (h : AtL q (a ++ l)) : AtL ⟨q.s, q.at_ + a.length, q.col + a.length, 0⟩ l :=
  ⟨rfl, by show q.s.drop (q.at_ + a.length) = l; rw [← List.drop_drop, h.2, List.drop_left]⟩
theorem AtL.here {q : Cur} {c : UInt8} {l : List UInt8} (h : AtL q (c :: l)) (hc : blankB c = false) : q.here = false := by
  rw [here_drop', h.2]; exact hc
theorem AtL.word {q : Cur} {c : UInt8} {l : List UInt8} (h : AtL q (c :: l)) (hc : blankB c = false) : q.word = c :: l := by
  unfold Cur.word; rw [h.2]; exact trimLeft_cons _ hc
theorem quote_at {q : Cur} {l : List UInt8} (h : AtL q (62 :: 32 :: l)) : q.quote = ⟨q.s, q.at_ + 2, q.col + 2, 0⟩ := by
  unfold Cur.quote
  rw [indent_not (h.here (by decide)), skip_zero, take_plain 1 q [62] (32 :: l) h.1 h.2 rfl (by decide)]
  have h1 : AtL ⟨q.s, q.at_ + 1, q.col + 1, 0⟩ (32 :: l) := AtL.go (a := [62]) h
  exact skip_blanks 1 _ l rfl h1.2
theorem item_at {q : Cur} {mk l : List UInt8} {c : UInt8} (h : AtL q (mk ++ 32 :: c :: l)) (hm : ∃ a t, mk = a :: t ∧ blankB a = false) (h9 : (9 : UInt8) ∉ mk) (hc : blankB c = false) :
    q.marked mk.length = ⟨q.s, q.at_ + mk.length, q.col + mk.length, 0⟩ ∧ (⟨q.s, q.at_ + mk.length, q.col + mk.length, 0⟩ : Cur).behind = 1 ∧ (⟨q.s, q.at_ + mk.length, q.col + mk.length, 0⟩ : Cur).skip 1 = ⟨q.s, q.at_ + (mk.length + 1), q.col + (mk.length + 1), 0⟩ := by
  obtain ⟨a, t, e, ha⟩ := hm
  have h1 : AtL ⟨q.s, q.at_ + mk.length, q.col + mk.length, 0⟩ (32 :: c :: l) := AtL.go h
  have h2 : AtL ⟨q.s, q.at_ + mk.length + 1, q.col + mk.length + 1, 0⟩ (c :: l) := AtL.go (a := [32]) h1
  refine ⟨?_, ?_, ?_⟩
  · unfold Cur.marked
    rw [indent_not (by rw [e] at h; exact AtL.here (l := t ++ 32 :: c :: l) h ha), skip_zero]
    exact take_plain mk.length q mk (32 :: c :: l) h.1 h.2 rfl h9
  · unfold Cur.behind
    have hi := indent_blanks 1 (⟨q.s, q.at_ + mk.length, q.col + mk.length, 0⟩ : Cur) (c :: l) rfl h1.2
    have hi2 : (⟨q.s, q.at_ + mk.length + 1, q.col + mk.length + 1, 0⟩ : Cur).indent = 0 := indent_not (h2.here hc)
    have hb : (⟨q.s, q.at_ + mk.length, q.col + mk.length, 0⟩ : Cur).blank = false := by
      unfold Cur.blank Cur.word
      rw [h1.2]
      show (Lib.trimLeftS (List.replicate 1 32 ++ c :: l) [32, 9]).isEmpty = false
      rw [trimLeft_blanks, trimLeft_cons _ hc]
      rfl
    rw [hi, hb]
    show (if (false || decide (5 ≤ 1 + (⟨q.s, q.at_ + mk.length + 1, q.col + mk.length + 1, 0⟩ : Cur).indent)) = true then 1 else 1 + (⟨q.s, q.at_ + mk.length + 1, q.col + mk.length + 1, 0⟩ : Cur).indent) = 1
    rw [hi2]
    rfl
  · have := skip_blanks 1 (⟨q.s, q.at_ + mk.length, q.col + mk.length, 0⟩ : Cur) (c :: l) rfl h1.2
    rw [this]
    congr 1
theorem pieces_cons (q : Nat) (qs : List Nat) : piecesL (q :: qs) = pieceL q ++ piecesL qs := by unfold piecesL; rw [List.flatMap_cons]
theorem pieces_head (qs : List Nat) {a : List UInt8} (ha : wordL a) : ∃ c t, piecesL qs ++ a = c :: t ∧ blankB c = false ∧ (∃ x ∈ piecesL qs ++ a, 97 ≤ x.toNat) := by
  obtain ⟨c, t, e, h1, h2⟩ := word_head ha
  have hx : ∃ x ∈ piecesL qs ++ a, 97 ≤ x.toNat := ⟨c, List.mem_append_right _ (by rw [e]; exact List.mem_cons_self), h1⟩
  cases qs with
  | nil => exact ⟨c, t, by rw [e]; rfl, small_nb h1, hx⟩
  | cons q qs =>
    rw [pieces_cons] at hx ⊢
    unfold pieceL at hx ⊢
    split
    · exact ⟨62, _, rfl, by decide, by rename_i h0; rw [if_pos h0] at hx; exact hx⟩
    · split
      · exact ⟨45, _, rfl, by decide, by rename_i h0 h3; rw [if_neg h0, if_pos h3] at hx; exact hx⟩
      · exact ⟨49, _, rfl, by decide, by rename_i h0 h3; rw [if_neg h0, if_neg h3] at hx; exact hx⟩
structure Inner (s : St) (l : List UInt8) : Prop where
  chain : Chain s
  hold : holdK (s.get s.here).kind
  kinds : ∀ i, i < s.bs.length → (s.get i).kind = 1 ∨ (s.get i).kind = 6 ∨ (s.get i).kind = 7 ∨ (s.get i).kind = 8
  cur : AtL s.cur l
theorem puts_inner {s : St} (hch : Chain s) (hkinds : ∀ i, i < s.bs.length → (s.get i).kind = 1 ∨ (s.get i).kind = 6 ∨ (s.get i).kind = 7 ∨ (s.get i).kind = 8) (b : Blk) (hb : b.kids = []) (hk : b.kind = 6 ∨ b.kind = 7 ∨ b.kind = 8) (h7 : (s.get s.here).kind = 7 → b.kind = 8) :
    Chain (s.puts b) ∧ (∀ i, i < (s.puts b).bs.length → ((s.puts b).get i).kind = 1 ∨ ((s.puts b).get i).kind = 6 ∨ ((s.puts b).get i).kind = 7 ∨ ((s.puts b).get i).kind = 8) ∧ ((s.puts b).get (s.puts b).here).kind = b.kind ∧ (s.puts b).cur = s.cur := by
  have hl := hch.here
  obtain ⟨c1, c2, c3, c4, c5, c6⟩ := chain_puts hch b hb (by have := hkinds s.here (by omega); omega) h7
  have hh := c1.here
  refine ⟨c1, fun i hi => ?_, ?_, c6⟩
  · by_cases hn : i < s.bs.length
    · rw [c3 i hn]; exact hkinds i hn
    · have : i = s.bs.length := by omega
      rw [this, c4]; omega
  · have : (s.puts b).here = s.bs.length := by omega
    rw [this, c4]
theorem begin_piece (s : St) (q : Nat) (hq : q < 3) (qs : List Nat) (a : List UInt8) (ha : wordL a) (h : Inner s (piecesL (q :: qs) ++ a)) : ∃ t, s.begin F0 s.cur.word = ((true, false), t) ∧ Inner t (piecesL qs ++ a) ∧ t.cur.s = s.cur.s ∧ s.cur.at_ < t.cur.at_ := by
  obtain ⟨c, u, e1, hcb, hx⟩ := pieces_head qs ha
  have h2 : (s.get (s.opAt s.here)).kind ≠ 2 := by rw [h.chain.now]; have := h.hold; unfold holdK at this; omega
  have h7 : (s.get (s.opAt s.here)).kind ≠ 7 := by rw [h.chain.now]; have := h.hold; unfold holdK at this; omega
  have h7' : (s.get s.here).kind ≠ 7 := by have := h.hold; unfold holdK at this; omega
  have hcur := h.cur
  rw [pieces_cons, List.append_assoc, e1] at hcur
  have hitem : ∀ (mk : List UInt8) (sg : UInt8) (start : Nat), pieceL q = mk ++ [32] → (∃ a t, mk = a :: t ∧ blankB a = false ∧ a ≠ 62 ∧ a ≠ 35 ∧ a ≠ 96 ∧ a ≠ 126) → (9 : UInt8) ∉ mk → 0 < mk.length → F0.marker (mk ++ 32 :: c :: u) = (mk.length, sg, start) →
      ∃ t, s.begin F0 s.cur.word = ((true, false), t) ∧ Inner t (piecesL qs ++ a) ∧ t.cur.s = s.cur.s ∧ s.cur.at_ < t.cur.at_ := by
    intro mk sg start hp hm h9 hpos hmark
    obtain ⟨x, y, e2, hx1, hx2, hx3, hx4, hx5⟩ := hm
    have hc2 : AtL s.cur (mk ++ 32 :: c :: u) := by rw [hp, List.append_assoc] at hcur; exact hcur
    have hw : s.cur.word = mk ++ 32 :: c :: u := by rw [e2] at hc2 ⊢; exact hc2.word hx1
    obtain ⟨m1, m2, m3⟩ := item_at hc2 ⟨x, y, e2, hx1⟩ h9 hcb
    have hr : F0.rule (mk ++ 32 :: c :: u) = false := by
      obtain ⟨z, hz, hz2⟩ := hx
      rw [e1] at hz
      exact rule_no _ z (List.mem_append_right _ (List.mem_cons_of_mem _ hz)) hz2 x (y ++ 32 :: c :: u) (by rw [e2]; rfl) (by cases ([42, 45, 95] : List UInt8).contains x <;> simp)
    obtain ⟨p1, p2, p3, p4⟩ := puts_inner h.chain h.kinds (listB sg (dotted sg) start) rfl (.inr (.inl rfl)) (fun e => absurd e h7')
    have hat : ∀ q : Cur, Chain (St.at (s.puts (listB sg (dotted sg) start)) q) := fun q => ⟨p1.op, p1.here, p1.kids, p1.root⟩
    obtain ⟨r1, r2, r3, r4⟩ := puts_inner (hat ⟨s.cur.s, s.cur.at_ + (mk.length + 1), s.cur.col + (mk.length + 1), 0⟩) p2 (itemB (s.cur.indent + mk.length + 1)) rfl (.inr (.inr rfl)) (fun _ => rfl)
    refine ⟨((s.puts (listB sg (dotted sg) start)).at ⟨s.cur.s, s.cur.at_ + (mk.length + 1), s.cur.col + (mk.length + 1), 0⟩).puts (itemB (s.cur.indent + mk.length + 1)), ?_, ⟨r1, ?_, r2, ?_⟩, ?_, ?_⟩
    · rw [hw]
      unfold St.begin
      rw [if_neg (by
        rw [e2]
        intro hp
        unfold Lib.hasPrefix at hp
        rw [List.cons_append, List.isPrefixOf] at hp
        simp at hp
        exact hx2 hp.symm)]
      rw [show F0.heading (mk ++ 32 :: c :: u) = (0, []) by rw [e2]; exact head_no _ _ hx3, if_neg (by exact Nat.lt_irrefl 0), show F0.fence (mk ++ 32 :: c :: u) = (0, 0, []) by rw [e2]; exact fence_no _ _ hx4 hx5, if_neg (by exact Nat.lt_irrefl 0), if_neg (fun hh => h2 hh.2), hr, if_neg (by decide)]
      have hi : s.item F0 (mk ++ 32 :: c :: u) = (true, ((s.puts (listB sg (dotted sg) start)).at ⟨s.cur.s, s.cur.at_ + (mk.length + 1), s.cur.col + (mk.length + 1), 0⟩).puts (itemB (s.cur.indent + mk.length + 1))) := by
        unfold St.item
        rw [if_neg (by
          unfold St.noItem
          rw [hmark]
          have e3 : (mk.length == 0) = false := beq_eq_false_iff_ne.2 (by omega)
          have e4 : ((s.get (s.opAt s.here)).kind == 2) = false := beq_eq_false_iff_ne.2 h2
          show ¬ ((mk.length == 0) || (((s.get (s.opAt s.here)).kind == 2) && _)) = true
          rw [e3, e4]
          exact (by decide : ¬ (false = true)))]
        have hl : s.listed F0 (mk ++ 32 :: c :: u) = s.puts (listB sg (dotted sg) start) := by
          unfold St.listed
          rw [if_pos (by unfold St.newList; rw [bne_iff_ne.2 h7]; rfl), hmark]
        rw [hl, hmark]
        unfold St.itemed
        rw [p4, m1, m2, m3]
      rw [hi]
    · unfold holdK; rw [r3]; exact .inr (.inr rfl)
    · rw [r4, e1]
      have := AtL.go (a := mk ++ [32]) (by rw [List.append_assoc]; exact hc2)
      rw [List.length_append] at this
      exact this
    · rw [r4]; rfl
    · rw [r4]; show s.cur.at_ < s.cur.at_ + (mk.length + 1); omega
  rcases (by omega : q = 0 ∨ q = 1 ∨ q = 2) with rfl | rfl | rfl
  · have hc2 : AtL s.cur (62 :: 32 :: c :: u) := hcur
    have hw : s.cur.word = 62 :: 32 :: c :: u := hc2.word (by decide)
    have hat : Chain (s.at s.cur.quote) := ⟨h.chain.op, h.chain.here, h.chain.kids, h.chain.root⟩
    obtain ⟨r1, r2, r3, r4⟩ := puts_inner hat h.kinds quoteB rfl (.inl rfl) (fun e => absurd e h7')
    refine ⟨(s.at s.cur.quote).puts quoteB, ?_, ⟨r1, ?_, r2, ?_⟩, ?_, ?_⟩
    · rw [hw]; unfold St.begin; rw [if_pos (by rfl)]
    · unfold holdK; rw [r3]; exact .inr (.inl rfl)
    · rw [r4, e1]
      show AtL s.cur.quote _
      rw [quote_at hc2]
      exact AtL.go (a := [62, 32]) hc2
    · rw [r4]; show s.cur.quote.s = _; rw [quote_at hc2]
    · rw [r4]; show _ < s.cur.quote.at_; rw [quote_at hc2]; show _ < s.cur.at_ + 2; omega
  · exact hitem [45] 45 0 rfl ⟨45, [], rfl, by decide, by decide, by decide, by decide, by decide⟩ (by decide) (by decide) rfl
  · exact hitem [49, 46] 46 1 rfl ⟨49, [46], rfl, by decide, by decide, by decide, by decide, by decide⟩ (by decide) (by decide) rfl
theorem begins_pieces (a : List UInt8) (ha : wordL a) (qs : List Nat) : (∀ q ∈ qs, q < 3) → ∀ (f : Nat) (b : Bool) (s : St), Inner s (piecesL qs ++ a) → s.cur.s.length - s.cur.at_ < f → ∃ b' t, s.begins F0 f b = ((b', false), t) ∧ Inner t a := by
  induction qs with
  | nil =>
    intro _ f b s h hf
    obtain ⟨f, rfl⟩ : ∃ g, f = g + 1 := ⟨f - 1, by omega⟩
    have hcur : AtL s.cur a := h.cur
    obtain ⟨c, t, e, h1, h2⟩ := word_head ha
    have hw : s.cur.word = a := by rw [e] at hcur ⊢; exact hcur.word (small_nb h1)
    have hh : s.cur.here = false := by rw [e] at hcur; exact hcur.here (small_nb h1)
    refine ⟨b || false, s, ?_, ⟨h.chain, h.hold, h.kinds, hcur⟩⟩
    rw [St.begins, if_neg (by rw [h.chain.now]; have := h.hold; unfold holdK at this; omega), indent_not hh, if_neg (by omega), hw, begin_word ha, if_pos (.inr rfl)]
  | cons q qs ih =>
    intro hq f b s h hf
    obtain ⟨f, rfl⟩ : ∃ g, f = g + 1 := ⟨f - 1, by omega⟩
    obtain ⟨t, h1, h2, h3, h4⟩ := begin_piece s q (hq q List.mem_cons_self) qs a ha h
    have hh : s.cur.here = false := by
      obtain ⟨c, u, e1, hcb, _⟩ := pieces_head (q :: qs) ha
      have := h.cur
      rw [e1] at this
      exact this.here hcb
    rw [St.begins, if_neg (by rw [h.chain.now]; have := h.hold; unfold holdK at this; omega), indent_not hh, if_neg (by omega), h1, if_neg (by intro h; rcases h with h | h <;> cases h)]
    have hlt : s.cur.at_ < s.cur.s.length := by
      obtain ⟨c, u, e1, _, _⟩ := pieces_head (q :: qs) ha
      have := h.cur.2
      rw [e1] at this
      have hl := s.cur.len_drop
      rw [this] at hl
      simp at hl
      omega
    exact ih (fun x hx => hq x (List.mem_cons_of_mem _ hx)) f _ t h2 (by rw [h3]; omega)
structure ParaEnd (s : St) (ls : List (List UInt8)) : Prop where
  chain : Chain s
  kinds : ∀ i, i + 1 < s.bs.length → (s.get i).kind = 1 ∨ (s.get i).kind = 6 ∨ (s.get i).kind = 7 ∨ (s.get i).kind = 8
  para : (s.get s.here).kind = 2
  lines : (s.get s.here).lines = ls
theorem lazy_first (a : List UInt8) (ha : wordL a) (qs : List Nat) (hq : ∀ q ∈ qs, q < 3) : ParaEnd (St.init.eat F0 0 (piecesL qs ++ a)) [a] := by
  rw [eat_init]
  obtain ⟨y, hy⟩ : ∃ y : St, y = { St.init with at_ := 0, cur := ⟨piecesL qs ++ a, 0, 0, 0⟩ } := ⟨_, rfl⟩
  rw [← hy]
  have hin : Inner y (piecesL qs ++ a) := by
    refine ⟨⟨by rw [hy]; rfl, by rw [hy]; rfl, fun i hi => ?_, by rw [hy]; rfl⟩, by rw [hy]; exact .inl rfl, fun i hi => ?_, by rw [hy]; exact ⟨rfl, rfl⟩⟩
    · have hl : y.bs.length = 1 := by rw [hy]; rfl
      have e : i = 0 := by omega
      subst e
      rw [if_neg (by omega), hy]; rfl
    · have hl : y.bs.length = 1 := by rw [hy]; rfl
      have e : i = 0 := by omega
      subst e
      left; rw [hy]; rfl
  obtain ⟨b', t, h1, h2⟩ := begins_pieces a ha qs hq ((piecesL qs ++ a).length + 1) false y hin (by rw [hy]; show (piecesL qs ++ a).length - 0 < _; omega)
  rw [h1]
  unfold St.lineB
  rw [if_neg (show ¬ false = true by decide), if_neg (by intro h; have := h.1; simp at this)]
  have hl := h2.chain.here
  have hc : t.cutOpen (t.here + 1) = t := by
    unfold St.cutOpen
    have : t.op.take (t.here + 1) = t.op := List.take_of_length_le (by rw [h2.chain.op, List.length_range]; omega)
    rw [this]
  obtain ⟨c, u, e, hc1, hc2⟩ := word_head ha
  have hw : t.cur.word = a := by have := h2.cur; rw [e] at this ⊢; exact this.word (small_nb hc1)
  have hb : t.cur.blank = false := by unfold Cur.blank; rw [hw, e]; rfl
  show ParaEnd ((t.cutOpen (t.here + 1)).rest) [a]
  rw [hc]
  unfold St.rest
  have hk := h2.hold
  unfold holdK at hk
  rw [h2.chain.now, if_neg (by omega), hb, if_neg (by decide), if_neg (by omega), hw]
  obtain ⟨c1, c2, c3, c4, c5, c6⟩ := chain_puts h2.chain (paraB a) rfl (by omega) (fun h => by omega)
  have hh := c1.here
  have he : (t.puts (paraB a)).here = t.bs.length := by omega
  refine ⟨c1, fun i hi => ?_, by rw [he, c4]; rfl, by rw [he, c5]; rfl⟩
  rw [c3 i (by omega)]
  exact h2.kinds i (by omega)
structure Alike (s t : St) : Prop where
  len : t.bs.length = s.bs.length
  op : t.op = s.op
  get : ∀ i, (t.get i).noLast = (s.get i).noLast
theorem along_lazy {s : St} {ls : List (List UInt8)} (h : ParaEnd s ls) (b : List UInt8) (hb : wordL b) (f : Nat) : ∀ (t : St), Alike s t → t.here < s.bs.length → (∃ r, AtL t.cur (List.replicate r 32 ++ b)) → s.bs.length ≤ f + t.here →
    ∃ u, t.alongGo F0 f = (false, u) ∧ Alike s u ∧ u.here < s.bs.length ∧ ∃ r, AtL u.cur (List.replicate r 32 ++ b) := by
  induction f with
  | zero => intro t _ h1 _ h2; omega
  | succ f ih =>
    intro t ha hh hc hf
    obtain ⟨r, hr⟩ := hc
    obtain ⟨c, v, e, hc1, hc2⟩ := word_head hb
    have hol : t.op.length = s.bs.length := by rw [ha.op, h.chain.op, List.length_range]
    have hwd : t.cur.word = b := by
      unfold Cur.word
      rw [hr.2, trimLeft_blanks, e, trimLeft_cons _ (small_nb hc1)]
    have hbl : t.cur.blank = false := by unfold Cur.blank; rw [hwd, e]; rfl
    rw [St.alongGo]
    by_cases hl : t.here + 1 < t.op.length
    · rw [if_pos hl]
      have hoa : t.opAt (t.here + 1) = t.here + 1 := by
        unfold St.opAt
        rw [ha.op]
        exact h.chain.opAt (by omega)
      rw [hoa]
      have hkind := nl_kind (ha.get (t.here + 1))
      have hgo : ∀ q, (∃ r, AtL q (List.replicate r 32 ++ b)) → (t.goes F0 (t.here + 1)) = ((true, false), t.at q) → ∃ u, (if (t.goes F0 (t.here + 1)).1.2 = true then (true, ((t.goes F0 (t.here + 1)).2.touch (t.here + 2)).cutOpen (t.here + 1)) else if (t.goes F0 (t.here + 1)).1.1 = false then (false, (t.goes F0 (t.here + 1)).2) else St.alongGo F0 f (St.wentOn { (t.goes F0 (t.here + 1)).2 with here := t.here + 1 })) = (false, u) ∧ Alike s u ∧ u.here < s.bs.length ∧ ∃ r, AtL u.cur (List.replicate r 32 ++ b) := by
        intro q hq hg
        rw [hg, if_neg (by intro h; cases h), if_neg (by intro h; cases h)]
        have hal : Alike s (St.wentOn { (t.at q) with here := t.here + 1 }) ∧ (St.wentOn { (t.at q) with here := t.here + 1 }).here = t.here + 1 ∧ (St.wentOn { (t.at q) with here := t.here + 1 }).cur = q := by
          unfold St.wentOn
          split
          · refine ⟨⟨?_, ?_, fun i => ?_⟩, ?_, ?_⟩
            · rw [St.touch_len]; exact ha.len
            · rw [St.touch_op]; exact ha.op
            · rw [touch_same]
              · exact ha.get i
              · intro k hk
                have hk' : k ∈ t.op := hk
                rw [ha.op] at hk'
                show k < t.bs.length
                rw [ha.len]
                exact h.chain.opk k hk'
            · rw [St.touch_here]
            · rw [St.touch_cur]; rfl
          · exact ⟨⟨ha.len, ha.op, ha.get⟩, rfl, rfl⟩
        obtain ⟨a1, a2, a3⟩ := hal
        exact ih _ a1 (by rw [a2]; omega) (by rw [a3]; exact hq) (by rw [a2]; omega)
      have hstop : t.goes F0 (t.here + 1) = ((false, false), t) → ∃ u, (if (t.goes F0 (t.here + 1)).1.2 = true then (true, ((t.goes F0 (t.here + 1)).2.touch (t.here + 2)).cutOpen (t.here + 1)) else if (t.goes F0 (t.here + 1)).1.1 = false then (false, (t.goes F0 (t.here + 1)).2) else St.alongGo F0 f (St.wentOn { (t.goes F0 (t.here + 1)).2 with here := t.here + 1 })) = (false, u) ∧ Alike s u ∧ u.here < s.bs.length ∧ ∃ r, AtL u.cur (List.replicate r 32 ++ b) := by
        intro hg
        rw [hg, if_neg (by intro h; cases h), if_pos rfl]
        exact ⟨t, rfl, ha, hh, r, hr⟩
      by_cases hlast : t.here + 2 = s.bs.length
      · have hk2 : (t.get (t.here + 1)).kind = 2 := by
          rw [hkind]
          have e2 : t.here + 1 = s.here := by have := h.chain.here; omega
          rw [e2]
          exact h.para
        refine hgo t.cur ⟨r, hr⟩ ?_
        unfold St.goes
        rw [hk2, if_neg (by decide), if_neg (by decide), if_neg (by decide), if_neg (by decide), hbl]
        rfl
      · have hk3 := h.kinds (t.here + 1) (by omega)
        rw [← hkind] at hk3
        have hpos := t.here
        rcases hk3 with hk | hk | hk | hk
        · refine hgo t.cur ⟨r, hr⟩ ?_
          unfold St.goes
          rw [hk, if_neg (by decide), if_neg (by decide), if_neg (by decide), if_neg (by decide), hbl]
          rfl
        · refine hstop ?_
          unfold St.goes
          rw [if_pos hk, hwd, if_neg]
          intro hp
          have hp2 := hp.2
          rw [e] at hp2
          unfold Lib.hasPrefix at hp2
          rw [List.isPrefixOf] at hp2
          simp at hp2
          exact ne_of_small hc1 62 (by decide) hp2.symm
        · refine hgo t.cur ⟨r, hr⟩ ?_
          unfold St.goes
          rw [hk, if_neg (by decide), if_pos rfl]
          rfl
        · by_cases hwi : (t.get (t.here + 1)).width ≤ t.cur.indent
          · refine hgo (t.cur.skip (t.get (t.here + 1)).width) ?_ ?_
            · have hi : t.cur.indent = r := by
                rw [indent_blanks r t.cur b hr.1 hr.2]
                have h3 : AtL ⟨t.cur.s, t.cur.at_ + r, t.cur.col + r, 0⟩ b := by
                  have := AtL.go (a := List.replicate r 32) hr
                  rw [List.length_replicate] at this
                  exact this
                rw [e] at h3
                rw [indent_not (h3.here (small_nb hc1))]
                rfl
              rw [hi] at hwi
              obtain ⟨g, hg⟩ : ∃ g, r = (t.get (t.here + 1)).width + g := ⟨r - (t.get (t.here + 1)).width, by omega⟩
              refine ⟨g, ?_⟩
              have h4 : AtL t.cur (List.replicate (t.get (t.here + 1)).width 32 ++ (List.replicate g 32 ++ b)) := by
                rw [← List.append_assoc, List.replicate_append_replicate, ← hg]; exact hr
              rw [skip_blanks _ _ _ h4.1 h4.2]
              have := AtL.go h4
              rw [List.length_replicate] at this
              exact this
            · unfold St.goes
              rw [hk, if_neg (by decide), if_neg (by decide), if_pos rfl, hbl, if_pos (by rw [if_neg (by decide)]; exact hwi)]
          · refine hstop ?_
            unfold St.goes
            rw [hk, if_neg (by decide), if_neg (by decide), if_pos rfl, hbl, if_neg (by rw [if_neg (by decide)]; exact hwi)]
    · rw [if_neg hl]
      exact ⟨t, rfl, ha, hh, r, hr⟩
theorem lazy_second {s : St} {ls : List (List UInt8)} (h : ParaEnd s ls) (b : List UInt8) (hb : wordL b) (r i : Nat) : ParaEnd { s.eat F0 i (List.replicate r 32 ++ b) with here := s.here } (ls ++ [b]) ∧ (s.eat F0 i (List.replicate r 32 ++ b)).bs.length = s.bs.length := by
  have hl := h.chain.here
  have hol : s.op.length = s.bs.length := by rw [h.chain.op, List.length_range]
  obtain ⟨t, ht⟩ : ∃ t : St, t = { s with at_ := i, cur := ⟨List.replicate r 32 ++ b, 0, 0, 0⟩, here := 0 } := ⟨_, rfl⟩
  have e1 : s.eat F0 i (List.replicate r 32 ++ b) = St.lineK F0 (t.alongGo F0 s.op.length) := by rw [ht]; rfl
  obtain ⟨u, hu, ha, hh, r2, hr⟩ := along_lazy h b hb s.op.length t (by rw [ht]; exact ⟨rfl, rfl, fun _ => rfl⟩) (by rw [ht]; show 0 < _; omega) ⟨r, by rw [ht]; exact ⟨rfl, rfl⟩⟩ (by omega)
  obtain ⟨c, v, e, hc1, hc2⟩ := word_head hb
  have hwd : u.cur.word = b := by
    unfold Cur.word
    rw [hr.2, trimLeft_blanks, e, trimLeft_cons _ (small_nb hc1)]
  have hbl : u.cur.blank = false := by unfold Cur.blank; rw [hwd, e]; rfl
  have huo : u.op.length = s.bs.length := by rw [ha.op, hol]
  have hleaf : u.leafAt = s.here := by
    unfold St.leafAt St.opAt
    rw [huo, ha.op]
    have := h.chain.opAt (i := s.bs.length - 1) (by omega)
    unfold St.opAt at this
    rw [this]; omega
  have hnow : u.opAt u.here = u.here := by unfold St.opAt; rw [ha.op]; exact h.chain.opAt hh
  have hlk : (u.get u.leafAt).kind = 2 := by rw [hleaf, nl_kind (ha.get _)]; exact h.para
  have hnk : (u.get u.here).kind ≠ 5 := by
    rw [nl_kind (ha.get _)]
    by_cases hx : u.here + 1 < s.bs.length
    · have := h.kinds u.here hx; omega
    · have e2 : u.here = s.here := by omega
      rw [e2, h.para]; decide
  have hbg : ∀ f, u.begins F0 f false = ((false, false), u) := by
    intro f
    cases f with
    | zero => rfl
    | succ f =>
      rw [St.begins, hnow, if_neg hnk]
      split
      · rw [if_pos (.inl hlk)]
      · rw [hwd, begin_word hb, if_pos (.inr rfl)]; rfl
  have hres : St.lineK F0 (false, u) = (u.pushLine s.here b).touch u.op.length ∨ St.lineK F0 (false, u) = (u.pushLine s.here b).touch (s.here + 1) := by
    rw [St.lineK_eq, hbg]
    unfold St.lineB
    rw [if_neg (show ¬ false = true by decide), hbl]
    by_cases hw : u.op.length = u.here + 1
    · right
      have eh : u.here = s.here := by omega
      rw [decide_eq_true hw, if_neg (by intro h; have := h.1; simp at this)]
      have hc : u.cutOpen (u.here + 1) = u := by
        unfold St.cutOpen
        have : u.op.take (u.here + 1) = u.op := List.take_of_length_le (by omega)
        rw [this]
      show (u.cutOpen (u.here + 1)).rest = _
      rw [hc]
      unfold St.rest
      have hk2 : (u.get u.here).kind = 2 := by rw [eh, ← hleaf]; exact hlk
      rw [hnow, if_neg hnk, hbl, if_neg (by decide), if_pos hk2, hwd, eh]
    · left
      rw [decide_eq_false hw, if_pos ⟨rfl, hlk⟩, hleaf, hwd]
  have hfin : ∀ n, ParaEnd { (u.pushLine s.here b).touch n with here := s.here } (ls ++ [b]) ∧ ((u.pushLine s.here b).touch n).bs.length = s.bs.length := by
    intro n
    have hlen : ((u.pushLine s.here b).touch n).bs.length = s.bs.length := by rw [St.touch_len]; unfold St.pushLine; rw [St.set_len, ha.len]
    have hop : ((u.pushLine s.here b).touch n).op = s.op := by rw [St.touch_op]; exact ha.op
    have hg : ∀ j, (((u.pushLine s.here b).touch n).get j).noLast = (if j = s.here then ({ u.get s.here with lines := (u.get s.here).lines ++ [b] } : Blk) else u.get j).noLast := fun j => by
      rw [touch_same]
      · unfold St.pushLine
        rw [St.get_set _ _ _ _ (by rw [ha.len]; omega)]
      · intro k hk
        have hk' : k ∈ u.op := hk
        rw [ha.op] at hk'
        unfold St.pushLine
        rw [St.set_len, ha.len]
        exact h.chain.opk k hk'
    have hkd : ∀ j, (((u.pushLine s.here b).touch n).get j).kind = (s.get j).kind := fun j => by
      rw [nl_kind (hg j)]
      split
      · rename_i e2; rw [e2]; exact (nl_kind (ha.get s.here) : (u.get s.here).kind = (s.get s.here).kind)
      · exact nl_kind (ha.get _)
    have hki : ∀ j, (((u.pushLine s.here b).touch n).get j).kids = (s.get j).kids := fun j => by
      rw [nl_kids (hg j)]
      split
      · rename_i e2; rw [e2]; exact (nl_kids (ha.get s.here) : (u.get s.here).kids = (s.get s.here).kids)
      · exact nl_kids (ha.get _)
    refine ⟨⟨⟨?_, ?_, ?_, ?_⟩, ?_, ?_, ?_⟩, hlen⟩
    · show ((u.pushLine s.here b).touch n).op = List.range ((u.pushLine s.here b).touch n).bs.length
      rw [hop, hlen]; exact h.chain.op
    · show s.here + 1 = ((u.pushLine s.here b).touch n).bs.length
      rw [hlen]; exact hl
    · intro j hj
      have hj' : j < ((u.pushLine s.here b).touch n).bs.length := hj
      show (((u.pushLine s.here b).touch n).get j).kids = if j + 1 < ((u.pushLine s.here b).touch n).bs.length then [j + 1] else []
      rw [hlen] at hj' ⊢
      rw [hki j]; exact h.chain.kids j hj'
    · exact (hkd 0).trans h.chain.root
    · intro j hj
      have hj' : j + 1 < ((u.pushLine s.here b).touch n).bs.length := hj
      rw [hlen] at hj'
      show (((u.pushLine s.here b).touch n).get j).kind = 1 ∨ (((u.pushLine s.here b).touch n).get j).kind = 6 ∨ (((u.pushLine s.here b).touch n).get j).kind = 7 ∨ (((u.pushLine s.here b).touch n).get j).kind = 8
      rw [hkd j]; exact h.kinds j hj'
    · exact (hkd s.here).trans h.para
    · show (((u.pushLine s.here b).touch n).get s.here).lines = _
      rw [nl_lines (hg s.here), if_pos rfl]
      show (u.get s.here).lines ++ [b] = _
      rw [nl_lines (ha.get _), h.lines]
  rw [e1, hu]
  rcases hres with hres | hres <;> rw [hres] <;> exact hfin _
theorem lazy_parse (a b : List UInt8) (ha : wordL a) (hb : wordL b) (qs : List Nat) (hq : ∀ q ∈ qs, q < 3) (r : Nat) : ∃ s, ParaEnd s [a, b] ∧ parseT F0 [piecesL qs ++ a, List.replicate r 32 ++ b] = s.tree s.bs.length 0 := by
  have h1 := lazy_first a ha qs hq
  obtain ⟨h2, h3⟩ := lazy_second h1 b hb r 1
  obtain ⟨u, hu⟩ : ∃ u, u = (St.init.eat F0 0 (piecesL qs ++ a)).eat F0 1 (List.replicate r 32 ++ b) := ⟨_, rfl⟩
  have e : parseS F0 [piecesL qs ++ a, List.replicate r 32 ++ b] = u := by rw [hu]; rfl
  rw [← hu] at h2
  refine ⟨_, h2, ?_⟩
  unfold parseT
  rw [e]
  exact tree_bs (s := u) (t := { u with here := (St.init.eat F0 0 (piecesL qs ++ a)).here }) rfl _ 0
end Go.Proofs.YtpimcdkhjingjaaGreatDoor.Pure
