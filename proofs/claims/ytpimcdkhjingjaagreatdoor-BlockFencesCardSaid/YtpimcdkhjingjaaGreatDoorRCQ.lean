/- A merged text (wip/mkclaim.py). -/
import Derived.Test.YtpimcdkhjingjaaGreatDoorRCP
set_option linter.unusedVariables false
set_option linter.unusedSimpArgs false
set_option linter.unusedSectionVars false
set_option linter.unusedVariables false
set_option linter.unusedSimpArgs false
set_option linter.unusedSectionVars false
namespace Go.Proofs.YtpimcdkhjingjaaGreatDoor.X
open Go.RowKit Go.Proofs.YtpimcdkhjingjaaGreatDoorW.PrintWords Go.Proofs.YtpimcdkhjingjaaGreatDoor.PBlk
structure CR (q p : Cur) : Prop where
  drop : p.s.drop p.at_ = q.s.drop q.at_
  left : p.left = q.left
  col : p.col % 4 = q.col % 4 ∨ q.left = 0 ∧ (9 : UInt8) ∉ q.s.drop q.at_
namespace Cur
theorem len_drop (q : Cur) : (q.s.drop q.at_).length = q.s.length - q.at_ := List.length_drop
theorem drop_steps (q : Cur) : q.steps.s.drop q.steps.at_ = (q.s.drop q.at_).tail := by
  show q.s.drop (q.at_ + 1) = _
  rw [← List.drop_one, List.drop_drop]
theorem byte_drop (q : Cur) : q.byte = (q.s.drop q.at_).getD 0 0 := by
  unfold byte
  rw [List.getD_eq_getElem?_getD, List.getD_eq_getElem?_getD, List.getElem?_drop, Nat.add_zero]
end Cur
namespace CR
variable {q p : Cur}
theorem refl (q : Cur) : CR q q := ⟨rfl, rfl, .inl rfl⟩
theorem len (h : CR q p) : p.s.length - p.at_ = q.s.length - q.at_ := by
  rw [← Cur.len_drop, ← Cur.len_drop, h.drop]
theorem byte (h : CR q p) : p.byte = q.byte := by rw [Cur.byte_drop, Cur.byte_drop, h.drop]
theorem here (h : CR q p) : p.here = q.here := by
  unfold Cur.here
  rw [h.byte]
  have := h.len
  congr 1
  exact decide_eq_decide.2 (by omega)
theorem word (h : CR q p) : p.word = q.word := by unfold Cur.word; rw [h.drop]
theorem blank (h : CR q p) : p.blank = q.blank := by unfold Cur.blank; rw [h.word]
theorem wide (h : CR q p) (hl : q.here = true) : p.wide = q.wide := by
  unfold Cur.wide
  rw [h.left, h.byte]
  by_cases h0 : 0 < q.left
  · rw [if_pos h0, if_pos h0]
  · rw [if_neg h0, if_neg h0]
    rcases h.col with h1 | ⟨_, h1⟩
    · rw [h1]
    · have : q.byte ≠ 9 := by
        intro e
        apply h1
        rw [Cur.byte_drop] at e
        unfold Cur.here at hl
        rw [Bool.and_eq_true, decide_eq_true_eq] at hl
        have hlen := q.len_drop
        cases hd : q.s.drop q.at_ with
        | nil => rw [hd] at hlen; simp at hlen; omega
        | cons b t => rw [hd] at e; rw [← e]; exact List.mem_cons_self
      rw [if_neg this, if_neg this]
theorem steps' (h : CR q p) (hw : p.wide = q.wide) : CR q.steps p.steps := by
  refine ⟨?_, rfl, ?_⟩
  · rw [Cur.drop_steps, Cur.drop_steps, h.drop]
  · rcases h.col with h1 | ⟨_, h1⟩
    · left
      show (p.col + p.wide) % 4 = (q.col + q.wide) % 4
      omega
    · right
      refine ⟨rfl, fun hm => h1 ?_⟩
      rw [Cur.drop_steps] at hm
      exact List.mem_of_mem_tail hm
theorem steps (h : CR q p) (hl : q.here = true) : CR q.steps p.steps := h.steps' (h.wide hl)
theorem skipAll (n : Nat) : ∀ {q p : Cur}, CR q p → ∃ d, (Cur.skipAll n q).col = q.col + d ∧ (Cur.skipAll n p).col = p.col + d := by
  induction n with
  | zero => intro q p _; exact ⟨0, rfl, rfl⟩
  | succ n ih =>
    intro q p h
    unfold Cur.skipAll
    rw [h.here]
    by_cases hh : q.here = true
    · rw [if_pos hh, if_pos hh]
      obtain ⟨d, h1, h2⟩ := ih (h.steps hh)
      refine ⟨q.wide + d, ?_, ?_⟩
      · rw [h1]; show q.col + q.wide + d = _; omega
      · rw [h2, ← h.wide hh]; show p.col + p.wide + d = _; omega
    · rw [if_neg hh, if_neg hh]; exact ⟨0, rfl, rfl⟩
theorem indent (h : CR q p) : p.indent = q.indent := by
  unfold Cur.indent
  rw [h.len]
  obtain ⟨d, h1, h2⟩ := h.skipAll (q.s.length - q.at_)
  rw [h1, h2]
  omega
theorem skipGo (f : Nat) : ∀ {n : Nat} {q p : Cur}, CR q p → CR (Cur.skipGo f n q) (Cur.skipGo f n p) := by
  induction f with
  | zero => intro n q p h; exact h
  | succ f ih =>
    intro n q p h
    unfold Cur.skipGo
    rw [h.here]
    by_cases hc : (decide (0 < n) && q.here) = true
    · rw [if_pos hc, if_pos hc]
      rw [Bool.and_eq_true] at hc
      rw [h.wide hc.2]
      by_cases hw : n < q.wide
      · rw [if_pos hw, if_pos hw]
        refine ⟨h.drop, rfl, ?_⟩
        rcases h.col with h1 | ⟨h0, h1⟩
        · left; show (p.col + n) % 4 = (q.col + n) % 4; omega
        · exfalso
          have h0n := of_decide_eq_true hc.1
          have : q.wide = 1 := by
            unfold Cur.wide
            rw [if_neg (by omega), if_neg]
            intro e
            have hh := hc.2
            unfold Cur.here at hh
            rw [Bool.and_eq_true, decide_eq_true_eq] at hh
            have hlen := q.len_drop
            rw [Cur.byte_drop] at e
            cases hd : q.s.drop q.at_ with
            | nil => rw [hd] at hlen; simp at hlen; omega
            | cons b t => rw [hd] at e; apply h1; rw [hd, ← e]; exact List.mem_cons_self
          omega
      · rw [if_neg hw, if_neg hw]
        exact ih (h.steps hc.2)
    · rw [if_neg hc, if_neg hc]; exact h
theorem skip (h : CR q p) (n : Nat) : CR (q.skip n) (p.skip n) := by
  unfold Cur.skip
  rw [h.len]
  exact skipGo _ h
theorem take (n : Nat) : ∀ {q p : Cur}, CR q p → (∀ i, i < n → q.s.length ≤ q.at_ + i ∨ (q.s.drop q.at_).getD i 0 ≠ 9 ∨ p.col % 4 = q.col % 4) → CR (Cur.take n q) (Cur.take n p) := by
  induction n with
  | zero => intro q p h _; exact h
  | succ n ih =>
    intro q p h hn
    unfold Cur.take
    have hlen := h.len
    by_cases hl : q.at_ < q.s.length
    · rw [if_pos hl, if_pos (by omega)]
      have hw : p.wide = q.wide := by
        unfold Cur.wide
        rw [h.left, h.byte]
        by_cases h0 : 0 < q.left
        · rw [if_pos h0, if_pos h0]
        · rw [if_neg h0, if_neg h0]
          rcases hn 0 (Nat.succ_pos _) with h1 | h1 | h1
          · omega
          · rw [← Cur.byte_drop] at h1
            rw [if_neg h1, if_neg h1]
          · rw [h1]
      refine ih (h.steps' hw) fun i hi => ?_
      rcases hn (i + 1) (by omega) with h1 | h1 | h1
      · left; show q.s.length ≤ q.at_ + 1 + i; omega
      · right; left
        rw [Cur.drop_steps]
        cases hd : q.s.drop q.at_ with
        | nil => simp
        | cons b t => rw [hd] at h1; simpa using h1
      · right; right
        show (p.col + p.wide) % 4 = (q.col + q.wide) % 4
        omega
    · rw [if_neg hl, if_neg (by omega)]; exact h
theorem take_any (h : CR q p) (n : Nat) : CR (Cur.take n q) (Cur.take n p) := by
  refine take n h fun i _ => ?_
  rcases h.col with h1 | ⟨_, h1⟩
  · exact .inr (.inr h1)
  · by_cases hl : q.at_ + i < q.s.length
    · right; left
      intro e
      apply h1
      rw [← e, List.getD_eq_getElem?_getD, List.getElem?_eq_getElem (by rw [Cur.len_drop]; omega)]
      exact List.getElem_mem _
    · left; omega
theorem rest (h : CR q p) : p.rest = q.rest := by
  unfold Cur.rest
  rw [h.left, h.drop]
  have : p.s.drop (p.at_ + 1) = q.s.drop (q.at_ + 1) := by
    have h1 := p.drop_steps
    have h2 := q.drop_steps
    rw [h.drop, ← h2] at h1
    exact h1
  rw [this]
theorem quote (h : CR q p) : CR q.quote p.quote := by
  unfold Cur.quote
  rw [h.indent]
  exact ((h.skip _).take_any _).skip _
theorem marked (h : CR q p) (n : Nat) : CR (q.marked n) (p.marked n) := by
  unfold Cur.marked
  rw [h.indent]
  exact (h.skip _).take_any _
theorem behind (h : CR q p) : p.behind = q.behind := by unfold Cur.behind; rw [h.blank, h.indent]
end CR
theorem St.mark_born (s : St) (b : Blk) (k : Nat) (hk : k < s.bs.length) : (s.born b).mark k = (s.mark k).born b := by
  unfold St.mark St.born St.set St.get
  simp only [St.mk.injEq, and_true]
  rw [List.set_append_left _ _ hk, List.getD_eq_getElem?_getD, List.getD_eq_getElem?_getD, List.getElem?_append_left hk]
theorem St.fold_born (b : Blk) (l : List Nat) : ∀ (s : St), (∀ k ∈ l, k < s.bs.length) → l.foldl St.mark (s.born b) = (l.foldl St.mark s).born b := by
  induction l with
  | nil => intro s _; rfl
  | cons k t ih =>
    intro s h
    rw [List.foldl_cons, List.foldl_cons, St.mark_born s b k (h k List.mem_cons_self)]
    exact ih _ fun j hj => by
      rw [show (s.mark k).bs.length = s.bs.length from St.set_len _ _ _]
      exact h j (List.mem_cons_of_mem _ hj)
def St.layUp2 (s : St) (b : Blk) : St := if (s.get (s.opAt s.here)).kind = 2 ∨ (s.get (s.opAt s.here)).kind = 7 ∧ b.kind ≠ 8 then { s with here := s.here - 1 } else s
def St.hung (s : St) : St := ((s.cutOpen (s.here + 1)).pushKid (s.opAt s.here) s.bs.length).touch (s.here + 1)
def St.more (s : St) (b : Blk) : St := { s with bs := s.bs ++ [{ b with first := s.at_, last := s.at_ }], op := s.op ++ [s.bs.length], here := s.here + 1 }
theorem St.get_born (s : St) (b : Blk) : (s.born b).get s.bs.length = b := by
  unfold St.get St.born
  simp
theorem St.get_born' (s : St) (b : Blk) {i : Nat} (h : i < s.bs.length) : (s.born b).get i = s.get i := by
  unfold St.get St.born
  rw [List.getD_eq_getElem?_getD, List.getD_eq_getElem?_getD, List.getElem?_append_left h]
theorem St.opAt_mem {s : St} {i : Nat} (h : i < s.op.length) : s.opAt i ∈ s.op := by
  unfold St.opAt
  rw [List.getD_eq_getElem?_getD, List.getElem?_eq_getElem h]
  exact List.getElem_mem _
theorem St.puts_eq (s : St) (b : Blk) (ho : ∀ k ∈ s.op, k < s.bs.length) (hh : s.here < s.op.length) : s.puts b = ((s.layUp2 b).hung).more b := by
  have hu : (s.born b).layUp s.bs.length = ((s.layUp2 b).born b) := by
    unfold St.layUp St.layUp2
    rw [St.get_born]
    have hop : (s.born b).get ((s.born b).opAt (s.born b).here) = s.get (s.opAt s.here) := St.get_born' s b (ho _ (St.opAt_mem hh))
    rw [hop]
    split <;> rfl
  obtain ⟨u, hu2⟩ : ∃ u, u = s.layUp2 b := ⟨_, rfl⟩
  have h1 : u.bs = s.bs := by rw [hu2]; unfold St.layUp2; split <;> rfl
  have h2 : u.op = s.op := by rw [hu2]; unfold St.layUp2; split <;> rfl
  have h3 : u.here < u.op.length := by rw [h2, hu2]; unfold St.layUp2; split; exact Nat.lt_of_le_of_lt (Nat.sub_le _ _) hh; exact hh
  unfold St.puts St.lays
  rw [hu, ← hu2, ← h1]
  rw [← h2, ← h1] at ho
  clear hu hu2 hh h1 h2 s
  obtain ⟨k, hk⟩ : ∃ k, k = u.opAt u.here := ⟨_, rfl⟩
  have hk2 : k < u.bs.length := by rw [hk]; exact ho _ (St.opAt_mem h3)
  have e1 : (u.born b).layTop u.bs.length = (u.cutOpen (u.here + 1)).born { b with first := u.at_ } := by
    unfold St.layTop
    show ((u.born b).cutOpen (u.here + 1)).set u.bs.length { (u.born b).get u.bs.length with first := u.at_ } = _
    rw [St.get_born]
    unfold St.cutOpen St.born St.set
    simp
  have e2 : (u.cutOpen (u.here + 1)).opAt u.here = k := by
    rw [hk]
    unfold St.opAt St.cutOpen
    simp only [List.getD_eq_getElem?_getD]
    rw [List.getElem?_take_of_lt (by omega)]
  rw [e1]
  obtain ⟨c, hc⟩ : ∃ c, c = u.cutOpen (u.here + 1) := ⟨_, rfl⟩
  have c1 : c.bs = u.bs := by rw [hc]; rfl
  have c2 : c.op = u.op.take (u.here + 1) := by rw [hc]; rfl
  have c3 : c.here = u.here := by rw [hc]; rfl
  have c4 : c.at_ = u.at_ := by rw [hc]; rfl
  have e3 : (c.born { b with first := u.at_ }).layIn u.bs.length = { (c.pushKid k u.bs.length).born { b with first := u.at_ } with op := c.op ++ [u.bs.length] } := by
    unfold St.layIn
    have : (c.born { b with first := u.at_ }).opAt (c.born { b with first := u.at_ }).here = k := by
      show c.opAt c.here = k
      rw [hc]; exact e2
    rw [this]
    unfold St.pushKid St.pushOpen
    rw [St.get_born' _ _ (by rw [c1]; exact hk2)]
    unfold St.set St.born
    simp only [St.mk.injEq, and_true]
    rw [List.set_append_left _ _ (by rw [c1]; exact hk2)]
  rw [← hc, e3]
  unfold St.layEnd St.hung
  rw [← hc, ← hk]
  obtain ⟨d, hd⟩ : ∃ d, d = c.pushKid k u.bs.length := ⟨_, rfl⟩
  have d1 : d.bs.length = u.bs.length := by rw [hd]; unfold St.pushKid; rw [St.set_len, c1]
  have d2 : d.op = c.op := by rw [hd]; rfl
  have d3 : d.here = u.here := by rw [hd]; exact c3
  have d4 : d.at_ = u.at_ := by rw [hd]; exact c4
  have d5 : d.cur = c.cur := by rw [hd]; rfl
  rw [← hd]
  unfold St.touch
  show ((c.op ++ [u.bs.length]).take (c.op ++ [u.bs.length]).length).foldl St.mark _ = _
  rw [List.take_length, List.foldl_append, d2, c2, List.take_take, Nat.min_self]
  show List.foldl St.mark (((u.op.take (u.here + 1)).foldl St.mark ⟨(d.bs ++ [{ b with first := u.at_ }]), u.op.take (u.here + 1) ++ [u.bs.length], d.here + 1, d.at_, d.cur⟩)) [u.bs.length] = _
  have hop : ∀ k ∈ u.op.take (u.here + 1), k < u.bs.length := fun k hk => ho k (List.mem_of_mem_take hk)
  have e4 : (⟨(d.bs ++ [{ b with first := u.at_ }]), u.op.take (u.here + 1) ++ [u.bs.length], d.here + 1, d.at_, d.cur⟩ : St) = St.born ⟨d.bs, u.op.take (u.here + 1) ++ [u.bs.length], d.here + 1, d.at_, d.cur⟩ { b with first := u.at_ } := rfl
  rw [e4, St.fold_born _ _ _ (by intro k hk; show k < d.bs.length; rw [d1]; exact hop k hk)]
  obtain ⟨x, hx⟩ : ∃ x, x = (u.op.take (u.here + 1)).foldl St.mark ⟨d.bs, u.op.take (u.here + 1) ++ [u.bs.length], d.here + 1, d.at_, d.cur⟩ := ⟨_, rfl⟩
  have hgen : ∀ (l : List Nat) (bs : List Blk) (o o2 : List Nat) (h h2 a : Nat) (q : Cur), (l.foldl St.mark ⟨bs, o, h, a, q⟩).bs = (l.foldl St.mark ⟨bs, o2, h2, a, q⟩).bs := by
    intro l
    induction l with
    | nil => intros; rfl
    | cons k t ih => intro bs o o2 h h2 a q; rw [List.foldl_cons, List.foldl_cons]; exact ih _ _ _ _ _ _ _
  obtain ⟨x1, x2, x3, x4, x5⟩ := St.mark_fold (u.op.take (u.here + 1)) ⟨d.bs, u.op.take (u.here + 1) ++ [u.bs.length], d.here + 1, d.at_, d.cur⟩
  obtain ⟨y1, y2, y3, y4, y5⟩ := St.mark_fold (u.op.take (u.here + 1)) d
  have hb := hgen (u.op.take (u.here + 1)) d.bs (u.op.take (u.here + 1) ++ [u.bs.length]) d.op (d.here + 1) d.here d.at_ d.cur
  rw [← hx] at x1 x2 x3 x4 x5 hb ⊢
  obtain ⟨y, hy⟩ : ∃ y, y = (u.op.take (u.here + 1)).foldl St.mark d := ⟨_, rfl⟩
  have hb' : x.bs = y.bs := by rw [hy]; exact hb
  rw [← hy] at y1 y2 y3 y4 y5 ⊢
  have x5' : x.bs.length = u.bs.length := x5.trans d1
  rw [List.foldl_cons, List.foldl_nil]
  have hgl : (x.born { b with first := u.at_ }).mark u.bs.length = x.born { b with first := u.at_, last := x.at_ } := by
    unfold St.mark
    rw [← x5', St.get_born]
    unfold St.born St.set
    simp
  rw [hgl]
  unfold St.more
  show (⟨x.bs ++ _, x.op, x.here, x.at_, x.cur⟩ : St) = _
  rw [x1, x2, x3, x4, y2, y1, y3, y4, ← hb', x5', d2, c2, d4]
structure Cfg where
  kr : Nat
  wr : Nat
  r : Nat
  d : Nat
  pre : List Nat
  kp : List Nat
  dl : Nat
def Cfg.f (c : Cfg) (i : Nat) : Nat := if i = 0 then c.r else i + c.d
structure Cfg.Ok (c : Cfg) : Prop where
  rd : c.r ≤ c.d
  pre : ∀ k ∈ c.pre, k ≤ c.d ∧ k ≠ c.r
  kr : c.kr ≠ 2 ∧ c.kr ≠ 5 ∧ c.kr ≠ 7
def Blk.mv (c : Cfg) (b : Blk) : Blk := { b with first := b.first + c.dl, last := b.last + c.dl, kids := b.kids.map c.f }
def Blk.noLast (b : Blk) : Blk := { b with last := 0 }
structure Sim (c : Cfg) (o : Nat → Blk) (s t : St) : Prop where
  ok : c.Ok
  len : t.bs.length = s.bs.length + c.d
  pos : 0 < s.bs.length
  op : t.op = c.pre ++ s.op.map c.f
  here : t.here = s.here + c.pre.length
  lt : s.here < s.op.length
  at_ : t.at_ = s.at_ + c.dl
  cur : CR s.cur t.cur
  blk : ∀ i, 0 < i → i < s.bs.length → t.get (i + c.d) = (s.get i).mv c
  kids : (t.get c.r).kids = c.kp ++ (s.get 0).kids.map c.f
  root : (s.get 0).kind = 1
  root' : (t.get c.r).kind = c.kr ∧ (t.get c.r).width = c.wr
  out : ∀ j, j ≤ c.d → j ≠ c.r → (t.get j).noLast = (o j).noLast
  opk : ∀ k ∈ s.op, k < s.bs.length
  op0 : s.opAt 0 = 0
  opt : ∀ i, 0 < i → i < s.op.length → 0 < s.opAt i
  kid0 : 1 < s.bs.length → (s.get 0).kids ≠ []
  last0 : 1 < s.op.length → (s.get 0).kids.getLast? = some (s.opAt 1)
namespace Sim
variable {c : Cfg} {o : Nat → Blk} {s t : St}
theorem _root_.Go.Proofs.YtpimcdkhjingjaaGreatDoor.X.Cfg.f_pos (c : Cfg) {i : Nat} (h : 0 < i) : c.f i = i + c.d := if_neg (by omega)
theorem _root_.Go.Proofs.YtpimcdkhjingjaaGreatDoor.X.Cfg.f_zero (c : Cfg) : c.f 0 = c.r := if_pos rfl
theorem f_lt (h : Sim c o s t) {i : Nat} (hi : i < s.bs.length) : c.f i < t.bs.length := by
  rw [h.len]
  unfold Cfg.f
  have := h.ok.rd
  split <;> omega
theorem opLen (h : Sim c o s t) : t.op.length = s.op.length + c.pre.length := by rw [h.op]; simp; omega
theorem opAt (h : Sim c o s t) {i : Nat} (hi : i < s.op.length) : t.opAt (i + c.pre.length) = c.f (s.opAt i) := by
  unfold St.opAt
  rw [h.op, List.getD_eq_getElem?_getD, List.getD_eq_getElem?_getD, List.getElem?_append_right (by omega), Nat.add_sub_cancel, List.getElem?_map, List.getElem?_eq_getElem hi]
  rfl
theorem now (h : Sim c o s t) : t.opAt t.here = c.f (s.opAt s.here) := by rw [h.here]; exact h.opAt h.lt
theorem opAt_lt (h : Sim c o s t) {i : Nat} (hi : i < s.op.length) : s.opAt i < s.bs.length := h.opk _ (St.opAt_mem hi)
theorem get (h : Sim c o s t) {i : Nat} (h0 : 0 < i) (hi : i < s.bs.length) : t.get (c.f i) = (s.get i).mv c := by rw [c.f_pos h0]; exact h.blk i h0 hi
theorem kinds (h : Sim c o s t) {i : Nat} (hi : i < s.bs.length) (k : Nat) (hk : k = 2 ∨ k = 5 ∨ k = 7) : (t.get (c.f i)).kind = k ↔ (s.get i).kind = k := by
  rcases Nat.eq_zero_or_pos i with rfl | h0
  · rw [c.f_zero]
    have h1 := h.root
    have h2 := h.root'.1
    have h3 := h.ok.kr
    constructor <;> intro e <;> omega
  · rw [h.get h0 hi]; exact Iff.rfl
theorem nowKind (h : Sim c o s t) (k : Nat) (hk : k = 2 ∨ k = 5 ∨ k = 7) : (t.get (t.opAt t.here)).kind = k ↔ (s.get (s.opAt s.here)).kind = k := by
  rw [h.now]; exact h.kinds (h.opAt_lt h.lt) k hk
theorem pos_of {h : Sim c o s t} {i k : Nat} (e : (s.get i).kind = k) (hk : k = 2 ∨ k = 5 ∨ k = 7) : 0 < i := by
  rcases Nat.eq_zero_or_pos i with rfl | h0
  · have h1 := h.root
    omega
  · exact h0
theorem set (h : Sim c o s t) {i : Nat} (h0 : 0 < i) (hi : i < s.bs.length) (b : Blk) : Sim c o (s.set i b) (t.set (c.f i) (b.mv c)) where
  ok := h.ok
  len := by rw [St.set_len, St.set_len]; exact h.len
  pos := by rw [St.set_len]; exact h.pos
  op := h.op
  here := h.here
  lt := h.lt
  at_ := h.at_
  cur := h.cur
  blk j hj hjl := by
    rw [St.set_len] at hjl
    rw [St.get_set _ _ _ _ (h.f_lt hi), St.get_set _ _ _ _ hi, c.f_pos h0]
    by_cases e : j = i
    · subst e; rw [if_pos rfl, if_pos rfl]
    · rw [if_neg e, if_neg (by omega)]; exact h.blk j hj hjl
  kids := by
    have := h.ok.rd
    rw [St.get_set _ _ _ _ (h.f_lt hi), St.get_set _ _ _ _ hi, c.f_pos h0, if_neg (by omega), if_neg (by omega)]
    exact h.kids
  root := by rw [St.get_set _ _ _ _ hi, if_neg (by omega)]; exact h.root
  root' := by
    have := h.ok.rd
    rw [St.get_set _ _ _ _ (h.f_lt hi), c.f_pos h0, if_neg (by omega)]; exact h.root'
  out j hj hjr := by rw [St.get_set _ _ _ _ (h.f_lt hi), c.f_pos h0, if_neg (by omega)]; exact h.out j hj hjr
  opk k hk := by rw [St.set_len]; exact h.opk k hk
  op0 := h.op0
  opt := h.opt
  kid0 hl := by rw [St.set_len] at hl; rw [St.get_set _ _ _ _ hi, if_neg (by omega)]; exact h.kid0 hl
  last0 hl := by rw [St.get_set _ _ _ _ hi, if_neg (by omega)]; exact h.last0 hl
theorem setR (h : Sim c o s t) (b b' : Blk) (hk : b.kind = 1) (hk' : b'.kind = c.kr ∧ b'.width = c.wr) (hk0 : 1 < s.bs.length → b.kids ≠ []) (hl0 : 1 < s.op.length → b.kids.getLast? = some (s.opAt 1)) (e : b'.kids = c.kp ++ b.kids.map c.f) : Sim c o (s.set 0 b) (t.set c.r b') where
  ok := h.ok
  len := by rw [St.set_len, St.set_len]; exact h.len
  pos := by rw [St.set_len]; exact h.pos
  op := h.op
  here := h.here
  lt := h.lt
  at_ := h.at_
  cur := h.cur
  blk j hj hjl := by
    rw [St.set_len] at hjl
    have := h.ok.rd
    have hl := h.len
    rw [St.get_set _ _ _ _ (by omega), St.get_set _ _ _ _ h.pos, if_neg (by omega), if_neg (by omega)]
    exact h.blk j hj hjl
  kids := by
    have := h.ok.rd
    have hl := h.len
    have hp := h.pos
    rw [St.get_set _ _ _ _ (by omega), St.get_set _ _ _ _ hp, if_pos rfl, if_pos rfl]
    exact e
  root := by rw [St.get_set _ _ _ _ h.pos, if_pos rfl]; exact hk
  root' := by
    have := h.ok.rd
    have hl := h.len
    have hp := h.pos
    rw [St.get_set _ _ _ _ (by omega), if_pos rfl]; exact hk'
  out j hj hjr := by
    have := h.ok.rd
    have hl := h.len
    have hp := h.pos
    rw [St.get_set _ _ _ _ (by omega), if_neg hjr]; exact h.out j hj hjr
  opk k hk := by rw [St.set_len]; exact h.opk k hk
  op0 := h.op0
  opt := h.opt
  kid0 hl := by rw [St.set_len] at hl; rw [St.get_set _ _ _ _ h.pos, if_pos rfl]; exact hk0 hl
  last0 hl := by rw [St.get_set _ _ _ _ h.pos, if_pos rfl]; exact hl0 hl
theorem markO (h : Sim c o s t) {j : Nat} (hj : j ≤ c.d) (hjr : j ≠ c.r) : Sim c o s (t.mark j) := by
  have hr := h.ok.rd
  have hl := h.len
  have hp := h.pos
  have hg : ∀ i, (t.mark j).get i = if i = j then { t.get j with last := t.at_ } else t.get i := fun i => St.mark_get t j i (by omega)
  exact {
    ok := h.ok
    len := by unfold St.mark; rw [St.set_len]; exact h.len
    pos := h.pos
    op := h.op
    here := h.here
    lt := h.lt
    at_ := h.at_
    cur := h.cur
    blk := fun i hi hil => by rw [hg, if_neg (by omega)]; exact h.blk i hi hil
    kids := by rw [hg, if_neg (by omega)]; exact h.kids
    root := h.root
    root' := by rw [hg, if_neg (by omega)]; exact h.root'
    out := fun i hi hir => by
      rw [hg]
      split
      · rename_i e; subst e; exact h.out i hi hir
      · exact h.out i hi hir
    opk := h.opk
    op0 := h.op0
    opt := h.opt
    kid0 := h.kid0
    last0 := h.last0 }
theorem mark (h : Sim c o s t) {k : Nat} (hk : k < s.bs.length) : Sim c o (s.mark k) (t.mark (c.f k)) := by
  rcases Nat.eq_zero_or_pos k with rfl | h0
  · unfold St.mark
    rw [c.f_zero]
    exact h.setR _ _ h.root h.root' h.kid0 h.last0 h.kids
  · have e : t.mark (c.f k) = t.set (c.f k) (Blk.mv c { s.get k with last := s.at_ }) := by
      unfold St.mark
      rw [h.get h0 hk, h.at_]
      rfl
    rw [e]
    exact h.set h0 hk _
theorem fold (l : List Nat) : ∀ {s t : St}, Sim c o s t → (∀ k ∈ l, k < s.bs.length) → Sim c o (l.foldl St.mark s) ((l.map c.f).foldl St.mark t) := by
  induction l with
  | nil => intro s t h _; exact h
  | cons k l ih =>
    intro s t h hk
    rw [List.map_cons, List.foldl_cons, List.foldl_cons]
    refine ih (h.mark (hk k List.mem_cons_self)) fun j hj => ?_
    rw [show (s.mark k).bs.length = s.bs.length from St.set_len _ _ _]
    exact hk j (List.mem_cons_of_mem _ hj)
theorem foldO (l : List Nat) : ∀ {s t : St}, Sim c o s t → (∀ k ∈ l, k ≤ c.d ∧ k ≠ c.r) → Sim c o s (l.foldl St.mark t) := by
  induction l with
  | nil => intro s t h _; exact h
  | cons k l ih =>
    intro s t h hk
    rw [List.foldl_cons]
    exact ih (h.markO (hk k List.mem_cons_self).1 (hk k List.mem_cons_self).2) fun j hj => hk j (List.mem_cons_of_mem _ hj)
theorem touch (h : Sim c o s t) (n : Nat) : Sim c o (s.touch n) (t.touch (n + c.pre.length)) := by
  unfold St.touch
  rw [h.op, Nat.add_comm n, List.take_length_add_append, List.foldl_append, ← List.map_take]
  exact (h.foldO c.pre h.ok.pre).fold _ fun k hk => h.opk k (List.mem_of_mem_take hk)
theorem touchAll (h : Sim c o s t) : Sim c o (s.touch s.op.length) (t.touch t.op.length) := by
  rw [h.opLen]; exact h.touch _
theorem atq (h : Sim c o s t) {q p : Cur} (hq : CR q p) : Sim c o (s.at q) (t.at p) := ⟨h.ok, h.len, h.pos, h.op, h.here, h.lt, h.at_, hq, h.blk, h.kids, h.root, h.root', h.out, h.opk, h.op0, h.opt, h.kid0, h.last0⟩
theorem goHere (h : Sim c o s t) {m : Nat} (hm : m < s.op.length) : Sim c o { s with here := m } { t with here := m + c.pre.length } :=
  ⟨h.ok, h.len, h.pos, h.op, rfl, hm, h.at_, h.cur, h.blk, h.kids, h.root, h.root', h.out, h.opk, h.op0, h.opt, h.kid0, h.last0⟩
theorem cut (h : Sim c o s t) {n : Nat} (hn : s.here < n) : Sim c o (s.cutOpen n) (t.cutOpen (n + c.pre.length)) where
  ok := h.ok
  len := h.len
  pos := h.pos
  op := by
    show t.op.take (n + c.pre.length) = c.pre ++ (s.op.take n).map c.f
    rw [h.op, Nat.add_comm n, List.take_length_add_append, List.map_take]
  here := h.here
  lt := by show s.here < (s.op.take n).length; rw [List.length_take]; have := h.lt; omega
  at_ := h.at_
  cur := h.cur
  blk := h.blk
  kids := h.kids
  root := h.root
  root' := h.root'
  out := h.out
  opk k hk := h.opk k (List.mem_of_mem_take hk)
  op0 := by
    have := h.op0
    unfold St.opAt at this ⊢
    show (s.op.take n).getD 0 0 = 0
    rw [List.getD_eq_getElem?_getD] at this ⊢
    rw [List.getElem?_take_of_lt (by omega)]
    exact this
  opt i h0 hi := by
    have hi' : i < (s.op.take n).length := hi
    rw [List.length_take] at hi'
    have := h.opt i h0 (by omega)
    unfold St.opAt at this ⊢
    show 0 < (s.op.take n).getD i 0
    rw [List.getD_eq_getElem?_getD] at this ⊢
    rw [List.getElem?_take_of_lt (by omega)]
    exact this
  kid0 := h.kid0
  last0 hl := by
    have hl' : 1 < (s.op.take n).length := hl
    rw [List.length_take] at hl'
    have := h.last0 (by omega)
    show (s.get 0).kids.getLast? = some ((s.op.take n).getD 1 0)
    rw [this]
    unfold St.opAt
    rw [List.getD_eq_getElem?_getD, List.getD_eq_getElem?_getD, List.getElem?_take_of_lt (by omega)]
theorem cutHere (h : Sim c o s t) : Sim c o (s.cutOpen (s.here + 1)) (t.cutOpen (t.here + 1)) := by
  have e : t.here + 1 = s.here + 1 + c.pre.length := by rw [h.here]; omega
  rw [e]
  exact h.cut (Nat.lt_succ_self _)
theorem here_pos (h : Sim c o s t) {k : Nat} (e : (s.get (s.opAt s.here)).kind = k) (hk : k = 2 ∨ k = 5 ∨ k = 7) : 0 < s.here := by
  rcases Nat.eq_zero_or_pos s.here with h0 | h0
  · rw [h0, h.op0] at e
    have h1 := h.root
    omega
  · exact h0
theorem pushKid (h : Sim c o s t) {i : Nat} (hi : i < s.bs.length) {k : Nat} (hk : 0 < k) (hi0 : i = 0 → s.op.length ≤ 1) : Sim c o (s.pushKid i k) (t.pushKid (c.f i) (k + c.d)) := by
  unfold St.pushKid
  rcases Nat.eq_zero_or_pos i with rfl | h0
  · rw [c.f_zero]
    refine h.setR _ _ h.root h.root' (fun _ => List.append_ne_nil_of_right_ne_nil _ (List.cons_ne_nil _ _)) (fun hl => absurd hl (by have := hi0 rfl; omega)) ?_
    show (t.get c.r).kids ++ [k + c.d] = c.kp ++ ((s.get 0).kids ++ [k]).map c.f
    rw [h.kids, List.map_append, List.append_assoc, List.map_singleton, c.f_pos hk]
  · have e : ({ t.get (c.f i) with kids := (t.get (c.f i)).kids ++ [k + c.d] } : Blk) = Blk.mv c { s.get i with kids := (s.get i).kids ++ [k] } := by
      rw [h.get h0 hi]
      unfold Blk.mv
      simp only [List.map_append, List.map_singleton, c.f_pos hk]
    rw [e]
    exact h.set h0 hi _
theorem pushLine (h : Sim c o s t) {i : Nat} (h0 : 0 < i) (hi : i < s.bs.length) (l : List UInt8) : Sim c o (s.pushLine i l) (t.pushLine (c.f i) l) := by
  unfold St.pushLine
  have e : ({ t.get (c.f i) with lines := (t.get (c.f i)).lines ++ [l] } : Blk) = Blk.mv c { s.get i with lines := (s.get i).lines ++ [l] } := by
    rw [h.get h0 hi]; rfl
  rw [e]
  exact h.set h0 hi _
theorem layUp2 (h : Sim c o s t) (b : Blk) : Sim c o (s.layUp2 b) (t.layUp2 b) := by
  unfold St.layUp2
  have k2 := h.nowKind 2 (by omega)
  have k7 := h.nowKind 7 (by omega)
  by_cases hc : (s.get (s.opAt s.here)).kind = 2 ∨ (s.get (s.opAt s.here)).kind = 7 ∧ b.kind ≠ 8
  · rw [if_pos hc, if_pos (by rcases hc with hc | hc; exact .inl (k2.2 hc); exact .inr ⟨k7.2 hc.1, hc.2⟩)]
    have hp : 0 < s.here := by
      rcases hc with hc | hc
      · exact h.here_pos hc (by omega)
      · exact h.here_pos hc.1 (by omega)
    have e : t.here - 1 = s.here - 1 + c.pre.length := by rw [h.here]; omega
    rw [e]
    exact h.goHere (by have := h.lt; omega)
  · rw [if_neg hc, if_neg (fun hc' => hc (by rcases hc' with hc' | hc'; exact .inl (k2.1 hc'); exact .inr ⟨k7.1 hc'.1, hc'.2⟩))]
    exact h
theorem hung (h : Sim c o s t) : Sim c o s.hung t.hung := by
  unfold St.hung
  have h1 := h.cutHere
  have hn := h.opAt_lt h.lt
  have h2 := h1.pushKid hn (k := s.bs.length) h.pos (fun e => by
    have hz : s.here = 0 := by
      rcases Nat.eq_zero_or_pos s.here with hz | hz
      · exact hz
      · have := h.opt _ hz h.lt; omega
    show (s.op.take (s.here + 1)).length ≤ 1
    rw [List.length_take]
    omega)
  have h3 := h2.touch (s.here + 1)
  have e : t.here + 1 = s.here + 1 + c.pre.length := by rw [h.here]; omega
  rw [h.now, h.len]
  rw [e] at h3 ⊢
  exact h3
theorem more (h : Sim c o s t) (b : Blk) (hb : b.kids = []) (hl : s.op.length = s.here + 1) (hk0 : (s.get 0).kids ≠ []) (hl0 : s.op.length = 1 → (s.get 0).kids.getLast? = some s.bs.length) : Sim c o (s.more b) (t.more b) := by
  have hg : ∀ i, i < s.bs.length → (s.more b).get i = s.get i := fun i hi => by
    unfold St.more St.get
    rw [List.getD_eq_getElem?_getD, List.getD_eq_getElem?_getD, List.getElem?_append_left hi]
  have hg' : ∀ i, i < t.bs.length → (t.more b).get i = t.get i := fun i hi => by
    unfold St.more St.get
    rw [List.getD_eq_getElem?_getD, List.getD_eq_getElem?_getD, List.getElem?_append_left hi]
  have hr := h.ok.rd
  have hlen := h.len
  have hp := h.pos
  exact {
    ok := h.ok
    len := by unfold St.more; simp; omega
    pos := by unfold St.more; simp
    op := by
      show t.op ++ [t.bs.length] = c.pre ++ (s.op ++ [s.bs.length]).map c.f
      rw [h.op, List.map_append, List.append_assoc, List.map_singleton, c.f_pos hp, hlen]
    here := by show t.here + 1 = s.here + 1 + _; rw [h.here]; omega
    lt := by show s.here + 1 < (s.op ++ [s.bs.length]).length; rw [List.length_append]; simp; omega
    at_ := h.at_
    cur := h.cur
    blk := fun i h0 hi => by
      by_cases e : i < s.bs.length
      · rw [hg i e, hg' _ (by omega)]; exact h.blk i h0 e
      · have hi' : i < (s.bs ++ [{ b with first := s.at_, last := s.at_ }]).length := hi
        rw [List.length_append] at hi'
        have e2 : i = s.bs.length := by simp at hi'; omega
        subst e2
        rw [← hlen]
        unfold St.more St.get
        simp [Blk.mv, hb, h.at_]
    kids := by rw [hg 0 hp, hg' _ (by omega)]; exact h.kids
    root := by rw [hg 0 hp]; exact h.root
    root' := by rw [hg' _ (by omega)]; exact h.root'
    out := fun j hj hjr => by rw [hg' _ (by omega)]; exact h.out j hj hjr
    opk := fun k hk => by
      show k < (s.bs ++ [{ b with first := s.at_, last := s.at_ }]).length
      rw [List.length_append]
      rcases List.mem_append.1 hk with hk | hk
      · have := h.opk k hk; omega
      · simp at hk; simp; omega
    op0 := by
      have h0 := h.op0
      have hlt := h.lt
      unfold St.opAt at h0 ⊢
      show (s.op ++ [s.bs.length]).getD 0 0 = 0
      rw [List.getD_eq_getElem?_getD] at h0 ⊢
      rw [List.getElem?_append_left (by omega)]
      exact h0
    opt := fun i h0 hi => by
      have hlt := h.lt
      have hi' : i < (s.op ++ [s.bs.length]).length := hi
      rw [List.length_append] at hi'
      simp at hi'
      show 0 < (s.op ++ [s.bs.length]).getD i 0
      rw [List.getD_eq_getElem?_getD]
      by_cases e : i < s.op.length
      · have h3 := h.opt i h0 e
        unfold St.opAt at h3
        rw [List.getElem?_append_left e]
        rw [List.getD_eq_getElem?_getD] at h3
        exact h3
      · have : i = s.op.length := by omega
        subst this
        simp
        exact hp
    kid0 := fun _ => by rw [hg 0 hp]; exact hk0
    last0 := fun _ => by
      rw [hg 0 hp]
      have hlt := h.lt
      show _ = some ((s.op ++ [s.bs.length]).getD 1 0)
      rw [List.getD_eq_getElem?_getD]
      by_cases e : s.op.length = 1
      · rw [hl0 e, List.getElem?_append_right (by omega), e]; rfl
      · have := h.last0 (by omega)
        rw [this, List.getElem?_append_left (by omega)]
        unfold St.opAt
        rw [List.getD_eq_getElem?_getD] }
theorem fold_kids (l : List Nat) : ∀ (s : St), (∀ k ∈ l, k < s.bs.length) → ∀ j, ((l.foldl St.mark s).get j).kids = (s.get j).kids := by
  induction l with
  | nil => intro s _ j; rfl
  | cons k l ih =>
    intro s hk j
    rw [List.foldl_cons, ih (s.mark k) (fun x hx => by
      rw [show (s.mark k).bs.length = s.bs.length from St.set_len _ _ _]
      exact hk x (List.mem_cons_of_mem _ hx)) j, St.mark_get s k j (hk k List.mem_cons_self)]
    split
    · rename_i e; rw [e]
    · rfl
theorem hung_kid0 (s : St) (ho : ∀ k ∈ s.op, k < s.bs.length) (hh : s.here < s.op.length) (h1 : 1 < s.bs.length → (s.get 0).kids ≠ []) (hp : 0 < s.bs.length) : (s.hung.get 0).kids ≠ [] := by
  have hn : s.opAt s.here < s.bs.length := ho _ (St.opAt_mem hh)
  unfold St.hung St.touch
  rw [fold_kids _ _ (fun k hk => by
    have : ((s.cutOpen (s.here + 1)).pushKid (s.opAt s.here) s.bs.length).bs.length = s.bs.length := St.set_len _ _ _
    rw [this]
    exact ho k (List.mem_of_mem_take (List.mem_of_mem_take hk)))]
  unfold St.pushKid
  rw [St.get_set (s.cutOpen (s.here + 1)) _ _ _ (by exact hn)]
  split
  · exact List.append_ne_nil_of_right_ne_nil _ (List.cons_ne_nil _ _)
  · rename_i e
    exact h1 (by omega)
theorem hung_last0 (s : St) (ho : ∀ k ∈ s.op, k < s.bs.length) (hh : s.here < s.op.length) (h0 : s.opAt 0 = 0) : s.hung.op.length = 1 → (s.hung.get 0).kids.getLast? = some s.hung.bs.length := by
  intro h1
  obtain ⟨e1, _, _, _, e5⟩ := St.mark_fold ((((s.cutOpen (s.here + 1)).pushKid (s.opAt s.here) s.bs.length).op.take (s.here + 1))) ((s.cutOpen (s.here + 1)).pushKid (s.opAt s.here) s.bs.length)
  have e2 : s.hung.op.length = s.here + 1 := by
    unfold St.hung St.touch
    rw [e1]
    show (s.op.take (s.here + 1)).length = s.here + 1
    rw [List.length_take]
    omega
  have hz : s.here = 0 := by omega
  have hl : s.hung.bs.length = s.bs.length := by
    unfold St.hung St.touch
    rw [e5]
    exact St.set_len _ _ _
  have hn : s.opAt s.here < s.bs.length := ho _ (St.opAt_mem hh)
  rw [hl]
  unfold St.hung St.touch
  rw [fold_kids _ _ (fun k hk => by
    have : ((s.cutOpen (s.here + 1)).pushKid (s.opAt s.here) s.bs.length).bs.length = s.bs.length := St.set_len _ _ _
    rw [this]
    exact ho k (List.mem_of_mem_take (List.mem_of_mem_take hk)))]
  unfold St.pushKid
  rw [St.get_set (s.cutOpen (s.here + 1)) _ _ _ (by exact hn), hz, if_pos h0.symm]
  simp
theorem hung_op (s : St) (hh : s.here < s.op.length) : s.hung.op.length = s.hung.here + 1 := by
  unfold St.hung St.touch
  obtain ⟨h1, h2, _, _, _⟩ := St.mark_fold ((((s.cutOpen (s.here + 1)).pushKid (s.opAt s.here) s.bs.length).op.take (s.here + 1))) ((s.cutOpen (s.here + 1)).pushKid (s.opAt s.here) s.bs.length)
  rw [h1, h2]
  show (s.op.take (s.here + 1)).length = s.here + 1
  rw [List.length_take]
  omega
theorem opl (h : Sim c o s t) : ∀ k ∈ t.op, k < t.bs.length := fun k hk => by
  have hr := h.ok.rd
  have hl := h.len
  have hp := h.pos
  rw [h.op] at hk
  rcases List.mem_append.1 hk with hk | hk
  · have := (h.ok.pre k hk).1; omega
  · obtain ⟨j, hj, rfl⟩ := List.mem_map.1 hk
    exact h.f_lt (h.opk j hj)
theorem lt' (h : Sim c o s t) : t.here < t.op.length := by rw [h.here, h.opLen]; have := h.lt; omega
theorem layUp2_op (s : St) (b : Blk) (hh : s.here < s.op.length) : (s.layUp2 b).here < (s.layUp2 b).op.length := by
  unfold St.layUp2; split
  · show s.here - 1 < s.op.length; omega
  · exact hh
theorem puts (h : Sim c o s t) (b : Blk) (hb : b.kids = []) : Sim c o (s.puts b) (t.puts b) := by
  rw [St.puts_eq s b h.opk h.lt, St.puts_eq t b h.opl h.lt']
  have hu := h.layUp2 b
  exact hu.hung.more b hb (hung_op _ (layUp2_op s b h.lt)) (hung_kid0 _ hu.opk hu.lt hu.kid0 hu.pos) (hung_last0 _ hu.opk hu.lt hu.op0)
theorem up (h : Sim c o s t) (h0 : 0 < s.here) : Sim c o s.up t.up := by
  unfold St.up
  have e : t.here - 1 = s.here - 1 + c.pre.length := by rw [h.here]; omega
  rw [e]
  have h1 := h.goHere (m := s.here - 1) (by have := h.lt; omega)
  have h2 := h1.cut (n := s.here) (by show s.here - 1 < s.here; omega)
  rw [← h.here] at h2
  exact h2
theorem puts_here (s : St) (b : Blk) (ho : ∀ k ∈ s.op, k < s.bs.length) (hh : s.here < s.op.length) : 0 < (s.puts b).here := by
  rw [St.puts_eq s b ho hh]
  exact Nat.succ_pos _
theorem sets (h : Sim c o s t) (b : Blk) (hb : b.kids = []) : Sim c o (s.sets b) (t.sets b) := by
  have e : ∀ s : St, s.sets b = (s.puts b).up := fun s => rfl
  rw [e, e]
  exact (h.puts b hb).up (puts_here s b h.opk h.lt)
end Sim
end Go.Proofs.YtpimcdkhjingjaaGreatDoor.X
set_option linter.unusedVariables false
set_option linter.unusedSimpArgs false
set_option linter.unusedSectionVars false
namespace Go.Proofs.YtpimcdkhjingjaaGreatDoor.X
open Go.RowKit Go.Proofs.YtpimcdkhjingjaaGreatDoorW.PrintWords Go.Proofs.YtpimcdkhjingjaaGreatDoor.PBlk
theorem St.touch_here' (s : St) (n : Nat) : (s.touch n).here = s.here := (St.mark_fold _ s).2.1
namespace Sim
variable {c : Cfg} {o : Nat → Blk} {s t : St}
theorem goes (F : LeafFns) (h : Sim c o s t) {k : Nat} (h0 : 0 < k) (hk : k < s.bs.length) :
    (t.goes F (c.f k)).1 = (s.goes F k).1 ∧ Sim c o (s.goes F k).2 (t.goes F (c.f k)).2 := by
  unfold St.goes
  have hg := h.get h0 hk
  have e1 : (t.get (c.f k)).kind = (s.get k).kind := by rw [hg]; rfl
  have e2 : (t.get (c.f k)).kids.length = (s.get k).kids.length := by rw [hg]; exact List.length_map _
  have e3 : (t.get (c.f k)).width = (s.get k).width := by rw [hg]; rfl
  have e4 : (t.get (c.f k)).fence = (s.get k).fence := by rw [hg]; rfl
  have e5 : (t.get (c.f k)).sign = (s.get k).sign := by rw [hg]; rfl
  have e6 : (t.get (c.f k)).in_ = (s.get k).in_ := by rw [hg]; rfl
  rw [e1, e2, e3, e4, e5, e6, h.cur.indent, h.cur.word, h.cur.blank]
  split
  · split
    · exact ⟨rfl, h.atq h.cur.quote⟩
    · exact ⟨rfl, h⟩
  · split
    · exact ⟨rfl, h⟩
    · split
      · split <;> split <;> first | exact ⟨rfl, h.atq (h.cur.skip _)⟩ | exact ⟨rfl, h⟩
      · split
        · split
          · split
            · exact ⟨rfl, h⟩
            · exact ⟨rfl, h.atq (h.cur.skip _)⟩
          · split
            · exact ⟨rfl, h.atq (h.cur.skip _)⟩
            · exact ⟨rfl, h⟩
        · exact ⟨rfl, h⟩
theorem goes_same (F : LeafFns) (s : St) (k : Nat) : (s.goes F k).2.op = s.op ∧ (s.goes F k).2.here = s.here ∧ (s.goes F k).2.bs = s.bs := by
  unfold St.goes
  split
  · split <;> exact ⟨rfl, rfl, rfl⟩
  · split
    · exact ⟨rfl, rfl, rfl⟩
    · split
      · split <;> split <;> exact ⟨rfl, rfl, rfl⟩
      · split
        · split
          · split <;> exact ⟨rfl, rfl, rfl⟩
          · split <;> exact ⟨rfl, rfl, rfl⟩
        · exact ⟨rfl, rfl, rfl⟩
theorem wentOn (h : Sim c o s t) (h0 : 0 < s.here) : Sim c o s.wentOn t.wentOn := by
  unfold St.wentOn
  have hp := h.opt s.here h0 h.lt
  have e : (t.get (t.opAt t.here)).kind = (s.get (s.opAt s.here)).kind := by rw [h.now, h.get hp (h.opAt_lt h.lt)]; rfl
  rw [e]
  split
  · have e2 : t.here + 1 = s.here + 1 + c.pre.length := by rw [h.here]; omega
    rw [e2]
    exact h.touch _
  · exact h
theorem alongGo (F : LeafFns) (f : Nat) : ∀ {s t : St}, Sim c o s t → (t.alongGo F f).1 = (s.alongGo F f).1 ∧ Sim c o (s.alongGo F f).2 (t.alongGo F f).2 := by
  induction f with
  | zero => intro s t h; exact ⟨rfl, h⟩
  | succ f ih =>
    intro s t h
    rw [St.alongGo, St.alongGo]
    have eh : t.here + 1 = s.here + 1 + c.pre.length := by rw [h.here]; omega
    by_cases hl : s.here + 1 < s.op.length
    · rw [if_pos hl, if_pos (by rw [h.opLen]; omega)]
      have hk := h.opAt_lt hl
      have h0 := h.opt _ (Nat.succ_pos _) hl
      have e1 : t.opAt (t.here + 1) = c.f (s.opAt (s.here + 1)) := by rw [eh]; exact h.opAt hl
      rw [e1]
      obtain ⟨g1, g2⟩ := h.goes F h0 hk
      rw [g1]
      obtain ⟨q1, q2, q3⟩ := goes_same F s (s.opAt (s.here + 1))
      by_cases hd : (s.goes F (s.opAt (s.here + 1))).1.2 = true
      · rw [if_pos hd, if_pos hd]
        refine ⟨rfl, ?_⟩
        have h3 := g2.touch (s.here + 2)
        have h4 := h3.cut (n := s.here + 1) (by rw [St.touch_here', q2]; exact Nat.lt_succ_self _)
        have e2 : t.here + 2 = s.here + 2 + c.pre.length := by omega
        rw [e2, eh]
        exact h4
      · rw [if_neg hd, if_neg hd]
        by_cases hn : (s.goes F (s.opAt (s.here + 1))).1.1 = false
        · rw [if_pos hn, if_pos hn]; exact ⟨rfl, g2⟩
        · rw [if_neg hn, if_neg hn]
          have h5 := g2.goHere (m := s.here + 1) (by rw [q1]; exact hl)
          rw [← eh] at h5
          exact ih (h5.wentOn (Nat.succ_pos _))
    · rw [if_neg hl, if_neg (by rw [h.opLen]; omega)]
      exact ⟨rfl, h⟩
theorem item (F : LeafFns) (h : Sim c o s t) (l : List UInt8) : (t.item F l).1 = (s.item F l).1 ∧ Sim c o (s.item F l).2 (t.item F l).2 := by
  have k2 := h.nowKind 2 (by omega)
  have k7 := h.nowKind 7 (by omega)
  have hn : t.noItem F l = s.noItem F l := by
    unfold St.noItem
    have : ((t.get (t.opAt t.here)).kind == 2) = ((s.get (s.opAt s.here)).kind == 2) := by
      rw [Bool.eq_iff_iff, beq_iff_eq, beq_iff_eq]; exact k2
    rw [this]
  have hnl : ∀ x, t.newList x = s.newList x := by
    intro x
    unfold St.newList
    by_cases e : (s.get (s.opAt s.here)).kind = 7
    · have hp := Sim.pos_of (h := h) e (by omega)
      rw [h.now, h.get hp (h.opAt_lt h.lt)]
      rfl
    · have e' : ¬ (t.get (t.opAt t.here)).kind = 7 := fun x => e (k7.1 x)
      rw [bne_iff_ne.2 e, bne_iff_ne.2 e']
      rfl
  unfold St.item
  rw [hn]
  by_cases hc : s.noItem F l = true
  · rw [if_pos hc, if_pos hc]; exact ⟨rfl, h⟩
  · rw [if_neg hc, if_neg hc]
    refine ⟨rfl, ?_⟩
    have h1 : Sim c o (s.listed F l) (t.listed F l) := by
      unfold St.listed
      rw [hnl]
      split
      · exact h.puts _ rfl
      · exact h
    unfold St.itemed
    have hq := h1.cur
    have hm := hq.marked (F.marker l).1
    rw [hm.behind, hq.indent]
    exact (h1.atq (hm.skip _)).puts _ rfl
theorem asHead (h : Sim c o s t) {i : Nat} (h0 : 0 < i) (hi : i < s.bs.length) (u : Nat) : Sim c o (s.asHead i u) (t.asHead (c.f i) u) := by
  unfold St.asHead
  have e1 : ({ t.get (c.f i) with kind := 3 } : Blk) = Blk.mv c { s.get i with kind := 3 } := by rw [h.get h0 hi]; rfl
  rw [e1]
  have h1 := h.set h0 hi { s.get i with kind := 3 }
  have hi1 : i < (s.set i { s.get i with kind := 3 }).bs.length := by rw [St.set_len]; exact hi
  have e2 : ∀ b : Blk, b = (s.set i { s.get i with kind := 3 }).get i → ({ (t.set (c.f i) (Blk.mv c { s.get i with kind := 3 })).get (c.f i) with n := u } : Blk) = Blk.mv c { b with n := u } := by
    intro b hb
    rw [h1.get h0 hi1, ← hb]
    rfl
  rw [e2 _ rfl]
  exact h1.set h0 hi1 _
theorem begin (F : LeafFns) (h : Sim c o s t) (l : List UInt8) : (t.begin F l).1 = (s.begin F l).1 ∧ Sim c o (s.begin F l).2 (t.begin F l).2 := by
  unfold St.begin
  have k2 := h.nowKind 2 (by omega)
  split
  · exact ⟨rfl, (h.atq h.cur.quote).puts _ rfl⟩
  · split
    · exact ⟨rfl, h.sets _ rfl⟩
    · split
      · rw [h.cur.indent]
        exact ⟨rfl, h.puts _ rfl⟩
      · by_cases hc : 0 < F.under l ∧ (s.get (s.opAt s.here)).kind = 2
        · rw [if_pos hc, if_pos ⟨hc.1, k2.2 hc.2⟩]
          refine ⟨rfl, ?_⟩
          have hp := Sim.pos_of (h := h) hc.2 (by omega)
          have h1 := h.asHead hp (h.opAt_lt h.lt) (F.under l)
          have h2 := h1.touch (s.here + 1)
          have h3 := h2.up (by rw [St.touch_here']; exact h.here_pos hc.2 (by omega))
          rw [h.now]
          have e : t.here + 1 = s.here + 1 + c.pre.length := by rw [h.here]; omega
          rw [e]
          exact h3
        · rw [if_neg hc, if_neg (fun x => hc ⟨x.1, k2.1 x.2⟩)]
          split
          · exact ⟨rfl, h.sets _ rfl⟩
          · have := h.item F l
            exact ⟨by rw [this.1], this.2⟩
theorem leafAt (h : Sim c o s t) : t.leafAt = c.f s.leafAt := by
  unfold St.leafAt
  have hl := h.lt
  have e : t.op.length - 1 = s.op.length - 1 + c.pre.length := by rw [h.opLen]; omega
  rw [e]
  exact h.opAt (by omega)
theorem leaf_lt (h : Sim c o s t) : s.leafAt < s.bs.length := by
  have := h.lt
  exact h.opAt_lt (by omega)
theorem leafKind (h : Sim c o s t) : (t.get t.leafAt).kind = 2 ↔ (s.get s.leafAt).kind = 2 := by
  rw [h.leafAt]; exact h.kinds h.leaf_lt 2 (by omega)
theorem coded (h : Sim c o s t) : Sim c o s.coded t.coded := by
  unfold St.coded
  exact (h.puts _ rfl).atq (h.cur.skip _)
theorem begins (F : LeafFns) (f : Nat) : ∀ {s t : St}, Sim c o s t → ∀ b, (t.begins F f b).1 = (s.begins F f b).1 ∧ Sim c o (s.begins F f b).2 (t.begins F f b).2 := by
  induction f with
  | zero => intro s t h b; exact ⟨rfl, h⟩
  | succ f ih =>
    intro s t h b
    rw [St.begins, St.begins]
    have k5 := h.nowKind 5 (by omega)
    by_cases h5 : (s.get (s.opAt s.here)).kind = 5
    · rw [if_pos h5, if_pos (k5.2 h5)]; exact ⟨rfl, h⟩
    · rw [if_neg h5, if_neg (fun x => h5 (k5.1 x)), h.cur.indent, h.cur.blank, h.cur.word]
      by_cases h4 : 4 ≤ s.cur.indent
      · rw [if_pos h4, if_pos h4]
        by_cases hc : (s.get s.leafAt).kind = 2 ∨ s.cur.blank = true
        · rw [if_pos hc, if_pos (by rcases hc with hc | hc; exact .inl (h.leafKind.2 hc); exact .inr hc)]; exact ⟨rfl, h⟩
        · rw [if_neg hc, if_neg (fun x => hc (by rcases x with x | x; exact .inl (h.leafKind.1 x); exact .inr x))]
          exact ⟨rfl, h.coded⟩
      · rw [if_neg h4, if_neg h4]
        obtain ⟨g1, g2⟩ := h.begin F s.cur.word
        rw [g1]
        split
        · exact ⟨rfl, g2⟩
        · exact ih g2 _
theorem rest (h : Sim c o s t) : Sim c o s.rest t.rest := by
  unfold St.rest
  have k5 := h.nowKind 5 (by omega)
  have k2 := h.nowKind 2 (by omega)
  have e : t.here + 1 = s.here + 1 + c.pre.length := by rw [h.here]; omega
  have hn := h.opAt_lt h.lt
  by_cases h5 : (s.get (s.opAt s.here)).kind = 5
  · rw [if_pos h5, if_pos (k5.2 h5)]
    have hp := Sim.pos_of (h := h) h5 (by omega)
    have ef : (t.get (t.opAt t.here)).fence = (s.get (s.opAt s.here)).fence := by rw [h.now, h.get hp hn]; rfl
    rw [ef, h.cur.blank, h.cur.rest, h.now, e]
    split
    · exact (h.pushLine hp hn _).touch _
    · exact h.pushLine hp hn _
  · rw [if_neg h5, if_neg (fun x => h5 (k5.1 x)), h.cur.blank]
    split
    · exact h
    · rw [h.cur.word]
      by_cases h2 : (s.get (s.opAt s.here)).kind = 2
      · rw [if_pos h2, if_pos (k2.2 h2), h.now, e]
        exact (h.pushLine (Sim.pos_of (h := h) h2 (by omega)) hn _).touch _
      · rw [if_neg h2, if_neg (fun x => h2 (k2.1 x))]
        exact h.puts _ rfl
end Sim
def St.lineK (F : LeafFns) (r0 : Bool × St) : St :=
  if r0.1 = true then r0.2
  else
    let r := r0.2.begins F (r0.2.cur.s.length - r0.2.cur.at_ + 1) false
    if r.1.2 = true then r.2
    else if (decide (r0.2.op.length = r0.2.here + 1) || r.1.1 || r.2.cur.blank) = false ∧ (r.2.get r.2.leafAt).kind = 2 then (r.2.pushLine r.2.leafAt r.2.cur.word).touch r.2.op.length
    else (r.2.cutOpen (r.2.here + 1)).rest
theorem St.line_eq (F : LeafFns) (s : St) : s.line F = St.lineK F (s.along F) := rfl
def St.lineB (went : Bool) (r : (Bool × Bool) × St) : St :=
  if r.1.2 = true then r.2
  else if (went || r.1.1 || r.2.cur.blank) = false ∧ (r.2.get r.2.leafAt).kind = 2 then (r.2.pushLine r.2.leafAt r.2.cur.word).touch r.2.op.length
  else (r.2.cutOpen (r.2.here + 1)).rest
theorem St.lineK_eq (F : LeafFns) (t : St) : St.lineK F (false, t) = St.lineB (decide (t.op.length = t.here + 1)) (t.begins F (t.cur.s.length - t.cur.at_ + 1) false) := rfl
namespace Sim
variable {c : Cfg} {o : Nat → Blk} {s t : St}
theorem lineB (went : Bool) {r q : (Bool × Bool) × St} (e2 : q.1.2 = r.1.2) (e1 : went = true ∨ q.1.1 = r.1.1) (h : Sim c o r.2 q.2) : Sim c o (St.lineB went r) (St.lineB went q) := by
  unfold St.lineB
  rw [e2]
  split
  · exact h
  · have hw : (went || q.1.1 || q.2.cur.blank) = (went || r.1.1 || r.2.cur.blank) := by
      rw [h.cur.blank]
      rcases e1 with e1 | e1
      · rw [e1]; rfl
      · rw [e1]
    rw [hw]
    by_cases hc : (went || r.1.1 || r.2.cur.blank) = false ∧ (r.2.get r.2.leafAt).kind = 2
    · rw [if_pos hc, if_pos ⟨hc.1, h.leafKind.2 hc.2⟩, h.leafAt, h.cur.word]
      have h1 := h.pushLine (Sim.pos_of (h := h) hc.2 (by omega)) h.leaf_lt r.2.cur.word
      exact h1.touchAll
    · rw [if_neg hc, if_neg (fun x => hc ⟨x.1, h.leafKind.1 x.2⟩)]
      exact h.cutHere.rest
theorem lineK (F : LeafFns) (b : Bool) (h : Sim c o s t) : Sim c o (St.lineK F (b, s)) (St.lineK F (b, t)) := by
  cases b with
  | true => exact h
  | false =>
    rw [St.lineK_eq, St.lineK_eq]
    have e : decide (t.op.length = t.here + 1) = decide (s.op.length = s.here + 1) := by
      refine decide_eq_decide.2 ?_
      rw [h.opLen, h.here]
      omega
    rw [e, h.cur.len]
    obtain ⟨h1, h2⟩ := h.begins F (s.cur.s.length - s.cur.at_ + 1) false
    exact lineB _ (by rw [h1]) (.inr (by rw [h1])) h2
theorem line (F : LeafFns) (h : Sim c o s t) (h0 : s.here = 0) : Sim c o (s.line F) (St.lineK F (t.alongGo F s.op.length)) := by
  have e : s.line F = St.lineK F (s.alongGo F s.op.length) := by
    rw [St.line_eq]
    unfold St.along
    have : ({ s with here := 0 } : St) = s := by rw [← h0]
    rw [this]
  rw [e]
  obtain ⟨h1, h2⟩ := h.alongGo F s.op.length
  have e2 : t.alongGo F s.op.length = ((s.alongGo F s.op.length).1, (t.alongGo F s.op.length).2) := by rw [← h1]
  rw [e2]
  exact h2.lineK F _
end Sim
def Kin (s : St) : Prop := ∀ i, i < s.bs.length → ∀ k ∈ (s.get i).kids, i < k ∧ k < s.bs.length
namespace Sim
variable {c : Cfg} {o : Nat → Blk} {s t : St}
theorem markR (h : Sim c o s t) : Sim c o s (t.mark c.r) := by
  have hr := h.ok.rd
  have hl := h.len
  have hp := h.pos
  have hg : ∀ i, (t.mark c.r).get i = if i = c.r then { t.get c.r with last := t.at_ } else t.get i := fun i => St.mark_get t c.r i (by omega)
  exact {
    ok := h.ok
    len := by unfold St.mark; rw [St.set_len]; exact h.len
    pos := h.pos
    op := h.op
    here := h.here
    lt := h.lt
    at_ := h.at_
    cur := h.cur
    blk := fun i hi hil => by rw [hg, if_neg (by omega)]; exact h.blk i hi hil
    kids := by rw [hg, if_pos rfl]; exact h.kids
    root := h.root
    root' := by rw [hg, if_pos rfl]; exact h.root'
    out := fun i hi hir => by rw [hg, if_neg hir]; exact h.out i hi hir
    opk := h.opk
    op0 := h.op0
    opt := h.opt
    kid0 := h.kid0
    last0 := h.last0 }
theorem reset (h : Sim c o s t) (i : Nat) {q p : Cur} (hq : CR q p) : Sim c o { s with here := 0, at_ := i, cur := q } { t with here := c.pre.length, at_ := i + c.dl, cur := p } where
  ok := h.ok
  len := h.len
  pos := h.pos
  op := h.op
  here := (Nat.zero_add _).symm
  lt := by show 0 < s.op.length; have := h.lt; omega
  at_ := rfl
  cur := hq
  blk := h.blk
  kids := h.kids
  root := h.root
  root' := h.root'
  out := h.out
  opk := h.opk
  op0 := h.op0
  opt := h.opt
  kid0 := h.kid0
  last0 := h.last0
theorem eat (F : LeafFns) (h : Sim c o s t) (i : Nat) (l m : List UInt8) {u : St} {p : Cur} (hq : CR ⟨l, 0, 0, 0⟩ p) (hu : Sim c o s u)
    (e : St.alongGo F t.op.length { t with here := 0, at_ := i + c.dl, cur := ⟨m, 0, 0, 0⟩ } = St.alongGo F s.op.length { u with here := c.pre.length, at_ := i + c.dl, cur := p }) : Sim c o (s.eat F i l) (t.eat F (i + c.dl) m) := by
  have _h := h
  have h1 := hu.reset i hq
  have h2 := h1.line F rfl
  have e1 : t.eat F (i + c.dl) m = St.lineK F (St.alongGo F t.op.length { t with here := 0, at_ := i + c.dl, cur := ⟨m, 0, 0, 0⟩ }) := rfl
  rw [e1, e]
  exact h2
theorem eatSame (F : LeafFns) (h : Sim c o s t) (hp : c.pre = []) (i : Nat) (l : List UInt8) : Sim c o (s.eat F i l) (t.eat F (i + c.dl) l) := by
  refine h.eat F i l l (CR.refl _) h ?_
  rw [h.opLen, hp]
  rfl
theorem feedSame (F : LeafFns) (hp : c.pre = []) (ls : List (List UInt8)) : ∀ (i : Nat) {s t : St}, Sim c o s t → Sim c o (s.feed F i ls) (t.feed F (i + c.dl) ls) := by
  induction ls with
  | nil => intro i s t h; exact h
  | cons l ls ih =>
    intro i s t h
    rw [St.feed, St.feed]
    have := ih (i + 1) (h.eatSame F hp i l)
    have e : i + 1 + c.dl = i + c.dl + 1 := by omega
    rw [e] at this
    exact this
theorem closeGo (h : Sim c o s t) : ∀ (l : List Nat), (∀ k ∈ l, 0 < k ∧ k < s.bs.length) → t.closeGo (l.map c.f) = s.closeGo l
  | [], _ => rfl
  | [_], _ => rfl
  | a :: b :: l, hl => by
    have ha := hl a List.mem_cons_self
    have hb := hl b (List.mem_cons_of_mem _ List.mem_cons_self)
    rw [List.map_cons, List.map_cons, St.closeGo, St.closeGo, h.get ha.1 ha.2, h.get hb.1 hb.2]
    have ih := closeGo h (b :: l) fun k hk => hl k (List.mem_cons_of_mem _ hk)
    rw [List.map_cons] at ih
    rw [ih]
    have e : (Blk.mv c (s.get a)).last + 1 < (Blk.mv c (s.get b)).first ↔ (s.get a).last + 1 < (s.get b).first := by
      show (s.get a).last + c.dl + 1 < (s.get b).first + c.dl ↔ _
      omega
    by_cases hc : (s.get a).last + 1 < (s.get b).first
    · rw [if_pos hc, if_pos (e.2 hc)]
    · rw [if_neg hc, if_neg (fun x => hc (e.1 x))]
theorem tight (h : Sim c o s t) (hk : Kin s) {i : Nat} (h0 : 0 < i) (hi : i < s.bs.length) : t.tight (c.f i) = s.tight i := by
  unfold St.tight
  have e : (t.get (c.f i)).kids = (s.get i).kids.map c.f := by rw [h.get h0 hi]; rfl
  have hp : ∀ k ∈ (s.get i).kids, 0 < k ∧ k < s.bs.length := fun k hk' => ⟨by have := (hk i hi k hk').1; omega, (hk i hi k hk').2⟩
  rw [e, h.closeGo _ hp, List.all_map]
  congr 1
  have hall : ∀ (l : List Nat), (∀ k ∈ l, 0 < k ∧ k < s.bs.length) → l.all ((fun k => t.closeGo (t.get k).kids) ∘ c.f) = l.all (fun k => s.closeGo (s.get k).kids) := by
    intro l
    induction l with
    | nil => intro _; rfl
    | cons a l ih =>
      intro hl
      have ha := hl a List.mem_cons_self
      rw [List.all_cons, List.all_cons, ih fun k hk => hl k (List.mem_cons_of_mem _ hk)]
      congr 1
      show t.closeGo (t.get (c.f a)).kids = _
      rw [h.get ha.1 ha.2]
      exact h.closeGo _ fun k hk' => ⟨by have := (hk a ha.2 k hk').1; omega, (hk a ha.2 k hk').2⟩
  exact hall _ hp
theorem tree (h : Sim c o s t) (hk : Kin s) (f : Nat) : ∀ {i : Nat}, 0 < i → i < s.bs.length → t.tree f (c.f i) = s.tree f i := by
  induction f with
  | zero => intro i _ _; rfl
  | succ f ih =>
    intro i h0 hi
    have hg := h.get h0 hi
    have hm : (t.get (c.f i)).kids.map (t.tree f) = (s.get i).kids.map (s.tree f) := by
      rw [hg]
      show ((s.get i).kids.map c.f).map (t.tree f) = _
      rw [List.map_map]
      refine List.map_congr_left fun k hk' => ?_
      have := hk i hi k hk'
      exact ih (by omega) this.2
    rw [St.tree, St.tree, hm, h.tight hk h0 hi, hg]
    rfl
end Sim
theorem Sim.init (c : Cfg) (o : Nat → Blk) (t : St) (hc : c.Ok) (hl : t.bs.length = 1 + c.d) (ho : t.op = c.pre ++ [c.r]) (hh : t.here = c.pre.length) (ha : t.at_ = c.dl) (q : Cur) (hq : CR q t.cur)
    (hk : (t.get c.r).kids = c.kp) (hr : (t.get c.r).kind = c.kr ∧ (t.get c.r).width = c.wr) (hout : ∀ j, j ≤ c.d → j ≠ c.r → (t.get j).noLast = (o j).noLast) : Sim c o { St.init with cur := q } t where
  ok := hc
  len := hl
  pos := Nat.lt_succ_self _
  op := ho
  here := by rw [hh]; exact (Nat.zero_add _).symm
  lt := Nat.lt_succ_self _
  at_ := by rw [ha]; exact (Nat.zero_add _).symm
  cur := hq
  blk i h0 hi := by
    have hi' : i < 1 := hi
    omega
  kids := by rw [hk]; exact (List.append_nil _).symm
  root := rfl
  root' := hr
  out := hout
  opk k hk := by
    have : k ∈ [0] := hk
    simp at this
    subst this
    exact Nat.lt_succ_self _
  op0 := rfl
  opt i h0 hi := by
    have hi' : i < 1 := hi
    omega
  kid0 hl := by
    have hl' : 1 < 1 := hl
    omega
  last0 hl := by
    have hl' : 1 < 1 := hl
    omega
theorem begin_prog {F : LeafFns} (HM : ∀ l, (F.marker l).1 ≤ l.length) (s : St) (h : (s.begin F s.cur.word).1 = (true, false)) :
    (s.begin F s.cur.word).2.cur.s = s.cur.s ∧ s.cur.at_ < (s.begin F s.cur.word).2.cur.at_ ∧ s.cur.at_ < s.cur.s.length := by
  obtain ⟨l, hl⟩ : ∃ l, l = s.cur.word := ⟨_, rfl⟩
  rw [← hl] at h ⊢
  unfold St.begin at h ⊢
  split at h
  · rename_i hp
    rw [if_pos hp]
    have hne : s.cur.word ≠ [] := fun e => by rw [hl, e] at hp; cases hp
    have hq := Cur.quote_all s.cur
    refine ⟨?_, ?_, Cur.word_lt hne⟩
    · show ((s.at s.cur.quote).puts quoteB).cur.s = _
      rw [puts_cur]; exact hq.1
    · show _ < ((s.at s.cur.quote).puts quoteB).cur.at_
      rw [puts_cur]; exact hq.2.2 hne
  · rename_i hp
    split at h
    · cases h
    · rename_i h1
      split at h
      · cases h
      · rename_i h2
        split at h
        · cases h
        · rename_i h3
          split at h
          · cases h
          · rename_i h4
            rw [if_neg hp, if_neg h1, if_neg h2, if_neg h3, if_neg h4]
            have hi : (s.item F l).1 = true := congrArg Prod.fst h
            show (s.item F l).2.cur.s = _ ∧ _ < (s.item F l).2.cur.at_ ∧ _
            unfold St.item at hi ⊢
            split at hi
            · cases hi
            · rename_i hno
              rw [if_neg hno]
              have h5 : (F.marker l).1 ≠ 0 := fun h0 => hno (by unfold St.noItem; rw [h0]; rfl)
              have hne : s.cur.word ≠ [] := fun e => by
                have := HM l
                rw [hl, e] at this
                rw [hl, e] at h5
                simp at this
                exact h5 this
              have hm := Cur.marked_all (F.marker l).1 s.cur
              have e : ((s.listed F l).itemed (F.marker l).1).cur = (s.cur.marked (F.marker l).1).skip (s.cur.marked (F.marker l).1).behind := by
                unfold St.itemed
                rw [puts_cur, listed_cur]
                rfl
              show ((s.listed F l).itemed (F.marker l).1).cur.s = _ ∧ _ < ((s.listed F l).itemed (F.marker l).1).cur.at_ ∧ _
              rw [e]
              exact ⟨by rw [Cur.skip_s]; exact hm.1, Nat.lt_of_lt_of_le (hm.2.2 hne (by omega)) (Cur.skip_at _ _), Cur.word_lt hne⟩
theorem pair_of {x : Bool × Bool} (h : ¬(x.2 = true ∨ x.1 = false)) : x = (true, false) := by
  obtain ⟨a, b⟩ := x
  cases a <;> cases b <;> simp_all
theorem begins_more {F : LeafFns} (HM : ∀ l, (F.marker l).1 ≤ l.length) (f : Nat) : ∀ (b : Bool) (s : St), s.cur.s.length - s.cur.at_ < f → s.begins F (f + 1) b = s.begins F f b := by
  induction f with
  | zero => intro b s h; omega
  | succ f ih =>
    intro b s h
    rw [St.begins]
    conv => rhs; rw [St.begins]
    split
    · rfl
    · split
      · rfl
      · split
        · rfl
        · rename_i hn
          obtain ⟨h1, h2, h3⟩ := begin_prog HM s (pair_of hn)
          exact ih _ _ (by rw [h1]; omega)
theorem begins_any {F : LeafFns} (HM : ∀ l, (F.marker l).1 ≤ l.length) (g f : Nat) (b : Bool) (s : St) (h : s.cur.s.length - s.cur.at_ < f) : s.begins F (f + g) b = s.begins F f b := by
  induction g with
  | zero => rfl
  | succ g ih => rw [← Nat.add_assoc, begins_more HM _ b s (by omega), ih]
theorem begins_flag (F : LeafFns) (f : Nat) : ∀ (b : Bool) (s : St), (s.begins F f true).1.2 = (s.begins F f b).1.2 ∧ (s.begins F f true).2 = (s.begins F f b).2 ∧ (s.begins F f true).1.1 = true := by
  induction f with
  | zero => intro b s; exact ⟨rfl, rfl, rfl⟩
  | succ f ih =>
    intro b s
    rw [St.begins, St.begins]
    split
    · exact ⟨rfl, rfl, rfl⟩
    · split
      · split
        · exact ⟨rfl, rfl, rfl⟩
        · exact ⟨rfl, rfl, rfl⟩
      · split
        · exact ⟨rfl, rfl, rfl⟩
        · rw [Bool.true_or]
          exact ih _ _
structure LeafNil (F : LeafFns) : Prop where
  marker_le : ∀ l, (F.marker l).1 ≤ l.length
  heading : (F.heading []).1 = 0
  fence : (F.fence []).2.1 = 0
  under : F.under [] = 0
  rule : F.rule [] = false
theorem LeafNil.marker {F : LeafFns} (h : LeafNil F) : (F.marker []).1 = 0 := by have := h.marker_le []; simpa using this
theorem begin_nil {F : LeafFns} (HF : LeafNil F) (s : St) : s.begin F [] = ((false, false), s) := by
  unfold St.begin
  rw [if_neg (by decide), HF.heading, if_neg (by omega), HF.fence, if_neg (by omega), HF.under, if_neg (by omega), HF.rule, if_neg (by decide)]
  unfold St.item
  rw [if_pos (by unfold St.noItem; rw [HF.marker]; rfl)]
theorem begins_blank {F : LeafFns} (HF : LeafNil F) (s : St) (hw : s.cur.word = []) (f : Nat) (b : Bool) : s.begins F f b = ((b, false), s) := by
  cases f with
  | zero => rfl
  | succ f =>
    rw [St.begins]
    split
    · rfl
    · have hb : s.cur.blank = true := by unfold Cur.blank; rw [hw]; rfl
      split
      · rw [if_pos (.inr hb)]
      · rw [hw, begin_nil HF]
        rw [if_pos (.inr rfl), Bool.or_false]
theorem lineK_blank {F : LeafFns} (HF : LeafNil F) (t : St) (hw : t.cur.word = []) : St.lineK F (false, t) = (t.cutOpen (t.here + 1)).rest := by
  have hb : t.cur.blank = true := by unfold Cur.blank; rw [hw]; rfl
  rw [St.lineK_eq, begins_blank HF t hw]
  unfold St.lineB
  rw [if_neg (show ¬ (false = true) by decide)]
  rw [if_neg (by intro h; have := h.1; rw [hb] at this; simp at this)]
theorem rest_blank (s : St) (hb : s.cur.blank = true) (h5 : (s.get (s.opAt s.here)).kind ≠ 5) : s.rest = s := by
  unfold St.rest
  rw [if_neg h5, if_pos hb]
theorem eat_blank0 {F : LeafFns} (HF : LeafNil F) (s : St) (ho : s.op = [0]) (hk : (s.get 0).kind = 1) (i : Nat) (l : List UInt8) (hl : Lib.trimLeftS l [32, 9] = []) : s.eat F i l = { s with at_ := i, cur := ⟨l, 0, 0, 0⟩, here := 0 } := by
  have e : s.eat F i l = St.lineK F (false, { s with at_ := i, cur := ⟨l, 0, 0, 0⟩, here := 0 }) := by
    show St.lineK F (St.along F { s with at_ := i, cur := ⟨l, 0, 0, 0⟩ }) = _
    unfold St.along
    show St.lineK F (St.alongGo F s.op.length { s with at_ := i, cur := ⟨l, 0, 0, 0⟩, here := 0 }) = _
    have e1 : s.op.length = 0 + 1 := by rw [ho]; rfl
    rw [e1, St.alongGo, if_neg]
    show ¬ 0 + 1 < s.op.length
    rw [ho]; simp
  rw [e, lineK_blank HF _ (by exact hl)]
  have h1 : St.cutOpen { s with at_ := i, cur := ⟨l, 0, 0, 0⟩, here := 0 } (0 + 1) = { s with at_ := i, cur := ⟨l, 0, 0, 0⟩, here := 0 } := by
    unfold St.cutOpen
    simp only [St.mk.injEq, and_true, true_and]
    rw [ho]; rfl
  show (St.cutOpen { s with at_ := i, cur := ⟨l, 0, 0, 0⟩, here := 0 } (0 + 1)).rest = _
  rw [h1]
  refine rest_blank _ (by unfold Cur.blank Cur.word; exact (congrArg List.isEmpty hl)) ?_
  show (s.get (s.opAt 0)).kind ≠ 5
  have : s.opAt 0 = 0 := by unfold St.opAt; rw [ho]; rfl
  rw [this, hk]
  decide
theorem feed_app (F : LeafFns) (xs : List (List UInt8)) : ∀ (i : Nat) (s : St) (ys : List (List UInt8)), s.feed F i (xs ++ ys) = (s.feed F i xs).feed F (i + xs.length) ys := by
  induction xs with
  | nil => intro i s ys; rfl
  | cons x xs ih =>
    intro i s ys
    rw [List.cons_append, St.feed, St.feed, ih]
    have : i + 1 + xs.length = i + (x :: xs).length := by simp; omega
    rw [this]
def SimT (c : Cfg) (o : Nat → Blk) (s t : St) : Prop := Sim c o { s with here := 0, at_ := 0, cur := ⟨[], 0, 0, 0⟩ } { t with here := c.pre.length, at_ := c.dl, cur := ⟨[], 0, 0, 0⟩ }
theorem tree_bs {s t : St} (h : s.bs = t.bs) (f : Nat) : ∀ i, s.tree f i = t.tree f i := by
  have hg : ∀ i, s.get i = t.get i := fun i => by unfold St.get; rw [h]
  have hc : ∀ l : List Nat, s.closeGo l = t.closeGo l := by
    intro l
    induction l with
    | nil => rfl
    | cons a l ih =>
      cases l with
      | nil => rfl
      | cons b l => rw [St.closeGo, St.closeGo, ih, hg, hg]
  have ht : ∀ i, s.tight i = t.tight i := fun i => by
    unfold St.tight
    rw [hg, hc]
    congr 1
    exact List.all_congr rfl fun k => by rw [hg, hc]
  induction f with
  | zero => intro i; rfl
  | succ f ih =>
    intro i
    rw [St.tree, St.tree, hg, ht]
    rw [funext ih]
namespace SimT
variable {c : Cfg} {o : Nat → Blk} {s t : St}
theorem of (h : Sim c o s t) : SimT c o s t := by
  have := h.reset 0 (CR.refl ⟨[], 0, 0, 0⟩)
  rw [Nat.zero_add] at this
  exact this
theorem at_ (h : SimT c o s t) (i : Nat) {q p : Cur} (hq : CR q p) : Sim c o { s with here := 0, at_ := i, cur := q } { t with here := c.pre.length, at_ := i + c.dl, cur := p } := Sim.reset h i hq
theorem eat (F : LeafFns) (h : SimT c o s t) (i : Nat) (l m : List UInt8) {u : St} (hu : Sim c o { s with here := 0, at_ := i, cur := ⟨l, 0, 0, 0⟩ } u)
    (e : St.alongGo F t.op.length { t with here := 0, at_ := i + c.dl, cur := ⟨m, 0, 0, 0⟩ } = St.alongGo F s.op.length u) : SimT c o (s.eat F i l) (t.eat F (i + c.dl) m) := by
  have _h := h
  have h2 := hu.line F rfl
  have e1 : t.eat F (i + c.dl) m = St.lineK F (St.alongGo F t.op.length { t with here := 0, at_ := i + c.dl, cur := ⟨m, 0, 0, 0⟩ }) := rfl
  rw [e1, e]
  exact of h2
theorem opLen (h : SimT c o s t) : t.op.length = s.op.length + c.pre.length := by
  have := Sim.opLen (c := c) (o := o) (s := { s with here := 0, at_ := 0, cur := ⟨[], 0, 0, 0⟩ }) (t := { t with here := c.pre.length, at_ := c.dl, cur := ⟨[], 0, 0, 0⟩ }) h
  exact this
theorem feedSame (F : LeafFns) (hp : c.pre = []) (ls : List (List UInt8)) : ∀ (i : Nat) {s t : St}, SimT c o s t → SimT c o (s.feed F i ls) (t.feed F (i + c.dl) ls) := by
  induction ls with
  | nil => intro i s t h; exact h
  | cons l ls ih =>
    intro i s t h
    rw [St.feed, St.feed]
    have h1 := h.eat F i l l (h.at_ i (CR.refl _)) (by rw [h.opLen, hp]; rfl)
    have := ih (i + 1) h1
    have e : i + 1 + c.dl = i + c.dl + 1 := by omega
    rw [e] at this
    exact this
theorem tree (h : SimT c o s t) (hk : Kin s) (f : Nat) {i : Nat} (h0 : 0 < i) (hi : i < s.bs.length) : t.tree f (c.f i) = s.tree f i := by
  have h1 := Sim.tree h (s := { s with here := 0, at_ := 0, cur := ⟨[], 0, 0, 0⟩ }) hk f h0 hi
  rw [tree_bs (s := t) (t := { t with here := c.pre.length, at_ := c.dl, cur := ⟨[], 0, 0, 0⟩ }) rfl, h1]
  exact tree_bs (s := { s with here := 0, at_ := 0, cur := ⟨[], 0, 0, 0⟩ }) (t := s) rfl f i
theorem init (c : Cfg) (o : Nat → Blk) (t : St) (hc : c.Ok) (hl : t.bs.length = 1 + c.d) (ho : t.op = c.pre ++ [c.r]) (hk : (t.get c.r).kids = c.kp) (hr : (t.get c.r).kind = c.kr ∧ (t.get c.r).width = c.wr) (hout : ∀ j, j ≤ c.d → j ≠ c.r → (t.get j).noLast = (o j).noLast) : SimT c o St.init t :=
  Sim.init c o { t with here := c.pre.length, at_ := c.dl, cur := ⟨[], 0, 0, 0⟩ } hc hl ho rfl rfl ⟨[], 0, 0, 0⟩ (CR.refl _) hk hr hout
end SimT
end Go.Proofs.YtpimcdkhjingjaaGreatDoor.X
set_option linter.unusedVariables false
set_option linter.unusedSimpArgs false
set_option linter.unusedSectionVars false
namespace Go.Proofs.YtpimcdkhjingjaaGreatDoor.X
open Go.RowKit Go.Proofs.YtpimcdkhjingjaaGreatDoorW.PrintWords Go.Proofs.YtpimcdkhjingjaaGreatDoor.PBlk
theorem contains_blank' (c : UInt8) : ([32, 9] : List UInt8).contains c = blankB c := by
  unfold blankB
  simp only [List.contains_cons, List.contains_nil, Bool.or_false]
theorem trimLeft_cons {c : UInt8} (t : List UInt8) (h : blankB c = false) : Lib.trimLeftS (c :: t) [32, 9] = c :: t := by
  unfold Lib.trimLeftS
  rw [List.dropWhile_cons, contains_blank', h]
  rfl
theorem skipAll_not {q : Cur} (h : q.here = false) (n : Nat) : Cur.skipAll n q = q := by
  cases n with
  | zero => rfl
  | succ n => unfold Cur.skipAll; rw [h]; rfl
theorem indent_not {q : Cur} (h : q.here = false) : q.indent = 0 := by
  unfold Cur.indent
  rw [skipAll_not h]
  omega
theorem skip_zero (q : Cur) : q.skip 0 = q := by
  unfold Cur.skip
  cases q.s.length - q.at_ with
  | zero => rfl
  | succ f => unfold Cur.skipGo; rfl
theorem here_cons {c : UInt8} (t : List UInt8) (h : blankB c = false) : (⟨c :: t, 0, 0, 0⟩ : Cur).here = false := by
  unfold Cur.here Cur.byte
  show (_ && blankB c) = false
  rw [h, Bool.and_false]
theorem quote_cur (l : List UInt8) : (⟨62 :: 32 :: l, 0, 0, 0⟩ : Cur).quote = ⟨62 :: 32 :: l, 2, 2, 0⟩ := by
  unfold Cur.quote
  rw [indent_not (here_cons _ (by decide)), skip_zero]
  have e1 : Cur.take 1 (⟨62 :: 32 :: l, 0, 0, 0⟩ : Cur) = ⟨62 :: 32 :: l, 1, 1, 0⟩ := by
    unfold Cur.take
    rw [if_pos (by exact Nat.succ_pos _)]
    rfl
  rw [e1]
  unfold Cur.skip
  have e2 : (⟨62 :: 32 :: l, 1, 1, 0⟩ : Cur).s.length - (⟨62 :: 32 :: l, 1, 1, 0⟩ : Cur).at_ = l.length + 1 := by
    show (l.length + 1 + 1) - 1 = _
    omega
  rw [e2]
  unfold Cur.skipGo
  have hh : (⟨62 :: 32 :: l, 1, 1, 0⟩ : Cur).here = true := by
    unfold Cur.here
    rw [Bool.and_eq_true, decide_eq_true_eq]
    exact ⟨by show 1 < l.length + 1 + 1; omega, by unfold Cur.byte; rfl⟩
  rw [hh]
  rw [if_pos (by decide)]
  have hw : (⟨62 :: 32 :: l, 1, 1, 0⟩ : Cur).wide = 1 := rfl
  rw [hw, if_neg (by omega)]
  show Cur.skipGo l.length (1 - 1) ⟨62 :: 32 :: l, 2, 2, 0⟩ = _
  cases l.length with
  | zero => rfl
  | succ f => unfold Cur.skipGo; rfl
theorem cr_tail (l m : List UInt8) (n : Nat) (h : (9 : UInt8) ∉ l) (hm : m.drop n = l) : CR ⟨l, 0, 0, 0⟩ ⟨m, n, n, 0⟩ :=
  ⟨hm, rfl, .inr ⟨rfl, h⟩⟩
def quoteC : Cfg := ⟨6, 0, 1, 1, [0], [], 0⟩
theorem quoteC_ok : quoteC.Ok := ⟨Nat.le_refl _, (fun k hk => by
  have : k ∈ [0] := hk
  simp at this
  subst this
  exact ⟨Nat.zero_le _, by decide⟩), (by decide : (6 : Nat) ≠ 2 ∧ (6 : Nat) ≠ 5 ∧ (6 : Nat) ≠ 7)⟩
theorem eat_init (F : LeafFns) (l : List UInt8) (i : Nat) : St.init.eat F i l = St.lineB true (St.begins F (l.length + 1) false { St.init with at_ := i, cur := ⟨l, 0, 0, 0⟩ }) := rfl
theorem lineB_flag (r q : (Bool × Bool) × St) (h1 : r.1.2 = q.1.2) (h2 : r.2 = q.2) : St.lineB true r = St.lineB true q := by
  unfold St.lineB
  rw [h1, h2]
  simp only [Bool.true_or]
theorem SimT.first {F : LeafFns} (HM : ∀ l, (F.marker l).1 ≤ l.length) (c : Cfg) (o : Nat → Blk) (m l : List UInt8) (t1 : St) (h : Sim c o { St.init with at_ := 0, cur := ⟨l, 0, 0, 0⟩ } t1)
    (hf : t1.cur.s.length - t1.cur.at_ + 1 ≤ m.length)
    (hb : St.begins F (m.length + 1) false { St.init with at_ := 0, cur := ⟨m, 0, 0, 0⟩ } = St.begins F m.length true t1) : SimT c o (St.init.eat F 0 l) (St.init.eat F 0 m) := by
  rw [eat_init, eat_init, hb]
  obtain ⟨g, hg⟩ : ∃ g, m.length = (l.length + 1) + g := ⟨m.length - (l.length + 1), by have := h.cur.len; have e : ({ St.init with at_ := 0, cur := ⟨l, 0, 0, 0⟩ } : St).cur.s.length - ({ St.init with at_ := 0, cur := ⟨l, 0, 0, 0⟩ } : St).cur.at_ = l.length := rfl; omega⟩
  rw [hg, begins_any HM g (l.length + 1) true t1 (by have := h.cur.len; have e : ({ St.init with at_ := 0, cur := ⟨l, 0, 0, 0⟩ } : St).cur.s.length - ({ St.init with at_ := 0, cur := ⟨l, 0, 0, 0⟩ } : St).cur.at_ = l.length := rfl; omega)]
  obtain ⟨f1, f2, _⟩ := begins_flag F (l.length + 1) false t1
  rw [lineB_flag _ (t1.begins F (l.length + 1) false) f1 f2]
  obtain ⟨h1, h2⟩ := h.begins F (l.length + 1) false
  exact SimT.of (Sim.lineB true (by rw [h1]) (.inl rfl) h2)
theorem quote_first (F : LeafFns) (l : List UInt8) (n : Nat) : St.begins F (n + 1) false { St.init with at_ := 0, cur := ⟨62 :: 32 :: l, 0, 0, 0⟩ } = St.begins F n true ⟨[{ docB with kids := [1] }, quoteB], [0, 1], 1, 0, ⟨62 :: 32 :: l, 2, 2, 0⟩⟩ := by
  have hw : (⟨62 :: 32 :: l, 0, 0, 0⟩ : Cur).word = 62 :: 32 :: l := trimLeft_cons _ (by decide)
  have hb : St.begin F { St.init with at_ := 0, cur := ⟨62 :: 32 :: l, 0, 0, 0⟩ } (62 :: 32 :: l) = ((true, false), (⟨[{ docB with kids := [1] }, quoteB], [0, 1], 1, 0, ⟨62 :: 32 :: l, 2, 2, 0⟩⟩ : St)) := by
    unfold St.begin
    rw [if_pos (by rfl)]
    show ((true, false), (St.at { St.init with at_ := 0, cur := ⟨62 :: 32 :: l, 0, 0, 0⟩ } (Cur.quote ⟨62 :: 32 :: l, 0, 0, 0⟩)).puts quoteB) = _
    rw [quote_cur]
    rfl
  obtain ⟨x, hx⟩ : ∃ x : St, x = { St.init with at_ := 0, cur := ⟨62 :: 32 :: l, 0, 0, 0⟩ } := ⟨_, rfl⟩
  rw [← hx] at hb ⊢
  have xk : (x.get (x.opAt x.here)).kind = 1 := by rw [hx]; rfl
  have xc : x.cur = ⟨62 :: 32 :: l, 0, 0, 0⟩ := by rw [hx]
  rw [St.begins, if_neg (by rw [xk]; decide), xc, indent_not (here_cons _ (by decide)), if_neg (by omega), hw, hb, if_neg (by intro h; rcases h with h | h <;> cases h)]
  rfl
theorem SimT.quoteLine (F : LeafFns) {o : Nat → Blk} {s t : St} (h : SimT quoteC o s t) (i : Nat) (l : List UInt8) (hl : (9 : UInt8) ∉ l) : SimT quoteC o (s.eat F i l) (t.eat F i (62 :: 32 :: l)) := by
  have h1 : Sim quoteC o { s with here := 0, at_ := i, cur := ⟨l, 0, 0, 0⟩ } { t with here := 1, at_ := i, cur := ⟨62 :: 32 :: l, 2, 2, 0⟩ } := h.at_ i (cr_tail l _ 2 hl rfl)
  have h2 := (h1.markO (j := 0) (Nat.zero_le _) (by decide)).markR
  refine SimT.eat (c := quoteC) F h i l (62 :: 32 :: l) h2 ?_
  have hn := h.opLen
  have hop : t.op = [0] ++ s.op.map quoteC.f := h.op
  have h0 : s.opAt 0 = 0 := h.op0
  have hlt : 0 < s.op.length := h.lt
  have hk : (t.get 1).kind = 6 := h.root'.1
  rw [hn]
  show St.alongGo F (s.op.length + 1) _ = _
  obtain ⟨x, hx⟩ : ∃ x : St, x = { t with here := 0, at_ := i + quoteC.dl, cur := ⟨62 :: 32 :: l, 0, 0, 0⟩ } := ⟨_, rfl⟩
  rw [← hx]
  have ho1 : t.opAt 1 = 1 := by
    have e := h.opAt (i := 0) hlt
    change t.opAt (0 + 1) = quoteC.f (s.opAt 0) at e
    rw [h0] at e
    exact e
  have hg : x.goes F 1 = ((true, false), x.at ⟨62 :: 32 :: l, 2, 2, 0⟩) := by
    unfold St.goes
    have e1 : (x.get 1).kind = 6 := by rw [hx]; exact hk
    have e2 : x.cur = ⟨62 :: 32 :: l, 0, 0, 0⟩ := by rw [hx]
    rw [if_pos e1, e2, indent_not (here_cons _ (by decide)), quote_cur]
    rw [if_pos ⟨by omega, by
      have : (⟨62 :: 32 :: l, 0, 0, 0⟩ : Cur).word = 62 :: 32 :: l := trimLeft_cons _ (by decide)
      rw [this]; rfl⟩]
  have hxo : x.op = t.op := by rw [hx]
  have hxh : x.here = 0 := by rw [hx]
  rw [St.alongGo, hxh, if_pos (by rw [hxo, hn]; show 0 + 1 < _ + 1; omega)]
  have ho2 : x.opAt (0 + 1) = 1 := by rw [hx]; exact ho1
  rw [ho2, hg, if_neg (by intro h; cases h), if_neg (by intro h; cases h)]
  congr 1
  unfold St.wentOn
  have e3 : (St.get { (x.at ⟨62 :: 32 :: l, 2, 2, 0⟩) with here := 0 + 1 } (St.opAt { (x.at ⟨62 :: 32 :: l, 2, 2, 0⟩) with here := 0 + 1 } (0 + 1))).kind = 6 := by
    have : St.opAt { (x.at ⟨62 :: 32 :: l, 2, 2, 0⟩) with here := 0 + 1 } (0 + 1) = 1 := ho2
    rw [this, hx]
    exact hk
  show (if (St.get { (x.at ⟨62 :: 32 :: l, 2, 2, 0⟩) with here := 0 + 1 } (St.opAt { (x.at ⟨62 :: 32 :: l, 2, 2, 0⟩) with here := 0 + 1 } (0 + 1))).kind = 6 then _ else _) = _
  rw [if_pos e3]
  unfold St.touch
  have e4 : (x.op.take (0 + 1 + 1)) = [0, 1] := by
    rw [hxo, hop]
    cases hs : s.op with
    | nil => rw [hs] at hlt; exact absurd hlt (by decide)
    | cons a b =>
      have ha : a = 0 := by unfold St.opAt at h0; rw [hs] at h0; exact h0
      subst ha
      rfl
  show List.foldl St.mark { (x.at ⟨62 :: 32 :: l, 2, 2, 0⟩) with here := 0 + 1 } (x.op.take (0 + 1 + 1)) = _
  rw [e4, hx]
  rfl
theorem SimT.quotes (F : LeafFns) {o : Nat → Blk} (ls : List (List UInt8)) : ∀ (i : Nat) {s t : St}, SimT quoteC o s t → (∀ l ∈ ls, (9 : UInt8) ∉ l) → SimT quoteC o (s.feed F i ls) (t.feed F i (ls.map fun l => 62 :: 32 :: l)) := by
  induction ls with
  | nil => intro i s t h _; exact h
  | cons l ls ih =>
    intro i s t h hl
    rw [List.map_cons, St.feed, St.feed]
    exact ih (i + 1) (h.quoteLine F i l (hl l List.mem_cons_self)) fun x hx => hl x (List.mem_cons_of_mem _ hx)
theorem SimT.quote {F : LeafFns} (HM : ∀ l, (F.marker l).1 ≤ l.length) (l : List UInt8) (ls : List (List UInt8)) (hl : ∀ x ∈ l :: ls, (9 : UInt8) ∉ x) : SimT quoteC (fun _ => { docB with kids := [1] }) (parseS F (l :: ls)) (parseS F ((l :: ls).map fun l => 62 :: 32 :: l)) := by
  unfold parseS
  rw [List.map_cons, St.feed, St.feed]
  refine SimT.quotes F ls 1 (SimT.first HM quoteC _ (62 :: 32 :: l) l _ ?_ ?_ (quote_first F l _)) fun x hx => hl x (List.mem_cons_of_mem _ hx)
  · have := Sim.init quoteC (fun _ => { docB with kids := [1] }) ⟨[{ docB with kids := [1] }, quoteB], [0, 1], 1, 0, ⟨62 :: 32 :: l, 2, 2, 0⟩⟩ quoteC_ok rfl rfl rfl rfl ⟨l, 0, 0, 0⟩ (cr_tail l _ 2 (hl l List.mem_cons_self) rfl) rfl ⟨rfl, rfl⟩ (fun j hj hjr => by
      have h1 : j ≤ 1 := hj
      have h2 : j ≠ 1 := hjr
      have : j = 0 := by omega
      subst this
      rfl)
    exact this
  · show (62 :: 32 :: l).length - 2 + 1 ≤ (62 :: 32 :: l).length
    simp
def apartC : Cfg := ⟨1, 0, 0, 1, [], [1], 2⟩
theorem apartC_ok : apartC.Ok := ⟨Nat.zero_le _, (fun k hk => by cases hk), (by decide : (1 : Nat) ≠ 2 ∧ (1 : Nat) ≠ 5 ∧ (1 : Nat) ≠ 7)⟩
theorem head_first {F : LeafFns} (x : List UInt8) (hh : F.heading (35 :: 32 :: x) = (1, x)) : (St.init.eat F 0 (35 :: 32 :: x)) = ⟨[{ docB with kids := [1] }, headB 1 x], [0], 0, 0, ⟨35 :: 32 :: x, 0, 0, 0⟩⟩ := by
  have hw : (⟨35 :: 32 :: x, 0, 0, 0⟩ : Cur).word = 35 :: 32 :: x := trimLeft_cons _ (by decide)
  rw [eat_init]
  obtain ⟨y, hy⟩ : ∃ y : St, y = { St.init with at_ := 0, cur := ⟨35 :: 32 :: x, 0, 0, 0⟩ } := ⟨_, rfl⟩
  have hb : y.begin F (35 :: 32 :: x) = ((true, true), (⟨[{ docB with kids := [1] }, headB 1 x], [0], 0, 0, ⟨35 :: 32 :: x, 0, 0, 0⟩⟩ : St)) := by
    unfold St.begin
    rw [if_neg (by intro h; cases h), hh, if_pos (by exact Nat.succ_pos 0), hy]
    rfl
  rw [← hy]
  have xk : (y.get (y.opAt y.here)).kind = 1 := by rw [hy]; rfl
  have xc : y.cur = ⟨35 :: 32 :: x, 0, 0, 0⟩ := by rw [hy]
  rw [St.begins, if_neg (by rw [xk]; decide), xc, indent_not (here_cons _ (by decide)), if_neg (by omega), hw, hb, if_pos (.inl rfl)]
  rfl
theorem SimT.apart {F : LeafFns} (HF : LeafNil F) (x : List UInt8) (hh : F.heading (35 :: 32 :: x) = (1, x)) (ls : List (List UInt8)) : SimT apartC (fun _ => headB 1 x) (parseS F ls) (parseS F ((35 :: 32 :: x) :: [] :: ls)) := by
  unfold parseS
  rw [St.feed, St.feed, head_first x hh, eat_blank0 HF _ (by rfl) (by rfl) (0 + 1) [] rfl]
  refine SimT.feedSame (c := apartC) F rfl ls 0 (SimT.init apartC _ _ apartC_ok rfl rfl rfl ⟨rfl, rfl⟩ (fun j hj hjr => ?_))
  have h1 : j ≤ 1 := hj
  have h2 : j ≠ 0 := hjr
  have : j = 1 := by omega
  subst this
  rfl
theorem here_drop' (q : Cur) : q.here = match q.s.drop q.at_ with | [] => false | c :: _ => blankB c := by
  unfold Cur.here
  rw [Cur.byte_drop]
  have hl := q.len_drop
  cases h : q.s.drop q.at_ with
  | nil => rw [h] at hl; have : ¬ q.at_ < q.s.length := by simp at hl; omega
           rw [decide_eq_false this]; rfl
  | cons c t => rw [h] at hl; have : q.at_ < q.s.length := by simp at hl; omega
                rw [decide_eq_true this]; rfl
theorem skipAll_col (f : Nat) : ∀ q : Cur, q.col ≤ (Cur.skipAll f q).col := by
  induction f with
  | zero => intro q; exact Nat.le_refl _
  | succ f ih =>
    intro q
    unfold Cur.skipAll
    split
    · exact Nat.le_trans (Nat.le_add_right _ _) (ih q.steps)
    · exact Nat.le_refl _
structure Mark (F : LeafFns) (mk : List UInt8) (c : UInt8) (start : Nat) (l : List UInt8) : Prop where
  pos : 0 < mk.length
  first : ∃ a t, mk = a :: t ∧ blankB a = false ∧ a ≠ 62
  tabs : (9 : UInt8) ∉ mk
  heading : (F.heading (mk ++ 32 :: l)).1 = 0
  fence : (F.fence (mk ++ 32 :: l)).2.1 = 0
  rule : F.rule (mk ++ 32 :: l) = false
  marker : F.marker (mk ++ 32 :: l) = (mk.length, c, start)
  rest : ∃ a t, l = a :: t ∧ blankB a = false
end Go.Proofs.YtpimcdkhjingjaaGreatDoor.X
set_option linter.unusedVariables false
set_option linter.unusedSimpArgs false
set_option linter.unusedSectionVars false
namespace Go.Proofs.YtpimcdkhjingjaaGreatDoor.X
open Go.RowKit Go.Proofs.YtpimcdkhjingjaaGreatDoorW.PrintWords Go.Proofs.YtpimcdkhjingjaaGreatDoor.PBlk
structure Shut (s : St) : Prop where
  op0 : s.opAt 0 = 0
  op : 0 < s.op.length
  root : (s.get 0).kind = 1
  one : 1 < s.op.length → (s.get (s.opAt 1)).kind = 2 ∨ (s.get (s.opAt 1)).kind = 3 ∨ (s.get (s.opAt 1)).kind = 4
theorem begins_code (F : LeafFns) (s : St) (h5 : (s.get (s.opAt s.here)).kind = 5) (f : Nat) (b : Bool) : s.begins F f b = ((b, false), s) := by
  cases f with
  | zero => rfl
  | succ f => rw [St.begins, if_pos h5]
def codeSt (b : Blk) (L : List (List UInt8)) (a la : Nat) (h x : Nat) (q : Cur) : St := ⟨[{ docB with kids := [1], last := a }, { b with lines := L, last := la }], [0, 1], h, x, q⟩
def InCode (b : Blk) (L : List (List UInt8)) (s : St) : Prop := ∃ a la h x q, s = codeSt b L a la h x q
theorem codeRest (b : Blk) (hb : b.kind = 5) (L : List (List UInt8)) (a la x : Nat) (q : Cur) : InCode b (L ++ [q.rest]) (((codeSt b L a la 1 x q).cutOpen (1 + 1)).rest) := by
  unfold St.rest
  have e : (((codeSt b L a la 1 x q).cutOpen (1 + 1)).get (((codeSt b L a la 1 x q).cutOpen (1 + 1)).opAt ((codeSt b L a la 1 x q).cutOpen (1 + 1)).here)).kind = 5 := hb
  rw [if_pos e]
  split
  · exact ⟨x, x, 1, x, q, rfl⟩
  · exact ⟨a, la, 1, x, q, rfl⟩
theorem code_line (F : LeafFns) (b : Blk) (hb : b.kind = 5) (L : List (List UInt8)) (s : St) (h : InCode b L s) (i : Nat) (m l : List UInt8) (q : Cur) (hq : q.rest = l)
    (hg : ∀ t : St, t.cur = ⟨m, 0, 0, 0⟩ → (∃ a la x h, t = codeSt b L a la h x ⟨m, 0, 0, 0⟩) → t.goes F 1 = ((true, false), t.at q)) : InCode b (L ++ [l]) (s.eat F i m) := by
  obtain ⟨a, la, h0, x, q0, rfl⟩ := h
  have e : (codeSt b L a la h0 x q0).eat F i m = St.lineK F ((codeSt b L a la 0 i ⟨m, 0, 0, 0⟩).alongGo F 2) := rfl
  have hg1 := hg (codeSt b L a la 0 i ⟨m, 0, 0, 0⟩) rfl ⟨a, la, i, 0, rfl⟩
  have ha : (codeSt b L a la 0 i ⟨m, 0, 0, 0⟩).alongGo F 2 = (false, codeSt b L a la 1 i q) := by
    rw [St.alongGo, if_pos (show (codeSt b L a la 0 i ⟨m, 0, 0, 0⟩).here + 1 < (codeSt b L a la 0 i ⟨m, 0, 0, 0⟩).op.length from Nat.lt_succ_self 1)]
    have e1 : (codeSt b L a la 0 i ⟨m, 0, 0, 0⟩).opAt ((codeSt b L a la 0 i ⟨m, 0, 0, 0⟩).here + 1) = 1 := rfl
    rw [e1, hg1, if_neg (by intro h; cases h), if_neg (by intro h; cases h)]
    have e2 : St.wentOn { (St.at (codeSt b L a la 0 i ⟨m, 0, 0, 0⟩) q) with here := (codeSt b L a la 0 i ⟨m, 0, 0, 0⟩).here + 1 } = codeSt b L a la 1 i q := by
      unfold St.wentOn
      rw [if_neg]
      · rfl
      · intro h
        have : b.kind = 6 := h
        omega
    show St.alongGo F 1 (St.wentOn { (St.at (codeSt b L a la 0 i ⟨m, 0, 0, 0⟩) q) with here := (codeSt b L a la 0 i ⟨m, 0, 0, 0⟩).here + 1 }) = _
    rw [e2, St.alongGo, if_neg]
    exact Nat.lt_irrefl 2
  rw [e, ha, St.lineK_eq, begins_code F _ (by exact hb)]
  unfold St.lineB
  rw [if_neg (show ¬ false = true by decide)]
  have hw : decide ((codeSt b L a la 1 i q).op.length = (codeSt b L a la 1 i q).here + 1) = true := rfl
  rw [hw, if_neg (by intro h; have := h.1; simp at this)]
  have := codeRest b hb L a la i q
  rw [hq] at this
  exact this
theorem code_tree {b : Blk} (hb : b.kind = 5) (hk : b.kids = []) {L : List (List UInt8)} {s : St} (h : InCode b L s) : s.tree s.bs.length 0 = ⟨1, 0, false, false, ⟨#[]⟩, ⟨#[]⟩, ⟨#[]⟩, [⟨5, 0, false, false, S ({ b with lines := L } : Blk).code, ⟨#[]⟩, S b.title, []⟩]⟩ := by
  obtain ⟨a, la, h0, x, q, rfl⟩ := h
  have e1 : (codeSt b L a la h0 x q).bs.length = 2 := rfl
  rw [e1, St.tree]
  have g0 : (codeSt b L a la h0 x q).get 0 = { docB with kids := [1], last := a } := rfl
  have g1 : (codeSt b L a la h0 x q).get 1 = { b with lines := L, last := la } := rfl
  rw [g0]
  have t1 : (codeSt b L a la h0 x q).tree 1 1 = ⟨5, 0, false, false, S ({ b with lines := L } : Blk).code, ⟨#[]⟩, S b.title, []⟩ := by
    rw [St.tree, g1]
    obtain ⟨y, hy⟩ : ∃ y : Blk, y = { b with lines := L, last := la } := ⟨_, rfl⟩
    have k1 : y.kind = 5 := by rw [hy]; exact hb
    have k2 : y.kids = [] := by rw [hy]; exact hk
    have k3 : y.text = ({ b with lines := L } : Blk).code := by
      unfold Blk.text
      rw [if_neg (by rw [k1]; decide), if_neg (by rw [k1]; decide), if_pos k1, hy]
      rfl
    have k4 : y.num = 0 := by
      unfold Blk.num
      rw [if_neg (by rw [k1]; decide)]
    have k5 : y.title = b.title := by rw [hy]
    rw [← hy, k1, k2, k3, k4, k5]
    rfl
  show (⟨1, 0, false, false, S [], ⟨#[]⟩, ⟨#[]⟩, [(codeSt b L a la h0 x q).tree 1 1]⟩ : S27) = _
  rw [t1]
  rfl
end Go.Proofs.YtpimcdkhjingjaaGreatDoor.X
