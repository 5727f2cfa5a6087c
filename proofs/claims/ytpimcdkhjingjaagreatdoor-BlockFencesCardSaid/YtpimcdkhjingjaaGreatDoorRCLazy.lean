/- A merged text (wip/mkclaim.py). -/
import Derived.Test.YtpimcdkhjingjaaGreatDoorRCPar2
set_option linter.unusedVariables false
set_option linter.unusedSimpArgs false
set_option linter.unusedSectionVars false
set_option linter.unusedVariables false
namespace Go.Proofs.YtpimcdkhjingjaaGreatDoor.Pure
open Go.RowKit Go.Proofs.YtpimcdkhjingjaaGreatDoor.PBlk Go.Proofs.YtpimcdkhjingjaaGreatDoorW.PrintWords Go.Proofs.YtpimcdkhjingjaaGreatDoor.X
def wordL (l : List UInt8) : Prop := l ≠ [] ∧ ∀ c ∈ l, 97 ≤ c.toNat ∧ c.toNat ≤ 122
theorem word_head {l : List UInt8} (h : wordL l) : ∃ c t, l = c :: t ∧ 97 ≤ c.toNat ∧ c.toNat ≤ 122 := by
  cases l with
  | nil => exact absurd rfl h.1
  | cons c t => exact ⟨c, t, rfl, h.2 c List.mem_cons_self⟩
theorem ne_of_small {c : UInt8} (h : 97 ≤ c.toNat) (b : UInt8) (hb : b.toNat < 97) : c ≠ b := fun e => by rw [e] at h; omega
theorem fence_no (a : UInt8) (t : List UInt8) (h1 : a ≠ 96) (h2 : a ≠ 126) : F0.fence (a :: t) = (0, 0, []) := by
  show fenceL (a :: t) = _
  unfold fenceL
  have e1 : fenceAt (a :: t) 96 = false := by unfold fenceAt; rw [runB_cons_ne _ h1]; rfl
  have e2 : fenceAt (a :: t) 126 = false := by unfold fenceAt; rw [runB_cons_ne _ h2]; rfl
  rw [e1, e2, if_neg (by decide), if_neg (by decide)]
theorem head_no (a : UInt8) (t : List UInt8) (h1 : a ≠ 35) : F0.heading (a :: t) = (0, []) := by
  show headingL (a :: t) = _
  unfold headingL
  rw [runB_cons_ne _ h1]
  dsimp only
  rw [if_pos (.inl (by decide))]
theorem under_no (a : UInt8) (t : List UInt8) (h1 : a ≠ 61) (h2 : a ≠ 45) : F0.under (a :: t) = 0 := by
  show underL (a :: t) = 0
  unfold underL
  rw [runB_cons_ne _ h1, runB_cons_ne _ h2, if_neg (by omega), if_neg (by omega)]
theorem rule_no (l : List UInt8) (c : UInt8) (hc : c ∈ l) (h : 97 ≤ c.toNat) (a : UInt8) (t : List UInt8) (hl : l = a :: t) (ha : ([42, 45, 95] : List UInt8).contains a = true ∨ ([42, 45, 95] : List UInt8).contains a = false) : F0.rule l = false := by
  show ruleL l = false
  rw [hl]
  unfold ruleL
  rcases ha with ha | ha
  · have hall : (a :: t).all (fun b => ([32, 9, a] : List UInt8).contains b) = false := by
      rw [List.all_eq_false]
      refine ⟨c, by rw [← hl]; exact hc, ?_⟩
      have h1 := ne_of_small h 32 (by decide)
      have h2 := ne_of_small h 9 (by decide)
      have h3 : c ≠ a := by
        have : a = 42 ∨ a = 45 ∨ a = 95 := by simpa using ha
        rcases this with e | e | e <;> rw [e] <;> exact ne_of_small h _ (by decide)
      simp [h1, h2, h3]
    simp only [hall, Bool.and_false]
  · simp only [ha, Bool.false_and]
theorem mark_no (a : UInt8) (t : List UInt8) (h : 97 ≤ a.toNat) : F0.marker (a :: t) = (0, 0, 0) := by
  show markGo 0 0 (a :: t) = _
  unfold markGo
  have h1 : digitB a = false := by unfold digitB; rw [decide_eq_true (by omega : 48 ≤ a.toNat), decide_eq_false (by omega : ¬ a.toNat ≤ 57)]; rfl
  rw [h1, if_neg (by decide)]
  unfold markEnd
  have h2 : (markSigns 0).contains a = false := by
    unfold markSigns
    rw [if_neg (by decide)]
    simp [ne_of_small h 45 (by decide), ne_of_small h 43 (by decide), ne_of_small h 42 (by decide)]
  show (if ((markSigns 0).contains a && endsL t) = true then (0 + 1, a, 0) else (0, 0, 0)) = _
  rw [h2]
  rfl
theorem begin_word {l : List UInt8} (h : wordL l) (s : St) : s.begin F0 l = ((false, false), s) := by
  obtain ⟨c, t, rfl, h1, h2⟩ := word_head h
  unfold St.begin
  rw [if_neg (by
    intro hp
    unfold Lib.hasPrefix at hp
    rw [List.isPrefixOf] at hp
    simp at hp
    exact ne_of_small h1 62 (by decide) hp.symm), head_no _ _ (ne_of_small h1 35 (by decide)), if_neg (by exact Nat.lt_irrefl 0), fence_no _ _ (ne_of_small h1 96 (by decide)) (fun e => by rw [e] at h2; exact absurd h2 (by decide)), if_neg (by exact Nat.lt_irrefl 0), under_no _ _ (ne_of_small h1 61 (by decide)) (ne_of_small h1 45 (by decide)), if_neg (by omega),
    rule_no (c :: t) c List.mem_cons_self h1 c t rfl (by cases ([42, 45, 95] : List UInt8).contains c <;> simp), if_neg (by decide)]
  unfold St.item
  rw [if_pos (by unfold St.noItem; rw [mark_no _ _ h1]; rfl)]
structure Chain (s : St) : Prop where
  op : s.op = List.range s.bs.length
  here : s.here + 1 = s.bs.length
  kids : ∀ i, i < s.bs.length → (s.get i).kids = if i + 1 < s.bs.length then [i + 1] else []
  root : (s.get 0).kind = 1
theorem Chain.opAt {s : St} (h : Chain s) {i : Nat} (hi : i < s.bs.length) : s.opAt i = i := by
  unfold St.opAt
  rw [h.op, List.getD_eq_getElem?_getD, List.getElem?_range hi]
  rfl
theorem Chain.opk {s : St} (h : Chain s) : ∀ k ∈ s.op, k < s.bs.length := fun k hk => by rw [h.op] at hk; exact List.mem_range.1 hk
theorem Chain.now {s : St} (h : Chain s) : s.opAt s.here = s.here := h.opAt (by have := h.here; omega)
theorem more_old (s : St) (b : Blk) {i : Nat} (h : i < s.bs.length) : (s.more b).get i = s.get i := by
  unfold St.more St.get
  rw [List.getD_eq_getElem?_getD, List.getD_eq_getElem?_getD, List.getElem?_append_left h]
def holdK (k : Nat) : Prop := k = 1 ∨ k = 6 ∨ k = 8
def AtL (q : Cur) (l : List UInt8) : Prop := q.left = 0 ∧ q.s.drop q.at_ = l
theorem AtL.go {q : Cur} {a l : List UInt8} (h : AtL q (a ++ l)) : AtL ⟨q.s, q.at_ + a.length, q.col + a.length, 0⟩ l :=
  ⟨rfl, by show q.s.drop (q.at_ + a.length) = l; rw [← List.drop_drop, h.2, List.drop_left]⟩
theorem AtL.here {q : Cur} {c : UInt8} {l : List UInt8} (h : AtL q (c :: l)) (hc : blankB c = false) : q.here = false := by
  rw [here_drop', h.2]; exact hc
theorem AtL.word {q : Cur} {c : UInt8} {l : List UInt8} (h : AtL q (c :: l)) (hc : blankB c = false) : q.word = c :: l := by
  unfold Cur.word; rw [h.2]; exact trimLeft_cons _ hc
structure Inner (s : St) (l : List UInt8) : Prop where
  chain : Chain s
  hold : holdK (s.get s.here).kind
  kinds : ∀ i, i < s.bs.length → (s.get i).kind = 1 ∨ (s.get i).kind = 6 ∨ (s.get i).kind = 7 ∨ (s.get i).kind = 8
  cur : AtL s.cur l
structure ParaEnd (s : St) (ls : List (List UInt8)) : Prop where
  chain : Chain s
  kinds : ∀ i, i + 1 < s.bs.length → (s.get i).kind = 1 ∨ (s.get i).kind = 6 ∨ (s.get i).kind = 7 ∨ (s.get i).kind = 8
  para : (s.get s.here).kind = 2
  lines : (s.get s.here).lines = ls
structure Alike (s t : St) : Prop where
  len : t.bs.length = s.bs.length
  op : t.op = s.op
  get : ∀ i, (t.get i).noLast = (s.get i).noLast
end Go.Proofs.YtpimcdkhjingjaaGreatDoor.Pure
