/- A merged text (wip/mkclaim.py). -/
import Derived.Test.YtpimcdkhjingjaaGreatDoorRCLazy
set_option linter.unusedVariables false
set_option linter.unusedSimpArgs false
set_option linter.unusedSectionVars false
set_option linter.unusedVariables false
namespace Go.Proofs.YtpimcdkhjingjaaGreatDoor.Pure
open Go.RowKit Go.Proofs.YtpimcdkhjingjaaGreatDoor.PBlk Go.Proofs.YtpimcdkhjingjaaGreatDoorW.PrintWords Go.Proofs.YtpimcdkhjingjaaGreatDoor.X
def catF (ls : List (List UInt8)) : List UInt8 := ls.flatMap (· ++ [10])
theorem joinF : ∀ (ls : List (List UInt8)), ls ≠ [] → Lib.join ls [10] ++ [10] = catF ls
  | [], h => absurd rfl h
  | [x], _ => by simp [Lib.join, catF, List.intercalate]
  | x :: y :: t, _ => by
    have ih := joinF (y :: t) (List.cons_ne_nil _ _)
    have e : Lib.join (x :: y :: t) [10] = x ++ [10] ++ Lib.join (y :: t) [10] := by simp [Lib.join, List.intercalate, List.intersperse]
    rw [e, List.append_assoc, ih]
    rfl
theorem run_rep (c : UInt8) (n : Nat) : runB c (List.replicate n c) = n := by
  unfold runB
  induction n with
  | zero => rfl
  | succ n ih => rw [List.replicate_succ, List.takeWhile_cons, if_pos (by simp), List.length_cons, ih]
def fsign (c : UInt8) : Prop := c = 96 ∨ c = 126
theorem fence_rep {c : UInt8} (hc : fsign c) (n : Nat) (hn : 3 ≤ n) : F0.fence (List.replicate n c) = (c, n, []) := by
  show fenceL (List.replicate n c) = _
  have hd : (List.replicate n c).drop (runB c (List.replicate n c)) = [] := by rw [run_rep, List.drop_eq_nil_of_le (by simp)]
  have h1 : fenceAt (List.replicate n c) c = true := by
    unfold fenceAt
    rw [hd, run_rep, decide_eq_true hn]
    simp
  have hof : fenceOf (List.replicate n c) c = (c, n, []) := by
    unfold fenceOf
    rw [hd, run_rep]
    have : unescL (stripL []) = [] := by decide +kernel
    rw [this]
  unfold fenceL
  rcases hc with rfl | rfl
  · rw [if_pos h1, hof]
  · have h2 : fenceAt (List.replicate n 126) 96 = false := by
      obtain ⟨m, rfl⟩ : ∃ m, n = m + 1 := ⟨n - 1, by omega⟩
      unfold fenceAt
      rw [List.replicate_succ, runB_cons_ne _ (by decide)]
      rfl
    rw [h2, if_neg (by decide), if_pos h1, hof]
theorem fsign_nb {c : UInt8} (hc : fsign c) : blankB c = false ∧ c ≠ 62 ∧ c ≠ 35 := by
  rcases hc with rfl | rfl <;> decide
def fb (c : UInt8) (n : Nat) : Blk := fenceB c n 0 []
theorem fence_first {c : UInt8} (hc : fsign c) (n : Nat) (hn : 3 ≤ n) : InCode (fb c n) [] (St.init.eat F0 0 (List.replicate n c)) := by
  obtain ⟨hb, h62, h35⟩ := fsign_nb hc
  obtain ⟨m, hm⟩ : ∃ m, n = m + 1 := ⟨n - 1, by omega⟩
  have hl : List.replicate n c = c :: List.replicate m c := by rw [hm, List.replicate_succ]
  have hf := fence_rep hc n hn
  have hw : (⟨List.replicate n c, 0, 0, 0⟩ : Cur).word = List.replicate n c := by rw [hl]; exact trimLeft_cons _ hb
  have hh : (⟨List.replicate n c, 0, 0, 0⟩ : Cur).here = false := by rw [hl]; exact here_cons _ hb
  rw [eat_init]
  obtain ⟨y, hy⟩ : ∃ y : St, y = { St.init with at_ := 0, cur := ⟨List.replicate n c, 0, 0, 0⟩ } := ⟨_, rfl⟩
  rw [← hy]
  have xk : (y.get (y.opAt y.here)).kind = 1 := by rw [hy]; rfl
  have xc : y.cur = ⟨List.replicate n c, 0, 0, 0⟩ := by rw [hy]
  have hbg : y.begin F0 (List.replicate n c) = ((true, true), y.puts (fb c n)) := by
    unfold St.begin
    rw [if_neg (by
      rw [hl]
      intro hp
      unfold Lib.hasPrefix at hp
      rw [List.isPrefixOf] at hp
      simp at hp
      exact h62 hp.symm)]
    rw [show F0.heading (List.replicate n c) = (0, []) by rw [hl]; exact head_no _ _ h35, if_neg (by exact Nat.lt_irrefl 0), hf, if_pos (by show 0 < n; omega), xc, indent_not hh]
    rfl
  rw [St.begins, if_neg (by rw [xk]; decide), xc, indent_not hh, if_neg (by omega), hw, hbg, if_pos (.inl rfl)]
  unfold St.lineB
  rw [if_pos rfl, hy]
  exact ⟨0, 0, 1, 0, _, rfl⟩
def openL (c : UInt8) (n : Nat) (l : List UInt8) : Prop := runB c (Lib.trimLeftS l [32, 9]) < n
theorem closes_no {c : UInt8} {n : Nat} {l : List UInt8} (h : openL c n l) : F0.closes (Lib.trimLeftS l [32, 9]) c n = false := by
  show closesL _ c n = false
  unfold closesL
  unfold openL at h
  rw [decide_eq_false (by omega)]
  rfl
theorem fence_line {c : UInt8} (n : Nat) (hn : 3 ≤ n) (L : List (List UInt8)) (s : St) (h : InCode (fb c n) L s) (i : Nat) (l : List UInt8) (hl : openL c n l) : InCode (fb c n) (L ++ [l]) (s.eat F0 i l) := by
  refine code_line F0 (fb c n) rfl L s h i l l ⟨l, 0, 0, 0⟩ (by unfold Cur.rest; rw [if_neg (by exact Nat.lt_irrefl 0)]; rfl) fun t ht ⟨a, la, x, h0, e⟩ => ?_
  unfold St.goes
  have e1 : (t.get 1).kind = 5 := by rw [e]; rfl
  have e2 : (t.get 1).fence = n := by rw [e]; rfl
  have e3 : (t.get 1).sign = c := by rw [e]; rfl
  have e4 : (t.get 1).in_ = 0 := by rw [e]; rfl
  have hw : (⟨l, 0, 0, 0⟩ : Cur).word = Lib.trimLeftS l [32, 9] := rfl
  rw [e1, if_neg (by decide), if_neg (by decide), if_neg (by decide), if_pos rfl, e2, if_pos (by omega), e3, e4, ht, hw, closes_no hl, if_neg (by intro h; cases h.2), skip_zero]
theorem fence_feed {c : UInt8} (n : Nat) (hn : 3 ≤ n) (ls : List (List UInt8)) : ∀ (i : Nat) (s : St) (L : List (List UInt8)), InCode (fb c n) L s → (∀ l ∈ ls, openL c n l) → InCode (fb c n) (L ++ ls) (s.feed F0 i ls) := by
  induction ls with
  | nil => intro i s L h _; rw [List.append_nil]; exact h
  | cons l ls ih =>
    intro i s L h hl
    rw [St.feed]
    have := ih (i + 1) _ _ (fence_line n hn L s h i l (hl l List.mem_cons_self)) (fun x hx => hl x (List.mem_cons_of_mem _ hx))
    rw [List.append_assoc] at this
    exact this
theorem fence_code (c : UInt8) (n : Nat) (hn : 3 ≤ n) (L : List (List UInt8)) : ({ fb c n with lines := L } : Blk).code = catF L := by
  have h1 : ({ fb c n with lines := L } : Blk).codeLines = L := by
    unfold Blk.codeLines
    exact if_neg (show ¬ n = 0 by omega)
  unfold Blk.code
  rw [h1]
  cases L with
  | nil => rfl
  | cons x t => rw [if_neg (List.cons_ne_nil _ _), joinF _ (List.cons_ne_nil _ _)]
theorem closes_yes {c : UInt8} (n : Nat) (hn : 3 ≤ n) : F0.closes (List.replicate n c) c n = true := by
  show closesL _ c n = true
  unfold closesL
  rw [run_rep, decide_eq_true (by omega), List.drop_eq_nil_of_le (by simp)]
  decide +kernel
theorem fence_close {c : UInt8} (hc : fsign c) (n : Nat) (hn : 3 ≤ n) (L : List (List UInt8)) (s : St) (h : InCode (fb c n) L s) (i : Nat) :
    ∃ a la q, s.eat F0 i (List.replicate n c) = ⟨[{ docB with kids := [1], last := a }, { fb c n with lines := L, last := la }], [0], 0, i, q⟩ := by
  obtain ⟨a, la, h0, x, q0, rfl⟩ := h
  obtain ⟨hb, _, _⟩ := fsign_nb hc
  obtain ⟨m, hm⟩ : ∃ m, n = m + 1 := ⟨n - 1, by omega⟩
  have hl : List.replicate n c = c :: List.replicate m c := by rw [hm, List.replicate_succ]
  have hw : (⟨List.replicate n c, 0, 0, 0⟩ : Cur).word = List.replicate n c := by rw [hl]; exact trimLeft_cons _ hb
  have hh : (⟨List.replicate n c, 0, 0, 0⟩ : Cur).here = false := by rw [hl]; exact here_cons _ hb
  obtain ⟨t, ht⟩ : ∃ t, t = codeSt (fb c n) L a la 0 i ⟨List.replicate n c, 0, 0, 0⟩ := ⟨_, rfl⟩
  have e : (codeSt (fb c n) L a la h0 x q0).eat F0 i (List.replicate n c) = St.lineK F0 (t.alongGo F0 2) := by rw [ht]; rfl
  have hg : t.goes F0 1 = ((false, true), t) := by
    unfold St.goes
    have e1 : (t.get 1).kind = 5 := by rw [ht]; rfl
    have e2 : (t.get 1).fence = n := by rw [ht]; rfl
    have e3 : (t.get 1).sign = c := by rw [ht]; rfl
    have e5 : t.cur = ⟨List.replicate n c, 0, 0, 0⟩ := by rw [ht]; rfl
    rw [e1, if_neg (by decide), if_neg (by decide), if_neg (by decide), if_pos rfl, e2, if_pos (by omega), e3, e5, hw, indent_not hh, closes_yes n hn, if_pos ⟨by omega, rfl⟩]
  have ha : t.alongGo F0 2 = (true, (t.touch 2).cutOpen 1) := by
    have hl2 : t.here + 1 < t.op.length := by rw [ht]; exact Nat.lt_succ_self 1
    have ho : t.opAt (t.here + 1) = 1 := by rw [ht]; rfl
    have hh2 : t.here = 0 := by rw [ht]; rfl
    rw [St.alongGo, if_pos hl2, ho, hg, if_pos rfl, hh2]
  rw [e, ha]
  unfold St.lineK
  rw [if_pos rfl, ht]
  exact ⟨i, i, ⟨List.replicate n c, 0, 0, 0⟩, rfl⟩
def behindL : List UInt8 := [98, 101, 104, 105, 110, 100]
theorem behind_word : wordL behindL := ⟨by decide, by decide⟩
theorem behind_line (b0 b1 : Blk) (hk : b0.kind = 1) (hk0 : b0.kids = [1]) (i0 : Nat) (q : Cur) (i : Nat) : ∃ a l1, (St.eat F0 ⟨[b0, b1], [0], 0, i0, q⟩ i behindL).bs = [{ b0 with kids := [1, 2], last := a }, b1, { paraB behindL with first := i, last := l1 }] := by
  obtain ⟨y, hy⟩ : ∃ y : St, y = ⟨[b0, b1], [0], 0, i, ⟨behindL, 0, 0, 0⟩⟩ := ⟨_, rfl⟩
  have e : St.eat F0 ⟨[b0, b1], [0], 0, i0, q⟩ i behindL = St.lineK F0 (false, y) := by rw [hy]; rfl
  have xk : (y.get (y.opAt y.here)).kind = 1 := by rw [hy]; exact hk
  have hw : y.cur.word = behindL := by rw [hy]; exact trimLeft_cons _ (by decide)
  have hh : y.cur.here = false := by rw [hy]; exact here_cons _ (by decide)
  have hbl : y.cur.blank = false := by unfold Cur.blank; rw [hw]; rfl
  have hbg : ∀ f, y.begins F0 f false = ((false, false), y) := by
    intro f
    cases f with
    | zero => rfl
    | succ f => rw [St.begins, if_neg (by rw [xk]; decide), indent_not hh, if_neg (by omega), hw, begin_word behind_word, if_pos (.inr rfl)]; rfl
  have hwent : decide (y.op.length = y.here + 1) = true := by rw [hy]; rfl
  have hc : y.cutOpen (y.here + 1) = y := by rw [hy]; rfl
  rw [e, St.lineK_eq, hbg, hwent]
  unfold St.lineB
  rw [if_neg (show ¬ false = true by decide), if_neg (by intro h; have := h.1; simp at this)]
  show ∃ a l1, ((y.cutOpen (y.here + 1)).rest).bs = _
  rw [hc]
  unfold St.rest
  rw [if_neg (by rw [xk]; decide), hbl, if_neg (by decide), if_neg (by rw [xk]; decide), hw, St.puts_eq y _ (by rw [hy]; intro k hk; simp at hk; subst hk; show 0 < 2; omega) (by rw [hy]; exact Nat.lt_succ_self 0)]
  have hu : y.layUp2 (paraB behindL) = y := by unfold St.layUp2; rw [if_neg (by rw [xk]; omega)]
  rw [hu]
  have hhung : y.hung = ⟨[{ b0 with kids := [1, 2], last := i }, b1], [0], 0, i, ⟨behindL, 0, 0, 0⟩⟩ := by
    rw [hy]
    show (⟨[{ b0 with kids := b0.kids ++ [2], last := i }, b1], [0], 0, i, ⟨behindL, 0, 0, 0⟩⟩ : St) = _
    rw [hk0]
    rfl
  rw [hhung]
  exact ⟨i, i, rfl⟩
theorem fence_parse {c : UInt8} (hc : fsign c) (n : Nat) (hn : 3 ≤ n) (ls : List (List UInt8)) (hl : ∀ l ∈ ls, openL c n l) :
    ∃ x, x.f0 = 5 ∧ x.f4 = S (catF ls) ∧ parseT F0 (List.replicate n c :: ls) = docT [x] := by
  have h1 := fence_feed n hn ls 1 _ [] (fence_first hc n hn) hl
  have h2 : InCode (fb c n) ls (parseS F0 (List.replicate n c :: ls)) := h1
  have ht := code_tree (b := fb c n) rfl rfl h2
  refine ⟨⟨5, 0, false, false, S (catF ls), ⟨#[]⟩, S (fb c n).title, []⟩, rfl, rfl, ?_⟩
  unfold parseT
  rw [ht, fence_code c n hn]
  rfl
theorem fence_parse2 {c : UInt8} (hc : fsign c) (n : Nat) (hn : 3 ≤ n) (ls : List (List UInt8)) (hl : ∀ l ∈ ls, openL c n l) :
    ∃ x y, x.f0 = 5 ∧ x.f4 = S (catF ls) ∧ y.f4 = S behindL ∧ parseT F0 ((List.replicate n c :: ls) ++ [List.replicate n c, behindL]) = docT [x, y] := by
  have h1 := fence_feed n hn ls 1 _ [] (fence_first hc n hn) hl
  have h2 : InCode (fb c n) ls (parseS F0 (List.replicate n c :: ls)) := h1
  obtain ⟨a, la, q, h3⟩ := fence_close hc n hn ls _ h2 (0 + (List.replicate n c :: ls).length)
  obtain ⟨a2, l2, h4⟩ := behind_line { docB with kids := [1], last := a } { fb c n with lines := ls, last := la } rfl rfl (0 + (List.replicate n c :: ls).length) q (0 + (List.replicate n c :: ls).length + 1)
  have hbs : (parseS F0 ((List.replicate n c :: ls) ++ [List.replicate n c, behindL])).bs = [{ docB with kids := [1, 2], last := a2 }, { fb c n with lines := ls, last := la }, { paraB behindL with first := 0 + (List.replicate n c :: ls).length + 1, last := l2 }] := by
    unfold parseS
    rw [feed_app]
    show (St.eat F0 (St.eat F0 (parseS F0 (List.replicate n c :: ls)) (0 + (List.replicate n c :: ls).length) (List.replicate n c)) (0 + (List.replicate n c :: ls).length + 1) behindL).bs = _
    rw [h3]
    exact h4
  obtain ⟨t, ht⟩ : ∃ t, t = parseS F0 ((List.replicate n c :: ls) ++ [List.replicate n c, behindL]) := ⟨_, rfl⟩
  rw [← ht] at hbs
  have hlen : t.bs.length = 2 + 1 := by rw [hbs]; rfl
  have g0 : t.get 0 = { docB with kids := [1, 2], last := a2 } := by unfold St.get; rw [hbs]; rfl
  have g1 : t.get 1 = { fb c n with lines := ls, last := la } := by unfold St.get; rw [hbs]; rfl
  have g2 : t.get 2 = { paraB behindL with first := 0 + (List.replicate n c :: ls).length + 1, last := l2 } := by unfold St.get; rw [hbs]; rfl
  refine ⟨t.tree 2 1, t.tree 2 2, ?_, ?_, ?_, ?_⟩
  · rw [St.tree, g1]; rfl
  · rw [St.tree, g1]
    show S (Blk.text { fb c n with lines := ls, last := la }) = _
    have e : Blk.text { fb c n with lines := ls, last := la } = ({ fb c n with lines := ls } : Blk).code := rfl
    rw [e, fence_code c n hn]
  · rw [St.tree, g2]; rfl
  · unfold parseT
    rw [← ht, hlen, tree_doc t (by rw [g0]; rfl), g0]
    rfl
end Go.Proofs.YtpimcdkhjingjaaGreatDoor.Pure
