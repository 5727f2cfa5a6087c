/- A merged text (wip/mkclaim.py). -/
import Derived.Test.YtpimcdkhjingjaaGreatDoorRBPar2
import Derived.Test.YtpimcdkhjingjaaGreatDoorRBPLIt1
import Derived.Test.YtpimcdkhjingjaaGreatDoorRBS
import Derived.Laws.BitsLemmas
set_option linter.unusedVariables false
set_option linter.unusedSimpArgs false
set_option linter.unusedSectionVars false
set_option linter.unusedVariables false
namespace Go.Proofs.YtpimcdkhjingjaaGreatDoor.Pure
open Go.RowKit Go.Proofs.YtpimcdkhjingjaaGreatDoor.PBlk Go.Proofs.YtpimcdkhjingjaaGreatDoorW.PrintWords Go.Proofs.YtpimcdkhjingjaaGreatDoor.X Go.Proofs.YtpimcdkhjingjaaGreatDoor.PLIt
theorem and1023 (n : Int) : bits .and .i64 n 1023 = n % 1024 := by
  have h127 : (BitVec.ofInt 64 1023).toNat = 2 ^ 10 - 1 := by decide
  have key : (BitVec.ofInt 64 n &&& BitVec.ofInt 64 1023).toNat = (n % ((2 ^ 64 : Nat) : Int)).toNat % 2 ^ 10 := by
    rw [BitVec.toNat_and, BitVec.toNat_ofInt, h127, Nat.and_two_pow_sub_one_eq_mod]
  show IntKind.i64.wrap ((BitVec.ofInt 64 n &&& BitVec.ofInt 64 1023).toNat : Nat) = n % 1024
  rw [key, IntKind.wrap_i64]
  omega
def marksL : List (List UInt8) := [[45], [43], [49, 46], [55, 41], [49, 50, 51, 52, 53, 54, 55, 56, 57, 46]]
theorem no_fence (a : UInt8) (t : List UInt8) (h1 : a ≠ 96) (h2 : a ≠ 126) : F0.fence (a :: t) = (0, 0, []) := by
  show fenceL (a :: t) = _
  unfold fenceL
  have e1 : fenceAt (a :: t) 96 = false := by unfold fenceAt; rw [runB_cons_ne _ h1]; rfl
  have e2 : fenceAt (a :: t) 126 = false := by unfold fenceAt; rw [runB_cons_ne _ h2]; rfl
  rw [e1, e2, if_neg (by decide), if_neg (by decide)]
theorem no_head (a : UInt8) (t : List UInt8) (h1 : a ≠ 35) : F0.heading (a :: t) = (0, []) := by
  show headingL (a :: t) = _
  unfold headingL
  rw [runB_cons_ne _ h1]
  dsimp only
  rw [if_pos (.inl (by decide))]
theorem rule_first (a : UInt8) (t : List UInt8) (h : ([42, 45, 95] : List UInt8).contains a = false) : F0.rule (a :: t) = false := by
  show ruleL (a :: t) = false
  unfold ruleL
  simp only [h, Bool.false_and]
theorem mark_mk (mk : List UInt8) (hm : mk ∈ marksL) (l : List UInt8) (hl : ∃ a t, l = a :: t ∧ blankB a = false) (hr : F0.rule (mk ++ 32 :: l) = false) : ∃ c start, Go.Proofs.YtpimcdkhjingjaaGreatDoor.X.Mark F0 mk c start l := by
  have h : mk = [45] ∨ mk = [43] ∨ mk = [49, 46] ∨ mk = [55, 41] ∨ mk = [49, 50, 51, 52, 53, 54, 55, 56, 57, 46] := by
    unfold marksL at hm
    simpa using hm
  rcases h with rfl | rfl | rfl | rfl | rfl
  · exact ⟨45, 0, ⟨by decide, ⟨45, [], rfl, by decide, by decide⟩, by decide, by rw [List.singleton_append, no_head _ _ (by decide)], by rw [List.singleton_append, no_fence _ _ (by decide) (by decide)], hr, rfl, hl⟩⟩
  · exact ⟨43, 0, ⟨by decide, ⟨43, [], rfl, by decide, by decide⟩, by decide, by rw [List.singleton_append, no_head _ _ (by decide)], by rw [List.singleton_append, no_fence _ _ (by decide) (by decide)], hr, rfl, hl⟩⟩
  · exact ⟨46, 1, ⟨by decide, ⟨49, [46], rfl, by decide, by decide⟩, by decide, by rw [List.cons_append, no_head _ _ (by decide)], by rw [List.cons_append, no_fence _ _ (by decide) (by decide)], hr, rfl, hl⟩⟩
  · exact ⟨41, 7, ⟨by decide, ⟨55, [41], rfl, by decide, by decide⟩, by decide, by rw [List.cons_append, no_head _ _ (by decide)], by rw [List.cons_append, no_fence _ _ (by decide) (by decide)], hr, rfl, hl⟩⟩
  · exact ⟨46, 123456789, ⟨by decide, ⟨49, [50, 51, 52, 53, 54, 55, 56, 57, 46], rfl, by decide, by decide⟩, by decide, by rw [List.cons_append, no_head _ _ (by decide)], by rw [List.cons_append, no_fence _ _ (by decide) (by decide)], hr, rfl, hl⟩⟩
theorem parse_item (mk : List UInt8) (c : UInt8) (start : Nat) (l : List UInt8) (hm : Go.Proofs.YtpimcdkhjingjaaGreatDoor.X.Mark F0 mk c start l) (ls : List (List UInt8)) (hl : ∀ x ∈ l :: ls, (9 : UInt8) ∉ x) (ht : tot (l :: ls) ≤ 4000000) :
    ∃ X z y, parseT F0 (l :: ls) = docT X ∧ parseT F0 ((mk ++ 32 :: l) :: ls.map fun l => List.replicate (mk.length + 1) 32 ++ l) = docT [z] ∧ z.f0 = 7 ∧ z.f7 = [y] ∧ y.f7 = X ∧ X.length ≤ 4611686018427387904 ∧ ∃ K, ∀ k, K ≤ k → SameAt k (kidsT X) := by
  have hs := SimT.items (F := F0) (fun l => (leafOk.marker_le l).1) hm ls hl
  obtain ⟨n, hn⟩ := parse_pos (l :: ls)
  obtain ⟨t, he⟩ : ∃ t, t = parseS F0 ((mk ++ 32 :: l) :: ls.map fun l => List.replicate (mk.length + 1) 32 ++ l) := ⟨_, rfl⟩
  have hn' : (parseS F0 ((mk ++ 32 :: l) :: ls.map fun l => List.replicate (mk.length + 1) 32 ++ l)).bs.length = n + 1 + 1 + 1 := by
    have : (parseS F0 ((mk ++ 32 :: l) :: ls.map fun l => List.replicate (mk.length + 1) 32 ++ l)).bs.length = (parseS F0 (l :: ls)).bs.length + 2 := hs.len
    omega
  rw [parseT_kids _ (n + 1 + 1) hn']
  rw [← he] at hs ⊢
  have h0 := out_kids (hs.out 0 (by decide : (0 : Nat) ≤ 2) (by decide : (0 : Nat) ≠ 2))
  have h1 := out_kids (hs.out 1 (by decide : (1 : Nat) ≤ 2) (by decide : (1 : Nat) ≠ 2))
  have e0 : (t.get 0).kids = [1] := h0.1
  have e1 : (t.get 1).kids = [2] := h1.1
  have k1 : (t.get 1).kind = 7 := h1.2.1
  have k2 : (t.get 2).kind = 8 := hs.root'.1
  have hk := hs.rootKids (parse_kin _ ht) n
  change (t.get 2).kids.map _ = [] ++ _ at hk
  refine ⟨((parseS F0 (l :: ls)).get 0).kids.map ((parseS F0 (l :: ls)).tree n), t.tree (n + 1 + 1) 1, t.tree (n + 1) 2, parseT_kids _ n hn, ?_, ?_, ?_, ?_, kids_len _ ht n, same_kids _ ht n⟩
  · rw [e0]; rfl
  · rw [St.tree, k1]; rfl
  · rw [St.tree, e1]; rfl
  · rw [tree_hold _ 2 n 8 k2 (.inr rfl)]
    show (t.get 2).kids.map _ = _
    rw [hk, List.nil_append]
def ruleC : Cfg := ⟨1, 0, 0, 1, [], [1], 1⟩
theorem ruleC_ok : ruleC.Ok := ⟨Nat.zero_le _, (fun k hk => by cases hk), (by decide : (1 : Nat) ≠ 2 ∧ (1 : Nat) ≠ 5 ∧ (1 : Nat) ≠ 7)⟩
theorem rule_line (a : UInt8) (m : List UInt8) (ha : blankB a = false) (h1 : a ≠ 62) (h2 : a ≠ 35) (h3 : a ≠ 96) (h4 : a ≠ 126) (hr : F0.rule (a :: m) = true) :
    St.init.eat F0 0 (a :: m) = ⟨[{ docB with kids := [1] }, ruleB], [0], 0, 0, ⟨a :: m, 0, 0, 0⟩⟩ := by
  have hw : (⟨a :: m, 0, 0, 0⟩ : Cur).word = a :: m := trimLeft_cons _ ha
  rw [eat_init]
  obtain ⟨y, hy⟩ : ∃ y : St, y = { St.init with at_ := 0, cur := ⟨a :: m, 0, 0, 0⟩ } := ⟨_, rfl⟩
  have xk : (y.get (y.opAt y.here)).kind = 1 := by rw [hy]; rfl
  have hb : y.begin F0 (a :: m) = ((true, true), (⟨[{ docB with kids := [1] }, ruleB], [0], 0, 0, ⟨a :: m, 0, 0, 0⟩⟩ : St)) := by
    unfold St.begin
    rw [if_neg (by
      intro hp
      unfold Lib.hasPrefix at hp
      rw [List.isPrefixOf] at hp
      simp at hp
      exact h1 hp.symm), no_head a m h2, if_neg (by exact Nat.lt_irrefl 0), no_fence a m h3 h4, if_neg (by exact Nat.lt_irrefl 0), if_neg (by rw [xk]; omega), if_pos hr, hy]
    rfl
  rw [← hy]
  have xc : y.cur = ⟨a :: m, 0, 0, 0⟩ := by rw [hy]
  rw [St.begins, if_neg (by rw [xk]; decide), xc, indent_not (here_cons _ ha), if_neg (by omega), hw, hb, if_pos (.inl rfl)]
  rfl
theorem parse_rule (a : UInt8) (m : List UInt8) (ha : blankB a = false) (h1 : a ≠ 62) (h2 : a ≠ 35) (h3 : a ≠ 96) (h4 : a ≠ 126) (hr : F0.rule (a :: m) = true) (ls : List (List UInt8)) : ∃ y X, parseT F0 ((a :: m) :: ls) = docT (y :: X) ∧ y.f0 = 4 := by
  have hs : SimT ruleC (fun _ => ruleB) (parseS F0 ls) (parseS F0 ((a :: m) :: ls)) := by
    unfold parseS
    rw [St.feed.eq_def F0 0 St.init ((a :: m) :: ls)]
    show SimT ruleC _ _ (St.feed F0 1 (St.init.eat F0 0 (a :: m)) ls)
    rw [rule_line a m ha h1 h2 h3 h4 hr]
    refine SimT.feedSame (c := ruleC) F0 rfl ls 0 (SimT.init ruleC _ _ ruleC_ok rfl rfl rfl ⟨rfl, rfl⟩ (fun j hj hjr => ?_))
    have h5 : j ≤ 1 := hj
    have h6 : j ≠ 0 := hjr
    have : j = 1 := by omega
    subst this
    rfl
  obtain ⟨f, hf, e⟩ := parseT_doc ((a :: m) :: ls)
  have hlen : (parseS F0 ((a :: m) :: ls)).bs.length = (parseS F0 ls).bs.length + 1 := hs.len
  obtain ⟨g, rfl⟩ : ∃ g, f = g + 1 := ⟨f - 1, by have h0 : 0 < (parseS F0 ls).bs.length := hs.pos; omega⟩
  have hk : ((parseS F0 ((a :: m) :: ls)).get 0).kids = [1] ++ ((parseS F0 ls).get 0).kids.map ruleC.f := hs.kids
  have h7 := out_kids (hs.out 1 (by decide : (1 : Nat) ≤ 1) (by decide : (1 : Nat) ≠ 0))
  have k7 : ((parseS F0 ((a :: m) :: ls)).get 1).kind = 4 := h7.2.1
  refine ⟨_, _, by rw [e, hk]; rfl, ?_⟩
  rw [St.tree, k7]
  rfl
theorem bt_it (x : ByteArray) (j : Nat) (h : j < x.size) : bt x (j : Int) = ((x.data.toList[j]'(by rw [← Lib.size_eq]; exact h)).toNat : Int) := by
  have := S_bt x.data.toList (j : Int) (by omega) (by rw [← Lib.size_eq]; omega)
  rw [← S_eta] at this
  rw [this]
  congr 2
theorem rule_l0 (x : ByteArray) (hs : x.size ≤ 140737488351232) (hall : ∀ c ∈ x.data.toList, c = 45 ∨ c = 32) (k : Nat) : ∀ (d j n : Nat), j + d = x.size → n ≤ j →
    rubricatorlaw19_rule.l0 (k + d + 1) x (n : Int) (j : Int) = some (decide (((n + (x.data.toList.drop j).count 45 : Nat) : Int) ≥ 3)) := by
  intro d
  induction d with
  | zero =>
    intro j n hj hn
    rw [Nat.add_zero, rubricatorlaw19_rule.l0, if_neg (by omega), List.drop_eq_nil_of_le (by rw [← Lib.size_eq]; omega)]
    rfl
  | succ d ih =>
    intro j n hj hn
    have hlt : j < x.size := by omega
    have hlt2 : j < x.data.toList.length := by rw [← Lib.size_eq]; exact hlt
    have e : k + (d + 1) + 1 = (k + d + 1) + 1 := by omega
    have hc := hall _ (List.getElem_mem hlt2)
    rw [e, rubricatorlaw19_rule.l0, if_pos (by omega), if_pos (by omega), bt_it _ _ hlt, wrap_id (i := (n : Int) + 1) (by omega) (by omega), wrap_id (i := (j : Int) + 1) (by omega) (by omega), List.drop_eq_getElem_cons hlt2]
    obtain ⟨c, hcc⟩ : ∃ c, c = x.data.toList[j] := ⟨_, rfl⟩
    rw [← hcc] at hc ⊢
    rcases hc with rfl | rfl
    · rw [if_pos (by rfl), List.count_cons_self]
      have := ih (j + 1) (n + 1) (by omega) (by omega)
      rw [show ((j + 1 : Nat) : Int) = (j : Int) + 1 by omega, show ((n + 1 : Nat) : Int) = (n : Int) + 1 by omega] at this
      rw [this]
      rw [show n + 1 + (x.data.toList.drop (j + 1)).count 45 = n + ((x.data.toList.drop (j + 1)).count 45 + 1) by omega]
    · rw [if_neg (by decide), if_pos (by rfl), List.count_cons_of_ne (by decide)]
      have := ih (j + 1) n (by omega) (by omega)
      rw [show ((j + 1 : Nat) : Int) = (j : Int) + 1 by omega] at this
      exact this
theorem rule_yes (l : List UInt8) (hl : l.length ≤ 1000000) (h9 : (9 : UInt8) ∉ l) (hr : F0.rule (45 :: 32 :: l) = true) (k : Nat) (hk : l.length + 3 ≤ k) : rubricatorlaw19_rule.f k (S (45 :: 32 :: l)) = some true := by
  have hr' : ruleL (45 :: 32 :: l) = true := hr
  unfold ruleL at hr'
  rw [Bool.and_eq_true, Bool.and_eq_true, decide_eq_true_eq, List.all_eq_true] at hr'
  obtain ⟨⟨_, h3⟩, hall⟩ := hr'
  have hsz : (S (45 :: 32 :: l)).size = l.length + 2 := by rw [S_size]; rfl
  obtain ⟨m, rfl⟩ : ∃ m, k = m + (l.length + 2) + 1 := ⟨k - (l.length + 2) - 1, by omega⟩
  unfold rubricatorlaw19_rule.f
  have := rule_l0 (S (45 :: 32 :: l)) (by rw [hsz]; omega) (fun c hc => by
    have h1 := hall c hc
    have hc' : c ∈ 45 :: 32 :: l := hc
    simp at h1
    rcases h1 with h1 | h1 | h1
    · exact .inr h1
    · exfalso
      subst h1
      simp at hc'
      exact h9 hc'
    · exact .inl h1) m (l.length + 2) 0 0 (by omega) (Nat.le_refl _)
  rw [List.drop_zero, Nat.zero_add] at this
  refine this.trans ?_
  congr 1
  refine decide_eq_true ?_
  have : 3 ≤ (S (45 :: 32 :: l)).data.toList.count 45 := h3
  omega
def spB (n : Nat) : ByteArray := S (List.replicate n 32)
def accI (mB bB : ByteArray) (xs : List ByteArray) : List ByteArray := match xs with | [] => [] | x :: t => (mB ++ x) :: t.map (bB ++ ·)
theorem accI_snoc (mB bB : ByteArray) (xs : List ByteArray) (x : ByteArray) : accI mB bB (xs ++ [x]) = if xs.length = 0 then [mB ++ x] else accI mB bB xs ++ [bB ++ x] := by
  cases xs with
  | nil => rfl
  | cons y t => rw [if_neg (by simp)]; simp [accI]
theorem accI_len (mB bB : ByteArray) (xs : List ByteArray) : (accI mB bB xs).length = xs.length := by
  cases xs with
  | nil => rfl
  | cons y t => simp [accI]
theorem items_l1 (xs : List ByteArray) (mB bB : ByteArray) (hm : mB.size ≤ 12) (hb : bB.size ≤ 12) (acc : List ByteArray) (hacc : acc.length ≤ 1500) (i : Nat) (hi : i < xs.length) (hs : xs[i].size ≤ 140737488351232) (hx : xs.length ≤ 1500) (k : Nat) : ∀ (d j : Nat), j + d = xs[i].size →
    rubricatorlaw19_BlockItems.l1 (k + d + 1) xs mB bB acc (i : Int) (j : Int) = some true ∨ (rubricatorlaw19_BlockItems.l1 (k + d + 1) xs mB bB acc (i : Int) (j : Int) = rubricatorlaw19_BlockItems.l0 k xs mB bB (if i = 0 then acc ++ [mB ++ xs[i]] else acc ++ [bB ++ xs[i]]) ((i + 1 : Nat) : Int) ∧ (9 : UInt8) ∉ xs[i].data.toList.drop j) := by
  intro d
  induction d with
  | zero =>
    intro j hj
    right
    rw [Nat.add_zero, rubricatorlaw19_BlockItems.l1, if_pos (by omega), if_pos (by omega), rd_at xs i hi, if_neg (by omega), wrap_id (by omega) (by omega), List.drop_eq_nil_of_le (by rw [← Lib.size_eq]; omega)]
    refine ⟨?_, List.not_mem_nil⟩
    by_cases h0 : i = 0
    · rw [if_pos (by omega), if_pos h0, if_pos (by omega), if_pos (by omega)]; rfl
    · rw [if_neg (by omega), if_neg h0, if_pos (by omega), if_pos (by omega)]; rfl
  | succ d ih =>
    intro j hj
    have hlt : j < xs[i].size := by omega
    have hlt2 : j < xs[i].data.toList.length := by rw [← Lib.size_eq]; exact hlt
    have e : k + (d + 1) + 1 = (k + d + 1) + 1 := by omega
    rw [e, rubricatorlaw19_BlockItems.l1, if_pos (by omega), if_pos (by omega), rd_at xs i hi, if_pos (by omega), if_pos (by omega), bt_it _ _ hlt, wrap_id (i := (j : Int) + 1) (by omega) (by omega), List.drop_eq_getElem_cons hlt2]
    by_cases h9 : ((xs[i].data.toList[j].toNat : Nat) : Int) = 9
    · left
      rw [if_pos h9, known_yes]
      rfl
    · rw [if_neg h9]
      have := ih (j + 1) (by omega)
      rw [show ((j + 1 : Nat) : Int) = (j : Int) + 1 by omega] at this
      rcases this with h | ⟨h1, h2⟩
      · exact .inl h
      · refine .inr ⟨h1, fun hm => ?_⟩
        rcases List.mem_cons.1 hm with hm | hm
        · exact h9 (by rw [← hm]; rfl)
        · exact h2 hm
theorem items_l0 (xs : List ByteArray) (hs : ∀ x ∈ xs, x.size ≤ 140737488351232) (hl : xs.length ≤ 1500) (mB bB : ByteArray) (hm : mB.size ≤ 12) (hb : bB.size ≤ 12) (Q : Nat)
    (hT : (∀ x ∈ xs, (9 : UInt8) ∉ x.data.toList) → ∀ k, Q ≤ k → rubricatorlaw19_BlockItems.l0 k xs mB bB (accI mB bB xs) (xs.length : Int) = some true) :
    ∀ (d i : Nat), i + d = xs.length → (∀ x ∈ xs.take i, (9 : UInt8) ∉ x.data.toList) → ∃ K, ∀ k, K ≤ k → rubricatorlaw19_BlockItems.l0 k xs mB bB (accI mB bB (xs.take i)) (i : Int) = some true := by
  intro d
  induction d with
  | zero =>
    intro i hi h9
    have e : i = xs.length := by omega
    subst e
    rw [List.take_length] at h9 ⊢
    exact ⟨Q, hT h9⟩
  | succ d ih =>
    intro i hi h9
    have hlt : i < xs.length := by omega
    have hsz := hs _ (List.getElem_mem hlt)
    have hal : (accI mB bB (xs.take i)).length ≤ 1500 := by rw [accI_len, List.length_take]; omega
    have hacc : accI mB bB (xs.take (i + 1)) = if i = 0 then accI mB bB (xs.take i) ++ [mB ++ xs[i]] else accI mB bB (xs.take i) ++ [bB ++ xs[i]] := by
      rw [List.take_succ_eq_append_getElem hlt, accI_snoc]
      have : (xs.take i).length = i := by rw [List.length_take]; omega
      rw [this]
      by_cases h0 : i = 0
      · rw [if_pos h0, if_pos h0]
        subst h0
        rfl
      · rw [if_neg h0, if_neg h0]
    by_cases hn : (9 : UInt8) ∈ xs[i].data.toList
    · refine ⟨xs[i].size + 2, fun k hk => ?_⟩
      obtain ⟨m, rfl⟩ : ∃ m, k = (m + xs[i].size + 1) + 1 := ⟨k - xs[i].size - 2, by omega⟩
      rw [rubricatorlaw19_BlockItems.l0, if_pos (by omega)]
      rcases items_l1 xs mB bB hm hb _ hal i hlt hsz hl m xs[i].size 0 (by omega) with h | ⟨_, h⟩
      · exact h
      · exact absurd hn h
    · obtain ⟨K, hK⟩ := ih (i + 1) (by omega) (fun x hx => by
        rw [List.take_succ_eq_append_getElem hlt] at hx
        rcases List.mem_append.1 hx with hx | hx
        · exact h9 x hx
        · rw [List.mem_singleton.1 hx]; exact hn)
      refine ⟨K + xs[i].size + 2, fun k hk => ?_⟩
      obtain ⟨m, rfl⟩ : ∃ m, k = (m + xs[i].size + 1) + 1 := ⟨k - xs[i].size - 2, by omega⟩
      rw [rubricatorlaw19_BlockItems.l0, if_pos (by omega)]
      rcases items_l1 xs mB bB hm hb _ hal i hlt hsz hl m xs[i].size 0 (by omega) with h | ⟨h, _⟩
      · exact h
      · refine h.trans ?_
        rw [← hacc]
        exact hK m (by omega)
theorem data_app (a b : ByteArray) : (a ++ b).data.toList = a.data.toList ++ b.data.toList := by
  have e1 : a = S a.data.toList := rfl
  have e2 : b = S b.data.toList := rfl
  conv => lhs; rw [e1, e2]
  rw [S_append]
  rfl
theorem tot_pre (w : Nat) (hw : w ≤ 12) (ys : List ByteArray) : tot ((lns ys).map (fun l => List.replicate w 32 ++ l)) ≤ 14 * wsum ys := by
  induction ys with
  | nil => exact Nat.le_refl _
  | cons y ys ih =>
    show (List.replicate w 32 ++ y.data.toList).length + 2 + tot ((lns ys).map (fun l => List.replicate w 32 ++ l)) ≤ 14 * (1 + y.size + wsum ys)
    rw [List.length_append, List.length_replicate, ← Lib.size_eq]
    omega
theorem items_end (mk : List UInt8) (hmk : mk ∈ marksL) (x : ByteArray) (t : List ByteArray) (hw : wsum (x :: t) ≤ 1500) (h9 : ∀ y ∈ x :: t, (9 : UInt8) ∉ y.data.toList) (hx : ∃ a u, x.data.toList = a :: u ∧ blankB a = false) :
    ∃ K, ∀ k, K ≤ k → rubricatorlaw19_BlockItems.l0 k (x :: t) (S (mk ++ [32])) (spB (mk.length + 1)) (accI (S (mk ++ [32])) (spB (mk.length + 1)) (x :: t)) ((x :: t).length : Int) = some true := by
  have hlen := wsum_len (x :: t)
  have htot := tot_wsum (x :: t)
  have hml : mk.length ≤ 10 := by
    unfold marksL at hmk
    simp at hmk
    rcases hmk with rfl | rfl | rfl | rfl | rfl <;> decide
  have hl : lns (accI (S (mk ++ [32])) (spB (mk.length + 1)) (x :: t)) = (mk ++ 32 :: x.data.toList) :: (lns t).map (fun l => List.replicate (mk.length + 1) 32 ++ l) := by
    unfold accI lns
    rw [List.map_cons, List.map_map, data_app]
    have e1 : (S (mk ++ [32])).data.toList ++ x.data.toList = mk ++ 32 :: x.data.toList := by
      show (mk ++ [32]) ++ x.data.toList = _
      rw [List.append_assoc]; rfl
    rw [e1]
    have e2 : (fun y : ByteArray => y.data.toList) ∘ (fun y => spB (mk.length + 1) ++ y) = (fun l => List.replicate (mk.length + 1) 32 ++ l) ∘ (fun y : ByteArray => y.data.toList) := funext fun y => by
      show (spB (mk.length + 1) ++ y).data.toList = List.replicate (mk.length + 1) 32 ++ y.data.toList
      rw [data_app]
      rfl
    rw [List.map_map, e2]
  have htp := tot_pre (mk.length + 1) (by omega) t
  have hws : wsum (x :: t) = 1 + x.size + wsum t := rfl
  have hxs := Lib.size_eq x
  have ht1 : tot ((mk ++ 32 :: x.data.toList) :: (lns t).map (fun l => List.replicate (mk.length + 1) 32 ++ l)) ≤ 4000000 := by
    rw [tot, List.length_append, List.length_cons]
    omega
  have hp0 : block_Parse.f (x :: t) = some (tupT (parseT F0 (lns (x :: t)))) := parse_of _ (by omega)
  have hp1 : block_Parse.f (accI (S (mk ++ [32])) (spB (mk.length + 1)) (x :: t)) = some (tupT (parseT F0 ((mk ++ 32 :: x.data.toList) :: (lns t).map (fun l => List.replicate (mk.length + 1) 32 ++ l)))) := by rw [parse_of _ (by rw [hl]; exact ht1), hl]
  have hlt : ∀ y ∈ x.data.toList :: lns t, (9 : UInt8) ∉ y := fun y hy => by
    have hy' : y ∈ lns (x :: t) := hy
    unfold lns at hy'
    obtain ⟨z, hz, rfl⟩ := List.mem_map.1 hy'
    exact h9 z hz
  by_cases hr : F0.rule (mk ++ 32 :: x.data.toList) = true
  · have hmk45 : mk = [45] := by
      unfold marksL at hmk
      simp at hmk
      rcases hmk with rfl | rfl | rfl | rfl | rfl
      · rfl
      · rw [List.cons_append, rule_first _ _ (by decide)] at hr; cases hr
      · rw [List.cons_append, rule_first _ _ (by decide)] at hr; cases hr
      · rw [List.cons_append, rule_first _ _ (by decide)] at hr; cases hr
      · rw [List.cons_append, rule_first _ _ (by decide)] at hr; cases hr
    subst hmk45
    obtain ⟨y, X, p1, p2⟩ := parse_rule 45 (32 :: x.data.toList) (by decide) (by decide) (by decide) (by decide) (by decide) hr ((lns t).map (fun l => List.replicate (([45] : List UInt8).length + 1) 32 ++ l))
    have p3 : ([45] ++ 32 :: x.data.toList : List UInt8) = 45 :: 32 :: x.data.toList := rfl
    rw [p3, p1] at hp1
    refine ⟨x.data.toList.length + 5, fun k hk => ?_⟩
    obtain ⟨k, rfl⟩ : ∃ m, k = m + 1 + 1 := ⟨k - 2, by omega⟩
    have hj3 : ∀ g0 g1 g2 g3 g4 g5 g6 g7 h0 h1 h2 h3 h4 h5 h6 h7, rubricatorlaw19_BlockItems.j3 (k + 1) (accI (S ([45] ++ [32])) (spB ([45].length + 1)) (x :: t)) true g0 g1 g2 g3 g4 g5 g6 g7 h0 h1 h2 h3 h4 h5 h6 h7 = some true := by
      intros
      have e : rdOf ByteArray.empty (accI (S ([45] ++ [32])) (spB ([45].length + 1)) (x :: t)) 0 = S (45 :: 32 :: x.data.toList) := by
        show S [45, 32] ++ x = _
        have e1 : x = S x.data.toList := rfl
        conv => lhs; rw [e1]
        rw [S_append]
        rfl
      rw [rubricatorlaw19_BlockItems.j3, if_pos rfl, if_pos (by rw [accI_len, List.length_cons]; omega), e, rule_yes x.data.toList (by rw [← hxs]; omega) (h9 x List.mem_cons_self) hr k (by omega), Option.bind_some, if_pos rfl, known_yes]
      rfl
    rw [rubricatorlaw19_BlockItems.l0, if_neg (by omega), hp1, Option.bind_some, hp0, Option.bind_some]
    by_cases h1 : ((y :: X).length : Int) = 1
    · refine (if_pos h1).trans ((if_pos (by exact Int.ofNat_lt.2 (Nat.succ_pos X.length))).trans ?_)
      have e7 : ((rd_T27 (y :: X) 0).f0 != 7) = true := by
        have : rd_T27 (y :: X) 0 = y := rfl
        rw [this, p2]; rfl
      have := hj3
      exact (congrArg (fun b => rubricatorlaw19_BlockItems.j3 (k + 1) _ b _ _ _ _ _ _ _ _ _ _ _ _ _ _ _ _) e7).trans (hj3 _ _ _ _ _ _ _ _ _ _ _ _ _ _ _ _)
    · refine (if_neg h1).trans (hj3 _ _ _ _ _ _ _ _ _ _ _ _ _ _ _ _)
  · have hr' : F0.rule (mk ++ 32 :: x.data.toList) = false := by simpa using hr
    obtain ⟨c, start, hM⟩ := mark_mk mk hmk x.data.toList hx hr'
    obtain ⟨X, z, y, p1, p2, p3, p4, p5, p6, K, hK⟩ := parse_item mk c start x.data.toList hM (lns t) hlt (by
      show tot (lns (x :: t)) ≤ _
      omega)
    change parseT F0 (lns (x :: t)) = _ at p1
    rw [p1] at hp0
    rw [p2] at hp1
    refine ⟨K + 2, fun k hk => ?_⟩
    obtain ⟨k, rfl⟩ : ∃ m, k = m + 1 + 1 := ⟨k - 2, by omega⟩
    have hS := hK k (by omega)
    unfold SameAt at hS
    rw [rubricatorlaw19_BlockItems.l0, if_neg (by omega), hp1, Option.bind_some, hp0, Option.bind_some]
    refine (if_pos (by rfl)).trans ((if_pos (by exact Int.ofNat_lt.2 (Nat.succ_pos 0))).trans ?_)
    have e7 : ((rd_T27 [z] 0).f0 != 7) = false := by
      have : rd_T27 [z] 0 = z := rfl
      rw [this, p3]; rfl
    refine (congrArg (fun b => rubricatorlaw19_BlockItems.j3 (k + 1) _ b _ _ _ _ _ _ _ _ _ _ _ _ _ _ _ _) e7).trans ?_
    rw [rubricatorlaw19_BlockItems.j3, if_neg (by decide)]
    have ez : (rd_T27 [z] 0).f7 = [y] := p4
    have ey : (rd_T27 [y] 0).f7 = X := p5
    have g1 : (((rd_T27 [z] 0).f7).length : Int) = 1 := by rw [ez]; rfl
    have g2 : 0 < (((rd_T27 [z] 0).f7).length : Int) := by rw [g1]; decide
    have g3 : rubricatorlaw19_same.f k 0 0 false false (⟨#[]⟩ : ByteArray) (⟨#[]⟩ : ByteArray) (⟨#[]⟩ : ByteArray) ((rd_T27 ((rd_T27 [z] 0).f7) 0).f7) 0 0 false false (⟨#[]⟩ : ByteArray) (⟨#[]⟩ : ByteArray) (⟨#[]⟩ : ByteArray) X = some true := by
      rw [ez, ey]
      exact hS
    refine (if_pos (by exact Int.ofNat_lt.2 (Nat.succ_pos 0))).trans ((if_pos g1).trans ((if_pos g2).trans ?_))
    refine (congrArg (fun z => Option.bind z _) (g3 : _ = some true)).trans ?_
    rw [Option.bind_some, if_pos rfl, known_yes]
    rfl
theorem BlockItems (xs : List ByteArray) (a : Int) (hs : ∀ x ∈ xs, x.size ≤ 140737488351232) (hl : xs.length * 16 ≤ 140737488351232) : ∃ k, rubricatorlaw19_BlockItems.f k xs a = some true := by
  have hj : ∀ k, 0 < k → rubricatorlaw19_BlockItems.j0 k xs a true = some true := fun k hk => by
    obtain ⟨k, rfl⟩ : ∃ m, k = m + 1 := ⟨k - 1, by omega⟩
    rw [rubricatorlaw19_BlockItems.j0, if_pos rfl]
  cases hx : xs with
  | nil =>
    rw [hx] at hj
    refine ⟨2, ?_⟩
    unfold rubricatorlaw19_BlockItems.f
    rcases heavy_is ([] : List ByteArray) (fun x hx => by cases hx) (Nat.zero_le _) 2 (by decide) with h | ⟨h, _⟩
    · rw [h, Option.bind_some, if_pos rfl]; exact hj 2 (by decide)
    · rw [h, Option.bind_some, if_neg (by simp), if_pos (by rfl)]; exact hj 2 (by decide)
  | cons x t =>
    rw [hx] at hj hs hl
    have hrd : rdOf ByteArray.empty (x :: t) 0 = x := rfl
    have hquick : (¬ wsum (x :: t) ≤ 1500 ∨ x.data.toList = [] ∨ ∃ u, x.data.toList = 32 :: u) → ∃ k, rubricatorlaw19_BlockItems.f k (x :: t) a = some true := by
      intro hc
      refine ⟨(x :: t).length + 1, ?_⟩
      unfold rubricatorlaw19_BlockItems.f
      have hjj := hj ((x :: t).length + 1) (by omega)
      rcases heavy_is (x :: t) hs (by omega) ((x :: t).length + 1) (by omega) with h | ⟨h, hw⟩
      · rw [h, Option.bind_some, if_pos rfl]; exact hjj
      · rw [h, Option.bind_some, if_neg (by simp), if_neg (by rw [List.length_cons]; omega), if_pos (by rw [List.length_cons]; omega), hrd]
        have ex : x = S x.data.toList := rfl
        rw [ex, S_toList]
        by_cases he : x.data.toList = []
        · rw [if_pos he]; exact hjj
        · rw [if_neg he]
          obtain ⟨u, hu⟩ : ∃ u, x.data.toList = 32 :: u := by
            rcases hc with hc | hc | hc
            · exact absurd hw hc
            · exact absurd hc he
            · exact hc
          rw [hu, if_pos (by rw [S_size, List.length_cons]; omega), S_bt0]
          exact hjj
    by_cases hc : ¬ wsum (x :: t) ≤ 1500 ∨ x.data.toList = [] ∨ ∃ u, x.data.toList = 32 :: u
    · exact hquick hc
    · have hw : wsum (x :: t) ≤ 1500 := by
        rcases Nat.lt_or_ge 1500 (wsum (x :: t)) with h | h
        · exact absurd (.inl (by omega)) hc
        · exact h
      have hne : x.data.toList ≠ [] := fun e => hc (.inr (.inl e))
      obtain ⟨b, u, hbu⟩ : ∃ b u, x.data.toList = b :: u := by
        cases h : x.data.toList with
        | nil => exact absurd h hne
        | cons b u => exact ⟨b, u, rfl⟩
      have hb32 : b ≠ 32 := fun e => hc (.inr (.inr ⟨u, by rw [hbu, e]⟩))
      have hlen := wsum_len (x :: t)
      obtain ⟨n, hn, hn5⟩ : ∃ n : Nat, Int.tmod (Go.bits .and .i64 a 1023) 5 = (n : Int) ∧ n < 5 := by
        rw [and1023]
        have h0 : 0 ≤ a % 1024 := Int.emod_nonneg _ (by decide)
        rw [Int.tmod_eq_emod_of_nonneg h0]
        exact ⟨(a % 1024 % 5).toNat, by omega, by omega⟩
      obtain ⟨mk, hmk, hmB, hbB⟩ : ∃ mk, mk ∈ marksL ∧ rdOf ByteArray.empty [(⟨#[45, 32]⟩ : ByteArray), (⟨#[43, 32]⟩ : ByteArray), (⟨#[49, 46, 32]⟩ : ByteArray), (⟨#[55, 41, 32]⟩ : ByteArray), (⟨#[49, 50, 51, 52, 53, 54, 55, 56, 57, 46, 32]⟩ : ByteArray)] (n : Int) = S (mk ++ [32]) ∧ (⟨#[32, 32, 32, 32, 32, 32, 32, 32, 32, 32, 32, 32]⟩ : ByteArray).extract 0 (S (mk ++ [32])).size = spB (mk.length + 1) := by
        have key : ∀ k : Nat, k ≤ 12 → (⟨#[32, 32, 32, 32, 32, 32, 32, 32, 32, 32, 32, 32]⟩ : ByteArray).extract 0 k = spB k := fun k hk => by
          have e : (⟨#[32, 32, 32, 32, 32, 32, 32, 32, 32, 32, 32, 32]⟩ : ByteArray) = S (List.replicate 12 32) := rfl
          rw [e, S_take, List.take_replicate, Nat.min_eq_left hk]
          rfl
        rcases (by omega : n = 0 ∨ n = 1 ∨ n = 2 ∨ n = 3 ∨ n = 4) with rfl | rfl | rfl | rfl | rfl
        · exact ⟨[45], by decide, rfl, key 2 (by decide)⟩
        · exact ⟨[43], by decide, rfl, key 2 (by decide)⟩
        · exact ⟨[49, 46], by decide, rfl, key 3 (by decide)⟩
        · exact ⟨[55, 41], by decide, rfl, key 3 (by decide)⟩
        · exact ⟨[49, 50, 51, 52, 53, 54, 55, 56, 57, 46], by decide, rfl, key 11 (by decide)⟩
      have hml : mk.length ≤ 10 := by
        unfold marksL at hmk
        simp at hmk
        rcases hmk with rfl | rfl | rfl | rfl | rfl <;> decide
      have hsz : (S (mk ++ [32])).size = mk.length + 1 := by rw [S_size, List.length_append]; rfl
      have hT : ∃ Q, (∀ y ∈ x :: t, (9 : UInt8) ∉ y.data.toList) → ∀ k, Q ≤ k → rubricatorlaw19_BlockItems.l0 k (x :: t) (S (mk ++ [32])) (spB (mk.length + 1)) (accI (S (mk ++ [32])) (spB (mk.length + 1)) (x :: t)) ((x :: t).length : Int) = some true := by
        by_cases h9 : ∀ y ∈ x :: t, (9 : UInt8) ∉ y.data.toList
        · have hb9 : b ≠ 9 := fun e => h9 x List.mem_cons_self (by rw [hbu, e]; exact List.mem_cons_self)
          obtain ⟨K, hK⟩ := items_end mk hmk x t hw h9 ⟨b, u, hbu, by
            unfold blankB
            rw [beq_eq_false_iff_ne.2 hb32, beq_eq_false_iff_ne.2 hb9]
            rfl⟩
          exact ⟨K, fun _ => hK⟩
        · exact ⟨0, fun h => absurd h h9⟩
      obtain ⟨Q, hQ⟩ := hT
      obtain ⟨K, hK⟩ := items_l0 (x :: t) hs (by omega) (S (mk ++ [32])) (spB (mk.length + 1)) (by omega) (by unfold spB; rw [S_size, List.length_replicate]; omega) Q hQ (x :: t).length 0 (by omega) (fun y hy => by rw [List.take_zero] at hy; cases hy)
      refine ⟨K + (x :: t).length + 2, ?_⟩
      unfold rubricatorlaw19_BlockItems.f
      rcases heavy_is (x :: t) hs (by omega) (K + (x :: t).length + 2) (by omega) with h | ⟨h, _⟩
      · rw [h, Option.bind_some, if_pos rfl]; exact hj _ (by omega)
      · rw [h, Option.bind_some, if_neg (by simp), if_neg (by rw [List.length_cons]; omega), if_pos (by rw [List.length_cons]; omega), hrd]
        have ex : x = S x.data.toList := rfl
        have hb0 : ((b.toNat : Int) == 32) = false := beq_eq_false_iff_ne.2 fun e => hb32 (UInt8.toNat_inj.1 (by have : (32 : UInt8).toNat = 32 := rfl; omega))
        have h1 : x.toList ≠ [] := by rw [ex, S_toList]; exact hne
        have h2 : 0 < (x.size : Int) := by rw [ex, S_size, hbu, List.length_cons]; omega
        have h3 : (bt x 0 == 32) = false := by rw [ex, hbu, S_bt0]; exact hb0
        rw [if_neg h1, if_pos h2, h3, rubricatorlaw19_BlockItems.j0, if_neg (by simp), Option.bind_some]
        have hl5 : (([(⟨#[45, 32]⟩ : ByteArray), (⟨#[43, 32]⟩ : ByteArray), (⟨#[49, 46, 32]⟩ : ByteArray), (⟨#[55, 41, 32]⟩ : ByteArray), (⟨#[49, 50, 51, 52, 53, 54, 55, 56, 57, 46, 32]⟩ : ByteArray)] : List ByteArray).length : Int) = 5 := rfl
        rw [hl5, hn, hmB, if_neg (by decide), if_pos (by omega), if_pos (by omega), if_pos (by omega), if_pos (by rw [hsz]; omega), Int.toNat_natCast, hbB]
        have := hK (K + (x :: t).length + 1) (by omega)
        rw [List.take_zero] at this
        exact this
end Go.Proofs.YtpimcdkhjingjaaGreatDoor.Pure
