/- A merged text (wip/mkclaim.py). -/
import Derived.Test.YtpimcdkhjingjaaGreatDoorRAPar2
import Derived.Test.YtpimcdkhjingjaaGreatDoorRAPLAp1
set_option linter.unusedVariables false
set_option linter.unusedSimpArgs false
set_option linter.unusedSectionVars false
set_option linter.unusedVariables false
namespace Go.Proofs.YtpimcdkhjingjaaGreatDoor.Pure
open Go.RowKit Go.Proofs.YtpimcdkhjingjaaGreatDoor.PBlk Go.Proofs.YtpimcdkhjingjaaGreatDoorW.PrintWords Go.Proofs.YtpimcdkhjingjaaGreatDoor.X Go.Proofs.YtpimcdkhjingjaaGreatDoor.PLAp
def smallL (l : List UInt8) : Prop := ∀ c ∈ l, 97 ≤ c.toNat ∧ c.toNat ≤ 122
theorem nodrop {α : Type} {p : α → Bool} {x : List α} (h : ∀ c ∈ x, p c = false) : x.dropWhile p = x := by
  cases x with
  | nil => rfl
  | cons a t => rw [List.dropWhile_cons, if_neg (by rw [h a List.mem_cons_self]; decide)]
theorem small_not {l : List UInt8} (h : smallL l) {c : UInt8} (hc : c ∈ l) (b : UInt8) (hb : b.toNat < 97) : c ≠ b := fun e => by
  have := (h c hc).1
  rw [e] at this
  omega
theorem small_blank {l : List UInt8} (h : smallL l) : ∀ c ∈ l, ([32, 9] : List UInt8).contains c = false := fun c hc => by
  have h1 := small_not h hc 32 (by decide)
  have h2 := small_not h hc 9 (by decide)
  rw [contains_blank']
  unfold blankB
  rw [beq_eq_false_iff_ne.2 h1, beq_eq_false_iff_ne.2 h2]
  rfl
theorem small_trimR {l : List UInt8} (h : smallL l) (cs : List UInt8) (hc : ∀ c ∈ l, cs.contains c = false) : Lib.trimRightS l cs = l := by
  unfold Lib.trimRightS
  rw [nodrop (fun c hx => hc c (List.mem_reverse.1 hx)), List.reverse_reverse]
theorem small_trim {l : List UInt8} (h : smallL l) : Lib.trimS l [32, 9] = l := by
  unfold Lib.trimS
  rw [small_trimR h _ (small_blank h)]
  exact nodrop (small_blank h)
theorem small_strip {l : List UInt8} (h : smallL l) : stripL (32 :: l) = l := by
  unfold stripL Lib.trimS Lib.trimLeftS Lib.trimRightS
  rw [List.reverse_cons]
  cases hl : l.reverse with
  | nil =>
    have : l = [] := List.reverse_eq_nil_iff.1 hl
    rw [this]; rfl
  | cons a t =>
    have ha : a ∈ l := List.mem_reverse.1 (by rw [hl]; exact List.mem_cons_self)
    rw [List.cons_append, List.dropWhile_cons, if_neg (by rw [small_blank h a ha]; decide), ← List.cons_append, ← hl, List.reverse_append, List.reverse_reverse]
    show (32 :: l).dropWhile _ = l
    rw [List.dropWhile_cons, if_pos (by decide)]
    exact nodrop (small_blank h)
theorem small_head {l : List UInt8} (h : smallL l) : F0.heading (35 :: 32 :: l) = (1, l) := by
  show headingL (35 :: 32 :: l) = (1, l)
  unfold headingL
  have h1 : runB 35 (35 :: 32 :: l) = 1 := by rw [runB_cons_eq, runB_cons_ne _ (by decide)]
  have ht : headT (32 :: l) = l := by
    unfold headT
    have h35 : Lib.trimRightS l [35] = l := small_trimR h _ fun c hc => by
      have := small_not h hc 35 (by decide)
      simp [this]
    have hs : stripL l = l := small_trim h
    rw [small_strip h]
    dsimp only
    rw [h35, hs]
    split
    · rfl
    · split <;> rfl
  rw [h1]
  dsimp only
  rw [if_neg (by
    intro hh
    rcases hh with hh | hh | hh
    · omega
    · omega
    · exact absurd hh (by show ¬ (blankB 32 = false); decide))]
  show (1, headT (32 :: l)) = _
  rw [ht]
theorem bt_ap (x : ByteArray) (j : Nat) (h : j < x.size) : bt x (j : Int) = ((x.data.toList[j]'(by rw [← Lib.size_eq]; exact h)).toNat : Int) := by
  have := S_bt x.data.toList (j : Int) (by omega) (by rw [← Lib.size_eq]; omega)
  rw [← S_eta] at this
  rw [this]
  congr 2
theorem apart_l0 (xs : List ByteArray) (x : ByteArray) (hs : x.size ≤ 200) (k : Nat) : ∀ (d j : Nat), j + d = x.size →
    rubricatorlaw19_BlockApart.l0 (k + d + 1) xs x (j : Int) = some true ∨ (rubricatorlaw19_BlockApart.l0 (k + d + 1) xs x (j : Int) = rubricatorlaw19_BlockApart.l0 (k + 1) xs x (x.size : Int) ∧ smallL (x.data.toList.drop j)) := by
  intro d
  induction d with
  | zero =>
    intro j hj
    right
    have e : j = x.size := by omega
    subst e
    exact ⟨rfl, fun c hc => by rw [List.drop_eq_nil_of_le (by rw [← Lib.size_eq]; exact Nat.le_refl _)] at hc; cases hc⟩
  | succ d ih =>
    intro j hj
    have hlt : j < x.size := by omega
    have hlt2 : j < x.data.toList.length := by rw [← Lib.size_eq]; exact hlt
    have e : k + (d + 1) + 1 = (k + d + 1) + 1 := by omega
    rw [e, rubricatorlaw19_BlockApart.l0, if_pos (by omega), if_pos (by omega), bt_ap _ _ hlt, wrap_id (by omega) (by omega)]
    by_cases h1 : ((x.data.toList[j].toNat : Nat) : Int) < 97
    · left; rw [if_pos h1, known_yes]; rfl
    · rw [if_neg h1]
      by_cases h2 : ((x.data.toList[j].toNat : Nat) : Int) > 122
      · left; rw [if_pos h2, known_yes]; rfl
      · rw [if_neg h2]
        have := ih (j + 1) (by omega)
        rw [show ((j + 1 : Nat) : Int) = (j : Int) + 1 by omega] at this
        rcases this with h | ⟨h3, h4⟩
        · exact .inl h
        · refine .inr ⟨h3, fun c hc => ?_⟩
          rw [List.drop_eq_getElem_cons hlt2] at hc
          rcases List.mem_cons.1 hc with hc | hc
          · rw [hc]; omega
          · exact h4 c hc
theorem apart_end (xs : List ByteArray) (x : ByteArray) (hw : wsum xs ≤ 1500) (hx : x.size ≤ 200) (hsm : smallL x.data.toList) : ∃ K, ∀ k, K ≤ k → rubricatorlaw19_BlockApart.l0 (k + 1) xs x (x.size : Int) = some true := by
  have hlen := wsum_len xs
  have htot := tot_wsum xs
  obtain ⟨X, y, p1, p2, p3, p4, p5, K, hK⟩ := parse_apart x.data.toList (small_head hsm) (lns xs) (by omega)
  have hl : lns ([(⟨#[35, 32]⟩ : ByteArray) ++ x, (⟨#[]⟩ : ByteArray)] ++ xs) = (35 :: 32 :: x.data.toList) :: [] :: lns xs := by
    have e : ((⟨#[35, 32]⟩ : ByteArray) ++ x).data.toList = 35 :: 32 :: x.data.toList := by
      have e1 : x = S x.data.toList := rfl
      have e2 : (⟨#[35, 32]⟩ : ByteArray) = S [35, 32] := rfl
      rw [e2]
      conv => lhs; rw [e1]
      rw [S_append]
      rfl
    rw [lns_app]
    show ((⟨#[35, 32]⟩ : ByteArray) ++ x).data.toList :: [] :: lns xs = _
    rw [e]
  refine ⟨K, fun k hk => ?_⟩
  have hS := hK k hk
  unfold SameAt at hS
  rw [rubricatorlaw19_BlockApart.l0, if_neg (by omega), if_pos (by omega), Option.bind_some, if_pos (by show 2 + xs.length < _; omega), parse_of _ (by
    rw [hl, tot, tot, List.length_cons, List.length_cons, ← Lib.size_eq]
    show _ + 2 + (0 + 2 + _) ≤ _
    omega), hl, p2, Option.bind_some, parse_of xs (by omega), p1, Option.bind_some]
  have h7 : ((y :: X).length : Int) = wrap64 ((X.length : Int) + 1) := by rw [wrap_id (by omega) (by omega), List.length_cons]; omega
  refine (if_pos h7).trans ((if_pos (by exact Int.ofNat_lt.2 (Nat.succ_pos X.length))).trans ((if_pos p3).trans ((if_pos ?_).trans ((if_pos (by exact Int.ofNat_le.2 (Nat.succ_le_succ (Nat.zero_le X.length)))).trans ?_))))
  · show (y.f4).toList = x.toList
    have e1 : x = S x.data.toList := rfl
    rw [p4, small_trim hsm, S_toList]
    conv => rhs; rw [e1]
    rw [S_toList]
  · refine (congrArg (fun z => Option.bind z _) (hS : _ = some true)).trans ?_
    rw [Option.bind_some, if_pos rfl, known_yes]
    rfl
theorem BlockApart (xs : List ByteArray) (x : ByteArray) (hs : ∀ y ∈ xs, y.size ≤ 140737488351232) (hl : xs.length * 16 ≤ 140737488351232) (hx : x.size ≤ 140737488351232) : ∃ k, rubricatorlaw19_BlockApart.f k xs x = some true := by
  have hj : ∀ k, 0 < k → rubricatorlaw19_BlockApart.j0 k xs x true = some true := fun k hk => by
    obtain ⟨k, rfl⟩ : ∃ m, k = m + 1 := ⟨k - 1, by omega⟩
    rw [rubricatorlaw19_BlockApart.j0, if_pos rfl]
  by_cases hc : wsum xs ≤ 1500 ∧ x.size ≤ 200
  · obtain ⟨hw, hx2⟩ := hc
    have hlen := wsum_len xs
    have hK : ∃ K, ∀ k, K ≤ k → rubricatorlaw19_BlockApart.l0 (k + x.size + 1) xs x 0 = some true := by
      by_cases hsm : smallL x.data.toList
      · obtain ⟨K, hK⟩ := apart_end xs x hw hx2 hsm
        refine ⟨K, fun k hk => ?_⟩
        rcases apart_l0 xs x hx2 k x.size 0 (by omega) with h | ⟨h, _⟩
        · exact h
        · exact h.trans (hK k hk)
      · refine ⟨0, fun k _ => ?_⟩
        rcases apart_l0 xs x hx2 k x.size 0 (by omega) with h | ⟨_, h⟩
        · exact h
        · exact absurd h hsm
    obtain ⟨K, hK⟩ := hK
    refine ⟨(K + xs.length) + x.size + 1 + 1, ?_⟩
    unfold rubricatorlaw19_BlockApart.f
    rcases heavy_is xs hs (by omega) ((K + xs.length) + x.size + 1 + 1) (by omega) with h | ⟨h, _⟩
    · rw [h, Option.bind_some, if_pos rfl]; exact hj _ (by omega)
    · rw [h, Option.bind_some, if_neg (by simp), decide_eq_false (by omega), rubricatorlaw19_BlockApart.j0, if_neg (by simp)]
      exact hK (K + xs.length) (by omega)
  · refine ⟨xs.length + 1, ?_⟩
    unfold rubricatorlaw19_BlockApart.f
    rcases heavy_is xs hs (by omega) (xs.length + 1) (by omega) with h | ⟨h, hw⟩
    · rw [h, Option.bind_some, if_pos rfl]
      exact hj _ (by omega)
    · rw [h, Option.bind_some, if_neg (by simp), decide_eq_true (by omega)]
      exact hj _ (by omega)
end Go.Proofs.YtpimcdkhjingjaaGreatDoor.Pure
