/- A merged text (wip/mkclaim.py). -/
import Derived.Test.YtpimcdkhjingjaaGreatDoorQBV
import Derived.Test.YtpimcdkhjingjaaGreatDoorQBW
set_option linter.unusedVariables false
set_option linter.unusedSimpArgs false
set_option linter.unusedSectionVars false
set_option linter.unusedVariables false
namespace Go.Proofs.YtpimcdkhjingjaaGreatDoor.Pure
open Go.RowKit Go.Proofs.YtpimcdkhjingjaaGreatDoor.PBlk Go.Proofs.YtpimcdkhjingjaaGreatDoorW.PrintWords Go.Proofs.YtpimcdkhjingjaaGreatDoor.X Go.Proofs.YtpimcdkhjingjaaGreatDoor.PLBl
abbrev nilB : ByteArray := ⟨#[]⟩
theorem rep_snoc (base : List ByteArray) (i : Nat) : base ++ List.replicate i nilB ++ [nilB] = base ++ List.replicate (i + 1) nilB := by
  rw [List.append_assoc, ← List.replicate_succ']
theorem blanks_l1 (t : S27) (K : Nat) (hK : ∀ k, K ≤ k → SameAt k t) (beh : Nat) (base : List ByteArray) (op : Bool) (hp : op = false → block_Parse.f (base ++ List.replicate beh nilB) = some (tupT t)) (hb : base.length + beh ≤ 100000) :
    ∀ (d k i : Nat), i + d = beh → K + d + 1 ≤ k → rubricatorlaw19_BlockBlanks.l1 k (beh : Int) (base ++ List.replicate i nilB) true op (i : Int) t.f0 t.f1 t.f2 t.f3 t.f4 t.f5 t.f6 t.f7 = some true := by
  intro d
  induction d with
  | zero =>
    intro k i hi hk
    obtain ⟨k, rfl⟩ : ∃ m, k = m + 1 := ⟨k - 1, by omega⟩
    have e : i = beh := by omega
    subst e
    rw [rubricatorlaw19_BlockBlanks.l1, if_neg (by omega), if_pos rfl]
    cases op with
    | true => rw [if_pos rfl, known_yes]; rfl
    | false =>
      rw [if_neg (by simp), hp rfl, Option.bind_some]
      have hs : SameAt k t := hK k (by omega)
      unfold SameAt at hs
      dsimp only [tupT]
      rw [hs, Option.bind_some, if_pos rfl, known_yes]
      rfl
  | succ d ih =>
    intro k i hi hk
    obtain ⟨k, rfl⟩ : ∃ m, k = m + 1 := ⟨k - 1, by omega⟩
    rw [rubricatorlaw19_BlockBlanks.l1, if_pos (by omega), if_pos (by rw [List.length_append, List.length_replicate]; omega), rep_snoc, wrap_id (by omega) (by omega)]
    have := ih k (i + 1) (by omega) (by omega)
    rw [show ((i + 1 : Nat) : Int) = (i : Int) + 1 by omega] at this
    exact this
theorem last_rd (l : List S27) (h : 0 < l.length) (hl : l.length ≤ 4611686018427387904) : l.getLast? = some (rd_T27 l (wrap64 ((l.length : Int) - 1))) ∧ 0 ≤ wrap64 ((l.length : Int) - 1) ∧ wrap64 ((l.length : Int) - 1) < (l.length : Int) := by
  rw [wrap_id (by omega) (by omega)]
  refine ⟨?_, by omega, by omega⟩
  have e : ((l.length : Int) - 1).toNat = l.length - 1 := by omega
  show _ = some (l.getD ((l.length : Int) - 1).toNat z27)
  rw [e, List.getLast?_eq_getElem?, List.getD_eq_getElem?_getD, List.getElem?_eq_getElem (by omega)]
  rfl
theorem blanks_end (xs : List ByteArray) (hw : wsum xs ≤ 1500) (a b : Nat) (ha : a ≤ 20) (hb : b ≤ 20) : ∃ K, ∀ k, K ≤ k → rubricatorlaw19_BlockBlanks.l0 (k + 1) xs (a : Int) (b : Int) (List.replicate a nilB) (a : Int) = some true := by
  have hlen := wsum_len xs
  have htot := tot_wsum xs
  have hl1 : tot (lns (List.replicate a nilB ++ xs)) ≤ 4000000 := by rw [lns_app, lns_nils, tot_app, tot_nils]; omega
  obtain ⟨t, ht⟩ : ∃ t, t = parseT F0 (lns xs) := ⟨_, rfl⟩
  obtain ⟨K, hK⟩ := same_parse (lns xs) (by omega)
  rw [← ht] at hK
  have p1 : block_Parse.f (List.replicate a nilB ++ xs) = some (tupT t) := by
    rw [parse_of _ hl1, lns_app, lns_nils, parseT_blanks a _ (by omega), ht]
  have p2 : block_Parse.f xs = some (tupT t) := by rw [parse_of _ (by omega), ht]
  have hkl : t.f7.length ≤ 4611686018427387904 := by
    obtain ⟨f, _, e⟩ := parseT_doc (lns xs)
    rw [ht, e]
    simp only [List.length_map]
    exact parse_kidl (lns xs) (by omega) 0
  have hj2 : ∀ op : Bool, (op = false → shutT t) → ∀ k, K + b + 2 ≤ k → rubricatorlaw19_BlockBlanks.j2 k (b : Int) (List.replicate a nilB ++ xs) true op t.f0 t.f1 t.f2 t.f3 t.f4 t.f5 t.f6 t.f7 = some true := by
    intro op hop k hk
    obtain ⟨k, rfl⟩ : ∃ m, k = m + 1 := ⟨k - 1, by omega⟩
    rw [rubricatorlaw19_BlockBlanks.j2]
    have := blanks_l1 t K hK b (List.replicate a nilB ++ xs) op (fun h => by
      have hs := hop h
      rw [parse_of _ (by rw [lns_app, lns_nils, tot_app, tot_nils, lns_app, lns_nils, tot_app, tot_nils]; omega), lns_app, lns_nils, lns_app, lns_nils]
      have e1 := parseT_blanks a (lns xs) (by omega)
      have := parseT_behind b (List.replicate a [] ++ lns xs) (by rw [← lns_nils, ← lns_app]; exact hl1) (by rw [e1, ← ht]; exact hs)
      rw [this, e1, ht]) (by rw [List.length_append, List.length_replicate]; omega) b k 0 (by omega) (by omega)
    rw [List.replicate_zero, List.append_nil] at this
    exact this
  refine ⟨K + b + 2, fun k hk => ?_⟩
  have hs : SameAt k t := hK k (by omega)
  unfold SameAt at hs
  rw [rubricatorlaw19_BlockBlanks.l0, if_neg (by omega), if_pos (by rw [List.length_replicate]; omega), Option.bind_some, p1, Option.bind_some, p2, Option.bind_some]
  dsimp only [tupT]
  rw [hs, Option.bind_some]
  by_cases h0 : (t.f7.length : Int) > 0
  · obtain ⟨l1, l2, l3⟩ := last_rd t.f7 (by omega) hkl
    refine (if_pos h0).trans ((if_pos l2).trans ((if_pos l3).trans ?_))
    by_cases e2 : (rd_T27 t.f7 (wrap64 ((t.f7.length : Int) - 1))).f0 = 2
    · refine (if_pos e2).trans ?_
      exact hj2 false (fun _ y hy => by rw [l1] at hy; injection hy with hy; subst hy; exact .inl e2) k (by omega)
    · refine (if_neg e2).trans ?_
      by_cases e3 : (rd_T27 t.f7 (wrap64 ((t.f7.length : Int) - 1))).f0 = 3
      · refine (if_pos e3).trans ?_
        exact hj2 false (fun _ y hy => by rw [l1] at hy; injection hy with hy; subst hy; exact .inr (.inl e3)) k (by omega)
      · refine (if_neg e3).trans ?_
        exact hj2 _ (fun h y hy => by rw [l1] at hy; injection hy with hy; subst hy; exact .inr (.inr (bne_eq_false_iff_eq.1 h))) k (by omega)
  · refine (if_neg h0).trans ?_
    have hnil : t.f7 = [] := List.length_eq_zero_iff.1 (by omega)
    exact hj2 false (fun _ y hy => by rw [hnil] at hy; cases hy) k (by omega)
theorem blanks_l0 (xs : List ByteArray) (hl : xs.length ≤ 1500) (a : Nat) (ha : a ≤ 20) (b : Int) : ∀ (d k i : Nat), i + d = a →
    rubricatorlaw19_BlockBlanks.l0 (k + d + 1) xs (a : Int) b (List.replicate i nilB) (i : Int) = rubricatorlaw19_BlockBlanks.l0 (k + 1) xs (a : Int) b (List.replicate a nilB) (a : Int) := by
  intro d
  induction d with
  | zero => intro k i hi; have e : i = a := by omega
            subst e; rfl
  | succ d ih =>
    intro k i hi
    have e : k + (d + 1) + 1 = (k + d + 1) + 1 := by omega
    rw [e, rubricatorlaw19_BlockBlanks.l0, if_pos (by omega), if_pos (by rw [List.length_replicate]; omega), wrap_id (by omega) (by omega)]
    have := ih k (i + 1) (by omega)
    rw [show ((i + 1 : Nat) : Int) = (i : Int) + 1 by omega] at this
    have e2 : List.replicate i nilB ++ [nilB] = List.replicate (i + 1) nilB := (List.replicate_succ').symm
    rw [e2]
    exact this
theorem BlockBlanks (xs : List ByteArray) (a b : Int) (hs : ∀ x ∈ xs, x.size ≤ 140737488351232) (hl : xs.length * 16 ≤ 140737488351232) : ∃ k, rubricatorlaw19_BlockBlanks.f k xs a b = some true := by
  have hj : ∀ k, 0 < k → rubricatorlaw19_BlockBlanks.j0 k xs a b true = some true := fun k hk => by
    obtain ⟨k, rfl⟩ : ∃ m, k = m + 1 := ⟨k - 1, by omega⟩
    rw [rubricatorlaw19_BlockBlanks.j0, if_pos rfl]
  by_cases hr : 0 ≤ a ∧ a ≤ 20 ∧ 0 ≤ b ∧ b ≤ 20
  · obtain ⟨h1, h2, h3, h4⟩ := hr
    obtain ⟨m, rfl⟩ : ∃ m : Nat, a = (m : Int) := ⟨a.toNat, by omega⟩
    obtain ⟨n, rfl⟩ : ∃ n : Nat, b = (n : Int) := ⟨b.toNat, by omega⟩
    by_cases hw : wsum xs ≤ 1500
    · obtain ⟨K, hK⟩ := blanks_end xs hw m n (by omega) (by omega)
      refine ⟨(K + xs.length) + m + 1 + 1, ?_⟩
      unfold rubricatorlaw19_BlockBlanks.f
      rcases heavy_is xs hs (by omega) ((K + xs.length) + m + 1 + 1) (by omega) with h | ⟨h, _⟩
      · rw [h, Option.bind_some, if_pos rfl]
        exact hj _ (by omega)
      · rw [h, Option.bind_some, if_neg (by simp), if_neg (by omega), if_neg (by omega), if_neg (by omega), decide_eq_false (by omega), rubricatorlaw19_BlockBlanks.j0, if_neg (by simp)]
        have h0 := blanks_l0 xs (by have := wsum_len xs; omega) m (by omega) (n : Int) m (K + xs.length) 0 (by omega)
        have h1 := hK (K + xs.length) (by omega)
        rw [h1] at h0
        exact h0
    · refine ⟨xs.length + 1, ?_⟩
      unfold rubricatorlaw19_BlockBlanks.f
      rcases heavy_is xs hs (by omega) (xs.length + 1) (by omega) with h | ⟨_, h⟩
      · rw [h, Option.bind_some, if_pos rfl]
        exact hj _ (by omega)
      · exact absurd h hw
  · refine ⟨xs.length + 1, ?_⟩
    unfold rubricatorlaw19_BlockBlanks.f
    have hh : ∃ x, rubricatorlaw19_heavy.f (xs.length + 1) xs = some x := by
      rcases heavy_is xs hs (by omega) (xs.length + 1) (by omega) with h | ⟨h, _⟩
      · exact ⟨_, h⟩
      · exact ⟨_, h⟩
    obtain ⟨x, hx⟩ := hh
    rw [hx, Option.bind_some]
    have hjj := hj (xs.length + 1) (by omega)
    cases x with
    | true => rw [if_pos rfl]; exact hjj
    | false =>
      rw [if_neg (by simp)]
      by_cases g1 : a < 0
      · rw [if_pos g1]; exact hjj
      · rw [if_neg g1]
        by_cases g2 : a > 20
        · rw [if_pos g2]; exact hjj
        · rw [if_neg g2]
          by_cases g3 : b < 0
          · rw [if_pos g3]; exact hjj
          · rw [if_neg g3, decide_eq_true (by omega)]; exact hjj
end Go.Proofs.YtpimcdkhjingjaaGreatDoor.Pure
