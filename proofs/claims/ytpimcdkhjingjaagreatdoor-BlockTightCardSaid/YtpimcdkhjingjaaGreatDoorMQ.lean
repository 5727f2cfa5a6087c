/- BlockTight, in plain words: it answers true for every input. -/
import Derived.Test.YtpimcdkhjingjaaGreatDoorMT
import Derived.Test.YtpimcdkhjingjaaGreatDoorMN
import Derived.Test.YtpimcdkhjingjaaGreatDoorMP
import Derived.Test.YtpimcdkhjingjaaGreatDoorCards
import Derived.Test.YtpimcdkhjingjaaGreatDoorTie
import Derived.SevenTiedAt
import Derived.OpenShut
import Derived.ShutString
import Derived.ChangeOld
set_option linter.unusedVariables false
set_option linter.unusedSimpArgs false
set_option linter.unusedSectionVars false
namespace Go.Proofs.YtpimcdkhjingjaaGreatDoor.Pure
open Go.RowKit Go.Proofs.YtpimcdkhjingjaaGreatDoor.PBlk Go.Proofs.YtpimcdkhjingjaaGreatDoorW.PrintWords Go.Proofs.YtpimcdkhjingjaaGreatDoor.X

set_option maxRecDepth 100000 in
theorem known_true : rubricatorlaw19_known.f = some true := by decide +kernel
theorem lns_S (l : List (List UInt8)) : lns (l.map S) = l := map_S l
theorem parse_S (l : List (List UInt8)) (h : tot l ≤ 4000000) : block_Parse.f (l.map S) = some (tupT (parseT F0 l)) := by
  unfold block_Parse.f
  rw [lns_S, if_pos h]
theorem rd0 (l : List S27) : rd_T27 l 0 = l.getD 0 z27 := rfl
theorem tight_end {n : Nat} {a : Int} {b : Bool} (h : tightChk n a b = true) (k i : Nat) (hi : n ≤ i) : rubricatorlaw19_BlockTight.l0 (k + 1) (n : Int) a b ((tightGo a b n 0).map S) (i : Int) = some true := by
  unfold tightChk at h
  rw [Bool.and_eq_true, Bool.and_eq_true, Bool.and_eq_true, Bool.and_eq_true] at h
  obtain ⟨h0, h1, h2, h3, h4⟩ := h
  have h0 := of_decide_eq_true h0
  have h1 := of_decide_eq_true h1
  have h2 := of_decide_eq_true h2
  have h3 := of_decide_eq_true h3
  rw [rubricatorlaw19_BlockTight.l0, if_neg (by omega), parse_S _ h0, Option.bind_some]
  obtain ⟨t, ht⟩ : ∃ t, t = parseT F0 (tightGo a b n 0) := ⟨_, rfl⟩
  rw [← ht] at h1 h2 h3 h4 ⊢
  clear ht h0
  have e7 : (tupT t).2.2.2.2.2.2.2 = t.f7 := rfl
  rw [e7, rd0, if_pos (by omega), if_pos (by omega), if_pos h2, if_pos (by omega), if_pos h4, known_true, Option.bind_some]
theorem tight_l0 {n : Nat} {a : Int} {b : Bool} (h : tightChk n a b = true) (hn : n ≤ 20) : ∀ (r i k : Nat) (acc : List (List UInt8)), i + r = n → acc.length ≤ 3 * i → acc ++ tightGo a b r i = tightGo a b n 0 →
    rubricatorlaw19_BlockTight.l0 (k + 2 * r + 1) (n : Int) a b (acc.map S) (i : Int) = some true
  | 0, i, k, acc, hi, hl, he => by
    have e : acc = tightGo a b n 0 := by rw [← he]; simp [tightGo]
    rw [e]
    exact tight_end h _ i (by omega)
  | r + 1, i, k, acc, hi, hl, he => by
    have ek : k + 2 * (r + 1) + 1 = (k + 2 * r + 1) + 1 + 1 := by omega
    rw [ek, rubricatorlaw19_BlockTight.l0, if_pos (by omega), List.length_map, if_pos (by omega), Option.bind_some]
    have hm : (acc.map S) ++ [(⟨#[45, 32, 97]⟩ : ByteArray)] = (acc ++ [[45, 32, 97]]).map S := by rw [List.map_append]; rfl
    rw [hm]
    have hw : wrap64 ((i : Int) + 1) = ((i + 1 : Nat) : Int) := by rw [wrap_id (by omega) (by omega)]; omega
    have hgo : tightGo a b (r + 1) i = [45, 32, 97] :: (tightMore a b i ++ tightGo a b r (i + 1)) := rfl
    by_cases hia : (i : Int) = a
    · cases b with
      | true =>
        rw [if_pos rfl, beq_iff_eq.2 hia, rubricatorlaw19_BlockTight.j2, if_pos rfl, Option.bind_some, if_pos (by rw [List.length_map, List.length_append]; simp; omega), hw]
        have hm2 : (acc ++ [[45, 32, 97]]).map S ++ [(⟨#[]⟩ : ByteArray), (⟨#[32, 32, 98]⟩ : ByteArray)] = (acc ++ [[45, 32, 97]] ++ [[], [32, 32, 98]]).map S := by rw [List.map_append (l₁ := acc ++ [[45, 32, 97]])]; rfl
        rw [hm2]
        refine tight_l0 h hn r (i + 1) k _ (by omega) (by simp; omega) ?_
        rw [← he, hgo]
        unfold tightMore
        rw [if_pos hia, if_pos rfl]
        simp
      | false =>
        rw [if_neg (by simp), rubricatorlaw19_BlockTight.j2, if_neg (by simp), if_pos hia, if_pos (by rw [List.length_map, List.length_append]; simp; omega), hw]
        have hm2 : (acc ++ [[45, 32, 97]]).map S ++ [(⟨#[]⟩ : ByteArray)] = (acc ++ [[45, 32, 97]] ++ [[]]).map S := by rw [List.map_append (l₁ := acc ++ [[45, 32, 97]])]; rfl
        rw [hm2]
        refine tight_l0 h hn r (i + 1) k _ (by omega) (by simp; omega) ?_
        rw [← he, hgo]
        unfold tightMore
        rw [if_pos hia, if_neg (by simp)]
        simp
    · have hnext : rubricatorlaw19_BlockTight.l0 (k + 2 * r + 1) (n : Int) a b ((acc ++ [[45, 32, 97]]).map S) (wrap64 ((i : Int) + 1)) = some true := by
        rw [hw]
        refine tight_l0 h hn r (i + 1) k _ (by omega) (by simp; omega) ?_
        rw [← he, hgo]
        unfold tightMore
        rw [if_neg hia]
        simp
      have hj : rubricatorlaw19_BlockTight.j2 (k + 2 * r + 1 + 1) (n : Int) a b ((acc ++ [[45, 32, 97]]).map S) (i : Int) false = some true := by
        rw [rubricatorlaw19_BlockTight.j2, if_neg (by simp), if_neg hia]
        exact hnext
      cases b with
      | true =>
        rw [if_pos rfl, beq_eq_false_iff_ne.2 hia]
        exact hj
      | false =>
        rw [if_neg (by simp)]
        exact hj
theorem BlockTight : rubricatorlaw19_BlockTight.Pure := by
  intro a0 a1 a2 w0 w1
  refine ⟨60, ?_⟩
  have hk : rubricatorlaw19_BlockTight.j0 60 a0 a1 a2 true = some true := by rw [rubricatorlaw19_BlockTight.j0, if_pos rfl, known_true, Option.bind_some]
  unfold rubricatorlaw19_BlockTight.f
  by_cases h1 : a0 < 2
  · rw [if_pos h1]; exact hk
  · rw [if_neg h1]
    by_cases h2 : a0 > 20
    · rw [if_pos h2]; exact hk
    · rw [if_neg h2]
      by_cases h3 : a1 < -1
      · rw [if_pos h3]; exact hk
      · rw [if_neg h3, wrap_id (by omega) (by omega)]
        by_cases h4 : a1 ≥ a0 - 1
        · rw [decide_eq_true h4]; exact hk
        · rw [decide_eq_false h4, rubricatorlaw19_BlockTight.j0, if_neg (by simp)]
          obtain ⟨n, hn⟩ : ∃ n : Nat, (n : Int) = a0 := ⟨a0.toNat, by omega⟩
          subst hn
          have hc := tight_one a2 (n := n) (a := a1) (by omega) (by omega) (by omega) (by omega)
          have := tight_l0 hc (by omega) n 0 (58 - 2 * n) [] (by omega) (Nat.le_refl _) rfl
          have e : 58 - 2 * n + 2 * n + 1 = 59 := by omega
          rw [e] at this
          exact this
end Go.Proofs.YtpimcdkhjingjaaGreatDoor.Pure

/- For every input the law BlockTight answers true; each argument reads afterwards as it read before; the listed variables are tied to the program's text (a tied card). -/
namespace Go.Proofs.YtpimcdkhjingjaaGreatDoor.RowBlockTight
open Go.ChangeShapes Go.WideShapes Go.ChangeAt Go.RowKit Go.Proofs.YtpimcdkhjingjaaGreatDoor.X
open Go.ChangeMaps (open_string shut_string)
set_option maxRecDepth 100000 in
theorem lifted (os : Os) (started : os.Started) (H : Type) (enc : TypeId × Value → H) :
    ReturnsInHanded {} Tryz.checked os 10 .any (fun w args => (Rows.blockTightSpec.pre enc Tryz.prog Tryz.f10 [] false w args ∧ laidMetH Tryz.prog Rows.blockTightRow.laid w) ∧ sizedMet enc Tryz.prog Tryz.f10 (OpenSpec.ofChange Rows.blockTightSpec) false w args)
      (Rows.blockTightSpec.post enc Tryz.prog Tryz.f10 false true false false) := by
  refine returnsInHanded_of_change_and (C := Tryz.checked) (X := fun w _ => laidMetH Tryz.prog Rows.blockTightRow.laid w) (fun _ _ _ hh h => h.of_heap hh) own started (by kernel_rfl) Tryz.func10
    (ChangeSpec.witness_at (enc := enc) (C := Tryz.checked) (os := os) (X := fun w _ => laidMetH Tryz.prog Rows.blockTightRow.laid w) false (laidWorld os) #[.int .i64 0, .int .i64 0, .bool false] 8 rfl (by kernel_rfl) (by kernel_rfl) (by kernel_rfl) (by kernel_rfl) (by kernel_rfl) (laid_metH os _)) ?_
  intro W base args ds gs before hval0 hW hcnd hsz0 hL _
  have hG : GL W := gl_of_laidH hL
  have hsz : (DataW.weightsEach Tryz.prog (Tryz.f10.params.toList ++ Rows.blockTightSpec.plain.varTypes Tryz.prog) (ds ++ gs)).all (· ≤ reachBytes) = true := hsz0
  have hval : ∀ (j : Nat) t v, Tryz.f10.params[j]? = some t → args[j]? = some v → Value.okWide Tryz.prog W .any base t v := hval0
  have hW' := hW
  obtain ⟨p, q, hA0, hV, rfl, hfz, hnd⟩ := hW
  have hA : DataW.TrodAll enc Tryz.prog W 0 (fun _ => true) true Tryz.f10.params.toList args.toList ds p := hA0
  rw [Tryz.params10] at hA hval hsz
  obtain ⟨v0, vs0, d0, ds0, p0, q0, hargs, rfl, rfl, h0, r0⟩ := trodAll_cons hA
  obtain ⟨v1, vs1, d1, ds1, p1, q1, rfl, rfl, rfl, h1, r1⟩ := trodAll_cons r0
  obtain ⟨v2, vs2, d2, ds2, p2, q2, rfl, rfl, rfl, h2, r2⟩ := trodAll_cons r1
  obtain ⟨rfl, rfl, rfl⟩ := trodAll_nil r2
  obtain rfl : args = #[v0, v1, v2] := by cases args; simp_all
  obtain ⟨rfl, rfl⟩ := trodVars_none hV
  obtain ⟨a0, rfl, rfl, rfl, w0⟩ := open_int Tryz.underlying3 (hval 0 3 v0 rfl rfl) h0
  obtain ⟨a1, rfl, rfl, rfl, w1⟩ := open_int Tryz.underlying3 (hval 1 3 v1 rfl rfl) h1
  obtain ⟨a2, rfl, rfl, rfl⟩ := open_bool Tryz.underlying4 (hval 2 4 v2 rfl rfl) h2
  clear hA0 hval0 hsz0 hsz
  refine (PBlk.rubricatorlaw19_BlockTight.walk Pure.BlockTight a0 a1 a2 W w0 w1 hG).mono fun e W' ⟨he, bel⟩ => ?_
  subst he
  exact ⟨_, rfl, _, _, _, [], _, [], hW', trodAll_mk1 (shut_bool Tryz.underlying4 _), (trodAll_cons_mk (shut_int Tryz.underlying3 w0) (trodAll_cons_mk (shut_int Tryz.underlying3 w1) (trodAll_cons_mk (shut_bool Tryz.underlying4 _) trodAll_mk0))), rfl, bel.frame _, fun h => by cases h⟩
theorem over : Rows.blockTightRow.holds Tryz.pinned (OpenSpec.ofChange Rows.blockTightSpec) :=
  OpenClaim.holds_of_wide 10 Tryz.f10 rfl rfl rfl rfl rfl rfl rfl ⟨rfl, rfl, rfl, rfl, rfl⟩ rfl rfl rfl rfl rfl (by kernel_rfl) Tryz.func10 (by kernel_rfl)
    (of_decide_eq_true (by kernel_rfl)) (by unfold Func.isWrapper; first | (rw [if_pos (by decide +kernel)]; kernel_rfl) | (rw [if_neg (by decide +kernel)]; exact ⟨rfl, rfl⟩))
    (fun os started H enc _ => lifted os started H enc)
theorem card : Claim7.holds Tryz.pinned (.plain (OpenSpec.ofChange Rows.blockTightSpec)) Rows.blockTightCard :=
  Claim7.holds_tied_plain_at .later [] [.data, .data, .data, .data, .sentinel, .sentinel, .pinned] true Rows.blockTightCard.stood.harness true
    over (fun _ h => by cases h) (by kernel_rfl) (fun _ h => by cases h) blockTight_row_tie rfl ⟨rfl, rfl⟩ (by kernel_rfl) rfl
    (fun f fn hf hfn => by
      obtain rfl : f = 10 := Option.some.inj ((show Tryz.prog.funcNamed "rubricator/rubricatorlaw19.BlockTight" = some 10 by kernel_rfl).symm.trans hf) |>.symm
      obtain rfl : fn = Tryz.f10 := (Option.some.inj (Tryz.func10.symm.trans hfn)).symm
      exact ⟨by kernel_rfl, noStand (by kernel_rfl)⟩)
    (by kernel_rfl)
end Go.Proofs.YtpimcdkhjingjaaGreatDoor.RowBlockTight
namespace Go.Proofs.YtpimcdkhjingjaaGreatDoor
theorem blockTight_holds : Rows.BlockTightCardSaid := RowBlockTight.card
#print axioms blockTight_holds
end Go.Proofs.YtpimcdkhjingjaaGreatDoor
