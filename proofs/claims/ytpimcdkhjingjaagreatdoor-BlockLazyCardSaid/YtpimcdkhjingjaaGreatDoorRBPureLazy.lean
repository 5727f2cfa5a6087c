/- A merged text (wip/mkclaim.py). -/
import Derived.Test.YtpimcdkhjingjaaGreatDoorRBLazy
import Derived.Test.YtpimcdkhjingjaaGreatDoorRBPLLa1
import Derived.Test.YtpimcdkhjingjaaGreatDoorRBS
import Derived.Laws.BitsLemmas
set_option linter.unusedVariables false
set_option linter.unusedSimpArgs false
set_option linter.unusedSectionVars false
set_option linter.unusedVariables false
namespace Go.Proofs.YtpimcdkhjingjaaGreatDoor.Pure
open Go.RowKit Go.Proofs.YtpimcdkhjingjaaGreatDoor.PBlk Go.Proofs.YtpimcdkhjingjaaGreatDoorW.PrintWords Go.Proofs.YtpimcdkhjingjaaGreatDoor.X Go.Proofs.YtpimcdkhjingjaaGreatDoor.PLLa
theorem and1023z (n : Int) : bits .and .i64 n 1023 = n % 1024 := by
  have h127 : (BitVec.ofInt 64 1023).toNat = 2 ^ 10 - 1 := by decide
  have key : (BitVec.ofInt 64 n &&& BitVec.ofInt 64 1023).toNat = (n % ((2 ^ 64 : Nat) : Int)).toNat % 2 ^ 10 := by
    rw [BitVec.toNat_and, BitVec.toNat_ofInt, h127, Nat.and_two_pow_sub_one_eq_mod]
  show IntKind.i64.wrap ((BitVec.ofInt 64 n &&& BitVec.ofInt 64 1023).toNat : Nat) = n % 1024
  rw [key, IntKind.wrap_i64]
  omega
theorem bt_lz (x : ByteArray) (j : Nat) (h : j < x.size) : bt x (j : Int) = ((x.data.toList[j]'(by rw [← Lib.size_eq]; exact h)).toNat : Int) := by
  have := S_bt x.data.toList (j : Int) (by omega) (by rw [← Lib.size_eq]; omega)
  rw [← S_eta] at this
  rw [this]
  congr 2
theorem word_l0 (x : ByteArray) (hs : x.size ≤ 140737488351232) (k : Nat) : ∀ (d j : Nat), j + d = x.size → (∀ i (h : i < x.data.toList.length), i < j → 97 ≤ (x.data.toList[i]).toNat ∧ (x.data.toList[i]).toNat ≤ 122) →
    ∃ b, rubricatorlaw19_word.l0 (k + d + 1) x (j : Int) = some b ∧ (b = true → wordL x.data.toList ∧ x.size < 50) := by
  intro d
  induction d with
  | zero =>
    intro j hj hall
    rw [Nat.add_zero, rubricatorlaw19_word.l0, if_neg (by omega)]
    have hsz := Lib.size_eq x
    by_cases h0 : (x.size : Int) > 0
    · rw [if_pos h0]
      refine ⟨_, rfl, fun h => ⟨⟨fun e => by have h9 : x.data.toList.length = 0 := congrArg List.length e; omega, fun c hc => ?_⟩, by have := of_decide_eq_true h; omega⟩⟩
      obtain ⟨i, hi, rfl⟩ := List.getElem_of_mem hc
      exact hall i hi (by omega)
    · rw [if_neg h0]
      exact ⟨false, rfl, fun h => by cases h⟩
  | succ d ih =>
    intro j hj hall
    have hlt : j < x.size := by omega
    have hlt2 : j < x.data.toList.length := by rw [← Lib.size_eq]; exact hlt
    have e : k + (d + 1) + 1 = (k + d + 1) + 1 := by omega
    rw [e, rubricatorlaw19_word.l0, if_pos (by omega), if_pos (by omega), bt_lz _ _ hlt, wrap_id (by omega) (by omega)]
    by_cases h1 : ((x.data.toList[j].toNat : Nat) : Int) < 97
    · rw [if_pos h1]; exact ⟨false, rfl, fun h => by cases h⟩
    · rw [if_neg h1]
      by_cases h2 : ((x.data.toList[j].toNat : Nat) : Int) > 122
      · rw [if_pos h2]; exact ⟨false, rfl, fun h => by cases h⟩
      · rw [if_neg h2]
        have := ih (j + 1) (by omega) (fun i hi hij => by
          by_cases e2 : i = j
          · subst e2; omega
          · exact hall i hi (by omega))
        rw [show ((j + 1 : Nat) : Int) = (j : Int) + 1 by omega] at this
        exact this
theorem word_is (x : ByteArray) (hs : x.size ≤ 140737488351232) (k : Nat) (hk : x.size + 1 ≤ k) : ∃ b, rubricatorlaw19_word.f k x = some b ∧ (b = true → wordL x.data.toList ∧ x.size < 50) := by
  obtain ⟨m, rfl⟩ : ∃ m, k = m + x.size + 1 := ⟨k - x.size - 1, by omega⟩
  exact word_l0 x hs m x.size 0 (by omega) (fun i _ h => by omega)
theorem rule_some (x : ByteArray) (hs : x.size ≤ 140737488351232) (k : Nat) : ∀ (d j : Nat) (n : Int), j + d = x.size → ∃ b, rubricatorlaw19_rule.l0 (k + d + 1) x n (j : Int) = some b := by
  intro d
  induction d with
  | zero =>
    intro j n hj
    rw [Nat.add_zero, rubricatorlaw19_rule.l0, if_neg (by omega)]
    exact ⟨_, rfl⟩
  | succ d ih =>
    intro j n hj
    have e : k + (d + 1) + 1 = (k + d + 1) + 1 := by omega
    rw [e, rubricatorlaw19_rule.l0, if_pos (by omega), if_pos (by omega), wrap_id (i := (j : Int) + 1) (by omega) (by omega)]
    have e1 : ((j + 1 : Nat) : Int) = (j : Int) + 1 := by omega
    split
    · have := ih (j + 1) (wrap64 (n + 1)) (by omega)
      rw [e1] at this; exact this
    · split
      · have := ih (j + 1) n (by omega)
        rw [e1] at this; exact this
      · exact ⟨_, rfl⟩
theorem lazy_text (a b : List UInt8) (hb : wordL b) : Lib.trimRightS (Lib.join [a, b] [10]) [32, 9] = a ++ [10] ++ b := by
  have e : Lib.join [a, b] [10] = a ++ [10] ++ b := by simp [Lib.join, List.intercalate, List.intersperse]
  rw [e]
  unfold Lib.trimRightS
  rw [List.reverse_append]
  cases h : b.reverse with
  | nil => exact absurd (List.reverse_eq_nil_iff.1 h) hb.1
  | cons c t =>
    have hc : c ∈ b := List.mem_reverse.1 (by rw [h]; exact List.mem_cons_self)
    rw [List.cons_append, List.dropWhile_cons, if_neg (by rw [contains_blank', small_nb (hb.2 c hc).1]; decide), ← List.cons_append, ← h, ← List.reverse_append, List.reverse_reverse]
theorem lazy_l2 (x1 x2 : ByteArray) (h1 : x1.size ≤ 100) (h2 : x2.size ≤ 100) (hb : wordL x2.data.toList) {s : St} (h : ParaEnd s [x1.data.toList, x2.data.toList]) (k : Nat) : ∀ (d i : Nat), i + d + 1 = s.bs.length →
    rubricatorlaw19_BlockLazy.l2 (k + d + 1) x1 x2 (s.tree (d + 1) i).f0 (s.tree (d + 1) i).f1 (s.tree (d + 1) i).f2 (s.tree (d + 1) i).f3 (s.tree (d + 1) i).f4 (s.tree (d + 1) i).f5 (s.tree (d + 1) i).f6 (s.tree (d + 1) i).f7 = some true := by
  intro d
  induction d with
  | zero =>
    intro i hi
    have hh := h.chain.here
    have e : i = s.here := by omega
    subst e
    have hkids : (s.get s.here).kids = [] := by rw [h.chain.kids s.here (by omega), if_neg (by omega)]
    have e7 : (s.tree (0 + 1) s.here).f7 = [] := by rw [St.tree, hkids]; rfl
    have e0 : (s.tree (0 + 1) s.here).f0 = 2 := by rw [St.tree, h.para]; rfl
    have e4 : (s.tree (0 + 1) s.here).f4 = S (x1.data.toList ++ [10] ++ x2.data.toList) := by
      rw [St.tree]
      show S (s.get s.here).text = _
      unfold Blk.text
      rw [if_pos h.para, h.lines, lazy_text _ _ hb]
    have hc : (x1 ++ (⟨#[10]⟩ : ByteArray)) ++ x2 = S (x1.data.toList ++ [10] ++ x2.data.toList) := by
      have g1 : x1 = S x1.data.toList := rfl
      have g2 : x2 = S x2.data.toList := rfl
      have g3 : (⟨#[10]⟩ : ByteArray) = S [10] := rfl
      conv => lhs; rw [g1, g2, g3]
      rw [S_append, S_append]
    have hz : (⟨#[10]⟩ : ByteArray).size = 1 := rfl
    rw [Nat.add_zero, rubricatorlaw19_BlockLazy.l2, e7, e0, e4, if_neg (by show ¬ ((0 : Nat) : Int) = 1; decide), if_pos rfl, if_pos (by omega), if_pos (by rw [ByteArray.size_append]; omega), hc, if_pos rfl, known_yes]
    rfl
  | succ d ih =>
    intro i hi
    have hkids : (s.get i).kids = [i + 1] := by rw [h.chain.kids i (by omega), if_pos (by omega)]
    have e7 : (s.tree (d + 1 + 1) i).f7 = [s.tree (d + 1) (i + 1)] := by rw [St.tree, hkids]; rfl
    have e : k + (d + 1) + 1 = (k + d + 1) + 1 := by omega
    rw [e, rubricatorlaw19_BlockLazy.l2, e7, if_pos (by rfl), if_pos (by exact Int.ofNat_lt.2 (Nat.succ_pos 0))]
    exact ih (i + 1) (by omega)
def sortN (x : Int) : Nat := (x % 1024 % 3).toNat
theorem sortN_lt (x : Int) : sortN x < 3 := by unfold sortN; omega
theorem pieces_snoc (qs : List Nat) (q : Nat) : piecesL (qs ++ [q]) = piecesL qs ++ pieceL q := by unfold piecesL; rw [List.flatMap_append]; simp
theorem pieces_len (qs : List Nat) : (piecesL qs).length ≤ 3 * qs.length := by
  induction qs with
  | nil => exact Nat.le_refl _
  | cons q qs ih =>
    rw [pieces_cons, List.length_append, List.length_cons]
    have : (pieceL q).length ≤ 3 := by unfold pieceL; split; decide; split <;> decide
    omega
theorem sort_rd (x : Int) : Int.tmod (Go.bits .and .i64 x 1023) 3 = (sortN x : Int) ∧ rdOf ByteArray.empty [(⟨#[62, 32]⟩ : ByteArray), (⟨#[45, 32]⟩ : ByteArray), (⟨#[49, 46, 32]⟩ : ByteArray)] (sortN x : Int) = S (pieceL (sortN x)) := by
  rw [and1023z]
  have h0 : 0 ≤ x % 1024 := Int.emod_nonneg _ (by decide)
  rw [Int.tmod_eq_emod_of_nonneg h0]
  refine ⟨by unfold sortN; omega, ?_⟩
  have := sortN_lt x
  rcases (by omega : sortN x = 0 ∨ sortN x = 1 ∨ sortN x = 2) with e | e | e <;> rw [e] <;> rfl
theorem lazy_end (zs : List Int) (hz : zs.length ≤ 12) (x1 x2 : ByteArray) (h1 : x1.size ≤ 100) (h2 : x2.size ≤ 100) (w1 : wordL x1.data.toList) (w2 : wordL x2.data.toList) (n : Nat) (hn : n ≤ 60) : ∃ K, ∀ k, K ≤ k → rubricatorlaw19_BlockLazy.l1 k x1 x2 (n : Int) (S (piecesL (zs.map sortN))) (S (List.replicate n 32)) (n : Int) = some true := by
  have hq : ∀ q ∈ zs.map sortN, q < 3 := fun q hq => by obtain ⟨x, _, rfl⟩ := List.mem_map.1 hq; exact sortN_lt x
  obtain ⟨s, hs, hp⟩ := lazy_parse x1.data.toList x2.data.toList w1 w2 (zs.map sortN) hq n
  have hl := pieces_len (zs.map sortN)
  rw [List.length_map] at hl
  have hx1 := Lib.size_eq x1
  have hx2 := Lib.size_eq x2
  have hh := hs.chain.here
  obtain ⟨d, hd⟩ : ∃ d, s.bs.length = d + 1 := ⟨s.here, by omega⟩
  have e1 : S (piecesL (zs.map sortN)) ++ x1 = S (piecesL (zs.map sortN) ++ x1.data.toList) := by
    have g : x1 = S x1.data.toList := rfl
    conv => lhs; rw [g]
    rw [S_append]
  have e2 : S (List.replicate n 32) ++ x2 = S (List.replicate n 32 ++ x2.data.toList) := by
    have g : x2 = S x2.data.toList := rfl
    conv => lhs; rw [g]
    rw [S_append]
  have hln : lns [S (piecesL (zs.map sortN) ++ x1.data.toList), S (List.replicate n 32 ++ x2.data.toList)] = [piecesL (zs.map sortN) ++ x1.data.toList, List.replicate n 32 ++ x2.data.toList] := rfl
  have hpf : block_Parse.f [S (piecesL (zs.map sortN) ++ x1.data.toList), S (List.replicate n 32 ++ x2.data.toList)] = some (tupT (s.tree (d + 1) 0)) := by
    rw [parse_of _ (by rw [hln, tot, tot, tot, List.length_append, List.length_append, List.length_replicate]; omega), hln, hp, hd]
  have hsz1 : (S (piecesL (zs.map sortN))).size ≤ 36 := by rw [S_size]; omega
  have hsz2 : (S (List.replicate n (32 : UInt8))).size ≤ 60 := by rw [S_size, List.length_replicate]; exact hn
  refine ⟨100 + d + 2, fun k hk => ?_⟩
  obtain ⟨k, rfl⟩ : ∃ m, k = m + 1 := ⟨k - 1, by omega⟩
  rw [rubricatorlaw19_BlockLazy.l1, if_neg (by omega), if_pos (by omega), if_pos (by omega), e1, e2, hpf, Option.bind_some]
  obtain ⟨b, hb⟩ := rule_some (S (piecesL (zs.map sortN))) (by omega) (k - (S (piecesL (zs.map sortN))).size - 1) (S (piecesL (zs.map sortN))).size 0 0 (by omega)
  have hrf : rubricatorlaw19_rule.f k (S (piecesL (zs.map sortN))) = some b := by
    unfold rubricatorlaw19_rule.f
    have e : k - (S (piecesL (zs.map sortN))).size - 1 + (S (piecesL (zs.map sortN))).size + 1 = k := by omega
    rw [e] at hb
    exact hb
  rw [hrf, Option.bind_some]
  cases b with
  | true => rw [if_pos rfl, known_yes]; rfl
  | false =>
    rw [if_neg (by simp)]
    obtain ⟨m, rfl⟩ : ∃ m, k = m + d + 1 := ⟨k - d - 1, by omega⟩
    exact lazy_l2 x1 x2 h1 h2 w2 hs m d 0 (by omega)
theorem lazy_l1 (zs : List Int) (hz : zs.length ≤ 12) (x1 x2 : ByteArray) (n : Nat) (hn : n ≤ 60) (k : Nat) : ∀ (d i : Nat), i + d = n →
    rubricatorlaw19_BlockLazy.l1 (k + d) x1 x2 (n : Int) (S (piecesL (zs.map sortN))) (S (List.replicate i 32)) (i : Int) = rubricatorlaw19_BlockLazy.l1 k x1 x2 (n : Int) (S (piecesL (zs.map sortN))) (S (List.replicate n 32)) (n : Int) := by
  intro d
  induction d with
  | zero => intro i hi; have e : i = n := by omega
            subst e; rfl
  | succ d ih =>
    intro i hi
    have e : k + (d + 1) = (k + d) + 1 := by omega
    have hsz : (S (List.replicate i (32 : UInt8))).size = i := by rw [S_size, List.length_replicate]
    have hs : S (List.replicate i 32) ++ (⟨#[32]⟩ : ByteArray) = S (List.replicate (i + 1) 32) := by
      have g : (⟨#[32]⟩ : ByteArray) = S [32] := rfl
      rw [g, S_append, ← List.replicate_succ']
    rw [e, rubricatorlaw19_BlockLazy.l1, if_pos (by omega), if_pos (by omega), hs, wrap_id (by omega) (by omega)]
    have := ih (i + 1) (by omega)
    rw [show ((i + 1 : Nat) : Int) = (i : Int) + 1 by omega] at this
    exact this
theorem lazy_l0 (zs : List Int) (hz : zs.length ≤ 12) (x1 x2 : ByteArray) (a : Int) (k : Nat) : ∀ (d i : Nat), i + d = zs.length →
    rubricatorlaw19_BlockLazy.l0 (k + d + 1) zs x1 x2 a (S (piecesL ((zs.take i).map sortN))) (⟨#[]⟩ : ByteArray) (i : Int) = rubricatorlaw19_BlockLazy.l1 k x1 x2 a (S (piecesL (zs.map sortN))) (⟨#[]⟩ : ByteArray) 0 := by
  intro d
  induction d with
  | zero =>
    intro i hi
    have e : i = zs.length := by omega
    subst e
    rw [Nat.add_zero, rubricatorlaw19_BlockLazy.l0, if_neg (by omega), List.take_length]
  | succ d ih =>
    intro i hi
    have hlt : i < zs.length := by omega
    have e : k + (d + 1) + 1 = (k + d + 1) + 1 := by omega
    have hrd : rd zs (i : Int) = zs[i] := by
      unfold rd
      rw [Int.toNat_natCast, List.getD_eq_getElem?_getD, List.getElem?_eq_getElem hlt]
      rfl
    obtain ⟨s1, s2⟩ := sort_rd zs[i]
    have hl := pieces_len ((zs.take i).map sortN)
    rw [List.length_map, List.length_take] at hl
    have hs3 := sortN_lt zs[i]
    have hp3 : (pieceL (sortN zs[i])).length ≤ 3 := by unfold pieceL; split; decide; split <;> decide
    have hl3 : (([(⟨#[62, 32]⟩ : ByteArray), (⟨#[45, 32]⟩ : ByteArray), (⟨#[49, 46, 32]⟩ : ByteArray)] : List ByteArray).length : Int) = 3 := rfl
    rw [e, rubricatorlaw19_BlockLazy.l0, if_pos (by omega), Option.bind_some, if_pos (by omega), hrd, s1, hl3, if_pos (by omega), if_pos (by omega), s2, if_pos (by rw [S_size, S_size]; omega), S_append, wrap_id (by omega) (by omega)]
    have := ih (i + 1) (by omega)
    rw [List.take_succ_eq_append_getElem hlt, List.map_append, List.map_singleton, pieces_snoc, show ((i + 1 : Nat) : Int) = (i : Int) + 1 by omega] at this
    exact this
theorem BlockLazy : rubricatorlaw19_BlockLazy.Pure := by
  intro zs x1 x2 a _ hzl _ hx1 hx2 _
  have hj : ∀ k, 0 < k → rubricatorlaw19_BlockLazy.j0 k zs x1 x2 a true = some true := fun k hk => by
    obtain ⟨k, rfl⟩ : ∃ m, k = m + 1 := ⟨k - 1, by omega⟩
    rw [rubricatorlaw19_BlockLazy.j0, if_pos rfl, known_yes]
    rfl
  have hgo : ∃ K, ∀ k, K ≤ k → rubricatorlaw19_BlockLazy.f k zs x1 x2 a = some true := by
    by_cases hz : (zs.length : Int) > 12
    · refine ⟨1, fun k hk => ?_⟩
      unfold rubricatorlaw19_BlockLazy.f
      rw [if_pos hz]; exact hj k hk
    · have hend : ∃ K, wordL x1.data.toList ∧ x1.size < 50 → wordL x2.data.toList ∧ x2.size < 50 → 0 ≤ a → a ≤ 60 → ∀ k, K ≤ k → rubricatorlaw19_BlockLazy.j0 k zs x1 x2 a false = some true := by
        by_cases hc : (wordL x1.data.toList ∧ x1.size < 50) ∧ (wordL x2.data.toList ∧ x2.size < 50) ∧ 0 ≤ a ∧ a ≤ 60
        · obtain ⟨⟨c1, c2⟩, ⟨c3, c4⟩, c5, c6⟩ := hc
          obtain ⟨n, rfl⟩ : ∃ n : Nat, a = (n : Int) := ⟨a.toNat, by omega⟩
          obtain ⟨K, hK⟩ := lazy_end zs (by omega) x1 x2 (by omega) (by omega) c1 c3 n (by omega)
          refine ⟨K + n + zs.length + 2, fun _ _ _ _ k hk => ?_⟩
          obtain ⟨m, rfl⟩ : ∃ m, k = ((m + n) + zs.length + 1) + 1 := ⟨k - n - zs.length - 2, by omega⟩
          rw [rubricatorlaw19_BlockLazy.j0, if_neg (by simp)]
          have g0 := lazy_l0 zs (by omega) x1 x2 (n : Int) (m + n) zs.length 0 (by omega)
          have g1 := lazy_l1 zs (by omega) x1 x2 n (by omega) m n 0 (by omega)
          rw [List.take_zero] at g0
          exact g0.trans (g1.trans (hK m (by omega)))
        · exact ⟨0, fun h1 h2 h3 h4 => absurd ⟨h1, h2, h3, h4⟩ hc⟩
      obtain ⟨K, hK⟩ := hend
      refine ⟨K + x1.size + x2.size + 2, fun k hk => ?_⟩
      unfold rubricatorlaw19_BlockLazy.f
      rw [if_neg hz]
      obtain ⟨b1, g1, g2⟩ := word_is x1 hx1 k (by omega)
      obtain ⟨b2, g3, g4⟩ := word_is x2 hx2 k (by omega)
      have hjj := hj k (by omega)
      rw [g1, Option.bind_some]
      cases b1 with
      | false => rw [if_neg (by simp)]; exact hjj
      | true =>
        rw [if_pos rfl, g3, Option.bind_some]
        cases b2 with
        | false => rw [if_neg (by simp)]; exact hjj
        | true =>
          rw [if_pos rfl]
          by_cases h0 : a < 0
          · rw [if_pos h0]; exact hjj
          · rw [if_neg h0]
            by_cases h6 : a > 60
            · rw [decide_eq_true h6]; exact hjj
            · rw [decide_eq_false h6]
              exact hK (g2 rfl) (g4 rfl) (by omega) (by omega) k (by omega)
  obtain ⟨K, hK⟩ := hgo
  exact ⟨K, hK K (Nat.le_refl _)⟩
end Go.Proofs.YtpimcdkhjingjaaGreatDoor.Pure
