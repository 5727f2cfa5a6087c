/- A merged text (wip/mkclaim.py). -/
import Derived.Test.YtpimcdkhjingjaaGreatDoorRCFen
import Derived.Test.YtpimcdkhjingjaaGreatDoorRCPLFe1
set_option linter.unusedVariables false
set_option linter.unusedSimpArgs false
set_option linter.unusedSectionVars false
set_option linter.unusedVariables false
namespace Go.Proofs.YtpimcdkhjingjaaGreatDoor.Pure
open Go.RowKit Go.Proofs.YtpimcdkhjingjaaGreatDoor.PBlk Go.Proofs.YtpimcdkhjingjaaGreatDoorW.PrintWords Go.Proofs.YtpimcdkhjingjaaGreatDoor.X Go.Proofs.YtpimcdkhjingjaaGreatDoor.PLFe
theorem bt_fe (x : ByteArray) (j : Nat) (h : j < x.size) : bt x (j : Int) = ((x.data.toList[j]'(by rw [← Lib.size_eq]; exact h)).toNat : Int) := by
  have := S_bt x.data.toList (j : Int) (by omega) (by rw [← Lib.size_eq]; omega)
  rw [← S_eta] at this
  rw [this]
  congr 2
def blkN (l : List UInt8) : Nat := (l.takeWhile blankB).length
theorem drop_blk (l : List UInt8) : l.drop (blkN l) = Lib.trimLeftS l [32, 9] := by
  unfold blkN Lib.trimLeftS
  have e : (fun x : UInt8 => ([32, 9] : List UInt8).contains x) = blankB := funext contains_blank'
  rw [e]
  induction l with
  | nil => rfl
  | cons a t ih =>
    rw [List.takeWhile_cons, List.dropWhile_cons]
    cases h : blankB a with
    | true => rw [if_pos rfl, if_pos rfl, List.length_cons, List.drop_succ_cons]; exact ih
    | false => rw [if_neg (by decide), if_neg (by decide)]; rfl
theorem blkN_le (l : List UInt8) : blkN l ≤ l.length := List.Sublist.length_le (List.takeWhile_sublist _)
def tailF (k : Nat) (xs : List ByteArray) (a : Int) (C f : ByteArray) (m : List ByteArray) (t : ByteArray) (i : Int) (n : Int) (x : ByteArray) : Option Bool :=
  if n ≥ a then some true else rubricatorlaw19_BlockFences.l1 k xs a C f (m ++ [x]) ((t ++ x) ++ (⟨#[10]⟩ : ByteArray)) (i + 1)
theorem fe_l3 (xs : List ByteArray) (a : Int) (c : UInt8) (f : ByteArray) (m : List ByteArray) (t : ByteArray) (hm : m.length ≤ 3000) (ht : t.size ≤ 3000) (i : Nat) (hi : i < xs.length) (hxl : xs.length ≤ 1500) (hs : xs[i].size ≤ 1500) (b : Nat) (K : Nat) : ∀ (d n : Nat), b + n + d = xs[i].size → ∀ k, K + d + 1 ≤ k →
    ∃ k', K ≤ k' ∧ rubricatorlaw19_BlockFences.l3 k xs a (S [c]) f m t (i : Int) (n : Int) (b : Int) = tailF k' xs a (S [c]) f m t (i : Int) ((n + runB c (xs[i].data.toList.drop (b + n)) : Nat) : Int) xs[i] := by
  have hsz : (⟨#[10]⟩ : ByteArray).size = 1 := rfl
  have hC : (S [c]).size = 1 := rfl
  have hend : ∀ (k : Nat) (n : Int), (if n ≥ a then ((rubricatorlaw19_known.f).bind fun t143 => (some t143)) else (if m.length < 8796093022208 then (if t.size + xs[i].size ≤ 9223372036854775807 then (if (t ++ xs[i]).size + 1 ≤ 9223372036854775807 then (rubricatorlaw19_BlockFences.l1 k xs a (S [c]) f (m ++ [xs[i]]) ((t ++ xs[i]) ++ (⟨#[10]⟩ : ByteArray)) (wrap64 ((i : Int) + 1))) else (none)) else (none)) else (none))) = tailF k xs a (S [c]) f m t (i : Int) n xs[i] := by
    intro k n
    unfold tailF
    by_cases h : n ≥ a
    · rw [if_pos h, if_pos h, known_yes]; rfl
    · rw [if_neg h, if_neg h, if_pos (by omega), if_pos (by omega), if_pos (by rw [ByteArray.size_append]; omega), wrap_id (by omega) (by omega)]
  intro d
  induction d with
  | zero =>
    intro n hn k hk
    obtain ⟨k, rfl⟩ : ∃ m, k = m + 1 := ⟨k - 1, by omega⟩
    refine ⟨k, by omega, ?_⟩
    have e0 : runB c (xs[i].data.toList.drop (b + n)) = 0 := by rw [List.drop_eq_nil_of_le (by rw [← Lib.size_eq]; omega)]; rfl
    rw [rubricatorlaw19_BlockFences.l3, if_pos (by omega), if_pos (by omega), rd_at xs i hi, wrap_id (i := (b : Int) + (n : Int)) (by omega) (by omega), if_neg (by omega), e0, hend]
    rfl
  | succ d ih =>
    intro n hn k hk
    obtain ⟨k, rfl⟩ : ∃ m, k = m + 1 := ⟨k - 1, by omega⟩
    have hlt : b + n < xs[i].size := by omega
    have hlt2 : b + n < xs[i].data.toList.length := by rw [← Lib.size_eq]; exact hlt
    have hbt : bt xs[i] ((b : Int) + (n : Int)) = ((xs[i].data.toList[b + n]).toNat : Int) := by
      have := bt_fe xs[i] (b + n) hlt
      rw [show ((b + n : Nat) : Int) = (b : Int) + (n : Int) by omega] at this
      exact this
    rw [rubricatorlaw19_BlockFences.l3, if_pos (by omega), if_pos (by omega), rd_at xs i hi, wrap_id (i := (b : Int) + (n : Int)) (by omega) (by omega), if_pos (by omega), if_pos (by omega), if_pos (by rw [hC]; decide), hbt, S_bt0, List.drop_eq_getElem_cons hlt2]
    by_cases he : xs[i].data.toList[b + n] = c
    · rw [if_pos (by rw [he]), he, runB_cons_eq, wrap_id (i := (n : Int) + 1) (by omega) (by omega)]
      obtain ⟨k', h1, h2⟩ := ih (n + 1) (by omega) k (by omega)
      refine ⟨k', h1, ?_⟩
      rw [show ((n + 1 : Nat) : Int) = (n : Int) + 1 by omega] at h2
      rw [h2]
      have e1 : b + (n + 1) = b + n + 1 := by omega
      rw [e1]
      congr 2
      omega
    · rw [if_neg (fun h => he (UInt8.toNat_inj.1 (by omega))), runB_cons_ne _ he]
      exact ⟨k, by omega, hend k _⟩
theorem fe_l2 (xs : List ByteArray) (a : Int) (c : UInt8) (f : ByteArray) (m : List ByteArray) (t : ByteArray) (i : Nat) (hi : i < xs.length) (hs : xs[i].size ≤ 1500) (K : Nat) : ∀ (d j : Nat), j + d = xs[i].size → ∀ k, K + d + 1 ≤ k →
    ∃ k', K ≤ k' ∧ rubricatorlaw19_BlockFences.l2 k xs a (S [c]) f m t (i : Int) 0 (j : Int) = rubricatorlaw19_BlockFences.j5 k' xs a (S [c]) f m t (i : Int) 0 ((j + blkN (xs[i].data.toList.drop j) : Nat) : Int) := by
  intro d
  induction d with
  | zero =>
    intro j hj k hk
    obtain ⟨k, rfl⟩ : ∃ m, k = m + 1 := ⟨k - 1, by omega⟩
    refine ⟨k, by omega, ?_⟩
    rw [rubricatorlaw19_BlockFences.l2, if_pos (by omega), if_pos (by omega), rd_at xs i hi, if_neg (by omega), List.drop_eq_nil_of_le (by rw [← Lib.size_eq]; omega)]
    rfl
  | succ d ih =>
    intro j hj k hk
    obtain ⟨k, rfl⟩ : ∃ m, k = m + 1 := ⟨k - 1, by omega⟩
    have hlt : j < xs[i].size := by omega
    have hlt2 : j < xs[i].data.toList.length := by rw [← Lib.size_eq]; exact hlt
    rw [rubricatorlaw19_BlockFences.l2, if_pos (by omega), if_pos (by omega), rd_at xs i hi, if_pos (by omega), if_pos (by omega), bt_fe _ _ hlt, wrap_id (i := (j : Int) + 1) (by omega) (by omega), List.drop_eq_getElem_cons hlt2]
    obtain ⟨x, hx⟩ : ∃ x, x = xs[i].data.toList[j] := ⟨_, rfl⟩
    rw [← hx]
    have hgo : blankB x = true → ∃ k', K ≤ k' ∧ rubricatorlaw19_BlockFences.l2 k xs a (S [c]) f m t (i : Int) 0 ((j : Int) + 1) = rubricatorlaw19_BlockFences.j5 k' xs a (S [c]) f m t (i : Int) 0 ((j + blkN (x :: xs[i].data.toList.drop (j + 1)) : Nat) : Int) := by
      intro hb
      obtain ⟨k', h1, h2⟩ := ih (j + 1) (by omega) k (by omega)
      refine ⟨k', h1, ?_⟩
      rw [show ((j + 1 : Nat) : Int) = (j : Int) + 1 by omega] at h2
      rw [h2]
      have e : blkN (x :: xs[i].data.toList.drop (j + 1)) = blkN (xs[i].data.toList.drop (j + 1)) + 1 := by unfold blkN; rw [List.takeWhile_cons, if_pos hb, List.length_cons]
      rw [e]
      congr 2
      omega
    by_cases h32 : ((x.toNat : Nat) : Int) = 32
    · rw [if_pos h32]
      exact hgo (by have : x = 32 := UInt8.toNat_inj.1 (by have : (32 : UInt8).toNat = 32 := rfl; omega); rw [this]; decide)
    · rw [if_neg h32]
      by_cases h9 : ((x.toNat : Nat) : Int) = 9
      · rw [if_pos h9]
        exact hgo (by have : x = 9 := UInt8.toNat_inj.1 (by have : (9 : UInt8).toNat = 9 := rfl; omega); rw [this]; decide)
      · rw [if_neg h9]
        refine ⟨k, by omega, ?_⟩
        have hb : blankB x = false := by
          unfold blankB
          rw [beq_eq_false_iff_ne.2 (fun e => h32 (by rw [e]; rfl)), beq_eq_false_iff_ne.2 (fun e => h9 (by rw [e]; rfl))]
          rfl
        have e : blkN (x :: xs[i].data.toList.drop (j + 1)) = 0 := by unfold blkN; rw [List.takeWhile_cons, if_neg (by rw [hb]; decide)]; rfl
        rw [e]
        rfl
theorem catF_snoc (l : List (List UInt8)) (x : ByteArray) : S (catF l) ++ x ++ ⟨#[10]⟩ = S (catF (l ++ [x.data.toList])) := by
  have e1 : x = S x.data.toList := rfl
  have e2 : (⟨#[10]⟩ : ByteArray) = S [10] := rfl
  rw [e2]
  conv => lhs; rw [e1]
  rw [S_append, S_append]
  unfold catF
  rw [List.flatMap_append, List.append_assoc]
  simp
theorem catF_len : ∀ xs : List ByteArray, (catF (lns xs)).length = wsum xs
  | [] => rfl
  | x :: t => by
    have := catF_len t
    show ((x.data.toList ++ [10]) ++ catF (lns t)).length = 1 + x.size + wsum t
    rw [List.length_append, List.length_append, this, ← Lib.size_eq]
    simp; omega
theorem wsum_takeF (xs : List ByteArray) (i : Nat) : wsum (xs.take i) ≤ wsum xs := by
  induction xs generalizing i with
  | nil => simp
  | cons x t ih =>
    cases i with
    | zero => simp [wsum]
    | succ i => rw [List.take_succ_cons, wsum, wsum]; have := ih i; omega
theorem wsum_get (xs : List ByteArray) (i : Nat) (h : i < xs.length) : xs[i].size ≤ wsum xs := by
  induction xs generalizing i with
  | nil => cases h
  | cons x t ih =>
    cases i with
    | zero => show x.size ≤ 1 + x.size + wsum t; omega
    | succ i =>
      have hi : i < t.length := by simpa using h
      have := ih i hi
      show t[i].size ≤ 1 + x.size + wsum t
      omega
theorem fe_l1 (xs : List ByteArray) (hw : wsum xs ≤ 1500) (n : Nat) (c : UInt8) (f : ByteArray) (Q : Nat)
    (hT : (∀ x ∈ xs, openL c n x.data.toList) → ∀ k, Q ≤ k → rubricatorlaw19_BlockFences.l1 k xs (n : Int) (S [c]) f (f :: xs) (S (catF (lns xs))) (xs.length : Int) = some true) :
    ∀ (d i : Nat), i + d = xs.length → (∀ x ∈ xs.take i, openL c n x.data.toList) → ∃ K, ∀ k, K ≤ k → rubricatorlaw19_BlockFences.l1 k xs (n : Int) (S [c]) f (f :: xs.take i) (S (catF (lns (xs.take i)))) (i : Int) = some true := by
  have hlen := wsum_len xs
  intro d
  induction d with
  | zero =>
    intro i hi ho
    have e : i = xs.length := by omega
    subst e
    rw [List.take_length] at ho ⊢
    exact ⟨Q, hT ho⟩
  | succ d ih =>
    intro i hi ho
    have hlt : i < xs.length := by omega
    have hsz := wsum_get xs i hlt
    have hcs : (S (catF (lns (xs.take i)))).size ≤ 1500 := by rw [S_size, catF_len]; have := wsum_takeF xs i; omega
    have hml : (f :: xs.take i).length ≤ 3000 := by rw [List.length_cons, List.length_take]; omega
    have step : ∀ K k, K + xs[i].size + xs[i].size + 4 ≤ k → ∃ k', K ≤ k' ∧ rubricatorlaw19_BlockFences.l1 k xs (n : Int) (S [c]) f (f :: xs.take i) (S (catF (lns (xs.take i)))) (i : Int) = tailF k' xs (n : Int) (S [c]) f (f :: xs.take i) (S (catF (lns (xs.take i)))) (i : Int) ((runB c (Lib.trimLeftS xs[i].data.toList [32, 9]) : Nat) : Int) xs[i] := by
      intro K k hk
      obtain ⟨k, rfl⟩ : ∃ m, k = m + 1 := ⟨k - 1, by omega⟩
      rw [rubricatorlaw19_BlockFences.l1, if_pos (by omega)]
      obtain ⟨k1, h1, h2⟩ := fe_l2 xs (n : Int) c f (f :: xs.take i) (S (catF (lns (xs.take i)))) i hlt (by omega) (K + xs[i].size + 2) xs[i].size 0 (by omega) k (by omega)
      rw [List.drop_zero, Nat.zero_add] at h2
      obtain ⟨k1, rfl⟩ : ∃ m, k1 = m + 1 := ⟨k1 - 1, by omega⟩
      have hbl := blkN_le xs[i].data.toList
      have hxs := Lib.size_eq xs[i]
      obtain ⟨k2, h3, h4⟩ := fe_l3 xs (n : Int) c f (f :: xs.take i) (S (catF (lns (xs.take i)))) hml (by omega) i hlt (by omega) (by omega) (blkN xs[i].data.toList) K (xs[i].size - blkN xs[i].data.toList) 0 (by omega) k1 (by omega)
      rw [Nat.add_zero, Nat.zero_add, drop_blk] at h4
      refine ⟨k2, h3, h2.trans ?_⟩
      rw [rubricatorlaw19_BlockFences.j5]
      exact h4
    by_cases hop : openL c n xs[i].data.toList
    · obtain ⟨K, hK⟩ := ih (i + 1) (by omega) (fun x hx => by
        rw [List.take_succ_eq_append_getElem hlt] at hx
        rcases List.mem_append.1 hx with hx | hx
        · exact ho x hx
        · rw [List.mem_singleton.1 hx]; exact hop)
      refine ⟨K + xs[i].size + xs[i].size + 4, fun k hk => ?_⟩
      obtain ⟨k', h1, h2⟩ := step K k hk
      have hop' := hop
      unfold openL at hop'
      rw [h2]
      unfold tailF
      rw [if_neg (by omega), catF_snoc]
      have h3 := hK k' h1
      rw [List.take_succ_eq_append_getElem hlt, lns_app, show ((i + 1 : Nat) : Int) = (i : Int) + 1 by omega] at h3
      exact h3
    · refine ⟨0 + xs[i].size + xs[i].size + 4, fun k hk => ?_⟩
      obtain ⟨k', h1, h2⟩ := step 0 k hk
      unfold openL at hop
      rw [h2]
      unfold tailF
      rw [if_pos (by omega)]
theorem fe_end (xs : List ByteArray) (hw : wsum xs ≤ 1500) (n : Nat) (h3 : 3 ≤ n) (h40 : n ≤ 40) (c : UInt8) (hc : fsign c) (ho : ∀ x ∈ xs, openL c n x.data.toList) (k : Nat) :
    rubricatorlaw19_BlockFences.l1 (k + 1) xs (n : Int) (S [c]) (S (List.replicate n c)) (S (List.replicate n c) :: xs) (S (catF (lns xs))) (xs.length : Int) = some true := by
  have hlen := wsum_len xs
  have htot := tot_wsum xs
  have hol : ∀ l ∈ lns xs, openL c n l := fun l hl => by
    unfold lns at hl
    obtain ⟨x, hx, rfl⟩ := List.mem_map.1 hl
    exact ho x hx
  obtain ⟨x, x1, x2, x3⟩ := fence_parse hc n h3 (lns xs) hol
  obtain ⟨y, z, y1, y2, z1, y3⟩ := fence_parse2 hc n h3 (lns xs) hol
  have hl1 : lns (S (List.replicate n c) :: xs) = List.replicate n c :: lns xs := rfl
  have hl2 : lns ((S (List.replicate n c) :: xs) ++ [S (List.replicate n c), (⟨#[98, 101, 104, 105, 110, 100]⟩ : ByteArray)]) = (List.replicate n c :: lns xs) ++ [List.replicate n c, behindL] := by
    rw [lns_app]; rfl
  have hbl : behindL.length = 6 := rfl
  have p1 : block_Parse.f (S (List.replicate n c) :: xs) = some (tupT (docT [x])) := by
    rw [parse_of _ (by rw [hl1, tot, List.length_replicate]; omega), hl1, x3]
  have p2 : block_Parse.f ((S (List.replicate n c) :: xs) ++ [S (List.replicate n c), (⟨#[98, 101, 104, 105, 110, 100]⟩ : ByteArray)]) = some (tupT (docT [y, z])) := by
    rw [parse_of _ (by rw [hl2, tot_app, tot, tot, tot, tot, List.length_replicate, hbl]; omega), hl2, y3]
  rw [rubricatorlaw19_BlockFences.l1, if_neg (by omega), Option.bind_some]
  refine (if_pos (by rw [List.length_cons]; show xs.length + 1 + 2 < _; omega)).trans ?_
  rw [p2, Option.bind_some, p1, Option.bind_some]
  refine (if_pos (by rfl)).trans ((if_pos (by exact Int.ofNat_lt.2 (Nat.succ_pos 1))).trans ((if_pos y1).trans ((if_pos ?_).trans ((if_pos (by exact Int.ofNat_lt.2 (Nat.lt_succ_self 1))).trans ((if_pos ?_).trans ((if_pos (by rfl)).trans ((if_pos (by exact Int.ofNat_lt.2 (Nat.succ_pos 0))).trans ((if_pos ?_).trans ?_))))))))
  · show (y.f4).toList = _
    rw [y2]
  · show (z.f4).toList = _
    rw [z1, S_toList]
    rfl
  · show (x.f4).toList = _
    rw [x2]
  · rw [known_yes]; rfl
theorem fe_l0 (xs : List ByteArray) (n : Nat) (h40 : n ≤ 40) (c : UInt8) (k : Nat) : ∀ (d i : Nat), i + d = n →
    rubricatorlaw19_BlockFences.l0 (k + d + 1) xs (n : Int) (S [c]) (S (List.replicate i c)) (i : Int) = rubricatorlaw19_BlockFences.l1 k xs (n : Int) (S [c]) (S (List.replicate n c)) [S (List.replicate n c)] (⟨#[]⟩ : ByteArray) 0 := by
  intro d
  induction d with
  | zero =>
    intro i hi
    have e : i = n := by omega
    subst e
    rw [Nat.add_zero, rubricatorlaw19_BlockFences.l0, if_neg (by omega)]
  | succ d ih =>
    intro i hi
    have e : k + (d + 1) + 1 = (k + d + 1) + 1 := by omega
    have hsz : (S (List.replicate i c)).size = i := by rw [S_size, List.length_replicate]
    have h1 : (S [c]).size = 1 := rfl
    rw [e, rubricatorlaw19_BlockFences.l0, if_pos (by omega), if_pos (by omega), S_append, ← List.replicate_succ', wrap_id (by omega) (by omega)]
    have := ih (i + 1) (by omega)
    rw [show ((i + 1 : Nat) : Int) = (i : Int) + 1 by omega] at this
    exact this
theorem fe_j1 (xs : List ByteArray) (hw : wsum xs ≤ 1500) (n : Nat) (h3 : 3 ≤ n) (h40 : n ≤ 40) (c : UInt8) (hc : fsign c) : ∃ K, ∀ k, K ≤ k → rubricatorlaw19_BlockFences.j1 k xs (n : Int) (S [c]) = some true := by
  obtain ⟨K, hK⟩ := fe_l1 xs hw n c (S (List.replicate n c)) 1 (fun ho k hk => by
    obtain ⟨k, rfl⟩ : ∃ m, k = m + 1 := ⟨k - 1, by omega⟩
    exact fe_end xs hw n h3 h40 c hc ho k) xs.length 0 (by omega) (fun x hx => by rw [List.take_zero] at hx; cases hx)
  refine ⟨K + n + 2, fun k hk => ?_⟩
  obtain ⟨k, rfl⟩ : ∃ m, k = (m + n + 1) + 1 := ⟨k - n - 2, by omega⟩
  rw [rubricatorlaw19_BlockFences.j1]
  have h1 := fe_l0 xs n h40 c k n 0 (by omega)
  have h2 := hK k (by omega)
  rw [List.take_zero] at h2
  exact h1.trans h2
theorem BlockFences (xs : List ByteArray) (a : Int) (b : Bool) (hs : ∀ x ∈ xs, x.size ≤ 140737488351232) (hl : xs.length * 16 ≤ 140737488351232) : ∃ k, rubricatorlaw19_BlockFences.f k xs a b = some true := by
  have hj : ∀ k, 0 < k → rubricatorlaw19_BlockFences.j0 k xs a b true = some true := fun k hk => by
    obtain ⟨k, rfl⟩ : ∃ m, k = m + 1 := ⟨k - 1, by omega⟩
    rw [rubricatorlaw19_BlockFences.j0, if_pos rfl]
  by_cases hc : wsum xs ≤ 1500 ∧ 3 ≤ a ∧ a ≤ 40
  · obtain ⟨hw, h3, h40⟩ := hc
    obtain ⟨n, rfl⟩ : ∃ n : Nat, a = (n : Int) := ⟨a.toNat, by omega⟩
    obtain ⟨K1, hK1⟩ := fe_j1 xs hw n (by omega) (by omega) 126 (.inr rfl)
    obtain ⟨K2, hK2⟩ := fe_j1 xs hw n (by omega) (by omega) 96 (.inl rfl)
    refine ⟨K1 + K2 + xs.length + 2, ?_⟩
    unfold rubricatorlaw19_BlockFences.f
    rcases heavy_is xs hs (by omega) (K1 + K2 + xs.length + 2) (by omega) with h | ⟨h, _⟩
    · rw [h, Option.bind_some, if_pos rfl]; exact hj _ (by omega)
    · rw [h, Option.bind_some, if_neg (by simp), if_neg (by omega), decide_eq_false (by omega), rubricatorlaw19_BlockFences.j0, if_neg (by simp)]
      cases b with
      | true => rw [if_pos rfl]; exact hK1 (K1 + K2 + xs.length + 1) (by omega)
      | false => rw [if_neg (by simp)]; exact hK2 (K1 + K2 + xs.length + 1) (by omega)
  · refine ⟨xs.length + 1, ?_⟩
    unfold rubricatorlaw19_BlockFences.f
    rcases heavy_is xs hs (by omega) (xs.length + 1) (by omega) with h | ⟨h, hw⟩
    · rw [h, Option.bind_some, if_pos rfl]; exact hj _ (by omega)
    · rw [h, Option.bind_some, if_neg (by simp)]
      by_cases g1 : a < 3
      · rw [if_pos g1]; exact hj _ (by omega)
      · rw [if_neg g1, decide_eq_true (by omega)]; exact hj _ (by omega)
end Go.Proofs.YtpimcdkhjingjaaGreatDoor.Pure
