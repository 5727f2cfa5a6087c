/- What the printed functions of package leaf answer, as functions on lists of bytes. -/
import Derived.Test.YtcmpmciadacapaaDoorBase
import Derived.Test.YtcmpmciadacapaaDoorPLeaf1
import Derived.Test.YtcmpmciadacapaaDoorPLeaf2
namespace Go.Proofs.YtcmpmciadacapaaDoor.Pure
open Go.RowKit Go.Proofs.YtcmpmciadacapaaDoor.PLeaf Go.Proofs.YtcmpmciadacapaaDoorW.PrintWords Go.Proofs.YtcmpmciadacapaaDoor.X

theorem leaf_run_at (l : List UInt8) (c : UInt8) (hn : l.length ≤ 4611686018427387904) (d : Nat) : ∀ (k : Nat) (i : Nat), i ≤ l.length → l.length - i = d → d < k →
    leaf_run.l0 k (S l) (c.toNat : Int) (i : Int) = some ((i : Int) + (runB c (l.drop i) : Nat)) := by
  induction d with
  | zero =>
    intro k i h1 hd hk
    obtain ⟨k, rfl⟩ : ∃ m, k = m + 1 := ⟨k - 1, by omega⟩
    simp only [leaf_run.l0]
    rw [if_neg (by rw [S_size]; omega), List.drop_of_length_le (by omega)]
    simp [runB]
  | succ d ih =>
    intro k i h1 hd hk
    obtain ⟨k, rfl⟩ : ∃ m, k = m + 1 := ⟨k - 1, by omega⟩
    have hlt : i < l.length := by omega
    simp only [leaf_run.l0]
    rw [if_pos (by rw [S_size]; omega), if_pos (by omega), S_bt l i (by omega) (by omega)]
    have e : (l[(i : Int).toNat]'(by omega)) = l[i] := by congr 1
    rw [e, drop_cons hlt]
    by_cases hc : l[i] = c
    · rw [if_pos (byte_eq.2 hc), wrap_id (by omega) (by omega), show (i : Int) + 1 = ((i + 1 : Nat) : Int) by omega, ih k (i + 1) (by omega) (by omega) (by omega), hc, runB_cons_eq]
      congr 1
      omega
    · rw [if_neg (fun h => hc (byte_eq.1 h)), runB_cons_ne _ hc]
      simp
theorem leaf_run_ev (l : List UInt8) (c : UInt8) (hn : l.length ≤ 4611686018427387904) (k : Nat) (hk : l.length < k) : leaf_run.f k (S l) (c.toNat : Int) = some ((runB c l : Nat) : Int) := by
  unfold leaf_run.f
  have := leaf_run_at l c hn l.length k 0 (by omega) (by omega) hk
  simpa using this

def blankB (c : UInt8) : Bool := c == 32 || c == 9
def endsL (l : List UInt8) : Bool := match l with | [] => true | c :: _ => blankB c
def stripL (l : List UInt8) : List UInt8 := Lib.trimS l [32, 9]
theorem contains_blank (c : UInt8) : ([32, 9] : List UInt8).contains c = blankB c := by
  unfold blankB
  simp only [List.contains_cons, List.contains_nil, Bool.or_false]
theorem leaf_ends_eq (l : List UInt8) : leaf_ends.f (S l) = some (endsL l) := by
  unfold leaf_ends.f
  rw [S_toList]
  cases l with
  | nil => rfl
  | cons c t =>
    rw [if_neg (by simp), if_pos (by rw [S_size]; simp), S_bt0]
    unfold strings_IndexByte.f
    simp only [Option.bind_some]
    rw [byte_back]
    congr 1
    show decide (Lib.indexByte [32, 9] c ≥ 0) = blankB c
    rw [← contains_blank]
    cases h : ([32, 9] : List UInt8).contains c
    · have := (indexByte_lt [32, 9] c).2 h
      simp; omega
    · have := (indexByte_nn [32, 9] c).2 h
      simp; omega
theorem ascii_two : isAscii ⟨#[32, 9]⟩ = true := by decide
theorem trim_eq (l : List UInt8) (cs : List UInt8) (hl : l.length ≤ 4611686018427387904) (hc : cs.length < 4294967281) (ha : isAscii (S cs) = true) : strings_Trim.f (S l) (S cs) = some (S (Lib.trimS l cs)) := by
  unfold strings_Trim.f trimOk
  rw [S_size, S_size, ha, decide_eq_true (by omega), decide_eq_true (by omega)]
  rfl
theorem trimRight_eq (l : List UInt8) (cs : List UInt8) (hl : l.length ≤ 4611686018427387904) (hc : cs.length < 4294967281) (ha : isAscii (S cs) = true) : strings_TrimRight.f (S l) (S cs) = some (S (Lib.trimRightS l cs)) := by
  unfold strings_TrimRight.f trimOk
  rw [S_size, S_size, ha, decide_eq_true (by omega), decide_eq_true (by omega)]
  rfl
theorem leaf_strip_eq (l : List UInt8) (hl : l.length ≤ 4611686018427387904) : leaf_strip.f (S l) = some (S (stripL l)) := by
  unfold leaf_strip.f
  rw [show (⟨#[32, 9]⟩ : ByteArray) = S [32, 9] from rfl, trim_eq l [32, 9] hl (by decide) ascii_two]
  rfl

/-! ### Rule -/
def ruleL (l : List UInt8) : Bool :=
  match l with
  | [] => false
  | c :: _ => ([42, 45, 95] : List UInt8).contains c && decide (3 ≤ l.count c) && l.all (fun b => ([32, 9, c] : List UInt8).contains b)
theorem dropWhile_nil {α : Type} (p : α → Bool) : ∀ l : List α, l.dropWhile p = [] ↔ ∀ x ∈ l, p x = true
  | [] => by simp
  | a :: t => by
    rw [List.dropWhile_cons]
    cases h : p a
    · simp [h]
    · simp only [if_true, List.mem_cons, forall_eq_or_imp]
      rw [dropWhile_nil p t]
      simp [h]
theorem trim_none (l cs : List UInt8) : (Lib.trimRightS (Lib.trimLeftS l cs) cs == []) = l.all (fun b => cs.contains b) := by
  unfold Lib.trimRightS Lib.trimLeftS
  cases h : l.all (fun b => cs.contains b)
  · rw [beq_eq_false_iff_ne]
    intro he
    have h1 : (List.dropWhile (fun x => cs.contains x) (List.dropWhile (fun x => cs.contains x) l).reverse) = [] := by simpa using he
    rw [dropWhile_nil] at h1
    have h2 : List.dropWhile (fun x => cs.contains x) l = [] := by
      cases hd : List.dropWhile (fun x => cs.contains x) l with
      | nil => rfl
      | cons a t =>
        have h3 := List.head?_dropWhile_not (fun x => cs.contains x) l
        rw [hd] at h3
        have h4 := h1 a (by rw [hd]; simp)
        simp only [List.head?_cons] at h3
        rw [h4] at h3
        cases h3
    rw [dropWhile_nil] at h2
    rw [List.all_eq_false] at h
    obtain ⟨x, hx, hx2⟩ := h
    exact hx2 (h2 x hx)
  · rw [List.all_eq_true] at h
    have : List.dropWhile (fun x => cs.contains x) l = [] := (dropWhile_nil _ _).2 h
    rw [this]
    rfl
theorem leaf_Rule_eq (l : List UInt8) (hl : l.length ≤ 4611686018427387904) (k : Nat) : leaf_Rule.f (k + 1) (S l) = some (ruleL l) := by
  unfold leaf_Rule.f
  rw [S_toList]
  cases l with
  | nil => rfl
  | cons c t =>
    rw [if_neg (by simp), if_pos (by rw [S_size]; simp), S_bt0]
    unfold strings_IndexByte.f
    simp only [Option.bind_some, leaf_Rule.j0]
    rw [byte_back]
    show (if decide (Lib.indexByte [42, 45, 95] c < 0) = true then _ else _) = _
    rw [indexByte_dec]
    cases hc : ([42, 45, 95] : List UInt8).contains c
    · rw [if_pos (by rfl)]
      unfold ruleL
      simp only [hc, Bool.false_and]
    · rw [if_neg (by simp), if_pos (by decide), if_pos (by rw [S_size]; simp; omega), S_take]
      have ht : (c :: t).take 1 = [c] := rfl
      rw [ht]
      have hcount : strings_Count.f (S (c :: t)) (S [c]) = some (((c :: t).count c : Nat) : Int) := rfl
      rw [hcount]
      simp only [Option.bind_some]
      by_cases h3 : 3 ≤ (c :: t).count c
      · rw [if_pos (by omega), if_pos (by rw [S_size]; show 3 ≤ _; omega)]
        have hs : (⟨#[32, 9]⟩ : ByteArray) ++ S [c] = S [32, 9, c] := S_append [32, 9] [c]
        have ha : isAscii (S [32, 9, c]) = true := by
          have hm := List.contains_iff_mem.1 hc
          simp only [List.mem_cons, List.mem_nil_iff, or_false] at hm
          rcases hm with rfl | rfl | rfl <;> decide
        rw [hs]
        have e1 : leaf_cutLeft.f (S (c :: t)) (S [32, 9, c]) = some (S (Lib.trimLeftS (c :: t) [32, 9, c])) := by
          unfold leaf_cutLeft.f
          rw [if_pos ha]; rfl
        rw [e1]
        simp only [Option.bind_some]
        have hle : (Lib.trimLeftS (c :: t) [32, 9, c]).length ≤ (c :: t).length := List.Sublist.length_le (List.dropWhile_sublist _)
        have e2 : leaf_cutRight.f (S (Lib.trimLeftS (c :: t) [32, 9, c])) (S [32, 9, c]) = some (S (Lib.trimRightS (Lib.trimLeftS (c :: t) [32, 9, c]) [32, 9, c])) := by
          unfold leaf_cutRight.f trimOk
          rw [ha, S_size, S_size, decide_eq_true (by omega), decide_eq_true (show ([32, 9, c] : List UInt8).length < 4294967281 by show 3 < _; omega)]
          rfl
        rw [e2]
        simp only [Option.bind_some]
        rw [S_toList, trim_none]
        unfold ruleL
        simp only [hc, Bool.true_and, decide_eq_true h3]
      · rw [if_neg (by omega)]
        unfold ruleL
        simp only [hc, Bool.true_and, decide_eq_false h3, Bool.false_and]

/-! ### Heading, Marker -/
def headT (l : List UInt8) : List UInt8 :=
  let t := stripL l
  let x := Lib.trimRightS t [35]
  if x = [] then stripL x else if blankB (x.getLastD 0) then stripL x else t
def headingL (l : List UInt8) : Nat × List UInt8 :=
  let n := runB 35 l
  if n < 1 ∨ n > 6 ∨ endsL (l.drop n) = false then (0, []) else (n, headT (l.drop n))
theorem trimS_le (l cs : List UInt8) : (Lib.trimS l cs).length ≤ l.length := by
  unfold Lib.trimS Lib.trimLeftS Lib.trimRightS
  refine Nat.le_trans (List.Sublist.length_le (List.dropWhile_sublist _)) ?_
  rw [List.length_reverse]
  refine Nat.le_trans (List.Sublist.length_le (List.dropWhile_sublist _)) ?_
  rw [List.length_reverse]
  exact Nat.le_refl _
theorem trimR_le (l cs : List UInt8) : (Lib.trimRightS l cs).length ≤ l.length := by
  unfold Lib.trimRightS
  rw [List.length_reverse]
  refine Nat.le_trans (List.Sublist.length_le (List.dropWhile_sublist _)) ?_
  rw [List.length_reverse]
  exact Nat.le_refl _
theorem getLast_bt (x : List UInt8) (h : x ≠ []) (hx : x.length ≤ 4611686018427387904) : bt (S x) (wrap64 (((S x).size : Int) - 1)) = ((x.getLastD 0).toNat : Int) := by
  have h0 : 0 < x.length := List.length_pos_iff.2 h
  rw [S_size, wrap_id (by omega) (by omega), S_bt _ _ (by omega) (by omega)]
  have e : ((x.length : Int) - 1).toNat = x.length - 1 := by omega
  congr 2
  simp only [e]
  rw [← List.getLast_eq_getElem h]
  rw [List.getLastD_eq_getLast?, List.getLast?_eq_some_getLast h]
  rfl
theorem leaf_Heading_eq (l : List UInt8) (hl : l.length ≤ 4611686018427387904) (k : Nat) (hk : l.length < k) : leaf_Heading.f k (S l) = some (((headingL l).1 : Int), S (headingL l).2) := by
  obtain ⟨k, rfl⟩ : ∃ m, k = m + 1 := ⟨k - 1, by omega⟩
  have hr := runB_le 35 l
  unfold leaf_Heading.f headingL
  rw [show (35 : Int) = ((35 : UInt8).toNat : Int) from rfl, leaf_run_ev l 35 hl _ hk]
  simp only [Option.bind_some]
  by_cases h1 : runB 35 l < 1
  · rw [if_pos (by omega), if_pos (.inl h1)]
    rfl
  by_cases h2 : runB 35 l > 6
  · rw [if_neg (by omega), if_pos (by omega), if_pos (.inr (.inl h2))]
    rfl
  rw [if_neg (by omega), if_neg (by omega), if_pos (by omega), if_pos (by rw [S_size]; omega)]
  rw [show ((runB 35 l : Nat) : Int).toNat = runB 35 l from rfl, S_drop, leaf_ends_eq]
  simp only [Option.bind_some]
  cases h3 : endsL (l.drop (runB 35 l))
  · rw [if_pos (.inr (.inr rfl))]
    rfl
  rw [if_neg (by simp; omega)]
  simp only [leaf_Heading.j0]
  rw [if_neg (by simp), if_pos (by omega), if_pos (by rw [S_size]; omega)]
  rw [show ((runB 35 l : Nat) : Int).toNat = runB 35 l from rfl, S_drop, leaf_strip_eq _ (by simp; omega)]
  simp only [Option.bind_some]
  have hle1 := trimS_le (l.drop (runB 35 l)) [32, 9]
  rw [List.length_drop] at hle1
  have hle2 := trimR_le (stripL (l.drop (runB 35 l))) [35]
  have hx : (Lib.trimRightS (stripL (l.drop (runB 35 l))) [35]).length ≤ 4611686018427387904 := by unfold stripL at hle2 ⊢; omega
  rw [show (⟨#[35]⟩ : ByteArray) = S [35] from rfl, trimRight_eq _ [35] (by unfold stripL; omega) (by decide) (by decide)]
  simp only [Option.bind_some]
  rw [S_toList]
  unfold headT
  simp only
  by_cases h4 : Lib.trimRightS (stripL (l.drop (runB 35 l))) [35] = []
  · rw [if_pos h4, if_pos h4, leaf_strip_eq _ hx]
    rfl
  · have h0 : 0 < (Lib.trimRightS (stripL (l.drop (runB 35 l))) [35]).length := List.length_pos_iff.2 h4
    rw [if_neg h4, if_neg h4, getLast_bt _ h4 hx, S_size, wrap_id (by omega) (by omega), if_pos (by omega), if_pos (by omega)]
    unfold strings_IndexByte.f
    simp only [Option.bind_some]
    rw [byte_back]
    have hb := contains_blank ((Lib.trimRightS (stripL (l.drop (runB 35 l))) [35]).getLastD 0)
    cases h5 : blankB ((Lib.trimRightS (stripL (l.drop (runB 35 l))) [35]).getLastD 0)
    · rw [h5] at hb
      have := (indexByte_lt _ _).2 hb
      rw [if_neg (by show ¬ (Lib.indexByte [32, 9] _ ≥ 0); omega), if_neg (by simp)]
    · rw [h5] at hb
      have := (indexByte_nn _ _).2 hb
      rw [if_pos (by show Lib.indexByte [32, 9] _ ≥ 0; omega), if_pos rfl, leaf_strip_eq _ hx]
      rfl
theorem marker_known (k : Nat) (hk : 20 ≤ k) : leaf_Marker.f k (⟨#[49, 50, 41, 32, 120]⟩ : ByteArray) = some (3, 41, 12) := by
  refine at_rounds (g := fun k => leaf_Marker.f k (⟨#[49, 50, 41, 32, 120]⟩ : ByteArray)) (fun k => leaf_Marker.mono _ k) hk ?_
  decide +kernel
end Go.Proofs.YtcmpmciadacapaaDoor.Pure
