/- The plain law of LeafHeads. -/
import Derived.Test.YtcmpmciadacapaaDoorPureLeafRules
import Derived.Test.YtcmpmciadacapaaDoorExtU
import Derived.Test.YtcmpmciadacapaaDoorPHeads2
namespace Go.Proofs.YtcmpmciadacapaaDoor.Pure
open Go.RowKit Go.Proofs.YtcmpmciadacapaaDoor.PLeaf Go.Proofs.YtcmpmciadacapaaDoor.PHeads Go.Proofs.YtcmpmciadacapaaDoorW.PrintWords Go.Proofs.YtcmpmciadacapaaDoor.X

/-! ### cutting blanks on both sides -/
theorem trimR_cons (cs : List UInt8) (c : UInt8) (t : List UInt8) : Lib.trimRightS (c :: t) cs = if Lib.trimRightS t cs = [] then (if cs.contains c then [] else [c]) else c :: Lib.trimRightS t cs := by
  unfold Lib.trimRightS
  rw [List.reverse_cons, List.dropWhile_append]
  cases h : List.dropWhile (fun x => cs.contains x) t.reverse with
  | nil =>
    simp only [List.isEmpty_nil, if_true, List.reverse_nil, List.dropWhile_cons, List.dropWhile_nil]
    cases cs.contains c <;> simp
  | cons a r => simp
theorem trim_comm (cs : List UInt8) : ∀ l : List UInt8, Lib.trimRightS (Lib.trimLeftS l cs) cs = Lib.trimLeftS (Lib.trimRightS l cs) cs
  | [] => rfl
  | c :: t => by
    have ih := trim_comm cs t
    rw [trimR_cons]
    unfold Lib.trimLeftS at ih ⊢
    rw [List.dropWhile_cons]
    cases hc : cs.contains c
    · simp only [Bool.false_eq_true, if_false]
      rw [trimR_cons, hc]
      by_cases he : Lib.trimRightS t cs = []
      · simp only [if_pos he, Bool.false_eq_true, if_false]
        rw [List.dropWhile_cons, hc]
        simp
      · simp only [if_neg he]
        rw [List.dropWhile_cons, hc]
        simp
    · simp only [if_true]
      rw [ih]
      by_cases he : Lib.trimRightS t cs = []
      · rw [if_pos he, he]
      · rw [if_neg he, List.dropWhile_cons, hc]; rfl
theorem strip_eq (l : List UInt8) : rightL (Lib.trimLeftS l [32, 9]) = stripL l := trim_comm [32, 9] l
theorem trimL_cons (c : UInt8) (t : List UInt8) : Lib.trimLeftS (c :: t) [32, 9] = if blankB c then Lib.trimLeftS t [32, 9] else c :: t := by
  unfold Lib.trimLeftS
  rw [List.dropWhile_cons, contains_blank]
theorem ref_Strip_at (d : Nat) : ∀ (l : List UInt8) (k : Nat), l.length = d → d < 4611686018427387904 → d + 1 < k → rubricatorref18_Strip.l0 k (S l) = some (S (stripL l)) := by
  induction d with
  | zero =>
    intro l k hl _ hk
    obtain ⟨k, rfl⟩ : ∃ m, k = m + 2 := ⟨k - 2, by omega⟩
    obtain rfl : l = [] := List.eq_nil_of_length_eq_zero hl
    rfl
  | succ d ih =>
    intro l k hl h1 hk
    obtain ⟨k, rfl⟩ : ∃ m, k = m + 1 := ⟨k - 1, by omega⟩
    cases l with
    | nil => simp at hl
    | cons c t =>
      have ht : t.length = d := by simpa using hl
      simp only [rubricatorref18_Strip.l0]
      rw [if_pos (by rw [S_size]; simp), if_pos (by rw [S_size]; simp), S_bt0, ref_blank_eq]
      simp only [Option.bind_some]
      rw [← strip_eq, trimL_cons]
      cases blankB c
      · simp only [Bool.false_eq_true, if_false]
        rw [ref_Right_ev _ (by omega) _ (by omega)]
        rfl
      · simp only [if_true]
        rw [if_pos (by rw [S_size]; simp; omega), S_drop, strip_eq]
        exact ih t k ht (by omega) (by omega)
theorem ref_Strip_ev (l : List UInt8) (hl : l.length < 4611686018427387904) (k : Nat) (hk : l.length + 1 < k) : rubricatorref18_Strip.f k (S l) = some (S (stripL l)) := ref_Strip_at l.length l k rfl hl hk

theorem trimR_last (cs l : List UInt8) (h : Lib.trimRightS l cs ≠ []) : cs.contains ((Lib.trimRightS l cs).getLastD 0) = false := by
  unfold Lib.trimRightS at h ⊢
  cases hd : List.dropWhile (fun x => cs.contains x) l.reverse with
  | nil => rw [hd] at h; simp at h
  | cons a t =>
    have h3 := List.head?_dropWhile_not (fun x => cs.contains x) l.reverse
    rw [hd] at h3
    simp only [List.head?_cons] at h3
    simpa [List.getLastD_eq_getLast?] using h3
theorem trimL_last (cs : List UInt8) : ∀ l : List UInt8, Lib.trimLeftS l cs ≠ [] → (Lib.trimLeftS l cs).getLastD 0 = l.getLastD 0
  | [], h => absurd rfl h
  | c :: t, h => by
    unfold Lib.trimLeftS at h ⊢
    rw [List.dropWhile_cons] at h ⊢
    cases hc : cs.contains c
    · simp only [Bool.false_eq_true, if_false]
    · rw [hc] at h
      simp only [if_true] at h ⊢
      have := trimL_last cs t h
      unfold Lib.trimLeftS at this
      rw [this]
      cases t with
      | nil => simp at h
      | cons a r => simp [List.getLastD_eq_getLast?, List.getLast?_cons_cons]
theorem strip_last (l : List UInt8) (h : stripL l ≠ []) : blankB ((stripL l).getLastD 0) = false := by
  unfold stripL Lib.trimS at h ⊢
  rw [trimL_last _ _ h, ← contains_blank]
  refine trimR_last _ _ (fun e => h ?_)
  rw [e]; rfl
theorem trimR_prefix (cs l : List UInt8) : Lib.trimRightS l cs = l.take (Lib.trimRightS l cs).length := by
  have h : Lib.trimRightS l cs <+: l := by
    unfold Lib.trimRightS
    have := List.dropWhile_suffix (l := l.reverse) (fun x => cs.contains x)
    have h2 := List.reverse_prefix.2 this
    rwa [List.reverse_reverse] at h2
  exact (List.prefix_iff_eq_take.1 h)

def refHeadT (l : List UInt8) : List UInt8 :=
  let t := stripL l
  let x := Lib.trimRightS t [35]
  if x.length < t.length ∧ (x = [] ∨ blankB (x.getLastD 0) = true) then stripL x else t
theorem headT_eq (l : List UInt8) : headT l = refHeadT l := by
  unfold headT refHeadT
  simp only
  have hp := trimR_prefix [35] (stripL l)
  have hle := trimR_le (stripL l) [35]
  by_cases hlt : (Lib.trimRightS (stripL l) [35]).length < (stripL l).length
  · by_cases h1 : Lib.trimRightS (stripL l) [35] = []
    · rw [if_pos h1, if_pos ⟨hlt, .inl h1⟩]
    · rw [if_neg h1]
      by_cases h2 : blankB ((Lib.trimRightS (stripL l) [35]).getLastD 0) = true
      · rw [if_pos h2, if_pos ⟨hlt, .inr h2⟩]
      · rw [if_neg h2, if_neg (fun h => h.2.elim h1 h2)]
  · have he : Lib.trimRightS (stripL l) [35] = stripL l := by
      rw [hp]
      exact List.take_of_length_le (by omega)
    rw [he]
    rw [if_neg (c := (stripL l).length < (stripL l).length ∧ _) (fun h => Nat.lt_irrefl _ h.1)]
    by_cases h1 : stripL l = []
    · rw [if_pos h1, h1]; rfl
    · rw [if_neg h1, if_neg (by rw [strip_last l h1]; simp)]

theorem ref_head_j2 (n : Int) (t : List UInt8) (ht : t.length < 4611686018427387904) (k i : Nat) (hi : i ≤ t.length) (hk : t.length + 2 < k) :
    rubricatorref18_Heading.j2 k n (S t) (i : Int) = some (n, S (if i < t.length ∧ (t.take i = [] ∨ blankB ((t.take i).getLastD 0) = true) then stripL (t.take i) else t)) := by
  obtain ⟨k, rfl⟩ : ∃ m, k = m + 1 := ⟨k - 1, by omega⟩
  have hlen : (t.take i).length = i := by rw [List.length_take]; omega
  simp only [rubricatorref18_Heading.j2]
  by_cases h1 : i < t.length
  · rw [if_pos (by rw [S_size]; omega)]
    by_cases h2 : i = 0
    · subst h2
      rw [if_pos (by omega), if_pos (by omega), if_pos (by rw [S_size]; omega), S_take]
      simp only [Int.toNat_natCast, List.take_zero]
      rw [ref_Strip_ev [] (by simp) _ (by simp; omega), if_pos ⟨h1, .inl trivial⟩]
      rfl
    · have hne : t.take i ≠ [] := fun e => by rw [e] at hlen; simp at hlen; omega
      have hb : bt (S t) ((i : Int) - 1) = (((t.take i).getLastD 0).toNat : Int) := by
        rw [S_bt _ _ (by omega) (by omega)]
        congr 2
        rw [List.getLastD_eq_getLast?, List.getLast?_eq_some_getLast hne, Option.getD_some, List.getLast_eq_getElem hne]
        rw [List.getElem_take]
        congr 1
        rw [hlen]
        omega
      rw [if_neg (by omega), wrap_id (by omega) (by omega), if_pos (by omega), if_pos (by rw [S_size]; omega), hb, ref_blank_eq]
      simp only [Option.bind_some]
      cases hc : blankB ((t.take i).getLastD 0)
      · rw [if_neg (by simp), if_neg (fun h => h.2.elim hne (by simp))]
      · rw [if_pos rfl, if_pos (by omega), if_pos (by rw [S_size]; omega), S_take]
        simp only [Int.toNat_natCast]
        rw [ref_Strip_ev _ (by omega) _ (by omega), if_pos ⟨h1, .inr trivial⟩]
        rfl
  · rw [if_neg (by rw [S_size]; omega), if_neg (fun h => h1 h.1)]
theorem ref_head_l0 (n : Int) (t : List UInt8) (ht : t.length < 4611686018427387904) (i : Nat) : ∀ (k : Nat), i ≤ t.length → t.length + i + 4 < k →
    rubricatorref18_Heading.l0 k n (S t) (i : Int) = some (n, S (if (Lib.trimRightS (t.take i) [35]).length < t.length ∧ (Lib.trimRightS (t.take i) [35] = [] ∨ blankB ((Lib.trimRightS (t.take i) [35]).getLastD 0) = true) then stripL (Lib.trimRightS (t.take i) [35]) else t)) := by
  induction i with
  | zero =>
    intro k hi hk
    obtain ⟨k, rfl⟩ : ∃ m, k = m + 1 := ⟨k - 1, by omega⟩
    simp only [rubricatorref18_Heading.l0]
    rw [if_neg (by omega), ref_head_j2 n t ht k 0 (by omega) (by omega)]
    rfl
  | succ i ih =>
    intro k hi hk
    obtain ⟨k, rfl⟩ : ∃ m, k = m + 1 := ⟨k - 1, by omega⟩
    simp only [rubricatorref18_Heading.l0]
    have e : (((i + 1 : Nat) : Int) - 1) = (i : Int) := by omega
    rw [if_pos (by omega), wrap_id (by omega) (by omega), e, if_pos (by omega), if_pos (by rw [S_size]; omega), S_bt _ _ (by omega) (by omega)]
    have e2 : (t[(i : Int).toNat]'(by omega)) = t[i] := by congr 1
    have hs : t.take (i + 1) = t.take i ++ [t[i]] := List.take_succ_eq_append_getElem hi
    have hr : Lib.trimRightS (t.take (i + 1)) [35] = if t[i] = 35 then Lib.trimRightS (t.take i) [35] else t.take (i + 1) := by
      rw [hs]
      unfold Lib.trimRightS
      rw [List.reverse_append, List.reverse_singleton, List.singleton_append, List.dropWhile_cons]
      by_cases hc : t[i] = 35
      · rw [if_pos hc, if_pos (by rw [hc]; decide)]
      · rw [if_neg hc, if_neg (by simp only [List.contains_cons, List.contains_nil, Bool.or_false]; simpa using hc)]
        simp
    rw [e2]
    by_cases hc : t[i] = 35
    · rw [if_pos (show (t[i].toNat : Int) = 35 by rw [hc]; rfl), hr, if_pos hc]
      exact ih k (by omega) (by omega)
    · rw [if_neg (show ¬ (t[i].toNat : Int) = 35 from fun h => hc ((byte_eq (b := 35)).1 h)), hr, if_neg hc, ref_head_j2 n t ht k (i + 1) hi (by omega)]
      have : (t.take (i + 1)).length = i + 1 := by rw [List.length_take]; omega
      rw [this]
theorem ref_Heading_eq (l : List UInt8) (hl : l.length < 4611686018427387904) (k : Nat) (hk : 2 * l.length + 10 < k) : rubricatorref18_Heading.f k (S l) = some (((headingL l).1 : Int), S (headingL l).2) := by
  obtain ⟨k, rfl⟩ : ∃ m, k = m + 1 := ⟨k - 1, by omega⟩
  have hr := runB_le 35 l
  unfold rubricatorref18_Heading.f headingL
  rw [show (35 : Int) = ((35 : UInt8).toNat : Int) from rfl, ref_many_ev l 35 (by omega) _ (by omega)]
  simp only [Option.bind_some]
  by_cases h1 : runB 35 l < 1
  · rw [if_pos (by omega), if_pos (.inl h1)]
    rfl
  by_cases h2 : runB 35 l > 6
  · rw [if_neg (by omega), if_pos (by omega), if_pos (.inr (.inl h2))]
    rfl
  rw [if_neg (by omega), if_neg (by omega)]
  have hj : ∀ b : Bool, rubricatorref18_Heading.j0 (k + 1) (S l) ((runB 35 l : Nat) : Int) b = some (if b = true then ((0 : Int), S []) else (((runB 35 l : Nat) : Int), S (headT (l.drop (runB 35 l))))) := by
    intro b
    simp only [rubricatorref18_Heading.j0]
    cases b
    · rw [if_neg (by simp), if_pos (by omega), if_pos (by rw [S_size]; omega), show ((runB 35 l : Nat) : Int).toNat = runB 35 l from rfl, S_drop, ref_Strip_ev _ (by simp; omega) _ (by simp; omega)]
      simp only [Option.bind_some]
      have hle := trimS_le (l.drop (runB 35 l)) [32, 9]
      rw [List.length_drop] at hle
      have h := ref_head_l0 ((runB 35 l : Nat) : Int) (stripL (l.drop (runB 35 l))) (by unfold stripL; omega) (stripL (l.drop (runB 35 l))).length k (by omega) (by unfold stripL; omega)
      rw [List.take_length] at h
      rw [S_size, h, headT_eq]
      rfl
    · rfl
  by_cases h3 : (runB 35 l) < l.length
  · rw [if_pos (by rw [S_size]; omega), if_pos (by omega), if_pos (by rw [S_size]; omega), S_bt _ _ (by omega) (by omega), ref_blank_eq]
    simp only [Option.bind_some]
    have e : (l[((runB 35 l : Nat) : Int).toNat]'(by omega)) = l[runB 35 l] := by congr 1
    rw [e, hj]
    have hend : endsL (l.drop (runB 35 l)) = blankB l[runB 35 l] := by rw [drop_cons h3]; rfl
    rw [hend]
    cases hb : blankB l[runB 35 l]
    · simp
    · have hno : ¬ (runB 35 l < 1 ∨ runB 35 l > 6 ∨ true = false) := by simp; omega
      simp only [if_neg hno]
      rfl
  · rw [if_neg (by rw [S_size]; omega), hj]
    have hend : endsL (l.drop (runB 35 l)) = true := by rw [List.drop_of_length_le (by omega)]; rfl
    have hno : ¬ (runB 35 l < 1 ∨ runB 35 l > 6 ∨ true = false) := by simp; omega
    rw [hend]
    simp only [if_neg hno]
    rfl

/-! ### Rule -/
def okR (c b : UInt8) : Bool := b == c || blankB b
theorem ref_rule_l0 (l : List UInt8) (c : UInt8) (t : List UInt8) (hl : l = c :: t) (hn : l.length < 4611686018427387904) (d : Nat) : ∀ (k i n : Nat), i ≤ l.length → l.length - i = d → n ≤ i → d < k →
    rubricatorref18_Rule.l0 k (S l) (n : Int) (i : Int) = some (if (l.drop i).all (okR c) then decide (3 ≤ n + (l.drop i).count c) else false) := by
  induction d with
  | zero =>
    intro k i n h1 hd hni hk
    obtain ⟨k, rfl⟩ : ∃ m, k = m + 1 := ⟨k - 1, by omega⟩
    simp only [rubricatorref18_Rule.l0]
    rw [if_neg (by rw [S_size]; omega), List.drop_of_length_le (by omega)]
    simp only [List.all_nil, if_true, List.count_nil, Nat.add_zero]
    congr 1
    exact decide_eq_decide.2 (by omega)
  | succ d ih =>
    intro k i n h1 hd hni hk
    obtain ⟨k, rfl⟩ : ∃ m, k = m + 1 := ⟨k - 1, by omega⟩
    have hlt : i < l.length := by omega
    have e : (l[(i : Int).toNat]'(by omega)) = l[i] := by congr 1
    have e0 : bt (S l) 0 = (c.toNat : Int) := by rw [hl]; exact S_bt0 c t
    simp only [rubricatorref18_Rule.l0]
    rw [if_pos (by rw [S_size]; omega), if_pos (by omega), if_pos (by rw [S_size]; omega), S_bt l i (by omega) (by omega), e0, e, drop_cons hlt, List.all_cons]
    have hi1 : wrap64 ((i : Int) + 1) = ((i + 1 : Nat) : Int) := by rw [wrap_id (by omega) (by omega)]; omega
    have hn1 : wrap64 ((n : Int) + 1) = ((n + 1 : Nat) : Int) := by rw [wrap_id (by omega) (by omega)]; omega
    rw [hi1, hn1]
    by_cases hc : l[i] = c
    · rw [if_pos (byte_eq.2 hc), ih k (i + 1) (n + 1) (by omega) (by omega) (by omega) (by omega)]
      have : okR c l[i] = true := by unfold okR; rw [hc]; simp
      rw [this, Bool.true_and, hc, List.count_cons_self]
      have : n + 1 + (l.drop (i + 1)).count c = n + ((l.drop (i + 1)).count c + 1) := by omega
      rw [this]
    · rw [if_neg (fun h => hc (byte_eq.1 h)), ref_blank_eq]
      simp only [Option.bind_some]
      have ho : okR c l[i] = blankB l[i] := by unfold okR; rw [beq_eq_false_iff_ne.2 hc, Bool.false_or]
      rw [ho]
      cases hb : blankB l[i]
      · simp
      · rw [if_pos rfl, ih k (i + 1) n (by omega) (by omega) (by omega) (by omega), Bool.true_and, List.count_cons_of_ne hc]
theorem ref_Rule_eq (l : List UInt8) (hl : l.length < 4611686018427387904) (k : Nat) (hk : l.length + 1 < k) : rubricatorref18_Rule.f k (S l) = some (ruleL l) := by
  obtain ⟨k, rfl⟩ : ∃ m, k = m + 1 := ⟨k - 1, by omega⟩
  unfold rubricatorref18_Rule.f
  rw [S_toList]
  cases l with
  | nil => rfl
  | cons c t =>
    have h0 := ref_rule_l0 (c :: t) c t rfl hl (c :: t).length k 0 0 (by omega) (by omega) (by omega) (by omega)
    simp only [List.drop_zero, Nat.zero_add] at h0
    have hall : (c :: t).all (okR c) = (c :: t).all (fun b => ([32, 9, c] : List UInt8).contains b) := by
      congr 1
      funext b
      unfold okR blankB
      simp only [List.contains_cons, List.contains_nil, Bool.or_false]
      rw [Bool.or_comm, Bool.or_assoc]
    have hmain : rubricatorref18_Rule.j0 (k + 1) (S (c :: t)) false = some (decide (3 ≤ (c :: t).count c) && (c :: t).all (fun b => ([32, 9, c] : List UInt8).contains b)) := by
      simp only [rubricatorref18_Rule.j0]
      rw [if_neg (by simp)]
      show rubricatorref18_Rule.l0 k (S (c :: t)) ((0 : Nat) : Int) ((0 : Nat) : Int) = _
      rw [h0, hall]
      cases (c :: t).all (fun b => ([32, 9, c] : List UInt8).contains b) <;> simp
    rw [if_neg (by simp), if_pos (by rw [S_size]; simp), S_bt0, ruleL_cons]
    by_cases h1 : c = 42
    · rw [if_pos (show (c.toNat : Int) = 42 by rw [h1]; rfl), hmain, h1]
      rfl
    rw [if_neg (show ¬ (c.toNat : Int) = 42 from fun h => h1 ((byte_eq (b := 42)).1 h))]
    by_cases h2 : c = 45
    · rw [if_pos (show (c.toNat : Int) = 45 by rw [h2]; rfl), hmain, h2]
      rfl
    rw [if_neg (show ¬ (c.toNat : Int) = 45 from fun h => h2 ((byte_eq (b := 45)).1 h))]
    by_cases h3 : c = 95
    · have : ((c.toNat : Int) != 95) = false := by rw [h3]; rfl
      rw [this, hmain, h3]
      rfl
    · have : ((c.toNat : Int) != 95) = true := by
        rw [bne_iff_ne]
        exact fun h => h3 ((byte_eq (b := 95)).1 h)
      rw [this]
      have hc : ([42, 45, 95] : List UInt8).contains c = false := by
        simp only [List.contains_cons, List.contains_nil, Bool.or_false]
        simp [h1, h2, h3]
      rw [hc]
      rfl

/-! ### Under -/
theorem strip_nil (l : List UInt8) : (stripL l).isEmpty = (rightL l).isEmpty := by
  rw [← strip_eq]
  induction l with
  | nil => rfl
  | cons c t ih =>
    rw [trimL_cons]
    have h2 : rightL (c :: t) = if rightL t = [] then (if blankB c then [] else [c]) else c :: rightL t := by
      unfold rightL
      rw [trimR_cons, contains_blank]
    cases hb : blankB c
    · simp only [Bool.false_eq_true, if_false]
    · simp only [if_true]
      rw [ih, h2, hb]
      by_cases he : rightL t = []
      · rw [if_pos he, he]; rfl
      · rw [if_neg he]
        cases hr : rightL t with
        | nil => exact absurd hr he
        | cons a r => rfl
theorem under_eq (l : List UInt8) : underL l = underR l := by
  rw [underL_eq]
  cases l with
  | nil => rfl
  | cons c t =>
    unfold underR underAt
    simp only [strip_nil]
    by_cases h1 : c = 61
    · subst h1
      have e1 : 0 < runB 61 ((61 : UInt8) :: t) := by rw [runB_cons_eq]; omega
      have e2 : runB 45 ((61 : UInt8) :: t) = 0 := runB_cons_ne t (by decide)
      rw [e2]
      simp [e1]
    · by_cases h2 : c = 45
      · subst h2
        have e1 : 0 < runB 45 ((45 : UInt8) :: t) := by rw [runB_cons_eq]; omega
        have e2 : runB 61 ((45 : UInt8) :: t) = 0 := runB_cons_ne t (by decide)
        rw [e2]
        simp [e1]
      · have e1 : runB 61 (c :: t) = 0 := runB_cons_ne t h1
        have e2 : runB 45 (c :: t) = 0 := runB_cons_ne t h2
        rw [e1, e2]
        simp [h1, h2]

theorem LeafHeads : rubricatorlaw18_LeafHeads.Pure := by
  intro s _
  rw [S_eta s]
  refine ⟨3000, ?_⟩
  unfold rubricatorlaw18_LeafHeads.f
  by_cases hs : ((S s.data.toList).size : Int) > 1000
  · rw [if_pos hs]
  rw [if_neg hs]
  rw [S_size] at hs
  have hl : s.data.toList.length ≤ 1000 := by omega
  rw [leaf_Heading_eq _ (by omega) _ (by omega), ref_Heading_eq _ (by omega) _ (by omega), leaf_Rule_eq _ (by omega) 2999, ref_Rule_eq _ (by omega) _ (by omega), known_ok _ (by omega)]
  have e1 : leaf_Under.f (S s.data.toList) = some ((underL s.data.toList : Nat) : Int) := by
    unfold leaf_Under.f
    rw [if_pos (by rw [S_size]; omega), S_data]
  have e2 : rubricatorref18_Under.f (S s.data.toList) = some ((underL s.data.toList : Nat) : Int) := by
    unfold rubricatorref18_Under.f
    rw [if_pos (by rw [S_size]; omega), S_data, under_eq]
  rw [e1, e2]
  simp
end Go.Proofs.YtcmpmciadacapaaDoor.Pure
