/- A merged text (wip/mkclaim.py). -/
import Derived.Test.YtpimcdkhjingjaaGreatDoorRAT
import Derived.Test.YtpimcdkhjingjaaGreatDoorRAPLCo1
set_option linter.unusedVariables false
set_option linter.unusedSimpArgs false
set_option linter.unusedSectionVars false
set_option linter.unusedVariables false
namespace Go.Proofs.YtpimcdkhjingjaaGreatDoor.Pure
open Go.RowKit Go.Proofs.YtpimcdkhjingjaaGreatDoor.PBlk Go.Proofs.YtpimcdkhjingjaaGreatDoorW.PrintWords Go.Proofs.YtpimcdkhjingjaaGreatDoor.X Go.Proofs.YtpimcdkhjingjaaGreatDoor.PLCo
def allB (l : List UInt8) : Bool := l.all blankB
theorem dropWhile_all {α : Type} (p : α → Bool) : ∀ l : List α, (l.dropWhile p).isEmpty = l.all p
  | [] => rfl
  | a :: t => by
    rw [List.dropWhile_cons, List.all_cons]
    cases h : p a with
    | true => rw [if_pos rfl, dropWhile_all p t, Bool.true_and]
    | false => rw [if_neg (by decide)]; rfl
theorem all_reverse' {α : Type} (p : α → Bool) (l : List α) : l.reverse.all p = l.all p := by
  rw [List.all_reverse]
theorem all_dropWhile {α : Type} (p : α → Bool) : ∀ l : List α, (l.dropWhile p).all p = l.all p
  | [] => rfl
  | a :: t => by
    rw [List.dropWhile_cons]
    cases h : p a with
    | true => rw [if_pos rfl, all_dropWhile p t, List.all_cons, h, Bool.true_and]
    | false => rw [if_neg (by decide)]
theorem trim_all (l : List UInt8) : (Lib.trimS l [32, 9]).isEmpty = allB l := by
  unfold Lib.trimS Lib.trimLeftS Lib.trimRightS allB
  have e : (fun x : UInt8 => ([32, 9] : List UInt8).contains x) = blankB := funext contains_blank'
  rw [e, dropWhile_all, all_reverse', all_dropWhile, all_reverse']
theorem trimLeft_all (l : List UInt8) : (Lib.trimLeftS l [32, 9]).isEmpty = allB l := by
  unfold Lib.trimLeftS allB
  have e : (fun x : UInt8 => ([32, 9] : List UInt8).contains x) = blankB := funext contains_blank'
  rw [e, dropWhile_all]
theorem dropBlank_at (A B : List (List UInt8)) (x : List UInt8) (hx : allB x = false) (hB : ∀ y ∈ B, allB y = true) : dropBlank (A ++ x :: B) = A ++ [x] := by
  unfold dropBlank
  have e : (fun x : List UInt8 => (Lib.trimS x [32, 9]).isEmpty) = allB := funext trim_all
  rw [e, List.reverse_append, List.reverse_cons]
  have h1 : ∀ (C D : List (List UInt8)), (∀ y ∈ C, allB y = true) → (C ++ D).dropWhile allB = D.dropWhile allB := by
    intro C
    induction C with
    | nil => intro D _; rfl
    | cons c C ih =>
      intro D hC
      rw [List.cons_append, List.dropWhile_cons, if_pos (hC c List.mem_cons_self)]
      exact ih D fun y hy => hC y (List.mem_cons_of_mem _ hy)
  rw [List.append_assoc, h1 _ _ (fun y hy => hB y (List.mem_reverse.1 hy))]
  show ((x :: A.reverse).dropWhile allB).reverse = _
  rw [List.dropWhile_cons, if_neg (by rw [hx]; decide), List.reverse_cons, List.reverse_reverse]
def catL (ls : List (List UInt8)) : List UInt8 := ls.flatMap (· ++ [10])
theorem join_cat : ∀ (ls : List (List UInt8)), ls ≠ [] → Lib.join ls [10] ++ [10] = catL ls
  | [], h => absurd rfl h
  | [x], _ => by simp [Lib.join, catL, List.intercalate]
  | x :: y :: t, _ => by
    have ih := join_cat (y :: t) (List.cons_ne_nil _ _)
    have e : Lib.join (x :: y :: t) [10] = x ++ [10] ++ Lib.join (y :: t) [10] := by simp [Lib.join, List.intercalate, List.intersperse]
    rw [e, List.append_assoc, ih]
    rfl
def preB : ByteArray := ⟨#[32, 32, 32, 32]⟩
def bl (x : ByteArray) : Bool := allB x.data.toList
theorem bt_get (x : ByteArray) (j : Nat) (h : j < x.size) : bt x (j : Int) = ((x.data.toList[j]'(by rw [← Lib.size_eq]; exact h)).toNat : Int) := by
  have := S_bt x.data.toList (j : Int) (by omega) (by rw [← Lib.size_eq]; omega)
  rw [← S_eta] at this
  rw [this]
  congr 2
theorem code_l1 (xs : List ByteArray) (a : Int) (acc : List ByteArray) (t : ByteArray) (L : Int) (i : Nat) (hi : i < xs.length) (hs : xs[i].size ≤ 140737488351232) (k : Nat) : ∀ (d j : Nat) (b : Bool), j + d = xs[i].size →
    rubricatorlaw19_BlockCode.l1 (k + d + 1) xs a acc t L (i : Int) b (j : Int) = rubricatorlaw19_BlockCode.j3 k xs a acc t L (i : Int) (b && (xs[i].data.toList.drop j).all blankB) (if (i : Int) = 0 then (b && (xs[i].data.toList.drop j).all blankB) else false) := by
  intro d
  induction d with
  | zero =>
    intro j b hj
    rw [Nat.add_zero, rubricatorlaw19_BlockCode.l1, if_pos (by omega), if_pos (by omega), rd_at xs i hi, if_neg (by omega)]
    rw [List.drop_eq_nil_of_le (by rw [← Lib.size_eq]; omega)]
    simp only [List.all_nil, Bool.and_true]
    by_cases h0 : (i : Int) = 0
    · rw [if_pos h0, if_pos h0]
    · rw [if_neg h0, if_neg h0]
  | succ d ih =>
    intro j b hj
    have hlt : j < xs[i].size := by omega
    have hlt2 : j < xs[i].data.toList.length := by rw [← Lib.size_eq]; exact hlt
    have e : k + (d + 1) + 1 = (k + d + 1) + 1 := by omega
    have hd : (xs[i].data.toList.drop j).all blankB = (blankB xs[i].data.toList[j] && (xs[i].data.toList.drop (j + 1)).all blankB) := by rw [List.drop_eq_getElem_cons hlt2, List.all_cons]
    rw [e, rubricatorlaw19_BlockCode.l1, if_pos (by omega), if_pos (by omega), rd_at xs i hi, if_pos (by omega), wrap_id (by omega) (by omega), hd]
    have e1 : ((j + 1 : Nat) : Int) = (j : Int) + 1 := by omega
    cases b with
    | false =>
      rw [if_neg (by simp)]
      have := ih (j + 1) false (by omega)
      rw [e1] at this
      rw [this]
      simp only [Bool.false_and]
    | true =>
      rw [if_pos rfl, if_pos (by omega), bt_get _ _ hlt]
      obtain ⟨c, hc⟩ : ∃ c, c = xs[i].data.toList[j] := ⟨_, rfl⟩
      rw [← hc]
      by_cases h32 : ((c.toNat : Nat) : Int) = 32
      · have hc32 : c = 32 := UInt8.toNat_inj.1 (by have : (32 : UInt8).toNat = 32 := rfl; omega)
        rw [if_pos h32]
        have := ih (j + 1) true (by omega)
        rw [e1] at this
        rw [this]
        have hb : blankB c = true := by rw [hc32]; decide
        rw [hb, Bool.true_and, Bool.true_and]
      · rw [if_neg h32]
        have := ih (j + 1) (((c.toNat : Nat) : Int) == 9) (by omega)
        rw [e1] at this
        rw [this]
        have hb : blankB c = (((c.toNat : Nat) : Int) == 9) := by
          unfold blankB
          have h1 : (c == 32) = false := beq_eq_false_iff_ne.2 fun e => h32 (by rw [e]; rfl)
          rw [h1, Bool.false_or, Bool.eq_iff_iff, beq_iff_eq, beq_iff_eq]
          constructor
          · intro e; rw [e]; rfl
          · intro e; exact UInt8.toNat_inj.1 (by have : (9 : UInt8).toNat = 9 := rfl; omega)
        rw [hb, Bool.true_and]
structure LastNB (xs : List ByteArray) (i L : Nat) : Prop where
  zero : i = 0 → L = 0
  lt : 0 < i → L < i
  nb : 0 < i → ∀ h : L < xs.length, bl xs[L] = false
  rest : ∀ j, L < j → j < i → ∀ h : j < xs.length, bl xs[j] = true
theorem code_l0 (xs : List ByteArray) (hs : ∀ x ∈ xs, x.size ≤ 140737488351232) (hl : xs.length ≤ 1500) (a : Int) (Q : Nat) (T : Prop)
    (hT : ∀ k (L : Nat), 0 < xs.length → LastNB xs xs.length L → (∀ h : 0 < xs.length, bl xs[0] = false) → Q ≤ k → rubricatorlaw19_BlockCode.l2 k xs a (xs.map (preB ++ ·)) (⟨#[]⟩ : ByteArray) (L : Int) 0 = some true) :
    ∀ (d i L : Nat), i + d = xs.length → LastNB xs i L → (0 < i → ∀ h : 0 < xs.length, bl xs[0] = false) → 0 < xs.length → ∃ K, ∀ k, K ≤ k → rubricatorlaw19_BlockCode.l0 k xs a ((xs.take i).map (preB ++ ·)) (⟨#[]⟩ : ByteArray) (L : Int) (i : Int) = some true := by
  intro d
  induction d with
  | zero =>
    intro i L hi hL h0 hp
    refine ⟨Q + 1, fun k hk => ?_⟩
    obtain ⟨k, rfl⟩ : ∃ m, k = m + 1 := ⟨k - 1, by omega⟩
    have e : i = xs.length := by omega
    subst e
    rw [rubricatorlaw19_BlockCode.l0, if_neg (by omega), List.take_length]
    exact hT k L hp hL (h0 hp) (by omega)
  | succ d ih =>
    intro i L hi hL h0 hp
    have hlt : i < xs.length := by omega
    have hsz := hs _ (List.getElem_mem hlt)
    have hpre : preB.size = 4 := rfl
    have hacc : ((xs.take i).map (preB ++ ·)) ++ [preB ++ xs[i]] = (xs.take (i + 1)).map (preB ++ ·) := by
      rw [List.take_succ_eq_append_getElem hlt, List.map_append, List.map_singleton]
    have hal : ((xs.take i).map (preB ++ ·)).length = i := by rw [List.length_map, List.length_take]; omega
    by_cases hb : bl xs[i] = true
    · by_cases hz : i = 0
      · refine ⟨xs[i].size + 3, fun k hk => ?_⟩
        obtain ⟨m, rfl⟩ : ∃ m, k = (m + 1 + xs[i].size + 1) + 1 := ⟨k - xs[i].size - 3, by omega⟩
        rw [rubricatorlaw19_BlockCode.l0, if_pos (by omega)]
        have := code_l1 xs a ((xs.take i).map (preB ++ ·)) (⟨#[]⟩ : ByteArray) (L : Int) i hlt hsz (m + 1) xs[i].size 0 true (by omega)
        rw [List.drop_zero, Bool.true_and, if_pos (by omega)] at this
        change _ = rubricatorlaw19_BlockCode.j3 (m + 1) xs a _ _ _ _ (bl xs[i]) (bl xs[i]) at this
        rw [hb] at this
        exact this.trans (by rw [rubricatorlaw19_BlockCode.j3, if_pos rfl, known_yes]; rfl)
      · have hL' : LastNB xs (i + 1) L := ⟨fun h => by omega, fun _ => by have := hL.lt (by omega); omega, fun _ => hL.nb (by omega), fun j h1 h2 h3 => by
          by_cases e : j = i
          · subst e; exact hb
          · exact hL.rest j h1 (by omega) h3⟩
        obtain ⟨K, hK⟩ := ih (i + 1) L (by omega) hL' (fun _ => h0 (by omega)) hp
        refine ⟨K + xs[i].size + 3, fun k hk => ?_⟩
        obtain ⟨m, rfl⟩ : ∃ m, k = (m + 1 + xs[i].size + 1) + 1 := ⟨k - xs[i].size - 3, by omega⟩
        rw [rubricatorlaw19_BlockCode.l0, if_pos (by omega)]
        have := code_l1 xs a ((xs.take i).map (preB ++ ·)) (⟨#[]⟩ : ByteArray) (L : Int) i hlt hsz (m + 1) xs[i].size 0 true (by omega)
        rw [List.drop_zero, Bool.true_and, if_neg (by omega)] at this
        change _ = rubricatorlaw19_BlockCode.j3 (m + 1) xs a _ _ _ _ (bl xs[i]) _ at this
        rw [hb] at this
        refine this.trans ?_
        rw [rubricatorlaw19_BlockCode.j3, if_neg (by simp), if_pos rfl, if_pos (by omega), if_pos (by omega), rd_at xs i hlt, if_pos (by omega), if_pos (by rw [hal]; omega), wrap_id (by omega) (by omega)]
        have h2 := hK m (by omega)
        rw [← hacc] at h2
        rw [show ((i + 1 : Nat) : Int) = (i : Int) + 1 by omega] at h2
        exact h2
    · have hb' : bl xs[i] = false := by simpa using hb
      have hL' : LastNB xs (i + 1) i := ⟨fun h => by omega, fun _ => by omega, fun _ _ => hb', fun j h1 h2 _ => by omega⟩
      obtain ⟨K, hK⟩ := ih (i + 1) i (by omega) hL' (fun _ h => by
        by_cases e : i = 0
        · subst e; exact hb'
        · exact h0 (by omega) h) hp
      refine ⟨K + xs[i].size + 3, fun k hk => ?_⟩
      obtain ⟨m, rfl⟩ : ∃ m, k = (m + 1 + xs[i].size + 1) + 1 := ⟨k - xs[i].size - 3, by omega⟩
      rw [rubricatorlaw19_BlockCode.l0, if_pos (by omega)]
      have := code_l1 xs a ((xs.take i).map (preB ++ ·)) (⟨#[]⟩ : ByteArray) (L : Int) i hlt hsz (m + 1) xs[i].size 0 true (by omega)
      rw [List.drop_zero, Bool.true_and] at this
      change _ = rubricatorlaw19_BlockCode.j3 (m + 1) xs a _ _ _ _ (bl xs[i]) (if (i : Int) = 0 then bl xs[i] else false) at this
      rw [hb', ite_self] at this
      refine this.trans ?_
      rw [rubricatorlaw19_BlockCode.j3, if_neg (by simp), if_neg (by simp), if_pos (by omega), if_pos (by omega), rd_at xs i hlt, if_pos (by omega), if_pos (by rw [hal]; omega), wrap_id (by omega) (by omega)]
      have h2 := hK m (by omega)
      rw [← hacc] at h2
      rw [show ((i + 1 : Nat) : Int) = (i : Int) + 1 by omega] at h2
      exact h2
theorem S_cat (l : List (List UInt8)) (x : ByteArray) : S (catL l) ++ x ++ ⟨#[10]⟩ = S (catL (l ++ [x.data.toList])) := by
  have e1 : x = S x.data.toList := rfl
  have e2 : (⟨#[10]⟩ : ByteArray) = S [10] := rfl
  rw [e2]
  conv => lhs; rw [e1]
  rw [S_append, S_append]
  unfold catL
  rw [List.flatMap_append, List.append_assoc]
  simp
theorem catL_len : ∀ xs : List ByteArray, (catL (lns xs)).length = wsum xs
  | [] => rfl
  | x :: t => by
    have := catL_len t
    show ((x.data.toList ++ [10]) ++ catL (lns t)).length = 1 + x.size + wsum t
    rw [List.length_append, List.length_append, this, ← Lib.size_eq]
    simp; omega
theorem wsum_take (xs : List ByteArray) (i : Nat) : wsum (xs.take i) ≤ wsum xs := by
  induction xs generalizing i with
  | nil => simp
  | cons x t ih =>
    cases i with
    | zero => simp [wsum]
    | succ i => rw [List.take_succ_cons, wsum, wsum]; have := ih i; omega
theorem code_l2 (xs : List ByteArray) (hs : ∀ x ∈ xs, x.size ≤ 140737488351232) (hl : wsum xs ≤ 1500) (a : Int) (ms : List ByteArray) (L : Nat) (hL : L < xs.length) (k : Nat) : ∀ (d j : Nat), j + d = L + 1 →
    rubricatorlaw19_BlockCode.l2 (k + d + 1) xs a ms (S (catL (lns (xs.take j)))) (L : Int) (j : Int) = rubricatorlaw19_BlockCode.l3 k a ms (S (catL (lns (xs.take (L + 1))))) 0 := by
  intro d
  induction d with
  | zero =>
    intro j hj
    have e : j = L + 1 := by omega
    subst e
    rw [Nat.add_zero, rubricatorlaw19_BlockCode.l2, if_neg (by omega)]
  | succ d ih =>
    intro j hj
    have hlen := wsum_len xs
    have hlt : j < xs.length := by omega
    have hsz := hs _ (List.getElem_mem hlt)
    have e : k + (d + 1) + 1 = (k + d + 1) + 1 := by omega
    have hc : (S (catL (lns (xs.take j)))).size ≤ 1500 := by
      rw [S_size, catL_len]
      have := wsum_take xs j
      omega
    rw [e, rubricatorlaw19_BlockCode.l2, if_pos (by omega), if_pos (by omega), if_pos (by omega), rd_at xs j hlt, if_pos (by omega), if_pos (by rw [ByteArray.size_append]; omega), wrap_id (by omega) (by omega), S_cat]
    have := ih (j + 1) (by omega)
    rw [List.take_succ_eq_append_getElem hlt, lns_app, show ((j + 1 : Nat) : Int) = (j : Int) + 1 by omega] at this
    exact this
theorem lns_pre (xs : List ByteArray) : lns (xs.map (preB ++ ·)) = (lns xs).map (List.replicate 4 32 ++ ·) := by
  unfold lns
  rw [List.map_map, List.map_map]
  refine List.map_congr_left fun x _ => ?_
  show (preB ++ x).data.toList = List.replicate 4 32 ++ x.data.toList
  have e1 : x = S x.data.toList := rfl
  have e2 : preB = S (List.replicate 4 32) := rfl
  rw [e2]
  conv => lhs; rw [e1]
  rw [S_append]
  rfl
theorem code_parse (xs : List ByteArray) (n L : Nat) (h0 : 0 < xs.length) (hL : LastNB xs xs.length L) (hb0 : ∀ h : 0 < xs.length, bl xs[0] = false) :
    parseT F0 ((lns xs).map (List.replicate 4 32 ++ ·) ++ List.replicate n []) = ⟨1, 0, false, false, ⟨#[]⟩, ⟨#[]⟩, ⟨#[]⟩, [⟨5, 0, false, false, S (catL (lns (xs.take (L + 1)))), ⟨#[]⟩, ⟨#[]⟩, []⟩]⟩ := by
  cases hx : xs with
  | nil => rw [hx] at h0; cases h0
  | cons x t =>
    have hx0 : allB x.data.toList = false := by
      have := hb0 h0
      simp only [hx] at this
      exact this
    have hin : InCode codeB (lns (x :: t) ++ List.replicate n []) (parseS F0 ((lns (x :: t)).map (List.replicate 4 32 ++ ·) ++ List.replicate n [])) := by
      unfold parseS
      show InCode codeB _ (St.feed F0 0 St.init ((List.replicate 4 32 ++ x.data.toList) :: ((lns t).map (List.replicate 4 32 ++ ·) ++ List.replicate n [])))
      rw [St.feed]
      have h1 := code_first F0 x.data.toList (fun e => by
        have := trimLeft_all x.data.toList
        rw [e, hx0] at this
        cases this)
      have h2 := code_feed F0 ((lns t).map (fun l => (List.replicate 4 32 ++ l, l)) ++ List.replicate n ([], [])) 1 _ _ h1 (fun z hz => by
        rcases List.mem_append.1 hz with hz | hz
        · obtain ⟨l, _, rfl⟩ := List.mem_map.1 hz
          exact .inl rfl
        · have := (List.mem_replicate.1 hz).2
          subst this
          exact .inr ⟨rfl, rfl⟩)
      rw [List.map_append, List.map_append, List.map_map, List.map_map, List.map_replicate, List.map_replicate] at h2
      have e1 : List.map ((fun z : List UInt8 × List UInt8 => z.2) ∘ fun l => (List.replicate 4 32 ++ l, l)) (lns t) = lns t := List.map_id' _
      have e2 : List.map ((fun z : List UInt8 × List UInt8 => z.1) ∘ fun l => (List.replicate 4 32 ++ l, l)) (lns t) = (lns t).map (List.replicate 4 32 ++ ·) := rfl
      rw [e1, e2] at h2
      exact h2
    have ht := code_tree (b := codeB) rfl rfl hin
    unfold parseT
    rw [ht]
    have hcode : ({ codeB with lines := lns (x :: t) ++ List.replicate n [] } : Blk).code = catL (lns ((x :: t).take (L + 1))) := by
      have hLx : L < (x :: t).length := by have := hL.lt h0; rw [hx] at this; exact this
      have hsplit : lns (x :: t) ++ List.replicate n [] = lns ((x :: t).take L) ++ ((x :: t)[L].data.toList :: (lns ((x :: t).drop (L + 1)) ++ List.replicate n [])) := by
        conv => lhs; rw [← List.take_append_drop L (x :: t), List.drop_eq_getElem_cons hLx]
        rw [lns_app, List.append_assoc]
        rfl
      have hnb : allB (x :: t)[L].data.toList = false := by
        have := hL.nb h0 (by rw [hx]; exact hLx)
        simp only [hx] at this
        exact this
      have hdb : dropBlank (lns (x :: t) ++ List.replicate n []) = lns ((x :: t).take (L + 1)) := by
        rw [hsplit, dropBlank_at _ _ _ hnb]
        · rw [List.take_succ_eq_append_getElem hLx, lns_app]; rfl
        · intro y hy
          rcases List.mem_append.1 hy with hy | hy
          · unfold lns at hy
            obtain ⟨z, hz, rfl⟩ := List.mem_map.1 hy
            obtain ⟨j, hj, rfl⟩ := List.getElem_of_mem hz
            rw [List.getElem_drop]
            rw [List.length_drop] at hj
            have := hL.rest (L + 1 + j) (by omega) (by rw [hx]; omega) (by rw [hx]; omega)
            simp only [hx] at this
            exact this
          · have := (List.mem_replicate.1 hy).2
            subst this
            rfl
      unfold Blk.code Blk.codeLines
      show (if (if (0 : Nat) = 0 then dropBlank (lns (x :: t) ++ List.replicate n []) else _) = [] then [] else Lib.join (if (0 : Nat) = 0 then dropBlank (lns (x :: t) ++ List.replicate n []) else _) [10] ++ [10]) = _
      rw [if_pos rfl, hdb]
      have hne : lns ((x :: t).take (L + 1)) ≠ [] := by rw [List.take_succ_cons]; exact List.cons_ne_nil _ _
      rw [if_neg hne, join_cat _ hne]
    rw [hcode]
    rfl
theorem code_l3 (xs : List ByteArray) (hw : wsum xs ≤ 1500) (n L : Nat) (hn : n ≤ 9) (h0 : 0 < xs.length) (hL : LastNB xs xs.length L) (hb0 : ∀ h : 0 < xs.length, bl xs[0] = false) (k : Nat) : ∀ (d i : Nat), i + d = n →
    rubricatorlaw19_BlockCode.l3 (k + d + 1) (n : Int) (xs.map (preB ++ ·) ++ List.replicate i ⟨#[]⟩) (S (catL (lns (xs.take (L + 1))))) (i : Int) = some true := by
  have hlen := wsum_len xs
  intro d
  induction d with
  | zero =>
    intro i hi
    have e : i = n := by omega
    subst e
    have htot : tot ((lns xs).map (List.replicate 4 32 ++ ·) ++ List.replicate i []) ≤ 4000000 := by
      have key : ∀ ys : List ByteArray, tot ((lns ys).map (List.replicate 4 32 ++ ·)) ≤ 6 * wsum ys := by
        intro ys
        induction ys with
        | nil => exact Nat.le_refl _
        | cons y ys ih =>
          show (List.replicate 4 (32 : UInt8) ++ y.data.toList).length + 2 + tot ((lns ys).map (List.replicate 4 32 ++ ·)) ≤ 6 * (1 + y.size + wsum ys)
          rw [List.length_append, List.length_replicate, ← Lib.size_eq]
          omega
      rw [tot_app, tot_nils]
      have := key xs
      omega
    rw [Nat.add_zero, rubricatorlaw19_BlockCode.l3, if_neg (by omega), parse_of _ (by rw [lns_app, lns_nils, lns_pre]; exact htot), Option.bind_some, lns_app, lns_nils, lns_pre, code_parse xs i L h0 hL hb0]
    refine (if_pos (by rfl)).trans ((if_pos (by exact Int.ofNat_lt.2 (Nat.succ_pos 0))).trans ((if_pos (by rfl)).trans ((if_pos ?_).trans ((if_pos ?_).trans ?_))))
    · rfl
    · show (S []).toList = []
      rw [S_toList]
    · rw [known_yes]; rfl
  | succ d ih =>
    intro i hi
    have e : k + (d + 1) + 1 = (k + d + 1) + 1 := by omega
    have hal : (xs.map (preB ++ ·) ++ List.replicate i (⟨#[]⟩ : ByteArray)).length = xs.length + i := by rw [List.length_append, List.length_map, List.length_replicate]
    rw [e, rubricatorlaw19_BlockCode.l3, if_pos (by omega), if_pos (by rw [hal]; omega), wrap_id (by omega) (by omega), List.append_assoc, ← List.replicate_succ']
    have := ih (i + 1) (by omega)
    rw [show ((i + 1 : Nat) : Int) = (i : Int) + 1 by omega] at this
    exact this
theorem BlockCode (xs : List ByteArray) (a : Int) (hs : ∀ x ∈ xs, x.size ≤ 140737488351232) (hl : xs.length * 16 ≤ 140737488351232) : ∃ k, rubricatorlaw19_BlockCode.f k xs a = some true := by
  have hj : ∀ k, 0 < k → rubricatorlaw19_BlockCode.j0 k xs a true = some true := fun k hk => by
    obtain ⟨k, rfl⟩ : ∃ m, k = m + 1 := ⟨k - 1, by omega⟩
    rw [rubricatorlaw19_BlockCode.j0, if_pos rfl]
  have hquick : (¬ wsum xs ≤ 1500 ∨ (xs.length : Int) = 0 ∨ a < 0 ∨ a > 9) → ∃ k, rubricatorlaw19_BlockCode.f k xs a = some true := by
    intro hc
    refine ⟨xs.length + 1, ?_⟩
    unfold rubricatorlaw19_BlockCode.f
    have hjj := hj (xs.length + 1) (by omega)
    rcases heavy_is xs hs (by omega) (xs.length + 1) (by omega) with h | ⟨h, hw⟩
    · rw [h, Option.bind_some, if_pos rfl]; exact hjj
    · rw [h, Option.bind_some, if_neg (by simp)]
      by_cases g1 : (xs.length : Int) = 0
      · rw [if_pos g1]; exact hjj
      · rw [if_neg g1]
        by_cases g2 : a < 0
        · rw [if_pos g2]; exact hjj
        · rw [if_neg g2, decide_eq_true (by omega)]; exact hjj
  by_cases hc : ¬ wsum xs ≤ 1500 ∨ (xs.length : Int) = 0 ∨ a < 0 ∨ a > 9
  · exact hquick hc
  · obtain ⟨n, rfl⟩ : ∃ n : Nat, a = (n : Int) := ⟨a.toNat, by omega⟩
    have hw : wsum xs ≤ 1500 := by
      rcases Nat.lt_or_ge 1500 (wsum xs) with h | h
      · exact absurd (.inl (by omega)) hc
      · exact h
    have hp : 0 < xs.length := by omega
    have hlen := wsum_len xs
    obtain ⟨K, hK⟩ := code_l0 xs hs (by omega) (n : Int) (n + 1 + xs.length + 1) True (fun k L h0 hL hb0 hk => by
      have hLt := hL.lt h0
      obtain ⟨m, rfl⟩ : ∃ m, k = (m + n + 1) + (L + 1) + 1 := ⟨k - n - 1 - (L + 1) - 1, by omega⟩
      have h1 := code_l2 xs hs hw (n : Int) (xs.map (preB ++ ·)) L hLt (m + n + 1) (L + 1) 0 (by omega)
      have h2 := code_l3 xs hw n L (by omega) h0 hL hb0 m n 0 (by omega)
      rw [List.replicate_zero, List.append_nil] at h2
      exact h1.trans h2) xs.length 0 0 (by omega) ⟨fun _ => rfl, fun h => by omega, fun h => by omega, fun j h1 h2 => by omega⟩ (fun h => by omega) hp
    refine ⟨K + xs.length + 2, ?_⟩
    unfold rubricatorlaw19_BlockCode.f
    rcases heavy_is xs hs (by omega) (K + xs.length + 2) (by omega) with h | ⟨h, _⟩
    · rw [h, Option.bind_some, if_pos rfl]; exact hj _ (by omega)
    · rw [h, Option.bind_some, if_neg (by simp), if_neg (by omega), if_neg (by omega), decide_eq_false (by omega), rubricatorlaw19_BlockCode.j0, if_neg (by simp)]
      exact hK (K + xs.length + 1) (by omega)
end Go.Proofs.YtpimcdkhjingjaaGreatDoor.Pure
