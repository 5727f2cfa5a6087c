/- A merged text (wip/mkclaim.py). -/
import Derived.Test.YtpimcdkhjingjaaGreatDoorRBQ
import Derived.Test.YtpimcdkhjingjaaGreatDoorRBR
import Derived.Test.YtpimcdkhjingjaaGreatDoorRBS
set_option linter.unusedVariables false
set_option linter.unusedSimpArgs false
set_option linter.unusedSectionVars false
set_option linter.unusedVariables false
namespace Go.Proofs.YtpimcdkhjingjaaGreatDoor.X
open Go.RowKit Go.Proofs.YtpimcdkhjingjaaGreatDoorW.PrintWords Go.Proofs.YtpimcdkhjingjaaGreatDoor.PBlk
theorem feed_good {F : LeafFns} (HF : LeafOk F) (HH : ∀ l, (F.heading l).2.length ≤ l.length) (M : Nat) (ls : List (List UInt8)) : ∀ (i : Nat) (t : St) (N : Nat), Wf N t → Good M t → (∀ l ∈ ls, l.length + 4 ≤ M) → N + 6 * tot ls ≤ 68719476736 → i + ls.length ≤ 1099511627776 →
    Wf (N + 6 * tot ls) (t.feed F i ls) ∧ Good M (t.feed F i ls) := by
  induction ls with
  | nil => intro i t N hf hg _ _ _; exact ⟨hf, hg⟩
  | cons l ls ih =>
    intro i t N hf hg hl hN hi
    rw [tot] at hN
    rw [List.length_cons] at hi
    have hlm := hl l List.mem_cons_self
    have hok : Cur.Ok ⟨l, 0, 0, 0⟩ := ⟨by show l.length ≤ _; omega, Nat.zero_le _, Nat.zero_le _, fun _ => Nat.zero_le _, Nat.zero_le _, fun h => absurd h (Nat.lt_irrefl _)⟩
    have hft1 : Wf N { t with at_ := i, cur := ⟨l, 0, 0, 0⟩ } := (hf.goAt (m := i) (by omega)).at hok
    have haf := line_after HF hft1 (M := N + 6 * (l.length + 2)) (Nat.le_refl _) (by omega)
    have hgf := line_good HF HH hft1 (hg.same rfl) (by exact hlm) (by show N + 6 * (l.length + 2) ≤ _; omega)
    have := ih (i + 1) (t.eat F i l) (N + 6 * (l.length + 2)) haf.wf hgf (fun x hx => hl x (List.mem_cons_of_mem _ hx)) (by omega) (by omega)
    rw [St.feed, tot]
    have e : N + 6 * (l.length + 2 + tot ls) = N + 6 * (l.length + 2) + 6 * tot ls := by omega
    rw [e]
    exact this
theorem parse_good (ls : List (List UInt8)) (h : tot ls ≤ 4000000) : Wf (1 + 6 * tot ls) (parseS F0 ls) ∧ Good (tot ls + 4) (parseS F0 ls) := by
  have hlen := tot_len ls
  exact feed_good leafOk heading_le (tot ls + 4) ls 0 St.init 1 Wf.init (Good.init _) (fun l hl => by have := tot_mem ls l hl; omega) (by omega) (by omega)
theorem parse_kin (ls : List (List UInt8)) (h : tot ls ≤ 4000000) : Kin (parseS F0 ls) := fun i hi k hk =>
  ⟨(parse_good ls h).2.kin i hi k hk, (parse_good ls h).1.kids i hi k hk⟩
theorem leafNil : LeafNil F0 := ⟨fun l => (leafOk.marker_le l).1, by decide +kernel, by decide +kernel, by decide +kernel, by decide +kernel⟩
theorem parse_root (ls : List (List UInt8)) : ((parseS F0 ls).get 0).kind = 1 := (SimT.blanks leafNil 0 ls).root
theorem tree_doc (s : St) (h : (s.get 0).kind = 1) (f : Nat) : s.tree (f + 1) 0 = ⟨1, 0, false, false, ⟨#[]⟩, ⟨#[]⟩, ⟨#[]⟩, (s.get 0).kids.map (s.tree f)⟩ := by
  rw [St.tree, h]
  have e1 : (s.get 0).num = 0 := by unfold Blk.num; rw [if_neg (by rw [h]; decide)]
  have e2 : (s.get 0).text = [] := by unfold Blk.text; rw [if_neg (by rw [h]; decide), if_neg (by rw [h]; decide), if_neg (by rw [h]; decide)]
  rw [e1, e2]
  rfl
theorem same_lift {k m : Nat} (h : k ≤ m) {x : S27} (hs : rubricatorlaw19_same.f k x.f0 x.f1 x.f2 x.f3 x.f4 x.f5 x.f6 x.f7 x.f0 x.f1 x.f2 x.f3 x.f4 x.f5 x.f6 x.f7 = some true) : rubricatorlaw19_same.f m x.f0 x.f1 x.f2 x.f3 x.f4 x.f5 x.f6 x.f7 x.f0 x.f1 x.f2 x.f3 x.f4 x.f5 x.f6 x.f7 = some true := by
  induction h with
  | refl => exact hs
  | step _ ih => exact rubricatorlaw19_same.mono _ _ _ _ _ _ _ _ _ _ _ _ _ _ _ _ _ _ ih
def SameAt (k : Nat) (x : S27) : Prop := rubricatorlaw19_same.f k x.f0 x.f1 x.f2 x.f3 x.f4 x.f5 x.f6 x.f7 x.f0 x.f1 x.f2 x.f3 x.f4 x.f5 x.f6 x.f7 = some true
theorem same_loop (K : Nat) (l : List S27) (h : ∀ x ∈ l, SameAt K x) (hl : l.length ≤ 4611686018427387904) (a0 a1 : Int) (a2 a3 : Bool) (a4 a5 a6 : ByteArray) (b0 b1 : Int) (b2 b3 : Bool) (b4 b5 b6 : ByteArray) :
    ∀ (d k i : Nat), i + d = l.length → K + d + 1 ≤ k → rubricatorlaw19_same.l0 k (i : Int) a0 a1 a2 a3 a4 a5 a6 l b0 b1 b2 b3 b4 b5 b6 l = some true := by
  intro d
  induction d with
  | zero =>
    intro k i hi hk
    obtain ⟨k, rfl⟩ : ∃ m, k = m + 1 := ⟨k - 1, by omega⟩
    rw [rubricatorlaw19_same.l0, if_neg (by omega)]
  | succ d ih =>
    intro k i hi hk
    obtain ⟨k, rfl⟩ : ∃ m, k = m + 1 := ⟨k - 1, by omega⟩
    have hlt : i < l.length := by omega
    have he : rd_T27 l (i : Int) = l[i] := by
      show l.getD (i : Int).toNat z27 = _
      rw [Int.toNat_natCast, List.getD_eq_getElem?_getD, List.getElem?_eq_getElem hlt]
      rfl
    have hs : SameAt k l[i] := same_lift (by omega) (h _ (List.getElem_mem hlt))
    unfold SameAt at hs
    rw [rubricatorlaw19_same.l0, if_pos (by omega), if_pos (by omega), if_pos (by omega), he, hs, Option.bind_some, if_pos rfl, wrap_id (by omega) (by omega)]
    have := ih k (i + 1) (by omega) (by omega)
    rw [show ((i + 1 : Nat) : Int) = (i : Int) + 1 by omega] at this
    exact this
theorem same_node (K : Nat) (x : S27) (h : ∀ y ∈ x.f7, SameAt K y) (hl : x.f7.length ≤ 4611686018427387904) : SameAt (K + x.f7.length + 3) x := by
  unfold SameAt
  have := same_loop K x.f7 h hl x.f0 x.f1 x.f2 x.f3 x.f4 x.f5 x.f6 x.f0 x.f1 x.f2 x.f3 x.f4 x.f5 x.f6 x.f7.length (K + x.f7.length + 1) 0 (by omega) (Nat.le_refl _)
  rw [rubricatorlaw19_same.f, if_pos rfl, if_pos rfl, if_neg (by simp), if_neg (by simp), if_pos rfl, if_pos rfl, if_pos rfl]
  rw [rubricatorlaw19_same.j0, if_neg (by simp)]
  exact this
theorem same_tree (s : St) (hk : ∀ i, (s.get i).kids.length ≤ 4611686018427387904) (f : Nat) : ∃ K, ∀ i, SameAt K (s.tree f i) := by
  induction f with
  | zero => exact ⟨3, fun i => same_node 0 z27 (fun y hy => by cases hy) (Nat.zero_le _)⟩
  | succ f ih =>
    obtain ⟨K, hK⟩ := ih
    refine ⟨K + 4611686018427387904 + 3, fun i => ?_⟩
    have h1 := same_node K (s.tree (f + 1) i) (fun y hy => by
      rw [St.tree] at hy
      obtain ⟨k, _, rfl⟩ := List.mem_map.1 hy
      exact hK k) (by rw [St.tree]; simp only [List.length_map]; exact hk i)
    refine same_lift ?_ h1
    rw [St.tree]
    simp only [List.length_map]
    have := hk i
    omega
theorem parse_kidl (ls : List (List UInt8)) (h : tot ls ≤ 4000000) (i : Nat) : ((parseS F0 ls).get i).kids.length ≤ 4611686018427387904 := by
  by_cases hi : i < (parseS F0 ls).bs.length
  · have := (parse_good ls h).1.kidl i hi
    have := (parse_good ls h).1.big
    omega
  · unfold St.get
    rw [List.getD_eq_getElem?_getD, List.getElem?_eq_none (by omega)]
    exact Nat.zero_le _
end Go.Proofs.YtpimcdkhjingjaaGreatDoor.X
set_option linter.unusedVariables false
namespace Go.Proofs.YtpimcdkhjingjaaGreatDoor.Pure
open Go.RowKit Go.Proofs.YtpimcdkhjingjaaGreatDoor.PBlk Go.Proofs.YtpimcdkhjingjaaGreatDoorW.PrintWords Go.Proofs.YtpimcdkhjingjaaGreatDoor.X
set_option maxRecDepth 100000 in
theorem known_yes : rubricatorlaw19_known.f = some true := by decide +kernel
theorem parse_of (xs : List ByteArray) (h : tot (lns xs) ≤ 4000000) : block_Parse.f xs = some (tupT (parseT F0 (lns xs))) := by
  unfold block_Parse.f
  rw [if_pos h]
def wsum : List ByteArray → Nat
  | [] => 0
  | x :: t => 1 + x.size + wsum t
theorem tot_wsum : ∀ xs : List ByteArray, tot (lns xs) ≤ 2 * wsum xs
  | [] => Nat.le_refl _
  | x :: t => by
    have := tot_wsum t
    show x.data.toList.length + 2 + tot (lns t) ≤ 2 * (1 + x.size + wsum t)
    rw [← Lib.size_eq]
    omega
theorem wsum_len : ∀ xs : List ByteArray, xs.length ≤ wsum xs
  | [] => Nat.le_refl _
  | x :: t => by have := wsum_len t; rw [List.length_cons, wsum]; omega
theorem wsum_drop (xs : List ByteArray) (i : Nat) (h : i < xs.length) : wsum (xs.drop i) = 1 + xs[i].size + wsum (xs.drop (i + 1)) := by
  rw [List.drop_eq_getElem_cons h, wsum]
theorem rd_at (xs : List ByteArray) (i : Nat) (h : i < xs.length) : rdOf ByteArray.empty xs (i : Int) = xs[i] := by
  unfold rdOf
  rw [Int.toNat_natCast, List.getD_eq_getElem?_getD, List.getElem?_eq_getElem h]
  rfl
theorem heavy_at (xs : List ByteArray) (hs : ∀ x ∈ xs, x.size ≤ 140737488351232) (hl : xs.length ≤ 140737488351232) : ∀ (d k i n : Nat), i + d = xs.length → n ≤ 1500 → d + 1 ≤ k →
    (rubricatorlaw19_heavy.l0 k xs (n : Int) (i : Int) = some true) ∨ (rubricatorlaw19_heavy.l0 k xs (n : Int) (i : Int) = some false ∧ n + wsum (xs.drop i) ≤ 1500) := by
  intro d
  induction d with
  | zero =>
    intro k i n hi hn hk
    obtain ⟨k, rfl⟩ : ∃ m, k = m + 1 := ⟨k - 1, by omega⟩
    right
    rw [rubricatorlaw19_heavy.l0, if_neg (by omega), List.drop_eq_nil_of_le (by omega)]
    exact ⟨rfl, by rw [wsum]; exact hn⟩
  | succ d ih =>
    intro k i n hi hn hk
    obtain ⟨k, rfl⟩ : ∃ m, k = m + 1 := ⟨k - 1, by omega⟩
    have hlt : i < xs.length := by omega
    have hsz := hs _ (List.getElem_mem hlt)
    rw [rubricatorlaw19_heavy.l0, if_pos (by omega), if_pos (by omega), rd_at xs i hlt, wrap_id (i := (n : Int) + 1) (by omega) (by omega), wrap_id (i := (n : Int) + 1 + (xs[i].size : Int)) (by omega) (by omega), wrap_id (i := (i : Int) + 1) (by omega) (by omega)]
    by_cases hgt : (n : Int) + 1 + (xs[i].size : Int) > 1500
    · left; rw [if_pos hgt]
    · rw [if_neg hgt, wsum_drop xs i hlt]
      have := ih k (i + 1) (n + 1 + xs[i].size) (by omega) (by omega) (by omega)
      rw [show ((i + 1 : Nat) : Int) = (i : Int) + 1 by omega, show ((n + 1 + xs[i].size : Nat) : Int) = (n : Int) + 1 + (xs[i].size : Int) by omega] at this
      rcases this with h | ⟨h1, h2⟩
      · exact .inl h
      · exact .inr ⟨h1, by omega⟩
theorem heavy_is (xs : List ByteArray) (hs : ∀ x ∈ xs, x.size ≤ 140737488351232) (hl : xs.length ≤ 140737488351232) (k : Nat) (hk : xs.length + 1 ≤ k) :
    (rubricatorlaw19_heavy.f k xs = some true) ∨ (rubricatorlaw19_heavy.f k xs = some false ∧ wsum xs ≤ 1500) := by
  unfold rubricatorlaw19_heavy.f
  have := heavy_at xs hs hl xs.length k 0 0 (by omega) (by omega) hk
  rw [List.drop_zero, Nat.zero_add] at this
  exact this
theorem parse_pos (ls : List (List UInt8)) : ∃ n, (parseS F0 ls).bs.length = n + 1 := ⟨(parseS F0 ls).bs.length - 1, by
  have h : 0 < (parseS F0 ls).bs.length := (SimT.blanks leafNil 0 ls).pos
  omega⟩
theorem parseT_doc (ls : List (List UInt8)) : ∃ f, (parseS F0 ls).bs.length = f + 1 ∧ parseT F0 ls = ⟨1, 0, false, false, ⟨#[]⟩, ⟨#[]⟩, ⟨#[]⟩, ((parseS F0 ls).get 0).kids.map ((parseS F0 ls).tree f)⟩ := by
  obtain ⟨n, hn⟩ := parse_pos ls
  refine ⟨n, hn, ?_⟩
  unfold parseT
  rw [hn, tree_doc _ (parse_root ls)]
end Go.Proofs.YtpimcdkhjingjaaGreatDoor.Pure
