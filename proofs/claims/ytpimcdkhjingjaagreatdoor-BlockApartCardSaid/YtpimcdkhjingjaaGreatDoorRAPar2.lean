/- A merged text (wip/mkclaim.py). -/
import Derived.Test.YtpimcdkhjingjaaGreatDoorRAT
set_option linter.unusedVariables false
set_option linter.unusedSimpArgs false
set_option linter.unusedSectionVars false
set_option linter.unusedVariables false
namespace Go.Proofs.YtpimcdkhjingjaaGreatDoor.Pure
open Go.RowKit Go.Proofs.YtpimcdkhjingjaaGreatDoor.PBlk Go.Proofs.YtpimcdkhjingjaaGreatDoorW.PrintWords Go.Proofs.YtpimcdkhjingjaaGreatDoor.X
def emB : ByteArray := ⟨#[]⟩
def docT (X : List S27) : S27 := ⟨1, 0, false, false, emB, emB, emB, X⟩
def kidsT (X : List S27) : S27 := ⟨0, 0, false, false, emB, emB, emB, X⟩
theorem parseT_kids (ls : List (List UInt8)) (f : Nat) (h : (parseS F0 ls).bs.length = f + 1) : parseT F0 ls = docT (((parseS F0 ls).get 0).kids.map ((parseS F0 ls).tree f)) := by
  obtain ⟨g, hg, e⟩ := parseT_doc ls
  have : g = f := by omega
  subst this
  exact e
theorem same_kids (ls : List (List UInt8)) (h : tot ls ≤ 4000000) (f : Nat) : ∃ K, ∀ k, K ≤ k → SameAt k (kidsT (((parseS F0 ls).get 0).kids.map ((parseS F0 ls).tree f))) := by
  obtain ⟨K, hK⟩ := same_tree (parseS F0 ls) (parse_kidl ls h) f
  refine ⟨_, fun k hk => same_lift hk (same_node K (kidsT (((parseS F0 ls).get 0).kids.map ((parseS F0 ls).tree f))) (fun y hy => ?_) ?_)⟩
  · have hy' : y ∈ ((parseS F0 ls).get 0).kids.map ((parseS F0 ls).tree f) := hy
    obtain ⟨i, _, rfl⟩ := List.mem_map.1 hy'
    exact hK i
  · show (((parseS F0 ls).get 0).kids.map _).length ≤ _
    rw [List.length_map]
    exact parse_kidl ls h 0
theorem kids_len (ls : List (List UInt8)) (h : tot ls ≤ 4000000) (f : Nat) : (((parseS F0 ls).get 0).kids.map ((parseS F0 ls).tree f)).length ≤ 4611686018427387904 := by
  rw [List.length_map]; exact parse_kidl ls h 0
theorem tree_hold (s : St) (i f k : Nat) (h : (s.get i).kind = k) (hk : k = 6 ∨ k = 8) : s.tree (f + 1) i = ⟨(k : Int), 0, false, false, emB, emB, emB, (s.get i).kids.map (s.tree f)⟩ := by
  rw [St.tree, h]
  have e1 : (s.get i).num = 0 := by unfold Blk.num; rw [if_neg (by rw [h]; omega)]
  have e2 : (s.get i).text = [] := by unfold Blk.text; rw [if_neg (by rw [h]; omega), if_neg (by rw [h]; omega), if_neg (by rw [h]; omega)]
  rw [e1, e2]
  rcases hk with rfl | rfl <;> rfl
theorem out_kids {b c : Blk} (h : b.noLast = c.noLast) : b.kids = c.kids ∧ b.kind = c.kind ∧ b.lines = c.lines ∧ b.n = c.n :=
  ⟨(congrArg Blk.kids h : b.noLast.kids = c.noLast.kids), (congrArg Blk.kind h : b.noLast.kind = c.noLast.kind), (congrArg Blk.lines h : b.noLast.lines = c.noLast.lines), (congrArg Blk.n h : b.noLast.n = c.noLast.n)⟩
theorem parse_quote (l : List UInt8) (ls : List (List UInt8)) (hl : ∀ x ∈ l :: ls, (9 : UInt8) ∉ x) (ht : tot (l :: ls) ≤ 4000000) :
    ∃ X, parseT F0 (l :: ls) = docT X ∧ parseT F0 ((l :: ls).map fun l => 62 :: 32 :: l) = docT [⟨6, 0, false, false, emB, emB, emB, X⟩] ∧ X.length ≤ 4611686018427387904 ∧ ∃ K, ∀ k, K ≤ k → SameAt k (kidsT X) := by
  have hs := SimT.quote (F := F0) (fun l => (leafOk.marker_le l).1) l ls hl
  obtain ⟨n, hn⟩ := parse_pos (l :: ls)
  have hn' : (parseS F0 ((l :: ls).map fun l => 62 :: 32 :: l)).bs.length = n + 1 + 1 := by
    have : (parseS F0 ((l :: ls).map fun l => 62 :: 32 :: l)).bs.length = (parseS F0 (l :: ls)).bs.length + 1 := hs.len
    omega
  refine ⟨((parseS F0 (l :: ls)).get 0).kids.map ((parseS F0 (l :: ls)).tree n), parseT_kids _ n hn, ?_, kids_len _ ht n, same_kids _ ht n⟩
  rw [parseT_kids _ (n + 1) hn']
  have h0 := out_kids (hs.out 0 (by decide : (0 : Nat) ≤ 1) (by decide : (0 : Nat) ≠ 1))
  have e0 : ((parseS F0 ((l :: ls).map fun l => 62 :: 32 :: l)).get 0).kids = [1] := h0.1
  have e1 : ((parseS F0 ((l :: ls).map fun l => 62 :: 32 :: l)).get 1).kind = 6 := hs.root'.1
  have hk := hs.rootKids (parse_kin _ ht) n
  change ((parseS F0 ((l :: ls).map fun l => 62 :: 32 :: l)).get 1).kids.map _ = [] ++ _ at hk
  rw [e0, List.map_singleton, tree_hold _ 1 n 6 e1 (.inl rfl), hk, List.nil_append]
  rfl
theorem parse_apart (x : List UInt8) (hh : F0.heading (35 :: 32 :: x) = (1, x)) (ls : List (List UInt8)) (ht : tot ls ≤ 4000000) :
    ∃ X y, parseT F0 ls = docT X ∧ parseT F0 ((35 :: 32 :: x) :: [] :: ls) = docT (y :: X) ∧ y.f0 = 3 ∧ y.f4 = S (Lib.trimS x [32, 9]) ∧ X.length ≤ 4611686018427387903 ∧ ∃ K, ∀ k, K ≤ k → SameAt k (kidsT X) := by
  have hs := SimT.apart leafNil x hh ls
  obtain ⟨n, hn⟩ := parse_pos ls
  have hkin := parse_kin ls ht
  have hn' : (parseS F0 ((35 :: 32 :: x) :: [] :: ls)).bs.length = n + 1 + 1 := by
    have : (parseS F0 ((35 :: 32 :: x) :: [] :: ls)).bs.length = (parseS F0 ls).bs.length + 1 := hs.len
    omega
  have hlen : (((parseS F0 ls).get 0).kids.map ((parseS F0 ls).tree n)).length ≤ 4611686018427387903 := by
    rw [List.length_map]
    have h0 : 0 < (parseS F0 ls).bs.length := by omega
    have h1 := (parse_good ls ht).1.kidl 0 h0
    have h2 := (parse_good ls ht).1.big
    omega
  obtain ⟨t, he⟩ : ∃ t, t = parseS F0 ((35 :: 32 :: x) :: [] :: ls) := ⟨_, rfl⟩
  have h1 := out_kids (hs.out 1 (by decide : (1 : Nat) ≤ 1) (by decide : (1 : Nat) ≠ 0))
  have hk := hs.rootKids hkin (n + 1)
  rw [parseT_kids _ (n + 1) hn', ← he]
  rw [← he] at h1 hk
  have h1 : (t.get 1).kids = (headB 1 x).kids ∧ (t.get 1).kind = (headB 1 x).kind ∧ (t.get 1).lines = (headB 1 x).lines ∧ (t.get 1).n = (headB 1 x).n := h1
  change (t.get 0).kids.map _ = [t.tree (n + 1) 1] ++ _ at hk
  refine ⟨((parseS F0 ls).get 0).kids.map ((parseS F0 ls).tree n), t.tree (n + 1) 1, parseT_kids _ n hn, ?_, ?_, ?_, hlen, same_kids _ ht n⟩
  · rw [hk]
    have e : ((parseS F0 ls).get 0).kids.map ((parseS F0 ls).tree (n + 1)) = ((parseS F0 ls).get 0).kids.map ((parseS F0 ls).tree n) := List.map_congr_left fun k hk' => by
      have := hkin 0 (by omega) k hk'
      exact tree_more hkin n k this.2 (by omega)
    rw [e]
    rfl
  · rw [St.tree, h1.2.1]; rfl
  · rw [St.tree]
    have e : (t.get 1).text = Lib.trimS x [32, 9] := by
      unfold Blk.text
      rw [h1.2.1, h1.2.2.1]
      show (if (3 : Nat) = 2 then _ else if (3 : Nat) = 3 then Lib.trimS (Lib.join [x] [10]) [32, 9] else _) = _
      rw [if_neg (by decide), if_pos rfl]
      have : Lib.join [x] [10] = x := by simp [Lib.join, List.intercalate]
      rw [this]
    show S (t.get 1).text = _
    rw [e]
end Go.Proofs.YtpimcdkhjingjaaGreatDoor.Pure
