/- A merged text (wip/mkclaim.py). -/
import Derived.Test.YtpimcdkhjingjaaGreatDoorRBT
set_option linter.unusedVariables false
set_option linter.unusedSimpArgs false
set_option linter.unusedSectionVars false
set_option linter.unusedVariables false
namespace Go.Proofs.YtpimcdkhjingjaaGreatDoor.Pure
open Go.RowKit Go.Proofs.YtpimcdkhjingjaaGreatDoor.PBlk Go.Proofs.YtpimcdkhjingjaaGreatDoorW.PrintWords Go.Proofs.YtpimcdkhjingjaaGreatDoor.X
def emB : ByteArray := ⟨#[]⟩
def docT (X : List S27) : S27 := ⟨1, 0, false, false, emB, emB, emB, X⟩
def kidsT (X : List S27) : S27 := ⟨0, 0, false, false, emB, emB, emB, X⟩
theorem parseT_kids (ls : List (List UInt8)) (f : Nat) (h : (parseS F0 ls).bs.length = f + 1) : parseT F0 ls = docT (((parseS F0 ls).get 0).kids.map ((parseS F0 ls).tree f)) := by
  obtain ⟨g, hg, e⟩ := parseT_doc ls
  have : g = f := by omega
  subst this
  exact e
theorem same_kids (ls : List (List UInt8)) (h : tot ls ≤ 4000000) (f : Nat) : ∃ K, ∀ k, K ≤ k → SameAt k (kidsT (((parseS F0 ls).get 0).kids.map ((parseS F0 ls).tree f))) := by
  obtain ⟨K, hK⟩ := same_tree (parseS F0 ls) (parse_kidl ls h) f
  refine ⟨_, fun k hk => same_lift hk (same_node K (kidsT (((parseS F0 ls).get 0).kids.map ((parseS F0 ls).tree f))) (fun y hy => ?_) ?_)⟩
  · have hy' : y ∈ ((parseS F0 ls).get 0).kids.map ((parseS F0 ls).tree f) := hy
    obtain ⟨i, _, rfl⟩ := List.mem_map.1 hy'
    exact hK i
  · show (((parseS F0 ls).get 0).kids.map _).length ≤ _
    rw [List.length_map]
    exact parse_kidl ls h 0
theorem kids_len (ls : List (List UInt8)) (h : tot ls ≤ 4000000) (f : Nat) : (((parseS F0 ls).get 0).kids.map ((parseS F0 ls).tree f)).length ≤ 4611686018427387904 := by
  rw [List.length_map]; exact parse_kidl ls h 0
theorem tree_hold (s : St) (i f k : Nat) (h : (s.get i).kind = k) (hk : k = 6 ∨ k = 8) : s.tree (f + 1) i = ⟨(k : Int), 0, false, false, emB, emB, emB, (s.get i).kids.map (s.tree f)⟩ := by
  rw [St.tree, h]
  have e1 : (s.get i).num = 0 := by unfold Blk.num; rw [if_neg (by rw [h]; omega)]
  have e2 : (s.get i).text = [] := by unfold Blk.text; rw [if_neg (by rw [h]; omega), if_neg (by rw [h]; omega), if_neg (by rw [h]; omega)]
  rw [e1, e2]
  rcases hk with rfl | rfl <;> rfl
theorem out_kids {b c : Blk} (h : b.noLast = c.noLast) : b.kids = c.kids ∧ b.kind = c.kind ∧ b.lines = c.lines ∧ b.n = c.n :=
  ⟨(congrArg Blk.kids h : b.noLast.kids = c.noLast.kids), (congrArg Blk.kind h : b.noLast.kind = c.noLast.kind), (congrArg Blk.lines h : b.noLast.lines = c.noLast.lines), (congrArg Blk.n h : b.noLast.n = c.noLast.n)⟩
end Go.Proofs.YtpimcdkhjingjaaGreatDoor.Pure
