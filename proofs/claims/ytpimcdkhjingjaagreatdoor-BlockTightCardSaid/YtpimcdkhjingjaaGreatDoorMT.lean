/- BlockTight, in plain words: it answers true for every input. -/
import Derived.Test.YtpimcdkhjingjaaGreatDoorMS
set_option linter.unusedVariables false
set_option linter.unusedSimpArgs false
set_option linter.unusedSectionVars false
namespace Go.Proofs.YtpimcdkhjingjaaGreatDoor.Pure
open Go.RowKit Go.Proofs.YtpimcdkhjingjaaGreatDoor.PBlk Go.Proofs.YtpimcdkhjingjaaGreatDoorW.PrintWords Go.Proofs.YtpimcdkhjingjaaGreatDoor.X

/-- What stands behind an item. -/
def tightMore (a : Int) (b : Bool) (i : Nat) : List (List UInt8) := if (i : Int) = a then (if b = true then [[], [32, 32, 98]] else [[]]) else []
def tightGo (a : Int) (b : Bool) : Nat → Nat → List (List UInt8)
  | 0, _ => []
  | r + 1, i => [45, 32, 97] :: (tightMore a b i ++ tightGo a b r (i + 1))
def tightChk (n : Nat) (a : Int) (b : Bool) : Bool :=
  let t := parseT F0 (tightGo a b n 0)
  decide (tot (tightGo a b n 0) ≤ 4000000) && (decide (t.f7.length = 1) && (decide ((t.f7.getD 0 z27).f0 = 7) && (decide ((t.f7.getD 0 z27).f7.length = n) && ((t.f7.getD 0 z27).f3 == decide (a < 0)))))
def tightCase (n a : Nat) (b : Bool) : Bool := !(decide (2 ≤ n) && decide (a < n)) || tightChk n ((a : Int) - 1) b
set_option maxRecDepth 100000 in
theorem tight_all : ∀ n : Fin 21, ∀ a : Fin 21, (tightCase n.val a.val true && tightCase n.val a.val false) = true := by decide +kernel
theorem tight_one {n : Nat} {a : Int} (b : Bool) (h1 : 2 ≤ n) (h2 : n ≤ 20) (h3 : -1 ≤ a) (h4 : a < (n : Int) - 1) : tightChk n a b = true := by
  obtain ⟨m, hm⟩ : ∃ m : Nat, (m : Int) = a + 1 := ⟨(a + 1).toNat, by omega⟩
  have h := tight_all ⟨n, by omega⟩ ⟨m, by omega⟩
  rw [Bool.and_eq_true] at h
  have hc : tightCase n m b = true := by cases b; exact h.2; exact h.1
  unfold tightCase at hc
  rw [decide_eq_true h1, decide_eq_true (by omega : m < n)] at hc
  have e : (m : Int) - 1 = a := by omega
  rw [e] at hc
  exact hc
end Go.Proofs.YtpimcdkhjingjaaGreatDoor.Pure
