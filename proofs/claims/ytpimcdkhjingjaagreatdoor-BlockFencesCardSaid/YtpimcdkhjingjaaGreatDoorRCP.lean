/- A merged text (wip/mkclaim.py). -/
import Derived.Test.YtpimcdkhjingjaaGreatDoorRCL
import Derived.Test.YtpimcdkhjingjaaGreatDoorRCO
set_option linter.unusedVariables false
set_option linter.unusedSimpArgs false
set_option linter.unusedSectionVars false
namespace Go.Proofs.YtpimcdkhjingjaaGreatDoor.X
open Go.RowKit Go.Proofs.YtpimcdkhjingjaaGreatDoorW.PrintWords Go.Proofs.YtpimcdkhjingjaaGreatDoor.PBlk
def tupT (t : S27) : Int × Int × Bool × Bool × ByteArray × ByteArray × ByteArray × List S27 := (t.f0, t.f1, t.f2, t.f3, t.f4, t.f5, t.f6, t.f7)
def block_Parse.f (xs : List ByteArray) : Option (Int × Int × Bool × Bool × ByteArray × ByteArray × ByteArray × List S27) := if tot (lns xs) ≤ 4000000 then some (tupT (parseT F0 (lns xs))) else none
theorem block_Parse.calls (A : Option Addr) (c : Nat) (xs : List ByteArray) (t0 t1 : Int) (t2 t3 : Bool) (t4 t5 t6 : ByteArray) (t7 : List S27) (w : World) (hG : GL w) (hC : Kd.C Kd.string w A xs.length xs) (hlen : xs.length ≤ c) (h : block_Parse.f xs = some (t0, t1, t2, t3, t4, t5, t6, t7)) :
    Calls Tryz.prog 14 #[.slice A xs.length c] w fun e w' => ∃ v7, e = .returned (.agg #[.int .i64 t0, .int .i64 t1, .bool t2, .bool t3, .string t4, .string t5, .string t6, v7]) ∧ Kd.R k27 27 w' w.heap.size (fun _ => True) v7 t7 ∧ Below w.heap.size w w' := by
  unfold block_Parse.f at h
  split at h
  · rename_i ht
    have h' := Option.some.inj h
    unfold tupT at h'
    have key := Parse_c leafOk heading_le A c xs w hG hC hlen ht
    obtain ⟨t, e⟩ : ∃ t, t = parseT F0 (lns xs) := ⟨_, rfl⟩
    rw [← e] at h' key
    injection h' with h0 h'
    injection h' with h1 h'
    injection h' with h2 h'
    injection h' with h3 h'
    injection h' with h4 h'
    injection h' with h5 h'
    injection h' with h6 h7
    subst h0 h1 h2 h3 h4 h5 h6 h7
    exact key
  · cases h
end Go.Proofs.YtpimcdkhjingjaaGreatDoor.X
