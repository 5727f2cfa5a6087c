/- A merged text (wip/mkclaim.py). -/
import Derived.Test.YtpimcdkhjingjaaGreatDoorRCP
import Derived.SizedLaws
import Derived.Deep.Strs
set_option linter.unusedVariables false
set_option linter.unusedSimpArgs false
set_option linter.unusedSectionVars false
namespace Go.Proofs.YtpimcdkhjingjaaGreatDoor.X
open Go.ChangeShapes Go.WideShapes Go.RowKit Go.Proofs.YtpimcdkhjingjaaGreatDoorW.PrintWords
theorem weights_mem_all {H : Type} {P : Program} {e : TypeId} : ∀ {ds : List (DataW H)} {d : DataW H}, d ∈ ds → ∀ n ∈ d.weights P e, n ∈ DataW.weightsAll P e ds
  | d0 :: ds, d, hd, n, hn => by
    rw [DataW.weightsAll, List.mem_append]
    rcases List.mem_cons.1 hd with rfl | hd
    · exact .inl hn
    · exact .inr (weights_mem_all hd n hn)
  | [], _, hd, _, _ => by cases hd
theorem strs_of {H : Type} {enc : TypeId × Value → H} {P : Program} {W : World} {base : Nat} {spare : Nat → Bool} {held : Bool} {t e : TypeId} {a : Option Addr} {len cap : Nat} {d : DataW H} {ps : List MemPlace} {ts : List TypeId} {ds : List (DataW H)} {j : Nat}
    (hsz : (DataW.weightsEach P ts ds).all (· ≤ reachBytes) = true) (ht : ts[j]? = some t) (hd : ds[j]? = some d) (hu : P.underlying t = some (.slice e)) (he : P.underlying e = some .string) (hc : P.cellsOf e = 1) (hB : P.bytesOf e = 16)
    (h : DataW.Trod enc P W base spare held t (.slice a len cap) d ps) : ∃ xs : List ByteArray, Kd.C Kd.string W a len xs ∧ xs.length = len ∧ len ≤ cap ∧ len * 16 ≤ 140737488351232 ∧ ∀ x ∈ xs, x.size ≤ 140737488351232 := by
  obtain ⟨fuel, hf⟩ := h
  rcases Go.Deep.open_strs hu he hc hf with ⟨hcs, _⟩ | ⟨x, l, c, m, Sx, hcs, _, hl, hm, hmm, hx, hcell⟩
  · simp [Value.cells] at hcs
    obtain ⟨rfl, rfl, rfl⟩ := hcs
    exact ⟨[], ⟨rfl, Nat.zero_le _, fun h => absurd h (Nat.lt_irrefl _)⟩, rfl, Nat.le_refl _, Nat.zero_le _, fun x hx => by cases hx⟩
  · simp [Value.cells] at hcs
    obtain ⟨rfl, rfl, rfl⟩ := hcs
    obtain ⟨hx, _⟩ := Prod.mk.inj hx
    subst hx
    have hlm : len ≤ m := by rw [hmm]; split <;> omega
    have z := sized_slice hsz ht hd hu
    rw [hB] at z
    simp only [List.length_map, List.length_range] at z
    have hz : len * 16 ≤ 140737488351232 := Nat.le_trans (Nat.mul_le_mul_right _ (by omega)) z
    have hstr : ∀ i, i < len → (Sx i).size ≤ 140737488351232 := fun i hi => by
      have hmem : (Sx i).data.toList.length ∈ DataW.weightsEach P ts ds := by
        refine DataW.weights_mem_each ht hd _ ?_
        simp only [DataW.weights, hu]
        refine List.mem_cons_of_mem _ (List.mem_append_left _ (weights_mem_all (d := .lit (.string (Sx i).data.toList)) (List.mem_map.2 ⟨i, List.mem_range.2 hi, rfl⟩) _ ?_))
        rw [DataW.weights]
        exact List.mem_singleton.2 rfl
      have := List.all_eq_true.1 hsz _ hmem
      have h2 : (Sx i).data.toList.length ≤ reachBytes := by simpa using this
      rw [Lib.size_eq]
      exact h2
    refine ⟨(List.range len).map Sx, Kd.C_of_reads (d := ByteArray.empty) ⟨by simp, by omega, fun h0 => ⟨x, rfl, fun j hj => ?_⟩⟩, by simp, hl, hz, fun y hy => ?_⟩
    · rw [(hcell j (by omega)).1]
      simp [hj]
    · obtain ⟨i, hi, rfl⟩ := List.mem_map.1 hy
      exact hstr i (List.mem_range.1 hi)
end Go.Proofs.YtpimcdkhjingjaaGreatDoor.X
