/- A merged text (wip/mkclaim.py). -/
import Derived.Test.YtpimcdkhjingjaaGreatDoorRCE
import Derived.Lib.Join
set_option linter.unusedVariables false
set_option linter.unusedSimpArgs false
set_option linter.unusedSectionVars false
namespace Go.Proofs.YtpimcdkhjingjaaGreatDoor.X
open Go.RowKit Go.Proofs.YtpimcdkhjingjaaGreatDoorW.PrintWords
structure RepN (B : Nat) (w : World) (L : Lay) (s : St) : Prop where
  blk : ∀ i, i < s.bs.length → w.heap[L.ad i]? = some (.cells (cellsB (s.get i) (L.rv (.kid i)) (L.rv (.line i))) 43 (0, 0))
  own0 : ∀ t, Tag.ok s t → t ≠ .open_ → w.ownsRow B t.ty 1 (L.rv t) (elems L s t).length (elems L s t)
  bb : ∀ i, i < s.bs.length → B ≤ L.ad i
theorem Rep.blocks {B : Nat} {w : World} {L : Lay} {s : St} (h : Rep B w L s) : RepN B w L s := ⟨h.blk, fun t ht _ => h.own t ht, h.bb⟩
namespace RepN
variable {B : Nat} {w w' : World} {L : Lay} {s : St}
theorem own (h : RepN B w L s) (t : Tag) (ht : Tag.ok s t) (hn : t ≠ .open_ := by intro e; cases e) : w.ownsRow B t.ty 1 (L.rv t) (elems L s t).length (elems L s t) := h.own0 t ht hn
theorem keep (h : RepN B w L s) (hm : ∀ k, k < w.heap.size → B ≤ k → w'.heap[k]? = w.heap[k]?) : RepN B w' L s where
  blk i hi := (hm _ (blk_lt (h.blk i hi)) (h.bb i hi)).trans (h.blk i hi)
  own0 t ht hn := own_move (h.own0 t ht hn) fun k hk => hm k (own_lt (h.own0 t ht hn) k hk) (own_base (h.own0 t ht hn) k hk)
  bb := h.bb
theorem below (h : RepN B w L s) (hb : Below w.heap.size w w') : RepN B w' L s := h.keep fun k hk _ => hb.block k hk
theorem alloc (h : RepN B w L s) (o : Obj) : RepN B (w.alloc o) L s := h.keep fun k hk _ => Below.heap_alloc w o k hk
theorem b0 (h : RepN B w L s) (i : Nat) (hi : i < s.bs.length) : w.cell? ⟨L.ad i, 0, none⟩ = some (.int .i64 ((s.get i).kind : Int)) := (blk_cell (h.blk i hi) 0).trans rfl
theorem b1 (h : RepN B w L s) (i : Nat) (hi : i < s.bs.length) : w.cell? ⟨L.ad i, 1, none⟩ = some (.int .i64 ((s.get i).first : Int)) := (blk_cell (h.blk i hi) 1).trans rfl
theorem b2 (h : RepN B w L s) (i : Nat) (hi : i < s.bs.length) : w.cell? ⟨L.ad i, 2, none⟩ = some (.int .i64 ((s.get i).last : Int)) := (blk_cell (h.blk i hi) 2).trans rfl
theorem b3 (h : RepN B w L s) (i : Nat) (hi : i < s.bs.length) : w.cell? ⟨L.ad i, 3, none⟩ = some (L.rv (.kid i)) := (blk_cell (h.blk i hi) 3).trans rfl
theorem b4 (h : RepN B w L s) (i : Nat) (hi : i < s.bs.length) : w.cell? ⟨L.ad i, 4, none⟩ = some (.int .i64 ((s.get i).n : Int)) := (blk_cell (h.blk i hi) 4).trans rfl
theorem b5 (h : RepN B w L s) (i : Nat) (hi : i < s.bs.length) : w.cell? ⟨L.ad i, 5, none⟩ = some (.bool (s.get i).flag) := (blk_cell (h.blk i hi) 5).trans rfl
theorem b8 (h : RepN B w L s) (i : Nat) (hi : i < s.bs.length) : w.cell? ⟨L.ad i, 8, none⟩ = some (.string (S (s.get i).title)) := (blk_cell (h.blk i hi) 8).trans rfl
theorem b9 (h : RepN B w L s) (i : Nat) (hi : i < s.bs.length) : w.cell? ⟨L.ad i, 9, none⟩ = some (.int .i64 ((s.get i).fence : Int)) := (blk_cell (h.blk i hi) 9).trans rfl
theorem b11 (h : RepN B w L s) (i : Nat) (hi : i < s.bs.length) : w.cell? ⟨L.ad i, 11, none⟩ = some (L.rv (.line i)) := (blk_cell (h.blk i hi) 11).trans rfl
theorem ownK (h : RepN B w L s) (i : Nat) (hi : i < s.bs.length) : w.ownsRow B 40 1 (L.rv (.kid i)) (s.get i).kids.length (elems L s (.kid i)) := by
  have := h.own (.kid i) hi
  simpa [elems, Tag.ty] using this
theorem ownL (h : RepN B w L s) (i : Nat) (hi : i < s.bs.length) : w.ownsRow B 9 1 (L.rv (.line i)) (s.get i).lines.length (elems L s (.line i)) := by
  have := h.own (.line i) hi
  simpa [elems, Tag.ty] using this
end RepN
def St.closeGo (s : St) : List Nat → Bool
  | [] => true
  | [_] => true
  | a :: b :: t => if (s.get a).last + 1 < (s.get b).first then false else St.closeGo s (b :: t)
def St.tight (s : St) (i : Nat) : Bool := (s.get i).kids.all (fun k => s.closeGo (s.get k).kids) && s.closeGo (s.get i).kids
def dropBlank (l : List (List UInt8)) : List (List UInt8) := (l.reverse.dropWhile (fun x => (Lib.trimS x [32, 9]).isEmpty)).reverse
def Blk.codeLines (b : Blk) : List (List UInt8) := if b.fence = 0 then dropBlank b.lines else b.lines
def Blk.code (b : Blk) : List UInt8 := if b.codeLines = [] then [] else Lib.join b.codeLines [10] ++ [10]
def Blk.text (b : Blk) : List UInt8 :=
  if b.kind = 2 then Lib.trimRightS (Lib.join b.lines [10]) [32, 9]
  else if b.kind = 3 then Lib.trimS (Lib.join b.lines [10]) [32, 9]
  else if b.kind = 5 then b.code
  else []
def Blk.num (b : Blk) : Nat := if b.kind = 3 ∨ b.kind = 7 then b.n else 0
structure Good (M : Nat) (s : St) : Prop where
  short : ∀ i, i < s.bs.length → ∀ l ∈ (s.get i).lines, l.length ≤ M
  kin : ∀ i, i < s.bs.length → ∀ k ∈ (s.get i).kids, i < k
  last : ∀ i, i < s.bs.length → (s.get i).last ≤ 1099511627776
def kidAt (l : List Nat) (i : Nat) : Nat := l.getD i 0
theorem RepN.kidsOpen {B : Nat} {w : World} {L : Lay} {s : St} (h : RepN B w L s) (i : Nat) (hi : i < s.bs.length) (h0 : 0 < (s.get i).kids.length) :
    ∃ g cap, L.rv (.kid i) = .slice (some ⟨g, 0, none⟩) (s.get i).kids.length cap ∧ ∀ j, j < (s.get i).kids.length → w.cell? ⟨g, j, none⟩ = some (L.ptr (kidAt (s.get i).kids j)) := by
  have hown := h.own (.kid i) hi
  have hlen : (elems L s (.kid i)).length = (s.get i).kids.length := by simp [elems]
  rw [hlen] at hown
  rcases hown.2 with ⟨_, h1⟩ | ⟨g, cap, cur, hv, hg, hh, hn, hc, hsz, htk⟩
  · omega
  · refine ⟨g, cap, hv, fun j hj => ?_⟩
    rw [hv] at hown
    have := hown.cellAt j (by omega)
    rw [this]
    simp only [elems, kidAt]
    rw [List.getElem?_map, List.getElem?_eq_getElem hj, List.getD_eq_getElem?_getD, List.getElem?_eq_getElem hj]
    rfl
theorem Wf.kidAt {N : Nat} {s : St} (h : Wf N s) {i : Nat} (hi : i < s.bs.length) {j : Nat} (hj : j < (s.get i).kids.length) : kidAt (s.get i).kids j < s.bs.length := by
  unfold X.kidAt
  rw [List.getD_eq_getElem?_getD, List.getElem?_eq_getElem hj]
  exact h.kids i hi _ (List.getElem_mem hj)
theorem RepN.kidsLen0 {B : Nat} {w : World} {L : Lay} {s : St} (h : RepN B w L s) (i : Nat) (hi : i < s.bs.length) : ∃ A c, L.rv (.kid i) = .slice A (s.get i).kids.length c := own_slice (h.ownK i hi)
theorem drop_kid {l : List Nat} {m : Nat} (h : m < l.length) : l.drop m = kidAt l m :: l.drop (m + 1) := by
  unfold kidAt
  rw [List.getD_eq_getElem?_getD, List.getElem?_eq_getElem h, List.drop_eq_getElem_cons h]
  rfl
theorem closeGo_short (s : St) (l : List Nat) (h : l.length ≤ 1) : s.closeGo l = true := by
  match l with
  | [] => rfl
  | [_] => rfl
  | _ :: _ :: _ => simp at h
theorem closeGo_drop (s : St) (l : List Nat) {m : Nat} (h : m + 1 < l.length) :
    s.closeGo (l.drop m) = if (s.get (kidAt l m)).last + 1 < (s.get (kidAt l (m + 1))).first then false else s.closeGo (l.drop (m + 1)) := by
  rw [drop_kid (by omega), drop_kid h, St.closeGo]
set_option maxRecDepth 100000 in
theorem close_c {B : Nat} {w : World} {L : Lay} {s : St} {N M : Nat} (h : RepN B w L s) (hf : Wf N s) (hgd : Good M s) (i : Nat) (hi : i < s.bs.length) :
    Calls Tryz.prog 64 #[L.rv (.kid i)] w fun e w' => e = .returned (.bool (s.closeGo (s.get i).kids)) ∧ Below w.heap.size w w' := by
  obtain ⟨A, c, hv⟩ := h.kidsLen0 i hi
  have hmax := Nat.le_trans (hf.kidl i hi) hf.big
  obtain ⟨n, hn⟩ : ∃ n, n = (s.get i).kids.length := ⟨_, rfl⟩
  rw [← hn] at hv hmax
  rw [hv]
  have Hv := Lib.hid hv
  have Hn := Lib.hid hn
  clear hv hn
  go_enter Tryz.func64, Tryz.ntmps64
  go_wp2
  go_loopg [3] n (fun k v3 wr => ∃ m m0 : Nat, v3 = .int .i64 (m : Int) ∧ m = m0 + 1 ∧ m + k = n + 1 ∧ RepN B wr L s ∧ Below w.heap.size w wr ∧ Hid (s.closeGo (s.get i).kids = s.closeGo ((s.get i).kids.drop m0)))
  case atStart => exact ⟨1, 0, rfl, rfl, by omega, h, Below.refl _ _, (rfl : s.closeGo (s.get i).kids = _)⟩
  case round =>
    obtain ⟨m, m0, rfl, hm0, hmk, hr, hb, hcl⟩ := hrel
    by_cases hlt : m < n
    · cases gk with
      | zero => omega
      | succ k =>
        have hlt' : (m : Int) < (n : Int) := by omega
        have hk1 : 0 < (s.get i).kids.length := by rw [← Hn.out]; omega
        obtain ⟨g, cap, hv2, hc⟩ := hr.kidsOpen i hi hk1
        rw [Hv.out, ← Hn.out] at hv2
        injection hv2 with e1 e2 e3
        subst e1
        have hc1 := hc m (by rw [← Hn.out]; exact hlt)
        have hc0 := hc m0 (by rw [← Hn.out]; omega)
        have ho1 := hf.kidAt hi (j := m) (by rw [← Hn.out]; exact hlt)
        have ho0 := hf.kidAt hi (j := m0) (by rw [← Hn.out]; omega)
        have b1 := hr.b1 _ ho1
        have b2 := hr.b2 _ ho0
        have hl := hgd.last _ ho0
        have hst : Hid (s.closeGo ((s.get i).kids.drop m0) = if (s.get (kidAt (s.get i).kids m0)).last + 1 < (s.get (kidAt (s.get i).kids m)).first then false else s.closeGo ((s.get i).kids.drop m)) := by
          show _ = _
          rw [hm0]
          exact closeGo_drop s _ (by rw [← Hn.out]; omega)
        obtain ⟨la, hla⟩ : ∃ x, x = (s.get (kidAt (s.get i).kids m0)).last := ⟨_, rfl⟩
        obtain ⟨fi, hfi⟩ : ∃ x, x = (s.get (kidAt (s.get i).kids m)).first := ⟨_, rfl⟩
        unfold Lay.ptr at hc1 hc0
        obtain ⟨a1, ha1⟩ : ∃ x, x = L.ad (kidAt (s.get i).kids m) := ⟨_, rfl⟩
        obtain ⟨a0, ha0⟩ : ∃ x, x = L.ad (kidAt (s.get i).kids m0) := ⟨_, rfl⟩
        rw [← hla] at hst b2 hl
        rw [← hfi] at hst b1
        rw [← ha1] at hc1 b1
        rw [← ha0] at hc0 b2
        obtain ⟨l1, hl1⟩ : ∃ x, x = la + 1 := ⟨_, rfl⟩
        rw [← hl1] at hst
        have hw1 : IntKind.i64.wrap ((la : Int) + 1) = (l1 : Int) := by rw [IntWalk.i64_in _ (by omega)]; omega
        have hw2 : IntKind.i64.wrap ((m : Int) - 1) = (m0 : Int) := by rw [IntWalk.i64_in _ (by omega)]; omega
        have hw3 : IntKind.i64.wrap ((m : Int) + 1) = ((m + 1 : Nat) : Int) := by rw [IntWalk.i64_in _ (by omega)]; omega
        have hp1 : (0 : Int) ≤ (m0 : Int) := by omega
        have hp2 : (m0 : Int) < (n : Int) := by omega
        have hp3 : (0 : Int) ≤ (m : Int) := by omega
        have Hm0 := Lib.hid hm0
        have Hmk := Lib.hid hmk
        clear hla hfi ha1 ha0 hc ho1 ho0 hm0 hmk hl1 e2 e3 hl hk1
        rcases Nat.lt_or_ge l1 fi with hd | hd
        · have hd' : (l1 : Int) < (fi : Int) := by omega
          have hres : Hid (s.closeGo (s.get i).kids = false) := by show _ = _; rw [hcl.out, hst.out, if_pos hd]
          go_wp2
          go_quiet (fail)
          go_wp2
          go_ret
          exact ⟨by rw [hres.out]; rfl, hb.trans ⟨rfl, rfl, rfl, Nat.le_refl _, fun _ _ => rfl⟩⟩
        · have hd' : ¬ (l1 : Int) < (fi : Int) := by omega
          have hres : Hid (s.closeGo (s.get i).kids = s.closeGo ((s.get i).kids.drop m)) := by show _ = _; rw [hcl.out, hst.out, if_neg (by omega)]
          go_wp2
          go_quiet (fail)
          go_wp2
          go_roundg k
          case measure => omega
          case rel => exact ⟨m + 1, m, rfl, rfl, by have := Hmk.out; omega, hr.keep fun _ _ _ => rfl, hb.trans ⟨rfl, rfl, rfl, Nat.le_refl _, fun _ _ => rfl⟩, hres⟩
    · have hlt' : ¬ (m : Int) < (n : Int) := by omega
      have hres : Hid (s.closeGo (s.get i).kids = true) := by
        show _ = _
        rw [hcl.out]
        refine closeGo_short s _ ?_
        rw [List.length_drop, ← Hn.out]
        omega
      clear hm0 hmk
      go_wp2
      go_ret
      exact ⟨by rw [hres.out]; rfl, hb⟩
end Go.Proofs.YtpimcdkhjingjaaGreatDoor.X
namespace Go.Proofs.YtpimcdkhjingjaaGreatDoor.X
open Go.RowKit Go.Proofs.YtpimcdkhjingjaaGreatDoorW.PrintWords
set_option maxRecDepth 100000 in
theorem tight_c {B : Nat} {w : World} {L : Lay} {s : St} {N M : Nat} (h : RepN B w L s) (hf : Wf N s) (hgd : Good M s) (i : Nat) (hi : i < s.bs.length) :
    Calls Tryz.prog 37 #[.pointer (some ⟨L.ad i, 0, none⟩)] w fun e w' => e = .returned (.bool (s.tight i)) ∧ Below w.heap.size w w' := by
  obtain ⟨A, c, hv⟩ := h.kidsLen0 i hi
  have hmax := Nat.le_trans (hf.kidl i hi) hf.big
  have hb3 := h.b3 i hi
  obtain ⟨n, hn⟩ : ∃ n, n = (s.get i).kids.length := ⟨_, rfl⟩
  rw [← hn] at hv hmax
  have hb3' := hb3
  rw [hv] at hb3'
  have Hv := Lib.hid hv
  have Hn := Lib.hid hn
  have HC : Hid (∀ k, k < s.bs.length → ∀ w', RepN B w' L s → Calls Tryz.prog 64 #[L.rv (.kid k)] w' fun e w2 => e = .returned (.bool (s.closeGo (s.get k).kids)) ∧ RepN B w2 L s ∧ Below w'.heap.size w' w2) :=
    fun k hk w' h' => (close_c h' hf hgd k hk).mono fun e w2 hh => ⟨hh.1, h'.below hh.2, hh.2⟩
  clear hv hn hb3
  go_enter Tryz.func37, Tryz.ntmps37
  go_wp2
  go_loopg [10, 4] n (fun k v10 v4 wr => ∃ m : Nat, v10 = .int .i64 (m : Int) ∧ m + k = n ∧ RepN B wr L s ∧ Below w.heap.size w wr ∧ Hid (s.tight i = (((s.get i).kids.drop m).all (fun k => s.closeGo (s.get k).kids) && s.closeGo (s.get i).kids)))
  case atStart => exact ⟨0, rfl, by omega, h, Below.refl _ _, (rfl : s.tight i = _)⟩
  case round =>
    obtain ⟨m, rfl, hmk, hr, hb, hcl⟩ := hrel
    cases gk with
    | succ k =>
      have hlt : m < n := by omega
      have hlt' : (m : Int) < (n : Int) := by omega
      have hk1 : m < (s.get i).kids.length := by rw [← Hn.out]; exact hlt
      obtain ⟨g, cap, hv2, hc⟩ := hr.kidsOpen i hi (by omega)
      rw [Hv.out, ← Hn.out] at hv2
      injection hv2 with e1 e2 e3
      subst e1
      have hc1 := hc m hk1
      have ho1 := hf.kidAt hi hk1
      have hst : Hid (s.tight i = (s.closeGo (s.get (kidAt (s.get i).kids m)).kids && (((s.get i).kids.drop (m + 1)).all (fun k => s.closeGo (s.get k).kids) && s.closeGo (s.get i).kids))) := by
        show _ = _
        rw [hcl.out, drop_kid hk1, List.all_cons, Bool.and_assoc]
      obtain ⟨o, hoo⟩ : ∃ o, o = kidAt (s.get i).kids m := ⟨_, rfl⟩
      rw [← hoo] at hc1 ho1 hst
      unfold Lay.ptr at hc1
      have b3 := hr.b3 o ho1
      have HCo := Lib.hid (HC.out o ho1)
      obtain ⟨cl, hcl2⟩ : ∃ x, x = s.closeGo (s.get o).kids := ⟨_, rfl⟩
      rw [← hcl2] at hst HCo
      have hw3 : IntKind.i64.wrap ((m : Int) + 1) = ((m + 1 : Nat) : Int) := by rw [IntWalk.i64_in _ (by omega)]; omega
      have hp3 : (0 : Int) ≤ (m : Int) := by omega
      have Hmk := Lib.hid hmk
      clear hoo hcl2 hc e2 e3 hk1 hlt hcl hmk
      cases cl with
      | false =>
        have hres : Hid (s.tight i = false) := by show _ = _; rw [hst.out]; rfl
        go_wp2_with (first | (go_at_call 64; refine (HCo.out _ ?_).mono ?_; assumption; rintro e w2 ⟨rfl, hr2, hb2⟩))
        go_ret
        exact ⟨by rw [hres.out]; rfl, hb.trans (hb2.mono hb.size)⟩
      | true =>
        have hres : Hid (s.tight i = (((s.get i).kids.drop (m + 1)).all (fun k => s.closeGo (s.get k).kids) && s.closeGo (s.get i).kids)) := by show _ = _; rw [hst.out]; rfl
        go_wp2_with (first | (go_at_call 64; refine (HCo.out _ ?_).mono ?_; assumption; rintro e w2 ⟨rfl, hr2, hb2⟩))
        go_roundg k
        case measure => omega
        case rel => exact ⟨m + 1, rfl, by have := Hmk.out; omega, hr2, hb.trans (hb2.mono hb.size), hres⟩
    | zero =>
      have hlt' : ¬ (m : Int) < (n : Int) := by omega
      have hres : Hid (s.tight i = s.closeGo (s.get i).kids) := by
        show _ = _
        rw [hcl.out, List.drop_eq_nil_of_le (by rw [← Hn.out]; omega)]
        rfl
      have b3 := hr.b3 i hi
      have HCo := Lib.hid (HC.out i hi)
      clear hmk hcl
      go_wp2_with (first | (go_at_call 64; refine (HCo.out _ ?_).mono ?_; assumption; rintro e w2 ⟨rfl, hr2, hb2⟩))
      go_ret
      exact ⟨by rw [hres.out]; rfl, hb.trans (hb2.mono hb.size)⟩
end Go.Proofs.YtpimcdkhjingjaaGreatDoor.X
