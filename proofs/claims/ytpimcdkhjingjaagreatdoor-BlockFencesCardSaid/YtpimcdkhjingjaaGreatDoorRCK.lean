/- A merged text (wip/mkclaim.py). -/
import Derived.Test.YtpimcdkhjingjaaGreatDoorRCJ
set_option linter.unusedVariables false
set_option linter.unusedSimpArgs false
set_option linter.unusedSectionVars false
namespace Go.Proofs.YtpimcdkhjingjaaGreatDoor.X
open Go.RowKit Go.Proofs.YtpimcdkhjingjaaGreatDoorW.PrintWords Go.Proofs.YtpimcdkhjingjaaGreatDoor.PBlk
def St.tree (s : St) : Nat → Nat → S27
  | 0, _ => z27
  | f + 1, i => ⟨((s.get i).kind : Int), ((s.get i).num : Int), if (s.get i).kind = 7 then (s.get i).flag else false, if (s.get i).kind = 7 then s.tight i else false, S (s.get i).text, ⟨#[]⟩, if (s.get i).kind = 5 then S (s.get i).title else ⟨#[]⟩, (s.get i).kids.map (s.tree f)⟩
def nodeV (x : S27) (v7 : Value) : Value := .agg #[.int .i64 x.f0, .int .i64 x.f1, .bool x.f2, .bool x.f3, .string x.f4, .string x.f5, .string x.f6, v7]
def NodeSaid (_B : Nat) (w : World) (L : Lay) (s : St) (f i : Nat) : Prop :=
  Calls Tryz.prog 22 #[.pointer (some ⟨L.ad i, 0, none⟩)] w fun e w' => ∃ v7, e = .returned (nodeV (s.tree f i) v7) ∧ k27.R 27 w' w.heap.size (fun _ => True) v7 (s.tree f i).f7 ∧ Below w.heap.size w w'
structure NF (w : World) (g2 g3 : Nat) (v : Value) (Y : List S27) (cs : Array Value) (wx : World) : Prop where
  hb : Below w.heap.size w wx
  hm : wx.heap[g2]? = some (.cells #[.int .i64 0, .int .i64 0, .bool false, .bool false, .string ⟨#[]⟩, .string ⟨#[]⟩, .string ⟨#[]⟩, .slice none 0 0] 27 (0, 0))
  hn : wx.heap[g3]? = some (.cells cs 27 (0, 0))
  hR : k27.R 27 wx (w.heap.size + 2) (fun k => k ≠ g3) v Y
theorem NF.put {w wx : World} {g2 g3 : Nat} {v : Value} {Y : List S27} {cs cs' : Array Value} (h : NF w g2 g3 v Y cs wx) (h1 : g2 ≠ g3) (h2 : w.heap.size ≤ g3) (j : Nat) (u : Value) (e : cs.setIfInBounds j u = cs') : NF w g2 g3 v Y cs' (wx.setCell ⟨g3, j, none⟩ u) :=
  ⟨h.hb.setCell h2 _, blk_far (p := ⟨g3, j, none⟩) h.hm h1 u, blk_put h.hn j u e, Kd.R_far (p := ⟨g3, j, none⟩) h.hR (fun _ hk => hk) u⟩
theorem NF.below {w wx w' : World} {g2 g3 : Nat} {v : Value} {Y : List S27} {cs : Array Value} (h : NF w g2 g3 v Y cs wx) (hb : Below wx.heap.size wx w') : NF w g2 g3 v Y cs w' :=
  ⟨h.hb.trans (hb.mono h.hb.size), blk_below h.hm hb, blk_below h.hn hb, Kd.R_below h.hR hb⟩
theorem NF.drew {w wx : World} {g2 g3 : Nat} {v : Value} {Y : List S27} {cs : Array Value} (h : NF w g2 g3 v Y cs wx) : NF w g2 g3 v Y cs wx.drew := h.below ⟨rfl, rfl, rfl, Nat.le_refl _, fun _ _ => rfl⟩
theorem kidOk {wr : World} {b g3 : Nat} {ok : Nat → Prop} {kv : Value} {X : List S27} (hR : k27.R 27 wr b ok kv X) (hsz : b ≤ wr.heap.size) (hg : g3 + 1 = b) {k : Nat} (hk : wr.heap.size ≤ k) : k ≠ g3 ∧ some k ≠ kv.ownBlock :=
  ⟨by omega, fun e => by have := Kd.R_lt hR k e.symm; omega⟩
set_option maxRecDepth 100000 in
set_option maxHeartbeats 8000000 in
theorem node_step {B : Nat} {w : World} {L : Lay} {s : St} {N M : Nat} (h : RepN B w L s) (hf : Wf N s) (hgd : Good M s) (hMN : N * (M + 1) ≤ 140737488355328) (f i : Nat) (hi : i < s.bs.length)
    (ih : ∀ k ∈ (s.get i).kids, ∀ w', RepN B w' L s → NodeSaid B w' L s f k) : NodeSaid B w L s (f + 1) i := by
  unfold NodeSaid
  obtain ⟨A, c, hv⟩ := h.kidsLen0 i hi
  have hmax := Nat.le_trans (hf.kidl i hi) hf.big
  have hb0 := h.b0 i hi
  have hb3 := h.b3 i hi
  obtain ⟨n, hn⟩ : ∃ n, n = (s.get i).kids.length := ⟨_, rfl⟩
  rw [← hn] at hv hmax
  rw [hv] at hb3
  have Hv := Lib.hid hv
  have Hn := Lib.hid hn
  clear hv hn
  have c0 : (w.alloc (.cells #[.int .i64 0, .int .i64 0, .bool false, .bool false, .string ⟨#[]⟩, .string ⟨#[]⟩, .string ⟨#[]⟩, .slice none 0 0] 27)).cell? ⟨L.ad i, 0, none⟩ = some (.int .i64 ((s.get i).kind : Int)) := (h.alloc _).b0 i hi
  go_enter Tryz.func22, Tryz.ntmps22
  go_upto_region 2 with fail
  obtain ⟨K0, hK0⟩ : ∃ K, K = (s.get i).kind := ⟨_, rfl⟩
  rw [← hK0]
  obtain ⟨w2, hw2⟩ : ∃ x, x = (w.alloc (.cells #[.int .i64 0, .int .i64 0, .bool false, .bool false, .string ⟨#[]⟩, .string ⟨#[]⟩, .string ⟨#[]⟩, .slice none 0 0] 27)).alloc (.cells #[.int .i64 (K0 : Int), .int .i64 0, .bool false, .bool false, .string ⟨#[]⟩, .string ⟨#[]⟩, .string ⟨#[]⟩, .slice none 0 0] 27) := ⟨_, rfl⟩
  obtain ⟨g3, hg3⟩ : ∃ x, x = w.heap.size + 1 := ⟨_, rfl⟩
  obtain ⟨g2, hg2⟩ : ∃ x, x = w.heap.size := ⟨_, rfl⟩
  rw [← hw2, ← hg3, ← hg2]
  have hb2 : Below w.heap.size w w2 := by rw [hw2]; exact ((Below.refl _ _).alloc (Nat.le_refl _) _).alloc (by rw [size_al]; omega) _
  have n2 : w2.heap[g3]? = some (.cells #[.int .i64 (K0 : Int), .int .i64 0, .bool false, .bool false, .string ⟨#[]⟩, .string ⟨#[]⟩, .string ⟨#[]⟩, .slice none 0 0] 27 (0, 0)) := by
    rw [hw2, hg3]
    have e := blk_new (w.alloc (.cells #[.int .i64 0, .int .i64 0, .bool false, .bool false, .string ⟨#[]⟩, .string ⟨#[]⟩, .string ⟨#[]⟩, .slice none 0 0] 27)) (.cells #[.int .i64 (K0 : Int), .int .i64 0, .bool false, .bool false, .string ⟨#[]⟩, .string ⟨#[]⟩, .string ⟨#[]⟩, .slice none 0 0] 27)
    rw [size_al] at e
    exact e
  have m2 : w2.heap[g2]? = some (.cells #[.int .i64 0, .int .i64 0, .bool false, .bool false, .string ⟨#[]⟩, .string ⟨#[]⟩, .string ⟨#[]⟩, .slice none 0 0] 27 (0, 0)) := by
    rw [hw2, hg2]
    exact blk_alloc (blk_new _ _) _
  have hsz2 : w2.heap.size = w.heap.size + 2 := by rw [hw2, size_al, size_al]
  have b32 : w2.cell? ⟨L.ad i, 3, none⟩ = some (.slice A n c) := by rw [← Hv.out]; exact (h.below hb2).b3 i hi
  clear hb0 hb3 c0
  have Hw2 := Lib.hid hw2
  have Hg3 := Lib.hid hg3
  have Hg2 := Lib.hid hg2
  have HK0 := Lib.hid hK0
  have Hsz2 := Lib.hid hsz2
  clear hw2 hg3 hg2 hK0 hsz2
  go_wp2
  go_loopg [16, 5] n (fun k v16 v5 wr => ∃ (m : Nat) (kv : Value), v16 = .int .i64 (m : Int) ∧ m + k = n ∧ Below w.heap.size w wr ∧ wr.heap[g2]? = some (.cells #[.int .i64 0, .int .i64 0, .bool false, .bool false, .string ⟨#[]⟩, .string ⟨#[]⟩, .string ⟨#[]⟩, .slice none 0 0] 27 (0, 0)) ∧ wr.heap[g3]? = some (.cells #[.int .i64 (K0 : Int), .int .i64 0, .bool false, .bool false, .string ⟨#[]⟩, .string ⟨#[]⟩, .string ⟨#[]⟩, kv] 27 (0, 0)) ∧ k27.R 27 wr (w.heap.size + 2) (fun k => k ≠ g3) kv (((s.get i).kids.take m).map (s.tree f)) ∧ w.heap.size + 2 ≤ wr.heap.size)
  case atStart => exact ⟨0, .slice none 0 0, rfl, by omega, hb2, m2, n2, Kd.R_nil _ _ _ _ _, Nat.le_of_eq Hsz2.out.symm⟩
  case round =>
    obtain ⟨m, kv, rfl, hmk, hb, hm, hn, hR, hsz⟩ := hrel
    cases gk with
    | succ k =>
      have hlt : m < n := by omega
      have hlt' : (m : Int) < (n : Int) := by omega
      have hk1 : m < (s.get i).kids.length := by rw [← Hn.out]; exact hlt
      have hr := h.below hb
      obtain ⟨g, cap, hv2, hc⟩ := hr.kidsOpen i hi (by omega)
      rw [Hv.out, ← Hn.out] at hv2
      injection hv2 with e1 e2 e3
      subst e1
      have hc1 := hc m hk1
      unfold Lay.ptr at hc1
      have hmem : kidAt (s.get i).kids m ∈ (s.get i).kids := by
        unfold kidAt
        rw [List.getD_eq_getElem?_getD, List.getElem?_eq_getElem hk1]
        exact List.getElem_mem hk1
      have Htk : Hid ((((s.get i).kids.take (m + 1)).map (s.tree f)) = (((s.get i).kids.take m).map (s.tree f)) ++ [s.tree f (kidAt (s.get i).kids m)]) := by
        show _ = _
        rw [List.take_succ_eq_append_getElem hk1, List.map_append]
        unfold kidAt
        rw [List.getD_eq_getElem?_getD, List.getElem?_eq_getElem hk1]
        rfl
      have HC := Lib.hid (ih _ hmem)
      obtain ⟨o, hoo⟩ : ∃ o, o = kidAt (s.get i).kids m := ⟨_, rfl⟩
      rw [← hoo] at hc1 HC Htk
      obtain ⟨x, hx⟩ : ∃ x, x = s.tree f o := ⟨_, rfl⟩
      have HC2 : Hid (∀ w', Below w.heap.size w w' → Calls Tryz.prog 22 #[.pointer (some ⟨L.ad o, 0, none⟩)] w' fun e w3 => ∃ v7, e = .returned (.agg #[.int .i64 x.f0, .int .i64 x.f1, .bool x.f2, .bool x.f3, .string x.f4, .string x.f5, .string x.f6, v7]) ∧ k27.R 27 w3 w'.heap.size (fun _ => True) v7 x.f7 ∧ Below w'.heap.size w' w3 ∧ Below w.heap.size w w3) := fun w' hb' => by
        have := HC.out w' (h.below hb')
        unfold NodeSaid nodeV at this
        rw [← hx] at this
        exact this.mono fun e w3 ⟨v7, q1, q2, q3⟩ => ⟨v7, q1, q2, q3, hb'.trans (q3.mono hb'.size)⟩
      rw [← hx] at Htk
      have Hmk := Lib.hid hmk
      have hw3 : IntKind.i64.wrap ((m : Int) + 1) = ((m + 1 : Nat) : Int) := by rw [IntWalk.i64_in _ (by omega)]; omega
      have hp3 : (0 : Int) ≤ (m : Int) := by omega
      obtain ⟨X, hX⟩ : ∃ X, X = ((s.get i).kids.take m).map (s.tree f) := ⟨_, rfl⟩
      rw [← hX] at hR Htk
      have hXl : X.length ≤ 1099511627776 := by rw [hX, List.length_map, List.length_take]; omega
      have c7 : wr.cell? ⟨g3, 7, none⟩ = some kv := (blk_cell hn 7).trans rfl
      clear HC hX hx hoo hc hmem hk1 hmk e2 e3 hlt
      go_upto_region 5 with fail
      go_region_law (first
        | (refine step_call rfl Tryz.func22 (by kernel_rfl) rfl #[.pointer (some ⟨L.ad o, 0, none⟩)] rfl (by simp only [List.map_toArray, List.map_cons, List.map_nil]; rfl) ?_; refine (HC2.out _ ?_).mono ?_; exact hb.trans ⟨rfl, rfl, rfl, Nat.le_refl _, fun _ _ => rfl⟩; rintro e w3 ⟨v7, rfl, hR3, hb3, hb4⟩; refine ⟨_, rfl, ?_⟩; have n3 := blk_below (by exact hn) hb3; have m3 := blk_below (by exact hm) hb3; have h1 : k27.R 27 w3 (w.heap.size + 2) (fun k => k ≠ g3 ∧ some k ≠ kv.ownBlock) v7 x.f7 := (Kd.R_lower (Kd.R_mono (Kd.R_bound hR3) (fun k hk => (kidOk hR hsz (by rw [Hg3.out]) hk.2.1))) hsz); have h2 : k27.R 27 w3 (w.heap.size + 2) (fun k => k ≠ g3) kv X := Kd.R_below (Kd.R_drew hR) hb3; have h3 : g3 < w3.heap.size := blk_lt n3; have h4 : w.heap.size + 2 ≤ w3.heap.size := Nat.le_trans hsz hb3.size; have d7 : w3.cell? ⟨g3, 7, none⟩ = some kv := (blk_cell n3 7).trans rfl; have d7a : (w3.alloc (.cells #[.int .i64 x.f0, .int .i64 x.f1, .bool x.f2, .bool x.f3, .string x.f4, .string x.f5, .string x.f6, v7] 27)).cell? ⟨g3, 7, none⟩ = some kv := (blk_cell (blk_alloc n3 _) 7).trans rfl)
        | (revert d7a; intro d7a; refine step_kid w3 (w.heap.size + 2) kv X x v7 g3 rfl _ _ rfl rfl rfl h1 h2 h3 h4 hXl ?_; intro v9 w9 hR9 hb9 hg9 hat9; obtain ⟨A9, c9, e9⟩ := Kd.R_slice hR9; subst e9; have n9 := blk_grown n3 hg9 (Kd.R_away h2 (fun _ h => h)); have r4f : w9.frozen? ⟨g3, 7, none⟩ = false := blk_frozen n9 7; have r4 : w9.cell? ⟨g3, 7, none⟩ = some kv := (blk_cell n9 7).trans rfl))
      all_goals
        rw [List.length_append, List.length_singleton] at hR9
        have hg3' : w.heap.size ≤ g3 := by rw [Hg3.out]; exact Nat.le_succ _
        have hg23 : g2 ≠ g3 := by rw [Hg2.out, Hg3.out]; exact Nat.ne_of_lt (Nat.lt_succ_self _)
        obtain ⟨w10, hw10⟩ : ∃ w10, w10 = w9.setCell ⟨g3, 7, none⟩ (.slice A9 (X.length + 1) c9) := ⟨_, rfl⟩
        have hR10 : k27.R 27 w10 (w.heap.size + 2) (fun k => k ≠ g3) (.slice A9 (X.length + 1) c9) (X ++ [x]) := by rw [hw10]; exact Kd.R_far (p := ⟨g3, 7, none⟩) hR9 (fun _ hk => hk) _
        have n10 : w10.heap[g3]? = some (.cells #[.int .i64 (K0 : Int), .int .i64 0, .bool false, .bool false, .string ⟨#[]⟩, .string ⟨#[]⟩, .string ⟨#[]⟩, .slice A9 (X.length + 1) c9] 27 (0, 0)) := by rw [hw10]; exact blk_put n9 7 _ rfl
        have m9 := blk_grown m3 hg9 (fun e => by have := Kd.R_base h2 g2 e.symm; have := Hg2.out; omega)
        have m10 := blk_far (p := ⟨g3, 7, none⟩) m9 hg23 (.slice A9 (X.length + 1) c9)
        rw [← hw10] at m10
        have hb10 : Below w.heap.size w w10 := by rw [hw10]; exact (hb4.trans (hb9.mono (Nat.le_add_right _ 2))).setCell hg3' _
        have hs10 : w.heap.size + 2 ≤ w10.heap.size := by rw [hw10]; exact Nat.le_trans h4 (Nat.le_trans hb9.size (touch_set w9 g3 7 _).size)
        rw [← hw10]
        have HR10 := Lib.hid hR10
        have HN10 := Lib.hid n10
        have HM10 := Lib.hid m10
        clear hw10 hR10 n10 m10 n9 m9 r4 r4f d7 d7a h1 h2 h3 h4 n3 m3 hR3 hb3 hb4 hR c7 hR9 hb9 hg9 hat9 hc1
        go_wp2
        go_roundg k
        case measure => omega
        case rel => exact ⟨m + 1, _, rfl, by have := Hmk.out; omega, hb10, HM10.out, HN10.out, by rw [Htk.out]; exact HR10.out, hs10⟩
    | zero =>
      have hmn : m = n := by omega
      subst hmn
      have hlt' : ¬ (m : Int) < (m : Int) := by omega
      have hk : (s.get i).kids.take m = (s.get i).kids := by rw [Hn.out, List.take_length]
      rw [hk] at hR
      clear hk hmk
      have hr := h.below hb
      have b0 := hr.b0 i hi
      rw [← HK0.out] at b0
      go_upto_block 2 with fail
      obtain ⟨Y, hY⟩ : ∃ Y, Y = (s.get i).kids.map (s.tree f) := ⟨_, rfl⟩
      rw [← hY] at hR
      obtain ⟨A7, c7, e7⟩ := Kd.R_slice hR
      subst e7
      obtain ⟨X1, hX1⟩ : ∃ X : Int, X = ((s.get i).num : Int) := ⟨_, rfl⟩
      obtain ⟨X2, hX2⟩ : ∃ X, X = (if (s.get i).kind = 7 then (s.get i).flag else false) := ⟨_, rfl⟩
      obtain ⟨X3, hX3⟩ : ∃ X, X = (if (s.get i).kind = 7 then s.tight i else false) := ⟨_, rfl⟩
      obtain ⟨X4, hX4⟩ : ∃ X, X = S (s.get i).text := ⟨_, rfl⟩
      obtain ⟨X6, hX6⟩ : ∃ X : ByteArray, X = (if (s.get i).kind = 5 then S (s.get i).title else ⟨#[]⟩) := ⟨_, rfl⟩
      have Htree : Hid (s.tree (f + 1) i = ⟨(K0 : Int), X1, X2, X3, X4, ⟨#[]⟩, X6, Y⟩) := by show _ = _; rw [HK0.out, hX1, hX2, hX3, hX4, hX6, hY]; rfl
      have HX1 := Lib.hid hX1
      have HX2 := Lib.hid hX2
      have HX3 := Lib.hid hX3
      have HX4 := Lib.hid hX4
      have HX6 := Lib.hid hX6
      clear hX1 hX2 hX3 hX4 hX6 hY
      have nf : NF w g2 g3 (.slice A7 Y.length c7) Y #[.int .i64 (K0 : Int), .int .i64 0, .bool false, .bool false, .string ⟨#[]⟩, .string ⟨#[]⟩, .string ⟨#[]⟩, .slice A7 Y.length c7] wr := ⟨hb, hm, hn, hR⟩
      have hg23 : g2 ≠ g3 := by rw [Hg2.out, Hg3.out]; exact Nat.ne_of_lt (Nat.lt_succ_self _)
      have hg3' : w.heap.size ≤ g3 := by rw [Hg3.out]; exact Nat.le_succ _
      have FACT : Hid (∀ {w' : World} {cs : Array Value}, NF w g2 g3 (.slice A7 Y.length c7) Y cs w' → RepN B w' L s) := fun h' => h.below h'.hb
      go_cut [31] from 32 to 79 (fun v31 wx => NF w g2 g3 (.slice A7 Y.length c7) Y #[.int .i64 (K0 : Int), .int .i64 X1, .bool X2, .bool X3, .string X4, .string ⟨#[]⟩, .string X6, .slice A7 Y.length c7] wx)
      case first =>
        by_cases k2 : K0 = 2
        · subst k2
          have e1 : X1 = 0 := by rw [HX1.out]; unfold Blk.num; rw [← HK0.out]; rfl
          have e2 : X2 = false := by rw [HX2.out, ← HK0.out]; rfl
          have e3 : X3 = false := by rw [HX3.out, ← HK0.out]; rfl
          have e4 : X4 = S (Lib.trimRightS (Lib.join (s.get i).lines [10]) [32, 9]) := by rw [HX4.out]; unfold Blk.text; rw [← HK0.out]; rfl
          have e6 : X6 = ⟨#[]⟩ := by rw [HX6.out, ← HK0.out]; rfl
          obtain ⟨J, hJ⟩ : ∃ J, J = Lib.join (s.get i).lines [10] := ⟨_, rfl⟩
          have hJl : J.length ≤ 1099511627776 * 128 := by rw [hJ]; exact join_le hf hgd hMN i hi
          rw [← hJ] at e4
          have HJ : Hid (∀ (w' : World), NF w g2 g3 (.slice A7 Y.length c7) Y #[.int .i64 ((2 : Nat) : Int), .int .i64 0, .bool false, .bool false, .string ⟨#[]⟩, .string ⟨#[]⟩, .string ⟨#[]⟩, .slice A7 Y.length c7] w' → Calls Tryz.prog 34 #[L.rv (.line i), .string ⟨#[10]⟩] w' fun e w2 => e = .returned (.string (S J)) ∧ NF w g2 g3 (.slice A7 Y.length c7) Y #[.int .i64 ((2 : Nat) : Int), .int .i64 0, .bool false, .bool false, .string ⟨#[]⟩, .string ⟨#[]⟩, .string ⟨#[]⟩, .slice A7 Y.length c7] w2) := fun w' h' => by
            have hz := join_c (FACT.out h') hf hgd hMN i hi
            rw [← hJ] at hz
            exact hz.mono fun e w2 hh => ⟨hh.1, h'.below hh.2⟩
          have HT : Hid (∀ (w' : World), NF w g2 g3 (.slice A7 Y.length c7) Y #[.int .i64 ((2 : Nat) : Int), .int .i64 0, .bool false, .bool false, .string ⟨#[]⟩, .string ⟨#[]⟩, .string ⟨#[]⟩, .slice A7 Y.length c7] w' → Calls Tryz.prog 33 #[.string (S J), .string ⟨#[32, 9]⟩] w' fun e w2 => e = .returned (.string (S (Lib.trimRightS J [32, 9]))) ∧ NF w g2 g3 (.slice A7 Y.length c7) Y #[.int .i64 ((2 : Nat) : Int), .int .i64 0, .bool false, .bool false, .string ⟨#[]⟩, .string ⟨#[]⟩, .string ⟨#[]⟩, .slice A7 Y.length c7] w2) := fun w' h' => (trimRight_c J hJl w').mono fun e w2 hh => ⟨hh.1, h'.below hh.2⟩
          clear HX1 HX2 HX3 HX4 HX6
          subst e1 e2 e3 e4 e6
          have ap11 : wr.cell? ⟨L.ad i, 11, none⟩ = some (L.rv (.line i)) := (FACT.out nf).b11 i hi
          clear hJ hJl
          go_wp2_with (first
            | (go_at_call 34; refine (HJ.out _ ?_).mono ?_; assumption; rintro e w3 ⟨rfl, nf⟩)
            | (go_at_call 33; refine (HT.out _ ?_).mono ?_; assumption; rintro e w4 ⟨rfl, nf⟩; have sq4 : w4.cell? ⟨g3, 4, none⟩ = some (.string ⟨#[]⟩) := (blk_cell nf.hn 4).trans rfl; have fq4 : w4.frozen? ⟨g3, 4, none⟩ = false := blk_frozen nf.hn 4))
          go_meet
          exact nf.put hg23 hg3' 4 _ rfl
        by_cases k3 : K0 = 3
        · subst k3
          have e1 : X1 = ((s.get i).n : Int) := by rw [HX1.out]; unfold Blk.num; rw [← HK0.out]; rfl
          have e2 : X2 = false := by rw [HX2.out, ← HK0.out]; rfl
          have e3 : X3 = false := by rw [HX3.out, ← HK0.out]; rfl
          have e4 : X4 = S (Lib.trimS (Lib.join (s.get i).lines [10]) [32, 9]) := by rw [HX4.out]; unfold Blk.text; rw [← HK0.out]; rfl
          have e6 : X6 = ⟨#[]⟩ := by rw [HX6.out, ← HK0.out]; rfl
          obtain ⟨J, hJ⟩ : ∃ J, J = Lib.join (s.get i).lines [10] := ⟨_, rfl⟩
          have hJl : J.length ≤ 1099511627776 * 128 := by rw [hJ]; exact join_le hf hgd hMN i hi
          rw [← hJ] at e4
          have HJ : Hid (∀ (w' : World), NF w g2 g3 (.slice A7 Y.length c7) Y #[.int .i64 ((3 : Nat) : Int), .int .i64 0, .bool false, .bool false, .string ⟨#[]⟩, .string ⟨#[]⟩, .string ⟨#[]⟩, .slice A7 Y.length c7] w' → Calls Tryz.prog 34 #[L.rv (.line i), .string ⟨#[10]⟩] w' fun e w2 => e = .returned (.string (S J)) ∧ NF w g2 g3 (.slice A7 Y.length c7) Y #[.int .i64 ((3 : Nat) : Int), .int .i64 0, .bool false, .bool false, .string ⟨#[]⟩, .string ⟨#[]⟩, .string ⟨#[]⟩, .slice A7 Y.length c7] w2) := fun w' h' => by
            have hz := join_c (FACT.out h') hf hgd hMN i hi
            rw [← hJ] at hz
            exact hz.mono fun e w2 hh => ⟨hh.1, h'.below hh.2⟩
          have HT : Hid (∀ (w' : World), NF w g2 g3 (.slice A7 Y.length c7) Y #[.int .i64 ((3 : Nat) : Int), .int .i64 0, .bool false, .bool false, .string ⟨#[]⟩, .string ⟨#[]⟩, .string ⟨#[]⟩, .slice A7 Y.length c7] w' → Calls Tryz.prog 35 #[.string (S J), .string ⟨#[32, 9]⟩] w' fun e w2 => e = .returned (.string (S (Lib.trimS J [32, 9]))) ∧ NF w g2 g3 (.slice A7 Y.length c7) Y #[.int .i64 ((3 : Nat) : Int), .int .i64 0, .bool false, .bool false, .string ⟨#[]⟩, .string ⟨#[]⟩, .string ⟨#[]⟩, .slice A7 Y.length c7] w2) := fun w' h' => (trimAll_c J hJl w').mono fun e w2 hh => ⟨hh.1, h'.below hh.2⟩
          clear HX1 HX2 HX3 HX4 HX6
          subst e1 e2 e3 e4 e6
          have ap11 : wr.cell? ⟨L.ad i, 11, none⟩ = some (L.rv (.line i)) := (FACT.out nf).b11 i hi
          have ap4 : wr.cell? ⟨L.ad i, 4, none⟩ = some (.int .i64 ((s.get i).n : Int)) := (FACT.out nf).b4 i hi
          have sp1 : wr.cell? ⟨g3, 1, none⟩ = some (.int .i64 0) := (blk_cell nf.hn 1).trans rfl
          have fp1 : wr.frozen? ⟨g3, 1, none⟩ = false := blk_frozen nf.hn 1
          have sp4 : wr.cell? ⟨g3, 4, none⟩ = some (.string ⟨#[]⟩) := (blk_cell nf.hn 4).trans rfl
          have fp4 : wr.frozen? ⟨g3, 4, none⟩ = false := blk_frozen nf.hn 4
          clear hJ hJl
          have k32 : ((3 : Int) == 2) = false := rfl
          go_upto_region 11 with fail
          go_region_law (first
            | (refine step_call rfl Tryz.func34 (by kernel_rfl) rfl #[L.rv (.line i), .string ⟨#[10]⟩] rfl (by simp only [List.map_toArray, List.map_cons, List.map_nil]; rfl) ?_; refine (HJ.out _ ?_).mono ?_; (first | assumption | exact nf.drew); rintro e w3 ⟨rfl, nf⟩; refine ⟨_, rfl, ?_⟩; have aq11 : w3.cell? ⟨L.ad i, 11, none⟩ = some (L.rv (.line i)) := (FACT.out nf).b11 i hi; have aq4 : w3.cell? ⟨L.ad i, 4, none⟩ = some (.int .i64 ((s.get i).n : Int)) := (FACT.out nf).b4 i hi; have sq1 : w3.cell? ⟨g3, 1, none⟩ = some (.int .i64 0) := (blk_cell nf.hn 1).trans rfl; have fq1 : w3.frozen? ⟨g3, 1, none⟩ = false := blk_frozen nf.hn 1; have sq4 : w3.cell? ⟨g3, 4, none⟩ = some (.string ⟨#[]⟩) := (blk_cell nf.hn 4).trans rfl; have fq4 : w3.frozen? ⟨g3, 4, none⟩ = false := blk_frozen nf.hn 4)
            | (refine step_call rfl Tryz.func35 (by kernel_rfl) rfl #[.string (S J), .string ⟨#[32, 9]⟩] rfl (by simp only [List.map_toArray, List.map_cons, List.map_nil]; rfl) ?_; refine (HT.out _ ?_).mono ?_; (first | assumption | exact nf.drew); rintro e w4 ⟨rfl, nf⟩; refine ⟨_, rfl, ?_⟩; have ar11 : w4.cell? ⟨L.ad i, 11, none⟩ = some (L.rv (.line i)) := (FACT.out nf).b11 i hi; have ar4 : w4.cell? ⟨L.ad i, 4, none⟩ = some (.int .i64 ((s.get i).n : Int)) := (FACT.out nf).b4 i hi; have sr1 : w4.cell? ⟨g3, 1, none⟩ = some (.int .i64 0) := (blk_cell nf.hn 1).trans rfl; have fr1 : w4.frozen? ⟨g3, 1, none⟩ = false := blk_frozen nf.hn 1; have sr4 : w4.cell? ⟨g3, 4, none⟩ = some (.string ⟨#[]⟩) := (blk_cell nf.hn 4).trans rfl; have fr4 : w4.frozen? ⟨g3, 4, none⟩ = false := blk_frozen nf.hn 4))
          all_goals
            go_wp2
            go_meet
            exact (nf.put hg23 hg3' 1 _ rfl).put hg23 hg3' 4 _ rfl
        by_cases k5 : K0 = 5
        · subst k5
          have e1 : X1 = 0 := by rw [HX1.out]; unfold Blk.num; rw [← HK0.out]; rfl
          have e2 : X2 = false := by rw [HX2.out, ← HK0.out]; rfl
          have e3 : X3 = false := by rw [HX3.out, ← HK0.out]; rfl
          have e4 : X4 = S (s.get i).code := by rw [HX4.out]; unfold Blk.text; rw [← HK0.out]; rfl
          have e6 : X6 = S (s.get i).title := by rw [HX6.out, ← HK0.out]; rfl
          obtain ⟨C, hC⟩ : ∃ C, C = (s.get i).code := ⟨_, rfl⟩
          rw [← hC] at e4
          have HC : Hid (∀ (w' : World), NF w g2 g3 (.slice A7 Y.length c7) Y #[.int .i64 ((5 : Nat) : Int), .int .i64 0, .bool false, .bool false, .string ⟨#[]⟩, .string ⟨#[]⟩, .string ⟨#[]⟩, .slice A7 Y.length c7] w' → Calls Tryz.prog 36 #[.pointer (some ⟨L.ad i, 0, none⟩)] w' fun e w2 => e = .returned (.string (S C)) ∧ NF w g2 g3 (.slice A7 Y.length c7) Y #[.int .i64 ((5 : Nat) : Int), .int .i64 0, .bool false, .bool false, .string ⟨#[]⟩, .string ⟨#[]⟩, .string ⟨#[]⟩, .slice A7 Y.length c7] w2) := fun w' h' => by
            have hz := code_c (FACT.out h') hf hgd hMN i hi
            rw [← hC] at hz
            exact hz.mono fun e w2 hh => ⟨hh.1, h'.below hh.2⟩
          clear HX1 HX2 HX3 HX4 HX6
          subst e1 e2 e3 e4 e6
          have ap8 : wr.cell? ⟨L.ad i, 8, none⟩ = some (.string (S (s.get i).title)) := (FACT.out nf).b8 i hi
          have sp4 : wr.cell? ⟨g3, 4, none⟩ = some (.string ⟨#[]⟩) := (blk_cell nf.hn 4).trans rfl
          have fp4 : wr.frozen? ⟨g3, 4, none⟩ = false := blk_frozen nf.hn 4
          have sp6 : wr.cell? ⟨g3, 6, none⟩ = some (.string ⟨#[]⟩) := (blk_cell nf.hn 6).trans rfl
          have fp6 : wr.frozen? ⟨g3, 6, none⟩ = false := blk_frozen nf.hn 6
          clear hC
          go_upto_region 13 with fail
          go_region_law (first
            | (refine step_call rfl Tryz.func36 (by kernel_rfl) rfl #[.pointer (some ⟨L.ad i, 0, none⟩)] rfl (by simp only [List.map_toArray, List.map_cons, List.map_nil]; rfl) ?_; refine (HC.out _ ?_).mono ?_; (first | assumption | exact nf.drew); rintro e w3 ⟨rfl, nf⟩; refine ⟨_, rfl, ?_⟩; have aq8 : w3.cell? ⟨L.ad i, 8, none⟩ = some (.string (S (s.get i).title)) := (FACT.out nf).b8 i hi; have sq4 : w3.cell? ⟨g3, 4, none⟩ = some (.string ⟨#[]⟩) := (blk_cell nf.hn 4).trans rfl; have fq4 : w3.frozen? ⟨g3, 4, none⟩ = false := blk_frozen nf.hn 4; have sq6 : w3.cell? ⟨g3, 6, none⟩ = some (.string ⟨#[]⟩) := (blk_cell nf.hn 6).trans rfl; have fq6 : w3.frozen? ⟨g3, 6, none⟩ = false := blk_frozen nf.hn 6))
          all_goals
            go_wp2
            go_meet
            exact (nf.put hg23 hg3' 4 _ rfl).put hg23 hg3' 6 _ rfl
        by_cases k7 : K0 = 7
        · subst k7
          have e1 : X1 = ((s.get i).n : Int) := by rw [HX1.out]; unfold Blk.num; rw [← HK0.out]; rfl
          have e2 : X2 = (s.get i).flag := by rw [HX2.out, ← HK0.out]; rfl
          have e3 : X3 = s.tight i := by rw [HX3.out, ← HK0.out]; rfl
          have e4 : X4 = ⟨#[]⟩ := by rw [HX4.out]; unfold Blk.text; rw [← HK0.out]; rfl
          have e6 : X6 = ⟨#[]⟩ := by rw [HX6.out, ← HK0.out]; rfl
          obtain ⟨C, hC⟩ : ∃ C, C = s.tight i := ⟨_, rfl⟩
          rw [← hC] at e3
          have HC : Hid (∀ (w' : World), NF w g2 g3 (.slice A7 Y.length c7) Y #[.int .i64 ((7 : Nat) : Int), .int .i64 0, .bool false, .bool false, .string ⟨#[]⟩, .string ⟨#[]⟩, .string ⟨#[]⟩, .slice A7 Y.length c7] w' → Calls Tryz.prog 37 #[.pointer (some ⟨L.ad i, 0, none⟩)] w' fun e w2 => e = .returned (.bool C) ∧ NF w g2 g3 (.slice A7 Y.length c7) Y #[.int .i64 ((7 : Nat) : Int), .int .i64 0, .bool false, .bool false, .string ⟨#[]⟩, .string ⟨#[]⟩, .string ⟨#[]⟩, .slice A7 Y.length c7] w2) := fun w' h' => by
            have hz := tight_c (FACT.out h') hf hgd i hi
            rw [← hC] at hz
            exact hz.mono fun e w2 hh => ⟨hh.1, h'.below hh.2⟩
          clear HX1 HX2 HX3 HX4 HX6
          subst e1 e2 e3 e4 e6
          have ap5 : wr.cell? ⟨L.ad i, 5, none⟩ = some (.bool (s.get i).flag) := (FACT.out nf).b5 i hi
          have ap4 : wr.cell? ⟨L.ad i, 4, none⟩ = some (.int .i64 ((s.get i).n : Int)) := (FACT.out nf).b4 i hi
          have sp1 : wr.cell? ⟨g3, 1, none⟩ = some (.int .i64 0) := (blk_cell nf.hn 1).trans rfl
          have fp1 : wr.frozen? ⟨g3, 1, none⟩ = false := blk_frozen nf.hn 1
          have sp2 : wr.cell? ⟨g3, 2, none⟩ = some (.bool false) := (blk_cell nf.hn 2).trans rfl
          have fp2 : wr.frozen? ⟨g3, 2, none⟩ = false := blk_frozen nf.hn 2
          have sp3 : wr.cell? ⟨g3, 3, none⟩ = some (.bool false) := (blk_cell nf.hn 3).trans rfl
          have fp3 : wr.frozen? ⟨g3, 3, none⟩ = false := blk_frozen nf.hn 3
          clear hC
          go_upto_region 15 with fail
          go_region_law (first
            | (refine step_call rfl Tryz.func37 (by kernel_rfl) rfl #[.pointer (some ⟨L.ad i, 0, none⟩)] rfl (by simp only [List.map_toArray, List.map_cons, List.map_nil]; rfl) ?_; refine (HC.out _ ?_).mono ?_; (first | assumption | exact nf.drew); rintro e w3 ⟨rfl, nf⟩; refine ⟨_, rfl, ?_⟩; have aq5 : w3.cell? ⟨L.ad i, 5, none⟩ = some (.bool (s.get i).flag) := (FACT.out nf).b5 i hi; have aq4 : w3.cell? ⟨L.ad i, 4, none⟩ = some (.int .i64 ((s.get i).n : Int)) := (FACT.out nf).b4 i hi; have sq1 : w3.cell? ⟨g3, 1, none⟩ = some (.int .i64 0) := (blk_cell nf.hn 1).trans rfl; have fq1 : w3.frozen? ⟨g3, 1, none⟩ = false := blk_frozen nf.hn 1; have sq2 : w3.cell? ⟨g3, 2, none⟩ = some (.bool false) := (blk_cell nf.hn 2).trans rfl; have fq2 : w3.frozen? ⟨g3, 2, none⟩ = false := blk_frozen nf.hn 2; have sq3 : w3.cell? ⟨g3, 3, none⟩ = some (.bool false) := (blk_cell nf.hn 3).trans rfl; have fq3 : w3.frozen? ⟨g3, 3, none⟩ = false := blk_frozen nf.hn 3))
          all_goals
            go_wp2
            go_meet
            exact ((nf.put hg23 hg3' 2 _ rfl).put hg23 hg3' 1 _ rfl).put hg23 hg3' 3 _ rfl
        have k2' : ((K0 : Int) == 2) = false := beq_eq_false_iff_ne.2 (by omega)
        have k3' : ((K0 : Int) == 3) = false := beq_eq_false_iff_ne.2 (by omega)
        have k5' : ((K0 : Int) == 5) = false := beq_eq_false_iff_ne.2 (by omega)
        have k7' : ((K0 : Int) == 7) = false := beq_eq_false_iff_ne.2 (by omega)
        have e1 : X1 = 0 := by rw [HX1.out]; unfold Blk.num; rw [← HK0.out, if_neg (by omega)]; rfl
        have e2 : X2 = false := by rw [HX2.out, ← HK0.out, if_neg k7]
        have e3 : X3 = false := by rw [HX3.out, ← HK0.out, if_neg k7]
        have e4 : X4 = ⟨#[]⟩ := by rw [HX4.out]; unfold Blk.text; rw [← HK0.out, if_neg k2, if_neg k3, if_neg k5]; rfl
        have e6 : X6 = ⟨#[]⟩ := by rw [HX6.out, ← HK0.out, if_neg k5]
        clear HX1 HX2 HX3 HX4 HX6
        subst e1 e2 e3 e4 e6
        clear k2 k3 k5 k7
        go_wp2
        go_meet
        exact nf
      case rest =>
        obtain ⟨hbx, hmx, hnx, hRx⟩ := hcut
        clear nf FACT
        have l0 : wc.cell? ⟨g3, 0, none⟩ = some (.int .i64 (K0 : Int)) := (blk_cell hnx 0).trans rfl
        have l1 : wc.cell? ⟨g3, 1, none⟩ = some (.int .i64 X1) := (blk_cell hnx 1).trans rfl
        have l2 : wc.cell? ⟨g3, 2, none⟩ = some (.bool X2) := (blk_cell hnx 2).trans rfl
        have l3 : wc.cell? ⟨g3, 3, none⟩ = some (.bool X3) := (blk_cell hnx 3).trans rfl
        have l4 : wc.cell? ⟨g3, 4, none⟩ = some (.string X4) := (blk_cell hnx 4).trans rfl
        have l5 : wc.cell? ⟨g3, 5, none⟩ = some (.string ⟨#[]⟩) := (blk_cell hnx 5).trans rfl
        have l6 : wc.cell? ⟨g3, 6, none⟩ = some (.string X6) := (blk_cell hnx 6).trans rfl
        have l7 : wc.cell? ⟨g3, 7, none⟩ = some (.slice A7 Y.length c7) := (blk_cell hnx 7).trans rfl
        have q0 : wc.cell? ⟨g2, 0, none⟩ = some (.int .i64 0) := (blk_cell hmx 0).trans rfl
        have r0 : wc.frozen? ⟨g2, 0, none⟩ = false := blk_frozen hmx 0
        have q1 : wc.cell? ⟨g2, 1, none⟩ = some (.int .i64 0) := (blk_cell hmx 1).trans rfl
        have r1 : wc.frozen? ⟨g2, 1, none⟩ = false := blk_frozen hmx 1
        have q2 : wc.cell? ⟨g2, 2, none⟩ = some (.bool false) := (blk_cell hmx 2).trans rfl
        have r2 : wc.frozen? ⟨g2, 2, none⟩ = false := blk_frozen hmx 2
        have q3 : wc.cell? ⟨g2, 3, none⟩ = some (.bool false) := (blk_cell hmx 3).trans rfl
        have r3 : wc.frozen? ⟨g2, 3, none⟩ = false := blk_frozen hmx 3
        have q4 : wc.cell? ⟨g2, 4, none⟩ = some (.string ⟨#[]⟩) := (blk_cell hmx 4).trans rfl
        have r4 : wc.frozen? ⟨g2, 4, none⟩ = false := blk_frozen hmx 4
        have q5 : wc.cell? ⟨g2, 5, none⟩ = some (.string ⟨#[]⟩) := (blk_cell hmx 5).trans rfl
        have r5 : wc.frozen? ⟨g2, 5, none⟩ = false := blk_frozen hmx 5
        have q6 : wc.cell? ⟨g2, 6, none⟩ = some (.string ⟨#[]⟩) := (blk_cell hmx 6).trans rfl
        have r6 : wc.frozen? ⟨g2, 6, none⟩ = false := blk_frozen hmx 6
        have q7 : wc.cell? ⟨g2, 7, none⟩ = some (.slice none 0 0) := (blk_cell hmx 7).trans rfl
        have r7 : wc.frozen? ⟨g2, 7, none⟩ = false := blk_frozen hmx 7
        have hg2' : w.heap.size ≤ g2 := Nat.le_of_eq Hg2.out.symm
        have hR' : k27.R 27 wc w.heap.size (fun k => k ≠ g2) (.slice A7 Y.length c7) Y := Kd.R_lower (Kd.R_mono (Kd.R_bound hRx) (fun k hk => by have := hk.2.1; have := Hg2.out; omega)) (Nat.le_add_right _ 2)
        go_wp2
        refine bodyPost_ret (results_cell_row rfl _ _ g2 27 #[.int .i64 (K0 : Int), .int .i64 X1, .bool X2, .bool X3, .string X4, .string ⟨#[]⟩, .string X6, .slice A7 Y.length c7] (0, 0) _ rfl (blk_put (blk_put (blk_put (blk_put (blk_put (blk_put (blk_put (blk_put hmx 0 _ rfl) 1 _ rfl) 2 _ rfl) 3 _ rfl) 4 _ rfl) 5 _ rfl) 6 _ rfl) 7 _ rfl) Tryz.underlying27 rfl (by kernel_rfl)) rfl ?_
        refine ⟨.slice A7 Y.length c7, ?_, ?_, ((((((((hbx.setCell hg2' _).setCell hg2' _).setCell hg2' _).setCell hg2' _).setCell hg2' _).setCell hg2' _).setCell hg2' _).setCell hg2' _)⟩
        · rw [Htree.out]; rfl
        · rw [Htree.out]; exact Kd.R_mono (Kd.R_far (p := ⟨g2, 7, none⟩) (Kd.R_far (p := ⟨g2, 6, none⟩) (Kd.R_far (p := ⟨g2, 5, none⟩) (Kd.R_far (p := ⟨g2, 4, none⟩) (Kd.R_far (p := ⟨g2, 3, none⟩) (Kd.R_far (p := ⟨g2, 2, none⟩) (Kd.R_far (p := ⟨g2, 1, none⟩) (Kd.R_far (p := ⟨g2, 0, none⟩) hR' (fun _ hk => hk) _) (fun _ hk => hk) _) (fun _ hk => hk) _) (fun _ hk => hk) _) (fun _ hk => hk) _) (fun _ hk => hk) _) (fun _ hk => hk) _) (fun _ hk => hk) _) (fun _ _ => trivial)
end Go.Proofs.YtpimcdkhjingjaaGreatDoor.X
