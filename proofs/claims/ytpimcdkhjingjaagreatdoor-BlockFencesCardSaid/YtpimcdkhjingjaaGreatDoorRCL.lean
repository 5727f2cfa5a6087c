/- A merged text (wip/mkclaim.py). -/
import Derived.Test.YtpimcdkhjingjaaGreatDoorRCK
import Derived.Test.YtpimcdkhjingjaaGreatDoorRCI
set_option linter.unusedVariables false
set_option linter.unusedSimpArgs false
set_option linter.unusedSectionVars false
namespace Go.Proofs.YtpimcdkhjingjaaGreatDoor.X
open Go.RowKit Go.Proofs.YtpimcdkhjingjaaGreatDoorW.PrintWords Go.Proofs.YtpimcdkhjingjaaGreatDoor.PBlk
theorem node_c {B : Nat} {L : Lay} {s : St} {N M : Nat} (hf : Wf N s) (hgd : Good M s) (hMN : N * (M + 1) ≤ 140737488355328) : ∀ (f i : Nat) (w : World), RepN B w L s → i < s.bs.length → s.bs.length ≤ f + i → NodeSaid B w L s f i
  | 0, i, w, _, hi, hfu => by omega
  | f + 1, i, w, h, hi, hfu => node_step h hf hgd hMN f i hi fun k hk w' h' => by
    have h1 := hgd.kin i hi k hk
    exact node_c hf hgd hMN f k w' h' (hf.kids i hi k hk) (by omega)
structure RepP (B : Nat) (w : World) (L : Lay) (s : St) (pv : Value) : Prop where
  par : w.heap[L.pb]? = some (.cells #[L.rv .open_, .int .i64 (s.here : Int), pv, .int .i64 (s.at_ : Int)] 46 (0, 0))
  blk : ∀ i, i < s.bs.length → w.heap[L.ad i]? = some (.cells (cellsB (s.get i) (L.rv (.kid i)) (L.rv (.line i))) 43 (0, 0))
  own : ∀ t, Tag.ok s t → w.ownsRow B t.ty 1 (L.rv t) (elems L s t).length (elems L s t)
  inj : ∀ i j, i < s.bs.length → j < s.bs.length → L.ad i = L.ad j → i = j
  apart : ∀ t u, Tag.ok s t → Tag.ok s u → t ≠ u → ∀ g, (L.rv t).ownBlock = some g → (L.rv u).ownBlock ≠ some g
  bp : B ≤ L.pb
  bb : ∀ i, i < s.bs.length → B ≤ L.ad i
theorem Rep.bare {B : Nat} {w : World} {L : Lay} {s : St} (h : Rep B w L s) : RepP B w L s (.pointer (some ⟨L.cb, 0, none⟩)) := ⟨h.par, h.blk, h.own, h.inj, h.apart, h.bp, h.bb⟩
theorem RepP.blocks {B : Nat} {w : World} {L : Lay} {s : St} {pv : Value} (h : RepP B w L s pv) : RepN B w L s := ⟨h.blk, fun t ht _ => h.own t ht, h.bb⟩
theorem own_al {w : World} {B : Nat} {e : TypeId} {n sz : Nat} {v : Value} {xs : List Value} (h : w.ownsRow B e sz v n xs) (o : Obj) : (w.alloc o).ownsRow B e sz v n xs := own_move h fun k hk => Below.heap_alloc w o k (own_lt h k hk)
theorem RepP.line {B : Nat} {w : World} {L : Lay} {s : St} {pv : Value} (h : RepP B w L s pv) (i : Nat) (l : List UInt8) :
    Rep B (((w.alloc (.cells (cellsC ⟨l, 0, 0, 0⟩) 59)).setCell ⟨L.pb, 3, none⟩ (.int .i64 (i : Int))).setCell ⟨L.pb, 2, none⟩ (.pointer (some ⟨w.heap.size, 0, none⟩))) ⟨L.pb, w.heap.size, L.ad, L.rv⟩ { s with at_ := i, cur := ⟨l, 0, 0, 0⟩ } := by
  have hpl := blk_lt h.par
  have hel : ∀ t, elems ⟨L.pb, w.heap.size, L.ad, L.rv⟩ { s with at_ := i, cur := ⟨l, 0, 0, 0⟩ } t = elems L s t := fun t => by cases t <;> rfl
  have hpar := blk_alloc h.par (.cells (cellsC ⟨l, 0, 0, 0⟩) 59)
  refine ⟨?_, ?_, fun j hj => ?_, fun t ht => ?_, h.inj, h.apart, h.bp, by show B ≤ w.heap.size; have := h.bp; omega, h.bb⟩
  · exact blk_put (blk_put hpar 3 _ rfl) 2 _ rfl
  · show _ = _
    exact blk_far (p := ⟨L.pb, 2, none⟩) (blk_far (p := ⟨L.pb, 3, none⟩) (blk_new w _) (show w.heap.size ≠ L.pb by omega) _) (show w.heap.size ≠ L.pb by omega) _
  · have hb := h.blk j hj
    have hne : L.ad j ≠ L.pb := ne_of_types hb h.par (by decide)
    exact blk_far (p := ⟨L.pb, 2, none⟩) (blk_far (p := ⟨L.pb, 3, none⟩) (blk_alloc hb _) hne _) hne _
  · rw [hel]
    have ho := h.own t (by cases t <;> exact ht)
    have hne : some L.pb ≠ (L.rv t).ownBlock := fun e => by
      obtain ⟨c, hc⟩ := row_cells ho e.symm
      exact ne_of_types hc h.par (t.ty_ne.2.1) rfl
    exact own_setCell (own_setCell (own_al ho _) hne _) hne _
def docB : Blk := { Blk.zero with kind := 1 }
def St.init : St := ⟨[docB], [0], 0, 0, ⟨[], 0, 0, 0⟩⟩
theorem Wf.init : Wf 1 St.init where
  big := by decide
  cur := ⟨Nat.zero_le _, Nat.le_refl _, Nat.zero_le _, fun _ => Nat.zero_le _, Nat.zero_le _, fun h => absurd h (Nat.lt_irrefl _)⟩
  here := Nat.lt_succ_self _
  op k hk := by rw [List.mem_singleton.1 hk]; exact Nat.lt_succ_self _
  kids i hi k hk := by
    have : i = 0 := Nat.lt_one_iff.1 hi
    subst this
    cases hk
  small := Nat.le_refl _
  opl := Nat.le_refl _
  kidl i hi := by
    have : i = 0 := Nat.lt_one_iff.1 hi
    subst this
    exact Nat.zero_le _
  linl i hi := by
    have : i = 0 := Nat.lt_one_iff.1 hi
    subst this
    exact Nat.zero_le _
  at_ := Nat.zero_le _
  root := rfl
  wid i hi := by
    have : i = 0 := Nat.lt_one_iff.1 hi
    subst this
    exact ⟨Nat.zero_le _, Nat.zero_le _⟩
theorem Good.init (M : Nat) : Good M St.init where
  short i hi l hl := by
    have : i = 0 := Nat.lt_one_iff.1 hi
    subst this
    cases hl
  kin i hi k hk := by
    have : i = 0 := Nat.lt_one_iff.1 hi
    subst this
    cases hk
  last i hi := by
    have : i = 0 := Nat.lt_one_iff.1 hi
    subst this
    exact Nat.zero_le _
def Lay.init (g : Nat) : Lay := ⟨g + 2, 0, fun _ => g, fun t => if t = .open_ then .slice (some ⟨g + 1, 0, none⟩) 1 1 else .slice none 0 0⟩
theorem own_nils (w : World) (B e sz : Nat) : w.ownsRow B e sz (.slice none 0 0) 0 [] := own_nil _ _ _ _
theorem RepP.init (w : World) : RepP w.heap.size (((w.alloc (.cells (cellsB docB (.slice none 0 0) (.slice none 0 0)) 43)).alloc (.cells #[.pointer (some ⟨w.heap.size, 0, none⟩)] 40)).alloc (.cells #[.slice (some ⟨w.heap.size + 1, 0, none⟩) 1 1, .int .i64 0, .pointer none, .int .i64 0] 46)) (Lay.init w.heap.size) St.init (.pointer none) := by
  have e1 := size_al w (.cells (cellsB docB (.slice none 0 0) (.slice none 0 0)) 43)
  have e2 := size_al (w.alloc (.cells (cellsB docB (.slice none 0 0) (.slice none 0 0)) 43)) (.cells #[.pointer (some ⟨w.heap.size, 0, none⟩)] 40)
  refine ⟨?_, fun i hi => ?_, fun t ht => ?_, fun i j hi hj _ => ?_, fun t u ht hu hne g hg => ?_, ?_, fun i hi => ?_⟩
  · have := blk_new ((w.alloc (.cells (cellsB docB (.slice none 0 0) (.slice none 0 0)) 43)).alloc (.cells #[.pointer (some ⟨w.heap.size, 0, none⟩)] 40)) (.cells #[.slice (some ⟨w.heap.size + 1, 0, none⟩) 1 1, .int .i64 0, .pointer none, .int .i64 0] 46)
    rw [e2, e1] at this
    exact this
  · have : i = 0 := Nat.lt_one_iff.1 hi
    subst this
    exact blk_alloc (blk_alloc (blk_new w _) _) _
  · cases t with
    | open_ =>
      have h2 := World.ownsRow_lit (base := w.heap.size) (e := 40) (size := 1) (w.alloc (.cells (cellsB docB (.slice none 0 0) (.slice none 0 0)) 43)) #[.pointer (some ⟨w.heap.size, 0, none⟩)] 1 (by rw [e1]; omega) (by decide) rfl
      rw [e1] at h2
      exact own_al h2 _
    | kid i =>
      have : i = 0 := Nat.lt_one_iff.1 ht
      subst this
      exact own_nils _ _ _ _
    | line i =>
      have : i = 0 := Nat.lt_one_iff.1 ht
      subst this
      exact own_nils _ _ _ _
  · have h1 : i = 0 := Nat.lt_one_iff.1 hi
    have h2 : j = 0 := Nat.lt_one_iff.1 hj
    rw [h1, h2]
  · by_cases h1 : t = .open_
    · subst h1
      intro e
      have h3 : (Lay.init w.heap.size).rv u = .slice none 0 0 := if_neg (Ne.symm hne)
      rw [h3] at e
      cases e
    · have h3 : (Lay.init w.heap.size).rv t = .slice none 0 0 := if_neg h1
      rw [h3] at hg
      cases hg
  · show w.heap.size ≤ w.heap.size + 2
    omega
  · exact Nat.le_refl _
end Go.Proofs.YtpimcdkhjingjaaGreatDoor.X
namespace Go.Proofs.YtpimcdkhjingjaaGreatDoor.X
open Go.RowKit Go.Proofs.YtpimcdkhjingjaaGreatDoorW.PrintWords Go.Proofs.YtpimcdkhjingjaaGreatDoor.PBlk
def St.eat (F : LeafFns) (s : St) (i : Nat) (l : List UInt8) : St := ({ s with at_ := i, cur := ⟨l, 0, 0, 0⟩ } : St).line F
def St.feed (F : LeafFns) : Nat → St → List (List UInt8) → St
  | _, s, [] => s
  | i, s, l :: t => St.feed F (i + 1) (s.eat F i l) t
def parseS (F : LeafFns) (ls : List (List UInt8)) : St := St.init.feed F 0 ls
def parseT (F : LeafFns) (ls : List (List UInt8)) : S27 := (parseS F ls).tree (parseS F ls).bs.length 0
def tot : List (List UInt8) → Nat
  | [] => 0
  | l :: t => l.length + 2 + tot t
def lns (xs : List ByteArray) : List (List UInt8) := xs.map (·.data.toList)
theorem tot_mem : ∀ (ls : List (List UInt8)) (l : List UInt8), l ∈ ls → l.length + 2 ≤ tot ls
  | [], _, h => by cases h
  | x :: t, l, h => by
    rw [tot]
    rcases List.mem_cons.1 h with rfl | h
    · omega
    · have := tot_mem t l h; omega
theorem tot_len : ∀ (ls : List (List UInt8)), 2 * ls.length ≤ tot ls
  | [] => Nat.le_refl _
  | x :: t => by have := tot_len t; rw [tot, List.length_cons]; omega
theorem touch_two (w : World) (l : List UInt8) (c i : Nat) : Touch c w (((w.alloc (.cells (cellsC ⟨l, 0, 0, 0⟩) 59)).setCell ⟨c, 3, none⟩ (.int .i64 (i : Int))).setCell ⟨c, 2, none⟩ (.pointer (some ⟨w.heap.size, 0, none⟩))) :=
  (((Touch.refl c w).alloc _).setCell 3 _).setCell 2 _
set_option maxRecDepth 100000 in
set_option maxHeartbeats 8000000 in
theorem Parse_c {F : LeafFns} (HF : LeafOk F) (HH : ∀ l, (F.heading l).2.length ≤ l.length) (A : Option Addr) (c : Nat) (xs : List ByteArray) (w : World) (hG : GL w) (hC : Kd.C Kd.string w A xs.length xs) (hlen : xs.length ≤ c) (htot : tot (lns xs) ≤ 4000000) :
    Calls Tryz.prog 14 #[.slice A xs.length c] w fun e w' => ∃ v7, e = .returned (nodeV (parseT F (lns xs)) v7) ∧ k27.R 27 w' w.heap.size (fun _ => True) v7 (parseT F (lns xs)).f7 ∧ Below w.heap.size w w' := by
  obtain ⟨ls, hls⟩ : ∃ ls, ls = lns xs := ⟨_, rfl⟩
  rw [← hls] at htot ⊢
  have hxl : xs.length = ls.length := by rw [hls]; exact (List.length_map _).symm
  have hlt2 := tot_len ls
  obtain ⟨n, hn⟩ : ∃ n, n = xs.length := ⟨_, rfl⟩
  have Hls := Lib.hid hls
  have Hn := Lib.hid (hn.trans hxl)
  have HC := Lib.hid hC
  have hnb : n ≤ 2000000 := by omega
  have Hnx := Lib.hid hn
  rw [← hn] at hlen ⊢
  have HT := Lib.hid htot
  clear hls hxl hlt2 hn hC htot
  go_enter Tryz.func14, Tryz.ntmps14
  go_upto_region 2 with fail
  obtain ⟨w1, hw1⟩ : ∃ x, x = w.alloc (.cells #[.int .i64 0, .int .i64 0, .bool false, .bool false, .string ⟨#[]⟩, .string ⟨#[]⟩, .string ⟨#[]⟩, .slice none 0 0] 27) := ⟨_, rfl⟩
  have e0 : w1.heap.size = w.heap.size + 1 := by rw [hw1]; exact size_al _ _
  have hI := RepP.init w1
  rw [e0] at hI
  have hb01 : Below w.heap.size w w1 := by rw [hw1]; exact (Below.refl _ _).alloc (Nat.le_refl _) _
  have m1 : w1.heap[w.heap.size]? = some (.cells #[.int .i64 0, .int .i64 0, .bool false, .bool false, .string ⟨#[]⟩, .string ⟨#[]⟩, .string ⟨#[]⟩, .slice none 0 0] 27 (0, 0)) := by rw [hw1]; exact blk_new _ _
  rw [← hw1]
  obtain ⟨w4, hw4⟩ : ∃ x, x = ((w1.alloc (.cells #[.int .i64 1, .int .i64 0, .int .i64 0, .slice none 0 0, .int .i64 0, .bool false, .int .u8 0, .int .i64 0, .string ⟨#[]⟩, .int .i64 0, .int .i64 0, .slice none 0 0] 43)).alloc (.cells #[.pointer (some ⟨w.heap.size + 1, 0, none⟩)] 40)).alloc (.cells #[.slice (some ⟨w.heap.size + 1 + 1, 0, none⟩) 1 1, .int .i64 0, .pointer none, .int .i64 0] 46) := ⟨_, rfl⟩
  change RepP (w.heap.size + 1) (((w1.alloc (.cells #[.int .i64 1, .int .i64 0, .int .i64 0, .slice none 0 0, .int .i64 0, .bool false, .int .u8 0, .int .i64 0, .string ⟨#[]⟩, .int .i64 0, .int .i64 0, .slice none 0 0] 43)).alloc (.cells #[.pointer (some ⟨w.heap.size + 1, 0, none⟩)] 40)).alloc (.cells #[.slice (some ⟨w.heap.size + 1 + 1, 0, none⟩) 1 1, .int .i64 0, .pointer none, .int .i64 0] 46)) _ _ _ at hI
  rw [← hw4] at hI ⊢
  have hb14 : Below (w.heap.size + 1) w1 w4 := by
    rw [hw4]
    have h1 : Below (w.heap.size + 1) w1 (w1.alloc (.cells #[.int .i64 1, .int .i64 0, .int .i64 0, .slice none 0 0, .int .i64 0, .bool false, .int .u8 0, .int .i64 0, .string ⟨#[]⟩, .int .i64 0, .int .i64 0, .slice none 0 0] 43)) := (Below.refl _ _).alloc (Nat.le_of_eq e0.symm) _
    have h2 := h1.alloc (Nat.le_trans (Nat.le_of_eq e0.symm) h1.size) (.cells #[.pointer (some ⟨w.heap.size + 1, 0, none⟩)] 40)
    exact h2.alloc (Nat.le_trans (Nat.le_of_eq e0.symm) h2.size) _
  have hGB : GB (w.heap.size + 1) w4 := ⟨w1, e0, hG.below hb01, hb14⟩
  have c1 : w4.cell? ⟨w.heap.size + 1 + 1, 0, none⟩ = some (.pointer (some ⟨w.heap.size + 1, 0, none⟩)) := by
    have e1 := size_al w1 (.cells #[.int .i64 1, .int .i64 0, .int .i64 0, .slice none 0 0, .int .i64 0, .bool false, .int .u8 0, .int .i64 0, .string ⟨#[]⟩, .int .i64 0, .int .i64 0, .slice none 0 0] 43)
    have e2 := blk_new (w1.alloc (.cells #[.int .i64 1, .int .i64 0, .int .i64 0, .slice none 0 0, .int .i64 0, .bool false, .int .u8 0, .int .i64 0, .string ⟨#[]⟩, .int .i64 0, .int .i64 0, .slice none 0 0] 43)) (.cells #[.pointer (some ⟨w.heap.size + 1, 0, none⟩)] 40)
    rw [e1, e0] at e2
    rw [hw4]
    exact (blk_cell (blk_alloc e2 _) 0).trans rfl
  have c0 : w4.cell? ⟨w.heap.size + 1 + 1 + 1, 0, none⟩ = some (.slice (some ⟨w.heap.size + 1 + 1, 0, none⟩) 1 1) := (blk_cell hI.par 0).trans rfl
  obtain ⟨pb, hpb⟩ : ∃ x, x = w.heap.size + 1 + 1 + 1 := ⟨_, rfl⟩
  obtain ⟨q, hq⟩ : ∃ x, x = w.heap.size + 1 + 1 := ⟨_, rfl⟩
  obtain ⟨g, hg⟩ : ∃ x, x = w.heap.size + 1 := ⟨_, rfl⟩
  obtain ⟨g2, hg2⟩ : ∃ x, x = w.heap.size := ⟨_, rfl⟩
  have HI : Hid (∃ L0 : Lay, L0.pb = pb ∧ L0.ad 0 = g ∧ RepP g w4 L0 St.init (.pointer none)) := ⟨Lay.init (w.heap.size + 1), hpb.symm, hg.symm, by rw [hg]; exact hI⟩
  rw [← hpb, ← hq] at c0
  rw [← hq, ← hg] at c1
  rw [← hpb, ← hq, ← hg, ← hg2]
  rw [← hg] at hGB hb14
  rw [← hg2] at m1
  have Hg := Lib.hid hg
  have Hg2 := Lib.hid hg2
  have HGB := Lib.hid hGB
  have Hb14 := Lib.hid hb14
  have Hb01 := Lib.hid hb01
  have Hm1 := Lib.hid m1
  clear hw1 hw4 hI hpb hq hg hg2 hGB hb14 hb01 m1 e0 hG
  go_wp2
  go_loopg [20, 5, 6] n (fun k v20 v5 v6 wr => ∃ (m : Nat) (t : St) (Lt : Lay) (pv : Value) (N : Nat), v20 = .int .i64 (m : Int) ∧ m + k = n ∧ Lt.pb = pb ∧ Lt.ad 0 = g ∧ RepP g wr Lt t pv ∧ Wf N t ∧ N + 6 * tot (ls.drop m) ≤ 6 * tot ls + 1 ∧ Good (tot ls + 4) t ∧ 0 < t.bs.length ∧ Below g w4 wr ∧ Hid (t.feed F m (ls.drop m) = parseS F ls))
  case atStart =>
    obtain ⟨L0, h1, h2, h3⟩ := HI.out
    exact ⟨0, St.init, L0, .pointer none, 1, rfl, by omega, h1, h2, h3, Wf.init, by show 1 + 6 * tot ls ≤ _; omega, Good.init _, Nat.lt_succ_self _, Below.refl _ _, (rfl : _ = _)⟩
  case round =>
    obtain ⟨m, t, Lt, pv, N, rfl, hmk, hpb, had, hrp, hft, hN, hgd, h0, hb, hfd⟩ := hrel
    obtain ⟨pbt, cbt, adt, rvt⟩ := Lt
    change pbt = pb at hpb
    change adt 0 = g at had
    subst hpb
    cases gk with
    | succ k =>
      have hlt : m < n := by omega
      have hlt' : (m : Int) < (n : Int) := by omega
      have hxs : m < xs.length := by rw [← Hnx.out]; exact hlt
      have hbw : Below w.heap.size w wr := Hb01.out.trans ((Hb14.out.trans hb).mono (by rw [Hg.out]; exact Nat.le_succ _))
      obtain ⟨ad, hA, hcell⟩ := Kd.at_string (Kd.C_below HC.out hbw) (m : Int) (by omega) (by omega)
      subst hA
      rw [Int.toNat_natCast] at hcell
      have hxe : rdOf ByteArray.empty xs (m : Int) = xs[m] := by
        unfold rdOf
        rw [Int.toNat_natCast, List.getD_eq_getElem?_getD, List.getElem?_eq_getElem hxs]
        rfl
      rw [hxe] at hcell
      obtain ⟨l, hl⟩ : ∃ l, l = (xs[m]).data.toList := ⟨_, rfl⟩
      have hcell' : wr.cell? (ad.add m) = some (.string (S l)) := by rw [hl]; exact hcell
      have hdr : ls.drop m = l :: ls.drop (m + 1) := by
        rw [Hls.out, hl]
        unfold lns
        rw [List.drop_eq_getElem_cons (by rw [List.length_map]; exact hxs), List.getElem_map]
      have hlm : l.length + 2 ≤ tot ls := tot_mem ls l (List.mem_of_mem_drop (i := m) (by rw [hdr]; exact List.mem_cons_self))
      clear hcell hxe hl hxs
      have htt := HT.out
      rw [hdr, tot] at hN
      have hfd' : Hid ((t.eat F m l).feed F (m + 1) (ls.drop (m + 1)) = parseS F ls) := by show _ = _; rw [← hfd.out, hdr]; rfl
      have hok : Cur.Ok ⟨l, 0, 0, 0⟩ := ⟨by show l.length ≤ _; omega, Nat.zero_le _, Nat.zero_le _, fun _ => Nat.zero_le _, Nat.zero_le _, fun h => absurd h (Nat.lt_irrefl _)⟩
      have hft1 : Wf N { t with at_ := m, cur := ⟨l, 0, 0, 0⟩ } := (hft.goAt (m := m) (by omega)).at hok
      have haf := line_after HF hft1 (M := N + 6 * (l.length + 2)) (Nat.le_refl _) (by omega)
      have hgf := line_good HF HH hft1 (hgd.same rfl) (by show l.length + 4 ≤ _; omega) (by show N + 6 * (l.length + 2) ≤ _; omega)
      have hrl := hrp.line m l
      have hbt : Below g wr (((wr.alloc (.cells (cellsC ⟨l, 0, 0, 0⟩) 59)).setCell ⟨pbt, 3, none⟩ (.int .i64 (m : Int))).setCell ⟨pbt, 2, none⟩ (.pointer (some ⟨wr.heap.size, 0, none⟩))) := Below.of_touch (touch_two _ _ _ _) (Nat.le_of_lt (Nat.lt_of_le_of_lt hrp.bp (blk_lt hrp.par))) hrp.bp
      have HL := Lib.hid (line_c HF hrl hft1 (HGB.out.below (hb.trans hbt)) (by show N + 6 * (l.length + 2) ≤ _; omega))
      have hpa := blk_alloc hrp.par (.cells (cellsC ⟨l, 0, 0, 0⟩) 59)
      have c3 : (wr.alloc (.cells (cellsC ⟨l, 0, 0, 0⟩) 59)).cell? ⟨pbt, 3, none⟩ = some (.int .i64 (t.at_ : Int)) := (blk_cell hpa 3).trans rfl
      have f3 : (wr.alloc (.cells (cellsC ⟨l, 0, 0, 0⟩) 59)).frozen? ⟨pbt, 3, none⟩ = false := blk_frozen hpa 3
      have c2 : (wr.alloc (.cells (cellsC ⟨l, 0, 0, 0⟩) 59)).cell? ⟨pbt, 2, none⟩ = some pv := (blk_cell hpa 2).trans rfl
      have f2 : (wr.alloc (.cells (cellsC ⟨l, 0, 0, 0⟩) 59)).frozen? ⟨pbt, 2, none⟩ = false := blk_frozen hpa 2
      have hw3 : IntKind.i64.wrap ((m : Int) + 1) = ((m + 1 : Nat) : Int) := by rw [IntWalk.i64_in _ (by omega)]; omega
      have hm0 : (0 : Int) ≤ (m : Int) := by omega
      have HAF := Lib.hid haf
      have HN := Lib.hid hN
      have HMK := Lib.hid hmk
      have HBT := Lib.hid hbt
      clear haf hN hmk hbt hpa hdr hlm htt hok hft1 hrl hfd hbw hft hlt
      go_wp2_with (first
        | (go_at_call 20; refine (Of_c l _).mono ?_; rintro e w5 ⟨rfl, rfl⟩)
        | (go_at_call 21; refine HL.out.mono ?_; rintro e w6 ⟨rfl, ad6, rv6, hr6, had6, hb6⟩))
      go_roundg k
      case measure => omega
      case rel => exact ⟨m + 1, t.eat F m l, ⟨pbt, wr.heap.size, ad6, rv6⟩, .pointer (some ⟨wr.heap.size, 0, none⟩), N + 6 * (l.length + 2), rfl, by have := HMK.out; omega, rfl, (had6 0 h0).trans had, hr6.bare, HAF.out.wf, by have := HN.out; omega, hgf, Nat.lt_of_lt_of_le h0 HAF.out.len, hb.trans (HBT.out.trans hb6), hfd'⟩
    | zero =>
      have hmn : m = n := by omega
      subst hmn
      have hlt' : ¬ (m : Int) < (m : Int) := by omega
      have hdr : ls.drop m = [] := by rw [List.drop_eq_nil_iff, Hn.out]; exact Nat.le_refl _
      have hps : parseS F ls = t := by rw [← hfd.out, hdr]; rfl
      have htt := HT.out
      rw [hdr, tot] at hN
      have hMN : (6 * tot ls + 1) * (tot ls + 4 + 1) ≤ 140737488355328 := by
        have h1 : (6 * tot ls + 1) * (tot ls + 4 + 1) ≤ (6 * 4000000 + 1) * (4000000 + 4 + 1) := Nat.mul_le_mul (by omega) (by omega)
        exact Nat.le_trans h1 (by decide)
      have hnd := node_c (hft.mono (M := 6 * tot ls + 1) (by omega) (by omega)) hgd hMN t.bs.length 0 wr hrp.blocks h0 (Nat.le_refl _)
      unfold NodeSaid nodeV at hnd
      change Calls _ _ #[.pointer (some ⟨adt 0, 0, none⟩)] _ _ at hnd
      rw [had] at hnd
      have htr : Hid (parseT F ls = t.tree t.bs.length 0) := by show _ = _; unfold parseT; rw [hps]
      obtain ⟨x, hx⟩ : ∃ x, x = t.tree t.bs.length 0 := ⟨_, rfl⟩
      rw [← hx] at hnd htr
      have HND := Lib.hid hnd
      have hmr := ((Hb14.out.trans hb).block g2 (by rw [Hg2.out, Hg.out]; exact Nat.lt_succ_self _)).trans Hm1.out
      have hbw : Below w.heap.size w wr := Hb01.out.trans ((Hb14.out.trans hb).mono (by rw [Hg.out]; exact Nat.le_succ _))
      clear hnd hx hps hdr hN htt hMN hmk
      go_wp2_with (first
        | (go_at_call 22; refine HND.out.mono ?_; rintro e w6 ⟨v7, rfl, hR6, hb6⟩; obtain ⟨A7, c7, e7⟩ := Kd.R_slice hR6; subst e7; have m6 := blk_below hmr hb6; have q0 : w6.cell? ⟨g2, 0, none⟩ = some (.int .i64 0) := (blk_cell m6 0).trans rfl; have r0 : w6.frozen? ⟨g2, 0, none⟩ = false := blk_frozen m6 0; have q1 : w6.cell? ⟨g2, 1, none⟩ = some (.int .i64 0) := (blk_cell m6 1).trans rfl; have r1 : w6.frozen? ⟨g2, 1, none⟩ = false := blk_frozen m6 1; have q2 : w6.cell? ⟨g2, 2, none⟩ = some (.bool false) := (blk_cell m6 2).trans rfl; have r2 : w6.frozen? ⟨g2, 2, none⟩ = false := blk_frozen m6 2; have q3 : w6.cell? ⟨g2, 3, none⟩ = some (.bool false) := (blk_cell m6 3).trans rfl; have r3 : w6.frozen? ⟨g2, 3, none⟩ = false := blk_frozen m6 3; have q4 : w6.cell? ⟨g2, 4, none⟩ = some (.string ⟨#[]⟩) := (blk_cell m6 4).trans rfl; have r4 : w6.frozen? ⟨g2, 4, none⟩ = false := blk_frozen m6 4; have q5 : w6.cell? ⟨g2, 5, none⟩ = some (.string ⟨#[]⟩) := (blk_cell m6 5).trans rfl; have r5 : w6.frozen? ⟨g2, 5, none⟩ = false := blk_frozen m6 5; have q6 : w6.cell? ⟨g2, 6, none⟩ = some (.string ⟨#[]⟩) := (blk_cell m6 6).trans rfl; have r6 : w6.frozen? ⟨g2, 6, none⟩ = false := blk_frozen m6 6; have q7 : w6.cell? ⟨g2, 7, none⟩ = some (.slice none 0 0) := (blk_cell m6 7).trans rfl; have r7 : w6.frozen? ⟨g2, 7, none⟩ = false := blk_frozen m6 7))
      have hg2' : w.heap.size ≤ g2 := Nat.le_of_eq Hg2.out.symm
      have hgw : g2 < wr.heap.size := blk_lt hmr
      have hR' : k27.R 27 w6 w.heap.size (fun k => k ≠ g2) (.slice A7 x.f7.length c7) x.f7 := Kd.R_lower (Kd.R_mono (Kd.R_bound hR6) (fun k hk => by have := hk.2.1; omega)) (by omega)
      refine bodyPost_ret (results_cell_row rfl _ _ g2 27 #[.int .i64 x.f0, .int .i64 x.f1, .bool x.f2, .bool x.f3, .string x.f4, .string x.f5, .string x.f6, .slice A7 x.f7.length c7] (0, 0) _ rfl (blk_put (blk_put (blk_put (blk_put (blk_put (blk_put (blk_put (blk_put m6 0 _ rfl) 1 _ rfl) 2 _ rfl) 3 _ rfl) 4 _ rfl) 5 _ rfl) 6 _ rfl) 7 _ rfl) Tryz.underlying27 rfl (by kernel_rfl)) rfl ?_
      refine ⟨.slice A7 x.f7.length c7, ?_, ?_, (((((((((hbw.trans (hb6.mono hbw.size)).setCell hg2' _).setCell hg2' _).setCell hg2' _).setCell hg2' _).setCell hg2' _).setCell hg2' _).setCell hg2' _).setCell hg2' _)⟩
      · rw [htr.out]; rfl
      · rw [htr.out]; exact Kd.R_mono (Kd.R_far (p := ⟨g2, 7, none⟩) (Kd.R_far (p := ⟨g2, 6, none⟩) (Kd.R_far (p := ⟨g2, 5, none⟩) (Kd.R_far (p := ⟨g2, 4, none⟩) (Kd.R_far (p := ⟨g2, 3, none⟩) (Kd.R_far (p := ⟨g2, 2, none⟩) (Kd.R_far (p := ⟨g2, 1, none⟩) (Kd.R_far (p := ⟨g2, 0, none⟩) hR' (fun _ hk => hk) _) (fun _ hk => hk) _) (fun _ hk => hk) _) (fun _ hk => hk) _) (fun _ hk => hk) _) (fun _ hk => hk) _) (fun _ hk => hk) _) (fun _ hk => hk) _) (fun _ _ => trivial)
end Go.Proofs.YtpimcdkhjingjaaGreatDoor.X
