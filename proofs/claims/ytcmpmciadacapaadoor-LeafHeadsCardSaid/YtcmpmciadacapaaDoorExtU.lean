/- leaf.Under and the reference's Under, walked by hand. -/
import Derived.Test.YtcmpmciadacapaaDoorPureLeaf
import Derived.Test.YtcmpmciadacapaaDoorPLeaf3
import Derived.Lib.SlBytesConst
namespace Go.Proofs.YtcmpmciadacapaaDoor.X
open Go.RowKit Go.Proofs.YtcmpmciadacapaaDoorW.PrintWords Go.Proofs.YtcmpmciadacapaaDoor.PLeaf Go.Proofs.YtcmpmciadacapaaDoor.Pure

/-- Under: 1 behind '=', 2 behind '-', else 0. -/
def underL (l : List UInt8) : Nat :=
  if 0 < runB 61 l ∧ stripL (l.drop (runB 61 l)) = [] then 1 else if 0 < runB 45 l ∧ stripL (l.drop (runB 45 l)) = [] then 2 else 0

theorem run_c (s : ByteArray) (c : UInt8) (n : Int) (hc : n = (c.toNat : Int)) (w : World) (hs : s.size ≤ 4611686018427387904) :
    Calls Tryd.prog 17 #[.string s, .int .u8 n] w fun e w' => e = .returned (.int .i64 ((runB c s.data.toList : Nat) : Int)) ∧ Below w.heap.size w w' := by
  subst hc
  have hl : s.data.toList.length ≤ 4611686018427387904 := by rw [← Lib.size_eq]; exact hs
  exact (leaf_run.calls (s.size + 1) s (c.toNat : Int) _ w (by rw [S_eta s]; exact leaf_run_ev s.data.toList c hl _ (by rw [S_size]; omega))).mono fun e w' ⟨h1, h2⟩ => ⟨h1, h2.below⟩
theorem strip_c (s : ByteArray) (w : World) (hs : s.size ≤ 4611686018427387904) :
    Calls Tryd.prog 19 #[.string s] w fun e w' => e = .returned (.string (S (stripL s.data.toList))) ∧ Below w.heap.size w w' :=
  leaf_strip.calls s _ w (by rw [S_eta s]; exact leaf_strip_eq s.data.toList (by rw [← Lib.size_eq]; exact hs))
def underAt (l : List UInt8) (c : UInt8) : Bool := decide (0 < runB c l) && (stripL (l.drop (runB c l))).isEmpty
theorem underL_eq (l : List UInt8) : underL l = if underAt l 61 = true then 1 else if underAt l 45 = true then 2 else 0 := by
  unfold underL underAt
  simp [List.isEmpty_iff]
def sg (i : Nat) : UInt8 := if i = 0 then 61 else 45
def sgs (B : Nat) (w : World) : Prop := ∀ j, j < 2 → w.cell? ⟨B, j, none⟩ = some (.int .u8 ((sg j).toNat : Int))
theorem sgs.kept {B K : Nat} {w w' : World} (h : sgs B w) (hb : Below K w w') (hk : B < K) : sgs B w' := fun j hj => by rw [hb.cell (p := ⟨B, j, none⟩) hk]; exact h j hj
theorem sgs.new (w : World) (t : TypeId) (fr : Nat × Nat) : sgs w.heap.size (w.alloc (.cells #[.int .u8 61, .int .u8 45] t fr)) := by
  intro j hj
  have hh : (w.alloc (.cells #[.int .u8 61, .int .u8 45] t fr)).heap[w.heap.size]? = some (.cells #[.int .u8 61, .int .u8 45] t fr) := by
    show (w.heap.push _)[w.heap.size]? = _
    simp
  have h2 : j = 0 ∨ j = 1 := by omega
  rcases h2 with rfl | rfl <;> (simp only [World.cell?, hh]; rfl)
theorem underL_none (l : List UInt8) (h : ∀ j, j < 2 → underAt l (sg j) = false) : underL l = 0 := by
  rw [underL_eq, if_neg, if_neg]
  · rw [show underAt l 45 = false from h 1 (by omega)]; simp
  · rw [show underAt l 61 = false from h 0 (by omega)]; simp
theorem underL_at (l : List UInt8) (i : Nat) (hi : i < 2) (h : ∀ j, j < i → underAt l (sg j) = false) (hy : underAt l (sg i) = true) : underL l = i + 1 := by
  have h2 : i = 0 ∨ i = 1 := by omega
  rcases h2 with rfl | rfl
  · rw [underL_eq, if_pos (show underAt l 61 = true from hy)]
  · rw [underL_eq, if_neg, if_pos (show underAt l 45 = true from hy)]
    rw [show underAt l 61 = false from h 0 (by omega)]; simp

set_option maxRecDepth 1000000 in
set_option maxHeartbeats 2000000 in
theorem leaf_Under_any (s : ByteArray) (w : World) (hs : s.size ≤ 4611686018427387904) :
    Calls Tryd.prog 10 #[.string s] w fun e w' => e = .returned (.int .i64 (underL s.data.toList)) ∧ Below w.heap.size w w' := by
  have kc := fun (w : World) (C : Array Value) (n c : Nat) => Lib.run_convert_bytes_const (P := Tryd.prog) w 23 5 C n c Tryd.underlying23 Tryd.underlying5
  go_enter Tryd.func10, Tryd.ntmps10
  go_wp2
  go_loopw [3, 4, 5, 9] (fun a b c v9 wr => ∃ i : Nat, v9 = .int .i64 i ∧ i ≤ 2 ∧ w.heap.size < wr.heap.size ∧ sgs w.heap.size wr ∧ Below w.heap.size w wr ∧ Hid (∀ j, j < i → underAt s.data.toList (sg j) = false)) (fun _ _ _ i _ => 2 - (intOf i).toNat)
  case atStart => exact ⟨0, rfl, by omega, by simp, sgs.new _ _ _, (Below.refl _ _).alloc (Nat.le_refl _) _, fun j h => by omega⟩
  case round =>
    obtain ⟨i, rfl, hi, hlt, hc, hb, hno⟩ := hrel
    clear kc
    by_cases hi2 : i < 2
    · obtain ⟨n, hn⟩ : ∃ n, n = runB (sg i) s.data.toList := ⟨_, rfl⟩
      have hle := runB_le (sg i) s.data.toList
      rw [← hn, ← Lib.size_eq] at hle
      have hrun := run_c s (sg i) _ rfl wr hs
      rw [← hn] at hrun
      obtain ⟨t, ht⟩ : ∃ t, t = S (stripL (s.data.toList.drop n)) := ⟨_, rfl⟩
      have Hu : Hid (underAt s.data.toList (sg i) = (decide (0 < n) && t.toList.isEmpty)) := by rw [ht, S_toList, hn]; exact rfl
      have Ht := Lib.hid ht
      have Hc := Lib.hid hc
      have hc0 := hc i hi2
      clear hn hc ht
      obtain ⟨c, hcc⟩ : ∃ c : Int, c = ((sg i).toNat : Int) := ⟨_, rfl⟩
      rw [← hcc] at hc0 hrun
      clear hcc
      go_wp2_with (first | (go_at_call 17; refine hrun.mono ?_; rintro e w1 ⟨rfl, hb1⟩))
      · have hp : 0 < n := by assumption
        have hsz : (s.extract n s.size).size ≤ 4611686018427387904 := by rw [ByteArray.size_extract]; omega
        have hb2 := hb.trans (hb1.mono (Nat.le_of_lt hlt))
        have hlt2 := Nat.lt_of_lt_of_le hlt hb1.size
        refine (strip_c (s.extract n s.size) w1 hsz).mono ?_
        rintro e w2 ⟨rfl, hb3⟩
        have hb4 := hb2.trans (hb3.mono (Nat.le_of_lt hlt2))
        have hlt4 := Nat.lt_of_lt_of_le hlt2 hb3.size
        have hc4 := Hc.out.kept (hb1.trans (hb3.mono hb1.size)) hlt
        rw [show (s.extract n s.size).data.toList = s.data.toList.drop n from Lib.extract_to_end s n, ← Ht.out]
        clear hc0 hb1 hb2 hb3 hrun hsz
        cases hE : t.toList.isEmpty
        · have Hu2 : Hid (underAt s.data.toList (sg i) = false) := by show _ = false; rw [Hu.out, hE]; simp
          go_wp2
          go_roundw
          case rel => exact ⟨i + 1, by go_num, by omega, hlt4, hc4, hb4, fun j hj => by
            by_cases e : j < i
            · exact hno.out j e
            · obtain rfl : j = i := by omega
              exact Hu2.out⟩
          case measure => simp [intOf]; omega
        · have Hu2 : Hid (underAt s.data.toList (sg i) = true) := by show _ = true; rw [Hu.out, hE, decide_eq_true hp]; rfl
          go_wp2
          go_ret
          exact ⟨by rw [underL_at s.data.toList i hi2 hno.out Hu2.out]; rfl, hb4⟩
      · have hp : ¬ 0 < n := by assumption
        have Hu2 : Hid (underAt s.data.toList (sg i) = false) := by show _ = false; rw [Hu.out, decide_eq_false hp]; rfl
        go_roundw
        case rel => exact ⟨i + 1, by go_num, by omega, Nat.lt_of_lt_of_le hlt hb1.size, Hc.out.kept hb1 hlt, hb.trans (hb1.mono (Nat.le_of_lt hlt)), fun j hj => by
          by_cases e : j < i
          · exact hno.out j e
          · obtain rfl : j = i := by omega
            exact Hu2.out⟩
        case measure => simp [intOf]; omega
    · obtain rfl : i = 2 := by omega
      go_wp2
      go_ret
      exact ⟨by rw [underL_none s.data.toList hno.out]; rfl, hb⟩

/-! ### the reference's -/
def rightL (l : List UInt8) : List UInt8 := Lib.trimRightS l [32, 9]
def underR (l : List UInt8) : Nat :=
  match l with
  | [] => 0
  | c :: _ => if (c == 61 || c == 45) && (rightL (l.drop (runB c l))).isEmpty then (if c = 61 then 1 else 2) else 0
theorem ref_many_at (l : List UInt8) (c : UInt8) (hn : l.length ≤ 4611686018427387904) (d : Nat) : ∀ (k : Nat) (i : Nat), i ≤ l.length → l.length - i = d → d < k →
    rubricatorref18_many.l0 k (S l) (c.toNat : Int) (i : Int) = some ((i : Int) + (runB c (l.drop i) : Nat)) := by
  induction d with
  | zero =>
    intro k i h1 hd hk
    obtain ⟨k, rfl⟩ : ∃ m, k = m + 1 := ⟨k - 1, by omega⟩
    simp only [rubricatorref18_many.l0]
    rw [if_neg (by rw [S_size]; omega), List.drop_of_length_le (by omega)]
    simp [runB]
  | succ d ih =>
    intro k i h1 hd hk
    obtain ⟨k, rfl⟩ : ∃ m, k = m + 1 := ⟨k - 1, by omega⟩
    have hlt : i < l.length := by omega
    simp only [rubricatorref18_many.l0]
    rw [if_pos (by rw [S_size]; omega), if_pos (by omega), S_bt l i (by omega) (by omega)]
    have e : (l[(i : Int).toNat]'(by omega)) = l[i] := by congr 1
    rw [e, drop_cons hlt]
    by_cases hc : l[i] = c
    · rw [if_pos (byte_eq.2 hc), wrap_id (by omega) (by omega), show (i : Int) + 1 = ((i + 1 : Nat) : Int) by omega, ih k (i + 1) (by omega) (by omega) (by omega), hc, runB_cons_eq]
      congr 1
      omega
    · rw [if_neg (fun h => hc (byte_eq.1 h)), runB_cons_ne _ hc]
      simp
theorem ref_many_ev (l : List UInt8) (c : UInt8) (hn : l.length ≤ 4611686018427387904) (k : Nat) (hk : l.length < k) : rubricatorref18_many.f k (S l) (c.toNat : Int) = some ((runB c l : Nat) : Int) := by
  unfold rubricatorref18_many.f
  have := ref_many_at l c hn l.length k 0 (by omega) (by omega) hk
  simpa using this
theorem ref_blank_eq (c : UInt8) : rubricatorref18_blank.f (c.toNat : Int) = some (blankB c) := by
  unfold rubricatorref18_blank.f blankB
  by_cases h : c = 32
  · rw [h]; rfl
  · rw [if_neg (show ¬ (c.toNat : Int) = 32 from fun e => h ((byte_eq (a := c) (b := 32)).1 e)), beq_eq_false_iff_ne.2 h, Bool.false_or]
    congr 1
    by_cases h9 : c = 9
    · rw [h9]; rfl
    · rw [beq_eq_false_iff_ne.2 h9, beq_eq_false_iff_ne]
      exact fun e => h9 ((byte_eq (a := c) (b := 9)).1 e)
theorem rightL_snoc (l : List UInt8) (c : UInt8) : rightL (l ++ [c]) = if blankB c then rightL l else l ++ [c] := by
  unfold rightL Lib.trimRightS
  rw [List.reverse_append, List.reverse_singleton, List.singleton_append, List.dropWhile_cons, contains_blank]
  cases blankB c <;> simp
theorem ref_Right_at (d : Nat) : ∀ (l : List UInt8) (k : Nat), l.length = d → d < 4611686018427387904 → d < k → rubricatorref18_Right.l0 k (S l) = some (S (rightL l)) := by
  induction d with
  | zero =>
    intro l k hl _ hk
    obtain ⟨k, rfl⟩ : ∃ m, k = m + 1 := ⟨k - 1, by omega⟩
    obtain rfl : l = [] := List.eq_nil_of_length_eq_zero hl
    rfl
  | succ d ih =>
    intro l k hl h1 hk
    obtain ⟨k, rfl⟩ : ∃ m, k = m + 1 := ⟨k - 1, by omega⟩
    obtain ⟨t, c, rfl⟩ : ∃ t c, l = t ++ [c] := ⟨l.dropLast, l.getLast (by intro h; rw [h] at hl; simp at hl), (List.dropLast_concat_getLast _).symm⟩
    have ht : t.length = d := by simpa using hl
    simp only [rubricatorref18_Right.l0]
    have hsz : ((S (t ++ [c])).size : Int) = (d : Int) + 1 := by rw [S_size]; simp; omega
    rw [hsz, wrap_id (by omega) (by omega), if_pos (by omega), if_pos (by omega), if_pos (by omega), show (d : Int) + 1 - 1 = (d : Int) by omega, S_bt _ _ (by omega) (by simp; omega)]
    have e : ((t ++ [c])[(d : Int).toNat]'(by simp; omega)) = c := by
      simp only [Int.toNat_natCast]
      rw [List.getElem_append_right (by omega)]
      simp
    rw [e, ref_blank_eq]
    simp only [Option.bind_some]
    rw [rightL_snoc]
    cases blankB c
    · rfl
    · rw [if_pos rfl, if_pos rfl, if_pos (by omega), S_take]
      have e2 : (t ++ [c]).take (d : Int).toNat = t := by simp [← ht]
      rw [e2]
      exact ih t k ht (by omega) (by omega)
theorem ref_Right_ev (l : List UInt8) (hl : l.length < 4611686018427387904) (k : Nat) (hk : l.length < k) : rubricatorref18_Right.f k (S l) = some (S (rightL l)) := ref_Right_at l.length l k rfl hl hk
theorem many_c (s : ByteArray) (c : UInt8) (n : Int) (hc : n = (c.toNat : Int)) (w : World) (hs : s.size < 4611686018427387904) :
    Calls Tryd.prog 21 #[.string s, .int .u8 n] w fun e w' => e = .returned (.int .i64 ((runB c s.data.toList : Nat) : Int)) ∧ Drawn0 w w' := by
  subst hc
  have hl : s.data.toList.length ≤ 4611686018427387904 := by rw [← Lib.size_eq]; omega
  exact rubricatorref18_many.calls (s.size + 1) s (c.toNat : Int) _ w (by rw [S_eta s]; exact ref_many_ev s.data.toList c hl _ (by rw [S_size]; omega))
theorem right_c (s : ByteArray) (w : World) (hs : s.size < 4611686018427387904) :
    Calls Tryd.prog 24 #[.string s] w fun e w' => e = .returned (.string (S (rightL s.data.toList))) ∧ Drawn0 w w' :=
  rubricatorref18_Right.calls (s.size + 1) s _ w (by rw [S_eta s]; exact ref_Right_ev s.data.toList (by rw [← Lib.size_eq]; exact hs) _ (by rw [S_size]; omega))

set_option maxRecDepth 1000000 in
set_option maxHeartbeats 2000000 in
theorem ref_Under_any (s : ByteArray) (w : World) (hs : s.size < 4611686018427387904) :
    Calls Tryd.prog 11 #[.string s] w fun e w' => e = .returned (.int .i64 (underR s.data.toList)) ∧ Drawn0 w w' := by
  by_cases h0 : 0 < s.size
  · obtain ⟨c, t, hl⟩ : ∃ c t, s.data.toList = c :: t := by
      match hh : s.data.toList with
      | [] => have h1 := Lib.size_eq s; rw [hh] at h1; rw [h1] at h0; exact absurd h0 (by decide)
      | c :: t => exact ⟨c, t, rfl⟩
    have hne : s.toList.isEmpty = false := by rw [S_eta s, S_toList, hl]; rfl
    have hc0 : s[0]'h0 = c := by
      have h1 : s.data.toList[0]? = some c := by rw [hl]; rfl
      have h2 : s.data.toList[0]? = some (s[0]'h0) := by
        rw [List.getElem?_eq_getElem (by have := Lib.size_eq s; omega)]; rfl
      rw [h1] at h2; exact (Option.some.inj h2).symm
    have Hl := Lib.hid hl
    clear hl
    obtain ⟨n, hn⟩ : ∃ n, n = runB c s.data.toList := ⟨_, rfl⟩
    have hle := runB_le c s.data.toList
    rw [← hn, ← Lib.size_eq] at hle
    have hmany := many_c s c _ rfl w hs
    rw [← hn] at hmany
    have Hn := Lib.hid hn
    clear hn
    obtain ⟨x, hx⟩ : ∃ x, x = S (rightL (s.data.toList.drop n)) := ⟨_, rfl⟩
    have Hx := Lib.hid hx
    clear hx
    have hsz : (s.extract n s.size).size < 4611686018427387904 := by rw [ByteArray.size_extract]; omega
    have hR := fun w => right_c (s.extract n s.size) w hsz
    rw [show (s.extract n s.size).data.toList = s.data.toList.drop n from Lib.extract_to_end s n, ← Hx.out] at hR
    have HR := Lib.hid hR
    clear hR
    have h61 : ((c.toNat : Int) == 61) = (c == 61) := by
      rw [Bool.eq_iff_iff, beq_iff_eq, beq_iff_eq]; exact byte_eq (a := c) (b := 61)
    have h45 : ((c.toNat : Int) == 45) = (c == 45) := by
      rw [Bool.eq_iff_iff, beq_iff_eq, beq_iff_eq]; exact byte_eq (a := c) (b := 45)
    have n61 : ((c.toNat : Int) != 61) = !(c == 61) := by rw [← h61]; rfl
    have n45 : ((c.toNat : Int) != 45) = !(c == 45) := by rw [← h45]; rfl
    have Hval : Hid (underR s.data.toList = if (c == 61 || c == 45) && x.toList.isEmpty then (if (c == 61) = true then 1 else 2) else 0) := by
      show _ = _
      rw [Hx.out, S_toList, Hn.out]
      unfold underR
      rw [Hl.out]
      simp only [beq_iff_eq]
    cases b61 : (c == 61) <;> cases b45 : (c == 45) <;> cases hE : x.toList.isEmpty
    all_goals
      rw [b61, b45, hE] at Hval
      rw [b61] at h61 n61
      rw [b45] at h45 n45
      simp only [Bool.not_true, Bool.not_false] at n61 n45
      simp only [Bool.or_true, Bool.or_false, Bool.and_true, Bool.and_false, if_true, if_false, Bool.false_eq_true] at Hval
      go_enter Tryd.func11, Tryd.ntmps11
      go_wp2_with (first | (go_at_call 21; refine hmany.mono ?_; rintro e w1 ⟨rfl, ⟨m1, rfl⟩⟩) | (go_at_call 24; refine (HR.out _).mono ?_; rintro e w1 ⟨rfl, ⟨m2, rfl⟩⟩))
      go_ret
      exact ⟨by rw [Hval.out]; rfl, by repeat (first | exact Drawn0.refl _ | apply Drawn0.step)⟩
  · have hne : s.toList.isEmpty = true := by
      rw [S_eta s, S_toList]
      have : s.data.toList = [] := List.eq_nil_of_length_eq_zero (by rw [← Lib.size_eq]; omega)
      rw [this]; rfl
    have hl : s.data.toList = [] := List.eq_nil_of_length_eq_zero (by rw [← Lib.size_eq]; omega)
    have Hl := Lib.hid hl
    clear hl
    go_enter Tryd.func11, Tryd.ntmps11
    go_wp2
    go_ret
    exact ⟨by rw [Hl.out]; rfl, Drawn0.refl _⟩

def leaf_Under.f (a0 : ByteArray) : Option Int := if a0.size ≤ 4611686018427387904 then some ((underL a0.data.toList : Nat) : Int) else none
theorem leaf_Under.calls (a0 : ByteArray) (r : Int) (w : World) (h : leaf_Under.f a0 = some r) : Calls Tryd.prog 10 #[.string a0] w fun e w' => e = .returned (.int .i64 r) ∧ Below w.heap.size w w' := by
  unfold leaf_Under.f at h
  split at h
  · rename_i hk
    rw [← Option.some.inj h]
    exact leaf_Under_any a0 w hk
  · cases h
def rubricatorref18_Under.f (a0 : ByteArray) : Option Int := if a0.size < 4611686018427387904 then some ((underR a0.data.toList : Nat) : Int) else none
theorem rubricatorref18_Under.calls (a0 : ByteArray) (r : Int) (w : World) (h : rubricatorref18_Under.f a0 = some r) : Calls Tryd.prog 11 #[.string a0] w fun e w' => e = .returned (.int .i64 r) ∧ Drawn0 w w' := by
  unfold rubricatorref18_Under.f at h
  split at h
  · rename_i hk
    rw [← Option.some.inj h]
    exact ref_Under_any a0 w hk
  · cases h
end Go.Proofs.YtcmpmciadacapaaDoor.X
