/- Contracts, at this translation, of library functions and of two small functions that range over strings: the externs of the printed walks. -/
import Derived.Test.YtcmpmciadacapaaDoorProg
import Derived.Test.YtcmpmciadacapaaDoorShelf
import Derived.WalkKit
import Derived.WalkSmall
import Derived.WalkSpells
import Derived.Lib.OthersKept
import Derived.Lib.SlTrimSet
import Derived.Shelf.Unicode.DecodeLast
import Derived.Lib.Hide
import Derived.Outline
namespace Go.Proofs.YtcmpmciadacapaaDoor.X
open Go.RowKit

/-- The tables of unicode/utf8 lie in the world as its initialisers lay them. -/
def GL (w : World) : Prop := Lib.Utf8Tabs 1 2 w ∧ 1 < w.heap.size ∧ 2 < w.heap.size
theorem GL.below {w w' : World} (h : GL w) (hb : Below w.heap.size w w') : GL w' := by
  obtain ⟨⟨h1, h2⟩, h3, h4⟩ := h
  refine ⟨⟨fun c hc => ?_, fun i hi => ?_⟩, Nat.lt_of_lt_of_le h3 hb.size, Nat.lt_of_lt_of_le h4 hb.size⟩
  · rw [hb.cell (p := ⟨1, c, none⟩) h3]; exact h1 c hc
  · rw [hb.cell (p := ⟨2, 2 * i, none⟩) h4, hb.cell (p := ⟨2, 2 * i + 1, none⟩) h4]; exact h2 i hi

def isAscii (s : ByteArray) : Bool := s.data.toList.all fun b => decide (b.toNat < 128)
theorem ascii_at {s : ByteArray} (h : isAscii s = true) (j : Nat) (hj : j < s.size) : (s[j]'hj).toNat < 128 := by
  have := List.all_eq_true.1 h (s[j]'hj) (by show s.data[j] ∈ _; simp)
  simpa using this

theorem width_pos (s : ByteArray) (pos : Nat) (h : pos < s.size) : 1 ≤ (Utf8.decode s pos).2 := by
  by_cases ha : (s[pos]'h).toNat < 128
  · rw [decode_ascii s pos h ha]
    exact Nat.le_refl _
  · exact (decode_high s pos h (by omega)).2

/-- is the rune one of the first k bytes? -/
def among (set : ByteArray) (r : Int) (k : Nat) : Bool := (set.data.toList.take k).any fun b => decide (r = (b.toNat : Int))
theorem among_zero (set : ByteArray) (r : Int) : among set r 0 = false := by simp [among]
theorem among_succ (set : ByteArray) (r : Int) (k : Nat) (h : k < set.size) : among set r (k + 1) = (among set r k || decide (r = ((set[k]'h).toNat : Int))) := by
  unfold among
  rw [List.take_succ_eq_append_getElem (by simpa using h), List.any_append]
  simp
  rfl

theorem among_high {set : ByteArray} (ha : isAscii set = true) {r : Int} (hr : 128 ≤ r) (k : Nat) : among set r k = false := by
  unfold among
  rw [List.any_eq_false]
  intro b hb
  have h1 := List.all_eq_true.1 ha b (List.mem_of_mem_take hb)
  have h2 : b.toNat < 128 := by simpa using h1
  simp
  omega
theorem among_decode {set : ByteArray} (ha : isAscii set = true) (s : ByteArray) (pos : Nat) (h : pos < s.size) (k : Nat) :
    among set ((Utf8.decode s pos).1 : Int) k = among set ((s[pos]'h).toNat : Int) k ∧ (among set ((Utf8.decode s pos).1 : Int) k = true → (Utf8.decode s pos).2 = 1) := by
  by_cases hb : (s[pos]'h).toNat < 128
  · rw [decode_ascii s pos h hb]
    exact ⟨rfl, fun _ => rfl⟩
  · have h1 := among_high ha (r := ((Utf8.decode s pos).1 : Int)) (by have := (decode_high s pos h (by omega)).1; omega) k
    have h2 := among_high ha (r := ((s[pos]'h).toNat : Int)) (by omega) k
    rw [h1, h2]
    exact ⟨rfl, fun h => by cases h⟩
theorem extract_none (s : ByteArray) (n : Nat) (h : s.size ≤ n) : s.extract n s.size = ⟨#[]⟩ := by
  apply ByteArray.ext
  simp only [ByteArray.data_extract]
  apply Array.ext'
  simp
  exact .inr h

set_option maxRecDepth 1000000 in
set_option maxHeartbeats 2000000 in
theorem leaf_cutLeft_any (s set : ByteArray) (w : World) (ha : isAscii set = true) :
    Calls Tryd.prog 15 #[.string s, .string set] w fun e w' => (∃ i : Nat, i ≤ s.size ∧ (∀ j, (h : j < s.size) → j < i → among set ((s[j]'h).toNat : Int) set.size = true) ∧ (∀ h : i < s.size, among set ((s[i]'h).toNat : Int) set.size = false) ∧ e = .returned (.string (s.extract i s.size))) ∧ Below w.heap.size w w' := by
  go_enter Tryd.func15, Tryd.ntmps15
  go_wp2
  go_loopw [5, 6, 7, 9] (fun i c b d wr => ∃ pos : Nat, wr.heap[w.heap.size]? = some (.stringIter s pos) ∧ Below w.heap.size w wr ∧ pos ≤ s.size ∧ (∀ j, (h : j < s.size) → j < pos → among set ((s[j]'h).toNat : Int) set.size = true)) (fun _ _ _ _ w' => s.size - w'.iterPos w.heap.size)
  case atStart => exact ⟨0, World.iter_heap w s 0, (Below.refl _ _).alloc (Nat.le_refl _) _, Nat.zero_le _, fun j h hj => by omega⟩
  case round =>
    obtain ⟨pos, hit, hbw, hp, hall⟩ := hrel
    have hpos0 := iterPos_of hit
    by_cases hlt : pos < s.size
    · have hnx : ∀ ty, (Instr.next (.pointer (some ⟨w.heap.size, 0, none⟩)) true ty).run Tryd.prog wr = _ := fun ty => Lib.run_next_any_at wr w.heap.size s pos ty hit hlt
      have hwd := width_pos s pos hlt
      have hit2 := Lib.iterAt_heap wr w.heap.size s pos (pos + (Utf8.decode s pos).2) hit
      have hbw2 := Lib.below_iterAt hbw (k := w.heap.size) (Nat.le_refl _) s (pos + (Utf8.decode s pos).2)
      obtain ⟨W1, hW1⟩ : ∃ W1, W1 = wr.iterAt w.heap.size s (pos + (Utf8.decode s pos).2) := ⟨_, rfl⟩
      rw [← hW1] at hnx hit2 hbw2
      have hBlt := lt_of_block hit2
      obtain ⟨c, hc⟩ : ∃ c : Int, c = ((Utf8.decode s pos).1 : Int) := ⟨_, rfl⟩
      rw [← hc] at hnx
      have HC := Lib.hid hc
      clear hW1 hit hbw hc
      go_wp2
      go_loopw [7, 9] (fun b d wr2 => ∃ k : Nat, wr2.heap[W1.heap.size]? = some (.stringIter set k) ∧ Below W1.heap.size W1 wr2 ∧ k ≤ set.size ∧ b = .bool (among set c k)) (fun _ _ w' => set.size - w'.iterPos W1.heap.size)
      case atStart => exact ⟨0, World.iter_heap W1 set 0, (Below.refl _ _).alloc (Nat.le_refl _) _, Nat.zero_le _, by rw [among_zero]⟩
      case round =>
        obtain ⟨k, hit3, hbw3, hk, rfl⟩ := hrel
        have hpos3 := iterPos_of hit3
        by_cases hlt3 : k < set.size
        · have hnx3 : ∀ ty, (Instr.next (.pointer (some ⟨W1.heap.size, 0, none⟩)) true ty).run Tryd.prog wr = _ := fun ty => Lib.run_next_ascii_at wr W1.heap.size set k ty hit3 hlt3 (ascii_at ha k hlt3)
          have hs2 := among_succ set c k hlt3
          have hit4 := Lib.iterAt_heap wr W1.heap.size set k (k + 1) hit3
          have hbw4 := Lib.below_iterAt hbw3 (k := W1.heap.size) (Nat.le_refl _) set (k + 1)
          have hpos4 := iterPos_of hit4
          have HS := Lib.hid hs2
          clear hs2
          cases hb : among set c k
          · go_wp2
            go_roundw
            case rel => exact ⟨k + 1, hit4, hbw4, by omega, by rw [HS.out, hb, Bool.false_or]; congr 1⟩
            case measure => rw [hpos4, hpos3]; omega
          · go_wp2
            go_roundw
            case rel => exact ⟨k + 1, hit4, hbw4, by omega, by rw [HS.out, hb, Bool.true_or]⟩
            case measure => rw [hpos4, hpos3]; omega
        · have hnx3 : ∀ ty, (Instr.next (.pointer (some ⟨W1.heap.size, 0, none⟩)) true ty).run Tryd.prog wr = _ := fun ty => Lib.run_next_end_at wr W1.heap.size set k ty hit3 hlt3
          obtain rfl : k = set.size := by omega
          have hit5 : wr.heap[w.heap.size]? = some (.stringIter s (pos + (Utf8.decode s pos).2)) := by rw [hbw3.block _ hBlt]; exact hit2
          have hbw5 : Below w.heap.size w wr := hbw2.trans (hbw3.mono (by omega))
          have hpos5 := iterPos_of hit5
          cases hb : among set c set.size
          · go_wp2
            go_ret
            refine ⟨⟨pos, hp, hall, fun h => ?_, rfl⟩, hbw5⟩
            rw [← (among_decode ha s pos h set.size).1, ← HC.out]
            exact hb
          · have HB := Lib.hid hb
            clear hb
            go_wp2
            go_roundw
            case rel =>
              have hd := among_decode ha s pos hlt set.size
              have hb1 : among set ((Utf8.decode s pos).1 : Int) set.size = true := by rw [← HC.out]; exact HB.out
              refine ⟨pos + (Utf8.decode s pos).2, hit5, hbw5, ?_, ?_⟩
              · rw [hd.2 hb1]; exact hlt
              · intro j h hj
                rw [hd.2 hb1] at hj
                by_cases e : j < pos
                · exact hall j h e
                · obtain rfl : j = pos := by omega
                  rw [← hd.1]
                  exact hb1
            case measure => rw [hpos5, hpos0]; omega
    · have hnx : ∀ ty, (Instr.next (.pointer (some ⟨w.heap.size, 0, none⟩)) true ty).run Tryd.prog wr = _ := fun ty => Lib.run_next_end_at wr w.heap.size s pos ty hit hlt
      go_wp2
      go_ret
      exact ⟨⟨pos, hp, hall, fun h => absurd h hlt, by rw [extract_none s pos (by omega)]; rfl⟩, hbw⟩

theorem decodeLast_high (l : List UInt8) (hne : l ≠ []) (h : 128 ≤ (l.getD (l.length - 1) 0).toNat) : 128 ≤ (Lib.decodeLastL l).1 := by
  have hst := Lib.lastStart_lt l hne
  unfold Lib.decodeLastL
  rw [if_neg hne, if_neg (by omega)]
  simp only
  split
  · rename_i hd
    unfold Lib.decodeL at hd ⊢
    have hlt : 0 < (⟨(l.drop (Lib.lastStart l)).toArray⟩ : ByteArray).size := by rw [Lib.size_eq]; simp; omega
    have e0 : ((⟨(l.drop (Lib.lastStart l)).toArray⟩ : ByteArray)[0]'hlt) = l.getD (Lib.lastStart l) 0 := by
      show (l.drop (Lib.lastStart l)).toArray[0] = _
      simp [List.getD, List.getElem?_eq_getElem hst]
    by_cases hb : ((⟨(l.drop (Lib.lastStart l)).toArray⟩ : ByteArray)[0]'hlt).toNat < 128
    · rw [decode_ascii _ 0 hlt hb] at hd
      simp only at hd
      rw [e0, show Lib.lastStart l = l.length - 1 by omega] at hb
      omega
    · exact (decode_high _ 0 hlt (by omega)).1
  · decide

theorem decodeLast_among {set : ByteArray} (ha : isAscii set = true) (s : ByteArray) (m : Nat) (h0 : 0 < m) (hm : m ≤ s.size) (k : Nat) :
    among set ((Lib.decodeLastL (s.extract 0 m).data.toList).1 : Int) k = among set ((s[m - 1]'(by omega)).toNat : Int) k ∧ (among set ((Lib.decodeLastL (s.extract 0 m).data.toList).1 : Int) k = true → (Lib.decodeLastL (s.extract 0 m).data.toList).2 = 1) := by
  have hl : (s.extract 0 m).data.toList = s.data.toList.take m := by simp
  have hlen : (s.data.toList.take m).length = m := by rw [List.length_take]; have := Lib.size_eq s; omega
  have hne : s.data.toList.take m ≠ [] := fun h => by rw [h] at hlen; simp at hlen; omega
  have hlast : (s.data.toList.take m).getD (m - 1) 0 = s[m - 1]'(by omega) := by
    have h1 : m - 1 < s.data.toList.length := by have := Lib.size_eq s; omega
    simp only [List.getD, List.getElem?_take, if_pos (show m - 1 < m by omega), List.getElem?_eq_getElem h1, Option.getD_some]
    rfl
  rw [hl]
  by_cases hb : (s[m - 1]'(by omega)).toNat < 128
  · have : Lib.decodeLastL (s.data.toList.take m) = ((s[m - 1]'(by omega)).toNat, 1) := by
      unfold Lib.decodeLastL
      rw [if_neg hne, hlen, hlast, if_pos hb]
    rw [this]
    exact ⟨rfl, fun _ => rfl⟩
  · have h1 := decodeLast_high _ hne (by rw [hlen, hlast]; omega)
    rw [among_high ha (by omega) k, among_high ha (r := ((s[m - 1]'(by omega)).toNat : Int)) (by omega) k]
    exact ⟨rfl, fun h => by cases h⟩
set_option maxRecDepth 1000000 in
set_option maxHeartbeats 2000000 in
theorem leaf_cutRight_any (s set : ByteArray) (w : World) (hG : GL w) (hs : s.size ≤ 9223372036854775807) (ha : isAscii set = true) :
    Calls Tryd.prog 14 #[.string s, .string set] w fun e w' => (∃ m : Nat, m ≤ s.size ∧ (∀ j, (h : j < s.size) → m ≤ j → among set ((s[j]'h).toNat : Int) set.size = true) ∧ (∀ h : m - 1 < s.size, 0 < m → among set ((s[m - 1]'h).toNat : Int) set.size = false) ∧ e = .returned (.string (s.extract 0 m))) ∧ Below w.heap.size w w' := by
  go_enter Tryd.func14, Tryd.ntmps14
  go_wp2
  go_loopw [0, 5, 6, 7, 9] (fun v r n b d wr => ∃ m : Nat, v = .string (s.extract 0 m) ∧ Below w.heap.size w wr ∧ m ≤ s.size ∧ (∀ j, (h : j < s.size) → m ≤ j → among set ((s[j]'h).toNat : Int) set.size = true)) (fun v _ _ _ _ _ => match v with | .string t => t.size | _ => 0)
  case atStart => exact ⟨s.size, by rw [ByteArray.extract_zero_size], Below.refl _ _, Nat.le_refl _, fun j h hj => by omega⟩
  case round =>
    obtain ⟨m, rfl, hbw, hm, hall⟩ := hrel
    have hsz : (s.extract 0 m).size = m := by rw [ByteArray.size_extract]; omega
    by_cases h0 : 0 < m
    · have hG1 := hG.below hbw
      have HD := Lib.hid (decodeLast_among ha s m h0 hm set.size)
      obtain ⟨r, hr⟩ : ∃ r : Int, r = ((Lib.decodeLastL (s.extract 0 m).data.toList).1 : Int) := ⟨_, rfl⟩
      obtain ⟨n, hn⟩ : ∃ n : Nat, n = (Lib.decodeLastL (s.extract 0 m).data.toList).2 := ⟨_, rfl⟩
      have hD := Tryd.utf8_DecodeLastRuneInString (s.extract 0 m) wr (by omega) hG1.1
      rw [← hr, ← hn] at hD
      have HR := Lib.hid hr
      have HN := Lib.hid hn
      clear hr hn hG1
      have hs0 : (0 : Int) < (m : Int) := by omega
      go_wp2_with (go_at_call 29; refine hD.mono ?_; rintro e W1 ⟨rfl, hb1⟩)
      have hbw1 := hbw.trans (hb1.mono hbw.size)
      have hBlt := hbw1.size
      clear hD hb1 hbw
      go_loopw [7, 9] (fun b d wr2 => ∃ k : Nat, wr2.heap[W1.heap.size]? = some (.stringIter set k) ∧ Below W1.heap.size W1 wr2 ∧ k ≤ set.size ∧ b = .bool (among set r k)) (fun _ _ w' => set.size - w'.iterPos W1.heap.size)
      case atStart => exact ⟨0, World.iter_heap W1 set 0, (Below.refl _ _).alloc (Nat.le_refl _) _, Nat.zero_le _, by rw [among_zero]⟩
      case round =>
        obtain ⟨k, hit3, hbw3, hk, rfl⟩ := hrel
        have hpos3 := iterPos_of hit3
        by_cases hlt3 : k < set.size
        · have hnx3 : ∀ ty, (Instr.next (.pointer (some ⟨W1.heap.size, 0, none⟩)) true ty).run Tryd.prog wr = _ := fun ty => Lib.run_next_ascii_at wr W1.heap.size set k ty hit3 hlt3 (ascii_at ha k hlt3)
          have hs2 := among_succ set r k hlt3
          have hit4 := Lib.iterAt_heap wr W1.heap.size set k (k + 1) hit3
          have hbw4 := Lib.below_iterAt hbw3 (k := W1.heap.size) (Nat.le_refl _) set (k + 1)
          have hpos4 := iterPos_of hit4
          have HS := Lib.hid hs2
          clear hs2
          cases hb : among set r k
          · go_wp2
            go_roundw
            case rel => exact ⟨k + 1, hit4, hbw4, by omega, by rw [HS.out, hb, Bool.false_or]; congr 1⟩
            case measure => rw [hpos4, hpos3]; omega
          · go_wp2
            go_roundw
            case rel => exact ⟨k + 1, hit4, hbw4, by omega, by rw [HS.out, hb, Bool.true_or]⟩
            case measure => rw [hpos4, hpos3]; omega
        · have hnx3 : ∀ ty, (Instr.next (.pointer (some ⟨W1.heap.size, 0, none⟩)) true ty).run Tryd.prog wr = _ := fun ty => Lib.run_next_end_at wr W1.heap.size set k ty hit3 hlt3
          obtain rfl : k = set.size := by omega
          have hbw5 : Below w.heap.size w wr := hbw1.trans (hbw3.mono (by omega))
          cases hb : among set r set.size
          · go_wp2
            go_ret
            refine ⟨⟨m, hm, hall, fun h _ => ?_, rfl⟩, hbw5⟩
            rw [← HD.out.1, ← HR.out]
            exact hb
          · have HB := Lib.hid hb
            have e1 : n = 1 := by rw [HN.out]; exact HD.out.2 (by rw [← HR.out]; exact hb)
            subst e1
            clear hb
            go_wp2
            go_roundw
            case rel =>
              refine ⟨m - 1, ?_, hbw5, by omega, ?_⟩
              · congr 1; rw [ByteArray.extract_extract]; congr 1; omega
              · intro j h hj
                by_cases e : m ≤ j
                · exact hall j h e
                · obtain rfl : j = m - 1 := by omega
                  rw [← HD.out.1, ← HR.out]
                  exact HB.out
            case measure => simp only [ByteArray.size_extract]; omega
    · go_wp2
      go_ret
      exact ⟨⟨m, hm, hall, fun h hh => absurd hh h0, rfl⟩, hbw⟩
end Go.Proofs.YtcmpmciadacapaaDoor.X
