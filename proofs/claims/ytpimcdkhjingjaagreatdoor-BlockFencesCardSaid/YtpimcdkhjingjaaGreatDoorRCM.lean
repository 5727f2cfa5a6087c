/- A merged text (wip/mkclaim.py). -/
import Derived.Test.YtpimcdkhjingjaaGreatDoorRCB
import Derived.Lib.ConvBytes
import Derived.Lib.Walk
import Derived.Laws.Strings3
import Derived.Laws.Closers25
import Derived.Laws.Closers25b
import Derived.BigCall
import Derived.BigGuard
set_option linter.unusedVariables false
set_option linter.unusedSimpArgs false
set_option linter.unusedSectionVars false
namespace Go.Proofs.YtpimcdkhjingjaaGreatDoor.X
open Go.RowKit Go.Proofs.YtpimcdkhjingjaaGreatDoorW.PrintWords
set_option maxRecDepth 1000000 in
set_option maxHeartbeats 2000000 in
theorem ent_cutLeft_any (s set : ByteArray) (w : World) (ha : isAscii set = true) :
    Calls Tryz.prog 158 #[.string s, .string set] w fun e w' => (∃ i : Nat, i ≤ s.size ∧ (∀ j, (h : j < s.size) → j < i → among set ((s[j]'h).toNat : Int) set.size = true) ∧ (∀ h : i < s.size, among set ((s[i]'h).toNat : Int) set.size = false) ∧ e = .returned (.string (s.extract i s.size))) ∧ Below w.heap.size w w' := by
  go_enter Tryz.func158, Tryz.ntmps158
  go_wp2
  go_loopw [5, 6, 7, 9] (fun i c b d wr => ∃ pos : Nat, wr.heap[w.heap.size]? = some (.stringIter s pos) ∧ Below w.heap.size w wr ∧ pos ≤ s.size ∧ (∀ j, (h : j < s.size) → j < pos → among set ((s[j]'h).toNat : Int) set.size = true)) (fun _ _ _ _ w' => s.size - w'.iterPos w.heap.size)
  case atStart => exact ⟨0, World.iter_heap w s 0, (Below.refl _ _).alloc (Nat.le_refl _) _, Nat.zero_le _, fun j h hj => by omega⟩
  case round =>
    obtain ⟨pos, hit, hbw, hp, hall⟩ := hrel
    have hpos0 := iterPos_of hit
    by_cases hlt : pos < s.size
    · have hnx : ∀ ty, (Instr.next (.pointer (some ⟨w.heap.size, 0, none⟩)) true ty).run Tryz.prog wr = _ := fun ty => Lib.run_next_any_at wr w.heap.size s pos ty hit hlt
      have hwd := width_pos s pos hlt
      have hit2 := Lib.iterAt_heap wr w.heap.size s pos (pos + (Utf8.decode s pos).2) hit
      have hbw2 := Lib.below_iterAt hbw (k := w.heap.size) (Nat.le_refl _) s (pos + (Utf8.decode s pos).2)
      obtain ⟨W1, hW1⟩ : ∃ W1, W1 = wr.iterAt w.heap.size s (pos + (Utf8.decode s pos).2) := ⟨_, rfl⟩
      rw [← hW1] at hnx hit2 hbw2
      have hBlt := lt_of_block hit2
      obtain ⟨c, hc⟩ : ∃ c : Int, c = ((Utf8.decode s pos).1 : Int) := ⟨_, rfl⟩
      rw [← hc] at hnx
      have HC := Lib.hid hc
      clear hW1 hit hbw hc
      go_wp2
      go_loopw [7, 9] (fun b d wr2 => ∃ k : Nat, wr2.heap[W1.heap.size]? = some (.stringIter set k) ∧ Below W1.heap.size W1 wr2 ∧ k ≤ set.size ∧ b = .bool (among set c k)) (fun _ _ w' => set.size - w'.iterPos W1.heap.size)
      case atStart => exact ⟨0, World.iter_heap W1 set 0, (Below.refl _ _).alloc (Nat.le_refl _) _, Nat.zero_le _, by rw [among_zero]⟩
      case round =>
        obtain ⟨k, hit3, hbw3, hk, rfl⟩ := hrel
        have hpos3 := iterPos_of hit3
        by_cases hlt3 : k < set.size
        · have hnx3 : ∀ ty, (Instr.next (.pointer (some ⟨W1.heap.size, 0, none⟩)) true ty).run Tryz.prog wr = _ := fun ty => Lib.run_next_ascii_at wr W1.heap.size set k ty hit3 hlt3 (ascii_at ha k hlt3)
          have hs2 := among_succ set c k hlt3
          have hit4 := Lib.iterAt_heap wr W1.heap.size set k (k + 1) hit3
          have hbw4 := Lib.below_iterAt hbw3 (k := W1.heap.size) (Nat.le_refl _) set (k + 1)
          have hpos4 := iterPos_of hit4
          have HS := Lib.hid hs2
          clear hs2
          cases hb : among set c k
          · go_wp2
            go_roundw
            case rel => exact ⟨k + 1, hit4, hbw4, by omega, by rw [HS.out, hb, Bool.false_or]; congr 1⟩
            case measure => rw [hpos4, hpos3]; omega
          · go_wp2
            go_roundw
            case rel => exact ⟨k + 1, hit4, hbw4, by omega, by rw [HS.out, hb, Bool.true_or]⟩
            case measure => rw [hpos4, hpos3]; omega
        · have hnx3 : ∀ ty, (Instr.next (.pointer (some ⟨W1.heap.size, 0, none⟩)) true ty).run Tryz.prog wr = _ := fun ty => Lib.run_next_end_at wr W1.heap.size set k ty hit3 hlt3
          obtain rfl : k = set.size := by omega
          have hit5 : wr.heap[w.heap.size]? = some (.stringIter s (pos + (Utf8.decode s pos).2)) := by rw [hbw3.block _ hBlt]; exact hit2
          have hbw5 : Below w.heap.size w wr := hbw2.trans (hbw3.mono (by omega))
          have hpos5 := iterPos_of hit5
          cases hb : among set c set.size
          · go_wp2
            go_ret
            refine ⟨⟨pos, hp, hall, fun h => ?_, rfl⟩, hbw5⟩
            rw [← (among_decode ha s pos h set.size).1, ← HC.out]
            exact hb
          · have HB := Lib.hid hb
            clear hb
            go_wp2
            go_roundw
            case rel =>
              have hd := among_decode ha s pos hlt set.size
              have hb1 : among set ((Utf8.decode s pos).1 : Int) set.size = true := by rw [← HC.out]; exact HB.out
              refine ⟨pos + (Utf8.decode s pos).2, hit5, hbw5, ?_, ?_⟩
              · rw [hd.2 hb1]; exact hlt
              · intro j h hj
                rw [hd.2 hb1] at hj
                by_cases e : j < pos
                · exact hall j h e
                · obtain rfl : j = pos := by omega
                  rw [← hd.1]
                  exact hb1
            case measure => rw [hpos5, hpos0]; omega
    · have hnx : ∀ ty, (Instr.next (.pointer (some ⟨w.heap.size, 0, none⟩)) true ty).run Tryz.prog wr = _ := fun ty => Lib.run_next_end_at wr w.heap.size s pos ty hit hlt
      go_wp2
      go_ret
      exact ⟨⟨pos, hp, hall, fun h => absurd h hlt, by rw [extract_none s pos (by omega)]; rfl⟩, hbw⟩
set_option maxRecDepth 1000000 in
set_option maxHeartbeats 2000000 in
theorem ent_cutRight_any (s set : ByteArray) (w : World) (hG : GL w) (hs : s.size ≤ 9223372036854775807) (ha : isAscii set = true) :
    Calls Tryz.prog 157 #[.string s, .string set] w fun e w' => (∃ m : Nat, m ≤ s.size ∧ (∀ j, (h : j < s.size) → m ≤ j → among set ((s[j]'h).toNat : Int) set.size = true) ∧ (∀ h : m - 1 < s.size, 0 < m → among set ((s[m - 1]'h).toNat : Int) set.size = false) ∧ e = .returned (.string (s.extract 0 m))) ∧ Below w.heap.size w w' := by
  go_enter Tryz.func157, Tryz.ntmps157
  go_wp2
  go_loopw [0, 5, 6, 7, 9] (fun v r n b d wr => ∃ m : Nat, v = .string (s.extract 0 m) ∧ Below w.heap.size w wr ∧ m ≤ s.size ∧ (∀ j, (h : j < s.size) → m ≤ j → among set ((s[j]'h).toNat : Int) set.size = true)) (fun v _ _ _ _ _ => match v with | .string t => t.size | _ => 0)
  case atStart => exact ⟨s.size, by rw [ByteArray.extract_zero_size], Below.refl _ _, Nat.le_refl _, fun j h hj => by omega⟩
  case round =>
    obtain ⟨m, rfl, hbw, hm, hall⟩ := hrel
    have hsz : (s.extract 0 m).size = m := by rw [ByteArray.size_extract]; omega
    by_cases h0 : 0 < m
    · have hG1 := hG.below hbw
      have HD := Lib.hid (decodeLast_among ha s m h0 hm set.size)
      obtain ⟨r, hr⟩ : ∃ r : Int, r = ((Lib.decodeLastL (s.extract 0 m).data.toList).1 : Int) := ⟨_, rfl⟩
      obtain ⟨n, hn⟩ : ∃ n : Nat, n = (Lib.decodeLastL (s.extract 0 m).data.toList).2 := ⟨_, rfl⟩
      have hD := Tryz.utf8_DecodeLastRuneInString (s.extract 0 m) wr (by omega) hG1.1
      rw [← hr, ← hn] at hD
      have HR := Lib.hid hr
      have HN := Lib.hid hn
      clear hr hn hG1
      have hs0 : (0 : Int) < (m : Int) := by omega
      go_wp2_with (go_at_call 96; refine hD.mono ?_; rintro e W1 ⟨rfl, hb1⟩)
      have hbw1 := hbw.trans (hb1.mono hbw.size)
      have hBlt := hbw1.size
      clear hD hb1 hbw
      go_loopw [7, 9] (fun b d wr2 => ∃ k : Nat, wr2.heap[W1.heap.size]? = some (.stringIter set k) ∧ Below W1.heap.size W1 wr2 ∧ k ≤ set.size ∧ b = .bool (among set r k)) (fun _ _ w' => set.size - w'.iterPos W1.heap.size)
      case atStart => exact ⟨0, World.iter_heap W1 set 0, (Below.refl _ _).alloc (Nat.le_refl _) _, Nat.zero_le _, by rw [among_zero]⟩
      case round =>
        obtain ⟨k, hit3, hbw3, hk, rfl⟩ := hrel
        have hpos3 := iterPos_of hit3
        by_cases hlt3 : k < set.size
        · have hnx3 : ∀ ty, (Instr.next (.pointer (some ⟨W1.heap.size, 0, none⟩)) true ty).run Tryz.prog wr = _ := fun ty => Lib.run_next_ascii_at wr W1.heap.size set k ty hit3 hlt3 (ascii_at ha k hlt3)
          have hs2 := among_succ set r k hlt3
          have hit4 := Lib.iterAt_heap wr W1.heap.size set k (k + 1) hit3
          have hbw4 := Lib.below_iterAt hbw3 (k := W1.heap.size) (Nat.le_refl _) set (k + 1)
          have hpos4 := iterPos_of hit4
          have HS := Lib.hid hs2
          clear hs2
          cases hb : among set r k
          · go_wp2
            go_roundw
            case rel => exact ⟨k + 1, hit4, hbw4, by omega, by rw [HS.out, hb, Bool.false_or]; congr 1⟩
            case measure => rw [hpos4, hpos3]; omega
          · go_wp2
            go_roundw
            case rel => exact ⟨k + 1, hit4, hbw4, by omega, by rw [HS.out, hb, Bool.true_or]⟩
            case measure => rw [hpos4, hpos3]; omega
        · have hnx3 : ∀ ty, (Instr.next (.pointer (some ⟨W1.heap.size, 0, none⟩)) true ty).run Tryz.prog wr = _ := fun ty => Lib.run_next_end_at wr W1.heap.size set k ty hit3 hlt3
          obtain rfl : k = set.size := by omega
          have hbw5 : Below w.heap.size w wr := hbw1.trans (hbw3.mono (by omega))
          cases hb : among set r set.size
          · go_wp2
            go_ret
            refine ⟨⟨m, hm, hall, fun h _ => ?_, rfl⟩, hbw5⟩
            rw [← HD.out.1, ← HR.out]
            exact hb
          · have HB := Lib.hid hb
            have e1 : n = 1 := by rw [HN.out]; exact HD.out.2 (by rw [← HR.out]; exact hb)
            subst e1
            clear hb
            go_wp2
            go_roundw
            case rel =>
              refine ⟨m - 1, ?_, hbw5, by omega, ?_⟩
              · congr 1; rw [ByteArray.extract_extract]; congr 1; omega
              · intro j h hj
                by_cases e : m ≤ j
                · exact hall j h e
                · obtain rfl : j = m - 1 := by omega
                  rw [← HD.out.1, ← HR.out]
                  exact HB.out
            case measure => simp only [ByteArray.size_extract]; omega
    · go_wp2
      go_ret
      exact ⟨⟨m, hm, hall, fun h hh => absurd hh h0, rfl⟩, hbw⟩
def ent_cutLeft.f (a0 a1 : ByteArray) : Option ByteArray := if isAscii a1 = true then some ⟨(Lib.trimLeftS a0.data.toList a1.data.toList).toArray⟩ else none
theorem ent_cutLeft.calls (a0 a1 r : ByteArray) (w : World) (h : ent_cutLeft.f a0 a1 = some r) : Calls Tryz.prog 158 #[.string a0, .string a1] w fun e w' => e = .returned (.string r) ∧ Below w.heap.size w w' := by
  unfold ent_cutLeft.f at h
  split at h
  · rename_i hk
    rw [← Option.some.inj h]
    refine (ent_cutLeft_any a0 a1 w hk).mono ?_
    rintro e w' ⟨⟨i, hi, h1, h2, rfl⟩, hb⟩
    refine ⟨?_, hb⟩
    rw [Lib.trimLeftS_drop a0.data.toList a1.data.toList i (by have := Lib.size_eq a0; omega) ?_ ?_]
    · rw [← Lib.extract_to_end, Lib.mk_data]
    · intro j b hj hb
      obtain ⟨hlt, rfl⟩ := List.getElem?_eq_some_iff.1 hb
      have hlt' : j < a0.size := by have := Lib.size_eq a0; omega
      rw [← among_contains]
      exact h1 j hlt' hj
    · intro b hb
      obtain ⟨hlt, rfl⟩ := List.getElem?_eq_some_iff.1 hb
      have hlt' : i < a0.size := by have := Lib.size_eq a0; omega
      rw [← among_contains]
      exact h2 hlt'
  · cases h
def ent_cutRight.f (a0 a1 : ByteArray) : Option ByteArray := if trimOk a0 a1 = true then some ⟨(Lib.trimRightS a0.data.toList a1.data.toList).toArray⟩ else none
theorem ent_cutRight.calls (a0 a1 r : ByteArray) (w : World) (hG : GL w) (h : ent_cutRight.f a0 a1 = some r) : Calls Tryz.prog 157 #[.string a0, .string a1] w fun e w' => e = .returned (.string r) ∧ Below w.heap.size w w' := by
  unfold ent_cutRight.f at h
  split at h
  · rename_i hk
    rw [← Option.some.inj h]
    refine (ent_cutRight_any a0 a1 w hG (trimOk_1 hk) (trimOk_3 hk)).mono ?_
    rintro e w' ⟨⟨i, hi, h1, h2, rfl⟩, hb⟩
    refine ⟨?_, hb⟩
    rw [Lib.trimRightS_take a0.data.toList a1.data.toList i (by have := Lib.size_eq a0; omega) ?_ ?_]
    · congr 2
      apply ByteArray.ext
      apply Array.ext'
      simp
    · intro j b hj hb
      obtain ⟨hlt, rfl⟩ := List.getElem?_eq_some_iff.1 hb
      have hlt' : j < a0.size := by have := Lib.size_eq a0; omega
      rw [← among_contains]
      exact h1 j hlt' hj
    · intro b h0 hb
      obtain ⟨hlt, rfl⟩ := List.getElem?_eq_some_iff.1 hb
      have hlt' : i - 1 < a0.size := by have := Lib.size_eq a0; omega
      rw [← among_contains]
      exact h2 hlt' h0
  · cases h
end Go.Proofs.YtpimcdkhjingjaaGreatDoor.X
namespace Go.Proofs.YtpimcdkhjingjaaGreatDoor.X
open Go.Shelf Go.RowKit Go.Proofs.YtpimcdkhjingjaaGreatDoorW.PrintWords
def dv (c : UInt8) : Nat := if c.toNat ≤ 57 then c.toNat - 48 else if c.toNat ≤ 70 then c.toNat - 55 else c.toNat - 87
def okD (b : Nat) (c : UInt8) : Bool := (decide (48 ≤ c.toNat) && decide (c.toNat ≤ 57)) || (b == 16 && ((decide (65 ≤ c.toNat) && decide (c.toNat ≤ 70)) || (decide (97 ≤ c.toNat) && decide (c.toNat ≤ 102))))
def numOf (b : Nat) : Nat → List UInt8 → Nat
  | a, [] => a
  | a, c :: t => numOf b (a * b + dv c) t
theorem okD_cases {b : Nat} {c : UInt8} (h : okD b c = true) : (48 ≤ c.toNat ∧ c.toNat ≤ 57 ∧ dv c = c.toNat - 48) ∨ (b = 16 ∧ ∃ lw : Int, bits .or .u8 (c.toNat : Int) 32 = lw ∧ 97 ≤ lw ∧ lw ≤ 102 ∧ (dv c : Int) = lw - 87 ∧ 65 ≤ c.toNat) := by
  unfold okD at h
  rw [Bool.or_eq_true] at h
  rcases h with h | h
  · simp only [Bool.and_eq_true, decide_eq_true_eq] at h
    exact .inl ⟨h.1, h.2, by unfold dv; rw [if_pos h.2]⟩
  · simp only [Bool.and_eq_true, Bool.or_eq_true, decide_eq_true_eq, beq_iff_eq] at h
    obtain ⟨hb, hc⟩ := h
    refine .inr ⟨hb, ?_⟩
    have h12 : c.toNat = 65 ∨ c.toNat = 66 ∨ c.toNat = 67 ∨ c.toNat = 68 ∨ c.toNat = 69 ∨ c.toNat = 70 ∨ c.toNat = 97 ∨ c.toNat = 98 ∨ c.toNat = 99 ∨ c.toNat = 100 ∨ c.toNat = 101 ∨ c.toNat = 102 := by omega
    unfold dv
    rcases h12 with e | e | e | e | e | e | e | e | e | e | e | e <;> rw [e] <;> exact ⟨_, rfl, by decide, by decide, by decide, by decide⟩
theorem dv_lt {b : Nat} {c : UInt8} (hb : b = 10 ∨ b = 16) (h : okD b c = true) : dv c < b := by
  rcases okD_cases h with ⟨h1, h2, h3⟩ | ⟨h1, lw, h2, h3, h4, h5, h6⟩
  · omega
  · omega
set_option maxHeartbeats 32000000 in
set_option maxRecDepth 100000 in
theorem puint10 (t : ByteArray) (hne : t.size ≠ 0) (hmax : t.size ≤ 7) (hd : ∀ c ∈ t.data.toList, okD 10 c = true) (w : World) :
    Calls Tryz.prog 164 #[.string t, .int .i64 10, .int .i64 32] w fun e w' => e = .returned (.tuple #[.int .u64 (numOf 10 0 t.data.toList : Int), .nilIface]) ∧ numOf 10 0 t.data.toList < 10000000 ∧ w' = Lib.bytesWorld w 5 t := by
  have hemp : t.toList.isEmpty = false := by
    rw [← decide_eq_emptyBytes]
    exact decide_eq_false (fun h => hne (by rw [h]; rfl))
  have hcv := Lib.run_convert_string_bytes (P := Tryz.prog) w 9 91 5 t (u := .string) Tryz.underlying9 Tryz.underlying91 Tryz.underlying5
  have hB : ∀ j, j < t.size → (Lib.bytesWorld w 5 t).cell? ⟨w.heap.size, j, none⟩ = some (.int .u8 (t.data.toList.getD j 0).toNat) := fun j hj => Lib.bytesWorld_cell w 5 t j hj
  obtain ⟨W1, hW1⟩ : ∃ W1, W1 = Lib.bytesWorld w 5 t := ⟨_, rfl⟩
  rw [← hW1] at hcv hB ⊢
  clear hW1
  obtain ⟨bs, hL⟩ : ∃ bs, bs = t.data.toList := ⟨_, rfl⟩
  have hLn : bs.length = t.size := by rw [hL, Lib.size_eq]
  rw [← hL] at hB hd ⊢
  clear hL
  go_enter Tryz.func164, Tryz.ntmps164
  go_wp2
  go_loop [12, 13, 101] (fun vu vn vi => ∃ (k acc : Nat) (a : Int), vu = .bool false ∧ vn = .int .u64 a ∧ vi = .int .i64 k ∧ k ≤ t.size ∧ Hid (a = (acc : Int) ∧ acc < 10 ^ k ∧ numOf 10 0 bs = numOf 10 acc (bs.drop k)))
    (fun _ _ vi => t.size - (intOf vi).toNat)
  case atStart => exact ⟨0, 0, 0, rfl, rfl, rfl, by omega, rfl, by decide, rfl⟩
  case round =>
    obtain ⟨k, acc, a, rfl, rfl, rfl, hk, hh⟩ := hrel
    obtain ⟨ha, hacc, hdec⟩ := hh.out
    clear hh
    by_cases hkn : k < t.size
    · have hc := hB k hkn
      have hdrop : bs.drop k = bs[k]'(by omega) :: bs.drop (k + 1) := List.drop_eq_getElem_cons (by omega)
      have hget : bs.getD k 0 = bs[k]'(by omega) := by simp [List.getD, List.getElem?_eq_getElem (show k < bs.length by omega)]
      have hok := hd _ (List.getElem_mem (show k < bs.length by omega))
      rw [hdrop] at hdec
      rw [hget] at hc
      generalize bs[k]'(by omega) = c at hc hdec hok
      have hc256 : c.toNat < 256 := c.toNat_lt
      have hdl := dv_lt (b := 10) (by decide) hok
      have hpow : acc * 10 + dv c < 10 ^ (k + 1) := by rw [Nat.pow_succ]; omega
      have hpm : 10 ^ (k + 1) ≤ 10000000 := Nat.le_trans (Nat.pow_le_pow_right (by decide) (by omega : k + 1 ≤ 7)) (by decide)
      have hF : numOf 10 acc (c :: bs.drop (k + 1)) = numOf 10 (acc * 10 + dv c) (bs.drop (k + 1)) := rfl
      have hsm : acc * 10 + dv c < 10000000 := Nat.lt_of_lt_of_le hpow hpm
      clear hB hdrop hget hacc hpm
      rcases okD_cases hok with ⟨hd0, hd1, hd2⟩ | ⟨hbb, lw, hl1, hl2, hl3, hl4, hl5⟩
      · have HN : Hid (a * 10 + ((c.toNat : Int) - 48) = ((acc * 10 + dv c : Nat) : Int) ∧ acc * 10 + dv c < 10 ^ (k + 1) ∧ numOf 10 0 bs = numOf 10 (acc * 10 + dv c) (bs.drop (k + 1))) := Lib.hid ⟨by omega, hpow, hdec.trans hF⟩
        have i0 : 0 ≤ a := by omega
        have i1 : a < 10000000 := by omega
        have i2 : a * 10 + ((c.toNat : Int) - 48) < 10000000 := by omega
        have i3 : (c.toNat : Int) - 48 < 10 := by omega
        have i4 : ¬ 4294967295 < a * 10 + ((c.toNat : Int) - 48) := by omega
        clear hpow hdec hF hsm ha hok hdl hd2
        go_wp2
        refine ⟨⟨k + 1, acc * 10 + dv c, a * 10 + ((c.toNat : Int) - 48), rfl, (by first | rfl | (congr 1; omega)), (by first | rfl | (congr 1; omega)), by omega, HN⟩, by simp [intOf]; omega⟩
      · omega
    · have hkk : k = t.size := by omega
      subst hkk
      have hF : numOf 10 acc (bs.drop t.size) = acc := by rw [List.drop_eq_nil_of_le (by omega)]; rfl
      rw [hF] at hdec
      have hlt : numOf 10 0 bs < 10000000 := by rw [hdec]; exact Nat.lt_of_lt_of_le hacc (Nat.le_trans (Nat.pow_le_pow_right (by decide) hmax) (by decide))
      subst ha
      have HD := Lib.hid hdec
      have HL := Lib.hid hlt
      clear hacc hF hdec hlt
      go_wp2
      go_ret2
      exact ⟨by rw [HD.out]; rfl, HL.out, rfl⟩
set_option maxHeartbeats 32000000 in
set_option maxRecDepth 100000 in
theorem puint16 (t : ByteArray) (hne : t.size ≠ 0) (hmax : t.size ≤ 6) (hd : ∀ c ∈ t.data.toList, okD 16 c = true) (w : World) :
    Calls Tryz.prog 164 #[.string t, .int .i64 16, .int .i64 32] w fun e w' => e = .returned (.tuple #[.int .u64 (numOf 16 0 t.data.toList : Int), .nilIface]) ∧ numOf 16 0 t.data.toList < 16777216 ∧ w' = Lib.bytesWorld w 5 t := by
  have hemp : t.toList.isEmpty = false := by
    rw [← decide_eq_emptyBytes]
    exact decide_eq_false (fun h => hne (by rw [h]; rfl))
  have hcv := Lib.run_convert_string_bytes (P := Tryz.prog) w 9 91 5 t (u := .string) Tryz.underlying9 Tryz.underlying91 Tryz.underlying5
  have hB : ∀ j, j < t.size → (Lib.bytesWorld w 5 t).cell? ⟨w.heap.size, j, none⟩ = some (.int .u8 (t.data.toList.getD j 0).toNat) := fun j hj => Lib.bytesWorld_cell w 5 t j hj
  obtain ⟨W1, hW1⟩ : ∃ W1, W1 = Lib.bytesWorld w 5 t := ⟨_, rfl⟩
  rw [← hW1] at hcv hB ⊢
  clear hW1
  obtain ⟨bs, hL⟩ : ∃ bs, bs = t.data.toList := ⟨_, rfl⟩
  have hLn : bs.length = t.size := by rw [hL, Lib.size_eq]
  rw [← hL] at hB hd ⊢
  clear hL
  go_enter Tryz.func164, Tryz.ntmps164
  go_wp2
  go_loop [12, 13, 101] (fun vu vn vi => ∃ (k acc : Nat) (a : Int), vu = .bool false ∧ vn = .int .u64 a ∧ vi = .int .i64 k ∧ k ≤ t.size ∧ Hid (a = (acc : Int) ∧ acc < 16 ^ k ∧ numOf 16 0 bs = numOf 16 acc (bs.drop k)))
    (fun _ _ vi => t.size - (intOf vi).toNat)
  case atStart => exact ⟨0, 0, 0, rfl, rfl, rfl, by omega, rfl, by decide, rfl⟩
  case round =>
    obtain ⟨k, acc, a, rfl, rfl, rfl, hk, hh⟩ := hrel
    obtain ⟨ha, hacc, hdec⟩ := hh.out
    clear hh
    by_cases hkn : k < t.size
    · have hc := hB k hkn
      have hdrop : bs.drop k = bs[k]'(by omega) :: bs.drop (k + 1) := List.drop_eq_getElem_cons (by omega)
      have hget : bs.getD k 0 = bs[k]'(by omega) := by simp [List.getD, List.getElem?_eq_getElem (show k < bs.length by omega)]
      have hok := hd _ (List.getElem_mem (show k < bs.length by omega))
      rw [hdrop] at hdec
      rw [hget] at hc
      generalize bs[k]'(by omega) = c at hc hdec hok
      have hc256 : c.toNat < 256 := c.toNat_lt
      have hdl := dv_lt (b := 16) (by decide) hok
      have hpow : acc * 16 + dv c < 16 ^ (k + 1) := by rw [Nat.pow_succ]; omega
      have hpm : 16 ^ (k + 1) ≤ 16777216 := Nat.le_trans (Nat.pow_le_pow_right (by decide) (by omega : k + 1 ≤ 6)) (by decide)
      have hF : numOf 16 acc (c :: bs.drop (k + 1)) = numOf 16 (acc * 16 + dv c) (bs.drop (k + 1)) := rfl
      have hsm : acc * 16 + dv c < 16777216 := Nat.lt_of_lt_of_le hpow hpm
      clear hB hdrop hget hacc hpm
      rcases okD_cases hok with ⟨hd0, hd1, hd2⟩ | ⟨hbb, lw, hl1, hl2, hl3, hl4, hl5⟩
      · have HN : Hid (a * 16 + ((c.toNat : Int) - 48) = ((acc * 16 + dv c : Nat) : Int) ∧ acc * 16 + dv c < 16 ^ (k + 1) ∧ numOf 16 0 bs = numOf 16 (acc * 16 + dv c) (bs.drop (k + 1))) := Lib.hid ⟨by omega, hpow, hdec.trans hF⟩
        have i0 : 0 ≤ a := by omega
        have i1 : a < 16777216 := by omega
        have i2 : a * 16 + ((c.toNat : Int) - 48) < 16777216 := by omega
        have i3 : (c.toNat : Int) - 48 < 16 := by omega
        have i4 : ¬ 4294967295 < a * 16 + ((c.toNat : Int) - 48) := by omega
        clear hpow hdec hF hsm ha hok hdl hd2
        go_wp2
        refine ⟨⟨k + 1, acc * 16 + dv c, a * 16 + ((c.toNat : Int) - 48), rfl, (by first | rfl | (congr 1; omega)), (by first | rfl | (congr 1; omega)), by omega, HN⟩, by simp [intOf]; omega⟩
      · have HN : Hid (a * 16 + (lw - 87) = ((acc * 16 + dv c : Nat) : Int) ∧ acc * 16 + dv c < 16 ^ (k + 1) ∧ numOf 16 0 bs = numOf 16 (acc * 16 + dv c) (bs.drop (k + 1))) := Lib.hid ⟨by omega, hpow, hdec.trans hF⟩
        have i0 : 0 ≤ a := by omega
        have i1 : a < 16777216 := by omega
        have i2 : a * 16 + (lw - 87) < 16777216 := by omega
        have i4 : ¬ 4294967295 < a * 16 + (lw - 87) := by omega
        have i5 : ¬ (c.toNat : Int) ≤ 57 := by omega
        have i6 : ((c.toNat : Int) == 95) = false := by
          refine beq_eq_false_iff_ne.2 fun e => ?_
          rw [e] at hl1
          have : bits .or .u8 95 32 = 127 := by decide
          omega
        have i7 : lw - 97 + 10 = lw - 87 := by omega
        clear hpow hdec hF hsm ha hok hdl hbb hl4
        go_wp2_with (go_at_call 169; refine (Tryz.internal_strconv_lower _ _).mono ?_; rintro e w' ⟨rfl, rfl⟩)
        refine ⟨⟨k + 1, acc * 16 + dv c, a * 16 + (lw - 87), rfl, (by first | rfl | (congr 1; omega)), (by first | rfl | (congr 1; omega)), by omega, HN⟩, by simp [intOf]; omega⟩
    · have hkk : k = t.size := by omega
      subst hkk
      have hF : numOf 16 acc (bs.drop t.size) = acc := by rw [List.drop_eq_nil_of_le (by omega)]; rfl
      rw [hF] at hdec
      have hlt : numOf 16 0 bs < 16777216 := by rw [hdec]; exact Nat.lt_of_lt_of_le hacc (Nat.le_trans (Nat.pow_le_pow_right (by decide) hmax) (by decide))
      subst ha
      have HD := Lib.hid hdec
      have HL := Lib.hid hlt
      clear hacc hF hdec hlt
      go_wp2
      go_ret2
      exact ⟨by rw [HD.out]; rfl, HL.out, rfl⟩
end Go.Proofs.YtpimcdkhjingjaaGreatDoor.X
namespace Go.Proofs.YtpimcdkhjingjaaGreatDoor.X
open Go.Shelf Go.RowKit Go.Proofs.YtpimcdkhjingjaaGreatDoorW.PrintWords
theorem below_bytes (w : World) (t : ByteArray) : Below w.heap.size w (Lib.bytesWorld w 5 t) := bytes_below (Below.refl _ _) (Nat.le_refl _) _ t
theorem numOf_lt {b : Nat} (hb : b = 10 ∨ b = 16) : ∀ (l : List UInt8) (a k : Nat), a < b ^ k → (∀ c ∈ l, okD b c = true) → numOf b a l < b ^ (k + l.length)
  | [], a, k, ha, _ => ha
  | c :: t, a, k, ha, h => by
    have h1 := dv_lt hb (h c List.mem_cons_self)
    have h2 := numOf_lt hb t (a * b + dv c) (k + 1) (by
      rw [Nat.pow_succ]
      have : (a + 1) * b ≤ b ^ k * b := Nat.mul_le_mul_right b ha
      rw [Nat.add_mul, Nat.one_mul] at this
      omega) (fun d hd => h d (List.mem_cons_of_mem _ hd))
    rw [List.length_cons, show k + (t.length + 1) = k + 1 + t.length by omega]
    exact h2
set_option maxHeartbeats 32000000 in
set_option maxRecDepth 100000 in
theorem pint10 (s : ByteArray) (hne : s.size ≠ 0) (hmax : s.size ≤ 7) (hd : ∀ c ∈ s.data.toList, okD 10 c = true) (w : World) :
    Calls Tryz.prog 159 #[.string s, .int .i64 10, .int .i64 32] w fun e w' => e = .returned (.tuple #[.int .i64 (numOf 10 0 s.data.toList : Int), .nilIface]) ∧ Below w.heap.size w w' := by
  have hemp : s.toList.isEmpty = false := by
    rw [← decide_eq_emptyBytes]
    exact decide_eq_false (fun h => hne (by rw [h]; rfl))
  have hpos : 0 < s.size := by omega
  obtain ⟨c0, r, hL⟩ : ∃ c0 r, s.data.toList = c0 :: r := by
    cases h : s.data.toList with
    | nil => exact absurd (by rw [Lib.size_eq, h]; rfl) hne
    | cons c0 r => exact ⟨c0, r, rfl⟩
  have hs0 : s[0]'hpos = c0 := by have := Lib.getD_at s 0 hpos; rw [hL] at this; exact this
  have hok := hd c0 (by rw [hL]; exact List.mem_cons_self)
  have h43 : ((c0.toNat : Int) == 43) = false := beq_eq_false_iff_ne.2 (fun e => by
    rcases okD_cases hok with ⟨h1, h2, h3⟩ | ⟨h1, lw, h2, h3, h4, h5, h6⟩ <;> omega)
  have h45 : ((c0.toNat : Int) == 45) = false := beq_eq_false_iff_ne.2 (fun e => by
    rcases okD_cases hok with ⟨h1, h2, h3⟩ | ⟨h1, lw, h2, h3, h4, h5, h6⟩ <;> omega)
  have HU := Lib.hid (puint10 s hne hmax hd)
  obtain ⟨u, hu⟩ : ∃ u, u = numOf 10 0 s.data.toList := ⟨_, rfl⟩
  rw [← hu] at HU
  rw [← hu]
  obtain ⟨a, ha⟩ : ∃ a : Int, a = (u : Int) := ⟨_, rfl⟩
  have HU2 : Hid (∀ w, Calls Tryz.prog 164 #[.string s, .int .i64 10, .int .i64 32] w fun e w' => e = .returned (.tuple #[.int .u64 a, .nilIface]) ∧ Below w.heap.size w w') := fun w => (HU.out w).mono fun e w' ⟨h1, _, h3⟩ => ⟨by rw [h1, ha], by rw [h3]; exact below_bytes w s⟩
  have a0 : 0 ≤ a := by omega
  have a1 : a < 10000000 := by
    have h1 := numOf_lt (b := 10) (by decide) s.data.toList 0 0 (by decide) hd
    rw [Nat.zero_add] at h1
    have h2 : 10 ^ s.data.toList.length ≤ 10000000 := Nat.le_trans (Nat.pow_le_pow_right (by decide) (by rw [← Lib.size_eq]; exact hmax)) (by decide)
    omega
  rw [← ha]
  clear HU hu ha hL hok hd
  have e1 : Tryz.prog = Tryz.prog := rfl
  go_enter Tryz.func159, Tryz.ntmps159
  go_wp2_with (first
    | (go_at_call 164; refine (HU2.out _).mono ?_; rintro e w1 ⟨rfl, hb1⟩)
    | go_in)
  go_ret2
  exact ⟨rfl, hb1⟩
set_option maxHeartbeats 32000000 in
set_option maxRecDepth 100000 in
theorem pint16 (s : ByteArray) (hne : s.size ≠ 0) (hmax : s.size ≤ 6) (hd : ∀ c ∈ s.data.toList, okD 16 c = true) (w : World) :
    Calls Tryz.prog 159 #[.string s, .int .i64 16, .int .i64 32] w fun e w' => e = .returned (.tuple #[.int .i64 (numOf 16 0 s.data.toList : Int), .nilIface]) ∧ Below w.heap.size w w' := by
  have hemp : s.toList.isEmpty = false := by
    rw [← decide_eq_emptyBytes]
    exact decide_eq_false (fun h => hne (by rw [h]; rfl))
  have hpos : 0 < s.size := by omega
  obtain ⟨c0, r, hL⟩ : ∃ c0 r, s.data.toList = c0 :: r := by
    cases h : s.data.toList with
    | nil => exact absurd (by rw [Lib.size_eq, h]; rfl) hne
    | cons c0 r => exact ⟨c0, r, rfl⟩
  have hs0 : s[0]'hpos = c0 := by have := Lib.getD_at s 0 hpos; rw [hL] at this; exact this
  have hok := hd c0 (by rw [hL]; exact List.mem_cons_self)
  have h43 : ((c0.toNat : Int) == 43) = false := beq_eq_false_iff_ne.2 (fun e => by
    rcases okD_cases hok with ⟨h1, h2, h3⟩ | ⟨h1, lw, h2, h3, h4, h5, h6⟩ <;> omega)
  have h45 : ((c0.toNat : Int) == 45) = false := beq_eq_false_iff_ne.2 (fun e => by
    rcases okD_cases hok with ⟨h1, h2, h3⟩ | ⟨h1, lw, h2, h3, h4, h5, h6⟩ <;> omega)
  have HU := Lib.hid (puint16 s hne hmax hd)
  obtain ⟨u, hu⟩ : ∃ u, u = numOf 16 0 s.data.toList := ⟨_, rfl⟩
  rw [← hu] at HU
  rw [← hu]
  obtain ⟨a, ha⟩ : ∃ a : Int, a = (u : Int) := ⟨_, rfl⟩
  have HU2 : Hid (∀ w, Calls Tryz.prog 164 #[.string s, .int .i64 16, .int .i64 32] w fun e w' => e = .returned (.tuple #[.int .u64 a, .nilIface]) ∧ Below w.heap.size w w') := fun w => (HU.out w).mono fun e w' ⟨h1, _, h3⟩ => ⟨by rw [h1, ha], by rw [h3]; exact below_bytes w s⟩
  have a0 : 0 ≤ a := by omega
  have a1 : a < 16777216 := by
    have h1 := numOf_lt (b := 16) (by decide) s.data.toList 0 0 (by decide) hd
    rw [Nat.zero_add] at h1
    have h2 : 16 ^ s.data.toList.length ≤ 16777216 := Nat.le_trans (Nat.pow_le_pow_right (by decide) (by rw [← Lib.size_eq]; exact hmax)) (by decide)
    omega
  rw [← ha]
  clear HU hu ha hL hok hd
  have e1 : Tryz.prog = Tryz.prog := rfl
  go_enter Tryz.func159, Tryz.ntmps159
  go_wp2_with (first
    | (go_at_call 164; refine (HU2.out _).mono ?_; rintro e w1 ⟨rfl, hb1⟩)
    | go_in)
  go_ret2
  exact ⟨rfl, hb1⟩
end Go.Proofs.YtpimcdkhjingjaaGreatDoor.X
namespace Go.Proofs.YtpimcdkhjingjaaGreatDoor.X
open Go.Shelf Go.RowKit Go.Proofs.YtpimcdkhjingjaaGreatDoorW.PrintWords
def parseOk (s : ByteArray) (b bits : Int) : Bool :=
  decide (bits = 32) && decide (s.size ≠ 0) && ((decide (b = 10) && decide (s.size ≤ 7) && s.data.toList.all (okD 10)) || (decide (b = 16) && decide (s.size ≤ 6) && s.data.toList.all (okD 16)))
def strconv_ParseInt.f (s : ByteArray) (b bits : Int) : Option (Int × Option Int) := if parseOk s b bits = true then some ((numOf b.toNat 0 s.data.toList : Nat), none) else none
theorem strconv_ParseInt.calls (a0 : ByteArray) (a1 a2 r1 : Int) (r2 : Option Int) (w : World) (h : strconv_ParseInt.f a0 a1 a2 = some (r1, r2)) :
    Calls Tryz.prog 159 #[.string a0, .int .i64 a1, .int .i64 a2] w fun e w' => e = .returned (.tuple #[.int .i64 r1, match r2 with | none => .nilIface | some c => .iface 0 (.int .i64 c)]) ∧ Below w.heap.size w w' := by
  unfold strconv_ParseInt.f at h
  split at h
  · rename_i hk
    injection h with h
    injection h with h1 h2
    subst h1 h2
    unfold parseOk at hk
    simp only [Bool.and_eq_true, Bool.or_eq_true, decide_eq_true_eq, List.all_eq_true] at hk
    obtain ⟨⟨rfl, hne⟩, ⟨⟨rfl, hm⟩, hd⟩ | ⟨⟨rfl, hm⟩, hd⟩⟩ := hk
    · exact pint10 a0 hne hm hd w
    · exact pint16 a0 hne hm hd w
  · cases h
end Go.Proofs.YtpimcdkhjingjaaGreatDoor.X
