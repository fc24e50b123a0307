/- Contracts of the reader of a way of guessing: take, expect, HasPrefix. No condition. -/
import Derived.Test.YtdeoigdnhcamjaaPrM
import Derived.Test.YtdeoigdnhcamjaaMem
namespace Go.Proofs.Ytdeoigdnhcamjaa
open Go Go.RowKit
open M (nth)

/-- Block L is a reader with the rest r of a text, whose next number is n; b: is it bad? -/
def Rdw (w : World) (L : Nat) (r : M.Txt) (n : Nat) (b : Bool) : Prop := ∃ s : ByteArray, s.data.toList = r ∧ w.heap[L]? = some (.cells #[.string s, .int .i64 (n : Int), .bool b] 43 (0, 0)) ∧ s.size ≤ 64
theorem Rdw.lt {w : World} {L n : Nat} {r : M.Txt} {b : Bool} (h : Rdw w L r n b) : L < w.heap.size := by
  obtain ⟨s, _, hb, _⟩ := h
  exact (Array.getElem?_eq_some_iff.1 hb).1
theorem Rdw.keep {w w' : World} {L n : Nat} {r : M.Txt} {b : Bool} (h : Rdw w L r n b) (hb : w'.heap[L]? = w.heap[L]?) : Rdw w' L r n b := by
  obtain ⟨s, e, hs, hz⟩ := h
  exact ⟨s, e, hb.trans hs, hz⟩
theorem Rdw.alloc {w : World} {L n : Nat} {r : M.Txt} {b : Bool} (h : Rdw w L r n b) (o : Obj) : Rdw (w.alloc o) L r n b := h.keep (Below.heap_alloc _ _ _ h.lt)
theorem Rdw.cell1 {w : World} {L n : Nat} {r : M.Txt} {b : Bool} (h : Rdw w L r n b) : w.cell? ⟨L, 1, none⟩ = some (.int .i64 (n : Int)) := by
  obtain ⟨s, _, hb, _⟩ := h
  simp [World.cell?, hb]
theorem Rdw.cell2 {w : World} {L n : Nat} {r : M.Txt} {b : Bool} (h : Rdw w L r n b) : w.cell? ⟨L, 2, none⟩ = some (.bool b) := by
  obtain ⟨s, _, hb, _⟩ := h
  simp [World.cell?, hb]
theorem Rdw.free {w : World} {L n : Nat} {r : M.Txt} {b : Bool} (h : Rdw w L r n b) (k : Nat) : w.frozen? ⟨L, k, none⟩ = false := by
  obtain ⟨s, _, hb, _⟩ := h
  simp [World.frozen?, hb]
theorem rd_grown (w : World) (L k : Nat) (v : Value) : w.grownBy (w.setCell ⟨L, k, none⟩ v) (some L) :=
  ⟨rfl, rfl, rfl, by simp [World.setCell], fun k _ hk => Below.heap_setCell _ _ _ _ (fun e => hk (by simp [e]))⟩
theorem Rdw.bad {w : World} {L n : Nat} {r : M.Txt} {b : Bool} (h : Rdw w L r n b) (b' : Bool) : Rdw (w.setCell ⟨L, 2, none⟩ (.bool b')) L r n b' := by
  obtain ⟨s, e, hb, hz⟩ := h
  exact ⟨s, e, by simp [World.setCell, Array.getElem?_modify, hb], hz⟩
theorem Rdw.next {w : World} {L n : Nat} {r : M.Txt} {b : Bool} (h : Rdw w L r n b) (n' : Nat) : Rdw (w.setCell ⟨L, 1, none⟩ (.int .i64 (n' : Int))) L r n' b := by
  obtain ⟨s, e, hb, hz⟩ := h
  exact ⟨s, e, by simp [World.setCell, Array.getElem?_modify, hb], hz⟩

theorem M.tail_data (s : ByteArray) (c : UInt8) (q : M.Txt) (h : s.data.toList = c :: q) : (s.extract 1 s.size).data.toList = q ∧ 0 < s.size := by
  have hl : s.data.toList.length = q.length + 1 := by rw [h]; rfl
  have hz : s.size = q.length + 1 := by simpa using hl
  refine ⟨?_, by omega⟩
  rw [ByteArray.data_extract, Array.toList_extract, h]
  simp [List.extract, hz]

theorem take0_c (L n : Nat) (b : Bool) (w : World) (h : Rdw w L [] n b) : Calls Try.prog 27 #[.pointer (some ⟨L, 0, none⟩)] w fun e w' => e = .returned (.int .u8 0) ∧ w = w' := by
  obtain ⟨s, e, hb, hz⟩ := h
  have c1 : w.cell? ⟨L, 0, none⟩ = some (.string s) := by simp [World.cell?, hb]
  obtain rfl : s = ⟨#[]⟩ := by
    obtain ⟨d⟩ := s
    simp at e
    rw [e]
  clear hb e hz
  go_enter Try.func27, Try.ntmps27
  go_wp2
  go_ret
  exact ⟨rfl, rfl⟩

theorem take1_c (L n : Nat) (b : Bool) (c : UInt8) (q : M.Txt) (w : World) (h : Rdw w L (c :: q) n b) :
    Calls Try.prog 27 #[.pointer (some ⟨L, 0, none⟩)] w fun e w' => e = .returned (.int .u8 (c.toNat : Nat)) ∧ Rdw w' L q n b ∧ w.grownBy w' (some L) := by
  obtain ⟨s, e, hb, hz⟩ := h
  have c1 : w.cell? ⟨L, 0, none⟩ = some (.string s) := by simp [World.cell?, hb]
  have f1 : w.frozen? ⟨L, 0, none⟩ = false := by simp [World.frozen?, hb]
  obtain ⟨ht, h0⟩ := M.tail_data s c q e
  have hne : s.toList.isEmpty = false := by rw [ByteArray.toList_eq, e]; rfl
  have Hx := Lib.hid (show s[0] = c by
    have h2 : s.data.toList[0]'(by rw [e]; simp) = c := by simp [e]
    exact h2)
  have Hb := Lib.hid hb
  have He := Lib.hid e
  have Ht := Lib.hid ht
  clear hb e ht
  go_enter Try.func27, Try.ntmps27
  go_wp2
  go_ret
  exact ⟨by rw [Hx.out]; rfl, ⟨_, Ht.out, by simp [World.setCell, Array.getElem?_modify, Hb.out], by rw [ByteArray.size_extract]; omega⟩, rd_grown _ _ _ _⟩

set_option maxHeartbeats 400000 in
theorem expect0_c (L n k : Nat) (b : Bool) (w : World) (h : Rdw w L [] n b) (hk : 0 < k) (hk2 : k < 256) :
    Calls Try.prog 24 #[.pointer (some ⟨L, 0, none⟩), .int .u8 (k : Int)] w fun e w' => (∃ v, e = .returned v) ∧ Rdw w' L [] n true ∧ w.grownBy w' (some L) := by
  have c2 := h.cell2
  have f2 := h.free 2
  have e0 : ((0 : Int) != (k : Int)) = true := by simp; omega
  go_enter Try.func24, Try.ntmps24
  go_wp2_with fail
  refine (take0_c L n b _ h).mono ?_
  rintro e w' ⟨rfl, rfl⟩
  go_wp2
  go_end0
  exact ⟨⟨_, rfl⟩, h.bad true, rd_grown _ _ _ _⟩

set_option maxHeartbeats 400000 in
theorem expect1_c (L n k : Nat) (b : Bool) (c : UInt8) (q : M.Txt) (w : World) (h : Rdw w L (c :: q) n b) :
    Calls Try.prog 24 #[.pointer (some ⟨L, 0, none⟩), .int .u8 (k : Int)] w fun e w' => (∃ v, e = .returned v) ∧ Rdw w' L q n (!decide (c.toNat = k) || b) ∧ w.grownBy w' (some L) := by
  by_cases hk : c.toNat = k
  · have e0 : (((c.toNat : Nat) : Int) != (k : Int)) = false := by simp; omega
    have e1 : (!decide (c.toNat = k) || b) = b := by simp [hk]
    rw [e1]
    clear e1 hk
    go_enter Try.func24, Try.ntmps24
    go_wp2_with fail
    refine (take1_c L n b c q _ h).mono ?_
    rintro e w' ⟨rfl, h1, hg1⟩
    have c2 := h1.cell2
    have f2 := h1.free 2
    go_wp2
    go_end0
    exact ⟨⟨_, rfl⟩, h1.bad b, grown_trans hg1 (rd_grown _ _ _ _)⟩
  · have e0 : (((c.toNat : Nat) : Int) != (k : Int)) = true := by simp; omega
    have e1 : (!decide (c.toNat = k) || b) = true := by simp [hk]
    rw [e1]
    clear e1 hk
    go_enter Try.func24, Try.ntmps24
    go_wp2_with fail
    refine (take1_c L n b c q _ h).mono ?_
    rintro e w' ⟨rfl, h1, hg1⟩
    have c2 := h1.cell2
    have f2 := h1.free 2
    go_wp2
    go_end0
    exact ⟨⟨_, rfl⟩, h1.bad true, grown_trans hg1 (rd_grown _ _ _ _)⟩

set_option maxHeartbeats 400000 in
theorem dot0_c (s : ByteArray) (hs : s.data.toList = []) (w : World) : Calls Try.prog 23 #[.string s, .string ⟨#[46]⟩] w fun e w' => e = .returned (.bool false) ∧ w = w' := by
  have hz : s.size = 0 := by have := congrArg List.length hs; simpa using this
  go_enter Try.func23, Try.ntmps23
  go_wp2
  go_ret
  exact ⟨rfl, rfl⟩
set_option maxHeartbeats 400000 in
theorem dot1_c (s : ByteArray) (c : UInt8) (q : M.Txt) (hs : s.data.toList = c :: q) (w : World) : Calls Try.prog 23 #[.string s, .string ⟨#[46]⟩] w fun e w' => e = .returned (.bool (decide (c.toNat = 46))) ∧ w = w' := by
  have hz : s.size = q.length + 1 := by have := congrArg List.length hs; simpa using this
  have hx : ((s.extract 0 1).toList == [46]) = decide (c.toNat = 46) := by
    have h1 : (s.extract 0 1).toList = [c] := by
      rw [ByteArray.toList_eq, ByteArray.data_extract, Array.toList_extract, hs]
      simp [List.extract]
    rw [h1]
    rw [Bool.eq_iff_iff]
    simp only [beq_iff_eq, List.cons.injEq, and_true, decide_eq_true_eq]
    constructor
    · intro e; rw [e]; rfl
    · intro e; exact UInt8.toNat_inj.1 e
  have HX := Lib.hid hx
  clear hx
  go_enter Try.func23, Try.ntmps23
  go_wp2
  go_ret
  exact ⟨rb HX.out, rfl⟩

end Go.Proofs.Ytdeoigdnhcamjaa
