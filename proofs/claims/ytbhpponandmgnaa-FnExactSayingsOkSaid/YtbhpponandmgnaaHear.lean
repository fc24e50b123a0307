/- Contracts of the reader of a saying. No condition. -/
import Derived.Test.YtbhpponandmgnaaSay
namespace Go.Proofs.Ytbhpponandmgnaa
open Go Go.RowKit
open M (nth)

/-- Block L is a listener of p people with the rest r of a text. -/
def Lis (w : World) (L : Nat) (p : Int) (r : M.Txt) : Prop := ∃ s : ByteArray, s.data.toList = r ∧ w.heap[L]? = some (.cells #[.int .i64 p, .string s] 59 (0, 0)) ∧ s.size ≤ 64
theorem Lis.lt {w : World} {L : Nat} {p : Int} {r : M.Txt} (h : Lis w L p r) : L < w.heap.size := by
  obtain ⟨s, _, hb, _⟩ := h
  exact (Array.getElem?_eq_some_iff.1 hb).1
theorem Lis.cell0 {w : World} {L : Nat} {p : Int} {r : M.Txt} (h : Lis w L p r) : w.cell? ⟨L, 0, none⟩ = some (.int .i64 p) := by
  obtain ⟨s, _, hb, _⟩ := h
  simp [World.cell?, hb]
theorem Lis.keep {w w' : World} {L : Nat} {p : Int} {r : M.Txt} (h : Lis w L p r) (hb : w'.heap[L]? = w.heap[L]?) : Lis w' L p r := by
  obtain ⟨s, e, hs, hz⟩ := h
  exact ⟨s, e, hb.trans hs, hz⟩
theorem Lis.alloc {w : World} {L : Nat} {p : Int} {r : M.Txt} (h : Lis w L p r) (o : Obj) : Lis (w.alloc o) L p r := h.keep (Below.heap_alloc _ _ _ h.lt)

theorem M.tail_data (s : ByteArray) (c : UInt8) (q : M.Txt) (h : s.data.toList = c :: q) : (s.extract 1 s.size).data.toList = q ∧ 0 < s.size := by
  have hl : s.data.toList.length = q.length + 1 := by rw [h]; rfl
  have hz : s.size = q.length + 1 := by simpa using hl
  refine ⟨?_, by omega⟩
  rw [ByteArray.data_extract, Array.toList_extract, h]
  simp [List.extract, hz]

theorem Lis.stored {w : World} {L : Nat} {p : Int} {s : ByteArray} (hb : w.heap[L]? = some (.cells #[.int .i64 p, .string s] 59 (0, 0))) (s' : ByteArray) :
    (w.setCell ⟨L, 1, none⟩ (.string s')).heap[L]? = some (.cells #[.int .i64 p, .string s'] 59 (0, 0)) ∧ w.grownBy (w.setCell ⟨L, 1, none⟩ (.string s')) (some L) :=
  ⟨by simp [World.setCell, Array.getElem?_modify, hb], rfl, rfl, rfl, by simp [World.setCell], fun k _ hk => Below.heap_setCell _ _ _ _ (fun e => hk (by simp [e]))⟩

theorem take0_c (L : Nat) (p : Int) (w : World) (h : Lis w L p []) : Calls Try.prog 38 #[.pointer (some ⟨L, 0, none⟩)] w fun e w' => e = .returned (.int .u8 0) ∧ w = w' := by
  obtain ⟨s, e, hb, hz⟩ := h
  have c1 : w.cell? ⟨L, 1, none⟩ = some (.string s) := by simp [World.cell?, hb]
  obtain rfl : s = ⟨#[]⟩ := by
    obtain ⟨d⟩ := s
    simp at e
    rw [e]
  clear hb e hz
  go_enter Try.func38, Try.ntmps38
  go_wp2
  go_ret
  exact ⟨rfl, rfl⟩

theorem take1_c (L : Nat) (p : Int) (c : UInt8) (q : M.Txt) (w : World) (h : Lis w L p (c :: q)) :
    Calls Try.prog 38 #[.pointer (some ⟨L, 0, none⟩)] w fun e w' => e = .returned (.int .u8 (c.toNat : Nat)) ∧ Lis w' L p q ∧ w.grownBy w' (some L) := by
  obtain ⟨s, e, hb, hz⟩ := h
  have c1 : w.cell? ⟨L, 1, none⟩ = some (.string s) := by simp [World.cell?, hb]
  have f1 : w.frozen? ⟨L, 1, none⟩ = false := by simp [World.frozen?, hb]
  obtain ⟨ht, h0⟩ := M.tail_data s c q e
  have hne : s.toList.isEmpty = false := by rw [ByteArray.toList_eq, e]; rfl
  have Hx := Lib.hid (show s[0] = c by
    have h2 : s.data.toList[0]'(by rw [e]; simp) = c := by simp [e]
    exact h2)
  have Hb := Lib.hid hb
  have He := Lib.hid e
  have Ht := Lib.hid ht
  clear hb e ht
  go_enter Try.func38, Try.ntmps38
  go_wp2
  go_ret
  have hst := (Lis.stored Hb.out (s.extract 1 s.size))
  exact ⟨by rw [Hx.out]; rfl, ⟨_, Ht.out, hst.1, by rw [ByteArray.size_extract]; omega⟩, hst.2⟩

/-- What has been heard: a saying's closure, or nil. -/
def Heard (w : World) (B : Nat) (x : Option M.Say) (v : Value) : Prop :=
  match x with
  | some s => Rep w B s v
  | none => v = .nilFunc
theorem Rep.func {w : World} {B : Nat} : ∀ {a : M.Say} {v : Value}, Rep w B a v → ∃ N caps, v = .func (.func N) #[] caps
  | .who _, _, ⟨_, e, _⟩ => ⟨_, _, e⟩
  | .cnt _, _, ⟨_, e, _⟩ => ⟨_, _, e⟩
  | .not _, _, ⟨_, _, e, _⟩ => ⟨_, _, e⟩
  | .both _ _, _, ⟨_, _, _, _, e, _⟩ => ⟨_, _, e⟩
  | .one _ _, _, ⟨_, _, _, _, e, _⟩ => ⟨_, _, e⟩
  | .same _ _, _, ⟨_, _, _, _, e, _⟩ => ⟨_, _, e⟩
/-- What joint returns. -/
def Joined (w : World) (B : Nat) (x : Option M.Say) (e : Ending) (w' : World) : Prop := (∃ v, e = .returned v ∧ Heard w' B x v) ∧ w.grownBy w' none

set_option maxHeartbeats 1000000 in
/-- What joint makes of a sign and two sayings. -/
theorem joint_c (m : UInt8) (a b : M.Say) (va vb : Value) (B : Nat) (w : World) (ha : Rep w B a va) (hb : Rep w B b vb) (hB : B ≤ w.heap.size) :
    Calls Try.prog 43 #[.int .u8 (m.toNat : Nat), va, vb] w (Joined w B (M.joint m a b)) := by
  have hg : w.grownBy ((w.alloc (.cells #[va] 42)).alloc (.cells #[vb] 42)) none := grown_trans (World.grownBy_alloc _ _ _) (World.grownBy_alloc _ _ _)
  have ha2 := ha.grown hg (fun r e => by cases e)
  have hb2 := hb.grown hg (fun r e => by cases e)
  have c1 := Lib.hid (two_cells1 w va vb 42 42)
  have c2 := Lib.hid (two_cells2 w va vb 42 42)
  obtain ⟨N, caps, rfl⟩ := ha.func
  obtain ⟨N', caps', rfl⟩ := hb.func
  by_cases h1 : m.toNat = 38
  · have Hj := Lib.hid (show M.joint m a b = some (.both a b) by simp [M.joint, h1])
    rw [h1]
    clear h1
    go_enter Try.func43, Try.ntmps43
    go_wp2
    go_ret
    refine ⟨⟨_, rfl, ?_⟩, hg⟩
    rw [Hj.out]
    exact ⟨_, _, _, _, rfl, hB, by omega, c1.out, c2.out, ha2, hb2⟩
  · by_cases h2 : m.toNat = 124
    · have Hj := Lib.hid (show M.joint m a b = some (.one a b) by simp [M.joint, h2])
      rw [h2]
      clear h1 h2
      go_enter Try.func43, Try.ntmps43
      go_wp2
      go_ret
      refine ⟨⟨_, rfl, ?_⟩, hg⟩
      rw [Hj.out]
      exact ⟨_, _, _, _, rfl, hB, by omega, c1.out, c2.out, ha2, hb2⟩
    · by_cases h3 : m.toNat = 61
      · have Hj := Lib.hid (show M.joint m a b = some (.same a b) by simp [M.joint, h3])
        rw [h3]
        clear h1 h2 h3
        go_enter Try.func43, Try.ntmps43
        go_wp2
        go_ret
        refine ⟨⟨_, rfl, ?_⟩, hg⟩
        rw [Hj.out]
        exact ⟨_, _, _, _, rfl, hB, by omega, c1.out, c2.out, ha2, hb2⟩
      · have Hj := Lib.hid (show M.joint m a b = none by simp [M.joint, h1, h2, h3])
        have e1 : (((m.toNat : Nat) : Int) == 38) = false := by simp; omega
        have e2 : (((m.toNat : Nat) : Int) == 124) = false := by simp; omega
        have e3 : (((m.toNat : Nat) : Int) == 61) = false := by simp; omega
        clear h1 h2 h3
        go_enter Try.func43, Try.ntmps43
        go_wp2
        go_ret
        refine ⟨⟨_, rfl, ?_⟩, hg⟩
        rw [Hj.out]
        rfl

end Go.Proofs.Ytbhpponandmgnaa
