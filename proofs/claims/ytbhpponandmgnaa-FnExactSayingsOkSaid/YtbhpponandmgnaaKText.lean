/- Contracts of the program's TextOk and SoFor. No condition. -/
import Derived.Test.YtbhpponandmgnaaHear2
namespace Go.Proofs.Ytbhpponandmgnaa
open Go Go.RowKit
open M (nth)

namespace M
/-- What a text says. -/
def claimO (p : Int) (l : Txt) : Option Say := if (inB p 1 5 && decide (l.length ≤ 40)) = true then say p.toNat l else none
theorem claim_no1 {p : Int} {l : Txt} (h : inB p 1 5 = false) : claimO p l = none := by simp [claimO, h]
theorem claim_no2 {p : Int} {l : Txt} (h : ¬ l.length ≤ 40) : claimO p l = none := by simp [claimO, h]
theorem claim_ok {p : Int} {l : Txt} (h : inB p 1 5 = true) (h2 : l.length ≤ 40) : claimO p l = say p.toNat l := by simp [claimO, h, h2]
theorem text_claim (p : Int) (l : Txt) : textB p l = (claimO p l).isSome := by
  unfold textB claimO
  cases inB p 1 5 with
  | false => rfl
  | true =>
    by_cases h : l.length ≤ 40
    · simp [h]
    · simp [h]
theorem so_claim (p : Int) (l : Txt) (K : Int) : soB p l K = (inB K 0 (2 ^ p.toNat - 1) && ((claimO p l).map (ev K.toNat)).getD false) := by
  unfold soB
  rw [text_claim]
  cases h : claimO p l with
  | none => simp
  | some a =>
    have : say p.toNat l = some a := by
      unfold claimO at h
      split at h
      · exact h
      · cases h
    rw [this]
    simp
end M

/-- Returns the closure of what has been read, or nil; what was there is as it was. -/
def Claimed (w : World) (x : Option M.Say) (e : Ending) (w' : World) : Prop := (∃ v, e = .returned v ∧ Heard w' (w.heap.size + 1) x v) ∧ Below w.heap.size w w'

set_option maxHeartbeats 1000000 in
theorem claimOf_c (p : Int) (s : ByteArray) (w : World) : Calls Try.prog 22 #[.int .i64 p, .string s] w (Claimed w (M.claimO p s.data.toList)) := by
  cases hp : M.inB p 1 5 with
  | false =>
    have Hg := Lib.hid (M.claim_no1 (l := s.data.toList) hp)
    go_enter Try.func22, Try.ntmps22
    go_wp2_with fail
    refine (in_c _ _ _ _).mono ?_
    rintro e w1 ⟨rfl, rfl⟩
    go_wp2
    go_ret
    exact ⟨⟨_, rfl, by rw [Hg.out]; rfl⟩, Below.refl _ _⟩
  | true =>
    have hp' := M.inB_true.1 hp
    obtain ⟨P, rfl⟩ := Int.eq_ofNat_of_zero_le (show 0 ≤ p by omega)
    have hl : s.data.toList.length = s.size := by simp
    by_cases hs : s.size ≤ 40
    · have Hg := Lib.hid (M.claim_ok (l := s.data.toList) hp (by omega))
      have d1 : decide ((40 : Int) < (s.size : Int)) = false := decide_eq_false (by omega)
      have hl0 : Lis (w.alloc (.cells #[.int .i64 P, .string s] 59)) w.heap.size P s.data.toList := ⟨s, rfl, heap_alloc_new w _, by omega⟩
      have hear := hear_c w.heap.size (w.heap.size + 1) P (by omega) (by omega) (by omega) (s.data.toList.length + 1) s.data.toList _ (by omega) hl0 (by simp)
      have Hh := Lib.hid hear
      have hb0 : Below w.heap.size w (w.alloc (.cells #[.int .i64 P, .string s] 59)) := (Below.refl _ _).alloc (Nat.le_refl _) _
      clear hear hl hl0
      go_enter Try.func22, Try.ntmps22
      go_wp2_with fail
      refine (in_c _ _ _ _).mono ?_
      rintro e w1 ⟨rfl, rfl⟩
      go_wp2_with fail
      refine Hh.out.mono ?_
      rintro e w2 ⟨v, r', rfl, hl2, hr2, hg2, hv, hr'⟩
      have hb2 : Below w.heap.size w w2 := hb0.grown hg2 (by simp) (fun k e => by cases e; exact Nat.le_refl _)
      obtain ⟨s', e', hb', hz'⟩ := hl2
      have c1 : w2.cell? ⟨w.heap.size, 1, none⟩ = some (.string s') := by simp [World.cell?, hb']
      cases r' with
      | nil =>
        have n1 : s'.toList.isEmpty = true := by rw [ByteArray.toList_eq, e']; rfl
        have n2 : s'.toList = [] := by rw [ByteArray.toList_eq, e']
        have hq : Heard w2 (w.heap.size + 1) (M.say P s.data.toList) v := by
          unfold M.say
          cases hp2 : M.ps P (s.data.toList.length + 1) s.data.toList with
          | none => rw [hp2] at hv; exact hv
          | some y =>
            obtain ⟨a, q⟩ := y
            have := hr' a q hp2
            subst this
            rw [hp2] at hv
            exact hv
        clear hb' e'
        go_wp2
        go_ret
        exact ⟨⟨_, rfl, by rw [Hg.out]; exact hq⟩, hb2⟩
      | cons c q =>
        have n1 : s'.toList.isEmpty = false := by rw [ByteArray.toList_eq, e']; rfl
        have hq : M.say P s.data.toList = none := by
          unfold M.say
          cases hp2 : M.ps P (s.data.toList.length + 1) s.data.toList with
          | none => rfl
          | some y =>
            obtain ⟨a, q2⟩ := y
            have := hr' a q2 hp2
            subst this
            rfl
        have Hq := Lib.hid hq
        clear hb' e' hq
        go_wp2
        go_ret
        exact ⟨⟨_, rfl, by rw [Hg.out]; simp only [Int.toNat_natCast]; rw [Hq.out]; rfl⟩, hb2⟩
    · have Hg := Lib.hid (M.claim_no2 (p := (P : Int)) (l := s.data.toList) (by omega))
      have d1 : decide ((40 : Int) < (s.size : Int)) = true := decide_eq_true (by omega)
      go_enter Try.func22, Try.ntmps22
      go_wp2_with fail
      refine (in_c _ _ _ _).mono ?_
      rintro e w1 ⟨rfl, rfl⟩
      go_wp2
      go_ret
      exact ⟨⟨_, rfl, by rw [Hg.out]; rfl⟩, Below.refl _ _⟩

set_option maxHeartbeats 1000000 in
theorem iTextOk_c (p : Int) (s : ByteArray) (w : World) : Calls Try.prog 9 #[.int .i64 p, .string s] w fun e w' => e = .returned (.bool (M.textB p s.data.toList)) ∧ Below w.heap.size w w' := by
  have nq0 := neq_nil
  have nq1 := neq_func
  rw [M.text_claim]
  go_enter Try.func9, Try.ntmps9
  go_wp2_with fail
  refine (claimOf_c p s _).mono ?_
  rintro e w1 ⟨⟨v, rfl, hv⟩, hb⟩
  cases hc : M.claimO p s.data.toList with
  | none =>
    rw [hc] at hv
    obtain rfl : v = .nilFunc := hv
    go_wp2
    go_ret
    exact ⟨by rw [hc]; rfl, hb⟩
  | some a =>
    rw [hc] at hv
    have hv' : Rep w1 (w.heap.size + 1) a v := hv
    obtain ⟨N, caps, rfl⟩ := hv'.func
    go_wp2
    go_ret
    exact ⟨by rw [hc]; rfl, hb⟩

theorem isWord_c (q : Nat) (x : Int) (w : World) (hq : q ≤ 8) : Calls Try.prog 26 #[.int .i64 q, .int .i64 x] w fun e w' => e = .returned (.bool (M.inB x 0 (2 ^ q - 1))) ∧ w' = w := by
  have hw2 : wrap64 ((2 : Int) ^ q) = 2 ^ q := M.wrap_pow q (by omega)
  have h1 := M.two_pow_le hq
  have h2 := M.two_pow_pos q
  go_enter Try.func26, Try.ntmps26
  go_wp2_with fail
  refine (in_c _ _ _ _).mono ?_
  rintro e w1 ⟨rfl, rfl⟩
  go_wp2
  go_ret
  exact ⟨rfl, rfl⟩

set_option maxHeartbeats 1000000 in
theorem iSoFor_c (p : Int) (s : ByteArray) (K : Int) (w : World) : Calls Try.prog 13 #[.int .i64 p, .string s, .int .i64 K] w fun e w' => e = .returned (.bool (M.soB p s.data.toList K)) ∧ Below w.heap.size w w' := by
  have nq0 := neq_nil
  have nq1 := neq_func
  have Hso := Lib.hid (M.so_claim p s.data.toList K)
  go_enter Try.func13, Try.ntmps13
  go_wp2_with fail
  refine (claimOf_c p s _).mono ?_
  rintro e w1 ⟨⟨v, rfl, hv⟩, hb⟩
  cases hc : M.claimO p s.data.toList with
  | none =>
    rw [hc] at hv Hso
    obtain rfl : v = .nilFunc := hv
    go_wp2
    go_ret
    exact ⟨rb (by rw [Hso.out]; simp), hb⟩
  | some a =>
    have hp : M.inB p 1 5 = true := by
      cases h : M.inB p 1 5 with
      | true => rfl
      | false => rw [M.claim_no1 h] at hc; cases hc
    have hp' := M.inB_true.1 hp
    obtain ⟨P, rfl⟩ := Int.eq_ofNat_of_zero_le (show 0 ≤ p by omega)
    rw [hc] at hv Hso
    have hv' : Rep w1 (w.heap.size + 1) a v := hv
    cases hK : M.inB K 0 (2 ^ P - 1) with
    | false =>
      obtain ⟨N, caps, rfl⟩ := hv'.func
      simp only [Int.toNat_natCast] at Hso
      rw [hK] at Hso
      go_wp2_with fail
      refine (isWord_c P K _ (by omega)).mono ?_
      rintro e w' ⟨rfl, rfl⟩
      go_wp2
      go_ret
      exact ⟨rb (by rw [Hso.out]; simp), hb⟩
    | true =>
      have hK' := M.inB_true.1 hK
      obtain ⟨k, rfl⟩ := Int.eq_ofNat_of_zero_le (show 0 ≤ K by omega)
      have hk : k < 32 := by
        have := M.two_pow_le (show P ≤ 5 by omega)
        omega
      obtain ⟨N, caps, rfl, hen, hcall⟩ := hv'.evals k hk
      have Hc := Lib.hid (hcall 0)
      simp only [Int.toNat_natCast] at Hso
      rw [hK] at Hso
      clear hcall hK'
      go_wp2_with fail
      refine (isWord_c P k _ (by omega)).mono ?_
      rintro e w' ⟨rfl, rfl⟩
      go_wp2_with fail
      refine Hc.out.mono ?_
      rintro e w3 ⟨rfl, hq⟩
      go_wp2
      go_ret
      exact ⟨rb (by rw [Hso.out]; simp), hb.trans (hq.below _)⟩

end Go.Proofs.Ytbhpponandmgnaa
