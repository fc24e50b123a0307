/- Contracts of the reference's TextOk and SoFor, and the exact laws on both. No condition. -/
import Derived.Test.YtbhpponandmgnaaKText
import Derived.Test.YtbhpponandmgnaaRead
namespace Go.Proofs.Ytbhpponandmgnaa
open Go Go.RowKit
open M (nth)

namespace M
theorem say_of {P : Nat} {l q : Txt} {a : Say} (h : ps P (l.length + 1) l = some (a, q)) : say P l = if q = [] then some a else none := by
  unfold say
  rw [h]
  cases q <;> simp
theorem say_no {P : Nat} {l : Txt} (h : ps P (l.length + 1) l = none) : say P l = none := by
  unfold say
  rw [h]
end M

set_option maxHeartbeats 1000000 in
theorem sTextOk_c (p : Int) (s : ByteArray) (w : World) : Calls Try.prog 8 #[.int .i64 p, .string s] w fun e w' => e = .returned (.bool (M.textB p s.data.toList)) ∧ w = w' := by
  rw [M.text_claim]
  cases hp : M.inB p 1 5 with
  | false =>
    rw [M.claim_no1 hp]
    go_enter Try.func8, Try.ntmps8
    go_wp2_with fail
    refine (l1In_c _ _ _ _).mono ?_
    rintro e w1 ⟨rfl, rfl⟩
    go_wp2
    go_ret
    exact ⟨rfl, rfl⟩
  | true =>
    have hp' := M.inB_true.1 hp
    obtain ⟨P, rfl⟩ := Int.eq_ofNat_of_zero_le (show 0 ≤ p by omega)
    have hl : s.data.toList.length = s.size := by simp
    by_cases hs : s.size ≤ 40
    · rw [M.claim_ok (l := s.data.toList) hp (by omega)]
      simp only [Int.toNat_natCast]
      have d1 : decide ((40 : Int) < (s.size : Int)) = false := decide_eq_false (by omega)
      have hread := l9Read_c P 0 s (by omega) (by omega) (Nat.two_pow_pos P) (by omega) (s.data.toList.length + 1) s.data.toList 0 w (by omega) (List.suffix_refl _) (by omega)
      have Hr := Lib.hid hread
      cases hps : M.ps P (s.data.toList.length + 1) s.data.toList with
      | none =>
        rw [M.say_no hps]
        have Hp := Lib.hid hps
        clear hread hl hps
        go_enter Try.func8, Try.ntmps8
        go_wp2_with fail
        refine (l1In_c _ _ _ _).mono ?_
        rintro e w1 ⟨rfl, rfl⟩
        go_wp2_with fail
        refine Hr.out.mono ?_
        rintro e w' ⟨rfl, hr2⟩
        rw [Hp.out] at hr2
        obtain ⟨b, rfl⟩ := hr2
        have e1 : ((-1 : Int) == (s.size : Int)) = false := by simp
        go_wp2
        go_ret
        exact ⟨rfl, rfl⟩
      | some y =>
        obtain ⟨a, q⟩ := y
        rw [M.say_of hps]
        have hq := (M.ps_suf _ _ _ _ _ hps).length_le
        rw [hl] at hq
        have Hp := Lib.hid hps
        clear hread hl hps
        by_cases hz : q = []
        · subst hz
          rw [if_pos rfl]
          go_enter Try.func8, Try.ntmps8
          go_wp2_with fail
          refine (l1In_c _ _ _ _).mono ?_
          rintro e w1 ⟨rfl, rfl⟩
          go_wp2_with fail
          refine Hr.out.mono ?_
          rintro e w' ⟨rfl, hr2⟩
          rw [Hp.out] at hr2
          simp only [List.length_nil, Nat.sub_zero] at hr2
          subst hr2
          go_wp2
          go_ret
          exact ⟨rfl, rfl⟩
        · have hlen : 0 < q.length := List.length_pos_iff.2 hz
          rw [if_neg hz]
          clear hz
          go_enter Try.func8, Try.ntmps8
          go_wp2_with fail
          refine (l1In_c _ _ _ _).mono ?_
          rintro e w1 ⟨rfl, rfl⟩
          go_wp2_with fail
          refine Hr.out.mono ?_
          rintro e w' ⟨rfl, hr2⟩
          rw [Hp.out] at hr2
          simp only at hr2
          obtain ⟨E, hE⟩ : ∃ E, E = s.size - q.length := ⟨_, rfl⟩
          rw [← hE] at hr2
          have e1 : ((E : Int) == (s.size : Int)) = false := by simp; omega
          subst hr2
          clear hE
          go_wp2
          go_ret
          exact ⟨rfl, rfl⟩
    · rw [M.claim_no2 (p := (P : Int)) (l := s.data.toList) (by omega)]
      have d1 : decide ((40 : Int) < (s.size : Int)) = true := decide_eq_true (by omega)
      go_enter Try.func8, Try.ntmps8
      go_wp2_with fail
      refine (l1In_c _ _ _ _).mono ?_
      rintro e w1 ⟨rfl, rfl⟩
      go_wp2
      go_ret
      exact ⟨rfl, rfl⟩

set_option maxHeartbeats 1000000 in
theorem sSoFor_c (p : Int) (s : ByteArray) (K : Int) (w : World) : Calls Try.prog 12 #[.int .i64 p, .string s, .int .i64 K] w fun e w' => e = .returned (.bool (M.soB p s.data.toList K)) ∧ w = w' := by
  cases ht : M.textB p s.data.toList with
  | false =>
    rw [M.text_no ht]
    go_enter Try.func12, Try.ntmps12
    go_wp2_with fail
    refine (sTextOk_c p s _).mono ?_
    rintro e w1 ⟨rfl, rfl⟩
    rw [ht]
    go_wp2
    go_ret
    exact ⟨rfl, rfl⟩
  | true =>
    have ht0 := ht
    rw [M.text_claim] at ht0
    obtain ⟨a, ha⟩ := Option.isSome_iff_exists.1 ht0
    have hp : M.inB p 1 5 = true := by
      cases h : M.inB p 1 5 with
      | true => rfl
      | false => rw [M.claim_no1 h] at ha; cases ha
    have hs40 : s.size ≤ 40 := by
      by_cases h : s.data.toList.length ≤ 40
      · simpa using h
      · rw [M.claim_no2 h] at ha; cases ha
    have hp' := M.inB_true.1 hp
    obtain ⟨P, rfl⟩ := Int.eq_ofNat_of_zero_le (show 0 ≤ p by omega)
    have h1 := M.two_pow_le (show P ≤ 5 by omega)
    have h2 := M.two_pow_pos P
    have hw2 : wrap64 ((2 : Int) ^ P) = 2 ^ P := M.wrap_pow P (by omega)
    have hso := M.so_claim (P : Int) s.data.toList K
    simp only [Int.toNat_natCast] at hso
    cases hK : M.inB K 0 (2 ^ P - 1) with
    | false =>
      rw [hK] at hso
      have Hso := Lib.hid hso
      clear hso ht0 ha
      go_enter Try.func12, Try.ntmps12
      go_wp2_with fail
      refine (sTextOk_c P s _).mono ?_
      rintro e w1 ⟨rfl, rfl⟩
      rw [ht]
      go_wp2_with fail
      refine (l1In_c _ _ _ _).mono ?_
      rintro e w1 ⟨rfl, rfl⟩
      go_wp2
      go_ret
      exact ⟨rb (by rw [Hso.out]; simp), rfl⟩
    | true =>
      have hK' := M.inB_true.1 hK
      obtain ⟨k, rfl⟩ := Int.eq_ofNat_of_zero_le (show 0 ≤ K by omega)
      have hk : k < 2 ^ P := by
        have e : ((2 ^ P : Nat) : Int) = (2 : Int) ^ P := by push_cast; rfl
        omega
      have hl : s.data.toList.length = s.size := by simp
      rw [hK, ha] at hso
      have hsay : M.say P s.data.toList = some a := by rw [M.claim_ok hp (by omega)] at ha; exact ha
      have hps := M.say_some.1 hsay
      have hread := l9Read_c P k s (by omega) (by omega) hk (by omega) (s.data.toList.length + 1) s.data.toList 0 w (by omega) (List.suffix_refl _) (by omega)
      have Hr := Lib.hid hread
      have Hp := Lib.hid hps
      have Hso := Lib.hid hso
      clear hread hl hps hso ht0 ha hsay hk hK'
      go_enter Try.func12, Try.ntmps12
      go_wp2_with fail
      refine (sTextOk_c P s _).mono ?_
      rintro e w1 ⟨rfl, rfl⟩
      rw [ht]
      go_wp2_with fail
      refine (l1In_c _ _ _ _).mono ?_
      rintro e w1 ⟨rfl, rfl⟩
      go_wp2_with fail
      refine Hr.out.mono ?_
      rintro e w' ⟨rfl, hr2⟩
      rw [Hp.out] at hr2
      simp only at hr2
      subst hr2
      go_wp2
      go_ret
      exact ⟨rb (by rw [Hso.out]; simp), rfl⟩

set_option maxHeartbeats 400000 in
theorem FnExactTextOk_w (w : World) (p : Int) (_hp : (Lit.int .i64 p).wf = true) (s : ByteArray) (hs : s.size ≤ maxLen) :
    Calls Try.prog 3 #[.int .i64 p, .string s] w fun e w' => e = .returned (.bool true) ∧ Below w.heap.size w w' := by
  unfold maxLen at hs
  by_cases hn : 1048576 < s.size
  · go_enter Try.func3, Try.ntmps3
    go_wp2
    go_ret
    exact ⟨rfl, Below.refl _ _⟩
  · go_enter Try.func3, Try.ntmps3
    go_wp2_with fail
    refine (sTextOk_c p s _).mono ?_
    rintro e w1 ⟨rfl, rfl⟩
    go_wp2_with fail
    refine (iTextOk_c p s _).mono ?_
    rintro e w2 ⟨rfl, hb⟩
    have e1 : ∀ b : Bool, (b != b) = false := by decide
    have e2 := e1 (M.textB p s.data.toList)
    clear e1
    go_wp2
    go_ret
    exact ⟨rfl, hb⟩

set_option maxHeartbeats 400000 in
theorem FnExactSoFor_w (w : World) (p : Int) (_hp : (Lit.int .i64 p).wf = true) (s : ByteArray) (hs : s.size ≤ maxLen) (K : Int) (_hK : (Lit.int .i64 K).wf = true) :
    Calls Try.prog 5 #[.int .i64 p, .string s, .int .i64 K] w fun e w' => e = .returned (.bool true) ∧ Below w.heap.size w w' := by
  unfold maxLen at hs
  by_cases hn : 1048576 < s.size
  · go_enter Try.func5, Try.ntmps5
    go_wp2
    go_ret
    exact ⟨rfl, Below.refl _ _⟩
  · go_enter Try.func5, Try.ntmps5
    go_wp2_with fail
    refine (sSoFor_c p s K _).mono ?_
    rintro e w1 ⟨rfl, rfl⟩
    go_wp2_with fail
    refine (iSoFor_c p s K _).mono ?_
    rintro e w2 ⟨rfl, hb⟩
    have e1 : ∀ b : Bool, (b != b) = false := by decide
    have e2 := e1 (M.soB p s.data.toList K)
    clear e1
    go_wp2
    go_ret
    exact ⟨rfl, hb⟩

end Go.Proofs.Ytbhpponandmgnaa
