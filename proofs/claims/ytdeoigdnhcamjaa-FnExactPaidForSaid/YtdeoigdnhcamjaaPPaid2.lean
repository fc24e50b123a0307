/- The contract of the reference's PaidFor; the walk of the exact law. No condition but a row of at most 2 to the 20 prices. -/
import Derived.Test.YtdeoigdnhcamjaaPPaid
namespace Go.Proofs.Ytdeoigdnhcamjaa
open Go Go.RowKit
open M (nth)

namespace M
/-- The parts of a way of one number at least that is read. -/
theorem node_parts {ps : List Int} {n : Nat} {r q : Txt} {b o : Way} (h : pt (r.length + 1) n r = some (.node b o, q)) :
    ∃ c r1 d r2 e, r = c :: r1 ∧ pt (r1.length + 1) n r1 = some (b, d :: r2) ∧ n + sz b ≤ 8 ∧ d.toNat = 48 + (n + sz b) ∧ pt (r2.length + 1) (n + sz b + 1) r2 = some (o, e :: q) ∧
      (∀ i, i ≠ sz b → rd ps n i r1 = none) ∧ rd ps n (sz b) r1 = some (cost ps n b, d :: r2) := by
  match r, h with
  | [], h => cases h
  | c :: r1, h =>
    by_cases hc : c.toNat = 40
    · obtain ⟨b', o', d, r2, e, ht, hb, hn, hd, ho, he⟩ := pt_node hc h
      cases ht
      simp only [List.length_cons] at hb ho
      have hlt := (pt_short _ _ _ _ _ hb).1
      simp at hlt
      have hb' := hb
      refine ⟨c, r1, d, r2, e, rfl, hb, hn, hd, by rw [pt_same (g := r1.length + 1) (by omega) (by omega)]; exact ho, fun i hi => ?_, rd_of hb rfl⟩
      unfold rd
      rw [hb]
      simp only
      rw [if_neg (fun e => hi e.symm)]
    · by_cases hd : c.toNat = 46
      · rw [pt_dot hd] at h
        cases h
      · rw [pt_other hd hc] at h; cases h
theorem need_neg {ps : List Int} {l : Txt} (h1 : pricesB ps = true) (h : wayT ps.length l = none) : needsF ps l = -1 := by simp [needsF, h1, h]
theorem need_pos {ps : List Int} {l : Txt} {t : Way} (h1 : pricesB ps = true) (h : wayT ps.length l = some t) : needsF ps l = cost ps 0 t := by simp [needsF, h1, h]
theorem need_no {ps : List Int} {l : Txt} (h1 : pricesB ps = false) : needsF ps l = -1 := by simp [needsF, h1]
end M

set_option maxRecDepth 100000 in
set_option maxHeartbeats 4000000 in
theorem sPaidFor_c (A : Option Addr) (m c : Nat) (ps : List Int) (s : ByteArray) (x : Int) (w : World) (h : RdI w A m ps) (hsz : s.size ≤ 9223372036854775807) :
    Calls Try.prog 9 #[.slice A m c, .string s, .int .i64 x] w fun e w' => e = .returned (.int .i64 (M.paidF ps s.data.toList x)) ∧ w = w' := by
  have hl := h.len
  have hbig := h.big
  have t1 : IntKind.i64.wrap ((m : Int) - 1) = (m : Int) - 1 := by rw [IntKind.wrap_i64]; omega
  have d0 : decide ((-1 : Int) < 0) = true := rfl
  cases hp : M.pricesB ps with
  | false =>
    have Hf := Lib.hid (M.paidF_no1 (l := s.data.toList) (x := x) hp)
    have hn := M.need_no (l := s.data.toList) hp
    go_enter Try.func9, Try.ntmps9
    go_wp2_with fail
    refine (sNeedsOf_c A m c ps s _ h hsz).mono ?_
    rintro e w1 ⟨rfl, rfl⟩
    rw [hn]
    go_wp2
    go_ret
    exact ⟨by rw [Hf.out]; rfl, rfl⟩
  | true =>
    obtain ⟨hm9, hall⟩ := M.prices_parts hp
    rw [hl] at hm9
    cases hw : M.wayT m s.data.toList with
    | none =>
      have Hf := Lib.hid (M.paidF_no3 (ps := ps) (l := s.data.toList) (x := x) (by rw [hl]; exact hw))
      have hn := M.need_neg (l := s.data.toList) hp (by rw [hl]; exact hw)
      go_enter Try.func9, Try.ntmps9
      go_wp2_with fail
      refine (sNeedsOf_c A m c ps s _ h hsz).mono ?_
      rintro e w1 ⟨rfl, rfl⟩
      rw [hn]
      go_wp2
      go_ret
      exact ⟨by rw [Hf.out]; rfl, rfl⟩
    | some t0 =>
      have hn := M.need_pos (l := s.data.toList) hp (by rw [hl]; exact hw)
      have hc0 := (M.cost_bnd hall t0 0).1
      have dn : decide (M.cost ps 0 t0 < 0) = false := by simp; omega
      cases hin : M.inB x 0 ((m : Int) - 1) with
      | false =>
        have Hf := Lib.hid (M.paidF_no2 (ps := ps) (l := s.data.toList) (by rw [hl]; exact hin))
        go_enter Try.func9, Try.ntmps9
        go_wp2_with fail
        refine (sNeedsOf_c A m c ps s _ h hsz).mono ?_
        rintro e w1 ⟨rfl, rfl⟩
        rw [hn]
        go_wp2_with fail
        refine (l1In_c _ _ _ _).mono ?_
        rintro e w' ⟨rfl, rfl⟩
        rw [hin]
        go_wp2
        go_ret
        exact ⟨by rw [Hf.out]; rfl, rfl⟩
      | true =>
        have hx := M.inB_true.1 hin
        obtain ⟨x, rfl⟩ := Int.eq_ofNat_of_zero_le hx.1
        have Hf := Lib.hid (M.paidF_ok (x := x) hp (by rw [hl]; exact hin) (by rw [hl]; exact hw))
        have hpb := M.paid_bnd hall x t0 0
        obtain ⟨hpt, hszt⟩ := M.way_some hw
        generalize hT : M.paid ps 0 t0 x = T at *
        have HT := Lib.hid hT
        have hT9 : T ≤ 450 := by omega
        have Hpt := Lib.hid hpt
        have Hall := Lib.hid hall
        have HI := Lib.hid (l3_c ps A m c s hsz hm9 hall 9)
        have Hr := Lib.hid h
        have Hin := Lib.hid hin
        clear hpb hT hpt hw hx hall hin
        go_enter Try.func9, Try.ntmps9
        go_wp2_with fail
        refine (sNeedsOf_c A m c ps s _ h hsz).mono ?_
        rintro e w1 ⟨rfl, rfl⟩
        rw [hn]
        go_wp2_with fail
        refine (l1In_c _ _ _ _).mono ?_
        rintro e w' ⟨rfl, rfl⟩
        rw [Hin.out]
        go_wp2_with fail
        generalize M.cost ps 0 t0 = C0 at *
        go_loopg [7, 8, 9, 10] (M.sz t0) (fun gk pv av fv tv wr => ∃ (acc : Int) (at_ n to : Nat) (t : M.Way) (r q : M.Txt), pv = .int .i64 acc ∧ av = .int .i64 at_ ∧ fv = .int .i64 n ∧ tv = .int .i64 to ∧ wr = w ∧ n + M.sz t = to ∧ to ≤ m ∧ M.sz t ≤ gk ∧ 0 ≤ acc ∧
          Hid (r <:+ s.data.toList ∧ at_ + r.length = s.size ∧ M.pt (r.length + 1) n r = some (t, q) ∧ T = acc + M.paid ps n t x))
        case atStart => exact ⟨0, 0, 0, m, t0, s.data.toList, [], rfl, rfl, rfl, rfl, rfl, by omega, by omega, Nat.le_refl _, by omega, Lib.hid ⟨List.suffix_refl _, by simp, Hpt.out, by rw [HT.out]; omega⟩⟩
        case round =>
          obtain ⟨acc, at_, n, to, t, r, q, rfl, rfl, rfl, rfl, rfl, hnt, htm, hgk, hacc, HR⟩ := hrel
          by_cases h2 : M.sz t < 2
          · have Hend := Lib.hid (show M.paidF ps s.data.toList (x : Int) = acc by rw [Hf.out, HR.out.2.2.2, M.paid_few h2]; omega)
            have wt : IntKind.i64.wrap ((to : Int) - (n : Int)) = (M.sz t : Nat) := by rw [IntKind.wrap_i64]; omega
            generalize M.sz t = z at *
            go_wp2
            go_ret
            exact ⟨by rw [Hend.out]; rfl, rfl⟩
          · obtain ⟨g1, rfl⟩ : ∃ g1, gk = g1 + 1 := ⟨gk - 1, by omega⟩
            have wt : IntKind.i64.wrap ((to : Int) - (n : Int)) = (M.sz t : Nat) := by rw [IntKind.wrap_i64]; omega
            have dt : decide ((1 : Int) < (M.sz t : Nat)) = true := by simp; omega
            have dt' : 1 < M.sz t := by omega
            cases t with
            | nil => exact absurd (show M.sz .nil < 2 by simp [M.sz]) h2
            | node b o =>
              obtain ⟨hrs, hat, hpt, hTA⟩ := HR.out
              have hpb := M.paid_bnd Hall.out x (.node b o) n
              have hh := M.paid_here (ps := ps) (n := n) h2
              have hll := M.paid_less (ps := ps) (n := n) (x := x) h2
              have hmm := M.paid_more (ps := ps) (n := n) (x := x) h2
              have hsz2 : M.sz (.node b o) = M.sz b + M.sz o + 1 := rfl
              obtain ⟨c0, r1, d, r2, e, rfl, hb, hK8, hd, ho, hnone, hsome⟩ := M.node_parts (ps := ps) hpt
              obtain ⟨K, hK⟩ : ∃ K, K = n + M.sz b := ⟨_, rfl⟩
              rw [← hK] at hK8 hd ho hh hll hmm
              have hpB := M.paid_bnd Hall.out x b n
              have hpO := M.paid_bnd Hall.out x o (K + 1)
              have hpu := M.nth_bnd Hall.out K
              have hr1s : r1 <:+ s.data.toList := (List.suffix_cons _ _).trans hrs
              have hdr2 : (d :: r2) <:+ s.data.toList := (M.rd_suf hsome).trans hr1s
              have hr2s : r2 <:+ s.data.toList := (List.suffix_cons _ _).trans hdr2
              have hl2 := (M.drop_suf hdr2).2
              simp only [List.length_cons, Array.length_toList, ByteArray.size_data] at hl2 hat
              obtain ⟨tv, htv⟩ : ∃ tv, tv = at_ + 1 := ⟨_, rfl⟩
              have wtv : IntKind.i64.wrap ((at_ : Int) + 1) = (tv : Int) := by rw [IntKind.wrap_i64]; omega
              obtain ⟨u, hu⟩ : ∃ u, u + (r2.length + 1) = s.size := ⟨s.size - (r2.length + 1), by omega⟩
              have hult : u < s.size := by omega
              have hix : s[u] = d := at_suf hdr2 hu hult
              obtain ⟨k1, hk1⟩ : ∃ k1, k1 = 48 + K := ⟨_, rfl⟩
              have hxx : s[u].toNat = k1 := by rw [hix, hd, hk1]
              have w48 : IntKind.i64.wrap (48 + (K : Int)) = (k1 : Int) := by rw [IntKind.wrap_i64]; omega
              have w8 : IntKind.u8.wrap (k1 : Int) = (k1 : Int) := by rw [IntKind.wrap_u8]; omega
              obtain ⟨u1, hu1⟩ : ∃ u1, u1 = u + 1 := ⟨_, rfl⟩
              have wu : IntKind.i64.wrap ((u : Int) + 1) = (u1 : Int) := by rw [IntKind.wrap_i64]; omega
              have hle : ¬ s.size ≤ u := by omega
              have d3 : decide ((s.size : Int) ≤ (u : Int)) = false := decide_eq_false (by omega)
              have hrv : rdV s (M.rd ps n (M.sz b) r1) = .tuple #[.int .i64 (M.cost ps n b), .int .i64 (u : Int)] := by rw [hsome]; simp only [rdV, List.length_cons]; rw [show s.size - (r2.length + 1) = u by omega]
              have Hrv := Lib.hid hrv
              have hKm : K < m := by omega
              obtain ⟨ad, rfl, hadb, hcell⟩ := Hr.out.at_ hKm
              have hu450 : acc + nth ps K ≤ 450 := by
                by_cases e1 : x = K
                · subst e1; rw [hh] at hTA; omega
                · by_cases e2 : x < K
                  · rw [hll e2] at hTA; omega
                  · rw [hmm (by omega)] at hTA; omega
              have wa : IntKind.i64.wrap (acc + nth ps K) = acc + nth ps K := by rw [IntKind.wrap_i64]; omega
              have hacc2 : 0 ≤ acc + nth ps K := by omega
              have hKt : K < to := by omega
              have hnK : n ≤ K := by omega
              have HB := Lib.hid (show x < K → r1 <:+ s.data.toList ∧ tv + r1.length = s.size ∧ M.pt (r1.length + 1) n r1 = some (b, d :: r2) ∧ T = acc + nth ps K + M.paid ps n b x from fun e2 => ⟨hr1s, by omega, hb, by rw [hTA, hll e2]; omega⟩)
              have HO := Lib.hid (show K < x → r2 <:+ s.data.toList ∧ u1 + r2.length = s.size ∧ M.pt (r2.length + 1) (K + 1) r2 = some (o, e :: q) ∧ T = acc + nth ps K + M.paid ps (K + 1) o x from fun e2 => ⟨hr2s, by omega, ho, by rw [hTA, hmm e2]; omega⟩)
              have HE := Lib.hid (show x = K → M.paidF ps s.data.toList (x : Int) = acc + nth ps K from fun e1 => by rw [Hf.out, hTA, e1, hh])
              have Hnone := Lib.hid (show ∀ k, n ≤ k → k ≠ K → M.rd ps n (k - n) r1 = none from fun k h1 h2 => hnone (k - n) (by omega))
              have HKn := Lib.hid (show K - n = M.sz b by omega)
              have Hsz2 := Lib.hid hsz2
              have HK := Lib.hid hK
              have Hcall := Lib.hid (fun k (h1 : n ≤ k) (h2 : k < to) => HI.out n k r1 tv wr h1 (by omega) (by omega) Hr.out hr1s (by omega))
              clear hrs hat hpt hTA hpb hh hll hmm hsz2 hb hK8 hd ho hnone hsome hpB hpO hpu hr1s hdr2 hr2s hl2 htv hu hix hk1 hu1 hrv hK
              obtain ⟨dk, hdk⟩ : ∃ dk, dk = to - n := ⟨_, rfl⟩
              go_wp2_with fail
              go_loopg [7, 8, 9, 10, 11] dk (fun gk2 pv av fv tv' kv wr2 => ∃ k : Nat, n ≤ k ∧ k ≤ K ∧ k + gk2 = to ∧ kv = .int .i64 k ∧ pv = .int .i64 acc ∧ av = .int .i64 at_ ∧ fv = .int .i64 n ∧ tv' = .int .i64 to ∧ wr2 = wr)
              case atStart => exact ⟨n, Nat.le_refl _, hnK, by omega, rfl, rfl, rfl, rfl, rfl, rfl⟩
              case round =>
                obtain ⟨k, hnk, hkK, hkg, rfl, rfl, rfl, rfl, rfl, rfl⟩ := hrel
                obtain ⟨g2, rfl⟩ : ∃ g2, gk = g2 + 1 := ⟨gk - 1, by omega⟩
                have hkt : k < to := by omega
                by_cases hk : k = K
                · subst hk
                  go_wp2_with fail
                  refine (Hcall.out k hnk hkt).mono ?_
                  rintro e' w2 ⟨rfl, rfl⟩
                  rw [HKn.out, Hrv.out]
                  by_cases e1 : x = k
                  · have Hend := Lib.hid (HE.out e1)
                    have ee : ((k : Int) == (x : Int)) = true := by simp; omega
                    clear e1
                    go_wp2
                    go_ret
                    exact ⟨by rw [Hend.out]; rfl, rfl⟩
                  · have ee : ((k : Int) == (x : Int)) = false := by simp; omega
                    by_cases e2 : x < k
                    · have l1 : decide ((x : Int) < (k : Int)) = true := by simp; omega
                      have Hb := Lib.hid (HB.out e2)
                      go_wp2
                      go_roundg g1
                      case measure => omega
                      case rel => exact ⟨acc + nth ps k, tv, n, k, b, r1, d :: r2, rfl, rfl, rfl, rfl, rfl, HK.out.symm, by omega, by have := Hsz2.out; omega, hacc2, Hb⟩
                    · have l1 : decide ((x : Int) < (k : Int)) = false := by simp; omega
                      have Ho := Lib.hid (HO.out (by omega))
                      obtain ⟨kk, hkk⟩ : ∃ kk, kk = k + 1 := ⟨_, rfl⟩
                      have wk : IntKind.i64.wrap ((k : Int) + 1) = (kk : Int) := by rw [IntKind.wrap_i64]; omega
                      rw [← hkk] at Ho
                      have Hkk := Lib.hid hkk
                      clear hkk
                      go_wp2
                      go_roundg g1
                      case measure => omega
                      case rel => exact ⟨acc + nth ps k, u1, kk, to, o, r2, e :: q, rfl, rfl, rfl, rfl, rfl, by have := Hsz2.out; have := HK.out; have := Hkk.out; omega, htm, by have := Hsz2.out; omega, hacc2, Ho⟩
                · have Hn := Lib.hid (Hnone.out k hnk hk)
                  go_wp2_with fail
                  refine (Hcall.out k hnk hkt).mono ?_
                  rintro e' w2 ⟨rfl, rfl⟩
                  rw [Hn.out]
                  simp only [rdV]
                  go_wp2
                  go_roundg g2
                  case measure => omega
                  case rel => exact ⟨k + 1, by omega, by omega, by omega, by go_num, rfl, rfl, rfl, rfl, rfl⟩

set_option maxHeartbeats 1000000 in
theorem FnExactPaidFor_w (w : World) (A : Option Addr) (n c : Nat) (xs : List Int) (h : RdI w A n xs) (s : ByteArray) (hs : s.size ≤ maxLen) (q : Int) (_hq : (Lit.int .i64 q).wf = true) :
    Calls Try.prog 4 #[.slice A n c, .string s, .int .i64 q] w fun e w' => e = .returned (.bool true) ∧ Below w.heap.size w w' := by
  have hbig := h.big
  have hs2 : s.size ≤ 9223372036854775807 := by unfold maxLen at hs; omega
  clear hs
  by_cases hn : 1048576 < n
  · go_enter Try.func4, Try.ntmps4
    go_wp2
    go_ret
    exact ⟨rfl, Below.refl _ _⟩
  · by_cases hz : 1048576 < s.size
    · go_enter Try.func4, Try.ntmps4
      go_wp2
      go_ret
      exact ⟨rfl, Below.refl _ _⟩
    · go_enter Try.func4, Try.ntmps4
      go_wp2_with fail
      refine (toIntS_c A n c xs _ h (by omega)).mono ?_
      rintro e w1 ⟨A1, n1, c1, rfl, ho1, hb1⟩
      go_wp2_with fail
      refine (sPaidFor_c A1 n1 c1 xs s q _ ho1.rd hs2).mono ?_
      rintro e w' ⟨rfl, rfl⟩
      go_wp2_with fail
      refine (toIntS_c A n c xs _ (h.below hb1) (by omega)).mono ?_
      rintro e w3 ⟨A2, n2, c2, rfl, ho2, hb3⟩
      go_wp2_with fail
      refine (iPaidFor_c A2 n2 c2 xs s q _ ho2.rd).mono ?_
      rintro e w4 ⟨rfl, hb4⟩
      have b4 := bt hb1 (bt hb3 hb4)
      go_wp2_with fail
      refine (toIntS_c A n c xs _ (h.below b4) (by omega)).mono ?_
      rintro e w5 ⟨A4, n4, c4, rfl, ho4, hb5⟩
      go_wp2_with fail
      refine (eqIntS_c A2 A4 n2 c2 n4 c4 xs xs _ ((ho2.below hb4).below hb5).rd ho4.rd).mono ?_
      rintro e w6 ⟨rfl, hq6⟩
      have e5 := M.eqL_refl xs
      go_wp2_with fail
      go_ret
      exact ⟨rfl, bt b4 (bt hb5 (hq6.below _))⟩

end Go.Proofs.Ytdeoigdnhcamjaa
