/- Contracts of PaidFor, the program's and the reference's; the walk of the exact law. No condition but a row of at most 2 to the 20 prices. -/
import Derived.Test.YtdeoigdnhcamjaaPNeed
import Derived.Test.YtdeoigdnhcamjaaPRef
namespace Go.Proofs.Ytdeoigdnhcamjaa
open Go Go.RowKit
open M (nth)

namespace M
theorem paid_few {ps : List Int} {n x : Nat} {t : Way} (h : sz t < 2) : paid ps n t x = 0 := by
  cases t with
  | nil => rfl
  | node b o => simp only [paid]; rw [if_pos h]
theorem paid_here {ps : List Int} {n : Nat} {b o : Way} (h : ¬ sz (.node b o) < 2) : paid ps n (.node b o) (n + sz b) = nth ps (n + sz b) := by
  simp only [paid]; rw [if_neg h, if_pos trivial]
theorem paid_less {ps : List Int} {n x : Nat} {b o : Way} (h : ¬ sz (.node b o) < 2) (hx : x < n + sz b) : paid ps n (.node b o) x = nth ps (n + sz b) + paid ps n b x := by
  simp only [paid]; rw [if_neg h, if_neg (by omega), if_pos hx]
theorem paid_more {ps : List Int} {n x : Nat} {b o : Way} (h : ¬ sz (.node b o) < 2) (hx : n + sz b < x) : paid ps n (.node b o) x = nth ps (n + sz b) + paid ps (n + sz b + 1) o x := by
  simp only [paid]; rw [if_neg h, if_neg (by omega), if_neg (by omega)]
theorem paidF_no1 {ps : List Int} {l : Txt} {x : Int} (h : pricesB ps = false) : paidF ps l x = -1 := by simp [paidF, h]
theorem paidF_no2 {ps : List Int} {l : Txt} {x : Int} (h : inB x 0 ((ps.length : Int) - 1) = false) : paidF ps l x = -1 := by simp [paidF, h]
theorem paidF_no3 {ps : List Int} {l : Txt} {x : Int} (h : wayT ps.length l = none) : paidF ps l x = -1 := by simp [paidF, h]
theorem paidF_ok {ps : List Int} {l : Txt} {x : Nat} {t : Way} (h1 : pricesB ps = true) (h2 : inB (x : Int) 0 ((ps.length : Int) - 1) = true) (h : wayT ps.length l = some t) : paidF ps l (x : Int) = paid ps 0 t x := by simp [paidF, h1, h2, h]
end M

set_option maxHeartbeats 2000000 in
theorem iPaidFor_c (A : Option Addr) (m c : Nat) (ps : List Int) (s : ByteArray) (x : Int) (w : World) (h : RdI w A m ps) :
    Calls Try.prog 10 #[.slice A m c, .string s, .int .i64 x] w fun e w' => e = .returned (.int .i64 (M.paidF ps s.data.toList x)) ∧ Below w.heap.size w w' := by
  have hl := h.len
  have hbig := h.big
  have t1 : IntKind.i64.wrap ((m : Int) - 1) = (m : Int) - 1 := by rw [IntKind.wrap_i64]; omega
  go_enter Try.func10, Try.ntmps10
  go_wp2_with fail
  refine (iPricesOk_c A m c ps _ h).mono ?_
  rintro e w1 ⟨rfl, hb1⟩
  cases hp : M.pricesB ps with
  | false =>
    have Hf := Lib.hid (M.paidF_no1 (l := s.data.toList) (x := x) hp)
    go_wp2
    go_ret
    exact ⟨by rw [Hf.out]; rfl, hb1⟩
  | true =>
    obtain ⟨hm9, hall⟩ := M.prices_parts hp
    rw [hl] at hm9
    go_wp2_with fail
    refine (in_c _ _ _ _).mono ?_
    rintro e w' ⟨rfl, rfl⟩
    cases hin : M.inB x 0 ((m : Int) - 1) with
    | false =>
      have Hf := Lib.hid (M.paidF_no2 (ps := ps) (l := s.data.toList) (by rw [hl]; exact hin))
      go_wp2
      go_ret
      exact ⟨by rw [Hf.out]; rfl, hb1⟩
    | true =>
      have hx := M.inB_true.1 hin
      obtain ⟨x, rfl⟩ := Int.eq_ofNat_of_zero_le hx.1
      go_wp2_with fail
      refine (wayOf_c m s _ hm9).mono ?_
      rintro e w2 ⟨⟨p, ok, rfl, q1, q2⟩, hb2⟩
      have hb3 := bt hb1 hb2
      cases hw : M.wayT m s.data.toList with
      | none =>
        obtain rfl := q2 hw
        have Hf := Lib.hid (M.paidF_no3 (ps := ps) (l := s.data.toList) (x := (x : Int)) (by rw [hl]; exact hw))
        clear q1 q2 hw
        go_wp2
        go_ret
        exact ⟨by rw [Hf.out]; rfl, hb3⟩
      | some t0 =>
        obtain ⟨rfl, hR⟩ := q1 t0 hw
        have hsz := (M.way_some hw).2
        have Hf := Lib.hid (M.paidF_ok (x := x) hp (by rw [hl]; exact hin) (by rw [hl]; exact hw))
        have hr2 := h.below hb3
        have hpb := M.paid_bnd hall x t0 0
        have Hall := Lib.hid hall
        clear q1 q2 hw hin hx hp
        obtain ⟨B, hB⟩ : ∃ B, B = w1.heap.size + 1 := ⟨_, rfl⟩
        rw [← hB] at hR
        have hB0 : 0 < B := by omega
        clear hB
        generalize hT : M.paid ps 0 t0 x = T at *
        have HT := Lib.hid hT
        have hT0 := hpb.1
        have hT9 : T ≤ 450 := by omega
        clear hpb hT
        go_wp2_with fail
        go_loopg [7, 9] (M.sz t0) (fun gk v av wr => ∃ (n : Nat) (t : M.Way) (acc : Int), RepW wr B n t v ∧ n + M.sz t ≤ m ∧ M.sz t ≤ gk ∧ av = .int .i64 acc ∧ 0 ≤ acc ∧ Hid (T = acc + M.paid ps n t x) ∧ Quiet w2 wr)
        case atStart => exact ⟨0, t0, 0, hR, by omega, Nat.le_refl _, rfl, by omega, Lib.hid (by rw [HT.out]; omega), Quiet.refl _⟩
        case round =>
          obtain ⟨n, t, acc, hRr, hnm, hgk, rfl, hacc, HA, hq⟩ := hrel
          have hmany := many_c B hB0 t n _ _ hRr (by omega)
          have hrr := hr2.quiet hq
          have hpb := M.paid_bnd Hall.out x t n
          have hTA := HA.out
          by_cases h2 : M.sz t < 2
          · have Hend := Lib.hid (show M.paidF ps s.data.toList (x : Int) = acc by rw [Hf.out, HA.out, M.paid_few h2]; omega)
            have d2 : decide ((1 : Int) < (M.sz t : Nat)) = false := by simp; omega
            clear hR hr2 hTA hpb
            generalize M.sz t = z at *
            cases t with
            | nil =>
              obtain rfl : _ = Value.pointer none := hRr
              go_wp2_with fail
              refine hmany.mono ?_
              rintro e w4 ⟨rfl, hq4⟩
              go_wp2
              go_ret
              exact ⟨by rw [Hend.out]; rfl, Below.quiet hb3 (hq.trans hq4)⟩
            | node b o =>
              obtain ⟨g, vb, vo, rfl, hBg, hg, c0, c1, c2, h1, h2'⟩ := hRr
              go_wp2_with fail
              refine hmany.mono ?_
              rintro e w4 ⟨rfl, hq4⟩
              go_wp2
              go_ret
              exact ⟨by rw [Hend.out]; rfl, Below.quiet hb3 (hq.trans hq4)⟩
          · have d2 : decide ((1 : Int) < (M.sz t : Nat)) = true := by simp; omega
            obtain ⟨g1, rfl⟩ : ∃ g1, gk = g1 + 1 := ⟨gk - 1, by omega⟩
            clear hR hr2
            cases t with
            | nil => exact absurd (show M.sz .nil < 2 by simp [M.sz]) h2
            | node b o =>
              have hh := M.paid_here (ps := ps) (n := n) h2
              have hll := M.paid_less (ps := ps) (n := n) (x := x) h2
              have hmm := M.paid_more (ps := ps) (n := n) (x := x) h2
              have hsz2 : M.sz (.node b o) = M.sz b + M.sz o + 1 := rfl
              obtain ⟨g, vb, vo, rfl, hBg, hg, c0, c1, c2, h1, h2'⟩ := hRr
              obtain ⟨k, hk⟩ : ∃ k, k = n + M.sz b := ⟨_, rfl⟩
              rw [← hk] at c0 h2' hh hll hmm
              have hpB := M.paid_bnd Hall.out x b n
              have hpO := M.paid_bnd Hall.out x o (k + 1)
              have hpu := M.nth_bnd Hall.out k
              obtain ⟨ad, rfl, hadb, hcell⟩ := hrr.at_ (k := k) (by omega)
              have hu : acc + nth ps k ≤ 450 := by
                by_cases e1 : x = k
                · subst e1; rw [hh] at hTA; omega
                · by_cases e2 : x < k
                  · rw [hll e2] at hTA; omega
                  · rw [hmm (by omega)] at hTA; omega
              have w1 : IntKind.i64.wrap (acc + nth ps k) = acc + nth ps k := by rw [IntKind.wrap_i64]; omega
              have hkm : k < m := by omega
              have Hk := Lib.hid hk
              have Hsz2 := Lib.hid hsz2
              by_cases e1 : x = k
              · have Hend := Lib.hid (show M.paidF ps s.data.toList (x : Int) = acc + nth ps k by rw [Hf.out, hTA, e1, hh])
                have l1 : decide ((x : Int) < (k : Int)) = false := by simp; omega
                have l2 : decide ((k : Int) < (x : Int)) = false := by simp; omega
                have n1 : ¬ x < k := by omega
                have n2 : ¬ k < x := by omega
                clear hpB hpO hpu hTA hh hll hmm hpb hk hsz2 e1 h2
                go_wp2_with fail
                refine hmany.mono ?_
                rintro e w4 ⟨rfl, hq4⟩
                have f0 := hq4.cell c0
                have f1 := hq4.cell hcell
                go_wp2
                go_ret
                exact ⟨by rw [Hend.out]; rfl, Below.quiet hb3 (hq.trans hq4)⟩
              · by_cases e2 : x < k
                · have HA2 := Lib.hid (show T = acc + nth ps k + M.paid ps n b x by rw [hTA, hll e2]; omega)
                  have l1 : decide ((x : Int) < (k : Int)) = true := by simp; omega
                  have hacc2 : 0 ≤ acc + nth ps k := by omega
                  clear hpB hpO hpu hTA hh hll hmm hpb hk hsz2 e1 h2
                  go_wp2_with fail
                  refine hmany.mono ?_
                  rintro e w4 ⟨rfl, hq4⟩
                  have f0 := hq4.cell c0
                  have f1 := hq4.cell hcell
                  have f2 := hq4.cell c1
                  have hh1 := h1.quiet hq4 hB0
                  go_wp2
                  go_roundg g1
                  case measure => omega
                  case rel => exact ⟨n, b, acc + nth ps k, hh1, by have := Hsz2.out; omega, by have := Hsz2.out; omega, rfl, hacc2, HA2, hq.trans hq4⟩
                · have HA2 := Lib.hid (show T = acc + nth ps k + M.paid ps (k + 1) o x by rw [hTA, hmm (by omega)]; omega)
                  have l1 : decide ((x : Int) < (k : Int)) = false := by simp; omega
                  have l2 : decide ((k : Int) < (x : Int)) = true := by simp; omega
                  have n2 : k < x := by omega
                  have hacc2 : 0 ≤ acc + nth ps k := by omega
                  clear hpB hpO hpu hTA hh hll hmm hpb hk hsz2 e1 h2
                  go_wp2_with fail
                  refine hmany.mono ?_
                  rintro e w4 ⟨rfl, hq4⟩
                  have f0 := hq4.cell c0
                  have f1 := hq4.cell hcell
                  have f2 := hq4.cell c2
                  have hh1 := h2'.quiet hq4 hB0
                  go_wp2
                  go_roundg g1
                  case measure => omega
                  case rel => exact ⟨k + 1, o, acc + nth ps k, hh1, by have := Hsz2.out; have := Hk.out; omega, by have := Hsz2.out; omega, rfl, hacc2, HA2, hq.trans hq4⟩

end Go.Proofs.Ytdeoigdnhcamjaa
