/- Contracts of the reference's l3Read, PricesOk, NeedsOf. No condition but a row of at most 2 to the 20 prices. -/
import Derived.Test.YtdeoigdnhcamjaaPrM2
import Derived.Test.YtdeoigdnhcamjaaMem
namespace Go.Proofs.Ytdeoigdnhcamjaa
open Go Go.RowKit
open M (nth)

theorem M.drop_suf {L r : M.Txt} (h : r <:+ L) : L.drop (L.length - r.length) = r ∧ r.length ≤ L.length := by
  obtain ⟨t, rfl⟩ := h
  simp
theorem at_suf {s : ByteArray} {c : UInt8} {q : M.Txt} {t : Nat} (h : (c :: q) <:+ s.data.toList) (ht : t + (q.length + 1) = s.size) (hlt : t < s.size) : s[t] = c := by
  have h1 := (M.drop_suf h).1
  simp only [List.length_cons, Array.length_toList, ByteArray.size_data] at h1
  rw [show s.size - (q.length + 1) = t by omega] at h1
  have h2 : (s.data.toList.drop t)[0]? = some c := by rw [h1]; rfl
  rw [List.getElem?_drop] at h2
  have h3 : s.data.toList[t]? = some s[t] := by
    rw [List.getElem?_eq_getElem (by simpa using hlt)]; rfl
  rw [Nat.add_zero, h3] at h2
  exact Option.some.inj h2

/-- What the reference returns for what is read. -/
def rdV (s : ByteArray) : Option (Int × M.Txt) → Value
  | some (x, q) => .tuple #[.int .i64 x, .int .i64 ((s.size - q.length : Nat) : Int)]
  | none => .tuple #[.int .i64 0, .int .i64 (-1)]
/-- What is asked of l3Read for runs of at most D numbers. -/
def L3 (ps : List Int) (A : Option Addr) (m c : Nat) (s : ByteArray) (D : Nat) : Prop := ∀ (n to : Nat) (r : M.Txt) (t : Nat) (w : World), n ≤ to → to - n ≤ D → to ≤ m → RdI w A m ps → r <:+ s.data.toList → t + r.length = s.size →
    Calls Try.prog 12 #[.slice A m c, .string s, .int .i64 (t : Int), .int .i64 (n : Int), .int .i64 (to : Int)] w fun e w' => e = .returned (rdV s (M.rd ps n (to - n) r)) ∧ w = w'

set_option maxHeartbeats 1000000 in
theorem l3_nil (ps : List Int) (A : Option Addr) (m c : Nat) (s : ByteArray) (n to t : Nat) (w : World) (ht : t = s.size) :
    Calls Try.prog 12 #[.slice A m c, .string s, .int .i64 (t : Int), .int .i64 (n : Int), .int .i64 (to : Int)] w fun e w' => e = .returned (rdV s (M.rd ps n (to - n) [])) ∧ w = w' := by
  have d1 : decide ((s.size : Int) ≤ (t : Int)) = true := decide_eq_true (by omega)
  have hle : s.size ≤ t := by omega
  clear ht
  go_enter Try.func12, Try.ntmps12
  go_wp2
  go_ret2
  exact ⟨rfl, rfl⟩

set_option maxHeartbeats 1000000 in
theorem l3_zero (ps : List Int) (A : Option Addr) (m c : Nat) (s : ByteArray) (hsz : s.size ≤ 9223372036854775807) (n : Nat) (ch : UInt8) (r : M.Txt) (t : Nat) (w : World) (hsuf : (ch :: r) <:+ s.data.toList) (ht : t + (r.length + 1) = s.size) :
    Calls Try.prog 12 #[.slice A m c, .string s, .int .i64 (t : Int), .int .i64 (n : Int), .int .i64 (n : Int)] w fun e w' => e = .returned (rdV s (M.rd ps n 0 (ch :: r))) ∧ w = w' := by
  have htlt : t < s.size := by omega
  have d1 : decide ((s.size : Int) ≤ (t : Int)) = false := decide_eq_false (by omega)
  have hix : s[t] = ch := at_suf hsuf ht htlt
  have hnn : ((n : Int) == (n : Int)) = true := by simp
  by_cases hc : ch.toNat = 46
  · have Hs := Lib.hid (M.rd_dot (ps := ps) (n := n) (r := r) hc)
    have hxx : s[t].toNat = 46 := by rw [hix]; exact hc
    have t1 : IntKind.i64.wrap ((t : Int) + 1) = (t : Int) + 1 := by rw [IntKind.wrap_i64]; omega
    have Ht := Lib.hid ht
    clear hix hc ht hsuf
    go_enter Try.func12, Try.ntmps12
    go_wp2
    go_ret2
    refine ⟨?_, rfl⟩
    rw [Hs.out]
    simp only [rdV]
    have := Ht.out
    rw [show ((s.size - r.length : Nat) : Int) = (t : Int) + 1 by omega]
    rfl
  · have Hs := Lib.hid (M.rd_nodot (ps := ps) (n := n) (r := r) hc)
    obtain ⟨v, hv⟩ : ∃ v, v = ch.toNat := ⟨_, rfl⟩
    have hxx : s[t].toNat = v := by rw [hix, hv]
    have e1 : ((v : Int) != 46) = true := by simp; omega
    clear hix hc ht hsuf hv
    go_enter Try.func12, Try.ntmps12
    go_wp2
    go_ret2
    exact ⟨by rw [Hs.out]; rfl, rfl⟩

theorem beq_nat (a b : Nat) : ((a : Int) == (b : Int)) = decide (a = b) := by rw [Bool.eq_iff_iff]; simp; omega

set_option maxRecDepth 100000 in
set_option maxHeartbeats 8000000 in
theorem l3_step (ps : List Int) (A : Option Addr) (m c : Nat) (s : ByteArray) (hsz : s.size ≤ 9223372036854775807) (hm9 : m ≤ 9) (hps : M.allB ps 0 50 = true) (D : Nat) (hI : L3 ps A m c s D) (n d : Nat) (hd : d ≤ D) (ch : UInt8) (r : M.Txt) (t : Nat) (w : World) (hto : n + d + 1 ≤ m)
    (hr : RdI w A m ps) (hsuf : (ch :: r) <:+ s.data.toList) (ht : t + (r.length + 1) = s.size) :
    Calls Try.prog 12 #[.slice A m c, .string s, .int .i64 (t : Int), .int .i64 (n : Int), .int .i64 ((n + d + 1 : Nat) : Int)] w fun e w' => e = .returned (rdV s (M.rd ps n (d + 1) (ch :: r))) ∧ w = w' := by
  have htlt : t < s.size := by omega
  have d1 : decide ((s.size : Int) ≤ (t : Int)) = false := decide_eq_false (by omega)
  have d1n : decide (s.size ≤ t) = false := decide_eq_false (by omega)
  have hix : s[t] = ch := at_suf hsuf ht htlt
  obtain ⟨to, hto'⟩ : ∃ to, to = n + d + 1 := ⟨_, rfl⟩
  rw [← hto'] at hto ⊢
  have hnn : ((n : Int) == (to : Int)) = false := by simp; omega
  by_cases hc : ch.toNat = 40
  · have hxx : s[t].toNat = 40 := by rw [hix]; exact hc
    obtain ⟨t1, ht1⟩ : ∃ t1, t1 = t + 1 := ⟨_, rfl⟩
    have w1 : IntKind.i64.wrap ((t : Int) + 1) = (t1 : Int) := by rw [IntKind.wrap_i64]; omega
    have hrs : r <:+ s.data.toList := (List.suffix_cons _ _).trans hsuf
    have hcl := M.cost_bnd hps
    have Hhit := Lib.hid (fun i a b q2 (hi : i ≤ d) (h : M.Hit ps n d r i a b q2) => M.rd_yes (ps := ps) hc hi (by omega) h)
    have Hno := Lib.hid (M.rd_no (ps := ps) (n := n) (d := d) (r := r) hc)
    have H1 := Lib.hid (fun k (h1 : n ≤ k) (h2 : k < to) => hI n k r t1 w h1 (by omega) (by omega) hr hrs (by omega))
    have H2 := Lib.hid (fun kk q t2 (h1 : n + 1 ≤ kk) (h2 : kk ≤ to) (h3 : q <:+ s.data.toList) (h4 : t2 + q.length = s.size) => hI kk to q t2 w h2 (by omega) hto hr h3 h4)
    have Hr := Lib.hid (fun k (h2 : k < to) => hr.at_ (k := k) (by omega))
    have Hto := Lib.hid hto'
    have Hps := Lib.hid (M.nth_bnd hps)
    have Hrs := Lib.hid hrs
    have Hcost := Lib.hid (show ∀ n' d' r' x q, d' ≤ 9 → M.rd ps n' d' r' = some (x, q) → 0 ≤ x ∧ x ≤ 450 from fun n' d' r' x q h e => by
      obtain ⟨tt, -, h1, rfl⟩ := M.rd_some e
      have := hcl tt n'
      omega)
    have Htm := Lib.hid hto
    have hn9 : to ≤ 9 := by omega
    have hn0 : n < to := by omega
    have hd0 : n + d + 1 = to := by omega
    clear hix hc hI hr hsuf hrs hcl hto' ht1 hps hto
    go_enter Try.func12, Try.ntmps12
    go_wp2_with fail
    go_loopg [12] (d + 1) (fun gk kv wr => ∃ k : Nat, n ≤ k ∧ k + gk = to ∧ kv = .int .i64 k ∧ wr = w ∧ Hid (∀ j, n + j < k → ∀ a b q2, ¬ M.Hit ps n d r j a b q2))
    case atStart => exact ⟨n, Nat.le_refl _, by omega, rfl, rfl, Lib.hid (fun j hj => absurd hj (by omega))⟩
    case round =>
      obtain ⟨k, hnk, hkg, rfl, rfl, HJ⟩ := hrel
      by_cases hlt : k < to
      · obtain ⟨g1, rfl⟩ : ∃ g1, gk = g1 + 1 := ⟨gk - 1, by omega⟩
        obtain ⟨kk, hkk⟩ : ∃ kk, kk = k + 1 := ⟨_, rfl⟩
        have wk : IntKind.i64.wrap ((k : Int) + 1) = (kk : Int) := by rw [IntKind.wrap_i64]; omega
        have Hkk := Lib.hid hkk
        have Hnext := Lib.hid (show (∀ a b q2, ¬ M.Hit ps n d r (k - n) a b q2) → Hid (∀ j, n + j < k + 1 → ∀ a b q2, ¬ M.Hit ps n d r j a b q2) from fun h => Lib.hid (fun j hj => by
          by_cases e : n + j = k
          · have : j = k - n := by omega
            subst this; exact h
          · exact HJ.out j (by omega)))
        clear hkk
        go_wp2_with fail
        refine (H1.out k hnk hlt).mono ?_
        rintro e w2 ⟨rfl, rfl⟩
        cases hX : M.rd ps n (k - n) r with
        | none =>
          have Hn := Lib.hid (Hnext.out fun a b q2 h => by obtain ⟨q1, e, e2, h1, -⟩ := h; rw [hX] at h1; cases h1)
          simp only [rdV]
          go_wp2
          go_roundg g1
          case measure => omega
          case rel => exact ⟨k + 1, by omega, by omega, by have := Hkk.out; go_num, rfl, Hn.out⟩
        | some y =>
          obtain ⟨a, q1⟩ := y
          have hs1 : q1 <:+ s.data.toList := (M.rd_suf hX).trans Hrs.out
          have hq1l : q1.length ≤ s.size := by have := (M.drop_suf hs1).2; simpa using this
          obtain ⟨u, hu⟩ : ∃ u, u + q1.length = s.size := ⟨s.size - q1.length, by omega⟩
          have hrv : rdV s (some (a, q1)) = .tuple #[.int .i64 a, .int .i64 (u : Int)] := by simp only [rdV]; rw [show s.size - q1.length = u by omega]
          rw [hrv]
          have ha := Hcost.out n (k - n) r a q1 (by omega) hX
          have HX := Lib.hid hX
          have Hs1 := Lib.hid hs1
          clear hrv hX hs1 hq1l
          cases q1 with
          | nil =>
            simp only [List.length_nil, Nat.add_zero] at hu
            have hle : s.size ≤ u := by omega
            have d3 : decide ((s.size : Int) ≤ (u : Int)) = true := decide_eq_true (by omega)
            have Hn := Lib.hid (Hnext.out fun a b q2 h => by obtain ⟨q1, e, e2, h1, -⟩ := h; rw [HX.out] at h1; cases h1)
            clear hu
            go_wp2
            go_roundg g1
            case measure => omega
            case rel => exact ⟨k + 1, by omega, by omega, by have := Hkk.out; go_num, rfl, Hn.out⟩
          | cons e q1 =>
            simp only [List.length_cons] at hu
            have hult : u < s.size := by omega
            have d3 : decide ((s.size : Int) ≤ (u : Int)) = false := decide_eq_false (by omega)
            have hix1 : s[u] = e := at_suf Hs1.out hu hult
            obtain ⟨v, hv⟩ : ∃ v, v = e.toNat := ⟨_, rfl⟩
            have hxx1 : s[u].toNat = v := by rw [hix1, hv]
            have Hv := Lib.hid hv
            obtain ⟨k1, hk1⟩ : ∃ k1, k1 = 48 + k := ⟨_, rfl⟩
            have w48 : IntKind.i64.wrap (48 + (k : Int)) = (k1 : Int) := by rw [IntKind.wrap_i64]; omega
            have w8 : IntKind.u8.wrap (k1 : Int) = (k1 : Int) := by rw [IntKind.wrap_u8]; omega
            have Hk1 := Lib.hid hk1
            clear hix1 hv hk1
            by_cases hvk : v = k1
            · have en : ((v : Int) != (k1 : Int)) = false := by simp; omega
              have Hvk := Lib.hid hvk
              obtain ⟨u1, hu1⟩ : ∃ u1, u1 = u + 1 := ⟨_, rfl⟩
              have wu : IntKind.i64.wrap ((u : Int) + 1) = (u1 : Int) := by rw [IntKind.wrap_i64]; omega
              have hq1s : q1 <:+ s.data.toList := (List.suffix_cons _ _).trans Hs1.out
              have Hcall := Lib.hid (H2.out kk q1 u1 (by have := Hkk.out; omega) (by have := Hkk.out; omega) hq1s (by omega))
              have Hq1s := Lib.hid hq1s
              clear hu hu1 hvk hq1s
              go_wp2_with fail
              refine Hcall.out.mono ?_
              rintro e w3 ⟨rfl, rfl⟩
              have Hpar := Lib.hid (show n + (k - n) + 1 = kk ∧ d - (k - n) = to - kk from ⟨by have := Hkk.out; omega, by have := Hkk.out; omega⟩)
              cases hY : M.rd ps kk (to - kk) q1 with
              | none =>
                have Hn := Lib.hid (Hnext.out fun a b q2 h => by
                  obtain ⟨q1', e, e2, h1, -, h2, -⟩ := h
                  rw [HX.out] at h1
                  cases h1
                  rw [Hpar.out.1, Hpar.out.2, hY] at h2
                  cases h2)
                simp only [rdV]
                go_wp2
                go_roundg g1
                case measure => omega
                case rel => exact ⟨k + 1, by omega, by omega, by have := Hkk.out; go_num, rfl, Hn.out⟩
              | some y =>
                obtain ⟨b, q2⟩ := y
                have hs2 : q2 <:+ s.data.toList := (M.rd_suf hY).trans Hq1s.out
                have hq2l : q2.length ≤ s.size := by have := (M.drop_suf hs2).2; simpa using this
                obtain ⟨x, hx⟩ : ∃ x, x + q2.length = s.size := ⟨s.size - q2.length, by omega⟩
                have hrv : rdV s (some (b, q2)) = .tuple #[.int .i64 b, .int .i64 (x : Int)] := by simp only [rdV]; rw [show s.size - q2.length = x by omega]
                rw [hrv]
                have hb := Hcost.out kk (to - kk) q1 b q2 (by omega) hY
                have HY := Lib.hid hY
                have Hs2 := Lib.hid hs2
                clear hrv hY hs2 hq2l
                cases q2 with
                | nil =>
                  simp only [List.length_nil, Nat.add_zero] at hx
                  have hle : ¬ x < s.size := by omega
                  have d4 : decide ((x : Int) < (s.size : Int)) = false := decide_eq_false (by omega)
                  have Hn := Lib.hid (Hnext.out fun a b q2 h => by
                    obtain ⟨q1', e, e2, h1, -, h2, -⟩ := h
                    rw [HX.out] at h1
                    cases h1
                    rw [Hpar.out.1, Hpar.out.2, HY.out] at h2
                    cases h2)
                  clear hx
                  go_wp2
                  go_roundg g1
                  case measure => omega
                  case rel => exact ⟨k + 1, by omega, by omega, by have := Hkk.out; go_num, rfl, Hn.out⟩
                | cons e2 q2 =>
                  simp only [List.length_cons] at hx
                  have hxlt : x < s.size := by omega
                  have d4 : decide ((x : Int) < (s.size : Int)) = true := decide_eq_true (by omega)
                  have hix2 : s[x] = e2 := at_suf Hs2.out hx hxlt
                  by_cases he2 : e2.toNat = 41
                  · have hxx2 : s[x].toNat = 41 := by rw [hix2]; exact he2
                    have wx : IntKind.i64.wrap ((x : Int) + 1) = (x : Int) + 1 := by rw [IntKind.wrap_i64]; omega
                    have hHit : M.Hit ps n d r (k - n) a b q2 := ⟨q1, e, e2, HX.out, by rw [← Hv.out, Hvk.out, Hk1.out]; omega, by rw [Hpar.out.1, Hpar.out.2]; exact HY.out, he2⟩
                    have Hres := Lib.hid (Hhit.out (k - n) a b q2 (by omega) hHit)
                    have Hkn := Lib.hid (show n + (k - n) = k by omega)
                    have Hend := Lib.hid (show ((s.size - q2.length : Nat) : Int) = (x : Int) + 1 by omega)
                    obtain ⟨ad, rfl, hadb, hcell⟩ := Hr.out k hlt
                    have hp := Hps.out k
                    have hkm : k < m := by have := Htm.out; omega
                    obtain ⟨dd, hdd⟩ : ∃ dd, dd = d + 1 := ⟨_, rfl⟩
                    have wd : IntKind.i64.wrap ((to : Int) - (n : Int)) = (dd : Int) := by rw [IntKind.wrap_i64]; omega
                    by_cases hd0' : d = 0
                    · have ed : ((dd : Int) == 1) = true := by simp; omega
                      have Hd := Lib.hid hd0'
                      clear hix2 he2 hHit hx hdd hd0' hd0 hd
                      go_wp2
                      go_ret2
                      refine ⟨?_, rfl⟩
                      rw [Hres.out, if_pos Hd.out]
                      simp only [rdV]
                      rw [Hend.out]
                      rfl
                    · have ed : ((dd : Int) == 1) = false := by simp; omega
                      have Hres2 := Lib.hid (show M.rd ps n (d + 1) (ch :: r) = some (nth ps k + max a b, q2) by rw [Hres.out, if_neg hd0', Hkn.out])
                      clear hix2 he2 hHit hx hdd hd0' hd0 hd
                      generalize nth ps k = y at *
                      go_wp2
                      all_goals
                        go_ret2
                        refine ⟨?_, rfl⟩
                        rw [Hres2.out]
                        simp only [rdV]
                        rw [Hend.out]
                        first
                          | (rw [show max a b = a by omega]; rfl)
                          | (rw [show max a b = b by omega]; rfl)
                  · obtain ⟨v2, hv2⟩ : ∃ v2, v2 = e2.toNat := ⟨_, rfl⟩
                    have hxx2 : s[x].toNat = v2 := by rw [hix2, hv2]
                    have ev2 : ((v2 : Int) == 41) = false := by simp; omega
                    have Hn := Lib.hid (Hnext.out fun a b q2 h => by
                      obtain ⟨q1', e', e2', h1, -, h2, h3⟩ := h
                      rw [HX.out] at h1
                      cases h1
                      rw [Hpar.out.1, Hpar.out.2, HY.out] at h2
                      cases h2
                      exact he2 h3)
                    clear hix2 hv2 he2 hx
                    go_wp2
                    go_roundg g1
                    case measure => omega
                    case rel => exact ⟨k + 1, by omega, by omega, by have := Hkk.out; go_num, rfl, Hn.out⟩
            · have en : ((v : Int) != (k1 : Int)) = true := by simp; omega
              have Hn := Lib.hid (Hnext.out fun a b q2 h => by
                obtain ⟨q1', e', e2, h1, h2, -⟩ := h
                rw [HX.out] at h1
                cases h1
                have := Hv.out
                have := Hk1.out
                omega)
              clear hu hvk
              go_wp2
              go_roundg g1
              case measure => omega
              case rel => exact ⟨k + 1, by omega, by omega, by have := Hkk.out; go_num, rfl, Hn.out⟩
      · obtain rfl : k = to := by omega
        obtain rfl : gk = 0 := by omega
        have Hf := Lib.hid (Hno.out fun i hi a b q2 => HJ.out i (by omega) a b q2)
        go_wp2
        go_ret2
        exact ⟨by rw [Hf.out]; rfl, rfl⟩
  · have Hs := Lib.hid (M.rd_noopen (ps := ps) (n := n) (d := d) (r := r) hc)
    obtain ⟨v, hv⟩ : ∃ v, v = ch.toNat := ⟨_, rfl⟩
    have hxx : s[t].toNat = v := by rw [hix, hv]
    have e1 : ((v : Int) != 40) = true := by simp; omega
    clear hix hc ht hsuf hv hto hto' hI
    go_enter Try.func12, Try.ntmps12
    go_wp2
    go_ret2
    exact ⟨by rw [Hs.out]; rfl, rfl⟩

theorem l3_c (ps : List Int) (A : Option Addr) (m c : Nat) (s : ByteArray) (hsz : s.size ≤ 9223372036854775807) (hm9 : m ≤ 9) (hps : M.allB ps 0 50 = true) (D : Nat) : L3 ps A m c s D := by
  induction D with
  | zero =>
    intro n to r t w h1 h2 h3 hr hs ht
    obtain rfl : n = to := by omega
    cases r with
    | nil => exact l3_nil ps A m c s n n t w (by simpa using ht)
    | cons ch r => rw [Nat.sub_self]; exact l3_zero ps A m c s hsz n ch r t w hs (by simpa using ht)
  | succ D ih =>
    intro n to r t w h1 h2 h3 hr hs ht
    cases r with
    | nil => exact l3_nil ps A m c s n to t w (by simpa using ht)
    | cons ch r =>
      by_cases e : n = to
      · subst e; rw [Nat.sub_self]; exact l3_zero ps A m c s hsz n ch r t w hs (by simpa using ht)
      · obtain ⟨d, rfl⟩ : ∃ d, to = n + d + 1 := ⟨to - n - 1, by omega⟩
        have := l3_step ps A m c s hsz hm9 hps D ih n d (by omega) ch r t w (by omega) hr hs (by simpa using ht)
        rw [show n + d + 1 - n = d + 1 by omega]
        exact this

set_option maxHeartbeats 1000000 in
theorem sPricesOk_c (A : Option Addr) (n c : Nat) (ps : List Int) (w : World) (h : RdI w A n ps) : Calls Try.prog 11 #[.slice A n c] w fun e w' => e = .returned (.bool (M.pricesB ps)) ∧ w = w' := by
  have hl := h.len
  have hbig := h.big
  go_enter Try.func11, Try.ntmps11
  go_wp2_with fail
  go_loopg [3] n (fun gk i wr => ∃ k : Nat, k + gk = n ∧ i = .int .i64 k ∧ wr = w ∧ Hid (∀ j, j < k → M.inB (nth ps j) 0 50 = true))
  case atStart => exact ⟨0, by omega, rfl, rfl, Lib.hid (fun j hj => absurd hj (Nat.not_lt_zero _))⟩
  case round =>
    obtain ⟨k, hkg, rfl, rfl, Hall⟩ := hrel
    by_cases hlt : k < n
    · obtain ⟨g, rfl⟩ : ∃ g, gk = g + 1 := ⟨gk - 1, by omega⟩
      obtain ⟨ad, rfl, hadb, hcell⟩ := h.at_ hlt
      go_wp2_with fail
      refine (l1In_c _ _ _ _).mono ?_
      rintro e w1 ⟨rfl, rfl⟩
      cases hi : M.inB (nth ps k) 0 50 with
      | false =>
        have Hf := Lib.hid (show M.pricesB ps = false by simp [M.pricesB, M.allB_false (k := k) (by omega) (M.inB_false.1 hi)])
        go_wp2
        go_ret
        exact ⟨rb Hf.out.symm, rfl⟩
      | true =>
        have Hi := Lib.hid hi
        clear hi
        go_wp2
        go_roundg g
        case measure => omega
        case rel => exact ⟨k + 1, by omega, by go_num, by first | rfl | trivial, Lib.hid (fun j hj => by
          by_cases e : j = k
          · subst e; exact Hi.out
          · exact Hall.out j (by omega))⟩
    · obtain rfl : k = n := by omega
      obtain rfl : gk = 0 := by omega
      have hall : M.allB ps 0 50 = true := M.allB_iff.2 fun j hj => M.inB_true.1 (Hall.out j (by omega))
      have Hf := Lib.hid (show M.pricesB ps = decide (k ≤ 9) by simp [M.pricesB, hall, hl])
      have e9 : decide ((k : Int) ≤ 9) = decide (k ≤ 9) := by simp; omega
      go_wp2
      go_ret
      exact ⟨by rw [Hf.out]; rfl, rfl⟩

theorem M.need_rd {ps : List Int} {l : M.Txt} (hp : M.pricesB ps = true) : M.needsF ps l = match M.rd ps 0 ps.length l with | some (x, []) => x | _ => -1 := by
  unfold M.needsF M.wayT M.rd
  rw [if_pos hp]
  cases hx : M.pt (l.length + 1) 0 l with
  | none => rfl
  | some y =>
    obtain ⟨t, q⟩ := y
    by_cases hs : M.sz t = ps.length
    · cases q with
      | nil => simp [hs]
      | cons e q => simp [hs]
    · cases q with
      | nil => simp [hs]
      | cons e q => simp [hs]

set_option maxHeartbeats 1000000 in
theorem sNeedsOf_c (A : Option Addr) (n c : Nat) (ps : List Int) (s : ByteArray) (w : World) (h : RdI w A n ps) (hsz : s.size ≤ 9223372036854775807) :
    Calls Try.prog 5 #[.slice A n c, .string s] w fun e w' => e = .returned (.int .i64 (M.needsF ps s.data.toList)) ∧ w = w' := by
  have hl := h.len
  go_enter Try.func5, Try.ntmps5
  go_wp2_with fail
  refine (sPricesOk_c A n c ps _ h).mono ?_
  rintro e w1 ⟨rfl, rfl⟩
  cases hp : M.pricesB ps with
  | false =>
    have Hf := Lib.hid (show M.needsF ps s.data.toList = -1 by simp [M.needsF, hp])
    go_wp2
    go_ret
    exact ⟨by rw [Hf.out]; rfl, rfl⟩
  | true =>
    obtain ⟨hn9, hall⟩ := M.prices_parts hp
    have hrd := M.need_rd (l := s.data.toList) hp
    rw [hl] at hrd
    have hcall := l3_c ps A n c s hsz (by omega) hall n 0 n s.data.toList 0 w (by omega) (by omega) (by omega) h (List.suffix_refl _) (by simp)
    rw [Nat.sub_zero] at hcall
    have Hcall := Lib.hid hcall
    clear hcall
    go_wp2_with fail
    refine Hcall.out.mono ?_
    rintro e w1 ⟨rfl, rfl⟩
    cases hX : M.rd ps 0 n s.data.toList with
    | none =>
      rw [hX] at hrd
      have Hrd := Lib.hid hrd
      have e1 : (((-1 : Int)) != (s.size : Int)) = true := by simp <;> omega
      clear hrd
      simp only [rdV]
      go_wp2
      go_ret
      exact ⟨by rw [Hrd.out]; rfl, rfl⟩
    | some y =>
      obtain ⟨x, q⟩ := y
      have hq := (M.drop_suf (M.rd_suf hX)).2
      simp only [Array.length_toList, ByteArray.size_data] at hq
      obtain ⟨u, hu⟩ : ∃ u, u + q.length = s.size := ⟨s.size - q.length, by omega⟩
      have hrv : rdV s (some (x, q)) = .tuple #[.int .i64 x, .int .i64 (u : Int)] := by simp only [rdV]; rw [show s.size - q.length = u by omega]
      rw [hrv]
      rw [hX] at hrd
      cases q with
      | nil =>
        have Hrd := Lib.hid hrd
        have e1 : ((u : Int) != (s.size : Int)) = false := by simp at hu; simp <;> omega
        clear hrd hrv hX hu hq
        go_wp2
        go_ret
        exact ⟨by rw [Hrd.out]; rfl, rfl⟩
      | cons e q =>
        have Hrd := Lib.hid hrd
        have e1 : ((u : Int) != (s.size : Int)) = true := by simp at hu; simp <;> omega
        clear hrd hrv hX hu hq
        go_wp2
        go_ret
        exact ⟨by rw [Hrd.out]; rfl, rfl⟩

end Go.Proofs.Ytdeoigdnhcamjaa
