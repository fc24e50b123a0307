/- Contracts of the reference's reader of sayings. No condition. -/
import Derived.Test.YtbhpponandmgnaaCom
import Derived.Test.YtbhpponandmgnaaNMath
namespace Go.Proofs.Ytbhpponandmgnaa
open Go Go.RowKit
open M (nth)

namespace M
theorem rest2_suf {m : UInt8} {a : Say} {x : Option (Say × Txt)} {s : Say} {r : Txt} (h : rest2 m a x = some (s, r)) : ∃ b e, x = some (b, e :: r) ∧ e.toNat = 41 ∧ joint m a b = some s := rest2_some h
/-- What is left is an end of the text. -/
theorem ps_suf (p : Nat) : ∀ (f : Nat) (l : Txt) (s : Say) (r : Txt), ps p f l = some (s, r) → r <:+ l := by
  intro f
  induction f with
  | zero => intro l s r h; cases h
  | succ f ih =>
    intro l s r h
    match l, h with
    | [], h => cases h
    | c :: q, h =>
      simp only [ps] at h
      split at h
      · cases h; exact List.suffix_cons _ _
      · split at h
        · cases hx : ps p f q with
          | none => rw [hx] at h; cases h
          | some y =>
            rw [hx] at h
            simp only [Option.map_some, Option.some.injEq, Prod.mk.injEq] at h
            obtain ⟨rfl, rfl⟩ := h
            exact (ih q y.1 y.2 hx).trans (List.suffix_cons _ _)
        · split at h
          · match q, h with
            | [], h => cases h
            | d :: q', h =>
              simp only at h
              split at h
              · cases h; exact (List.suffix_cons _ _).trans (List.suffix_cons _ _)
              · cases h
          · split at h
            · cases hx : ps p f q with
              | none => rw [hx] at h; cases h
              | some y =>
                rw [hx] at h
                match y, hx, h with
                | (a, []), hx, h => cases h
                | (a, m :: r1), hx, h =>
                  obtain ⟨b, e, hb, -, -⟩ := rest2_some h
                  exact (((List.suffix_cons _ _).trans (ih _ _ _ hb)).trans ((List.suffix_cons _ _).trans (ih _ _ _ hx))).trans (List.suffix_cons _ _)
            · cases h
theorem drop_suf {L r : Txt} (h : r <:+ L) : L.drop (L.length - r.length) = r ∧ r.length ≤ L.length := by
  obtain ⟨t, rfl⟩ := h
  simp
theorem shr_two (x k : Nat) : Int.tmod ((x : Int) / 2 ^ k) 2 = ((x / 2 ^ k % 2 : Nat) : Int) := by
  have e : ((x : Int) / 2 ^ k) = ((x / 2 ^ k : Nat) : Int) := by simp
  rw [e, Int.tmod_eq_emod_of_nonneg (Int.natCast_nonneg _)]
  omega
theorem shr_two' (x k : Nat) : ((x : Int) / 2 ^ k) % 2 = ((x / 2 ^ k % 2 : Nat) : Int) := by
  have e : ((x : Int) / 2 ^ k) = ((x / 2 ^ k : Nat) : Int) := by simp
  rw [e]
  omega
theorem one_beq (y : Nat) : ((y : Int) == 1) = decide (y = 1) := by
  rw [Bool.eq_iff_iff]; simp; omega
end M

/-- What the reference's reader returns at a place of a text: whether the saying is so, and where it ends. -/
def Reads (w : World) (s : ByteArray) (p K f : Nat) (r : M.Txt) (e : Ending) (w' : World) : Prop :=
  w = w' ∧ match M.ps p f r with
    | some (a, q) => e = .returned (.tuple #[.bool (M.ev K a), .int .i64 ((s.size - q.length : Nat) : Int)])
    | none => ∃ b : Bool, e = .returned (.tuple #[.bool b, .int .i64 (-1)])
theorem reads_none {w : World} {s : ByteArray} {p K f : Nat} {r : M.Txt} (b : Bool) (h : M.ps p f r = none) : Reads w s p K f r (.returned (.tuple #[.bool b, .int .i64 (-1)])) w := ⟨rfl, by rw [h]; exact ⟨b, rfl⟩⟩
theorem reads_some {w : World} {s : ByteArray} {p K f : Nat} {r q : M.Txt} {a : M.Say} {b : Bool} {n : Int} (h : M.ps p f r = some (a, q)) (hb : b = M.ev K a) (hn : n = ((s.size - q.length : Nat) : Int)) : Reads w s p K f r (.returned (.tuple #[.bool b, .int .i64 n])) w := ⟨rfl, by rw [h, hb, hn]⟩

theorem at_suf {s : ByteArray} {c : UInt8} {q : M.Txt} {t : Nat} (h : (c :: q) <:+ s.data.toList) (ht : t + (q.length + 1) = s.size) (hlt : t < s.size) : s[t] = c := by
  have h1 := (M.drop_suf h).1
  simp only [List.length_cons, Array.length_toList, ByteArray.size_data] at h1
  rw [show s.size - (q.length + 1) = t by omega] at h1
  have h2 : (s.data.toList.drop t)[0]? = some c := by rw [h1]; rfl
  rw [List.getElem?_drop] at h2
  have h3 : s.data.toList[t]? = some s[t] := by
    rw [List.getElem?_eq_getElem (by simpa using hlt)]; rfl
  rw [Nat.add_zero, h3] at h2
  exact Option.some.inj h2
theorem ps_bang {p f : Nat} {c : UInt8} {q : M.Txt} (h : c.toNat = 33) : M.ps p (f + 1) (c :: q) = (M.ps p f q).map fun x => (.not x.1, x.2) := by
  simp only [M.ps]; rw [if_neg (by omega), if_pos h]

set_option maxRecDepth 100000 in
set_option maxHeartbeats 8000000 in
theorem l9Read_c (p K : Nat) (s : ByteArray) (hp1 : 1 ≤ p) (hp5 : p ≤ 5) (hK : K < 2 ^ p) (hs : s.size ≤ 1000) : ∀ (f : Nat) (r : M.Txt) (t : Nat) (w : World), r.length < f → r <:+ s.data.toList → t + r.length = s.size →
    Calls Try.prog 21 #[.int .i64 p, .string s, .int .i64 t, .int .i64 K] w (Reads w s p K f r) := by
  have hK32 : K < 32 := by
    have := Nat.pow_le_pow_right (n := 2) (by omega) hp5
    omega
  intro f
  induction f with
  | zero => intro r t w hr; omega
  | succ f ih =>
    intro r t w hr hsuf ht
    have Ih := Lib.hid ih
    clear ih
    have Hsuf := Lib.hid hsuf
    clear hsuf
    cases r with
    | nil =>
      simp at ht
      have d1 : decide ((s.size : Int) ≤ (t : Int)) = true := decide_eq_true (by omega)
      go_enter Try.func21, Try.ntmps21
      go_wp2
      go_ret2
      exact reads_none false rfl
    | cons c q =>
      simp at ht hr
      have htlt : t < s.size := by omega
      have d1 : decide ((s.size : Int) ≤ (t : Int)) = false := decide_eq_false (by omega)
      have hix : s[t] = c := at_suf Hsuf.out (by omega) htlt
      have hqsuf : q <:+ s.data.toList := (List.suffix_cons _ _).trans Hsuf.out
      have Hq := Lib.hid hqsuf
      clear hqsuf
      have hc256 : c.toNat < 256 := c.toNat_lt
      by_cases hA : 48 ≤ c.toNat ∧ c.toNat - 48 < p
      · have Hs := Lib.hid (show M.ps p (f + 1) (c :: q) = some (.who (c.toNat - 48), q) by simp only [M.ps]; rw [if_pos hA])
        obtain ⟨hA1, hA2⟩ := hA
        have hcases : c.toNat = 48 ∨ c.toNat = 49 ∨ c.toNat = 50 ∨ c.toNat = 51 ∨ c.toNat = 52 := by omega
        rcases hcases with hx | hx | hx | hx | hx
        all_goals
          have hxx := hx
          rw [← hix] at hxx
          have hpk := hA2
          rw [hx] at hpk Hs
          simp only [Nat.reduceSub] at hpk Hs
          clear hix hx hA1 hA2
          go_enter Try.func21, Try.ntmps21
          go_wp2
          go_ret2
          refine reads_some Hs.out ?_ (by omega)
          rw [Bool.eq_iff_iff]
          simp [M.ev]
          omega
      · by_cases hx33 : c.toNat = 33
        · have Hs := Lib.hid (ps_bang (p := p) (f := f) (q := q) hx33)
          have hxx : s[t].toNat = 33 := by rw [hix]; exact hx33
          have hcall := Ih.out q (t + 1) w (by omega) Hq.out (by omega)
          have e1 : ((t + 1 : Nat) : Int) = (t : Int) + 1 := by push_cast; rfl
          rw [e1] at hcall
          have Hc := Lib.hid hcall
          clear hix hx33 hA hcall e1
          go_enter Try.func21, Try.ntmps21
          go_wp2_with fail
          refine Hc.out.mono ?_
          rintro e w' ⟨rfl, hr2⟩
          cases hp : M.ps p f q with
          | none =>
            rw [hp] at hr2 Hs
            obtain ⟨b, rfl⟩ := hr2
            go_wp2
            go_ret2
            exact reads_none (!b) Hs.out
          | some y =>
            obtain ⟨a, q'⟩ := y
            rw [hp] at hr2 Hs
            subst hr2
            go_wp2
            go_ret2
            exact reads_some Hs.out rfl rfl
        · by_cases hx35 : c.toNat = 35
          · have hxx : s[t].toNat = 35 := by rw [hix]; exact hx35
            cases q with
            | nil =>
              have Hs := Lib.hid (show M.ps p (f + 1) [c] = none by simp only [M.ps]; rw [if_neg (by omega), if_neg (by omega), if_pos hx35])
              simp at ht
              have d2 : decide ((s.size : Int) ≤ (t : Int) + 1) = true := decide_eq_true (by omega)
              clear hix hx35 hA hx33
              go_enter Try.func21, Try.ntmps21
              go_wp2
              go_ret2
              exact reads_none false Hs.out
            | cons d q' =>
              have Hs := Lib.hid (show M.ps p (f + 1) (c :: d :: q') = if 48 ≤ d.toNat ∧ d.toNat ≤ 53 then some (.cnt (d.toNat - 48), q') else none by simp only [M.ps]; rw [if_neg (by omega), if_neg (by omega), if_pos hx35])
              simp at ht
              have htlt2 : t + 1 < s.size := by omega
              have hix2 : s[t + 1] = d := at_suf Hq.out (by omega) htlt2
              have hyy : s[t + 1].toNat = d.toNat := by rw [hix2]
              have hd : d.toNat < 256 := d.toNat_lt
              have d2 : decide ((s.size : Int) ≤ (t : Int) + 1) = false := decide_eq_false (by omega)
              clear hix hx35 hA hx33 hix2
              by_cases h1 : 48 ≤ d.toNat
              · by_cases h2 : d.toNat ≤ 53
                · have d3 : decide (((d.toNat : Nat) : Int) < (48 : Int)) = false := decide_eq_false (by omega)
                  have d4 : decide ((53 : Int) < ((d.toNat : Nat) : Int)) = false := decide_eq_false (by omega)
                  rw [if_pos ⟨h1, h2⟩] at Hs
                  have t1 : IntKind.u8.wrap (((d.toNat : Nat) : Int) - 48) = ((d.toNat - 48 : Nat) : Int) := by rw [IntKind.wrap_u8]; omega
                  have t2 : IntKind.i64.wrap ((d.toNat - 48 : Nat) : Int) = ((d.toNat - 48 : Nat) : Int) := by rw [IntKind.wrap_i64]; omega
                  have hy5 : d.toNat - 48 ≤ 5 := by omega
                  have Hkn := Lib.hid (M.kn_more p (by omega) K hK)
                  generalize d.toNat - 48 = y at *
                  generalize d.toNat = x at *
                  go_enter Try.func21, Try.ntmps21
                  go_wp2_with fail
                  go_loop [13, 14] (fun n i => ∃ j : Nat, j ≤ p ∧ i = .int .i64 j ∧ n = .int .i64 (M.kn K j : Nat)) (fun _ i => p - (intOf i).toNat)
                  case atStart => exact ⟨0, Nat.zero_le _, rfl, rfl⟩
                  case round =>
                    obtain ⟨j, hj, rfl, rfl⟩ := hrel
                    by_cases hlt : j < p
                    · have e1 := M.shr_two K j
                      have e2 := M.shr_two' K j
                      have hle := M.kn_le K j
                      have hm : K / 2 ^ j % 2 ≤ 1 := by omega
                      have Hn := Lib.hid (show M.kn K (j + 1) = M.kn K j + K / 2 ^ j % 2 from rfl)
                      generalize K / 2 ^ j % 2 = u at *
                      generalize M.kn K j = v at *
                      go_wp2
                      go_round
                      case rel => exact ⟨j + 1, by omega, by go_num, by rw [Hn.out]; go_num⟩
                      case measure => simp [intOf]; omega
                    · obtain rfl : j = p := by omega
                      go_wp2
                      go_ret2
                      refine reads_some Hs.out ?_ (by omega)
                      simp only [M.ev]
                      rw [Hkn.out, Bool.eq_iff_iff]
                      simp
                      omega
                · have d3 : decide (((d.toNat : Nat) : Int) < (48 : Int)) = false := decide_eq_false (by omega)
                  have d4 : decide ((53 : Int) < ((d.toNat : Nat) : Int)) = true := decide_eq_true (by omega)
                  rw [if_neg (by omega)] at Hs
                  clear h1 h2
                  generalize d.toNat = x at *
                  go_enter Try.func21, Try.ntmps21
                  go_wp2
                  go_ret2
                  exact reads_none false Hs.out
              · have d3 : decide (((d.toNat : Nat) : Int) < (48 : Int)) = true := decide_eq_true (by omega)
                rw [if_neg (by omega)] at Hs
                clear h1
                generalize d.toNat = x at *
                go_enter Try.func21, Try.ntmps21
                go_wp2
                go_ret2
                exact reads_none false Hs.out
          · by_cases hx40 : c.toNat = 40
            · have Hs := Lib.hid (show M.ps p (f + 1) (c :: q) = match M.ps p f q with
                | some (a, m :: r1) => M.rest2 m a (M.ps p f r1)
                | _ => none by simp only [M.ps]; rw [if_neg (by omega), if_neg (by omega), if_neg (by omega), if_pos hx40]; rfl)
              have hxx : s[t].toNat = 40 := by rw [hix]; exact hx40
              have hcall := Ih.out q (t + 1) w (by omega) Hq.out (by omega)
              have e1 : ((t + 1 : Nat) : Int) = (t : Int) + 1 := by push_cast; rfl
              rw [e1] at hcall
              have Hc := Lib.hid hcall
              clear hix hx40 hx35 hx33 hA hcall e1
              cases hp : M.ps p f q with
              | none =>
                rw [hp] at Hs
                have Hp := Lib.hid hp
                clear hp
                go_enter Try.func21, Try.ntmps21
                go_wp2_with fail
                refine Hc.out.mono ?_
                rintro e w' ⟨rfl, hr2⟩
                rw [Hp.out] at hr2
                obtain ⟨b, rfl⟩ := hr2
                go_wp2
                go_ret2
                exact reads_none false Hs.out
              | some y =>
                obtain ⟨a, q'⟩ := y
                cases q' with
                | nil =>
                  rw [hp] at Hs
                  have Hp := Lib.hid hp
                  clear hp
                  go_enter Try.func21, Try.ntmps21
                  go_wp2_with fail
                  refine Hc.out.mono ?_
                  rintro e w' ⟨rfl, hr2⟩
                  rw [Hp.out] at hr2
                  simp only [List.length_nil, Nat.sub_zero] at hr2
                  subst hr2
                  go_wp2
                  go_ret2
                  exact reads_none false Hs.out
                | cons m r1 =>
                  have hsuf1 := (M.ps_suf p f _ _ _ hp).trans Hq.out
                  have hshort := M.ps_short p f _ _ _ hp
                  simp at hshort
                  obtain ⟨E, hE⟩ : ∃ E, E = s.size - (r1.length + 1) := ⟨_, rfl⟩
                  have hEs : E + (r1.length + 1) = s.size := by
                    have := (M.drop_suf hsuf1).2
                    simp at this
                    omega
                  have hElt : E < s.size := by omega
                  have hixE : s[E] = m := at_suf hsuf1 hEs hElt
                  have hmm : s[E].toNat = m.toNat := by rw [hixE]
                  have hcall2 := Ih.out r1 (E + 1) w (by omega) ((List.suffix_cons _ _).trans hsuf1) (by omega)
                  have e1 : ((E + 1 : Nat) : Int) = (E : Int) + 1 := by push_cast; rfl
                  rw [e1] at hcall2
                  have Hc2 := Lib.hid hcall2
                  rw [hp] at Hs
                  replace Hs := Lib.hid (show M.ps p (f + 1) (c :: q) = M.rest2 m a (M.ps p f r1) from Hs.out)
                  have Hp := Lib.hid hp
                  have hm256 : m.toNat < 256 := m.toNat_lt
                  have HE := Lib.hid hE
                  have Hsuf1 := Lib.hid hsuf1
                  clear hp hcall2 e1 hixE hE hsuf1
                  cases hp2 : M.ps p f r1 with
                  | none =>
                    have Hs2 := Lib.hid (show M.ps p (f + 1) (c :: q) = none by rw [Hs.out, hp2]; rfl)
                    have Hp2 := Lib.hid hp2
                    clear hp2
                    go_enter Try.func21, Try.ntmps21
                    go_wp2_with fail
                    refine Hc.out.mono ?_
                    rintro e w' ⟨rfl, hr2⟩
                    rw [Hp.out] at hr2
                    simp only [List.length_cons] at hr2
                    rw [← HE.out] at hr2
                    subst hr2
                    go_wp2_with fail
                    refine Hc2.out.mono ?_
                    rintro e w' ⟨rfl, hr3⟩
                    rw [Hp2.out] at hr3
                    obtain ⟨b, rfl⟩ := hr3
                    go_wp2
                    go_ret2
                    exact reads_none false Hs2.out
                  | some y2 =>
                    obtain ⟨b, q2⟩ := y2
                    cases q2 with
                    | nil =>
                      have Hs2 := Lib.hid (show M.ps p (f + 1) (c :: q) = none by rw [Hs.out, hp2]; rfl)
                      have Hp2 := Lib.hid hp2
                      clear hp2
                      go_enter Try.func21, Try.ntmps21
                      go_wp2_with fail
                      refine Hc.out.mono ?_
                      rintro e w' ⟨rfl, hr2⟩
                      rw [Hp.out] at hr2
                      simp only [List.length_cons] at hr2
                      rw [← HE.out] at hr2
                      subst hr2
                      go_wp2_with fail
                      refine Hc2.out.mono ?_
                      rintro e w' ⟨rfl, hr3⟩
                      rw [Hp2.out] at hr3
                      simp only [List.length_nil, Nat.sub_zero] at hr3
                      subst hr3
                      go_wp2
                      go_ret2
                      exact reads_none false Hs2.out
                    | cons z r5 =>
                      have hsuf2 := (M.ps_suf p f _ _ _ hp2).trans ((List.suffix_cons _ _).trans Hsuf1.out)
                      obtain ⟨F, hF⟩ : ∃ F, F = s.size - (r5.length + 1) := ⟨_, rfl⟩
                      have hFs : F + (r5.length + 1) = s.size := by
                        have := (M.drop_suf hsuf2).2
                        simp at this
                        omega
                      have hFlt : F < s.size := by omega
                      have hixF : s[F] = z := at_suf hsuf2 hFs hFlt
                      have hzz : s[F].toNat = z.toNat := by rw [hixF]
                      have Hs1 := Lib.hid (show M.ps p (f + 1) (c :: q) = M.rest2 m a (some (b, z :: r5)) by rw [Hs.out, hp2])
                      have Hp2 := Lib.hid hp2
                      have HF := Lib.hid hF
                      clear hp2 hixF hF hsuf2
                      by_cases hz41 : z.toNat = 41
                      · rw [hz41] at hzz
                        have Hs2 := Lib.hid (show M.ps p (f + 1) (c :: q) = (M.joint m a b).map fun x => (x, r5) by rw [Hs1.out]; simp [M.rest2, hz41])
                        clear hz41
                        by_cases h38 : m.toNat = 38
                        · have Hj := Lib.hid (show M.ps p (f + 1) (c :: q) = some (.both a b, r5) by rw [Hs2.out]; simp [M.joint, h38])
                          rw [h38] at hmm
                          clear h38
                          have Hev := Lib.hid (show M.ev K (.both a b) = (M.ev K a && M.ev K b) from rfl)
                          go_enter Try.func21, Try.ntmps21
                          go_wp2_with fail
                          refine Hc.out.mono ?_
                          rintro e w' ⟨rfl, hr2⟩
                          rw [Hp.out] at hr2
                          simp only [List.length_cons] at hr2
                          rw [← HE.out] at hr2
                          subst hr2
                          go_wp2_with fail
                          refine Hc2.out.mono ?_
                          rintro e w' ⟨rfl, hr3⟩
                          rw [Hp2.out] at hr3
                          simp only [List.length_cons] at hr3
                          rw [← HF.out] at hr3
                          subst hr3
                          generalize M.ev K b = vb at *
                          cases hva : M.ev K a
                          all_goals
                            rw [hva] at Hev
                            go_wp2
                            go_ret2
                            exact reads_some Hj.out (by rw [Hev.out]; rfl) (by omega)
                        · by_cases h124 : m.toNat = 124
                          · have Hj := Lib.hid (show M.ps p (f + 1) (c :: q) = some (.one a b, r5) by rw [Hs2.out]; simp [M.joint, h124])
                            rw [h124] at hmm
                            clear h124 h38
                            have Hev := Lib.hid (show M.ev K (.one a b) = (M.ev K a || M.ev K b) from rfl)
                            go_enter Try.func21, Try.ntmps21
                            go_wp2_with fail
                            refine Hc.out.mono ?_
                            rintro e w' ⟨rfl, hr2⟩
                            rw [Hp.out] at hr2
                            simp only [List.length_cons] at hr2
                            rw [← HE.out] at hr2
                            subst hr2
                            go_wp2_with fail
                            refine Hc2.out.mono ?_
                            rintro e w' ⟨rfl, hr3⟩
                            rw [Hp2.out] at hr3
                            simp only [List.length_cons] at hr3
                            rw [← HF.out] at hr3
                            subst hr3
                            generalize M.ev K b = vb at *
                            cases hva : M.ev K a
                            all_goals
                              rw [hva] at Hev
                              go_wp2
                              go_ret2
                              exact reads_some Hj.out (by rw [Hev.out]; rfl) (by omega)
                          · by_cases h61 : m.toNat = 61
                            · have Hj := Lib.hid (show M.ps p (f + 1) (c :: q) = some (.same a b, r5) by rw [Hs2.out]; simp [M.joint, h61])
                              rw [h61] at hmm
                              clear h124 h38 h61
                              have Hev := Lib.hid (show M.ev K (.same a b) = (M.ev K a == M.ev K b) from rfl)
                              go_enter Try.func21, Try.ntmps21
                              go_wp2_with fail
                              refine Hc.out.mono ?_
                              rintro e w' ⟨rfl, hr2⟩
                              rw [Hp.out] at hr2
                              simp only [List.length_cons] at hr2
                              rw [← HE.out] at hr2
                              subst hr2
                              go_wp2_with fail
                              refine Hc2.out.mono ?_
                              rintro e w' ⟨rfl, hr3⟩
                              rw [Hp2.out] at hr3
                              simp only [List.length_cons] at hr3
                              rw [← HF.out] at hr3
                              subst hr3
                              generalize M.ev K b = vb at *
                              generalize M.ev K a = va at *
                              go_wp2
                              go_ret2
                              exact reads_some Hj.out (by rw [Hev.out]) (by omega)
                            · have Hj := Lib.hid (show M.ps p (f + 1) (c :: q) = none by rw [Hs2.out]; simp [M.joint, h38, h124, h61])
                              have n1 : (((m.toNat : Nat) : Int) == 38) = false := by simp; omega
                              have n2 : (((m.toNat : Nat) : Int) == 124) = false := by simp; omega
                              have n3 : (((m.toNat : Nat) : Int) == 61) = false := by simp; omega
                              clear h124 h38 h61
                              generalize m.toNat = x at *
                              go_enter Try.func21, Try.ntmps21
                              go_wp2_with fail
                              refine Hc.out.mono ?_
                              rintro e w' ⟨rfl, hr2⟩
                              rw [Hp.out] at hr2
                              simp only [List.length_cons] at hr2
                              rw [← HE.out] at hr2
                              subst hr2
                              go_wp2_with fail
                              refine Hc2.out.mono ?_
                              rintro e w' ⟨rfl, hr3⟩
                              rw [Hp2.out] at hr3
                              simp only [List.length_cons] at hr3
                              rw [← HF.out] at hr3
                              subst hr3
                              go_wp2
                              go_ret2
                              exact reads_none false Hj.out
                      · have Hs2 := Lib.hid (show M.ps p (f + 1) (c :: q) = none by rw [Hs1.out]; simp [M.rest2, hz41])
                        have n1 : (((z.toNat : Nat) : Int) != 41) = true := by simp; omega
                        clear hz41
                        generalize z.toNat = x at *
                        go_enter Try.func21, Try.ntmps21
                        go_wp2_with fail
                        refine Hc.out.mono ?_
                        rintro e w' ⟨rfl, hr2⟩
                        rw [Hp.out] at hr2
                        simp only [List.length_cons] at hr2
                        rw [← HE.out] at hr2
                        subst hr2
                        go_wp2_with fail
                        refine Hc2.out.mono ?_
                        rintro e w' ⟨rfl, hr3⟩
                        rw [Hp2.out] at hr3
                        simp only [List.length_cons] at hr3
                        rw [← HF.out] at hr3
                        subst hr3
                        go_wp2
                        go_ret2
                        exact reads_none false Hs2.out
            · have Hs := Lib.hid (show M.ps p (f + 1) (c :: q) = none by simp only [M.ps]; rw [if_neg hA, if_neg hx33, if_neg hx35, if_neg hx40])
              have hyy : s[t].toNat = c.toNat := by rw [hix]
              by_cases hin : 48 ≤ c.toNat ∧ c.toNat ≤ 52
              · have hcases : c.toNat = 48 ∨ c.toNat = 49 ∨ c.toNat = 50 ∨ c.toNat = 51 ∨ c.toNat = 52 := by omega
                rcases hcases with hx | hx | hx | hx | hx
                · exfalso; omega
                all_goals
                  rw [hx] at hyy
                  have hpk : ¬ (c.toNat - 48 < p) := by omega
                  rw [hx] at hpk
                  simp only [Nat.reduceSub] at hpk
                  clear hix hx hA hx33 hx35 hx40 hin
                  go_enter Try.func21, Try.ntmps21
                  go_wp2
                  go_ret2
                  exact reads_none false Hs.out
              · have n0 : (((c.toNat : Nat) : Int) == 48) = false := by simp; omega
                have n1 : (((c.toNat : Nat) : Int) == 49) = false := by simp; omega
                have n2 : (((c.toNat : Nat) : Int) == 50) = false := by simp; omega
                have n3 : (((c.toNat : Nat) : Int) == 51) = false := by simp; omega
                have n4 : (((c.toNat : Nat) : Int) == 52) = false := by simp; omega
                have n5 : (((c.toNat : Nat) : Int) == 33) = false := by simp; omega
                have n6 : (((c.toNat : Nat) : Int) == 35) = false := by simp; omega
                have n7 : (((c.toNat : Nat) : Int) == 40) = false := by simp; omega
                clear hix hA hx33 hx35 hx40 hin
                generalize c.toNat = x at *
                go_enter Try.func21, Try.ntmps21
                go_wp2
                go_ret2
                exact reads_none false Hs.out

end Go.Proofs.Ytbhpponandmgnaa
