/- Contracts of the program's many, needs, wayOf, NeedsOf. No condition. -/
import Derived.Test.YtdeoigdnhcamjaaPWay
import Derived.Deep.RegionHeld3
namespace Go.Proofs.Ytdeoigdnhcamjaa
open Go Go.RowKit
open M (nth)

theorem RepW.quiet {w w' : World} {B : Nat} (hq : Quiet w w') {t : M.Way} {n : Nat} {v : Value} (h : RepW w B n t v) (hB : 0 < B) : RepW w' B n t v :=
  h.grown (L := 0) (by obtain ⟨m, rfl⟩ := hq; exact ⟨rfl, rfl, rfl, Nat.le_refl _, fun _ _ _ => rfl⟩) hB
theorem RepW.below {w w' : World} {B : Nat} (hb : Below w.heap.size w w') {t : M.Way} {n : Nat} {v : Value} (h : RepW w B n t v) (hB : 0 < B) : RepW w' B n t v :=
  h.grown (L := 0) ⟨hb.os, hb.tape, hb.output, hb.size, fun k hk _ => hb.block k hk⟩ hB

set_option maxHeartbeats 1000000 in
theorem many_c (B : Nat) (hB : 0 < B) (t : M.Way) : ∀ (n : Nat) (v : Value) (w : World), RepW w B n t v → M.sz t ≤ 1000 → Calls Try.prog 18 #[v] w fun e w' => e = .returned (.int .i64 (M.sz t : Nat)) ∧ Quiet w w' := by
  induction t with
  | nil =>
    intro n v w h _
    obtain rfl : v = .pointer none := h
    go_enter Try.func18, Try.ntmps18
    go_wp2
    go_ret
    exact ⟨rfl, Quiet.refl _⟩
  | node b o ihb iho =>
    intro n v w h hs
    obtain ⟨g, vb, vo, rfl, hBg, hg, c0, c1, c2, h1, h2⟩ := h
    simp only [M.sz] at hs
    have hc1 : ∀ m, Calls Try.prog 18 #[vb] (w.drewN m) fun e w' => e = .returned (.int .i64 (M.sz b : Nat)) ∧ Quiet (w.drewN m) w' := fun m => ihb n vb _ (h1.quiet ⟨m, rfl⟩ hB) (by omega)
    have hc2 : ∀ m, Calls Try.prog 18 #[vo] (w.drewN m) fun e w' => e = .returned (.int .i64 (M.sz o : Nat)) ∧ Quiet (w.drewN m) w' := fun m => iho _ vo _ (h2.quiet ⟨m, rfl⟩ hB) (by omega)
    have Hsz := Lib.hid (show M.sz (.node b o) = M.sz b + M.sz o + 1 from rfl)
    clear ihb iho h1 h2
    generalize M.sz b = x at *
    generalize M.sz o = y at *
    obtain ⟨z, hz⟩ : ∃ z, z = 1 + x := ⟨_, rfl⟩
    have t1 : IntKind.i64.wrap (1 + (x : Int)) = (z : Int) := by rw [IntKind.wrap_i64]; omega
    have t2 : IntKind.i64.wrap ((z : Int) + (y : Int)) = (z : Int) + (y : Int) := by rw [IntKind.wrap_i64]; omega
    have Hz := Lib.hid hz
    clear hz
    go_enter Try.func18, Try.ntmps18
    go_wp2_with fail
    go_quiet ((go_at_call 18; first | (with_reducible exact quiet_m (hc1 _)) | (with_reducible exact quiet_m (hc2 _))))
    go_wp2
    go_ret
    exact ⟨ri (by rw [Hsz.out, Hz.out]; omega), ⟨_, rfl⟩⟩

theorem Quiet.cells {w W : World} (h : Quiet w W) {a0 a1 a2 a3 : Addr} {v0 v1 v2 v3 : Value} (h0 : w.cell? a0 = some v0) (h1 : w.cell? a1 = some v1) (h2 : w.cell? a2 = some v2) (h3 : w.cell? a3 = some v3) :
    Quiet w W ∧ W.cell? a0 = some v0 ∧ W.cell? a1 = some v1 ∧ W.cell? a2 = some v2 ∧ W.cell? a3 = some v3 := ⟨h, h.cell h0, h.cell h1, h.cell h2, h.cell h3⟩

set_option maxHeartbeats 2000000 in
theorem needs_c (B : Nat) (hB : 0 < B) (A : Option Addr) (m c : Nat) (ps : List Int) (hps : M.allB ps 0 50 = true) (hm : m ≤ 100) (t : M.Way) : ∀ (n : Nat) (v : Value) (w : World), RepW w B n t v → RdI w A m ps → n + M.sz t ≤ m →
    Calls Try.prog 15 #[v, .slice A m c] w fun e w' => e = .returned (.int .i64 (M.cost ps n t)) ∧ Quiet w w' := by
  induction t with
  | nil =>
    intro n v w h _ _
    obtain rfl : v = .pointer none := h
    go_enter Try.func15, Try.ntmps15
    go_wp2_with fail
    refine (many_c B hB .nil 0 (.pointer none) _ rfl (by simp [M.sz])).mono ?_
    rintro e w1 ⟨rfl, hq⟩
    have e0 : ((M.sz .nil : Nat) : Int) = 0 := rfl
    rw [e0]
    go_wp2
    go_ret
    exact ⟨ri (by simp [M.cost]), hq⟩
  | node b o ihb iho =>
    intro n v w h hr hn
    have hmany := many_c B hB (.node b o) n v w h (by omega)
    have hcost : M.cost ps n (.node b o) = if M.sz (.node b o) < 2 then 0 else nth ps (n + M.sz b) + max (M.cost ps n b) (M.cost ps (n + M.sz b + 1) o) := rfl
    have hsz : M.sz (.node b o) = M.sz b + M.sz o + 1 := rfl
    obtain ⟨z, hz⟩ : ∃ z, z = M.sz (.node b o) := ⟨_, rfl⟩
    rw [← hz] at hmany hcost hsz hn
    by_cases h2 : z < 2
    · rw [if_pos h2] at hcost
      have Hcost := Lib.hid hcost
      have hv : v = v := rfl
      obtain ⟨g, vb, vo, rfl, hBg, hg, c0, c1, c2, h1, h2'⟩ := h
      have dz : decide ((z : Int) < 2) = true := by simp; omega
      clear ihb iho hcost hsz hz h1 h2'
      go_enter Try.func15, Try.ntmps15
      go_wp2_with fail
      refine hmany.mono ?_
      rintro e w1 ⟨rfl, hq⟩
      go_wp2
      go_ret
      exact ⟨ri Hcost.out.symm, hq⟩
    · rw [if_neg h2] at hcost
      have Hcost := Lib.hid hcost
      obtain ⟨g, vb, vo, rfl, hBg, hg, c0, c1, c2, h1, h2'⟩ := h
      have dz : decide ((z : Int) < 2) = false := by simp; omega
      obtain ⟨k, hk⟩ : ∃ k, k = n + M.sz b := ⟨_, rfl⟩
      rw [← hk] at c0 h2' Hcost
      have hkm : k < m := by omega
      obtain ⟨ad, rfl, hadb, hcell⟩ := hr.at_ hkm
      have hp := M.nth_bnd hps k
      have hb1 := M.cost_bnd hps b n
      have hb2 := M.cost_bnd hps o (k + 1)
      have HB := Lib.hid (show ∀ W, Quiet w W → Calls Try.prog 15 #[vb, .slice (some ad) m c] W fun e w' => e = .returned (.int .i64 (M.cost ps n b)) ∧ Quiet w w' from fun W hq =>
        (ihb n vb W (h1.quiet hq hB) (hr.quiet hq) (by omega)).mono fun _ _ h => ⟨h.1, hq.trans h.2⟩)
      have HO := Lib.hid (show ∀ W, Quiet w W → Calls Try.prog 15 #[vo, .slice (some ad) m c] W fun e w' => e = .returned (.int .i64 (M.cost ps (k + 1) o)) ∧ Quiet w w' from fun W hq =>
        (iho (k + 1) vo W (h2'.quiet hq hB) (hr.quiet hq) (by omega)).mono fun _ _ h => ⟨h.1, hq.trans h.2⟩)
      have hx50 : M.cost ps n b ≤ 5000 := by omega
      have hy50 : M.cost ps (k + 1) o ≤ 5000 := by omega
      have hx0 := hb1.1
      have hy0 := hb2.1
      clear ihb iho hcost hz h1 h2' hk hn hsz h2 hb1 hb2
      generalize M.cost ps n b = x at *
      generalize M.cost ps (k + 1) o = y at *
      generalize nth ps k = u at *
      go_enter Try.func15, Try.ntmps15
      go_wp2_with fail
      refine hmany.mono ?_
      rintro e w1 ⟨rfl, hq1⟩
      have hqd : Quiet w w1.drew := hq1.drew
      go_wp2_with fail
      go_region_held3 (fun W => Quiet w W ∧ W.cell? ⟨g, 0, none⟩ = some (.int .i64 (k : Int)) ∧ W.cell? ⟨g, 1, none⟩ = some vb ∧ W.cell? ⟨g, 2, none⟩ = some vo ∧ W.cell? (ad.add k) = some (.int .i64 u)) (exact Quiet.cells (by assumption) c0 c1 c2 hcell) (first
        | (go_at_call 15; with_reducible refine (HB.out _ (by assumption)).mono ?_; rintro e w2 ⟨rfl, hq2⟩)
        | (go_at_call 15; with_reducible refine (HO.out _ (by assumption)).mono ?_; rintro e w3 ⟨rfl, hq3⟩))
      all_goals
        go_wp2
        all_goals
          go_ret
          exact ⟨ri (by rw [Hcost.out, IntKind.wrap_i64]; omega), by assumption⟩

theorem M.way_none {k : Nat} {l : M.Txt} (hk : k ≤ 9) (h : 60 < l.length) : M.wayT k l = none := by
  cases e : M.wayT k l with
  | none => rfl
  | some t =>
    obtain ⟨h1, h2⟩ := M.way_some e
    have := M.pt_len _ _ _ _ _ h1
    simp at this
    omega

set_option maxHeartbeats 2000000 in
theorem wayOf_c (k : Nat) (s : ByteArray) (w : World) (hk : k ≤ 9) :
    Calls Try.prog 14 #[.int .i64 (k : Int), .string s] w fun e w' => (∃ (p : Option Addr) (ok : Bool), e = .returned (.tuple #[.pointer p, .bool ok]) ∧ (∀ t, M.wayT k s.data.toList = some t → ok = true ∧ RepW w' (w.heap.size + 1) 0 t (.pointer p)) ∧ (M.wayT k s.data.toList = none → ok = false)) ∧ Below w.heap.size w w' := by
  have hl : s.data.toList.length = s.size := by simp
  by_cases hs : 60 < s.size
  · have Hn := Lib.hid (M.way_none (l := s.data.toList) hk (by omega))
    go_enter Try.func14, Try.ntmps14
    go_wp2
    refine bodyPost_ret (v := .tuple #[.pointer none, .bool false]) (by simp [results, Try.results14, go_sem]) rfl ?_
    exact ⟨⟨none, false, rfl, fun t e => (by rw [Hn.out] at e; cases e), fun _ => rfl⟩, Below.refl _ _⟩
  · have hR : Rdw (w.alloc (.cells #[.string s, .int .i64 0, .bool false] 43)) w.heap.size s.data.toList 0 false := ⟨s, rfl, (MapKept.heap_alloc _ _).1, by omega⟩
    have hb0 : Below w.heap.size w (w.alloc (.cells #[.string s, .int .i64 0, .bool false] 43)) := (Below.refl _ _).alloc (Nat.le_refl _) _
    go_enter Try.func14, Try.ntmps14
    go_wp2_with fail
    refine (way_c w.heap.size (w.heap.size + 1) (by omega) (s.data.toList.length + 1) 0 s.data.toList false _ (by omega) (by omega) hR (by simp)).mono ?_
    rintro e w1 ⟨p, r', n', b', rfl, h1, hl1, hg1, -, hn1, -, q1, q2⟩
    have hb1 : Below w.heap.size w w1 := hb0.grown hg1 (by simp) (fun j e => by cases e; exact Nat.le_refl _)
    have Q1 := Lib.hid (q1 rfl)
    have Q2 := Lib.hid (q2 rfl)
    have c1 := h1.cell1
    have c2 := h1.cell2
    obtain ⟨s', hs', hh, hz'⟩ := h1
    have c0 : w1.cell? ⟨w.heap.size, 0, none⟩ = some (.string s') := by simp [World.cell?, hh]
    clear q1 q2 hh
    have HW := Lib.hid (show ∀ t, M.wayT k s.data.toList = some t → r' = [] ∧ n' = k ∧ b' = false ∧ RepW w1 (w.heap.size + 1) 0 t (.pointer p) from fun t e => by
      obtain ⟨e1, e2⟩ := M.way_some e
      obtain ⟨a1, a2, a3, a4⟩ := Q1.out t [] e1
      exact ⟨a1, by omega, a3, a4⟩)
    have HN := Lib.hid (show M.wayT k s.data.toList = none → r' = [] → n' = k → b' = false → False from fun e e1 e2 e3 => by
      cases hp : M.pt (s.data.toList.length + 1) 0 s.data.toList with
      | none =>
        rcases Q2.out hp with h | h
        · rw [e3] at h; cases h
        · omega
      | some y =>
        obtain ⟨t, q⟩ := y
        obtain ⟨a1, a2, -, -⟩ := Q1.out t q hp
        rw [← a1, e1] at hp
        rw [M.way_of hp (by omega)] at e
        cases e)
    have hbq : ∀ m, Below w.heap.size w (w1.drewN m) := fun m => Below.quiet hb1 ⟨m, rfl⟩
    cases b' with
    | true =>
      go_wp2_with fail
      go_quiet (fail)
      go_wp2
      refine bodyPost_ret (v := .tuple #[.pointer p, .bool false]) (by simp [results, Try.results14, go_sem]) rfl ?_
      refine ⟨⟨p, false, rfl, fun t e => ?_, fun _ => rfl⟩, hbq _⟩
      have := (HW.out t e).2.2.1
      cases this
    | false =>
      cases r' with
      | cons d r'' =>
        have hne : s'.toList.isEmpty = false := by rw [ByteArray.toList_eq, hs']; rfl
        have hne2 : (s'.toList == []) = false := by rw [ByteArray.toList_eq, hs']; rfl
        go_wp2_with fail
        go_quiet (fail)
        go_wp2
        refine bodyPost_ret (v := .tuple #[.pointer p, .bool false]) (by simp [results, Try.results14, go_sem]) rfl ?_
        refine ⟨⟨p, false, rfl, fun t e => ?_, fun _ => rfl⟩, hbq _⟩
        have := (HW.out t e).1
        cases this
      | nil =>
        obtain rfl : s' = ⟨#[]⟩ := by
          obtain ⟨d⟩ := s'
          simp at hs'
          rw [hs']
        by_cases hnk : n' = k
        · have e1 : ((n' : Int) == (k : Int)) = true := by simp; omega
          have Hnk := Lib.hid hnk
          clear hnk
          go_wp2_with fail
          go_quiet (fail)
          go_wp2
          refine bodyPost_ret (v := .tuple #[.pointer p, .bool true]) (by simp [results, Try.results14, go_sem]) rfl ?_
          refine ⟨⟨p, true, rfl, fun t e => ⟨rfl, ?_⟩, fun e => ?_⟩, hbq _⟩
          · exact (HW.out t e).2.2.2.quiet ⟨_, rfl⟩ (by omega)
          · exact (HN.out e (by first | trivial | rfl) Hnk.out (by first | trivial | rfl)).elim
        · have e1 : ((n' : Int) == (k : Int)) = false := by simp; omega
          have Hnk := Lib.hid hnk
          clear hnk
          go_wp2_with fail
          go_quiet (fail)
          go_wp2
          refine bodyPost_ret (v := .tuple #[.pointer p, .bool false]) (by simp [results, Try.results14, go_sem]) rfl ?_
          refine ⟨⟨p, false, rfl, fun t e => ?_, fun _ => rfl⟩, hbq _⟩
          exact absurd (HW.out t e).2.1 Hnk.out

theorem iPricesOk_c (A : Option Addr) (n c : Nat) (ps : List Int) (w : World) (h : RdI w A n ps) : Calls Try.prog 13 #[.slice A n c] w fun e w' => e = .returned (.bool (M.pricesB ps)) ∧ Below w.heap.size w w' := by
  have hl := h.len
  by_cases hn : n ≤ 9
  · have Hf := Lib.hid (show M.pricesB ps = M.allB ps 0 50 by simp [M.pricesB, hl, hn])
    have d9 : decide ((n : Int) ≤ 9) = true := by simp; omega
    go_enter Try.func13, Try.ntmps13
    go_wp2_with fail
    refine (allIn_c A n c ps _ _ _ h).mono ?_
    rintro e w1 ⟨rfl, hb⟩
    go_wp2
    go_ret
    exact ⟨rb Hf.out.symm, hb⟩
  · have Hf := Lib.hid (show M.pricesB ps = false by simp [M.pricesB, hl]; omega)
    have d9 : decide ((n : Int) ≤ 9) = false := by simp; omega
    go_enter Try.func13, Try.ntmps13
    go_wp2
    go_ret
    exact ⟨rb Hf.out.symm, Below.refl _ _⟩

set_option maxHeartbeats 1000000 in
theorem iNeedsOf_c (A : Option Addr) (n c : Nat) (ps : List Int) (s : ByteArray) (w : World) (h : RdI w A n ps) :
    Calls Try.prog 7 #[.slice A n c, .string s] w fun e w' => e = .returned (.int .i64 (M.needsF ps s.data.toList)) ∧ Below w.heap.size w w' := by
  have hl := h.len
  go_enter Try.func7, Try.ntmps7
  go_wp2_with fail
  refine (iPricesOk_c A n c ps _ h).mono ?_
  rintro e w1 ⟨rfl, hb1⟩
  cases hp : M.pricesB ps with
  | false =>
    have Hf := Lib.hid (show M.needsF ps s.data.toList = -1 by simp [M.needsF, hp])
    go_wp2
    go_ret
    exact ⟨by rw [Hf.out]; rfl, hb1⟩
  | true =>
    obtain ⟨hn9, hall⟩ := M.prices_parts hp
    have Hf := Lib.hid (show M.needsF ps s.data.toList = ((M.wayT ps.length s.data.toList).map (M.cost ps 0)).getD (-1) by simp [M.needsF, hp])
    go_wp2_with fail
    refine (wayOf_c n s _ (by omega)).mono ?_
    rintro e w2 ⟨⟨p, ok, rfl, q1, q2⟩, hb2⟩
    have hb3 := bt hb1 hb2
    rw [hl] at Hf
    cases hw : M.wayT n s.data.toList with
    | none =>
      obtain rfl := q2 hw
      have Hf2 := Lib.hid (show M.needsF ps s.data.toList = -1 by rw [Hf.out, hw]; rfl)
      clear q1 q2 hw
      go_wp2
      go_ret
      exact ⟨by rw [Hf2.out]; rfl, hb3⟩
    | some t =>
      obtain ⟨rfl, hR⟩ := q1 t hw
      have hsz := (M.way_some hw).2
      have Hf2 := Lib.hid (show M.needsF ps s.data.toList = M.cost ps 0 t by rw [Hf.out, hw]; rfl)
      clear q1 q2 hw
      go_wp2_with fail
      refine (needs_c _ (by omega) A n c ps hall (by omega) t 0 (.pointer p) _ hR (h.below hb3) (by omega)).mono ?_
      rintro e w3 ⟨rfl, hq⟩
      go_wp2
      go_ret
      exact ⟨by rw [Hf2.out]; rfl, Below.quiet hb3 hq⟩

end Go.Proofs.Ytdeoigdnhcamjaa
