/- The walk of the questions about a row: rows of rows, copied and made longer. No condition. -/
import Derived.Test.YtdpbjepjiloeaaaQMath
import Derived.Laws.AppendOwnNone
namespace Go.Proofs.Ytdpbjepjiloeaaa
open Go Go.RowKit
open M (nth)

theorem own_none {w : World} {b : Nat} {n c : Nat} {xs : List Int} (h : OwnI w b none n c xs) : n = 0 ∧ c = 0 := by
  rcases h.2.2 with ⟨e, _⟩ | ⟨g, cap, cur, e, _⟩
  · injection e with _ h1 h2; exact ⟨h1, h2⟩
  · cases e
/-- 'append' of a whole row that reads as ys, nil or not. -/
theorem wpList_append_row {P : Program} {w : World} {ops : Array Oper} {rest : List Oper} {o : Oper} {a : Act} {Q : Exit → Act → World → Prop} (hgd : o.guard = none) (s x : Operand) (t : TypeId)
    (ho : o.op = .call { callee := .builtin .append, args := #[s, x], argTypes := #[t, t] })
    (base : Nat) (e : TypeId) (i : TypeInfo) (z : Value) (ht : P.underlying t = some (.slice e)) (hi : P.info? e = some i) (hz : i.zero = some z)
    (hsize : i.size = 1) (hby : i.bytes = 8) (hzs : z.cells.size = 1)
    (v : Value) (n : Nat) (xs : List Value) (hs : a.eval s = v) (hown : w.ownsRow base e 1 v n xs)
    (A : Option Addr) (m c : Nat) (ys : List Int) (hx : a.eval x = .slice A m c) (hr : RdI w A m ys) (hn : A = none → c = 0) (h63 : n + m ≤ 1000000) (hbase : base ≤ w.heap.size)
    (h : ∀ v' w', w'.ownsRow base e 1 v' (n + m) (xs ++ ys.map (Value.int .i64)) → w.grownBy w' v.ownBlock → wpList P ops Q rest (a.put o.dst v') w') :
    wpList P ops Q (o :: rest) a w := by
  have hl := hr.len
  cases A with
  | none =>
    obtain rfl : m = 0 := by
      rcases Nat.eq_zero_or_pos m with e | e
      · exact e
      · obtain ⟨ad, e1, _⟩ := hr.cells e; cases e1
    obtain rfl := hn rfl
    obtain rfl : ys = [] := List.eq_nil_of_length_eq_zero hl
    refine wpList_append_own_none hgd s x t ho base e i 1 ht hi v n xs hs hown hx ?_
    exact h v w (by simpa using hown) (World.grownBy.refl w _)
  | some ad =>
    refine wpList_append_own w hgd s x t ho base e i z 1 8 ht hi hz hsize hby hzs (by decide) v n xs hs hown ad m c (ys.map (Value.int .i64)) hx (by simpa using hl) (fun j u hj => ?_) (fun u hu => ?_) (by unfold maxLen; omega) (by omega) hbase (fun v' w' h1 h2 _ => h v' w' h1 h2)
    · have hjm : j < m := by
        have := (List.getElem?_eq_some_iff.1 hj).1
        simpa [hl] using this
      obtain ⟨ad', e1, -, hc⟩ := hr.at_ hjm
      cases e1
      rw [hc]
      have hj' : j < ys.length := by omega
      simp [List.getElem?_eq_getElem hj'] at hj
      rw [← hj, M.nth_lt hj']
    · obtain ⟨y, -, rfl⟩ := List.mem_map.1 hu
      rfl

/-- The one empty row. -/
theorem ownR_one (w : World) (b : Nat) (hb : b ≤ w.heap.size) : OwnR ((w.alloc (.cells #[] 3)).alloc (.cells #[.slice (some ⟨w.heap.size, 0, none⟩) 0 0] 23)) b (some ⟨w.heap.size + 1, 0, none⟩) 1 1 [[]] := by
  have e : (w.alloc (.cells #[] 3)).heap.size = w.heap.size + 1 := by simp
  rw [← e]
  refine ⟨[.slice (some ⟨w.heap.size, 0, none⟩) 0 0], rfl, ?_, rfl, fun k v hv => ?_, fun i j u v hij hu hv => ?_⟩
  · exact World.ownsRow_lit (e := 23) (size := 1) (w.alloc (.cells #[] 3)) #[.slice (some ⟨w.heap.size, 0, none⟩) 0 0] 1 (by simp; omega) (by unfold maxLen; omega) rfl
  · match k, hv with
    | 0, hv =>
      simp at hv
      exact ⟨_, _, _, hv.symm, (ownI_lit0 w b hb).alloc _⟩
  · match j, hv with
    | 0, _ => omega
    | j + 1, hv => simp at hv

theorem own_free (v : Value) : v.ownBlock = none ∨ v.ownBlock ≠ none := by cases h : v.ownBlock <;> simp
theorem own_copied {w : World} {b n : Nat} {xs : List Int} {v : Value} (hl : xs.length = n) (h : w.ownsRow b 3 1 v (0 + n) ([].map (Value.int .i64) ++ xs.map (Value.int .i64))) :
    ∃ A c, v = .slice A n c ∧ OwnI w b A n c xs := by
  rw [Nat.zero_add, List.map_nil, List.nil_append] at h
  exact OwnI.appendedL hl h
theorem below_new {w w' : World} {o : Obj} {n : Nat} (hg : (w.alloc o).grownBy w' (Value.slice (some ⟨w.heap.size, 0, none⟩) n n).ownBlock) : Below w.heap.size w w' :=
  ((Below.refl _ _).alloc (Nat.le_refl _) _).grown hg (by simp) (fun j hj => by cases hj; exact Nat.le_refl _)
theorem below_own2 {w0 w w' : World} {o : Obj} {A : Option Addr} {n c : Nat} {xs : List Int} (hb : Below w0.heap.size w0 w) (ho : OwnI w w0.heap.size A n c xs) (hg : (w.alloc o).grownBy w' (Value.slice A n c).ownBlock) : Below w0.heap.size w0 w' :=
  (hb.alloc hb.size _).grown hg (by have := hb.size; simp; omega) (fun j hj => by
    cases A with
    | none => cases hj
    | some ad => cases hj; exact ho.lt.1)

set_option maxHeartbeats 2000000 in
theorem l5Questions_c (A : Option Addr) (n c : Nat) (xs : List Int) (w : World) (h : RdI w A n xs) (hk : M.knownB xs = true) :
    Calls Try.prog 61 #[.slice A n c] w (RetR w (M.qs xs n)) := by
  obtain ⟨i0, hi, hz0, hz1, hz2⟩ := info_parts Try.infoInt
  obtain ⟨i1, hj, hy0, hy1, hy2⟩ := info_parts Try.infoRow
  have hlen := h.len
  obtain ⟨k1, k3, hx, -⟩ := M.known_parts hk
  have hn3 : n ≤ 3 := by omega
  have HL := Lib.hid (fun k (hk3 : k ≤ n) => M.len_qs hk k (by omega))
  have HX := Lib.hid (fun k (hk3 : k < n) => hx k (by omega))
  have HA := Lib.hid (fun k (hk3 : k < n) => h.at_ (w := w) hk3)
  have HR := Lib.hid h
  clear hk hx h k1 k3
  have hb1 : Below w.heap.size w ((w.alloc (.cells #[] 3)).alloc (.cells #[.slice (some ⟨w.heap.size, 0, none⟩) 0 0] 23)) := ((Below.refl _ _).alloc (Nat.le_refl _) _).alloc (by simp) _
  have ho1 : OwnR _ w.heap.size (some ⟨w.heap.size + 1, 0, none⟩) 1 1 (M.qs xs 0) := ownR_one w w.heap.size (Nat.le_refl _)
  go_enter Try.func61, Try.ntmps61
  go_wp2_with fail
  go_loopg [3, 4, 5, 6, 7] n (fun g v ki r1 r2 r3 wr => ∃ (k : Nat) (B : Option Addr) (N d : Nat), k + g = n ∧ ki = .int .i64 k ∧ v = .slice B N d ∧ OwnR wr w.heap.size B N d (M.qs xs k) ∧ Below w.heap.size w wr)
  case atStart => exact ⟨0, _, _, _, by omega, rfl, rfl, ho1, hb1⟩
  case round =>
    obtain ⟨k, B, N, d, hkg, rfl, rfl, hor, hbr⟩ := hrel
    clear ho1 hb1
    by_cases hlt : k < n
    · obtain ⟨g, rfl⟩ : ∃ g, gk = g + 1 := ⟨gk - 1, by omega⟩
      have hN : (M.qs xs k).length = N := hor.len
      have hN2 := HL.out k (by omega)
      have hN3 : N ≤ 121 := by
        have : (11 : Nat) ^ k ≤ 11 ^ 2 := Nat.pow_le_pow_right (by omega) (by omega)
        omega
      clear hN2
      have hrl := fun i (hi : i < N) => M.row_len (xs := xs) (k := k) (M.nthR_mem (l := M.qs xs k) (i := i) (by omega))
      have hq1 : M.qs xs (k + 1) = M.ga (nth xs k).toNat (M.qs xs k) := rfl
      obtain ⟨a, ha, ha10⟩ : ∃ a : Nat, nth xs k = (a : Int) ∧ a ≤ 10 := ⟨(nth xs k).toNat, by have := HX.out k hlt; omega, by have := HX.out k hlt; omega⟩
      obtain ⟨ad, rfl, hadb, hcell⟩ := HA.out k hlt
      rw [ha] at hcell hq1
      rw [Int.toNat_natCast] at hq1
      have Hq1 := Lib.hid hq1
      have Hrl := Lib.hid hrl
      have HN := Lib.hid hN
      have HC := Lib.hid (fun W (hW : Below w.heap.size w W) => (hW.cell (p := ad.add k) (by rw [block_of_add]; exact hadb)).trans hcell)
      clear hq1 hrl hN hcell
      generalize M.qs xs k = l at *
      obtain ⟨wo, hwo⟩ : ∃ wo : World, wo = wr := ⟨_, rfl⟩
      subst hwo
      have hbs := hbr.size
      have ho2 := ownR_lit0 wo wo.heap.size (Nat.le_refl _)
      have hb2 : Below wo.heap.size wo (wo.alloc (.cells #[] 23)) := (Below.refl _ _).alloc (Nat.le_refl _) _
      go_wp2_with fail
      go_loopg [5, 6, 7] N (fun g v ii r wy => ∃ (i : Nat) (C : Option Addr) (m e : Nat), i + g = N ∧ ii = .int .i64 i ∧ v = .slice C m e ∧ OwnR wy wo.heap.size C m e (M.ga a (l.take i)) ∧ Below wo.heap.size wo wy)
      case atStart => exact ⟨0, _, _, _, by omega, rfl, rfl, ho2, hb2⟩
      case round =>
        obtain ⟨i, C, m, e, hig, rfl, rfl, hoy, hby⟩ := hrel
        clear ho2 hb2
        by_cases hlt2 : i < N
        · obtain ⟨g2, rfl⟩ : ∃ g2, gk = g2 + 1 := ⟨gk - 1, by omega⟩
          obtain ⟨gB, A', n', c', rfl, hrow, hrow2⟩ := hor.at_ hlt2
          have hgB := World.block_lt_of_cell? _ _ hrow
          obtain rfl : n' = k := by have := hrow2.1; have := Hrl.out i hlt2; omega
          have hlen2 : i * (a + 1) ≤ 120 * 11 := Nat.mul_le_mul (by omega) (by omega)
          have Hlen := Lib.hid (show (M.ga a (l.take i)).length = i * (a + 1) by rw [M.length_ga, List.length_take]; have := HN.out; rw [Nat.min_eq_left (by omega)])
          have Hg := Lib.hid (M.ga_take (a := a) (l := l) (i := i) (by have := HN.out; omega))
          have hoy : OwnR wr wo.heap.size C m e (M.ga a (l.take i) ++ M.ups (M.nthR l i) 0) := by rw [M.ups_zero, List.append_nil]; exact hoy
          go_wp2_with fail
          go_loopg [5, 7] (a + 1) (fun g v r wz => ∃ (j : Nat) (C : Option Addr) (m e : Nat), j + g = a + 1 ∧ r = .int .i64 j ∧ v = .slice C m e ∧ OwnR wz wo.heap.size C m e (M.ga a (l.take i) ++ M.ups (M.nthR l i) j) ∧ Below wo.heap.size wo wz)
          case atStart => exact ⟨0, _, _, _, by omega, rfl, rfl, hoy, hby⟩
          case round =>
            clear hoy hby
            obtain ⟨j, C, m, e, hjg, rfl, rfl, hoz, hbz⟩ := hrel
            have hcz := HC.out wr (hbr.trans (hbz.mono hbs))
            by_cases hlt3 : j < a + 1
            · obtain ⟨g3, rfl⟩ : ∃ g3, gk = g3 + 1 := ⟨gk - 1, by omega⟩
              have hm : m ≤ 1400 := by
                have := hoz.len
                rw [List.length_append, M.length_ups, Hlen.out] at this
                omega
              have hcr : (wr.alloc (.cells #[] 3)).cell? ⟨gB, i, none⟩ = some (.slice A' n' c') := ((hbz.alloc hbz.size _).cell (p := ⟨gB, i, none⟩) hgB).trans hrow
              have hrd : RdI (wr.alloc (.cells #[] 3)) A' n' (M.nthR l i) := hrow2.rd.below (hbz.alloc hbz.size _)
              have hnone : A' = none → c' = 0 := fun e => by subst e; exact (own_none hrow2).2
              obtain ⟨vs, hl1, hr1, hR1⟩ := hoz
              have hbs2 := hbz.size
              go_wp2_with (at_builtin; first
                | (refine wpList_append_own _ rfl _ _ 56 rfl wo.heap.size 23 i1 (.slice none 0 0) 1 24 Try.underlying56 hj hy0 hy1 hy2 rfl (by decide) _ _ _ rfl (hr5.alloc _) ⟨_, 0, none⟩ 1 1 [.slice (some ⟨g5, 0, none⟩) (n' + 1) c5] rfl rfl (cell_one_new _ _ _) (by simp [Value.oneCell']) (by unfold maxLen; omega) (by omega) (by simp; omega) ?_; intro v6 w6 hown6 hgrow6 _)
                | (refine wpList_append_own _ rfl _ _ 23 rfl wr.heap.size 3 i0 (.int .i64 0) 1 8 Try.underlying23 hi hz0 hz1 hz2 rfl (by decide) _ _ _ rfl (ho4.2.alloc _) ⟨_, 0, none⟩ 1 1 [.int .i64 (j : Int)] rfl rfl (cell_one_new _ _ _) (by simp [Value.oneCell']) (by unfold maxLen; omega) (by omega) (by simp; omega) ?_; intro v5 w5 hown5 hgrow5 _; obtain ⟨g5, c5, rfl, ho5, hg5, hg5'⟩ := OwnI.appended ho4.1 hown5; have hb5 := below_own2 hb4 ho4 hgrow5; have hs5 := hb5.size; have hr5 := hr1.kept (grown_of_below hb5) (own_free _))
                | (refine wpList_append_row rfl _ _ 23 rfl wr.heap.size 3 i0 (.int .i64 0) Try.underlying23 hi hz0 hz1 hz2 rfl _ _ _ rfl (ownI_lit0 wr wr.heap.size (Nat.le_refl _)).2 A' n' c' (M.nthR l i) rfl hrd hnone (by omega) (by simp) ?_; intro v4 w4 hown4 hgrow4; obtain ⟨A4, c4, rfl, ho4⟩ := own_copied hrow2.1 hown4; have hb4 := below_new hgrow4; have hs4 := hb4.size))
              obtain ⟨g', c', rfl, hO⟩ := OwnR.appended hl1 hr5 hR1 hb5 ho5 hbs2 hown6 hgrow6
              have hB : Below wo.heap.size wo w6 := ((hbz.trans (hb5.mono hbs2)).alloc (by omega) _).grown hgrow6 (by simp; omega) (rows_block hr1)
              rw [List.append_assoc, ← M.ups_succ] at hO
              go_roundg g3
              case measure => omega
              case rel => exact ⟨j + 1, _, _, _, by omega, by go_num, rfl, hO, hB⟩
            · obtain rfl : j = a + 1 := by omega
              rw [← Hg.out] at hoz
              go_wp2
              go_roundg g2
              case measure => omega
              case rel => exact ⟨i + 1, _, _, _, by omega, by go_num, rfl, hoz, hbz⟩
        · obtain rfl : i = N := by omega
          have e1 : l.take i = l := List.take_of_length_le (by have := HN.out; omega)
          rw [e1, ← Hq1.out] at hoy
          go_wp2
          go_roundg g
          case measure => omega
          case rel => exact ⟨k + 1, _, _, _, by omega, by go_num, rfl, hoy.mono hbs, hbr.trans (hby.mono hbs)⟩
    · obtain rfl : k = n := by omega
      obtain rfl : gk = 0 := by omega
      go_wp2
      go_ret
      exact ⟨_, _, _, rfl, hor, hbr⟩

end Go.Proofs.Ytdpbjepjiloeaaa
