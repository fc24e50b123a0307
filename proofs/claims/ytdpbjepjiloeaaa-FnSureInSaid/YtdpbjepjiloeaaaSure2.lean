/- The walk of the program's search with a map: the step. No condition. -/
import Derived.Test.YtdpbjepjiloeaaaAsk2
namespace Go.Proofs.Ytdpbjepjiloeaaa
open Go Go.RowKit
open M (nth)

theorem grown_setCell (w : World) (a : Addr) (v : Value) : w.grownBy (w.setCell a v) (some a.block) :=
  ⟨rfl, rfl, rfl, by simp, fun k _ hk => RowKit.Below.heap_setCell _ _ _ _ (fun e => hk (by rw [e]))⟩
theorem grown_setCells (b : Nat) : ∀ (vs : List Value) (o : Nat) (w : World), w.grownBy (w.setCells b o vs) (some b)
  | [], _, w => World.grownBy.refl w _
  | v :: r, o, w => grown_trans (grown_setCell w ⟨b, o, none⟩ v) (grown_setCells b r (o + 1) _)
theorem size_setCells (b : Nat) : ∀ (vs : List Value) (o : Nat) (w : World), (w.setCells b o vs).heap.size = w.heap.size
  | [], _, _ => rfl
  | v :: r, o, w => (size_setCells b r (o + 1) _).trans (by simp)
theorem copyRow (W : World) (g : Nat) (A : Option Addr) (n c bR : Nat) (row : List Int) (p : Nat) (hr : OwnI W bR A n c row) (hn1 : 1 ≤ n) (hn3 : n ≤ 3)
    (hg : W.heap[g]? = some (.cells #[.int .i64 0, .int .i64 0, .int .i64 0, .int .i64 (p : Int)] 60 (0, 0))) :
    ∃ W', (Builtin.copy_ #[23, 23] 3 #[.slice (some ⟨g, 0, none⟩) 3 3, .slice A n c]).run Try.prog W = .ok (.int .i64 (n : Int)) W' ∧ W.grownBy W' (some g) ∧ W'.heap.size = W.heap.size ∧
      W'.cell? ⟨g, 0, none⟩ = some (.int .i64 (nth row 0)) ∧ W'.cell? ⟨g, 1, none⟩ = some (.int .i64 (nth row 1)) ∧ W'.cell? ⟨g, 2, none⟩ = some (.int .i64 (nth row 2)) ∧ W'.cell? ⟨g, 3, none⟩ = some (.int .i64 (p : Int)) := by
  obtain ⟨i0, hi, hz0, hz1, hz2⟩ := info_parts Try.infoInt
  have hl := hr.1
  obtain ⟨ad, rfl, hadb, hc⟩ := hr.rd.cells (by omega)
  have hcell : ∀ j, j < 4 → W.cell? ⟨g, j, none⟩ = some ((#[Value.int .i64 0, .int .i64 0, .int .i64 0, .int .i64 (p : Int)] : Array Value).getD j undef) := fun j hj => by
    unfold World.cell?
    simp only [hg]
    match j, hj with
    | 0, _ => rfl
    | 1, _ => rfl
    | 2, _ => rfl
    | 3, _ => rfl
  have hfro : ∀ j, W.frozen? ⟨g, j, none⟩ = false := fun j => by
    unfold World.frozen?
    simp only [hg]
    simp
  have hrun := run_copy_cells (P := Try.prog) W 23 23 3 3 g 0 3 3 ad n c (row.map (Value.int .i64)) Try.underlying23 (by rw [hi]; simpa using hz1) (by rw [List.length_map, hl]; exact (Nat.min_eq_left hn3).symm)
    (fun j v hj => by
      have hjl : j < n := by
        have := (List.getElem?_eq_some_iff.1 hj).1
        simpa [hl] using this
      rw [hc j hjl]
      have hj' : j < row.length := by omega
      simp [List.getElem?_eq_getElem hj'] at hj
      rw [← hj, M.nth_lt hj'])
    (fun j hj => by
      have : j < 4 := by simp [hl] at hj; omega
      rw [Nat.zero_add, hcell j this]; rfl)
    (fun j _ => hfro _) (fun v hv => by
      obtain ⟨y, -, rfl⟩ := List.mem_map.1 hv
      rfl)
  have hin : ∀ j, j < n → (W.setCells g 0 (row.map (Value.int .i64))).cell? ⟨g, j, none⟩ = some (.int .i64 (nth row j)) := fun j hj => by
    have := World.cell?_setCells_in g (row.map (Value.int .i64)) 0 W (fun j hj => by
      have : j < 4 := by simp [hl] at hj; omega
      rw [Nat.zero_add, hcell j this]; rfl) j (by simp [hl]; exact hj)
    rw [Nat.zero_add] at this
    rw [this]
    simp [M.nth_lt (show j < row.length by omega)]
  have hout : ∀ j, n ≤ j → (W.setCells g 0 (row.map (Value.int .i64))).cell? ⟨g, j, none⟩ = W.cell? ⟨g, j, none⟩ := fun j hj =>
    World.cell?_setCells_out g _ 0 W _ (fun _ _ => .inr (by simp [hl]; exact hj))
  have h3 : ∀ j, j < 3 → (W.setCells g 0 (row.map (Value.int .i64))).cell? ⟨g, j, none⟩ = some (.int .i64 (nth row j)) := fun j hj => by
    by_cases e : j < n
    · exact hin j e
    · rw [hout j (by omega), hcell j (by omega)]
      have e0 : nth row j = 0 := by simp only [nth]; rw [List.getElem?_eq_none (by omega)]; rfl
      rw [e0]
      match j, hj with
      | 0, _ => rfl
      | 1, _ => rfl
      | 2, _ => rfl
  refine ⟨_, by rw [hrun]; simp [hl, goInt], grown_setCells g _ 0 W, size_setCells g _ 0 W, h3 0 (by omega), h3 1 (by omega), h3 2 (by omega), ?_⟩
  rw [hout 3 hn3, hcell 3 (by omega)]
  rfl

theorem Asks.more {w : World} {N B L : Nat} {A : Option Addr} {c bR : Nat} {row : List Int} {p : Nat} {W : World} {x : List Int} (h : Asks w N B L A c bR row p W x) :
    (∃ x', Asks w N B L A c bR row p W x') ∧ W.cell? ⟨N, 0, none⟩ = some (.map (some B)) ∧ W.cell? ⟨N + 1 + 1 + 1, 0, none⟩ = some (.int .i64 (nth row 0)) ∧ W.cell? ⟨N + 1 + 1 + 1, 1, none⟩ = some (.int .i64 (nth row 1)) ∧ W.cell? ⟨N + 1 + 1 + 1, 2, none⟩ = some (.int .i64 (nth row 2)) ∧ W.cell? ⟨N + 1 + 1 + 1, 3, none⟩ = some (.int .i64 (p : Int)) ∧ W.cell? ⟨N + 4 + 1 + 1, 0, none⟩ = some (.func (.func 62) #[] #[.pointer (some ⟨N + 1, 0, none⟩), .pointer (some ⟨N, 0, none⟩), .pointer (some ⟨N + 4 + 1, 0, none⟩), .pointer (some ⟨N + 1 + 1, 0, none⟩), .pointer (some ⟨N + 4 + 1 + 1, 0, none⟩)]) := ⟨⟨x, h⟩, h.c0, h.s0, h.s1, h.s2, h.s3, h.c6⟩

set_option maxHeartbeats 4000000 in
theorem sure_succ (L q : Nat) (hq : q + 1 ≤ 9) (hS : SureAt L q) : SureAt L (q + 1) := by
  intro w B A n c bR row hO hr hk hL
  obtain ⟨hfit, hs0, hs10⟩ := M.known_sum2 hk
  obtain ⟨j1, j2, j3, -⟩ := M.known_parts hk
  obtain ⟨p, hp⟩ : ∃ p, p = q + 1 := ⟨_, rfl⟩
  rw [← hp]
  have hn : n = L := by have := hr.1; omega
  subst hn
  have hp0 : ((p : Int) == 0) = false := by simp; omega
  have hb3 : Below w.heap.size w (((w.alloc (.cells #[.map (some B)] 52)).alloc (.cells #[.slice A n c] 23)).alloc (.cells #[.int .i64 (p : Int)] 3)) := (((Below.refl _ _).alloc (Nat.le_refl _) _).alloc (by simp) _).alloc (by simp; omega) _
  by_cases hs : M.sumL row ≤ 1
  · have hv := Lib.hid (M.win_few hs p)
    clear hp hS
    go_enter Try.func51, Try.ntmps51
    go_wp2_with fail
    refine (total_c A n c row _ (hr.rd.below hb3) hfit).mono ?_
    rintro e w1 ⟨rfl, rfl⟩
    go_wp2
    go_ret
    exact ⟨by rw [hv.out]; rfl, hO.below hb3, grown_below hb3⟩
  · have HP := Lib.hid hp
    clear hp
    go_enter Try.func51, Try.ntmps51
    go_wp2_with fail
    refine (total_c A n c row _ (hr.rd.below hb3) hfit).mono ?_
    rintro e w1 ⟨rfl, rfl⟩
    go_wp2_with fail
    have hb4 := hb3.alloc (by simp; omega) (.cells #[Value.int IntKind.i64 0, Value.int IntKind.i64 0, Value.int IntKind.i64 0, Value.int IntKind.i64 (p : Int)] 60)
    have hz4 : ((((w.alloc (.cells #[.map (some B)] 52)).alloc (.cells #[.slice A n c] 23)).alloc (.cells #[.int .i64 (p : Int)] 3)).alloc (.cells #[Value.int IntKind.i64 0, Value.int IntKind.i64 0, Value.int IntKind.i64 0, Value.int IntKind.i64 (p : Int)] 60)).heap.size = w.heap.size + 4 := by simp
    have hg4 : ((((w.alloc (.cells #[.map (some B)] 52)).alloc (.cells #[.slice A n c] 23)).alloc (.cells #[.int .i64 (p : Int)] 3)).alloc (.cells #[Value.int IntKind.i64 0, Value.int IntKind.i64 0, Value.int IntKind.i64 0, Value.int IntKind.i64 (p : Int)] 60)).heap[w.heap.size + 1 + 1 + 1]? = some (.cells #[Value.int IntKind.i64 0, Value.int IntKind.i64 0, Value.int IntKind.i64 0, Value.int IntKind.i64 (p : Int)] 60 (0, 0)) := by
      have := (MapKept.heap_alloc (((w.alloc (.cells #[.map (some B)] 52)).alloc (.cells #[.slice A n c] 23)).alloc (.cells #[.int .i64 (p : Int)] 3)) (.cells #[Value.int IntKind.i64 0, Value.int IntKind.i64 0, Value.int IntKind.i64 0, Value.int IntKind.i64 (p : Int)] 60)).1
      simpa using this
    have c0 : ((((w.alloc (.cells #[.map (some B)] 52)).alloc (.cells #[.slice A n c] 23)).alloc (.cells #[.int .i64 (p : Int)] 3)).alloc (.cells #[Value.int IntKind.i64 0, Value.int IntKind.i64 0, Value.int IntKind.i64 0, Value.int IntKind.i64 (p : Int)] 60)).cell? ⟨w.heap.size, 0, none⟩ = some (.map (some B)) := by
      rw [World.cell?_alloc_past _ _ _ (by simp; omega), World.cell?_alloc_past _ _ _ (by simp; omega), World.cell?_alloc_past _ _ _ (by simp), World.cell?_alloc_at _ _ _ _ rfl]; rfl
    have c1 : ((((w.alloc (.cells #[.map (some B)] 52)).alloc (.cells #[.slice A n c] 23)).alloc (.cells #[.int .i64 (p : Int)] 3)).alloc (.cells #[Value.int IntKind.i64 0, Value.int IntKind.i64 0, Value.int IntKind.i64 0, Value.int IntKind.i64 (p : Int)] 60)).cell? ⟨w.heap.size + 1, 0, none⟩ = some (.slice A n c) := by
      rw [World.cell?_alloc_past _ _ _ (by simp), World.cell?_alloc_past _ _ _ (by simp), World.cell?_alloc_at _ _ _ _ (by simp)]; rfl
    have c2 : ((((w.alloc (.cells #[.map (some B)] 52)).alloc (.cells #[.slice A n c] 23)).alloc (.cells #[.int .i64 (p : Int)] 3)).alloc (.cells #[Value.int IntKind.i64 0, Value.int IntKind.i64 0, Value.int IntKind.i64 0, Value.int IntKind.i64 (p : Int)] 60)).cell? ⟨w.heap.size + 1 + 1, 0, none⟩ = some (.int .i64 (p : Int)) := by
      rw [World.cell?_alloc_past _ _ _ (by simp), World.cell?_alloc_at _ _ _ _ (by simp)]; rfl
    clear hb3
    generalize ((((w.alloc (.cells #[.map (some B)] 52)).alloc (.cells #[.slice A n c] 23)).alloc (.cells #[.int .i64 (p : Int)] 3)).alloc (.cells #[Value.int IntKind.i64 0, Value.int IntKind.i64 0, Value.int IntKind.i64 0, Value.int IntKind.i64 (p : Int)] 60)) = W4 at *
    have Hz4 := Lib.hid hz4
    clear hz4
    have hrlow : ∀ ad, A = some ad → ad.block < w.heap.size := fun ad e => by subst e; exact hr.lt.2
    have hBlow := hO.lt
    have hr4 := hr.below hb4
    have hO4 := hO.below hb4
    generalize hN : w.heap.size = N at *
    obtain ⟨W5, hcopy, hg5, hz5, s0, s1, s2, s3⟩ := copyRow W4.drew (N + 1 + 1 + 1) A n c bR row p hr4.drew (by omega) (by omega) hg4
    have c1' : W4.drew.cell? ⟨N + 1, 0, none⟩ = some (.slice A n c) := c1
    have hk5 : ∀ (k : Nat) (v : Value), k ≠ N + 3 → W4.cell? ⟨k, 0, none⟩ = some v → W5.cell? ⟨k, 0, none⟩ = some v := fun k v hk hc => by
      rw [World.cell?_of_block (hg5.block k (World.block_lt_of_cell? _ _ hc) (by simp; omega))]
      exact hc
    have d0 := hk5 _ _ (by omega) c0
    have d1 := hk5 _ _ (by omega) c1
    have d2 := hk5 _ _ (by omega) c2
    have hO5 : Orc W5 B n := (show Orc W4.drew B n from hO4).kept hg5 (by simp; omega)
    have hr5 : OwnI W5 bR A n c row := hr4.drew.kept hg5 (by
      cases A with
      | none => exact .inl rfl
      | some ad => have := hrlow ad rfl; exact .inr (by simp [Value.ownBlock]; omega))
    have hgw5 : w.grownBy W5 (some B) := (show w.grownBy W4.drew (some B) from (by rw [← hN] at hb4; exact grown_below (w' := W4.drew) (hb4.trans (Quiet.below ⟨1, rfl⟩ _)))).andThen hg5 (fun j e => by cases e; left; omega)
    have HZ5 := Lib.hid (show W5.heap.size = N + 4 from by rw [hz5]; exact Hz4.out)
    obtain ⟨v, ok, hrun, hv⟩ := hO5.look_ok hk hL (q := p) (by have := HP.out; omega)
    unfold KV at hrun
    have HN := Lib.hid hN
    have Hcl := Lib.hid (show True from trivial)
    have HV := Lib.hid hv
    clear hv hz5 hk5
    go_region
    clear hcopy hg5 hg4 c0 c1 c2 hb4 hr4 hO4 hN c1'
    cases ok with
    | true =>
      have HV2 := Lib.hid (HV.out rfl)
      clear HV
      go_wp2
      go_ret
      exact ⟨by rw [← HV2.out]; rfl, hO5, hgw5⟩
    | false =>
      have hmk := mk_run n (by omega)
      have hmf : ∀ (fn : Fn) (first cap : Array Value) (w : World), (Instr.makeFunc fn first cap).run Try.prog w = .ok (.func fn first cap) w := fun _ _ _ _ => rfl
      have hn9 : p ≤ 9 := by have := HP.out; omega
      have hwin : M.win p row = M.anyC (askF q row) row [] := by
        have e := HP.out
        subst e
        rw [M.win_step (by omega)]
        rfl
      have HA := Lib.hid (show ∀ W', Asks w N B n A c bR row p W' (List.replicate n 0) → Calls Try.prog 62 #[.int .i64 0, .pointer (some ⟨N + 1, 0, none⟩), .pointer (some ⟨N, 0, none⟩), .pointer (some ⟨N + 4 + 1, 0, none⟩), .pointer (some ⟨N + 1 + 1, 0, none⟩), .pointer (some ⟨N + 4 + 1 + 1, 0, none⟩)] W'
          fun e w' => e = .returned (.bool (M.win p row)) ∧ ∃ x', Asks w N B n A c bR row p w' x' from fun W' h' => by
        refine (ask_c n q p HP.out hn9 hS w N B A c bR row hk hL n 0 (List.replicate n 0) W' (by omega) h' (fun k hk => absurd hk (Nat.not_lt_zero _))).mono ?_
        rintro e w' ⟨rfl, x', hA, -⟩
        exact ⟨by rw [hwin]; rfl, x', hA⟩)
      clear hwin
      have HST := Lib.hid (show ∀ W', Orc W' B n → ∃ w', (Instr.mapUpdate 52 (.map (some B)) (.agg #[.int .i64 (nth row 0), .int .i64 (nth row 1), .int .i64 (nth row 2), .int .i64 (p : Int)]) (.bool (M.win p row))).run Try.prog W' = .ok () w' ∧ Orc w' B n ∧ W'.grownBy w' (some B) ∧
          (Instr.lookup 52 (.map (some B)) (.agg #[.int .i64 (nth row 0), .int .i64 (nth row 1), .int .i64 (nth row 2), .int .i64 (p : Int)]) false).run Try.prog w' = .ok (.bool (M.win p row)) w' from fun W' h' => h'.store hk hL hn9)
      generalize hVV : M.win p row = V at *
      have HVV := Lib.hid hVV
      clear hVV
      go_wp2_with fail
      have hz5 := HZ5.out
      have hb7 : Below W5.heap.size W5 (((W5.alloc (.cells (zer n) 3)).alloc (.cells #[.slice (some ⟨W5.heap.size, 0, none⟩) n n] 23)).alloc (.cells #[.func (.func 62) #[] #[.pointer (some ⟨N + 1, 0, none⟩), .pointer (some ⟨N, 0, none⟩), .pointer (some ⟨W5.heap.size + 1, 0, none⟩), .pointer (some ⟨N + 1 + 1, 0, none⟩), .pointer (some ⟨W5.heap.size + 1 + 1, 0, none⟩)]] 44)) := (((Below.refl _ _).alloc (Nat.le_refl _) _).alloc (by simp) _).alloc (by simp; omega) _
      have hk7 : ∀ (k j : Nat) (v : Value), W5.cell? ⟨k, j, none⟩ = some v → (((W5.alloc (.cells (zer n) 3)).alloc (.cells #[.slice (some ⟨W5.heap.size, 0, none⟩) n n] 23)).alloc (.cells #[.func (.func 62) #[] #[.pointer (some ⟨N + 1, 0, none⟩), .pointer (some ⟨N, 0, none⟩), .pointer (some ⟨W5.heap.size + 1, 0, none⟩), .pointer (some ⟨N + 1 + 1, 0, none⟩), .pointer (some ⟨W5.heap.size + 1 + 1, 0, none⟩)]] 44)).cell? ⟨k, j, none⟩ = some v := fun k j v hc => (hb7.cell (p := ⟨k, j, none⟩) (World.block_lt_of_cell? _ _ hc)).trans hc
      have hque : OwnI (((W5.alloc (.cells (zer n) 3)).alloc (.cells #[.slice (some ⟨W5.heap.size, 0, none⟩) n n] 23)).alloc (.cells #[.func (.func 62) #[] #[.pointer (some ⟨N + 1, 0, none⟩), .pointer (some ⟨N, 0, none⟩), .pointer (some ⟨W5.heap.size + 1, 0, none⟩), .pointer (some ⟨N + 1 + 1, 0, none⟩), .pointer (some ⟨W5.heap.size + 1 + 1, 0, none⟩)]] 44)) W5.heap.size (some ⟨W5.heap.size, 0, none⟩) n n (List.replicate n 0) := ((ownI_zer W5 W5.heap.size n (Nat.le_refl _) (by omega)).alloc _).alloc _
      have e5 : (((W5.alloc (.cells (zer n) 3)).alloc (.cells #[.slice (some ⟨W5.heap.size, 0, none⟩) n n] 23)).alloc (.cells #[.func (.func 62) #[] #[.pointer (some ⟨N + 1, 0, none⟩), .pointer (some ⟨N, 0, none⟩), .pointer (some ⟨W5.heap.size + 1, 0, none⟩), .pointer (some ⟨N + 1 + 1, 0, none⟩), .pointer (some ⟨W5.heap.size + 1 + 1, 0, none⟩)]] 44)).cell? ⟨W5.heap.size + 1, 0, none⟩ = some (.slice (some ⟨W5.heap.size, 0, none⟩) n n) := by
        rw [World.cell?_alloc_past _ _ _ (by simp), World.cell?_alloc_at _ _ _ _ (by simp)]; rfl
      have e6 : (((W5.alloc (.cells (zer n) 3)).alloc (.cells #[.slice (some ⟨W5.heap.size, 0, none⟩) n n] 23)).alloc (.cells #[.func (.func 62) #[] #[.pointer (some ⟨N + 1, 0, none⟩), .pointer (some ⟨N, 0, none⟩), .pointer (some ⟨W5.heap.size + 1, 0, none⟩), .pointer (some ⟨N + 1 + 1, 0, none⟩), .pointer (some ⟨W5.heap.size + 1 + 1, 0, none⟩)]] 44)).cell? ⟨W5.heap.size + 1 + 1, 0, none⟩ = some (.func (.func 62) #[] #[.pointer (some ⟨N + 1, 0, none⟩), .pointer (some ⟨N, 0, none⟩), .pointer (some ⟨W5.heap.size + 1, 0, none⟩), .pointer (some ⟨N + 1 + 1, 0, none⟩), .pointer (some ⟨W5.heap.size + 1 + 1, 0, none⟩)]) := by
        rw [World.cell?_alloc_at _ _ _ _ (by simp)]; rfl
      generalize (((W5.alloc (.cells (zer n) 3)).alloc (.cells #[.slice (some ⟨W5.heap.size, 0, none⟩) n n] 23)).alloc (.cells #[.func (.func 62) #[] #[.pointer (some ⟨N + 1, 0, none⟩), .pointer (some ⟨N, 0, none⟩), .pointer (some ⟨W5.heap.size + 1, 0, none⟩), .pointer (some ⟨N + 1 + 1, 0, none⟩), .pointer (some ⟨W5.heap.size + 1 + 1, 0, none⟩)]] 44)) = W7 at *
      have hsz7 : N + 7 ≤ W7.heap.size := by have := World.block_lt_of_cell? _ _ e6; simp at this; omega
      rw [hz5] at e5 e6 hque ⊢
      have hA7 : Asks w N B n A c bR row p W7 (List.replicate n 0) := { grown := grown_trans hgw5 (grown_below hb7), base := HN.out, lt := hBlow, size := hsz7, c0 := hk7 _ _ _ d0, c1 := hk7 _ _ _ d1, c2 := hk7 _ _ _ d2, s0 := hk7 _ _ _ s0, s1 := hk7 _ _ _ s1, s2 := hk7 _ _ _ s2, s3 := hk7 _ _ _ s3, c5 := e5, c6 := e6, row := hr5.below hb7, low := hrlow, que := hque, orc := hO5.below hb7 }
      have hA7d : Asks w N B n A c bR row p W7.drew (List.replicate n 0) := hA7.below (Quiet.below ⟨1, rfl⟩ _ : Below W7.heap.size W7 W7.drew)
      clear hz5 e5 e6 hque hk7 hb7 hsz7 d0 d1 d2 s0 s1 s2 s3 hO5 hr5 hgw5 hmk hmf hrun hA7 hS
      refine wp_region_held_drew (S := fun W' => (∃ x', Asks w N B n A c bR row p W' x') ∧ W'.cell? ⟨N, 0, none⟩ = some (.map (some B)) ∧ W'.cell? ⟨N + 1 + 1 + 1, 0, none⟩ = some (.int .i64 (nth row 0)) ∧ W'.cell? ⟨N + 1 + 1 + 1, 1, none⟩ = some (.int .i64 (nth row 1)) ∧ W'.cell? ⟨N + 1 + 1 + 1, 2, none⟩ = some (.int .i64 (nth row 2)) ∧ W'.cell? ⟨N + 1 + 1 + 1, 3, none⟩ = some (.int .i64 (p : Int)) ∧ W'.cell? ⟨N + 4 + 1 + 1, 0, none⟩ = some (.func (.func 62) #[] #[.pointer (some ⟨N + 1, 0, none⟩), .pointer (some ⟨N, 0, none⟩), .pointer (some ⟨N + 4 + 1, 0, none⟩), .pointer (some ⟨N + 1 + 1, 0, none⟩), .pointer (some ⟨N + 4 + 1 + 1, 0, none⟩)])) (by kernel_rfl) hA7d.more (fun hHeld => ?_)
      refine with_hQ2 (fun _ _ _ _ _ h => h) (fun hQ => ?_)
      refine wpAnyH_take (i := 0) (oi := { dst := some 35, op := _, type := _, pos := _, after := _, guard := _ }) (v := ?v0) rfl (by kernel_rfl) (by kernel_rfl) (by kernel_rfl) (fun c v w h => hQ c _ _ _ w h) (Or.inl ⟨by rfl, ?y0⟩) (by assumption) ?r0
      case y0 =>
        intro w hSw
        obtain ⟨-, hz0, hz1, hz2, hz3, hz4, hz5⟩ := hSw
        go_simp
        try with_reducible rfl
      case r0 =>
      simp only [put_lit2, List.set]
      refine wpAnyH_take (i := 1) (oi := { dst := some 36, op := _, type := _, pos := _, after := _, guard := _ }) (v := ?v1) rfl (by kernel_rfl) (by kernel_rfl) (by kernel_rfl) (fun c v w h => hQ c _ _ _ w h) (Or.inl ⟨by rfl, ?y1⟩) (by assumption) ?r1
      case y1 =>
        intro w hSw
        obtain ⟨-, hz0, hz1, hz2, hz3, hz4, hz5⟩ := hSw
        go_simp
        try with_reducible rfl
      case r1 =>
      simp only [put_lit2, List.set]
      refine wpAnyH_take (i := 2) (oi := { dst := some 37, op := _, type := _, pos := _, after := _, guard := _ }) (v := ?v2) rfl (by kernel_rfl) (by kernel_rfl) (by kernel_rfl) (fun c v w h => hQ c _ _ _ w h) (Or.inl ⟨by rfl, ?y2⟩) (by assumption) ?r2
      case y2 =>
        intro w hSw
        obtain ⟨-, hz0, hz1, hz2, hz3, hz4, hz5⟩ := hSw
        go_simp
        try with_reducible rfl
      case r2 =>
      simp only [put_lit2, List.set]
      refine wpAnyH_ready (rs := [3]) (by kernel_rfl) (by simp) ?_
      refine AllReadyH.cons (o := { dst := some 38, op := _, type := _, pos := _, after := _, guard := _ }) rfl (fun K hK => ?_) AllReadyH.nil
      go_simp
      refine (HA.out _ hA7d).mono ?_
      rintro e w8 ⟨rfl, x8, hA8⟩
      dsimp only
      refine hK.out _ _ ?_ (fun hHeld8 => ?_)
      · exact hA8.more
      clear hK K
      try simp only [put_lit2, List.set]
      obtain ⟨w9, hrun9, hO9, hg9, hlk9⟩ := HST.out _ hA8.orc
      have hA9 := hA8.turn hg9 hO9
      have d0 := hA8.c0
      refine wpAnyH_ready (rs := [4]) (by kernel_rfl) (by simp) ?_
      refine AllReadyH.cons (o := { dst := none, op := _, type := _, pos := _, after := _, guard := _ }) rfl (fun K hK => ?_) AllReadyH.nil
      go_simp
      refine hK.out _ _ ?_ (fun hHeld9 => ?_)
      · exact hA9.more
      clear hK K
      try simp only [put_lit2, List.set]
      refine wpAnyH_done (by kernel_rfl) ?_ _
      clear hHeld8 hHeld
      obtain ⟨-, f0, f1, f2, f3, f4, -⟩ := hHeld9
      go_wp2
      go_ret
      exact ⟨by rw [HVV.out]; rfl, hO9, hA9.grown⟩

end Go.Proofs.Ytdpbjepjiloeaaa
