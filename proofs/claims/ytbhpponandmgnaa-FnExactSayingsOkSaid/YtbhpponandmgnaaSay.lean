/- Contracts of the closures that sayings are, and of the reader of a text. No condition. -/
import Derived.Test.YtbhpponandmgnaaCom
import Derived.Test.YtbhpponandmgnaaNMath
import Derived.Laws.EntriesVeiled
namespace Go.Proofs.Ytbhpponandmgnaa
open Go Go.RowKit
open M (nth)

theorem quiet_l {P : Program} {f : FuncId} {args : Array Value} {w : World} {n : Nat} {v : Value} (h : Calls P f args (w.drewN n) fun e w' => e = .returned v ∧ w.drewN n = w') :
    Calls P f args (w.drewN n) fun e w' => e = .returned v ∧ ∃ m, w' = w.drewN m := h.mono fun _ _ ⟨he, hw⟩ => ⟨he, n, hw.symm⟩
theorem quiet_m {P : Program} {f : FuncId} {args : Array Value} {w : World} {n : Nat} {v : Value} (h : Calls P f args (w.drewN n) fun e w' => e = .returned v ∧ Quiet (w.drewN n) w') :
    Calls P f args (w.drewN n) fun e w' => e = .returned v ∧ ∃ m, w' = w.drewN m := h.mono fun _ _ ⟨he, hw⟩ => ⟨he, by obtain ⟨m, hm⟩ := hw; exact ⟨n + m, by rw [hm, World.drewN_drewN]⟩⟩

def M.o1 (x : Int) : Int := IntKind.u64.wrap (bits .and .u64 (x / 2) 6148914691236517205 + bits .and .u64 x 6148914691236517205)
def M.o2 (x : Int) : Int := IntKind.u64.wrap (bits .and .u64 (x / 4) 3689348814741910323 + bits .and .u64 x 3689348814741910323)
def M.o3 (x : Int) : Int := bits .and .u64 (IntKind.u64.wrap (x / 16 + x)) 1085102592571150095
def M.o4 (d x : Int) : Int := IntKind.u64.wrap (x + x / d)
def M.ones (x : Int) : Int := bits .and .i64 (wrap64 (M.o4 4294967296 (M.o4 65536 (M.o4 256 (M.o3 (M.o2 (M.o1 x))))))) 127
theorem M.ones_eq : ∀ x : Nat, x < 32 → M.ones (x : Int) = ((M.kn x 5 : Nat) : Int) := by decide +kernel

set_option maxRecDepth 100000 in
theorem OnesCount64_c (x : Nat) (w : World) (hx : x < 32) : Calls Try.prog 46 #[.int .u64 x] w fun e w' => e = .returned (.int .i64 (M.kn x 5 : Nat)) ∧ w' = w := by
  go_enter Try.func46, Try.ntmps46
  go_wp2_with fail
  go_ret
  refine ⟨?_, rfl⟩
  refine congrArg (fun t => Ending.returned (Value.int .i64 t)) ?_
  exact M.ones_eq x hx

theorem OnesCount_c (x : Nat) (w : World) (hx : x < 32) : Calls Try.prog 42 #[.int .u64 x] w fun e w' => e = .returned (.int .i64 (M.kn x 5 : Nat)) ∧ w' = w := by
  go_enter Try.func42, Try.ntmps42
  go_wp2_with fail
  refine (OnesCount64_c x w hx).mono ?_
  rintro e w1 ⟨rfl, rfl⟩
  go_wp2
  go_ret
  exact ⟨rfl, rfl⟩

/-- The value is the closure of a saying; its captured variables lie in blocks from B on. -/
def Rep (w : World) (B : Nat) : M.Say → Value → Prop
  | .who k, v => ∃ b, v = .func (.func 39) #[] #[.pointer (some ⟨b, 0, none⟩)] ∧ B ≤ b ∧ w.cell? ⟨b, 0, none⟩ = some (.int .i64 k) ∧ k ≤ 4
  | .cnt n, v => ∃ b, v = .func (.func 41) #[] #[.pointer (some ⟨b, 0, none⟩)] ∧ B ≤ b ∧ w.cell? ⟨b, 0, none⟩ = some (.int .u8 ((48 + n : Nat) : Int)) ∧ n ≤ 5
  | .not a, v => ∃ b u, v = .func (.func 40) #[] #[.pointer (some ⟨b, 0, none⟩)] ∧ B ≤ b ∧ w.cell? ⟨b, 0, none⟩ = some u ∧ Rep w B a u
  | .both a c, v => ∃ b u b' u', v = .func (.func 47) #[] #[.pointer (some ⟨b, 0, none⟩), .pointer (some ⟨b', 0, none⟩)] ∧ B ≤ b ∧ B ≤ b' ∧ w.cell? ⟨b, 0, none⟩ = some u ∧ w.cell? ⟨b', 0, none⟩ = some u' ∧ Rep w B a u ∧ Rep w B c u'
  | .one a c, v => ∃ b u b' u', v = .func (.func 48) #[] #[.pointer (some ⟨b, 0, none⟩), .pointer (some ⟨b', 0, none⟩)] ∧ B ≤ b ∧ B ≤ b' ∧ w.cell? ⟨b, 0, none⟩ = some u ∧ w.cell? ⟨b', 0, none⟩ = some u' ∧ Rep w B a u ∧ Rep w B c u'
  | .same a c, v => ∃ b u b' u', v = .func (.func 49) #[] #[.pointer (some ⟨b, 0, none⟩), .pointer (some ⟨b', 0, none⟩)] ∧ B ≤ b ∧ B ≤ b' ∧ w.cell? ⟨b, 0, none⟩ = some u ∧ w.cell? ⟨b', 0, none⟩ = some u' ∧ Rep w B a u ∧ Rep w B c u'
/-- It stays while the blocks from B on stay. -/
theorem Rep.keep {w w' : World} {B : Nat} (h : ∀ b v, B ≤ b → w.cell? ⟨b, 0, none⟩ = some v → w'.cell? ⟨b, 0, none⟩ = some v) : ∀ (a : M.Say) (v : Value), Rep w B a v → Rep w' B a v
  | .who _, _, ⟨b, e, hb, hc, hk⟩ => ⟨b, e, hb, h _ _ hb hc, hk⟩
  | .cnt _, _, ⟨b, e, hb, hc, hk⟩ => ⟨b, e, hb, h _ _ hb hc, hk⟩
  | .not a, _, ⟨b, u, e, hb, hc, ha⟩ => ⟨b, u, e, hb, h _ _ hb hc, Rep.keep h a u ha⟩
  | .both a c, _, ⟨b, u, b', u', e, hb, hb', hc, hc', ha, ha'⟩ => ⟨b, u, b', u', e, hb, hb', h _ _ hb hc, h _ _ hb' hc', Rep.keep h a u ha, Rep.keep h c u' ha'⟩
  | .one a c, _, ⟨b, u, b', u', e, hb, hb', hc, hc', ha, ha'⟩ => ⟨b, u, b', u', e, hb, hb', h _ _ hb hc, h _ _ hb' hc', Rep.keep h a u ha, Rep.keep h c u' ha'⟩
  | .same a c, _, ⟨b, u, b', u', e, hb, hb', hc, hc', ha, ha'⟩ => ⟨b, u, b', u', e, hb, hb', h _ _ hb hc, h _ _ hb' hc', Rep.keep h a u ha, Rep.keep h c u' ha'⟩
theorem Rep.grown {w w' : World} {B : Nat} {row : Option Nat} {a : M.Say} {v : Value} (h : Rep w B a v) (hg : w.grownBy w' row) (hr : ∀ r, row = some r → r < B) : Rep w' B a v :=
  Rep.keep (fun b v hb hc => hg.cell hc (fun e => by have := hr b e.symm; omega)) a v h
theorem Rep.drewN {w : World} {B : Nat} {a : M.Say} {v : Value} (h : Rep w B a v) (m : Nat) : Rep (w.drewN m) B a v := Rep.keep (w := w) (w' := w.drewN m) (fun _ _ _ h => h) a v h
theorem Rep.mono {w : World} {B B' : Nat} (hB : B' ≤ B) : ∀ (a : M.Say) (v : Value), Rep w B a v → Rep w B' a v
  | .who _, _, ⟨b, e, hb, hc, hk⟩ => ⟨b, e, Nat.le_trans hB hb, hc, hk⟩
  | .cnt _, _, ⟨b, e, hb, hc, hk⟩ => ⟨b, e, Nat.le_trans hB hb, hc, hk⟩
  | .not a, _, ⟨b, u, e, hb, hc, ha⟩ => ⟨b, u, e, Nat.le_trans hB hb, hc, Rep.mono hB a u ha⟩
  | .both a c, _, ⟨b, u, b', u', e, hb, hb', hc, hc', ha, ha'⟩ => ⟨b, u, b', u', e, Nat.le_trans hB hb, Nat.le_trans hB hb', hc, hc', Rep.mono hB a u ha, Rep.mono hB c u' ha'⟩
  | .one a c, _, ⟨b, u, b', u', e, hb, hb', hc, hc', ha, ha'⟩ => ⟨b, u, b', u', e, Nat.le_trans hB hb, Nat.le_trans hB hb', hc, hc', Rep.mono hB a u ha, Rep.mono hB c u' ha'⟩
  | .same a c, _, ⟨b, u, b', u', e, hb, hb', hc, hc', ha, ha'⟩ => ⟨b, u, b', u', e, Nat.le_trans hB hb, Nat.le_trans hB hb', hc, hc', Rep.mono hB a u ha, Rep.mono hB c u' ha'⟩

/-- Calling a saying's closure. -/
def Evals (w : World) (v : Value) (K : Nat) (x : Bool) : Prop := ∃ N caps, v = .func (.func N) #[] caps ∧ (∀ args w, (callFunc N args).run Try.prog w = .ok (.enter N args) w) ∧ ∀ m, Calls Try.prog N (#[.int .i64 K] ++ caps) (w.drewN m) fun e w' => e = .returned (.bool x) ∧ Quiet (w.drewN m) w'

theorem M.shift_one (K k : Nat) (hK : K < 32) : bits .and .i64 ((K : Int) / 2 ^ k) 1 = ((K / 2 ^ k % 2 : Nat) : Int) := by
  have e : ((K : Int) / 2 ^ k) = ((K / 2 ^ k : Nat) : Int) := by push_cast; rfl
  have h : K / 2 ^ k < 32 := Nat.lt_of_le_of_lt (Nat.div_le_self _ _) hK
  rw [e]
  clear e
  generalize K / 2 ^ k = x at *
  revert h
  clear hK
  revert x
  decide +kernel
theorem M.beq_one (y : Nat) : ((y : Int) == 1) = decide (y = 1) := by
  rw [Bool.eq_iff_iff]; simp; omega

set_option maxHeartbeats 1000000 in
theorem who_c (K k b : Nat) (w : World) (hK : K < 32) (hk : k ≤ 4) (hc : w.cell? ⟨b, 0, none⟩ = some (.int .i64 k)) :
    Calls Try.prog 39 #[.int .i64 K, .pointer (some ⟨b, 0, none⟩)] w fun e w' => e = .returned (.bool (M.ev K (.who k))) ∧ Quiet w w' := by
  have h1 := M.shift_one K k hK
  have Hv := Lib.hid (show M.ev K (.who k) = decide (K / 2 ^ k % 2 = 1) from rfl)
  have h2 : K / 2 ^ k % 2 < 2 := Nat.mod_lt _ (by omega)
  generalize K / 2 ^ k % 2 = y at *
  go_enter Try.func39, Try.ntmps39
  go_wp2
  go_ret
  refine ⟨rb ?_, Quiet.refl _⟩
  rw [Hv.out, M.beq_one]

set_option maxHeartbeats 1000000 in
theorem cnt_c (K n b : Nat) (w : World) (hK : K < 32) (hn : n ≤ 5) (hc : w.cell? ⟨b, 0, none⟩ = some (.int .u8 ((48 + n : Nat) : Int))) :
    Calls Try.prog 41 #[.int .i64 K, .pointer (some ⟨b, 0, none⟩)] w fun e w' => e = .returned (.bool (M.ev K (.cnt n))) ∧ Quiet w w' := by
  have Hv := Lib.hid (show M.ev K (.cnt n) = decide (M.kn K 5 = n) from rfl)
  have hct : ∀ W : World, Calls Try.prog 42 #[.int .u64 K] W fun e w' => e = .returned (.int .i64 (M.kn K 5 : Nat)) ∧ w' = W := fun W => OnesCount_c K W hK
  have Hct := Lib.hid hct
  clear hct
  have t1 : IntKind.u64.wrap (K : Int) = (K : Int) := by rw [IntKind.wrap_u64]; omega
  have t2 : IntKind.u8.wrap (((48 + n : Nat) : Int) - 48) = (n : Int) := by rw [IntKind.wrap_u8]; omega
  have t3 : IntKind.i64.wrap (n : Int) = (n : Int) := by rw [IntKind.wrap_i64]; omega
  generalize M.kn K 5 = y at *
  go_enter Try.func41, Try.ntmps41
  go_wp2
  go_quiet ((go_at_call 42; exact Calls.quiet_of_same (Hct.out _)))
  go_wp2
  go_ret
  refine ⟨rb ?_, (Quiet.refl _).drewN _⟩
  rw [Hv.out, Bool.eq_iff_iff]
  simp
  omega

set_option maxHeartbeats 1000000 in
theorem not_c (K b : Nat) (u : Value) (x : Bool) (w : World) (hc : w.cell? ⟨b, 0, none⟩ = some u) (hu : Evals w u K x) :
    Calls Try.prog 40 #[.int .i64 K, .pointer (some ⟨b, 0, none⟩)] w fun e w' => e = .returned (.bool (!x)) ∧ Quiet w w' := by
  obtain ⟨N, caps, rfl, hen, hcall⟩ := hu
  have Hc := Lib.hid (hcall 0)
  clear hcall
  go_enter Try.func40, Try.ntmps40
  go_wp2_with fail
  refine Hc.out.mono ?_
  rintro e w1 ⟨rfl, hq⟩
  go_wp2
  go_ret
  exact ⟨rfl, hq⟩

set_option maxHeartbeats 1000000 in
theorem both_c (K b b' : Nat) (u u' : Value) (x x' : Bool) (w : World) (hc : w.cell? ⟨b, 0, none⟩ = some u) (hc' : w.cell? ⟨b', 0, none⟩ = some u') (hu : Evals w u K x) (hu' : Evals w u' K x') :
    Calls Try.prog 47 #[.int .i64 K, .pointer (some ⟨b, 0, none⟩), .pointer (some ⟨b', 0, none⟩)] w fun e w' => e = .returned (.bool (x && x')) ∧ Quiet w w' := by
  obtain ⟨N, caps, rfl, hen, hcall⟩ := hu
  obtain ⟨N', caps', rfl, hen', hcall'⟩ := hu'
  have Hc := Lib.hid (hcall 0)
  have Hc' := Lib.hid hcall'
  clear hcall hcall'
  cases x with
  | false =>
    go_enter Try.func47, Try.ntmps47
    go_wp2_with fail
    refine Hc.out.mono ?_
    rintro e w1 ⟨rfl, hq⟩
    go_wp2
    go_ret
    exact ⟨rfl, hq⟩
  | true =>
    go_enter Try.func47, Try.ntmps47
    go_wp2_with fail
    refine Hc.out.mono ?_
    rintro e w1 ⟨rfl, hq⟩
    obtain ⟨m, rfl⟩ := hq
    go_wp2_with fail
    refine (Hc'.out m).mono ?_
    rintro e w2 ⟨rfl, hq2⟩
    go_wp2
    go_ret
    exact ⟨rfl, Quiet.trans ⟨m, rfl⟩ hq2⟩
set_option maxHeartbeats 1000000 in
theorem one_c (K b b' : Nat) (u u' : Value) (x x' : Bool) (w : World) (hc : w.cell? ⟨b, 0, none⟩ = some u) (hc' : w.cell? ⟨b', 0, none⟩ = some u') (hu : Evals w u K x) (hu' : Evals w u' K x') :
    Calls Try.prog 48 #[.int .i64 K, .pointer (some ⟨b, 0, none⟩), .pointer (some ⟨b', 0, none⟩)] w fun e w' => e = .returned (.bool (x || x')) ∧ Quiet w w' := by
  obtain ⟨N, caps, rfl, hen, hcall⟩ := hu
  obtain ⟨N', caps', rfl, hen', hcall'⟩ := hu'
  have Hc := Lib.hid (hcall 0)
  have Hc' := Lib.hid hcall'
  clear hcall hcall'
  cases x with
  | true =>
    go_enter Try.func48, Try.ntmps48
    go_wp2_with fail
    refine Hc.out.mono ?_
    rintro e w1 ⟨rfl, hq⟩
    go_wp2
    go_ret
    exact ⟨rfl, hq⟩
  | false =>
    go_enter Try.func48, Try.ntmps48
    go_wp2_with fail
    refine Hc.out.mono ?_
    rintro e w1 ⟨rfl, hq⟩
    obtain ⟨m, rfl⟩ := hq
    go_wp2_with fail
    refine (Hc'.out m).mono ?_
    rintro e w2 ⟨rfl, hq2⟩
    go_wp2
    go_ret
    exact ⟨rfl, Quiet.trans ⟨m, rfl⟩ hq2⟩
set_option maxHeartbeats 1000000 in
theorem same_c (K b b' : Nat) (u u' : Value) (x x' : Bool) (w : World) (hc : w.cell? ⟨b, 0, none⟩ = some u) (hc' : w.cell? ⟨b', 0, none⟩ = some u') (hu : Evals w u K x) (hu' : Evals w u' K x') :
    Calls Try.prog 49 #[.int .i64 K, .pointer (some ⟨b, 0, none⟩), .pointer (some ⟨b', 0, none⟩)] w fun e w' => e = .returned (.bool (x == x')) ∧ Quiet w w' := by
  obtain ⟨N, caps, rfl, hen, hcall⟩ := hu
  obtain ⟨N', caps', rfl, hen', hcall'⟩ := hu'
  have Hc := Lib.hid hcall
  have Hc' := Lib.hid hcall'
  clear hcall hcall'
  go_enter Try.func49, Try.ntmps49
  go_wp2_with fail
  go_quiet ((first | (with_reducible exact quiet_m (Hc.out _)) | (with_reducible exact quiet_m (Hc'.out _))))
  go_wp2
  go_ret
  exact ⟨rfl, (Quiet.refl _).drewN _⟩

theorem enters {N : FuncId} {fn : Func} {c : Code} (hf : Try.prog.funcs[N]? = some fn) (hname : (fn.name == "runtime.NumGoroutine") = false) (hb : fn.body = some c) : ∀ args w, (callFunc N args).run Try.prog w = .ok (.enter N args) w := by
  intro args w
  have h1 : fn.name ≠ "runtime.NumGoroutine" := by simpa using hname
  simp [callFunc, hf, h1, hb, mark]
/-- What a saying says. -/
theorem Rep.evals (K : Nat) (hK : K < 32) {B : Nat} : ∀ (a : M.Say) (v : Value) (w : World), Rep w B a v → Evals w v K (M.ev K a)
  | .who k, v, w, ⟨b, e, _, hc, hk⟩ => ⟨_, _, e, enters Try.func39 (by kernel_rfl) rfl, fun m => who_c K k b (w.drewN m) hK hk hc⟩
  | .cnt n, v, w, ⟨b, e, _, hc, hn⟩ => ⟨_, _, e, enters Try.func41 (by kernel_rfl) rfl, fun m => cnt_c K n b (w.drewN m) hK hn hc⟩
  | .not a, v, w, ⟨b, u, e, _, hc, ha⟩ => ⟨_, _, e, enters Try.func40 (by kernel_rfl) rfl, fun m => not_c K b u _ (w.drewN m) hc (Rep.evals K hK a u (w.drewN m) (ha.drewN m))⟩
  | .both a c, v, w, ⟨b, u, b', u', e, _, _, hc, hc', ha, ha'⟩ => ⟨_, _, e, enters Try.func47 (by kernel_rfl) rfl, fun m => both_c K b b' u u' _ _ (w.drewN m) hc hc' (Rep.evals K hK a u (w.drewN m) (ha.drewN m)) (Rep.evals K hK c u' (w.drewN m) (ha'.drewN m))⟩
  | .one a c, v, w, ⟨b, u, b', u', e, _, _, hc, hc', ha, ha'⟩ => ⟨_, _, e, enters Try.func48 (by kernel_rfl) rfl, fun m => one_c K b b' u u' _ _ (w.drewN m) hc hc' (Rep.evals K hK a u (w.drewN m) (ha.drewN m)) (Rep.evals K hK c u' (w.drewN m) (ha'.drewN m))⟩
  | .same a c, v, w, ⟨b, u, b', u', e, _, _, hc, hc', ha, ha'⟩ => ⟨_, _, e, enters Try.func49 (by kernel_rfl) rfl, fun m => same_c K b b' u u' _ _ (w.drewN m) hc hc' (Rep.evals K hK a u (w.drewN m) (ha.drewN m)) (Rep.evals K hK c u' (w.drewN m) (ha'.drewN m))⟩

end Go.Proofs.Ytbhpponandmgnaa
