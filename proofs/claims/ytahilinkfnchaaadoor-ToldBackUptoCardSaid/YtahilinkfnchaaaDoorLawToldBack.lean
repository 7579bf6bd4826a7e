/- The law ToldBack: the row of its second form (where what it reads is of bulk at most 1048576), out of the machine's run, and its card. It holds for every input that the row's guards let in. -/
import Derived.Test.YtahilinkfnchaaaDoorRows
import Derived.Test.YtahilinkfnchaaaDoorCards
import Derived.Test.YtahilinkfnchaaaDoorTie
import Derived.Test.YtahilinkfnchaaaDoorTI
import Derived.Test.YtahilinkfnchaaaDoorFW
import Derived.Test.YtahilinkfnchaaaDoorDI
import Derived.WalkKit
import Derived.ProofKit
import Derived.OpenShut
import Derived.ShutString
import Derived.ChangeOld
import Derived.Below
import Derived.SizedLaws
import Derived.ChangeSlices
import Derived.Deep.DeepWitnessRowRef
import Derived.MakeChecks
namespace Go.Proofs.YtahilinkfnchaaaDoor.toldBack
open Go Go.ChangeShapes Go.WideShapes Go.ChangeAt Go.RowKit Go.Proofs.YtahilinkfnchaaaDoor.T
open Go.ChangeMaps (open_string shut_string)
theorem own : ownKnob Tryd.prog.godebug = none := by kernel_rfl
theorem follows : Tryd.prog.follows .mixedOrders = true := by kernel_rfl
theorem laidOut : laidOutB Tryd.prog = true := by kernel_rfl
theorem slice_len {m : PMap} {a' : Option (Nat × Nat)} {n len cap : Nat} {c : Option Nat} {a : Option Addr} (h : Rel m (.slice a' n c) (.slice a len cap)) : n = len := by
  cases a' with
  | none => simp only [Rel] at h; obtain ⟨rfl, h⟩ := h; cases h; rfl
  | some p => simp only [Rel] at h; obtain ⟨_, _, _, _, h, _⟩ := h; cases h; rfl
theorem reads (os : Os) {H : Type} (enc : TypeId × Value → H) : ∃ places, DataW.whole enc Tryd.prog ((laidWorld os).forCall (fun _ _ => 0) ⟨#[], #[.int .i64 0, .int .i64 0, .slice none 0 0, .bool false, .slice none 0 0], []⟩).memory Tryd.f3.params.toList (Rows.OpenSpec.upto Rows.toldBackSpec).vars false (#[.int .i64 0, .int .i64 0, .slice none 0 0, .bool false, .slice none 0 0] : Array Value).toList 8 = some ([.lit (.int .i64 0), .lit (.int .i64 0), .nil, .lit (.bool false), .nil], [], places) := by
  have hw : (DataW.whole enc Tryd.prog ((laidWorld os).forCall (fun _ _ => 0) ⟨#[], #[.int .i64 0, .int .i64 0, .slice none 0 0, .bool false, .slice none 0 0], []⟩).memory Tryd.f3.params.toList (Rows.OpenSpec.upto Rows.toldBackSpec).vars false (#[.int .i64 0, .int .i64 0, .slice none 0 0, .bool false, .slice none 0 0] : Array Value).toList 8).map (fun x => (x.1, x.2.1)) = some ([.lit (.int .i64 0), .lit (.int .i64 0), .nil, .lit (.bool false), .nil], []) := by kernel_rfl
  obtain ⟨⟨x1, x2, x3⟩, hx, hx1⟩ := Option.map_eq_some_iff.1 hw
  simp only [Prod.mk.injEq] at hx1
  obtain ⟨rfl, rfl⟩ := hx1
  exact ⟨x3, hx⟩
set_option maxRecDepth 100000 in
theorem lifted (os : Os) (started : os.Started) (H : Type) (enc : TypeId × Value → H) (F : Stop.Interp) :
    ReturnsInHanded {} Tryd.checked os 3 .any ((Rows.OpenSpec.upto Rows.toldBackSpec).preRow enc Tryd.prog Tryd.f3 Rows.toldBackUptoRow.domain false Rows.toldBackUptoRow.laid) (((Rows.OpenSpec.upto Rows.toldBackSpec).at F).post enc Tryd.prog Tryd.f3 false true false false) := by
  obtain ⟨places, hx⟩ := reads os enc
  refine returnsInHanded_of_row (C := Tryd.checked) (s := (Rows.OpenSpec.upto Rows.toldBackSpec)) own started (by kernel_rfl) Tryd.func3
    (witness_row_atRef (enc := enc) (C := Tryd.checked) false (laidWorld os) #[.int .i64 0, .int .i64 0, .slice none 0 0, .bool false, .slice none 0 0] rfl (by kernel_rfl) (by kernel_rfl) (by kernel_rfl)
      (OpenSpec.preRow_of_cond 8 hx (by kernel_rfl) (fun k hk => by cases hk; kernel_rfl) (by kernel_rfl) (laid_met7 os _))) ?_
  intro W base args ds gs before hval0 hW _ hcond hsz0 hL0 hS _
  have hL : laidMet Tryd.prog Rows.toldBackUptoRow.laid W := (Go.MakeChecks.laidMetH_plain _ _ _ (by kernel_rfl)).mp hL0
  have hk : Rows.uptoSmall H (ds ++ gs) = true := hcond _ rfl
  have hsz : (DataW.weightsEach Tryd.prog (Tryd.f3.params.toList ++ Rows.toldBackSpec.plain.varTypes Tryd.prog) (ds ++ gs)).all (· ≤ reachBytes) = true := hsz0
  have hval : ∀ (j : Nat) t v, Tryd.f3.params[j]? = some t → args[j]? = some v → Value.okWide Tryd.prog W .any base t v := hval0
  have hW' := hW
  obtain ⟨p, q, hA0, hV, rfl, hfz, hnd⟩ := hW
  have hA : DataW.TrodAll enc Tryd.prog W 0 (fun _ => true) true Tryd.f3.params.toList args.toList ds p := hA0
  rw [Tryd.params3] at hA hval hsz
  obtain ⟨v0, vs0, d0, ds0, p0, q0, hargs, rfl, rfl, h0, r0⟩ := trodAll_cons hA
  obtain ⟨v1, vs1, d1, ds1, p1, q1, rfl, rfl, rfl, h1, r1⟩ := trodAll_cons r0
  obtain ⟨v2, vs2, d2, ds2, p2, q2, rfl, rfl, rfl, h2, r2⟩ := trodAll_cons r1
  obtain ⟨v3, vs3, d3, ds3, p3, q3, rfl, rfl, rfl, h3, r3⟩ := trodAll_cons r2
  obtain ⟨v4, vs4, d4, ds4, p4, q4, rfl, rfl, rfl, h4, r4⟩ := trodAll_cons r3
  obtain ⟨rfl, rfl, rfl⟩ := trodAll_nil r4
  obtain rfl : args = #[v0, v1, v2, v3, v4] := by cases args; simp_all
  obtain ⟨rfl, rfl⟩ := trodVars_none hV
  have hW9 : 9 ≤ W.heap.size := desk_size hL
  have hD : DeskW W := desk_world hL hS
  have s0 := Go.Proofs.YtahilinkfnchaaaDoor.T.Start.glob W 9
  have k0 := h0
  have lt0 : ∀ x ∈ p0, x.block < W.heap.size := by obtain ⟨m, hm⟩ := k0; exact DataW.trod_lt m _ _ _ hm
  have b0 : Rows.uptoBulk d0 ≤ 1048576 := small_part hk (by simp)
  obtain ⟨m1, t1, n1, w0, s1, ty0, x0, l0⟩ := s0.data (n := 9) (t := 3) (sh := (.int .i64)) (v := v0) (by kernel_rfl) (hval 0 3 _ rfl rfl) k0 (fun n hn => by have z := List.all_eq_true.1 hsz n (DataW.weights_mem_each (j := 0) (t := 3) rfl rfl n hn); simpa using z)
  have k1 := h1
  have lt1 : ∀ x ∈ p1, x.block < W.heap.size := by obtain ⟨m, hm⟩ := k1; exact DataW.trod_lt m _ _ _ hm
  have b1 : Rows.uptoBulk d1 ≤ 1048576 := small_part hk (by simp)
  obtain ⟨m2, t2, n2, w1, s2, ty1, x1, l1⟩ := s1.data (n := 9) (t := 3) (sh := (.int .i64)) (v := v1) (by kernel_rfl) (hval 1 3 _ rfl rfl) k1 (fun n hn => by have z := List.all_eq_true.1 hsz n (DataW.weights_mem_each (j := 1) (t := 3) rfl rfl n hn); simpa using z)
  have k2 := h2
  have lt2 : ∀ x ∈ p2, x.block < W.heap.size := by obtain ⟨m, hm⟩ := k2; exact DataW.trod_lt m _ _ _ hm
  have b2 : Rows.uptoBulk d2 ≤ 1048576 := small_part hk (by simp)
  obtain ⟨aa2, len2, cap2, rfl⟩ := okWide_slice Tryd.underlying22 (hval 2 22 v2 rfl rfl)
  have y2 : len2 ≤ 1048576 := Nat.le_trans (bulk_slice Tryd.underlying22 h2) b2
  obtain ⟨m3, t3, n3, w2, s3, ty2, x2, l2⟩ := s2.data (n := 9) (t := 22) (sh := (.sl (.int .u8))) (v := .slice aa2 len2 cap2) (by kernel_rfl) (hval 2 22 _ rfl rfl) k2 (fun n hn => by have z := List.all_eq_true.1 hsz n (DataW.weights_mem_each (j := 2) (t := 22) rfl rfl n hn); simpa using z)
  have k3 := h3
  have lt3 : ∀ x ∈ p3, x.block < W.heap.size := by obtain ⟨m, hm⟩ := k3; exact DataW.trod_lt m _ _ _ hm
  have b3 : Rows.uptoBulk d3 ≤ 1048576 := small_part hk (by simp)
  obtain ⟨m4, t4, n4, w3, s4, ty3, x3, l3⟩ := s3.data (n := 9) (t := 4) (sh := .bool) (v := v3) (by kernel_rfl) (hval 3 4 _ rfl rfl) k3 (fun n hn => by have z := List.all_eq_true.1 hsz n (DataW.weights_mem_each (j := 3) (t := 4) rfl rfl n hn); simpa using z)
  have k4 := h4
  have lt4 : ∀ x ∈ p4, x.block < W.heap.size := by obtain ⟨m, hm⟩ := k4; exact DataW.trod_lt m _ _ _ hm
  have b4 : Rows.uptoBulk d4 ≤ 1048576 := small_part hk (by simp)
  obtain ⟨aa4, len4, cap4, rfl⟩ := okWide_slice Tryd.underlying23 (hval 4 23 v4 rfl rfl)
  have y4 : len4 ≤ 1048576 := Nat.le_trans (bulk_slice Tryd.underlying23 h4) b4
  obtain ⟨m5, t5, n5, w4, s5, ty4, x4, l4⟩ := s4.data (n := 9) (t := 23) (sh := (.sl (.int .i64))) (v := .slice aa4 len4 cap4) (by kernel_rfl) (hval 4 23 _ rfl rfl) k4 (fun n hn => by have z := List.all_eq_true.1 hsz n (DataW.weights_mem_each (j := 4) (t := 23) rfl rfl n hn); simpa using z)
  have hg : GlobIn m5 Tryd.prog.globals.size := (GlobIn.le (GlobIn.le (GlobIn.le (GlobIn.le (GlobIn.le (globM_in 9) l0) l1) l2) l3) l4)
  have z0 := ((((ty0.ext x1).ext x2).ext x3).ext x4)
  simp only [Ty] at z0
  obtain ⟨i0, rfl, wf0⟩ := z0
  have z1 := (((ty1.ext x2).ext x3).ext x4)
  simp only [Ty] at z1
  obtain ⟨i1, rfl, wf1⟩ := z1
  have z2 := ((ty2.ext x3).ext x4)
  obtain ⟨a2, l_2, rfl, wf2, sl2⟩ := z2.ints
  have el2 : l_2.length = len2 := by obtain ⟨x, hx, rx⟩ := s3.rel.get 2 _ rfl; simp at hx; rw [← hx] at rx; exact slice_len rx
  have z3 := (ty3.ext x4)
  simp only [Ty] at z3
  obtain ⟨i3, rfl⟩ := z3
  have z4 := ty4
  obtain ⟨a4, l_4, rfl, wf4, sl4⟩ := z4.ints
  have el4 : l_4.length = len4 := by obtain ⟨x, hx, rx⟩ := s5.rel.get 4 _ rfl; simp at hx; rw [← hx] at rx; exact slice_len rx
  clear hA0 hval0 hsz0 hsz
  obtain ⟨fu, h', nx', hc⟩ := ToldBack_run t5 n5 i0 wf0 i1 wf1 l_2 (by rw [el2]; exact y2) wf2 a2 sl2 i3 l_4 (by rw [el4]; exact y4) wf4 a4 sl4
  have hgo : ∀ {w1 w2 : World}, DeskW w1 → Go.Proofs.YtahilinkfnchaaaDoor.T.Below W.heap.size w1 w2 → DeskW w2 := fun h1 h2 => DeskW.go (show Tryd.prog.globals.size ≤ W.heap.size from hW9) h1 h2
  refine (law_mem follows keepT DeskW hgo hg hD (@orcs ⟨W.heap.size, Tryd.prog.globals.size, DeskW, hgo⟩ (fun _ h => h)) s5 hc).mono fun e W' ⟨he, bel⟩ => ?_
  subst he
  exact ⟨_, rfl, _, _, _, [], _, [], hW', trodAll_mk1 (shut_bool Tryd.underlying4 _), (trodAll_cons_mk (Below.trod laidOut (by kernel_rfl) (of_decide_eq_true (by kernel_rfl)) k0 bel lt0) (trodAll_cons_mk (Below.trod laidOut (by kernel_rfl) (of_decide_eq_true (by kernel_rfl)) k1 bel lt1) (trodAll_cons_mk (Below.trod laidOut (by kernel_rfl) (of_decide_eq_true (by kernel_rfl)) k2 bel lt2) (trodAll_cons_mk (Below.trod laidOut (by kernel_rfl) (of_decide_eq_true (by kernel_rfl)) k3 bel lt3) (trodAll_cons_mk (Below.trod laidOut (by kernel_rfl) (of_decide_eq_true (by kernel_rfl)) k4 bel lt4) trodAll_mk0))))), rfl, bel.frame _, fun h => by cases h⟩
theorem saidUpto : Rows.ToldBackUptoSaid :=
  OpenClaim.holds_of_cond 3 Tryd.f3 rfl rfl rfl rfl rfl rfl rfl ⟨rfl, rfl, rfl, rfl, rfl⟩ rfl rfl rfl rfl rfl (by kernel_rfl) Tryd.func3 (by kernel_rfl)
    (of_decide_eq_true (by kernel_rfl)) (by unfold Func.isWrapper; first | (rw [if_pos (by decide +kernel)]; kernel_rfl) | (rw [if_neg (by decide +kernel)]; exact ⟨rfl, rfl⟩))
    (fun os started H enc _ F => by rw [OpenClaim.pre_eq_preRow]; exact lifted os started H enc F)
/-- No parameter wants a stand-in; the program's own looks are off. -/
theorem plain (f : FuncId) (fn : Func) (hf : Tryd.pinned.checked.prog.funcNamed "quickset/quicksetkeep.ToldBack" = some f) (hfn : Tryd.pinned.checked.prog.funcs[f]? = some fn) :
    true = Tryd.pinned.checked.prog.looks [] ∧ ∀ (j : Nat) t, fn.params[j]? = some t → Tryd.pinned.checked.prog.wantsStandIn t = false := by
  obtain rfl : f = 3 := Option.some.inj ((show Tryd.prog.funcNamed "quickset/quicksetkeep.ToldBack" = some 3 by kernel_rfl).symm.trans hf) |>.symm
  obtain rfl : fn = Tryd.f3 := (Option.some.inj (Tryd.func3.symm.trans hfn)).symm
  refine ⟨by kernel_rfl, fun j t ht => ?_⟩
  rw [Tryd.params3] at ht
  have all : ∀ t ∈ ([3, 3, 22, 4, 23] : List TypeId), Tryd.prog.wantsStandIn t = false := by
    intro t ht
    simp only [List.mem_cons, List.mem_nil_iff, or_false] at ht
    rcases ht with rfl | rfl | rfl | rfl | rfl
    all_goals kernel_rfl
  exact all t (by simpa using Array.mem_of_getElem? ht)
theorem card : Rows.ToldBackUptoCardSaid :=
  Claim7.holds_tied_plain_at .later [] _ _ _ _ saidUpto (fun _ h => by cases h) (by kernel_rfl) (fun _ h => by cases h) toldBackUpto_row_tie rfl ⟨rfl, rfl⟩ (by kernel_rfl) rfl plain (by kernel_rfl)
#print axioms card
end Go.Proofs.YtahilinkfnchaaaDoor.toldBack
namespace Go.Proofs.YtahilinkfnchaaaDoor
/-- The card, under a short name, for the claim. -/
theorem toldBack_holds : Rows.ToldBackUptoCardSaid := toldBack.card
end Go.Proofs.YtahilinkfnchaaaDoor
