/- The law LineFixed: the row of its second form (where what it reads is of bulk at most 1048576), out of the machine's run, and its card. It holds for every input that the row's guards let in. -/
import Derived.Test.YtahilinkfnchaaaDoorRows
import Derived.Test.YtahilinkfnchaaaDoorCards
import Derived.Test.YtahilinkfnchaaaDoorTie
import Derived.Test.YtahilinkfnchaaaDoorTI
import Derived.Test.YtahilinkfnchaaaDoorFW
import Derived.Test.YtahilinkfnchaaaDoorFX
import Derived.Test.YtahilinkfnchaaaDoorDQ
import Derived.WalkKit
import Derived.ProofKit
import Derived.OpenShut
import Derived.ShutString
import Derived.ChangeOld
import Derived.Below
import Derived.SizedLaws
import Derived.ChangeSlices
import Derived.Deep.DeepWitnessRowRef
import Derived.MakeChecks
namespace Go.Proofs.YtahilinkfnchaaaDoor.lineFixed
open Go Go.ChangeShapes Go.WideShapes Go.ChangeAt Go.RowKit Go.Proofs.YtahilinkfnchaaaDoor.T
open Go.ChangeMaps (open_string shut_string)
theorem own : ownKnob Tryd.prog.godebug = none := by kernel_rfl
theorem follows : Tryd.prog.follows .mixedOrders = true := by kernel_rfl
theorem laidOut : laidOutB Tryd.prog = true := by kernel_rfl
theorem slice_len {m : PMap} {a' : Option (Nat × Nat)} {n len cap : Nat} {c : Option Nat} {a : Option Addr} (h : Rel m (.slice a' n c) (.slice a len cap)) : n = len := by
  cases a' with
  | none => simp only [Rel] at h; obtain ⟨rfl, h⟩ := h; cases h; rfl
  | some p => simp only [Rel] at h; obtain ⟨_, _, _, _, h, _⟩ := h; cases h; rfl
theorem reads (os : Os) {H : Type} (enc : TypeId × Value → H) : ∃ places, DataW.whole enc Tryd.prog ((laidWorld os).forCall (fun _ _ => 0) ⟨#[], #[.string ⟨#[]⟩], []⟩).memory Tryd.f5.params.toList (Rows.OpenSpec.upto Rows.lineFixedSpec).vars false (#[.string ⟨#[]⟩] : Array Value).toList 8 = some ([.lit (.string [])], [], places) := by
  have hw : (DataW.whole enc Tryd.prog ((laidWorld os).forCall (fun _ _ => 0) ⟨#[], #[.string ⟨#[]⟩], []⟩).memory Tryd.f5.params.toList (Rows.OpenSpec.upto Rows.lineFixedSpec).vars false (#[.string ⟨#[]⟩] : Array Value).toList 8).map (fun x => (x.1, x.2.1)) = some ([.lit (.string [])], []) := by kernel_rfl
  obtain ⟨⟨x1, x2, x3⟩, hx, hx1⟩ := Option.map_eq_some_iff.1 hw
  simp only [Prod.mk.injEq] at hx1
  obtain ⟨rfl, rfl⟩ := hx1
  exact ⟨x3, hx⟩
set_option maxRecDepth 100000 in
theorem lifted (os : Os) (started : os.Started) (H : Type) (enc : TypeId × Value → H) (F : Stop.Interp) :
    ReturnsInHanded {} Tryd.checked os 5 .any ((Rows.OpenSpec.upto Rows.lineFixedSpec).preRow enc Tryd.prog Tryd.f5 Rows.lineFixedUptoRow.domain false Rows.lineFixedUptoRow.laid) (((Rows.OpenSpec.upto Rows.lineFixedSpec).at F).post enc Tryd.prog Tryd.f5 false true false false) := by
  obtain ⟨places, hx⟩ := reads os enc
  refine returnsInHanded_of_row (C := Tryd.checked) (s := (Rows.OpenSpec.upto Rows.lineFixedSpec)) own started (by kernel_rfl) Tryd.func5
    (witness_row_atRef (enc := enc) (C := Tryd.checked) false (laidWorld os) #[.string ⟨#[]⟩] rfl (by kernel_rfl) (by kernel_rfl) (by kernel_rfl)
      (OpenSpec.preRow_of_cond 8 hx (by kernel_rfl) (fun k hk => by cases hk; kernel_rfl) (by kernel_rfl) (laid_met8 os _))) ?_
  intro W base args ds gs before hval0 hW _ hcond hsz0 hL0 hS _
  have hL : laidMet Tryd.prog Rows.lineFixedUptoRow.laid W := (Go.MakeChecks.laidMetH_plain _ _ _ (by kernel_rfl)).mp hL0
  have hk : Rows.uptoSmall H (ds ++ gs) = true := hcond _ rfl
  have hsz : (DataW.weightsEach Tryd.prog (Tryd.f5.params.toList ++ Rows.lineFixedSpec.plain.varTypes Tryd.prog) (ds ++ gs)).all (· ≤ reachBytes) = true := hsz0
  have hval : ∀ (j : Nat) t v, Tryd.f5.params[j]? = some t → args[j]? = some v → Value.okWide Tryd.prog W .any base t v := hval0
  have hW' := hW
  obtain ⟨p, q, hA0, hV, rfl, hfz, hnd⟩ := hW
  have hA : DataW.TrodAll enc Tryd.prog W 0 (fun _ => true) true Tryd.f5.params.toList args.toList ds p := hA0
  rw [Tryd.params5] at hA hval hsz
  obtain ⟨v0, vs0, d0, ds0, p0, q0, hargs, rfl, rfl, h0, r0⟩ := trodAll_cons hA
  obtain ⟨rfl, rfl, rfl⟩ := trodAll_nil r0
  obtain rfl : args = #[v0] := by cases args; simp_all
  obtain ⟨rfl, rfl⟩ := trodVars_none hV
  have hW9 : 9 ≤ W.heap.size := desk_size hL
  have hD : DeskW W := desk_world hL hS
  have s0 := Go.Proofs.YtahilinkfnchaaaDoor.T.Start.words hL.tail.tail.tail.tail.tail.tail 9 (by omega) (by omega)
  have k0 := h0
  have lt0 : ∀ x ∈ p0, x.block < W.heap.size := by obtain ⟨m, hm⟩ := k0; exact DataW.trod_lt m _ _ _ hm
  have b0 : Rows.uptoBulk d0 ≤ 1048576 := small_part hk (by simp)
  obtain ⟨ss0, rfl, rfl, rfl, _⟩ := open_string Tryd.underlying9 (hval 0 9 v0 rfl rfl) h0
  have y0 : ss0.size ≤ 1048576 := by
    simp only [Rows.uptoBulk] at b0
    have e : ss0.data.toList.length = ss0.size := Array.length_toList
    omega
  obtain ⟨m1, t1, n1, w0, s1, ty0, x0, l0⟩ := s0.data (n := 9) (t := 9) (sh := .str) (v := .string ss0) (by kernel_rfl) (hval 0 9 _ rfl rfl) k0 (fun n hn => by have z := List.all_eq_true.1 hsz n (DataW.weights_mem_each (j := 0) (t := 9) rfl rfl n hn); simpa using z)
  have hg : GlobIn m1 Tryd.prog.globals.size := (GlobIn.le (globM2_in 9) l0)
  have z0 := ty0
  simp only [Ty] at z0
  obtain ⟨i0, rfl, _⟩ := z0
  obtain rfl : i0 = ss0 := by obtain ⟨x, hx, rx⟩ := s1.rel.get 0 _ rfl; simp only [joinA, List.getD_cons_zero, Rel] at rx; simp at hx; rw [← hx] at rx; exact (Value.string.inj rx).symm
  have xx := x0
  have hx0 : 0 < n1 := by have := xx.1; omega
  have hg0 : t1 0 = some ⟨wordsC, 2, false⟩ := (xx.2 0 (by omega)).trans rfl
  clear hA0 hval0 hsz0 hsz
  obtain ⟨fu, h', nx', hc⟩ := LineFixed_run t1 n1 hx0 hg0 i0 y0
  have hgo : ∀ {w1 w2 : World}, DeskW w1 → Go.Proofs.YtahilinkfnchaaaDoor.T.Below W.heap.size w1 w2 → DeskW w2 := fun h1 h2 => DeskW.go (show Tryd.prog.globals.size ≤ W.heap.size from hW9) h1 h2
  refine (law_mem follows keepT DeskW hgo hg hD (@orcs ⟨W.heap.size, Tryd.prog.globals.size, DeskW, hgo⟩ (fun _ h => h)) s1 hc).mono fun e W' ⟨he, bel⟩ => ?_
  subst he
  exact ⟨_, rfl, _, _, _, [], _, [], hW', trodAll_mk1 (shut_bool Tryd.underlying4 _), (trodAll_cons_mk (Below.trod laidOut (by kernel_rfl) (of_decide_eq_true (by kernel_rfl)) k0 bel lt0) trodAll_mk0), rfl, bel.frame _, fun h => by cases h⟩
theorem saidUpto : Rows.LineFixedUptoSaid :=
  OpenClaim.holds_of_cond 5 Tryd.f5 rfl rfl rfl rfl rfl rfl rfl ⟨rfl, rfl, rfl, rfl, rfl⟩ rfl rfl rfl rfl rfl (by kernel_rfl) Tryd.func5 (by kernel_rfl)
    (of_decide_eq_true (by kernel_rfl)) (by unfold Func.isWrapper; first | (rw [if_pos (by decide +kernel)]; kernel_rfl) | (rw [if_neg (by decide +kernel)]; exact ⟨rfl, rfl⟩))
    (fun os started H enc _ F => by rw [OpenClaim.pre_eq_preRow]; exact lifted os started H enc F)
/-- No parameter wants a stand-in; the program's own looks are off. -/
theorem plain (f : FuncId) (fn : Func) (hf : Tryd.pinned.checked.prog.funcNamed "quickset/quicksetkeep.LineFixed" = some f) (hfn : Tryd.pinned.checked.prog.funcs[f]? = some fn) :
    true = Tryd.pinned.checked.prog.looks [] ∧ ∀ (j : Nat) t, fn.params[j]? = some t → Tryd.pinned.checked.prog.wantsStandIn t = false := by
  obtain rfl : f = 5 := Option.some.inj ((show Tryd.prog.funcNamed "quickset/quicksetkeep.LineFixed" = some 5 by kernel_rfl).symm.trans hf) |>.symm
  obtain rfl : fn = Tryd.f5 := (Option.some.inj (Tryd.func5.symm.trans hfn)).symm
  refine ⟨by kernel_rfl, fun j t ht => ?_⟩
  rw [Tryd.params5] at ht
  have all : ∀ t ∈ ([9] : List TypeId), Tryd.prog.wantsStandIn t = false := by
    intro t ht
    simp only [List.mem_cons, List.mem_nil_iff, or_false] at ht
    obtain rfl := ht
    all_goals kernel_rfl
  exact all t (by simpa using Array.mem_of_getElem? ht)
theorem card : Rows.LineFixedUptoCardSaid :=
  Claim7.holds_tied_plain_at .later [] _ _ _ _ saidUpto (fun _ h => by cases h) (by kernel_rfl) (fun _ h => by cases h) lineFixedUpto_row_tie rfl ⟨rfl, rfl⟩ (by kernel_rfl) rfl plain (by kernel_rfl)
#print axioms card
end Go.Proofs.YtahilinkfnchaaaDoor.lineFixed
namespace Go.Proofs.YtahilinkfnchaaaDoor
/-- The card, under a short name, for the claim. -/
theorem lineFixed_holds : Rows.LineFixedUptoCardSaid := lineFixed.card
end Go.Proofs.YtahilinkfnchaaaDoor
