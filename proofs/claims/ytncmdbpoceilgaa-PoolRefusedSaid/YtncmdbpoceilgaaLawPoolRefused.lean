/- The law PoolRefused: the row, out of the machine's run. It holds for every input that the row's guards let in. -/
import Derived.Test.YtncmdbpoceilgaaRows
import Derived.Test.YtncmdbpoceilgaaTI
import Derived.Test.YtncmdbpoceilgaaPE
import Derived.WalkKit
import Derived.ProofKit
import Derived.OpenShut
import Derived.ShutString
import Derived.ChangeOld
import Derived.Below
import Derived.SizedLaws
import Derived.ChangeSlices
namespace Go.Proofs.Ytncmdbpoceilgaa.poolRefused
open Go Go.ChangeShapes Go.WideShapes Go.ChangeAt Go.RowKit Go.Proofs.Ytncmdbpoceilgaa.T
open Go.ChangeMaps (open_string shut_string)
theorem own : ownKnob Try.prog.godebug = none := by kernel_rfl
theorem follows : Try.prog.follows .mixedOrders = true := by kernel_rfl
theorem laidOut : laidOutB Try.prog = true := by kernel_rfl
/-- A row's slice is no longer than its weight allows. -/
theorem sized_any {H : Type} {enc : TypeId × Value → H} {P : Program} {W : World} {base : Nat} {spare : Nat → Bool} {held : Bool} {t e : TypeId} {a : Option Addr} {len cap : Nat} {d : DataW H} {ps : List MemPlace} {ts : List TypeId} {ds : List (DataW H)} {j : Nat}
    (hsz : (DataW.weightsEach P ts ds).all (· ≤ reachBytes) = true) (ht : ts[j]? = some t) (hd : ds[j]? = some d) (hu : P.underlying t = some (.slice e)) {B : Nat} (hB : P.bytesOf e = B)
    (h : DataW.Trod enc P W base spare held t (.slice a len cap) d ps) : len * B ≤ 140737488351232 := by
  obtain ⟨fuel, hf⟩ := h
  rcases DataW.trod_slice hu hf with ⟨hcs, _⟩ | ⟨x, l, c, elems, rest, fl, _, hcs, hx, _, _, _, hel, _, _, _⟩
  · simp [Value.cells] at hcs
    obtain ⟨rfl, rfl, rfl⟩ := hcs
    simp
  · simp [Value.cells] at hcs
    obtain ⟨rfl, rfl, rfl⟩ := hcs
    obtain ⟨hx, _⟩ := Prod.mk.inj hx
    subst hx
    have z := sized_slice hsz ht hd hu
    rw [hB] at z
    simp only [List.length_map] at z
    exact Nat.le_trans (Nat.mul_le_mul_right _ (by omega)) z
theorem slice_len {m : PMap} {a' : Option (Nat × Nat)} {n len cap : Nat} {c : Option Nat} {a : Option Addr} (h : Rel m (.slice a' n c) (.slice a len cap)) : n = len := by
  cases a' with
  | none => simp only [Rel] at h; obtain ⟨rfl, h⟩ := h; cases h; rfl
  | some p => simp only [Rel] at h; obtain ⟨_, _, _, _, h, _⟩ := h; cases h; rfl
set_option maxRecDepth 100000 in
theorem lifted (os : Os) (started : os.Started) (H : Type) (enc : TypeId × Value → H) :
    ReturnsInHanded {} Try.checked os 6 .any (Rows.poolRefusedSpec.pre6 enc Try.prog Try.f6 Rows.poolRefusedRow.domain false) (Rows.poolRefusedSpec.post enc Try.prog Try.f6 false true false false) := by
  refine returnsInHanded_of_change_sized (C := Try.checked) own started (by kernel_rfl) Try.func6
    (ChangeSpec.witness6 (enc := enc) (C := Try.checked) false ⟨#[], #[.slice none 0 0], []⟩ 8 (by kernel_rfl) (by kernel_rfl) (by kernel_rfl) (by kernel_rfl)) ?_
  intro W base args ds gs before hval0 hW hcnd hsz0 _
  have hsz : (DataW.weightsEach Try.prog (Try.f6.params.toList ++ Rows.poolRefusedSpec.plain.varTypes Try.prog) (ds ++ gs)).all (· ≤ reachBytes) = true := hsz0
  have hval : ∀ (j : Nat) t v, Try.f6.params[j]? = some t → args[j]? = some v → Value.okWide Try.prog W .any base t v := hval0
  have hW' := hW
  obtain ⟨p, q, hA0, hV, rfl, hfz, hnd⟩ := hW
  have hA : DataW.TrodAll enc Try.prog W 0 (fun _ => true) true Try.f6.params.toList args.toList ds p := hA0
  rw [Try.params6] at hA hval hsz
  obtain ⟨v0, vs0, d0, ds0, p0, q0, hargs, rfl, rfl, h0, r0⟩ := trodAll_cons hA
  obtain ⟨rfl, rfl, rfl⟩ := trodAll_nil r0
  obtain rfl : args = #[v0] := by cases args; simp_all
  obtain ⟨rfl, rfl⟩ := trodVars_none hV
  have s0 := Go.Proofs.Ytncmdbpoceilgaa.T.Start.nil W
  have k0 := h0
  have lt0 : ∀ x ∈ p0, x.block < W.heap.size := by obtain ⟨m, hm⟩ := k0; exact DataW.trod_lt m _ _ _ hm
  obtain ⟨aa0, len0, cap0, rfl⟩ := okWide_slice Try.underlying22 (hval 0 22 v0 rfl rfl)
  have y0 := sized_any hsz (j := 0) (t := 22) rfl rfl Try.underlying22 (B := 64) (by kernel_rfl) h0
  obtain ⟨m1, t1, n1, w0, s1, ty0, x0⟩ := s0.data (n := 9) (t := 22) (sh := (.sl (.st [(.int .i64), (.int .i64), (.int .i64), (.int .i64), (.int .i64), (.sl (.int .u8))]))) (v := .slice aa0 len0 cap0) (by kernel_rfl) (hval 0 22 _ rfl rfl) k0 (fun n hn => by have z := List.all_eq_true.1 hsz n (DataW.weights_mem_each (j := 0) (t := 22) rfl rfl n hn); simpa using z)
  have z0 := ty0
  obtain ⟨a0, c0, rfl, each0, sl0⟩ := z0.rows
  have el0 : c0.length = len0 := by obtain ⟨x, hx, rx⟩ := s1.rel.get 0 _ rfl; simp at hx; rw [← hx] at rx; exact slice_len rx
  clear hA0 hval0 hsz0 hsz
  obtain ⟨fu, h', nx', hc⟩ := PoolRefused_run t1 n1 a0 c0 (by rw [el0]; exact y0) each0 sl0
  refine (law_mem follows keepT orcs s1 hc).mono fun e W' ⟨he, bel⟩ => ?_
  subst he
  exact ⟨_, rfl, _, _, _, [], _, [], hW', trodAll_mk1 (shut_bool Try.underlying4 _), (trodAll_cons_mk (Below.trod laidOut (by kernel_rfl) (of_decide_eq_true (by kernel_rfl)) k0 bel lt0) trodAll_mk0), rfl, bel.frame _, fun h => by cases h⟩
theorem over : Rows.poolRefusedRow.holds Try.pinned (OpenSpec.ofChange Rows.poolRefusedSpec) :=
  OpenClaim.holds_of_wide 6 Try.f6 rfl rfl rfl rfl rfl rfl rfl ⟨rfl, rfl, rfl, rfl, rfl⟩ rfl rfl rfl rfl rfl (by kernel_rfl) Try.func6 (by kernel_rfl)
    (of_decide_eq_true (by kernel_rfl)) (by unfold Func.isWrapper; first | (rw [if_pos (by decide +kernel)]; kernel_rfl) | (rw [if_neg (by decide +kernel)]; exact ⟨rfl, rfl⟩))
    (fun os started H enc _ => lifted os started H enc)
theorem proved : Rows.PoolRefusedSaid := over
#print axioms proved
end Go.Proofs.Ytncmdbpoceilgaa.poolRefused
namespace Go.Proofs.Ytncmdbpoceilgaa
/-- The row, under a short name, for the claim. -/
theorem poolRefused_holds : Rows.PoolRefusedSaid := poolRefused.proved
end Go.Proofs.Ytncmdbpoceilgaa
