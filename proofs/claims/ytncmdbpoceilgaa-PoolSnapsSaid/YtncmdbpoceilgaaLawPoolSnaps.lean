/- The law PoolSnaps: the row, out of the machine's run. It holds for every input that the row's guards let in. -/
import Derived.Test.YtncmdbpoceilgaaRows
import Derived.Test.YtncmdbpoceilgaaTI
import Derived.Test.YtncmdbpoceilgaaPU
import Derived.WalkKit
import Derived.ProofKit
import Derived.OpenShut
import Derived.ShutString
import Derived.ChangeOld
import Derived.Below
import Derived.SizedLaws
import Derived.ChangeSlices
namespace Go.Proofs.Ytncmdbpoceilgaa.poolSnaps
open Go Go.ChangeShapes Go.WideShapes Go.ChangeAt Go.RowKit Go.Proofs.Ytncmdbpoceilgaa.T
open Go.ChangeMaps (open_string shut_string)
theorem own : ownKnob Try.prog.godebug = none := by kernel_rfl
theorem follows : Try.prog.follows .mixedOrders = true := by kernel_rfl
theorem laidOut : laidOutB Try.prog = true := by kernel_rfl
/-- A row's slice is no longer than its weight allows. -/
theorem sized_any {H : Type} {enc : TypeId × Value → H} {P : Program} {W : World} {base : Nat} {spare : Nat → Bool} {held : Bool} {t e : TypeId} {a : Option Addr} {len cap : Nat} {d : DataW H} {ps : List MemPlace} {ts : List TypeId} {ds : List (DataW H)} {j : Nat}
    (hsz : (DataW.weightsEach P ts ds).all (· ≤ reachBytes) = true) (ht : ts[j]? = some t) (hd : ds[j]? = some d) (hu : P.underlying t = some (.slice e)) {B : Nat} (hB : P.bytesOf e = B)
    (h : DataW.Trod enc P W base spare held t (.slice a len cap) d ps) : len * B ≤ 140737488351232 := by
  obtain ⟨fuel, hf⟩ := h
  rcases DataW.trod_slice hu hf with ⟨hcs, _⟩ | ⟨x, l, c, elems, rest, fl, _, hcs, hx, _, _, _, hel, _, _, _⟩
  · simp [Value.cells] at hcs
    obtain ⟨rfl, rfl, rfl⟩ := hcs
    simp
  · simp [Value.cells] at hcs
    obtain ⟨rfl, rfl, rfl⟩ := hcs
    obtain ⟨hx, _⟩ := Prod.mk.inj hx
    subst hx
    have z := sized_slice hsz ht hd hu
    rw [hB] at z
    simp only [List.length_map] at z
    exact Nat.le_trans (Nat.mul_le_mul_right _ (by omega)) z
theorem slice_len {m : PMap} {a' : Option (Nat × Nat)} {n len cap : Nat} {c : Option Nat} {a : Option Addr} (h : Rel m (.slice a' n c) (.slice a len cap)) : n = len := by
  cases a' with
  | none => simp only [Rel] at h; obtain ⟨rfl, h⟩ := h; cases h; rfl
  | some p => simp only [Rel] at h; obtain ⟨_, _, _, _, h, _⟩ := h; cases h; rfl
set_option maxRecDepth 100000 in
theorem lifted (os : Os) (started : os.Started) (H : Type) (enc : TypeId × Value → H) :
    ReturnsInHanded {} Try.checked os 3 .any (Rows.poolSnapsSpec.pre6 enc Try.prog Try.f3 Rows.poolSnapsRow.domain false) (Rows.poolSnapsSpec.post enc Try.prog Try.f3 false true false false) := by
  refine returnsInHanded_of_change_sized (C := Try.checked) own started (by kernel_rfl) Try.func3
    (ChangeSpec.witness6 (enc := enc) (C := Try.checked) false ⟨#[], #[.slice none 0 0, .slice none 0 0, .int .i64 0], []⟩ 8 (by kernel_rfl) (by kernel_rfl) (by kernel_rfl) (by kernel_rfl)) ?_
  intro W base args ds gs before hval0 hW hcnd hsz0 _
  have hsz : (DataW.weightsEach Try.prog (Try.f3.params.toList ++ Rows.poolSnapsSpec.plain.varTypes Try.prog) (ds ++ gs)).all (· ≤ reachBytes) = true := hsz0
  have hval : ∀ (j : Nat) t v, Try.f3.params[j]? = some t → args[j]? = some v → Value.okWide Try.prog W .any base t v := hval0
  have hW' := hW
  obtain ⟨p, q, hA0, hV, rfl, hfz, hnd⟩ := hW
  have hA : DataW.TrodAll enc Try.prog W 0 (fun _ => true) true Try.f3.params.toList args.toList ds p := hA0
  rw [Try.params3] at hA hval hsz
  obtain ⟨v0, vs0, d0, ds0, p0, q0, hargs, rfl, rfl, h0, r0⟩ := trodAll_cons hA
  obtain ⟨v1, vs1, d1, ds1, p1, q1, rfl, rfl, rfl, h1, r1⟩ := trodAll_cons r0
  obtain ⟨v2, vs2, d2, ds2, p2, q2, rfl, rfl, rfl, h2, r2⟩ := trodAll_cons r1
  obtain ⟨rfl, rfl, rfl⟩ := trodAll_nil r2
  obtain rfl : args = #[v0, v1, v2] := by cases args; simp_all
  obtain ⟨rfl, rfl⟩ := trodVars_none hV
  have s0 := Go.Proofs.Ytncmdbpoceilgaa.T.Start.nil W
  have k0 := h0
  have lt0 : ∀ x ∈ p0, x.block < W.heap.size := by obtain ⟨m, hm⟩ := k0; exact DataW.trod_lt m _ _ _ hm
  obtain ⟨aa0, len0, cap0, rfl⟩ := okWide_slice Try.underlying22 (hval 0 22 v0 rfl rfl)
  have y0 := sized_any hsz (j := 0) (t := 22) rfl rfl Try.underlying22 (B := 64) (by kernel_rfl) h0
  obtain ⟨m1, t1, n1, w0, s1, ty0, x0⟩ := s0.data (n := 9) (t := 22) (sh := (.sl (.st [(.int .i64), (.int .i64), (.int .i64), (.int .i64), (.int .i64), (.sl (.int .u8))]))) (v := .slice aa0 len0 cap0) (by kernel_rfl) (hval 0 22 _ rfl rfl) k0 (fun n hn => by have z := List.all_eq_true.1 hsz n (DataW.weights_mem_each (j := 0) (t := 22) rfl rfl n hn); simpa using z)
  have k1 := h1
  have lt1 : ∀ x ∈ p1, x.block < W.heap.size := by obtain ⟨m, hm⟩ := k1; exact DataW.trod_lt m _ _ _ hm
  obtain ⟨aa1, len1, cap1, rfl⟩ := okWide_slice Try.underlying22 (hval 1 22 v1 rfl rfl)
  have y1 := sized_any hsz (j := 1) (t := 22) rfl rfl Try.underlying22 (B := 64) (by kernel_rfl) h1
  obtain ⟨m2, t2, n2, w1, s2, ty1, x1⟩ := s1.data (n := 9) (t := 22) (sh := (.sl (.st [(.int .i64), (.int .i64), (.int .i64), (.int .i64), (.int .i64), (.sl (.int .u8))]))) (v := .slice aa1 len1 cap1) (by kernel_rfl) (hval 1 22 _ rfl rfl) k1 (fun n hn => by have z := List.all_eq_true.1 hsz n (DataW.weights_mem_each (j := 1) (t := 22) rfl rfl n hn); simpa using z)
  have k2 := h2
  have lt2 : ∀ x ∈ p2, x.block < W.heap.size := by obtain ⟨m, hm⟩ := k2; exact DataW.trod_lt m _ _ _ hm
  obtain ⟨m3, t3, n3, w2, s3, ty2, x2⟩ := s2.data (n := 9) (t := 3) (sh := (.int .i64)) (v := v2) (by kernel_rfl) (hval 2 3 _ rfl rfl) k2 (fun n hn => by have z := List.all_eq_true.1 hsz n (DataW.weights_mem_each (j := 2) (t := 3) rfl rfl n hn); simpa using z)
  have z0 := ((ty0.ext x1).ext x2)
  obtain ⟨a0, c0, rfl, each0, sl0⟩ := z0.rows
  have el0 : c0.length = len0 := by obtain ⟨x, hx, rx⟩ := s1.rel.get 0 _ rfl; simp at hx; rw [← hx] at rx; exact slice_len rx
  have z1 := (ty1.ext x2)
  obtain ⟨a1, c1, rfl, each1, sl1⟩ := z1.rows
  have el1 : c1.length = len1 := by obtain ⟨x, hx, rx⟩ := s2.rel.get 1 _ rfl; simp at hx; rw [← hx] at rx; exact slice_len rx
  have z2 := ty2
  simp only [Ty] at z2
  obtain ⟨i2, rfl, wf2⟩ := z2
  clear hA0 hval0 hsz0 hsz
  obtain ⟨fu, h', nx', hc⟩ := PoolSnaps_run t3 n3 a0 c0 (by rw [el0]; exact y0) each0 sl0 a1 c1 (by rw [el1]; exact y1) each1 sl1 i2 wf2
  refine (law_mem follows keepT orcs s3 hc).mono fun e W' ⟨he, bel⟩ => ?_
  subst he
  exact ⟨_, rfl, _, _, _, [], _, [], hW', trodAll_mk1 (shut_bool Try.underlying4 _), (trodAll_cons_mk (Below.trod laidOut (by kernel_rfl) (of_decide_eq_true (by kernel_rfl)) k0 bel lt0) (trodAll_cons_mk (Below.trod laidOut (by kernel_rfl) (of_decide_eq_true (by kernel_rfl)) k1 bel lt1) (trodAll_cons_mk (Below.trod laidOut (by kernel_rfl) (of_decide_eq_true (by kernel_rfl)) k2 bel lt2) trodAll_mk0))), rfl, bel.frame _, fun h => by cases h⟩
theorem over : Rows.poolSnapsRow.holds Try.pinned (OpenSpec.ofChange Rows.poolSnapsSpec) :=
  OpenClaim.holds_of_wide 3 Try.f3 rfl rfl rfl rfl rfl rfl rfl ⟨rfl, rfl, rfl, rfl, rfl⟩ rfl rfl rfl rfl rfl (by kernel_rfl) Try.func3 (by kernel_rfl)
    (of_decide_eq_true (by kernel_rfl)) (by unfold Func.isWrapper; first | (rw [if_pos (by decide +kernel)]; kernel_rfl) | (rw [if_neg (by decide +kernel)]; exact ⟨rfl, rfl⟩))
    (fun os started H enc _ => lifted os started H enc)
theorem proved : Rows.PoolSnapsSaid := over
#print axioms proved
end Go.Proofs.Ytncmdbpoceilgaa.poolSnaps
namespace Go.Proofs.Ytncmdbpoceilgaa
/-- The row, under a short name, for the claim. -/
theorem poolSnaps_holds : Rows.PoolSnapsSaid := poolSnaps.proved
end Go.Proofs.Ytncmdbpoceilgaa
