/- The abstract machine: code and calls; memory follows. Nothing of a program. -/
import Derived.Test.YtdfopcgfhjijgaaT9
set_option linter.unusedVariables false
set_option linter.unusedSimpArgs false
namespace Go.Proofs.Ytdfopcgfhjijgaa.T
open Go Go.RowKit

variable {R : Type} {P : Program} {M : Mach} {N : Nat}

/-- What code leaves behind. -/
def Out (N : Nat) (m : PMap) (w : World) (G : Nat → Prop) (K : AOut → Option R) (r : R) (nx : Nat) (e : Exit) (a' : Act) (w' : World) : Prop :=
  ∃ m' fr' h' nx', (match e with
    | .normal => K (.normal fr' h' nx') = some r
    | .exit id => K (.exit id fr' h' nx') = some r
    | .ret => K (.ret fr' h' nx') = some r
    | _ => False) ∧ nx ≤ nx' ∧ FR m' fr' a' ∧ After N m w G m' h' nx' w'

theorem Out.after {m m1 : PMap} {w w1 : World} {G : Nat → Prop} {K : AOut → Option R} {r : R} {nx n1 : Nat} {h1 : AHeap} (haf : After N m w G m1 h1 n1 w1) (hle : nx ≤ n1) {e : Exit} {a' : Act} {w' : World} (ho : Out N m1 w1 G K r n1 e a' w') : Out N m w G K r nx e a' w' := by
  obtain ⟨m', fr', h', nx', hk, hn, hf, ha⟩ := ho
  exact ⟨m', fr', h', nx', hk, by omega, hf, haf.trans ha⟩

def DrawOk (P : Program) (M : Mach) (call : CallF) (D : DrawF R) : Prop :=
  ∀ (N : Nat) (ops : Array Oper) (id : Nat) (fr : Fr) (h : AHeap) (nx : Nat) (K : Fr → AHeap → Nat → Option R) (r : R) (m : PMap) (a : Act) (w : World) (G : Nat → Prop), (∀ i, G i → i < nx) →
    D M call ops fr h nx K = some r → FR m fr a → Sim N m h (Free G nx) w → (Code.region id ops true).wp P (fun e a' w' => e = .normal ∧ Went N m w G K r nx a' w') a w

theorem exec_sim {call : CallF} (hc : CallOk P call) (ht : TOk P M.T) {D : DrawF R} (hD : DrawOk P M call D) {kp : Keep} {lf : Nat} {r : R} {G : Nat → Prop} : ∀ (c : Code) (K : AOut → Option R) (fr : Fr) (h : AHeap) (nx : Nat) (m : PMap) (a : Act) (w : World),
    (∀ i, G i → i < nx) → aexec go1 D M call kp lf c K fr h nx = some r → FR m fr a → Sim N m h (Free G nx) w → c.wp P (Out N m w G K r nx) a w := by
  intro c
  induction c with
  | skip =>
    intro K fr h nx m a w hG hh hf s
    simp only [aexec, jumpC_go1] at hh
    exact wp_skip ⟨m, fr, h, nx, hh, Nat.le_refl _, hf, After.refl s⟩
  | exit id =>
    intro K fr h nx m a w hG hh hf s
    simp only [aexec, jumpC_go1] at hh
    exact wp_exit ⟨m, fr, h, nx, hh, Nat.le_refl _, hf, After.refl s⟩
  | ret =>
    intro K fr h nx m a w hG hh hf s
    simp only [aexec, jumpC_go1] at hh
    exact wp_ret ⟨m, fr, h, nx, hh, Nat.le_refl _, hf, After.refl s⟩
  | region id ops draw =>
    intro K fr h nx m a w hG hh hf s
    simp only [aexec, jumpC_go1] at hh
    by_cases cd : draw = true
    · rw [if_pos cd] at hh
      subst cd
      refine wp_mono (hD N ops id fr h nx _ r m a w G hG hh hf s) ?_
      rintro e a' w' ⟨rfl, m', fr', h', nx', hk, hn, hf', ha⟩
      exact ⟨m', fr', h', nx', hk, hn, hf', ha⟩
    · rw [if_neg cd] at hh
      have cd' : draw = false := by simpa using cd
      subst cd'
      refine wp_region ?_
      rw [List.range_eq_range', ← Array.length_toList, ← List.length_zipIdx]
      refine ops_sim hc ht (base := nx) (G := G) (nx0 := nx) (m0 := m) (w0 := w) (K := fun fr h c => K (.normal fr h c)) hG (fun a' w' hw => ?_) ops.toList.zipIdx 0 fr h (nx + ops.toList.length) m a w ?_ (by simp) (by simp) (by omega) hh hf (s.mono fun i hi => ?_) (PMap.le_refl m) (Below.refl N w)
      · obtain ⟨m', fr', h', nx', hk, hn, hf', ha⟩ := hw
        exact ⟨m', fr', h', nx', hk, hn, hf', ha⟩
      · intro j
        rw [List.getElem?_zipIdx]
        constructor
        · rw [← Array.getElem?_toList, Nat.zero_add]
          cases ops.toList[j]? <;> rfl
        · intro p hp
          cases e : ops.toList[j]? with
          | none => rw [e] at hp; cases hp
          | some o => rw [e] at hp; obtain rfl := Option.some.inj hp; simp
      · rcases hi with (hi | hi) | hi
        · exact .inl hi
        · exact .inr (by omega)
        · exact .inr (by simp only [Array.length_toList] at hi; omega)
  | seq x y ihx ihy =>
    intro K fr h nx m a w hG hh hf s
    simp only [aexec, jumpC_go1] at hh
    refine wp_seq (wp_mono (ihx _ fr h nx m a w hG hh hf s) ?_)
    rintro e a' w' ⟨m', fr', h', nx', hk, hn, hf', ha⟩
    cases e with
    | normal =>
      simp only [seqK] at hk
      refine wp_mono (ihy K (cutC kp y fr') h' nx' m' a' w' (fun i hi => by have := hG i hi; omega) hk (hf'.cutC kp y) ha.sim) ?_
      intro e2 a2 w2 ho
      exact ho.after ha hn
    | exit id => exact ⟨m', fr', h', nx', hk, hn, hf', ha⟩
    | ret => exact ⟨m', fr', h', nx', hk, hn, hf', ha⟩
    | goto l => exact hk.elim
    | panic ch => exact hk.elim
    | outgrown => exact hk.elim
  | cond c x y ihx ihy =>
    intro K fr h nx m a w hG hh hf s
    simp only [aexec, jumpC_go1] at hh
    split at hh
    · rename_i t et
      have hcv := evalA_rel hf c
      rw [et] at hcv
      simp only [Rel] at hcv
      refine wp_cond hcv ?_
      cases t with
      | true => rw [if_pos rfl] at hh; exact ihx K fr h nx m a w hG hh hf s
      | false => rw [if_neg (by decide)] at hh; exact ihy K fr h nx m a w hG hh hf s
    · cases hh
  | block id x ihx =>
    intro K fr h nx m a w hG hh hf s
    simp only [aexec, jumpC_go1] at hh
    refine wp_block (wp_mono (ihx _ fr h nx m a w hG hh hf s) ?_)
    rintro e a' w' ⟨m', fr', h', nx', hk, hn, hf', ha⟩
    cases e with
    | normal => exact ⟨m', fr', h', nx', hk, hn, hf', ha⟩
    | exit i =>
      simp only [blockK] at hk
      simp only [Exit.inBlock]
      by_cases ci : i = id
      · rw [if_pos ci] at hk ⊢; exact ⟨m', fr', h', nx', hk, hn, hf', ha⟩
      · rw [if_neg ci] at hk ⊢; exact ⟨m', fr', h', nx', hk, hn, hf', ha⟩
    | ret => exact ⟨m', fr', h', nx', hk, hn, hf', ha⟩
    | goto l => exact hk.elim
    | panic ch => exact hk.elim
    | outgrown => exact hk.elim
  | loop x ihx =>
    intro K fr h nx m a w hG hh hf s
    simp only [aexec, go1] at hh
    have key : ∀ (n : Nat) (fr : Fr) (h : AHeap) (nx' : Nat) (m' : PMap) (a : Act) (w' : World), iterK go1 (cutC kp x) (aexec go1 D M call kp lf x) n K fr h nx' = some r → FR m' fr a → nx ≤ nx' → After N m w G m' h nx' w' →
        ∀ (b : Frame) (k : List Item) (cs : List Frame), ∃ e a' w'', Out N m w G K r nx e a' w'' ∧ Arrives P (lone (b.at a (.code x :: .inLoop x :: k)) cs w') b k cs e a' w'' := by
      intro n
      induction n with
      | zero => intro fr h nx' m' a w' hh; simp [iterK] at hh
      | succ n ih =>
        intro fr h nx' m' a w' hh hf hle haf b k cs
        simp only [iterK] at hh
        obtain ⟨e, a₁, w₁, ho, harr⟩ := ihx _ fr h nx' m' a w' (fun i hi => by have := hG i hi; omega) hh hf haf.sim b (.inLoop x :: k) cs
        obtain ⟨m2, fr2, h2, n2, hk, hn, hf2, ha2⟩ := ho
        cases e with
        | normal =>
          simp only [backK, go1] at hk
          obtain ⟨e3, a3, w3, ho3, harr3⟩ := ih (cutC kp x fr2) h2 n2 m2 a₁ w₁ hk (hf2.cutC kp x) (by omega) (haf.trans ha2) b k cs
          exact ⟨e3, a3, w3, ho3, .of_steps (Steps.trans harr (.one step_inLoop)) harr3⟩
        | exit id => exact ⟨_, a₁, w₁, ⟨m2, fr2, h2, n2, hk, by omega, hf2, haf.trans ha2⟩, .pass (x := .inLoop x) rfl (fun _ _ => .inl (by simp)) harr⟩
        | ret => exact ⟨_, a₁, w₁, ⟨m2, fr2, h2, n2, hk, by omega, hf2, haf.trans ha2⟩, .pass (x := .inLoop x) rfl (fun _ _ => .inl (by simp)) harr⟩
        | goto l => exact hk.elim
        | panic ch => exact hk.elim
        | outgrown => exact hk.elim
    intro b k cs
    obtain ⟨e, a', w', ho, harr⟩ := key lf (cutC kp x fr) h nx m a w hh (hf.cutC kp x) (Nat.le_refl _) (After.refl s) b k cs
    exact ⟨e, a', w', ho, .of_steps (.one step_loop) harr⟩
  | rangeFunc f ps asn b _ _ => intro K fr h nx m a w hG hh; simp [aexec] at hh
  | scope b _ => intro K fr h nx m a w hG hh; simp [aexec] at hh
  | label l => intro K fr h nx m a w hG hh; simp [aexec] at hh
  | goto l => intro K fr h nx m a w hG hh; simp [aexec] at hh
  | refuse why => intro K fr h nx m a w hG hh; simp [aexec] at hh

/-! ### calls -/
structure FOk (P : Program) (F : Nat → Option AFun) : Prop where
  ok : ∀ f fn, F f = some fn → ∃ cf, P.funcs[f]? = some cf ∧ cf.body = some fn.body ∧ cf.ntmps = fn.ntmps ∧ cf.results.toList = fn.results ∧ (cf.name == "runtime.NumGoroutine") = false

theorem resK_sim (ht : TOk P M.T) {m : PMap} {h : AHeap} {fs : Nat → Prop} {w : World} (s : Sim N m h fs w) {fr : Fr} {a : Act} (hf : FR m fr a) {r : R} : ∀ (rs : List ResultVar) (K : List AV → Option R), resK M fr h rs K = some r →
    ∃ vs xs, K vs = some r ∧ RelL m vs xs ∧ (rs.mapM (m := Sem) fun
      | .tmp t => pure (a.tmps.getD t undef)
      | .cell b t => do loadVar t (← asAddr (a.tmps.getD b undef))).run P w = .ok xs w := by
  intro rs
  induction rs with
  | nil => intro K hh; exact ⟨[], [], hh, by simp [RelL], by simp⟩
  | cons q rs ih =>
    intro K hh
    cases q with
    | tmp t =>
      simp only [resK] at hh
      obtain ⟨vs, xs, hk, hr, hrun⟩ := ih _ hh
      refine ⟨fr.f t :: vs, a.tmps.getD t undef :: xs, hk, ?_, ?_⟩
      · simp only [RelL]; exact ⟨a.tmps.getD t undef, xs, rfl, evalA_rel hf (.tmp t), hr⟩
      · simp only [List.mapM_cons, Sem.run_bind, Sem.run_pure, Result.andThen_ok, hrun]
    | cell b t =>
      simp only [resK] at hh
      obtain ⟨v, rd, x, A, he, eX, hrun1, hrel⟩ := loadA_run (P := P) ht s (evalA_rel hf (.tmp b)) hh
      obtain ⟨vs, xs, hk, hr, hrun⟩ := ih _ (norm_eq he)
      refine ⟨v :: vs, x :: xs, hk, ?_, ?_⟩
      · simp only [RelL]; exact ⟨x, xs, rfl, hrel, hr⟩
      · have eX' : a.tmps.getD b undef = .pointer (some A) := eX
        have e1 : Sem.run P (do let q ← asAddr (a.tmps.getD b undef); loadVar t q) w = .ok x w := by rw [eX']; exact hrun1
        rw [List.mapM_cons, Sem.run_bind]
        refine (congrArg (fun z => Result.andThen z _) e1).trans ?_
        simp only [Result.andThen_ok, Sem.run_bind, hrun, Sem.run_pure]

theorem oneOr_rel {m : PMap} {vs : List AV} {xs : List Value} (h : RelL m vs xs) : Rel m (oneOr vs) (if h : (⟨xs⟩ : Array Value).size = 1 then (⟨xs⟩ : Array Value)[0] else .tuple ⟨xs⟩) := by
  have hl := h.length
  unfold oneOr
  split
  · rename_i v
    simp only [RelL] at h
    obtain ⟨y, q, rfl, hr, rfl⟩ := h
    exact hr
  · rename_i hne
    rw [dif_neg]
    · simp only [Rel]; exact ⟨xs, rfl, h⟩
    · intro e
      have e' : xs.length = 1 := e
      rw [e'] at hl
      match vs, hl with
      | [v], _ => exact hne v rfl

/-- EVERY CALL: what the abstract machine says, memory does. -/
theorem acall_ok (ht : TOk P M.T) {F : Nat → Option AFun} (hF : FOk P F) {D : DrawF (AV × AHeap × Nat)} (hD : ∀ call, CallOk P call → DrawOk P M call D) : ∀ n, CallOk P (acall D M F n) := by
  intro n
  induction n with
  | zero => intro N m w f args xs h nx G v h' nx' _ hh; simp [acall] at hh
  | succ n ih =>
    intro N m w f args xs h nx G v h' nx' hG hh hr s
    simp only [acall] at hh
    split at hh
    · rename_i fn ef
      obtain ⟨cf, hcf, hbody, hnt, hres, hname⟩ := hF.ok f fn ef
      have hf : FR m ⟨args.length + (fn.ntmps - args.length), fun t => args.getD t .bad⟩ { tmps := (⟨xs⟩ : Array Value) ++ Array.replicate (cf.ntmps - (⟨xs⟩ : Array Value).size) undef, defers := [] } := by
        have hsz : (⟨xs⟩ : Array Value).size = args.length := hr.length
        refine ⟨⟨?_, fun t => ?_⟩, rfl⟩
        · simp only [Array.size_append, Array.size_replicate]
          rw [hsz, hnt]
        · show Rel m (args.getD t .bad) (Array.getD _ t undef)
          rw [Array.getD_eq_getD_getElem?, List.getD_eq_getElem?_getD]
          cases e : args[t]? with
          | none => simp only [Option.getD_none, Rel]
          | some v =>
            obtain ⟨x, hx, hv⟩ := hr.get t v e
            have hlt : t < (⟨xs⟩ : Array Value).size := by rw [hsz]; exact (List.getElem?_eq_some_iff.1 e).1
            rw [Array.getElem?_append_left hlt]
            have hx' : (⟨xs⟩ : Array Value)[t]? = some x := by simpa using hx
            rw [hx']; exact hv
      have hw := exec_sim (N := N) ih ht (hD _ ih) (G := G) fn.body _ _ h nx m _ w hG hh hf s
      have fin : ∀ (m' : PMap) (fr' : Fr) (h2 : AHeap) (n2 : Nat) (a' : Act) (w' : World), resK M fr' h2 fn.results (fun vs => some (oneOr vs, h2, n2)) = some (v, h', nx') → nx ≤ n2 → FR m' fr' a' → After N m w G m' h2 n2 w' →
          nx ≤ nx' ∧ ∃ x, (results cf a'.tmps).run P w' = .ok x w' ∧ Rel m' v x ∧ After N m w G m' h' nx' w' := by
        intro m' fr' h2 n2 a' w' hk hn hf' ha
        obtain ⟨vs, xs', hk2, hrel, hrun⟩ := resK_sim (P := P) ht ha.sim hf' fn.results _ hk
        simp only [Option.some.injEq, Prod.mk.injEq] at hk2
        obtain ⟨rfl, rfl, rfl⟩ := hk2
        refine ⟨hn, _, ?_, oneOr_rel hrel, ha⟩
        unfold results
        rw [Sem.run_bind, Array.mapM_eq_mapM_toList, hres, Sem.run_map]
        refine (congrArg (fun z => Result.andThen (Result.andThen z _) _) hrun).trans ?_
        rfl
      refine ⟨?_, ?_, ?_⟩
      · obtain ⟨e, a', w', ⟨m', fr', h2, n2, hk, hn, hf', ha⟩, _⟩ := hw default [] []
        cases e with
        | normal => exact (fin m' fr' h2 n2 a' w' hk hn hf' ha).1
        | ret => exact (fin m' fr' h2 n2 a' w' hk hn hf' ha).1
        | exit id => simp [retK] at hk
        | goto l => exact hk.elim
        | panic ch => exact hk.elim
        | outgrown => exact hk.elim
      · intro ats
        have hn : ¬ cf.name = "runtime.NumGoroutine" := by simpa using hname
        simp [callFunc, program, Sem.run, hcf, hn, hbody]
      · refine calls_of_wp hcf hbody (wp_mono hw ?_)
        rintro e a' w' ⟨m', fr', h2, n2, hk, hn, hf', ha⟩
        cases e with
        | normal =>
          obtain ⟨_, x, hx, hrel, ha'⟩ := fin m' fr' h2 n2 a' w' hk hn hf' ha
          exact ⟨hf'.2, x, hx, m', x, rfl, hrel, ha'⟩
        | ret =>
          obtain ⟨_, x, hx, hrel, ha'⟩ := fin m' fr' h2 n2 a' w' hk hn hf' ha
          exact ⟨hf'.2, x, hx, m', x, rfl, hrel, ha'⟩
        | exit id => simp [retK] at hk
        | goto l => exact hk.elim
        | panic ch => exact hk.elim
        | outgrown => exact hk.elim
    · cases hh

end Go.Proofs.Ytdfopcgfhjijgaa.T
