/- The abstract machine: code and calls; memory follows. Nothing of a program. -/
import Derived.Test.YtahilinkfnchaaaDoorT9
set_option linter.unusedVariables false
set_option linter.unusedSimpArgs false
namespace Go.Proofs.YtahilinkfnchaaaDoor.T
open Go Go.RowKit
open Glo (N)

variable {R : Type} {P : Program} {M : Mach}
variable [Glo]

/-! ### loops' records, marks -/
abbrev markOf (r : Nat) : Deferred := { target := .collected r, args := #[] }
/-- An activation's deferred calls: marks alone, of blocks that are empty. -/
def DOk (B : Nat) (w : World) (a : Act) : Prop :=
  ∃ ls : List Nat, a.defers = ls.map markOf ∧ ls.Nodup ∧ ∀ r ∈ ls, B ≤ r ∧ w.heap[r]? = some (Obj.deferred (some []))
theorem DOk.go {B : Nat} {w w' : World} {a a' : Act} (h : DOk B w a) (hb : Below N w w') (hd : a'.defers = a.defers) : DOk B w' a' := by
  obtain ⟨ls, h1, h2, h3⟩ := h
  exact ⟨ls, hd.trans h1, h2, fun r hr => ⟨(h3 r hr).1, hb.defs r _ (h3 r hr).2⟩⟩
omit [Glo] in
theorem DOk.nil (B : Nat) (w : World) (t : Array Value) : DOk B w { tmps := t, defers := [] } := ⟨[], rfl, List.nodup_nil, fun _ h => by cases h⟩

def RoundAt (ro : Option Nat) (w : World) : Prop := ∀ l, ro = some l → ∃ r, w.heap[l]? = some (Obj.loop r)
theorem RoundAt.go {ro : Option Nat} {w w' : World} (h : RoundAt ro w) (hb : Below N w w') : RoundAt ro w' := fun l e => by
  obtain ⟨r, hr⟩ := h l e
  obtain ⟨r', hr', _⟩ := hb.loops l r hr
  exact ⟨r', hr'⟩
omit [Glo] in
theorem RoundAt.none (w : World) : RoundAt none w := fun _ e => by cases e

theorem Below.setLoop {w : World} {l : Nat} {r r' : Loop} (hN : N ≤ l) (hr : w.heap[l]? = some (Obj.loop r)) (hs : SameLoop r r') : Below N w (w.putObj l (.loop r')) := by
  have hlt := (Array.getElem?_eq_some_iff.1 hr).1
  refine ⟨⟨rfl, rfl, rfl, by simp, fun k hk => World.putObj_heap_other (by omega)⟩, fun k q hq => ?_, fun k d hd => ?_⟩
  · by_cases e : k = l
    · subst e
      rw [hr] at hq; cases hq
      exact ⟨r', World.putObj_heap_same hlt, hs⟩
    · exact ⟨q, (World.putObj_heap_other e).trans hq, .refl q⟩
  · by_cases e : k = l
    · subst e; rw [hr] at hd; cases hd
    · exact (World.putObj_heap_other e).trans hd
theorem Below.putDef {w0 w : World} (h : Below N w0 w) {r : Nat} {o : Obj} (hr : w0.heap.size ≤ r) (hN : N ≤ w0.heap.size) : Below N w0 (w.putObj r o) := by
  refine ⟨⟨h.old.os, h.old.tape, h.old.output, by simpa using h.old.size, fun k hk => (World.putObj_heap_other (by omega)).trans (h.old.block k hk)⟩, fun k q hq => ?_, fun k d hd => ?_⟩
  · have := (Array.getElem?_eq_some_iff.1 hq).1
    obtain ⟨q', h1, h2⟩ := h.loops k q hq
    exact ⟨q', (World.putObj_heap_other (by omega)).trans h1, h2⟩
  · have := (Array.getElem?_eq_some_iff.1 hd).1
    exact (World.putObj_heap_other (by omega)).trans (h.defs k d hd)

omit [Glo] in
theorem notCells_loop (r : Loop) : ∀ c e f, Obj.loop r ≠ .cells c e f := by intro c e f q; cases q
omit [Glo] in
theorem notCells_def (d : Option (List Deferred)) : ∀ c e f, Obj.deferred d ≠ .cells c e f := by intro c e f q; cases q

omit [Glo] in
theorem isReady_eq {h : AHeap} {l es : Nat} (hh : isReady h l es = true) : ∃ b, h l = some b ∧ b.es = es := by
  unfold isReady at hh
  cases e : h l with
  | none => rw [e] at hh; cases hh
  | some b => rw [e] at hh; exact ⟨b, rfl, Nat.eq_of_beq_eq_true hh⟩

/-- The record of a loop that the heap speaks of. -/
theorem Sim.loopAt {m : PMap} {h : AHeap} {fs : Nat → Prop} {w : World} (s : Sim N m h fs w) {l : Nat} {b : ABlk} {p : Place} (hb : h l = some b) (hes : LB ≤ b.es) (hp : m l = some p) :
    N ≤ p.blk ∧ ∃ r, w.heap[p.blk]? = some (Obj.loop r) ∧ LRel b.es r := by
  obtain ⟨ho, q, r, hq, hr, hl⟩ := s.loop l b hb hes
  obtain ⟨q', hq', k⟩ := s.blk l b hb
  rw [hp] at hq hq'; obtain rfl := Option.some.inj hq; obtain rfl := Option.some.inj hq'
  exact ⟨(k.own ho).1, r, hr, hl⟩

theorem enter_sim {m : PMap} {h : AHeap} {nx : Nat} {w : World} {G : Nat → Prop} {a : Act} {B : Nat} {ro : Option Nat} (s : Sim N m h (Free G nx) w) (hG : ∀ i, G i → i < nx) (hro : RoundAt ro w) (hB : B ≤ w.heap.size) (hd : DOk B w a)
    (fn : FuncId) (ps : Array Tmp) (asn body : Code) :
    ∃ l mark w1 rec p, (Instr.enterLoop fn a.tmps ps asn body ro).run P w = .ok (l, mark) w1 ∧ w1.heap[l]? = some (Obj.loop rec) ∧ rec.tmps = a.tmps ∧ rec.params = ps ∧ rec.assign = asn ∧ rec.body = body ∧ p.blk = l ∧
      m.le (m.put nx p) ∧ Sim N (m.put nx p) (h.put nx (some ⟨[], LB, true⟩)) (Free G (nx + 1)) w1 ∧ Below N w w1 ∧ DOk B w1 { a with defers := mark ++ a.defers } := by
  have fin : ∀ (w' : World) (rec : Loop), Sim N m h (Free G nx) w' → LRel LB rec → Below N w w' → rec.state = .ready →
      m.le (m.put nx ⟨w'.heap.size, 0, 0, 0⟩) ∧ Sim N (m.put nx ⟨w'.heap.size, 0, 0, 0⟩) (h.put nx (some ⟨[], LB, true⟩)) (Free G (nx + 1)) (w'.alloc (.loop rec)) ∧ Below N w (w'.alloc (.loop rec)) := by
    intro w' rec s' hl hb _
    obtain ⟨s2, le⟩ := s'.allocLoop (.inr (Nat.le_refl nx)) hl
    refine ⟨le, s2.mono fun i hi => ?_, hb.alloc s'.base _⟩
    rcases hi with hi | hi
    · exact ⟨.inl hi, by have := hG i hi; omega⟩
    · exact ⟨.inr (by omega), by omega⟩
  cases ro with
  | none =>
    have hb1 : Below N w (w.alloc (.deferred (some []))) := (Below.refl N w).alloc s.base _
    obtain ⟨le, s2, hb2⟩ := fin (w.alloc (.deferred (some []))) { state := .ready, pending := none, fn, tmps := a.tmps, params := ps, assign := asn, body, defers := w.heap.size } (s.allocOther _) (.inl ⟨rfl, rfl, rfl⟩) hb1 rfl
    refine ⟨w.heap.size + 1, [markOf w.heap.size], _, { state := .ready, pending := none, fn, tmps := a.tmps, params := ps, assign := asn, body, defers := w.heap.size }, _, run_enterLoop_outer fn a.tmps ps asn body, ?_, rfl, rfl, rfl, rfl, ?_, le, s2, hb2, ?_⟩
    · have := World.alloc_heap_new (w.alloc (.deferred (some []))) (.loop { state := .ready, pending := none, fn, tmps := a.tmps, params := ps, assign := asn, body, defers := w.heap.size })
      rwa [World.size_alloc] at this
    · exact World.size_alloc _ _
    · obtain ⟨ls, h1, h2, h3⟩ := hd
      refine ⟨w.heap.size :: ls, by simp [h1], List.nodup_cons.2 ⟨fun hm => ?_, h2⟩, fun r hr => ?_⟩
      · have := (Array.getElem?_eq_some_iff.1 (h3 _ hm).2).1; omega
      · cases hr with
        | head => exact ⟨hB, (Go.RowKit.Below.heap_alloc _ _ _ (by simp)).trans (World.alloc_heap_new w _)⟩
        | tail _ hr => exact ⟨(h3 r hr).1, hb2.defs r _ (h3 r hr).2⟩
  | some l0 =>
    obtain ⟨r0, hr0⟩ := hro l0 rfl
    obtain ⟨le, s2, hb2⟩ := fin w { state := .ready, pending := none, fn, tmps := a.tmps, params := ps, assign := asn, body, defers := r0.defers } s (.inl ⟨rfl, rfl, rfl⟩) (Below.refl N w) rfl
    refine ⟨w.heap.size, [], _, { state := .ready, pending := none, fn, tmps := a.tmps, params := ps, assign := asn, body, defers := r0.defers }, _, ?_, World.alloc_heap_new w _, rfl, rfl, rfl, rfl, rfl, le, s2, hb2, ?_⟩
    · unfold Instr.enterLoop
      simp only [Sem.run_bind, run_getLoop hr0, Sem.run_pure, Result.andThen, run_newObj_alloc]
    · exact hd.go hb2 rfl

theorem leave_sim {m : PMap} {h : AHeap} {fs : Nat → Prop} {w : World} (s : Sim N m h fs w) {l : Nat} {b : ABlk} {p : Place} (hb : h l = some b) (hes : LB ≤ b.es) (hp : m l = some p) {r : Loop} (hr : w.heap[p.blk]? = some (Obj.loop r)) (st : LoopState) :
    Sim N m (h.put l none) fs (w.putObj p.blk (.loop { r with state := st })) ∧ Below N w (w.putObj p.blk (.loop { r with state := st })) := by
  obtain ⟨hN, _⟩ := s.loopAt hb hes hp
  obtain ⟨ho, _⟩ := s.loop l b hb hes
  refine ⟨(s.kill l).putObj hr (notCells_loop _) (notCells_loop _) (fun i bi pi hi hbi hpi e => ?_) (by rintro _ _ (⟨_, _, q, _⟩ | ⟨_, _, _, q⟩) <;> cases q), Below.setLoop hN hr ⟨rfl, rfl, rfl, rfl, rfl, rfl⟩⟩
  unfold AHeap.put at hi
  by_cases c : i = l
  · rw [if_pos c] at hi; cases hi
  · rw [if_neg c] at hi
    exact s.apart l i b bi p pi (fun e => c e.symm) hb hi ho hp hpi e.symm

omit [Glo] in
theorem putPs_rel {m : PMap} {ds : List Deferred} : ∀ (ps : List Nat) (args : List AV) (xs : List Value) (fr : Fr) (t : Array Value) (i : Nat), RelL m args xs → i + ps.length = args.length → FR m fr { tmps := t, defers := ds } →
    FR m (putPs fr args ps i) { tmps := (ps.zip (xs.drop i)).foldl (fun t (q : Nat × Value) => t.setIfInBounds q.1 q.2) t, defers := ds }
  | [], args, xs, fr, t, i, _, _, hf => by simpa [putPs] using hf
  | p :: ps, args, xs, fr, t, i, hr, hl, hf => by
    simp only [List.length_cons] at hl
    have hi : i < args.length := by omega
    have hix : i < xs.length := by rw [hr.length]; exact hi
    obtain ⟨x, hx, hrx⟩ := hr.get i args[i] (List.getElem?_eq_getElem hi)
    have hx' : xs[i] = x := by rw [List.getElem?_eq_getElem hix] at hx; exact Option.some.inj hx
    rw [List.drop_eq_getElem_cons hix]
    simp only [putPs, List.zip_cons_cons, List.foldl_cons]
    refine putPs_rel ps args xs _ _ (i + 1) hr (by omega) ?_
    have := hf.put (some p) hrx
    rw [List.getD_eq_getElem?_getD, List.getElem?_eq_getElem hi, hx']
    exact this

/-- What code leaves behind. -/
def Out (B N : Nat) (m : PMap) (w : World) (G : Nat → Prop) (K : AOut → Option R) (r : R) (nx : Nat) (e : Exit) (a' : Act) (w' : World) : Prop :=
  ∃ m' fr' h' nx', (match e with
    | .normal => K (.normal fr' h' nx') = some r
    | .exit id => K (.exit id fr' h' nx') = some r
    | .ret => K (.ret fr' h' nx') = some r
    | _ => False) ∧ nx ≤ nx' ∧ FR m' fr' a' ∧ After N m w G m' h' nx' w' ∧ DOk B w' a'

theorem Out.after {B : Nat} {m m1 : PMap} {w w1 : World} {G : Nat → Prop} {K : AOut → Option R} {r : R} {nx n1 : Nat} {h1 : AHeap} (haf : After N m w G m1 h1 n1 w1) (hle : nx ≤ n1) {e : Exit} {a' : Act} {w' : World} (ho : Out B N m1 w1 G K r n1 e a' w') : Out B N m w G K r nx e a' w' := by
  obtain ⟨m', fr', h', nx', hk, hn, hf, ha, hd⟩ := ho
  exact ⟨m', fr', h', nx', hk, by omega, hf, haf.trans ha, hd⟩

def DrawOk (P : Program) (M : Mach) (E : Loops) (call : CalF) (D : DrawF R) : Prop :=
  ∀ (ro : Option Nat) (dn : Nat) (ops : Array Oper) (id : Nat) (fr : Fr) (h : AHeap) (nx : Nat) (K : Fr → AHeap → Nat → Option R) (r : R) (m : PMap) (a : Act) (w : World) (G : Nat → Prop), (∀ i, G i → i < nx) → EnvIn E m w →
    D M call ops fr h nx K = some r → FR m fr a → Sim N m h (Free G nx) w → (Code.region id ops true).wpIn (WF ro) dn P (fun e a' w' => e = .normal ∧ Went N m w G K r nx a' w' ∧ a'.defers = a.defers) a w

omit [Glo] in
theorem afterExits_out {es l : Nat} {fr : Fr} {h : AHeap} {c : Nat} {K : AOut → Option R} {r : R} : ∀ {ids : List Nat}, afterExits es l fr h c K ids = some r → ∃ id, es = LB + 3 + id ∧ K (.exit id fr (h.put l none) c) = some r
  | [], hh => by cases hh
  | id :: ids, hh => by
    simp only [afterExits] at hh
    split at hh
    · rename_i e; exact ⟨id, Nat.eq_of_beq_eq_true e, hh⟩
    · exact afterExits_out hh

omit [Glo] in
theorem normY_eq {ls : List Look} {k : Nat} {args : List AV} {K : List AV → Option R} {r : R} (hk : args.length = k) (h : normY ls k args K = some r) : K args = some r := by
  unfold normY at h
  split at h
  · exact h
  · split at h
    · rename_i c
      have c := Nat.eq_of_beq_eq_true c
      have := normT_eq (by omega) h
      rwa [List.drop_zero] at this
    · cases h

/-- ONE ROUND. -/
theorem round_sim {E : Loops} {cy : YldF → CallF} {Y : YldF} {kp : Keep} {lf : Nat} {D : DrawF Res} (asn body : Code)
    (iha : ∀ (ro : Option Nat) (dn B : Nat) (G : Nat → Prop) (r : Res) (K : AOut → Option Res) (fr : Fr) (h : AHeap) (nx : Nat) (m : PMap) (a : Act) (w : World), (∀ i, G i → i < nx) → EnvIn E m w → RoundAt ro w → B ≤ w.heap.size → DOk B w a →
      aexec go1 D M cy Y kp lf asn K fr h nx = some r → FR m fr a → Sim N m h (Free G nx) w → asn.wpIn (WF ro) dn P (Out B N m w G K r nx) a w)
    (ihb : ∀ (ro : Option Nat) (dn B : Nat) (G : Nat → Prop) (r : Res) (K : AOut → Option Res) (fr : Fr) (h : AHeap) (nx : Nat) (m : PMap) (a : Act) (w : World), (∀ i, G i → i < nx) → EnvIn E m w → RoundAt ro w → B ≤ w.heap.size → DOk B w a →
      aexec go1 D M cy Y kp lf body K fr h nx = some r → FR m fr a → Sim N m h (Free G nx) w → body.wpIn (WF ro) dn P (Out B N m w G K r nx) a w)
    {l : Nat} {rec : Loop} {m0 : PMap} {ps : Array Tmp} {fr : Fr} {t0 : Array Value} (hf0 : FR m0 fr { tmps := t0, defers := [] }) (h1 : rec.tmps = t0) (h2 : rec.params = ps) (h3 : rec.assign = asn) (h4 : rec.body = body)
    (m : PMap) (w : World) (args : List AV) (xs : List Value) (h : AHeap) (nx : Nat) (G : Nat → Prop) (v : AV) (h' : AHeap) (nx' : Nat) (hG : ∀ i, G i → i < nx)
    (hh : roundA M kp ps.toList fr (roundStep l (cutC kp body) (aexec go1 D M cy Y kp lf asn) (aexec go1 D M cy Y kp lf body)) args h nx = some (v, h', nx'))
    (hE : EnvIn ((l, rec, m0) :: E) m w) (hr : RelL m args xs) (s : Sim N m h (Free G nx) w) :
    nx ≤ nx' ∧ ∃ p fn tmps assign body, m l = some p ∧ (Instr.yield p.blk ⟨xs⟩).run P w = .ok (.round p.blk fn tmps assign body) w ∧ RoundIn Fence.wide 0 P p.blk fn tmps assign body w fun e w' => ∃ m' x, e = .returned x ∧ Rel m' v x ∧ After N m w G m' h' nx' w' := by
  have hE1 : EnvIn E m w := ⟨hE.1, hE.2.1, fun q hq => hE.2.2 q (List.mem_cons_of_mem _ hq)⟩
  obtain ⟨hle, p, r, hp, hrec, hsame⟩ := hE.2.2 _ List.mem_cons_self
  simp only at hle hp hsame
  obtain ⟨e1, e2, e3, e4, e5, e6⟩ := hsame
  unfold roundA at hh
  split at hh
  · rename_i hlen
    have hlen := Nat.eq_of_beq_eq_true hlen
    have hh := normY_eq hlen hh
    unfold roundStep at hh
    · skip
      have hxl : (⟨xs⟩ : Array Value).size = r.params.size := by rw [e3, h2]; show xs.length = _; rw [hr.length, hlen, Array.length_toList]
      have hy := run_yield (P := P) (args := ⟨xs⟩) hrec hxl
      have hzip : (r.params.zip ⟨xs⟩).foldl (fun tmps (q : Nat × Value) => tmps.setIfInBounds q.1 q.2) r.tmps = (ps.toList.zip (xs.drop 0)).foldl (fun t (q : Nat × Value) => t.setIfInBounds q.1 q.2) t0 := by
        rw [e3, h2, e2, h1, ← Array.foldl_toList, Array.toList_zip, List.drop_zero]
      have hf1 : FR m (putPs (cutF (yldK kp ps.toList) fr) args ps.toList 0) { tmps := (r.params.zip ⟨xs⟩).foldl (fun tmps (q : Nat × Value) => tmps.setIfInBounds q.1 q.2) r.tmps, defers := [] } := by
        rw [hzip]; exact putPs_rel ps.toList args xs _ t0 0 hr (by omega) ((hf0.le hle).cut _)
      have hro : RoundAt (some p.blk) w := fun l e => by cases e; exact ⟨r, hrec⟩
      have wa := iha (some p.blk) 0 0 G (v, h', nx') _ _ h nx m _ w hG hE1 hro (Nat.zero_le _) (DOk.nil 0 w _) hh hf1 s
      -- the body, out of the assignment's end
      have step : ∀ m1 fr1 hh1 n1 a1 w1, nx ≤ n1 → FR m1 fr1 a1 → After N m w G m1 hh1 n1 w1 → DOk 0 w1 a1 →
          (if isReady hh1 l LB = true then aexec go1 D M cy Y kp lf body (roundEnd l) (cutC kp body fr1) (hh1.put l (some ⟨[], LB + 1, true⟩)) n1 else none) = some (v, h', nx') →
          ∃ w2, (Instr.beginRound p.blk).run P w1 = .ok () w2 ∧ body.wpIn (WF (some p.blk)) 0 P (fun e a' w' => nx ≤ nx' ∧ roundPost P p.blk (fun e w' => ∃ m' x, e = .returned x ∧ Rel m' v x ∧ After N m w G m' h' nx' w') e a' w') a1 w2 := by
        intro m1 fr1 hh1 n1 a1 w1 hn1 hfr1 haf1 hd1 hb1
        split at hb1
        · rename_i hrd1
          obtain ⟨b, hb, hbe⟩ := isReady_eq hrd1
          have hp1 := haf1.le _ _ hp
          obtain ⟨hN, r1, hr1, hl1⟩ := haf1.sim.loopAt hb (by rw [hbe]; exact Nat.le_refl _) hp1
          have hst : r1.state = .ready := by
            rw [hbe] at hl1
            rcases hl1 with q | q | q | ⟨id, q⟩ <;> first | exact q.2.1 | (have := q.1; omega)
          refine ⟨_, run_beginRound hr1 hst, ?_⟩
          have s2 := haf1.sim.setLoop hb (by rw [hbe]; exact Nat.le_refl _) hp1 hr1 (es := LB + 1) (r' := { r1 with state := .busy }) (by omega) (.inr (.inl ⟨rfl, rfl⟩))
          have b2 : Below N w1 (w1.putObj p.blk (.loop { r1 with state := .busy })) := Below.setLoop hN hr1 ⟨rfl, rfl, rfl, rfl, rfl, rfl⟩
          have haf2 : After N m w G m1 (hh1.put l (some ⟨[], LB + 1, true⟩)) n1 (w1.putObj p.blk (.loop { r1 with state := .busy })) := ⟨s2, haf1.le, haf1.below.trans b2⟩
          refine wpIn_mono (ihb (some p.blk) 0 0 G (v, h', nx') (roundEnd l) _ _ n1 m1 a1 _ (fun i hi => by have := hG i hi; omega) (hE1.go haf2.le haf2.below) (hro.go haf2.below) (Nat.zero_le _) (hd1.go b2 rfl) hb1 (hfr1.cutC kp body) s2) ?_
          rintro e a2 w2 ⟨m2, fr2, hh2, n2, hk, hn2, hfr2, haf3, hd2⟩
          have haf : After N m w G m2 hh2 n2 w2 := haf2.trans haf3
          have hp2 := haf.le _ _ hp
          have fin : ∀ (t : Bool) (es : Nat) (jump : Option Code), (∀ r : Loop, LRel es { r with state := if jump.isNone then .ready else .done, pending := jump }) → LB ≤ es → t = jump.isNone →
              (if isReady hh2 l (LB + 1) = true then some (AV.bool t, hh2.put l (some ⟨[], es, true⟩), n2) else none) = some (v, h', nx') →
              nx ≤ nx' ∧ ∃ v' w', (Instr.endRound p.blk jump).run P w2 = .ok v' w' ∧ ∃ m' x, Ending.returned v' = .returned x ∧ Rel m' v x ∧ After N m w G m' h' nx' w' := by
            intro t es jump hlr hes ht hk
            split at hk
            · rename_i hbz
              obtain ⟨b2, hb2, hbe2⟩ := isReady_eq hbz
              simp only [Option.some.injEq, Prod.mk.injEq] at hk
              obtain ⟨rfl, rfl, rfl⟩ := hk
              obtain ⟨_, r2, hr2, _⟩ := haf.sim.loopAt hb2 (by rw [hbe2]; omega) hp2
              have s3 := haf.sim.setLoop hb2 (by rw [hbe2]; omega) hp2 hr2 hes (hlr r2)
              refine ⟨by omega, _, _, run_endRound jump hr2, m2, _, rfl, by simp only [Rel]; rw [ht], s3, haf.le, haf.below.trans (Below.setLoop hN hr2 ⟨rfl, rfl, rfl, rfl, rfl, rfl⟩)⟩
            · cases hk
          cases e with
          | normal => exact fin true LB none (fun r => .inl ⟨rfl, rfl, rfl⟩) (Nat.le_refl _) rfl hk
          | ret => exact fin false (LB + 2) (some .ret) (fun r => .inr (.inr (.inl ⟨rfl, rfl, rfl⟩))) (by omega) rfl hk
          | exit id => exact fin false (LB + 3 + id) (some (.exit id)) (fun r => .inr (.inr (.inr ⟨id, rfl, rfl, rfl⟩))) (by omega) rfl hk
          | goto t => exact hk.elim
          | panic ch => exact hk.elim
          | outgrown => exact hk.elim
        · cases hb1
      have wall : asn.wpIn (WF (some p.blk)) 0 P (Exit.then (fun a₁ w₁ => ∃ w₂, (Instr.beginRound p.blk).run P w₁ = .ok () w₂ ∧ body.wpIn (WF (some p.blk)) 0 P (fun e a' w' => nx ≤ nx' ∧ roundPost P p.blk (fun e w' => ∃ m' x, e = .returned x ∧ Rel m' v x ∧ After N m w G m' h' nx' w') e a' w') a₁ w₂) (fun _ _ _ => False))
          { tmps := (r.params.zip ⟨xs⟩).foldl (fun tmps (q : Nat × Value) => tmps.setIfInBounds q.1 q.2) r.tmps, defers := [] } w := by
        refine wpIn_mono wa ?_
        rintro e a1 w1 ⟨m1, fr1, hh1, n1, hk, hn1, hfr1, haf1, hd1⟩
        cases e with
        | normal => exact step m1 fr1 hh1 n1 a1 w1 hn1 hfr1 haf1 hd1 hk
        | ret => cases hk
        | exit id => cases hk
        | goto t => exact hk.elim
        | panic ch => exact hk.elim
        | outgrown => exact hk.elim
      refine ⟨?_, p, r.fn, _, r.assign, r.body, hp, hy, ?_⟩
      · obtain ⟨e, a1, w1, hq, _⟩ := wall { (default : Frame) with roundOf := some p.blk } [] [] rfl trivial (WF_room _ _)
        cases e with
        | normal =>
          obtain ⟨w2, _, hw⟩ := hq
          obtain ⟨_, _, _, hq2, _⟩ := hw { (default : Frame) with roundOf := some p.blk } [] [] rfl trivial (WF_room _ _)
          exact hq2.1
        | _ => exact hq.elim
      · rw [e4, h3, e5, h4]
        refine roundIn_of_wpIn (F := Fence.wide) trivial (wpIn_mono (F := WF (some p.blk)) wall ?_)
        intro e a1 w1 hq
        cases e with
        | normal =>
          obtain ⟨w2, hbr, hw⟩ := hq
          exact ⟨w2, hbr, wpIn_mono (F := WF (some p.blk)) hw fun _ _ _ q => q.2⟩
        | _ => exact hq.elim
  · cases hh

theorem exec_sim {E : Loops} {cy : YldF → CallF} {Y : YldF} (hcy : ∀ E Y, YOk P E Y → CallOk P E (cy Y)) (hY : YOk P E Y) (ht : TOk P M.T) {D : DrawF Res} (hD : ∀ E call Y, CallOk P E call → YOk P E Y → DrawOk P M E (callC call Y) D) {kp : Keep} {lf : Nat} :
    ∀ (c : Code) (ro : Option Nat) (dn B : Nat) (G : Nat → Prop) (r : Res) (K : AOut → Option Res) (fr : Fr) (h : AHeap) (nx : Nat) (m : PMap) (a : Act) (w : World), (∀ i, G i → i < nx) → EnvIn E m w → RoundAt ro w → B ≤ w.heap.size → DOk B w a →
      aexec go1 D M cy Y kp lf c K fr h nx = some r → FR m fr a → Sim N m h (Free G nx) w → c.wpIn (WF ro) dn P (Out B N m w G K r nx) a w := by
  have hc : CallOk P E (cy Y) := hcy E Y hY
  intro c
  induction c with
  | skip =>
    intro ro dn B G r K fr h nx m a w hG hE hro hB hd hh hf s
    simp only [aexec, jumpC_go1] at hh
    exact wpIn_skip ⟨m, fr, h, nx, hh, Nat.le_refl _, hf, After.refl s, hd⟩
  | exit id =>
    intro ro dn B G r K fr h nx m a w hG hE hro hB hd hh hf s
    simp only [aexec, jumpC_go1] at hh
    exact wpIn_exit ⟨m, fr, h, nx, hh, Nat.le_refl _, hf, After.refl s, hd⟩
  | ret =>
    intro ro dn B G r K fr h nx m a w hG hE hro hB hd hh hf s
    simp only [aexec, jumpC_go1] at hh
    exact wpIn_ret ⟨m, fr, h, nx, hh, Nat.le_refl _, hf, After.refl s, hd⟩
  | region id ops draw =>
    intro ro dn B G r K fr h nx m a w hG hE hro hB hd hh hf s
    simp only [aexec, jumpC_go1] at hh
    by_cases cd : draw = true
    · rw [if_pos cd] at hh
      subst cd
      refine wpIn_mono (hD E _ _ hc hY ro dn ops id fr h nx _ r m a w G hG hE hh hf s) ?_
      rintro e a' w' ⟨rfl, ⟨m', fr', h', nx', hk, hn, hf', ha⟩, hda⟩
      exact ⟨m', fr', h', nx', hk, hn, hf', ha, hd.go ha.below hda⟩
    · rw [if_neg cd] at hh
      have cd' : draw = false := by simpa using cd
      subst cd'
      refine wpIn_region ?_
      rw [List.range_eq_range', ← Array.length_toList, ← List.length_zipIdx]
      refine ops_sim hc hY ht (base := nx) (G := G) (nx0 := nx) (m0 := m) (w0 := w) (ds := a.defers) (K := fun fr h c => K (.normal fr h c)) hG hE (fun a' w' hw hda => ?_) ops.toList.zipIdx 0 fr h (nx + ops.toList.length) m a w ?_ (by simp) (by simp) (by omega) hh hf rfl (s.mono fun i hi => ?_) (PMap.le_refl m) (Below.refl N w)
      · obtain ⟨m', fr', h', nx', hk, hn, hf', ha⟩ := hw
        exact ⟨m', fr', h', nx', hk, hn, hf', ha, hd.go ha.below hda⟩
      · intro j
        rw [List.getElem?_zipIdx]
        constructor
        · rw [← Array.getElem?_toList, Nat.zero_add]
          cases ops.toList[j]? <;> rfl
        · intro p hp
          cases e : ops.toList[j]? with
          | none => rw [e] at hp; cases hp
          | some o => rw [e] at hp; obtain rfl := Option.some.inj hp; simp
      · rcases hi with (hi | hi) | hi
        · exact .inl hi
        · exact .inr (by omega)
        · exact .inr (by simp only [Array.length_toList] at hi; omega)
  | seq x y ihx ihy =>
    intro ro dn B G r K fr h nx m a w hG hE hro hB hd hh hf s
    simp only [aexec, jumpC_go1] at hh
    refine wpIn_seq (wpIn_mono (ihx ro dn B G r _ fr h nx m a w hG hE hro hB hd hh hf s) ?_)
    rintro e a' w' ⟨m', fr', h', nx', hk, hn, hf', ha, hda⟩
    cases e with
    | normal =>
      simp only [seqK] at hk
      refine wpIn_mono (ihy ro dn B G r K (cutC kp y fr') h' nx' m' a' w' (fun i hi => by have := hG i hi; omega) (hE.go ha.le ha.below) (hro.go ha.below) (Nat.le_trans hB ha.below.old.size) hda hk (hf'.cutC kp y) ha.sim) ?_
      intro e2 a2 w2 ho
      exact ho.after ha hn
    | exit id => exact ⟨m', fr', h', nx', hk, hn, hf', ha, hda⟩
    | ret => exact ⟨m', fr', h', nx', hk, hn, hf', ha, hda⟩
    | goto l => exact hk.elim
    | panic ch => exact hk.elim
    | outgrown => exact hk.elim
  | cond c x y ihx ihy =>
    intro ro dn B G r K fr h nx m a w hG hE hro hB hd hh hf s
    simp only [aexec, jumpC_go1] at hh
    split at hh
    · rename_i t et
      have hcv := evalA_rel hf c
      rw [et] at hcv
      simp only [Rel] at hcv
      refine wpIn_cond hcv ?_
      cases t with
      | true => rw [if_pos rfl] at hh; exact ihx ro dn B G r K fr h nx m a w hG hE hro hB hd hh hf s
      | false => rw [if_neg (by decide)] at hh; exact ihy ro dn B G r K fr h nx m a w hG hE hro hB hd hh hf s
    · cases hh
  | block id x ihx =>
    intro ro dn B G r K fr h nx m a w hG hE hro hB hd hh hf s
    simp only [aexec, jumpC_go1] at hh
    refine wpIn_block (wpIn_mono (ihx ro dn B G r _ fr h nx m a w hG hE hro hB hd hh hf s) ?_)
    rintro e a' w' ⟨m', fr', h', nx', hk, hn, hf', ha, hda⟩
    cases e with
    | normal => exact ⟨m', fr', h', nx', hk, hn, hf', ha, hda⟩
    | exit i =>
      simp only [blockK] at hk
      simp only [Exit.inBlock]
      by_cases ci : i = id
      · rw [if_pos ci] at hk ⊢; exact ⟨m', fr', h', nx', hk, hn, hf', ha, hda⟩
      · rw [if_neg ci] at hk ⊢; exact ⟨m', fr', h', nx', hk, hn, hf', ha, hda⟩
    | ret => exact ⟨m', fr', h', nx', hk, hn, hf', ha, hda⟩
    | goto l => exact hk.elim
    | panic ch => exact hk.elim
    | outgrown => exact hk.elim
  | loop x ihx =>
    intro ro dn B G r K fr h nx m a w hG hE hro hB hd hh hf s
    simp only [aexec, go1] at hh
    intro b k cs hbro hbf hroom
    have key : ∀ (n : Nat) (fr : Fr) (h : AHeap) (nx' : Nat) (m' : PMap) (a : Act) (w' : World), iterK go1 (cutC kp x) (aexec go1 D M cy Y kp lf x) n K fr h nx' = some r → FR m' fr a → nx ≤ nx' → After N m w G m' h nx' w' → DOk B w' a →
        ∃ e a' w'', Out B N m w G K r nx e a' w'' ∧ ArrivesIn (Machine.fenced P (WF ro)) P (lone (b.atR a (.code x :: .inLoop x :: k)) cs w') b k cs e a' w'' := by
      intro n
      induction n with
      | zero => intro fr h nx' m' a w' hh; simp [iterK] at hh
      | succ n ih =>
        intro fr h nx' m' a w' hh hf hle haf hda
        simp only [iterK] at hh
        obtain ⟨e, a₁, w₁, ho, harr⟩ := ihx ro dn B G r _ fr h nx' m' a w' (fun i hi => by have := hG i hi; omega) (hE.go haf.le haf.below) (hro.go haf.below) (Nat.le_trans hB haf.below.old.size) hda hh hf haf.sim b (.inLoop x :: k) cs hbro hbf hroom
        obtain ⟨m2, fr2, h2, n2, hk, hn, hf2, ha2, hd2⟩ := ho
        cases e with
        | normal =>
          simp only [backK, go1] at hk
          obtain ⟨e3, a3, w3, ho3, harr3⟩ := ih (cutC kp x fr2) h2 n2 m2 a₁ w₁ hk (hf2.cutC kp x) (by omega) (haf.trans ha2) hd2
          exact ⟨e3, a3, w3, ho3, .of_steps (StepsIn.trans harr (.one (fenced_calm hbf hroom rfl) stepR_inLoop)) harr3⟩
        | exit id => exact ⟨_, a₁, w₁, ⟨m2, fr2, h2, n2, hk, by omega, hf2, haf.trans ha2, hd2⟩, .pass (x := .inLoop x) rfl (fun _ _ => .inl (by simp)) harr⟩
        | ret => exact ⟨_, a₁, w₁, ⟨m2, fr2, h2, n2, hk, by omega, hf2, haf.trans ha2, hd2⟩, .pass (x := .inLoop x) rfl (fun _ _ => .inl (by simp)) harr⟩
        | goto l => exact hk.elim
        | panic ch => exact hk.elim
        | outgrown => exact hk.elim
    obtain ⟨e, a', w', ho, harr⟩ := key lf (cutC kp x fr) h nx m a w hh (hf.cutC kp x) (Nat.le_refl _) (After.refl s) hd
    exact ⟨e, a', w', ho, .of_steps (.one (fenced_calm hbf hroom rfl) stepR_loop) harr⟩
  | rangeFunc g ps asn body iha ihb =>
    intro ro dn B G r K fr h nx m a w hG hE hro hB hd hh hf s
    simp only [aexec, go1] at hh
    obtain ⟨⟨fn, first, caps⟩, ef, hh⟩ := Option.bind_eq_some_iff.1 hh
    have ef := asFn_eq ef
    simp only at hh ef
    generalize hcall : cy _ fn (first ++ [.yld nx] ++ caps) (h.put nx (some ⟨[], LB, true⟩)) (nx + 1) = res at hh
    cases res with
    | none => cases hh
    | some res =>
    obtain ⟨v, h3, c3⟩ := res
    simp only [Option.bind_some] at hh
    have hfn := evalA_rel hf g
    rw [ef] at hfn
    simp only [Rel] at hfn
    obtain ⟨us, vs, efv, r1, r2⟩ := hfn
    refine wpIn_rangeFunc fun ff _ => ?_
    obtain ⟨l, mark, w1, rec, p, hent, hrec, t1, t2, t3, t4, hpl, le1, s1, b1, hd1⟩ := enter_sim (P := P) s hG hro hB hd ff ps asn body
    have hmx : (m.put nx p) nx = some p := by simp [PMap.put]
    have hE1 : EnvIn ((nx, rec, m) :: E) (m.put nx p) w1 := by
      have hgo := hE.go le1 b1
      refine ⟨hgo.1, hgo.2.1, ?_⟩
      intro q hq
      cases hq with
      | head => exact ⟨le1, p, rec, hmx, by rw [hpl]; exact hrec, .refl rec⟩
      | tail _ hq => exact hgo.2.2 q hq
    have hY1 : YOk P ((nx, rec, m) :: E) (YX nx (roundA M kp ps.toList fr (roundStep nx (cutC kp body) (aexec go1 D M cy Y kp lf asn) (aexec go1 D M cy Y kp lf body))) Y) := by
      intro m2 w2 l2 args2 xs2 h2 nx2 G2 v2 h2' nx2' hG2 hy2 hE2 hr2 s2
      unfold YX at hy2
      by_cases c : l2 = nx
      · subst c
        rw [if_pos rfl] at hy2
        exact round_sim (M := M) (t0 := a.tmps) asn body iha ihb (hf0 := ⟨hf.1, hf.2⟩) t1 t2 t3 t4 m2 w2 args2 xs2 h2 nx2 G2 v2 h2' nx2' hG2 hy2 hE2 hr2 s2
      · rw [if_neg c] at hy2
        exact hY m2 w2 l2 args2 xs2 h2 nx2 G2 v2 h2' nx2' hG2 hy2 ⟨hE2.1, hE2.2.1, fun q hq => hE2.2.2 q (List.mem_cons_of_mem _ hq)⟩ hr2 s2
    have rargs : RelL (m.put nx p) (first ++ [.yld nx] ++ caps) (us ++ [.func (.yield l) #[] #[]] ++ vs) := by
      refine ((RelL.le le1 r1).append ?_).append (RelL.le le1 r2)
      simp only [RelL, Rel]
      exact ⟨_, [], rfl, ⟨p, hmx, by rw [hpl]⟩, rfl⟩
    obtain ⟨hle, henter, hcalls⟩ := hcy _ _ hY1 (m.put nx p) w1 fn _ _ _ (nx + 1) G v h3 c3 (fun i hi => by have := hG i hi; omega) hcall hE1 rargs s1
    refine ⟨l, mark, w1, { target := .fn (.func fn) ⟨vs⟩, args := ⟨us⟩ ++ #[.func (.yield l) #[] #[]] }, w1, fn, ⟨us ++ [.func (.yield l) #[] #[]] ++ vs⟩, w1, hent, ?_, fun _ _ => trivial, ?_, WF_depth, ?_⟩
    · have em : (#[Operand.const (Value.func (Fn.yield l) #[] #[])] : Array Operand).map a.eval = #[.func (.yield l) #[] #[]] := by simp [Act.eval]
      simp only [resolve, efv, Deferred.ofValue, Sem.run_bind, Sem.run_pure, Result.andThen_ok, em]
    · have ea : (⟨us⟩ ++ #[.func (.yield l) #[] #[]] ++ ⟨vs⟩ : Array Value) = ⟨us ++ [.func (.yield l) #[] #[]] ++ vs⟩ := by apply Array.ext'; simp
      simp only [invoke]
      rw [ea]
      exact henter _
    · refine callsIn_WF (hcalls.mono ?_)
      rintro e w3 ⟨m3, x3, rfl, hx3, haf⟩
      have haf0 : After N m w G m3 h3 c3 w3 := ⟨haf.sim, PMap.le_trans le1 haf.le, b1.trans haf.below⟩
      have hp3 := haf.le _ _ hmx
      unfold afterK at hh
      obtain ⟨b, hb, hh⟩ := Option.bind_eq_some_iff.1 hh
      have fin : LB ≤ b.es → ∀ (st : LoopState) (rr : Loop), w3.heap[p.blk]? = some (Obj.loop rr) → After N m w G m3 (h3.put nx none) c3 (w3.putObj p.blk (.loop { rr with state := st })) ∧ DOk B (w3.putObj p.blk (.loop { rr with state := st })) { a with defers := mark ++ a.defers } ∧ FR m3 fr { a with defers := mark ++ a.defers } := by
        intro hes st rr hrr
        obtain ⟨s4, b4⟩ := leave_sim haf.sim hb hes hp3 hrr st
        exact ⟨⟨s4, haf0.le, haf0.below.trans b4⟩, (hd1.go haf.below rfl).go b4 rfl, (hf.le haf0.le).1, (hf.le haf0.le).2⟩
      split at hh
      · rename_i ces
        have hes := Nat.eq_of_beq_eq_true ces
        obtain ⟨_, r3, hr3, hl3⟩ := haf.sim.loopAt hb (by rw [hes]; exact Nat.le_refl _) hp3
        have hst : r3.state = .ready ∧ r3.pending = none := by
          rw [hes] at hl3
          rcases hl3 with q | q | q | ⟨id, q⟩ <;> first | exact q.2 | (have := q.1; omega)
        obtain ⟨ha4, hd4, hf4⟩ := fin (by rw [hes]; exact Nat.le_refl _) .exhausted r3 hr3
        refine ⟨none, w3.putObj p.blk (.loop { r3 with state := .exhausted }), ?_, m3, fr, h3.put nx none, c3, hh, by omega, hf4, ha4, hd4⟩
        rw [← hpl]; exact (run_endLoop (P := P) hr3 (by rw [hst.1]; decide)).trans (congrArg (fun q => Result.ok q _) hst.2)
      · split at hh
        · rename_i ces
          simp only [Bool.and_eq_true] at ces
          have hes := Nat.eq_of_beq_eq_true ces.2
          obtain ⟨_, r3, hr3, hl3⟩ := haf.sim.loopAt hb (by rw [hes]; omega) hp3
          have hst : r3.state = .done ∧ r3.pending = some .ret := by
            rw [hes] at hl3
            rcases hl3 with q | q | q | ⟨id, q⟩ <;> first | exact q.2 | (have := q.1; omega)
          obtain ⟨ha4, hd4, hf4⟩ := fin (by rw [hes]; omega) .exhausted r3 hr3
          refine ⟨some .ret, w3.putObj p.blk (.loop { r3 with state := .exhausted }), ?_, wpIn_ret ⟨m3, fr, h3.put nx none, c3, hh, by omega, hf4, ha4, hd4⟩⟩
          rw [← hpl]; exact (run_endLoop (P := P) hr3 (by rw [hst.1]; decide)).trans (congrArg (fun q => Result.ok q _) hst.2)
        · obtain ⟨id, hes, hk⟩ := afterExits_out hh
          obtain ⟨_, r3, hr3, hl3⟩ := haf.sim.loopAt hb (by rw [hes]; omega) hp3
          have hst : r3.state = .done ∧ r3.pending = some (.exit id) := by
            rw [hes] at hl3
            rcases hl3 with q | q | q | ⟨id', q⟩
            · have := q.1; omega
            · have := q.1; omega
            · have := q.1; omega
            · have : id' = id := by have := q.1; omega
              subst this; exact q.2
          obtain ⟨ha4, hd4, hf4⟩ := fin (by rw [hes]; omega) .exhausted r3 hr3
          refine ⟨some (.exit id), w3.putObj p.blk (.loop { r3 with state := .exhausted }), ?_, wpIn_exit ⟨m3, fr, h3.put nx none, c3, hk, by omega, hf4, ha4, hd4⟩⟩
          rw [← hpl]; exact (run_endLoop (P := P) hr3 (by rw [hst.1]; decide)).trans (congrArg (fun q => Result.ok q _) hst.2)
  | scope b _ => intro ro dn B G r K fr h nx m a w hG hE hro hB hd hh; simp [aexec] at hh
  | label l => intro ro dn B G r K fr h nx m a w hG hE hro hB hd hh; simp [aexec] at hh
  | goto l => intro ro dn B G r K fr h nx m a w hG hE hro hB hd hh; simp [aexec] at hh
  | refuse why => intro ro dn B G r K fr h nx m a w hG hE hro hB hd hh; simp [aexec] at hh

/-! ### calls -/
structure FOk (P : Program) (F : Nat → Option AFun) : Prop where
  ok : ∀ f fn, F f = some fn → ∃ cf, P.funcs[f]? = some cf ∧ cf.body = some fn.body ∧ cf.ntmps = fn.ntmps ∧ cf.results.toList = fn.results ∧ (cf.name == "runtime.NumGoroutine") = false

theorem resK_sim (ht : TOk P M.T) {m : PMap} {h : AHeap} {fs : Nat → Prop} {w : World} (s : Sim N m h fs w) {fr : Fr} {a : Act} (hf : FR m fr a) {r : R} : ∀ (rs : List ResultVar) (K : List AV → Option R), resK M fr h rs K = some r →
    ∃ vs xs, K vs = some r ∧ RelL m vs xs ∧ (rs.mapM (m := Sem) fun
      | .tmp t => pure (a.tmps.getD t undef)
      | .cell b t => do loadVar t (← asAddr (a.tmps.getD b undef))).run P w = .ok xs w := by
  intro rs
  induction rs with
  | nil => intro K hh; exact ⟨[], [], hh, by simp [RelL], by simp⟩
  | cons q rs ih =>
    intro K hh
    cases q with
    | tmp t =>
      simp only [resK] at hh
      obtain ⟨vs, xs, hk, hr, hrun⟩ := ih _ hh
      refine ⟨fr.f t :: vs, a.tmps.getD t undef :: xs, hk, ?_, ?_⟩
      · simp only [RelL]; exact ⟨a.tmps.getD t undef, xs, rfl, evalA_rel hf (.tmp t), hr⟩
      · simp only [List.mapM_cons, Sem.run_bind, Sem.run_pure, Result.andThen_ok, hrun]
    | cell b t =>
      simp only [resK] at hh
      obtain ⟨v, rd, x, A, he, eX, hrun1, hrel⟩ := loadA_run (P := P) ht s (evalA_rel hf (.tmp b)) hh
      obtain ⟨vs, xs, hk, hr, hrun⟩ := ih _ (norm_eq he)
      refine ⟨v :: vs, x :: xs, hk, ?_, ?_⟩
      · simp only [RelL]; exact ⟨x, xs, rfl, hrel, hr⟩
      · have eX' : a.tmps.getD b undef = .pointer (some A) := eX
        have e1 : Sem.run P (do let q ← asAddr (a.tmps.getD b undef); loadVar t q) w = .ok x w := by rw [eX']; exact hrun1
        rw [List.mapM_cons, Sem.run_bind]
        refine (congrArg (fun z => Result.andThen z _) e1).trans ?_
        simp only [Result.andThen_ok, Sem.run_bind, hrun, Sem.run_pure]

omit [Glo] in
theorem oneOr_rel {m : PMap} {vs : List AV} {xs : List Value} (h : RelL m vs xs) : Rel m (oneOr vs) (if h : (⟨xs⟩ : Array Value).size = 1 then (⟨xs⟩ : Array Value)[0] else .tuple ⟨xs⟩) := by
  have hl := h.length
  unfold oneOr
  split
  · rename_i v
    simp only [RelL] at h
    obtain ⟨y, q, rfl, hr, rfl⟩ := h
    exact hr
  · rename_i hne
    rw [dif_neg]
    · simp only [Rel]; exact ⟨xs, rfl, h⟩
    · intro e
      have e' : xs.length = 1 := e
      rw [e'] at hl
      match vs, hl with
      | [v], _ => exact hne v rfl

/-- On the way out: the marks go. -/
theorem marks_sim {F : Fence} {dn : Nat} {fn : Func} {tmps : Array Value} {Rr : Ending → World → Prop} {m : PMap} {h : AHeap} {fs : Nat → Prop} {w0 : World} (hN : N ≤ w0.heap.size)
    (hfin : ∀ w', Sim N m h fs w' → Below N w0 w' → ∃ v, (results fn tmps).run P w' = .ok v w' ∧ Rr (.returned v) w') :
    ∀ (ls : List Nat) (w : World), ls.Nodup → (∀ r ∈ ls, w0.heap.size ≤ r ∧ w.heap[r]? = some (Obj.deferred (some []))) → Sim N m h fs w → Below N w0 w → LeavesInM F dn P fn tmps Rr (ls.map markOf) .returning w
  | [], w, _, _, s, hb => hfin w s hb
  | r :: ls, w, hnd, hl, s, hb => by
    obtain ⟨h1, h2⟩ := hl r List.mem_cons_self
    refine ⟨by simp, .inl ⟨r, _, rfl, run_takeDeferred h2, ?_⟩⟩
    have hne : ∀ q ∈ ls, q ≠ r := fun q hq e => (List.nodup_cons.1 hnd).1 (e ▸ hq)
    refine marks_sim hN hfin ls _ (List.nodup_cons.1 hnd).2 (fun q hq => ⟨(hl q (List.mem_cons_of_mem _ hq)).1, (World.putObj_heap_other (hne q hq)).trans (hl q (List.mem_cons_of_mem _ hq)).2⟩) (s.putObj h2 (notCells_def _) (notCells_def _) (fun i b p hi hbi hp e => ?_) (by rintro _ _ (⟨_, _, q, _⟩ | ⟨_, _, _, q⟩) <;> cases q)) (hb.putDef h1 hN)
    obtain ⟨_, r3, hr3, _⟩ := s.loopAt hi hbi hp
    rw [e, h2] at hr3; cases hr3

/-- EVERY CALL: what the abstract machine says, memory does. -/
theorem acall_ok (ht : TOk P M.T) (hgk : M.gk ≤ Glo.gk) {F : Nat → Option AFun} (hF : FOk P F) (hX : ∀ f fn q, F f = some fn → fn.keep 9000000 = some q → OrcOk P q.2 f) {D : DrawF Res} (hD : ∀ E call Y, CallOk P E call → YOk P E Y → DrawOk P M E (callC call Y) D) : ∀ n E Y, YOk P E Y → CallOk P E (acall D M F n Y) := by
  intro n
  induction n with
  | zero => intro E Y _ m w f args xs h nx G v h' nx' _ hh; simp [acall] at hh
  | succ n ih =>
    intro E Y hY m w f args xs h nx G v h' nx' hG hh hE hr s
    simp only [acall] at hh
    split at hh
    · rename_i fn ef
      obtain ⟨cf, hcf, hbody, hnt, hres, hname⟩ := hF.ok f fn ef
      have henter : ∀ ats, (callFunc f ats).run P w = .ok (.enter f ats) w := by
        intro ats
        have hn : ¬ cf.name = "runtime.NumGoroutine" := by simpa using hname
        simp [callFunc, program, Sem.run, hcf, hn, hbody]
      cases hq : fn.keep 9000000 with
      | some q =>
        rw [hq] at hh
        obtain ⟨h1, h2⟩ := hX f fn q ef hq m w args xs h nx G v h' nx' hG hh hE.2.1 hr s
        exact ⟨h1, henter, h2⟩
      | none =>
      rw [hq] at hh
      simp only at hh
      have hf : FR m ⟨args.length + (fn.ntmps - args.length), fun t => args.getD t .bad, M.gk⟩ { tmps := (⟨xs⟩ : Array Value) ++ Array.replicate (cf.ntmps - (⟨xs⟩ : Array Value).size) undef, defers := [] } := by
        have hsz : (⟨xs⟩ : Array Value).size = args.length := hr.length
        refine ⟨⟨?_, fun t => ?_⟩, fun g hg => hE.1 g (Nat.lt_of_lt_of_le hg hgk)⟩
        · simp only [Array.size_append, Array.size_replicate]
          rw [hsz, hnt]
        · show Rel m (args.getD t .bad) (Array.getD _ t undef)
          rw [Array.getD_eq_getD_getElem?, List.getD_eq_getElem?_getD]
          cases e : args[t]? with
          | none => simp only [Option.getD_none, Rel]
          | some v =>
            obtain ⟨x, hx, hv⟩ := hr.get t v e
            have hlt : t < (⟨xs⟩ : Array Value).size := by rw [hsz]; exact (List.getElem?_eq_some_iff.1 e).1
            rw [Array.getElem?_append_left hlt]
            have hx' : (⟨xs⟩ : Array Value)[t]? = some x := by simpa using hx
            rw [hx']; exact hv
      have hw := exec_sim ih hY ht hD fn.body none 0 w.heap.size G _ _ _ h nx m _ w hG hE (RoundAt.none w) (Nat.le_refl _) (DOk.nil _ w _) hh hf s
      have fin : ∀ (m' : PMap) (fr' : Fr) (h2 : AHeap) (n2 : Nat) (a' : Act) (w' : World), resK M fr' h2 fn.results (fun vs => some (oneOr vs, h2, n2)) = some (v, h', nx') → nx ≤ n2 → FR m' fr' a' → After N m w G m' h2 n2 w' → DOk w.heap.size w' a' →
          nx ≤ nx' ∧ LeavesInM Fence.wide 0 P cf a'.tmps (fun e w' => ∃ m' x, e = .returned x ∧ Rel m' v x ∧ After N m w G m' h' nx' w') a'.defers .returning w' := by
        intro m' fr' h2 n2 a' w' hk hn hf' ha hd
        obtain ⟨ls, hd1, hd2, hd3⟩ := hd
        have e2 : h2 = h' ∧ n2 = nx' := by
          obtain ⟨vs, xs', hk2, _⟩ := resK_sim (P := P) ht ha.sim hf' fn.results _ hk
          simp only [Option.some.injEq, Prod.mk.injEq] at hk2
          exact hk2.2
        obtain ⟨rfl, rfl⟩ := e2
        refine ⟨hn, ?_⟩
        rw [hd1]
        refine marks_sim s.base ?_ ls w' hd2 hd3 ha.sim ha.below
        intro w2 s2 hb2
        obtain ⟨vs, xs', hk2, hrel, hrun⟩ := resK_sim (P := P) ht s2 hf' fn.results _ hk
        simp only [Option.some.injEq, Prod.mk.injEq] at hk2
        obtain ⟨rfl, _, _⟩ := hk2
        refine ⟨_, ?_, m', _, rfl, oneOr_rel hrel, s2, ha.le, hb2⟩
        unfold results
        rw [Sem.run_bind, Array.mapM_eq_mapM_toList, hres, Sem.run_map]
        refine (congrArg (fun z => Result.andThen (Result.andThen z _) _) hrun).trans ?_
        rfl
      refine ⟨?_, ?_, ?_⟩
      · obtain ⟨e, a', w', ⟨m', fr', h2, n2, hk, hn, hf', ha, hd⟩, _⟩ := hw default [] [] rfl trivial (WF_room _ _)
        cases e with
        | normal => exact (fin m' fr' h2 n2 a' w' hk hn hf' ha hd).1
        | ret => exact (fin m' fr' h2 n2 a' w' hk hn hf' ha hd).1
        | exit id => simp [retK] at hk
        | goto l => exact hk.elim
        | panic ch => exact hk.elim
        | outgrown => exact hk.elim
      · exact henter
      · refine (callsIn_wide (n := 0)).1 (callsIn_of_wp_marks hcf hbody trivial (wpIn_mono (F := Fence.wide) hw ?_))
        rintro e a' w' ⟨m', fr', h2, n2, hk, hn, hf', ha, hd⟩
        cases e with
        | normal => exact (fin m' fr' h2 n2 a' w' hk hn hf' ha hd).2
        | ret => exact (fin m' fr' h2 n2 a' w' hk hn hf' ha hd).2
        | exit id => simp [retK] at hk
        | goto l => exact hk.elim
        | panic ch => exact hk.elim
        | outgrown => exact hk.elim
    · cases hh

end Go.Proofs.YtahilinkfnchaaaDoor.T
