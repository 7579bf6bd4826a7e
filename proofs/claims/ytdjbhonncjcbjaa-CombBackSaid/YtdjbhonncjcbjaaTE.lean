/- Regions that draw their order: memory follows the run in the order of the text, whatever order is drawn. Nothing of a program. -/
import Derived.Test.YtdjbhonncjcbjaaTD
set_option linter.unusedVariables false
set_option linter.unusedSimpArgs false
namespace Go.Proofs.Ytdjbhonncjcbjaa.T
open Go Go.RowKit

variable {R : Type} {P : Program} {M : Mach} {N : Nat} {call : CallF} {ops : Array Oper} {base : Nat}

/-- What is not ordered does not meet. -/
def PairsOk (ops : Array Oper) : List (Nat × SE) → Prop
  | [] => True
  | (j, E) :: l => (∀ q ∈ l, befB ops j q.1 = true ∨ (apartB ops j q.1 = true ∧ meetB E q.2 = true ∧ AllKept (keptP E q.2))) ∧ PairsOk ops l

theorem AllKept_append : ∀ {a b : List (AHeap × AHeap × Nat)}, AllKept (a ++ b) → AllKept a ∧ AllKept b
  | [], b, h => ⟨trivial, h⟩
  | t :: a, b, h => by
    simp only [List.cons_append, AllKept] at h
    obtain ⟨h1, h2⟩ := AllKept_append h.2
    exact ⟨⟨h.1, h1⟩, h2⟩
theorem AllKept_flatMap {α : Type} {f : α → List (AHeap × AHeap × Nat)} : ∀ {l : List α}, AllKept (l.flatMap f) → ∀ q ∈ l, AllKept (f q)
  | [], _, q, hq => by cases hq
  | a :: l, h, q, hq => by
    rw [List.flatMap_cons] at h
    obtain ⟨h1, h2⟩ := AllKept_append h
    cases hq with
    | head => exact h1
    | tail _ hq => exact AllKept_flatMap h2 q hq

theorem pairsOk_of : ∀ {l : List (Nat × SE)}, pairsB ops l = true → AllKept (keptL ops l) → PairsOk ops l
  | [], _, _ => trivial
  | (j, E) :: l, h, k => by
    simp only [pairsB, Bool.and_eq_true] at h
    simp only [keptL] at k
    obtain ⟨k1, k2⟩ := AllKept_append k
    refine ⟨fun q hq => ?_, pairsOk_of h.2 k2⟩
    have hq1 := (List.all_eq_true.1 h.1) q hq
    have hq2 := AllKept_flatMap k1 q hq
    by_cases c : befB ops j q.1 = true
    · exact .inl c
    · rw [if_neg c] at hq2
      simp only [Bool.or_eq_true, Bool.and_eq_true] at hq1
      rcases hq1 with hq1 | hq1
      · exact absurd hq1 c
      · exact .inr ⟨hq1.1, hq1.2, hq2⟩

theorem PairsOk.drop {i : Nat} {E : SE} : ∀ {pre post : List (Nat × SE)}, PairsOk ops (pre ++ (i, E) :: post) → PairsOk ops (pre ++ post) ∧ ∀ q ∈ pre, befB ops q.1 i = true ∨ (apartB ops q.1 i = true ∧ meetB q.2 E = true ∧ AllKept (keptP q.2 E))
  | [], post, h => ⟨h.2, fun q hq => by cases hq⟩
  | (j, F) :: pre, post, h => by
    obtain ⟨h1, h2⟩ := h
    obtain ⟨h3, h4⟩ := PairsOk.drop h2
    refine ⟨⟨fun q hq => h1 q ?_, h3⟩, fun q hq => ?_⟩
    · rcases List.mem_append.1 hq with hq | hq
      · exact List.mem_append_left _ hq
      · exact List.mem_append_right _ (List.mem_cons_of_mem _ hq)
    · cases hq with
      | head => exact h1 (i, E) (List.mem_append_right _ List.mem_cons_self)
      | tail _ hq => exact h4 q hq

/-- An operation that waits for none of those ahead of it may come first. -/
theorem Run.front {sf : St} {i : Nat} {E : SE} : ∀ {pre post : List (Nat × SE)} {s : St}, Run M call ops base s (pre ++ (i, E) :: post) sf →
    (∀ q ∈ pre, apartB ops q.1 i = true ∧ meetB q.2 E = true ∧ AllKept (keptP q.2 E)) → ∃ s1, Step1 M call ops base i s E s1 ∧ Run M call ops base s1 (pre ++ post) sf
  | [], post, s, hr, _ => by
    cases hr with
    | cons h1 h2 => exact ⟨_, h1, h2⟩
  | (j, F) :: pre, post, s, hr, hq => by
    cases hr with
    | cons h1 h2 =>
      obtain ⟨s2, h3, h4⟩ := Run.front h2 fun q hq' => hq q (List.mem_cons_of_mem _ hq')
      obtain ⟨q1, q2, q3⟩ := hq (j, F) (by simp)
      obtain ⟨s', h5, h6⟩ := swap h1 h3 q1 q2 q3
      exact ⟨s', h5, .cons h6 h4⟩

/-- One operation, in memory. -/
theorem step1_sim (hc : CallOk P call) (ht : TOk P M.T) {G : Nat → Prop} {m : PMap} {w : World} {i : Nat} {s s' : St} {E : SE} (hs : Step1 M call ops base i s E s') {a : Act} (hf : FR m s.fr a) (hsim : Sim N m s.h (Free G s.c) w)
    (hG : ∀ i, G i → i < s.c) (hid : G (base + i)) {next : Act → World → Prop} {Q : Exit → Act → World → Prop}
    (hn : ∀ m' a' w', FR m' s'.fr a' → m.le m' → Below N w w' → s.c ≤ s'.c → Sim N m' s'.h (Free (fun j => G j ∧ j ≠ base + i) s'.c) w' → next a' w') : wpOp P ops Q i next a w := by
  obtain ⟨o, ho, hs⟩ := hs
  have wanted : ∀ b, wantA ops o s.fr = some b → Region.wanted o (yielded ops a.tmps) = b := by
    intro b hb
    have hh : guardK ops o s.fr (fun _ w => some w) = some b := by
      unfold wantA at hb
      unfold guardK
      cases hg : o.guard with
      | none => rw [hg] at hb; exact hb
      | some q =>
        obtain ⟨j, want⟩ := q
        rw [hg] at hb
        simp only at hb ⊢
        cases et : dstOf ops j with
        | none => rw [et] at hb; cases hb
        | some t =>
          rw [et] at hb
          simp only at hb ⊢
          generalize s.fr.f t = u at hb ⊢
          cases u with
          | bool b' => cases b' <;> cases want <;> exact hb
          | tuple vs => exact hb
          | _ => cases hb
    obtain ⟨fr', h1, _⟩ := guard_sim hf hh
    exact Option.some.inj h1
  unfold wpOp
  rw [ho]
  simp only
  cases E with
  | skip =>
    obtain ⟨h1, rfl⟩ := hs
    rw [wanted _ h1, if_neg (by decide)]
    exact hn m _ w (hf.put o.dst (undef_rel m)) (PMap.le_refl m) (Below.refl N w) (Nat.le_refl _) (hsim.mono fun j hj => hj.imp (fun q => q.1) (fun q => q))
  | op e =>
    obtain ⟨h1, h2, h3, rfl⟩ := hs
    rw [wanted _ h1, if_pos rfl]
    left
    obtain ⟨e', he', nx, x, w', m', hrun, hnx, hrel, hs2, hle, hb⟩ := opK_sim ht hsim (.inl hid) hf h3
    obtain rfl := Option.some.inj he'
    have hid' : base + i < s.c := hG _ hid
    have := hn m' (a.put o.dst x) w' ((hf.le hle).put o.dst hrel) hle hb (Nat.le_refl _) (hs2.mono fun j hj => by
      rcases hj with hj | hj
      · exact ⟨.inl hj.1, hj.2⟩
      · exact ⟨.inr hj, fun e => by rw [e] at hj; exact absurd hid' (Nat.not_lt.2 hj)⟩)
    unfold Oper.wp
    rw [hrun]
    rcases hnx with rfl | ⟨rfl, rfl⟩
    · exact this
    · exact this
  | call v h h' c c' =>
    obtain ⟨h1, rfl, rfl, ⟨f, args, fn, first, caps, h3, h4, h5⟩, rfl⟩ := hs
    rw [wanted _ h1, if_pos rfl]
    left
    refine step_sim (K := fun v h c => some (v, h, c)) (id := base + i) (r := (v, h', c')) (M := ⟨M.T, fun _ => .one .any⟩) hc ht hsim hG hid hf ?_ ?_
    · unfold stepK
      rw [h3]
      simp only [h4, asFn, Option.bind_some, h5]
      rfl
    · intro m' v2 x h2 c2 w' hk hcc hrel hle hb hs2
      simp only [Option.some.injEq, Prod.mk.injEq] at hk
      obtain ⟨rfl, rfl, rfl⟩ := hk
      exact hn m' _ w' ((hf.le hle).put o.dst hrel) hle hb hcc hs2

theorem preds_listed {listed : Array Bool} {i : Nat} (hr : i ∈ Region.ready .any ops listed) : i < ops.size ∧ listed.getD i true = false ∧ ∀ p ∈ predsB ops i, listed.getD p false = true := by
  simp only [Region.ready, List.mem_filter, List.mem_range, Bool.and_eq_true] at hr
  obtain ⟨h1, h2, h3⟩ := hr
  refine ⟨h1, by simpa using h2, fun p hp => ?_⟩
  unfold predsB at hp
  cases ho : ops[i]? with
  | none => rw [ho] at hp; cases hp
  | some o =>
    rw [ho] at hp h3
    simp only [Option.map_some, Option.getD_some, Array.all_eq_true_iff_forall_mem] at h3
    simp only [List.mem_map, List.mem_filter] at hp
    obtain ⟨e, ⟨he, hb⟩, rfl⟩ := hp
    have := h3 e (by simpa using he)
    simpa [hb] using this

theorem ready_of {listed : Array Bool} {i : Nat} (hi : i < ops.size) (hl : listed.getD i true = false) (hp : ∀ p ∈ predsB ops i, listed.getD p false = true) : i ∈ Region.ready .any ops listed := by
  simp only [Region.ready, List.mem_filter, List.mem_range, Bool.and_eq_true]
  refine ⟨hi, by simpa using hl, ?_⟩
  have ho : ops[i]? = some ops[i] := Array.getElem?_eq_getElem hi
  unfold predsB at hp
  rw [ho] at hp ⊢
  simp only [Option.map_some, Option.getD_some, Array.all_eq_true_iff_forall_mem]
  intro e he
  by_cases hb : Region.binds .any e = true
  · have := hp e.on (List.mem_map.2 ⟨e, List.mem_filter.2 ⟨by simpa using he, hb⟩, rfl⟩)
    simp [this]
  · simp [hb]

theorem any_sim (hc : CallOk P call) (ht : TOk P M.T) (hed : edgesB ops = true) {G : Nat → Prop} (hG : ∀ i, G i → i < base) {sf : St} {Q : Exit → Act → World → Prop} {m0 : PMap} {w0 : World} {nx0 : Nat}
    (hQ : ∀ m' a' w', FR m' sf.fr a' → nx0 ≤ sf.c → After N m0 w0 G m' sf.h sf.c w' → Q .normal a' w') :
    ∀ (fuel : Nat) (listed : Array Bool) (rem : List (Nat × SE)) (s : St) (m : PMap) (a : Act) (w : World), rem.length ≤ fuel → listed.size = ops.size →
      (∀ i, i < ops.size → (listed.getD i true = false ↔ i ∈ rem.map (·.1))) → (∀ q ∈ rem, q.1 < ops.size) → (rem.map (·.1)).Pairwise (· < ·) →
      (∀ i, i < ops.size → listed.getD i true = true → ∀ p ∈ predsB ops i, listed.getD p false = true) →
      Run M call ops base s rem sf → PairsOk ops rem → FR m s.fr a → base + ops.size ≤ s.c → nx0 ≤ s.c → Sim N m s.h (Free (fun j => G j ∨ ∃ k ∈ rem.map (·.1), j = base + k) s.c) w → m0.le m → Below N w0 w →
      wpAny P .any ops Q fuel listed a w := by
  have fin : ∀ (s : St) (m : PMap) (a : Act) (w : World), Run M call ops base s [] sf → FR m s.fr a → nx0 ≤ s.c → Sim N m s.h (Free (fun j => G j ∨ ∃ k ∈ ([] : List (Nat × SE)).map (·.1), j = base + k) s.c) w → m0.le m → Below N w0 w → Q .normal a w := by
    intro s m a w hr hf hn hs hle hb
    cases hr
    exact hQ m a w hf hn ⟨hs.mono fun j hj => hj.imp .inl (fun q => q), hle, hb⟩
  have hnil : ∀ (listed : Array Bool) (rem : List (Nat × SE)), listed.size = ops.size → (∀ i, i < ops.size → (listed.getD i true = false ↔ i ∈ rem.map (·.1))) → (∀ q ∈ rem, q.1 < ops.size) → (rem.map (·.1)).Pairwise (· < ·) → Region.ready .any ops listed = [] → rem = [] := by
    intro listed rem hsz hl hlt hsort hr
    cases rem with
    | nil => rfl
    | cons q rem =>
      exfalso
      have hq := hlt q (by simp)
      have hmem : q.1 ∈ Region.ready .any ops listed := by
        refine ready_of hq ((hl q.1 hq).2 (by simp)) fun p hp => ?_
        have hpl : p < q.1 := by
          have := (List.all_eq_true.1 hed) q.1 (List.mem_range.2 (by simpa using hq))
          have := (List.all_eq_true.1 this) p hp
          simpa using this
        have hps : p < ops.size := by omega
        by_cases c : listed.getD p true = false
        · have := (hl p hps).1 c
          simp only [List.map_cons, List.mem_cons] at this
          simp only [List.map_cons, List.pairwise_cons] at hsort
          rcases this with h1 | h1
          · omega
          · have := hsort.1 p h1; omega
        · have c' : listed.getD p true = true := by simpa using c
          have hs2 : p < listed.size := by omega
          simp only [Array.getD, hs2, dite_true] at c' ⊢; exact c'
      rw [hr] at hmem; cases hmem
  intro fuel
  induction fuel with
  | zero =>
    intro listed rem s m a w hlen hsz hl hlt hsort hcl hr hp hf hb1 hn hs hle hb
    obtain rfl : rem = [] := List.eq_nil_of_length_eq_zero (by omega)
    refine ⟨?_, fin s m a w hr hf hn hs hle hb⟩
    apply List.eq_nil_iff_forall_not_mem.2
    intro i hi
    obtain ⟨h1, h2, _⟩ := preds_listed hi
    have := (hl i h1).1 h2
    simp at this
  | succ fuel ih =>
    intro listed rem s m a w hlen hsz hl hlt hsort hcl hr hp hf hb1 hn hs hle hb
    refine ⟨fun h0 => ?_, fun i hi => ?_⟩
    · obtain rfl := hnil listed rem hsz hl hlt hsort h0
      exact fin s m a w hr hf hn hs hle hb
    · obtain ⟨h1, h2, h3⟩ := preds_listed hi
      have hmem := (hl i h1).1 h2
      obtain ⟨q, hq, hqi⟩ := List.mem_map.1 hmem
      obtain ⟨pre, post, hrem⟩ := List.append_of_mem hq
      obtain ⟨i', E⟩ := q
      simp only at hqi
      subst hqi
      subst hrem
      obtain ⟨hp', hpre⟩ := hp.drop
      have hunl : ∀ q ∈ pre, listed.getD q.1 true = false := fun q hq' => (hl q.1 (hlt q (by simp [hq']))).2 (List.mem_map.2 ⟨q, by simp [hq'], rfl⟩)
      have tf : ∀ p, listed.getD p false = true → p < ops.size ∧ listed.getD p true = true := by
        intro p hp
        by_cases hs2 : p < listed.size
        · simp only [Array.getD, hs2, dite_true] at hp ⊢; exact ⟨by omega, hp⟩
        · simp [Array.getD, hs2] at hp
      have hno : ∀ q ∈ pre, ¬ befB ops q.1 i' = true := by
        intro q hq' hbf
        have hu := hunl q hq'
        simp only [befB, List.any_eq_true, Bool.or_eq_true, beq_iff_eq] at hbf
        obtain ⟨p, hp1, hp2⟩ := hbf
        obtain ⟨pl, pt⟩ := tf p (h3 p hp1)
        rcases hp2 with rfl | ⟨p2, hp3, hp4⟩
        · rw [hu] at pt; cases pt
        · have := hcl p pl pt p2 hp3
          obtain ⟨_, qt⟩ := tf p2 this
          rw [hp4, hu] at qt; cases qt
      obtain ⟨s1, hs1, hr1⟩ := Run.front (s := s) hr fun q hq' => (hpre q hq').resolve_left (hno q hq')
      have hnd : i' ∉ (pre ++ post).map (·.1) := by
        rw [List.map_append, List.map_cons] at hsort
        rw [List.map_append, List.mem_append]
        rw [List.pairwise_append] at hsort
        obtain ⟨_, hb2, hc2⟩ := hsort
        rw [List.pairwise_cons] at hb2
        rintro (hx | hx)
        · have := hc2 i' hx i' (by simp); omega
        · have := hb2.1 i' hx; omega
      refine step1_sim (G := fun j => G j ∨ ∃ k ∈ (pre ++ (i', E) :: post).map (·.1), j = base + k) hc ht hs1 hf hs ?_ (.inr ⟨i', by simp, rfl⟩) ?_
      · intro j hj
        rcases hj with hj | ⟨k, hk, rfl⟩
        · have := hG j hj; omega
        · obtain ⟨q, hq', rfl⟩ := List.mem_map.1 hk
          have := hlt q hq'; omega
      · intro m' a' w' hf' hle' hb' hcc hs'
        have hget : ∀ j d, (listed.setIfInBounds i' true).getD j d = if j = i' then true else listed.getD j d := by
          intro j d
          simp only [Array.getD_eq_getD_getElem?, Array.getElem?_setIfInBounds]
          by_cases e : j = i'
          · subst e; simp [hsz, h1]
          · rw [if_neg (fun e2 => e e2.symm), if_neg e]
        refine ih (listed.setIfInBounds i' true) (pre ++ post) s1 m' a' w' (by simp only [List.length_append, List.length_cons] at hlen ⊢; omega) (by simpa using hsz) ?_ (fun q hq' => hlt q (by simp only [List.mem_append, List.mem_cons] at hq' ⊢; rcases hq' with h | h; exact .inl h; exact .inr (.inr h))) ?_ ?_ hr1 hp' hf' (by omega) (by omega) (hs'.mono ?_) (PMap.le_trans hle hle') (hb.trans hb')
        · intro j hj
          rw [hget]
          by_cases e : j = i'
          · subst e; rw [if_pos rfl]; simp only [Bool.true_eq_false, false_iff]; exact hnd
          · rw [if_neg e, hl j hj]
            simp only [List.map_append, List.map_cons, List.mem_append, List.mem_cons]
            constructor
            · rintro (h | h | h)
              · exact .inl h
              · exact absurd h e
              · exact .inr h
            · rintro (h | h)
              · exact .inl h
              · exact .inr (.inr h)
        · rw [List.map_append, List.map_cons] at hsort
          rw [List.map_append]
          rw [List.pairwise_append] at hsort ⊢
          obtain ⟨ha2, hb2, hc2⟩ := hsort
          rw [List.pairwise_cons] at hb2
          exact ⟨ha2, hb2.2, fun x hx y hy => hc2 x hx y (List.mem_cons_of_mem _ hy)⟩
        · intro j hj ht2 p hp2
          rw [hget] at ht2 ⊢
          by_cases e : j = i'
          · subst e
            have := h3 p hp2
            by_cases e2 : p = j
            · rw [if_pos e2]
            · rw [if_neg e2]; exact this
          · rw [if_neg e] at ht2
            have := hcl j hj ht2 p hp2
            by_cases e2 : p = i'
            · rw [if_pos e2]
            · rw [if_neg e2]; exact this
        · rintro j (hj | hj)
          · rcases hj with hj | ⟨k, hk, rfl⟩
            · exact .inl ⟨.inl hj, fun e => by have := hG j hj; omega⟩
            · refine .inl ⟨.inr ⟨k, ?_, rfl⟩, fun e => hnd ?_⟩
              · simp only [List.map_append, List.map_cons, List.mem_append, List.mem_cons] at hk ⊢
                rcases hk with h | h
                · exact .inl h
                · exact .inr (.inr h)
              · have : k = i' := by omega
                rw [← this]; exact hk
          · exact .inr hj


theorem ifKept_out {l : List (AHeap × AHeap × Nat)} {K : Option R} {r : R} (h : ifKept l K = some r) : AllKept l ∧ K = some r := by
  unfold ifKept at h
  split at h
  · exact ⟨trivial, h⟩
  · split at h
    · rename_i c; exact ⟨c, h⟩
    · cases h

/-- THE DRAWN REGIONS. -/
theorem draw_ok (hm : P.follows .mixedOrders = true) (ht : TOk P M.T) (hc : CallOk P call) : DrawOk P M call (drawK (R := R)) := by
  intro N ops id fr h nx K r m a w G hG hh hf hs
  unfold drawK at hh
  split at hh
  · rename_i hed
    obtain ⟨l, sf, hr, hl, hk⟩ := drawOps_run ops.toList.zipIdx fr h (nx + ops.toList.length) [] (fun p hp => by
      obtain ⟨o, i⟩ := p
      rw [List.mem_zipIdx_iff_getElem?] at hp
      rw [← Array.getElem?_toList]; exact hp) hh
    simp only [List.nil_append] at hk
    split at hk
    · rename_i hpb
      obtain ⟨hak, hk⟩ := ifKept_out hk
      have hids : l.map (·.1) = List.range ops.size := by
        rw [hl]
        apply List.ext_getElem?
        intro j
        rw [List.getElem?_map, List.getElem?_zipIdx]
        by_cases c : j < ops.size
        · rw [List.getElem?_range c, List.getElem?_eq_getElem (by simpa using c)]; simp
        · rw [List.getElem?_eq_none (by simpa using c), List.getElem?_eq_none (by simpa using c)]; rfl
      refine wp_region_any hm ?_
      refine any_sim hc ht hed hG (sf := sf) (nx0 := nx) (m0 := m) (w0 := w) ?_ ops.size (Array.replicate ops.size false) l ⟨fr, h, nx + ops.toList.length⟩ m a _ ?_ (by simp) ?_ ?_ ?_ ?_ hr (pairsOk_of hpb hak) hf (by simp) (by simp) ?_ (PMap.le_refl m) ((Below.refl N w).drew)
      · intro m' a' w' hf' hn haf
        exact ⟨rfl, m', sf.fr, sf.h, sf.c, hk, hn, hf', haf⟩
      · have := congrArg List.length hids
        simp at this; omega
      · intro i hi
        rw [hids]
        simp [Array.getD_eq_getD_getElem?, hi]
      · intro q hq
        have : q.1 ∈ l.map (·.1) := List.mem_map.2 ⟨q, hq, rfl⟩
        rw [hids] at this
        simpa using this
      · rw [hids]; exact List.pairwise_lt_range
      · intro i hi ht2
        simp [Array.getD_eq_getD_getElem?, hi] at ht2
      · refine (hs.mono fun j hj => ?_).drew
        rcases hj with (hj | ⟨k, hk2, rfl⟩) | hj
        · exact .inl hj
        · exact .inr (by omega)
        · exact .inr (by simp only at hj; omega)
    · cases hk
  · cases hh

/-- EVERY CALL OF A PROGRAM THAT MIXES ORDERS: what the abstract machine says, memory does. -/
theorem acall_draw {F : Nat → Option AFun} (hm : P.follows .mixedOrders = true) (ht : TOk P M.T) (hF : FOk P F) (n : Nat) : CallOk P (acall drawK M F n) :=
  acall_ok ht hF (fun _ hc => draw_ok hm ht hc) n

end Go.Proofs.Ytdjbhonncjcbjaa.T
