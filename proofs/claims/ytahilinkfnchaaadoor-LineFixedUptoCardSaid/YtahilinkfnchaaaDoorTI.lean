/- A law's arguments, of whatever make of numbers, truths, texts, structs and slices: as values and blocks of the machine. Nothing of one program. -/
import Derived.Test.YtahilinkfnchaaaDoorTS
import Derived.ChangeArms
import Derived.SizedLaws
set_option linter.unusedVariables false
set_option linter.unusedSimpArgs false
namespace Go.Proofs.YtahilinkfnchaaaDoor.T
open Go Go.RowKit

/-- What data are made of. -/
inductive Sh where
  | int (k : IntKind)
  | bool
  | str
  | sl (e : Sh)
  | st (fs : List Sh)

mutual
def Sh.n : Sh → Nat
  | .int _ => 1
  | .bool => 1
  | .str => 1
  | .sl _ => 1
  | .st fs => Sh.nL fs
def Sh.nL : List Sh → Nat
  | [] => 0
  | f :: fs => f.n + Sh.nL fs
end

mutual
/-- These cells are data of a make. -/
def Ty (h : AHeap) (nx : Nat) : Sh → List AV → Prop
  | .int k, vs => ∃ n, vs = [.int k n] ∧ (Lit.int k n).wf = true
  | .bool, vs => ∃ b, vs = [.bool b]
  | .str, vs => ∃ s : ByteArray, vs = [.str s] ∧ s.size ≤ maxLen
  | .sl e, vs => ∃ a cells, vs = [.slice a (List.length cells) none] ∧ (∀ v ∈ cells, Ty h nx e v) ∧ Sl h nx a (List.length cells) e.n cells.flatten ∧ List.length cells ≤ 140737488351232
  | .st fs, vs => ∃ parts, vs = List.flatten parts ∧ TyL h nx fs parts
def TyL (h : AHeap) (nx : Nat) : List Sh → List (List AV) → Prop
  | [], ps => ps = []
  | f :: fs, ps => ∃ p r, ps = p :: r ∧ Ty h nx f p ∧ TyL h nx fs r
end

mutual
theorem Ty.length {h : AHeap} {nx : Nat} : ∀ {s : Sh} {vs : List AV}, Ty h nx s vs → vs.length = s.n
  | .int k, vs, t => by simp only [Ty] at t; obtain ⟨n, rfl, _⟩ := t; rfl
  | .bool, vs, t => by simp only [Ty] at t; obtain ⟨n, rfl⟩ := t; rfl
  | .str, vs, t => by simp only [Ty] at t; obtain ⟨n, rfl, _⟩ := t; rfl
  | .sl e, vs, t => by simp only [Ty] at t; obtain ⟨a, c, rfl, _⟩ := t; rfl
  | .st fs, vs, t => by simp only [Ty] at t; obtain ⟨ps, rfl, r⟩ := t; simp only [Sh.n]; exact TyL.length r
theorem TyL.length {h : AHeap} {nx : Nat} : ∀ {fs : List Sh} {ps : List (List AV)}, TyL h nx fs ps → ps.flatten.length = Sh.nL fs
  | [], ps, t => by simp only [TyL] at t; subst t; rfl
  | f :: fs, ps, t => by
    simp only [TyL] at t; obtain ⟨p, r, rfl, a, b⟩ := t
    simp only [List.flatten_cons, List.length_append, Sh.nL, Ty.length a, TyL.length b]
end
mutual
theorem Ty.ext {h h' : AHeap} {nx nx' : Nat} (x : Ext h nx h' nx') : ∀ {s : Sh} {vs : List AV}, Ty h nx s vs → Ty h' nx' s vs
  | .int k, vs, t => by simpa only [Ty] using t
  | .bool, vs, t => by simpa only [Ty] using t
  | .str, vs, t => by simpa only [Ty] using t
  | .sl e, vs, t => by
    simp only [Ty] at t ⊢; obtain ⟨a, c, rfl, q, s, b⟩ := t
    exact ⟨a, c, rfl, fun v hv => Ty.ext x (q v hv), s.ext x, b⟩
  | .st fs, vs, t => by simp only [Ty] at t ⊢; obtain ⟨ps, rfl, r⟩ := t; exact ⟨ps, rfl, TyL.ext x r⟩
theorem TyL.ext {h h' : AHeap} {nx nx' : Nat} (x : Ext h nx h' nx') : ∀ {fs : List Sh} {ps : List (List AV)}, TyL h nx fs ps → TyL h' nx' fs ps
  | [], ps, t => by simpa only [TyL] using t
  | f :: fs, ps, t => by
    simp only [TyL] at t ⊢; obtain ⟨p, r, rfl, a, b⟩ := t
    exact ⟨p, r, rfl, Ty.ext x a, TyL.ext x b⟩
end

/-- The make of a type. -/
def shFs (P : Program) (g : TypeId → Option Sh) : List Field → Nat → Option (List Sh × Nat)
  | [], off => some ([], off)
  | f :: fs, off => if f.offset = off then (g f.type).bind fun s => if P.cellsOf f.type = s.n then (shFs P g fs (off + s.n)).map fun q => (s :: q.1, q.2) else none else none
def shOf (P : Program) : Nat → TypeId → Option Sh
  | 0, _ => none
  | n + 1, t => match P.underlying t with
    | some (.int k) => some (.int k)
    | some .bool => some .bool
    | some .string => some .str
    | some (.slice e) => (shOf P n e).bind fun s => if P.cellsOf e = s.n ∧ 0 < s.n ∧ s.n < MB ∧ 0 < P.bytesOf e then some (.sl s) else none
    | some (.struct fs) => (shFs P (shOf P n) fs.toList 0).bind fun q => if q.2 = P.cellsOf t then some (.st q.1) else none
    | _ => none

theorem PMap.le_put {m : PMap} {i : Nat} {p : Place} (h : m i = none) : m.le (m.put i p) := fun j q hj => by
  unfold PMap.put; by_cases c : j = i
  · subst c; rw [h] at hj; cases hj
  · rw [if_neg c]; exact hj

/-- Memory's cells, opened: blocks are added, and these values are in them. -/
def OpenTo (w : World) (m : PMap) (h : AHeap) (nx : Nat) (cs : List Value) (Q : AHeap → Nat → List AV → Prop) : Prop :=
  ∃ m' h' nx' vs, m.le m' ∧ Ext h nx h' nx' ∧ Sim w.heap.size m' h' (Free (fun _ => False) nx') w ∧ RelL m' vs cs ∧ allOne vs = true ∧ Q h' nx' vs

section
variable {H : Type} {enc : TypeId × Value → H} {P : Program} {w : World} {base : Nat} {held : Bool}

theorem weights_mem_all {H : Type} {P : Program} {e : TypeId} : ∀ {ds : List (DataW H)} {d : DataW H}, d ∈ ds → ∀ n ∈ d.weights P e, n ∈ DataW.weightsAll P e ds
  | [], _, h, _, _ => by cases h
  | x :: xs, d, h, n, hn => by
    simp only [DataW.weightsAll, List.mem_append]
    cases h with
    | head => exact .inl hn
    | tail _ h => exact .inr (weights_mem_all h n hn)

theorem open_flat {m : PMap} {h : AHeap} {nx : Nat} (s : Sim w.heap.size m h (Free (fun _ => False) nx) w) {v : AV} {x : Value} (r : Rel m v x) (o : v.one = true) {Q : AHeap → Nat → List AV → Prop} (q : Q h nx [v]) : OpenTo w m h nx [x] Q :=
  ⟨m, h, nx, [v], PMap.le_refl m, Ext.refl h nx, s, by simp only [RelL]; exact ⟨x, [], rfl, r, rfl⟩, by simp [allOne, o], q⟩

/-- A run of rows, one behind the other. -/
theorem open_many {m : PMap} {h : AHeap} {nx : Nat} (s : Sim w.heap.size m h (Free (fun _ => False) nx) w) {Q : AHeap → Nat → List AV → Prop} (hQ : ∀ h nx h' nx' vs, Ext h nx h' nx' → Q h nx vs → Q h' nx' vs) :
    ∀ (css : List (List Value)), (∀ cs ∈ css, ∀ (m : PMap) (h : AHeap) (nx : Nat), Sim w.heap.size m h (Free (fun _ => False) nx) w → OpenTo w m h nx cs Q) →
    ∃ m' h' nx' vss, m.le m' ∧ Ext h nx h' nx' ∧ Sim w.heap.size m' h' (Free (fun _ => False) nx') w ∧ RelL m' (List.flatten vss) css.flatten ∧ allOne (List.flatten vss) = true ∧ vss.length = css.length ∧ ∀ vs ∈ vss, Q h' nx' vs
  | [], _ => ⟨m, h, nx, [], PMap.le_refl m, Ext.refl h nx, s, by simp [RelL], rfl, rfl, fun _ q => by cases q⟩
  | cs :: css, hc => by
    obtain ⟨m1, h1, n1, vs, l1, x1, s1, r1, o1, q1⟩ := hc cs List.mem_cons_self m h nx s
    obtain ⟨m2, h2, n2, vss, l2, x2, s2, r2, o2, e2, q2⟩ := open_many s1 hQ css (fun c hcm => hc c (List.mem_cons_of_mem _ hcm))
    refine ⟨m2, h2, n2, vs :: vss, PMap.le_trans l1 l2, x1.trans x2, s2, ?_, ?_, by simp [e2], fun v hv => ?_⟩
    · simp only [List.flatten_cons]; exact (RelL.le l2 r1).append r2
    · simp only [List.flatten_cons, allOne, List.all_append] at o1 o2 ⊢; simp [o1, o2]
    · cases hv with
      | head => exact hQ _ _ _ _ _ x2 q1
      | tail _ hv => exact q2 v hv

/-- A row of cells of old memory becomes a block. -/
theorem open_block {m : PMap} {h : AHeap} {nx : Nat} (s : Sim w.heap.size m h (Free (fun _ => False) nx) w) {x : Addr} {es len cap : Nat} (hes : es < MB) (hl : len ≤ cap) {vs : List AV} {ys : List Value} (r : RelL m vs ys) (o : allOne vs = true) (hy : ys.length = len * es)
    (hc : ∀ j, j < len * es → w.cell? (x.add j) = ys[j]?) (hx : cap * es ≠ 0 → (w.cell? x).isSome = true) (h0 : 0 < es) :
    ∃ m' h' nx' a, m.le m' ∧ Ext h nx h' nx' ∧ Sim w.heap.size m' h' (Free (fun _ => False) nx') w ∧ Rel m' (.slice a len none) (.slice (some x) len cap) ∧ Sl h' nx' a len es vs := by
  obtain ⟨f0, f1⟩ := s.fresh nx (.inr (Nat.le_refl _))
  have hvl : vs.length = len * es := by rw [← r.length, hy]
  by_cases c0 : cap * es = 0
  · have hcap : cap = 0 := by
      rcases Nat.mul_eq_zero.1 c0 with q | q
      · exact q
      · omega
    subst hcap
    obtain rfl : len = 0 := by omega
    have le : m.le (m.put nx ⟨0, 0, 0, es⟩) := PMap.le_put f1
    refine ⟨m.put nx ⟨0, 0, 0, es⟩, h, nx + 1, some (nx, 0), le, ⟨by omega, fun _ _ => rfl⟩, ⟨s.base, ?_, ?_, ?_, fun i b hb hes => by obtain ⟨ho, p, r, hp, hr⟩ := s.loop i b hb hes; exact ⟨ho, p, r, le i p hp, hr⟩⟩, ?_, ⟨by simpa using hvl, fun j hj => by omega⟩⟩
    · intro i b hb
      obtain ⟨p, hp, q⟩ := s.blk i b hb
      exact ⟨p, le i p hp, q.move le q.lt (fun _ _ t => t) (fun _ _ t => t) fun _ _ _ t => t⟩
    · intro i hi
      rcases hi with hi | hi
      · exact hi.elim
      · have := s.fresh i (.inr (by omega))
        unfold PMap.put; rw [if_neg (by omega)]; exact this
    · intro i j bi bj pi pj hij hi hj ho hmi hmj
      obtain ⟨qi, ei, _⟩ := s.blk i bi hi
      obtain ⟨qj, ej, _⟩ := s.blk j bj hj
      have e1 := le i qi ei; rw [hmi] at e1; obtain rfl := Option.some.inj e1
      have e2 := le j qj ej; rw [hmj] at e2; obtain rfl := Option.some.inj e2
      exact s.apart i j bi bj pi pj hij hi hj ho ei ej
    · simp only [Rel]
      exact ⟨⟨0, 0, 0, es⟩, x, 0, by simp [PMap.put], rfl, Nat.le_refl _, by simp, by simp⟩
  · have hc0 := hx c0
    have hspot : x.spot = none ∧ x.block < w.heap.size := by
      unfold World.cell? at hc0
      split at hc0
      · rename_i q
        have hlt := (Array.getElem?_eq_some_iff.1 q).1
        split at hc0
        · cases hc0
        · rename_i e
          exact ⟨by cases hs : x.spot with | none => rfl | some _ => rw [hs] at e; simp at e, hlt⟩
      · cases hc0
    have hx : x = ⟨x.block, x.off, none⟩ := by cases x; simp at hspot ⊢; exact hspot.1
    have hadd : ∀ i, x.add i = ⟨x.block, x.off + i, none⟩ := by
      intro i; unfold Addr.add
      by_cases e : i = 0
      · rw [if_pos e]; subst e; exact hx
      · rw [if_neg e]
    have le : m.le (m.put nx ⟨x.block, x.off, cap * es, es⟩) := PMap.le_put f1
    have hlc : len * es ≤ cap * es := Nat.mul_le_mul_right _ hl
    refine ⟨m.put nx ⟨x.block, x.off, cap * es, es⟩, h.put nx (some ⟨vs, es, false⟩), nx + 1, some (nx, 0), le, ⟨by omega, fun i hi => put_ne (by omega)⟩, ⟨s.base, ?_, ?_, ?_, ?_⟩, ?_, ⟨hvl, ?_⟩⟩
    · intro i b hb
      unfold AHeap.put at hb
      by_cases c : i = nx
      · subst c
        rw [if_pos rfl] at hb
        obtain rfl := Option.some.inj hb
        refine ⟨⟨x.block, x.off, cap * es, es⟩, by simp [PMap.put], fun _ => rfl, fun _ => by show vs.length ≤ cap * es; omega, hspot.2, fun _ => ⟨ys, RelL.le le r, ?_⟩, fun _ => o, by simp, fun _ => hspot.2, fun he => absurd he (by show ¬ es = MB; omega)⟩
        intro j v hv
        have hj : j < ys.length := (List.getElem?_eq_some_iff.1 hv).1
        have := hc j (by omega)
        rw [hadd, hv] at this
        exact this
      · rw [if_neg c] at hb
        obtain ⟨p, hp, q⟩ := s.blk i b hb
        exact ⟨p, le i p hp, q.move le q.lt (fun _ _ t => t) (fun _ _ t => t) fun _ _ _ t => t⟩
    · intro i hi
      rcases hi with hi | hi
      · exact hi.elim
      · have := s.fresh i (.inr (by omega))
        unfold PMap.put AHeap.put; rw [if_neg (by omega), if_neg (by omega)]; exact this
    · intro i j bi bj pi pj hij hi hj ho hmi hmj
      unfold AHeap.put at hi hj
      by_cases ci : i = nx
      · rw [if_pos ci] at hi
        obtain rfl := Option.some.inj hi
        cases ho
      · rw [if_neg ci] at hi
        obtain ⟨qi, ei, oi⟩ := s.blk i bi hi
        have e1 := le i qi ei; rw [hmi] at e1; obtain rfl := Option.some.inj e1
        by_cases cj : j = nx
        · have e2 : pj = ⟨x.block, x.off, cap * es, es⟩ := by subst cj; simpa [PMap.put] using hmj.symm
          subst e2
          have := (oi.own ho).1
          show pi.blk ≠ x.block
          omega
        · rw [if_neg cj] at hj
          obtain ⟨qj, ej, _⟩ := s.blk j bj hj
          have e2 := le j qj ej; rw [hmj] at e2; obtain rfl := Option.some.inj e2
          exact s.apart i j bi bj pi pj hij hi hj ho ei ej
    · intro i b hb hbe
      unfold AHeap.put at hb
      by_cases c : i = nx
      · rw [if_pos c] at hb
        obtain rfl := Option.some.inj hb
        exact absurd hbe (by show ¬ LB ≤ es; have := MB_LB; omega)
      · rw [if_neg c] at hb
        obtain ⟨ho, p, r, hp, hr⟩ := s.loop i b hb hbe
        exact ⟨ho, p, r, le i p hp, hr⟩
    · simp only [Rel]
      exact ⟨⟨x.block, x.off, cap * es, es⟩, x, cap, by simp [PMap.put], rfl, hl, by simp, fun _ => ⟨by simpa using hx, by simp⟩⟩
    · intro j hj
      exact ⟨(nx, 0), _, rfl, by simp, by simp; rfl, rfl, by simp [hvl], fun q hq => by simp⟩

theorem open_fields {n : Nat} {fuel : Nat} {cs : List Value} (ih : ∀ (t : TypeId) (sh : Sh) (cs : List Value) (x : DataW H × List MemPlace), shOf P n t = some sh → DataW.trod enc P w base (fun _ => true) held fuel t cs = some x → (∀ n ∈ x.1.weights P t, n ≤ reachBytes) →
      ∀ (m : PMap) (h : AHeap) (nx : Nat), Sim w.heap.size m h (Free (fun _ => False) nx) w → OpenTo w m h nx cs (fun h nx vs => Ty h nx sh vs)) :
    ∀ (fs : List Field) (off : Nat) (q : List Sh × Nat), shFs P (shOf P n) fs off = some q → (∀ f ∈ fs, ∃ y, DataW.trod enc P w base (fun _ => true) held fuel f.type ((cs.drop f.offset).take (P.cellsOf f.type)) = some y ∧ ∀ n ∈ y.1.weights P f.type, n ≤ reachBytes) →
      off ≤ q.2 ∧ ∀ (m : PMap) (h : AHeap) (nx : Nat), Sim w.heap.size m h (Free (fun _ => False) nx) w → OpenTo w m h nx ((cs.drop off).take (q.2 - off)) (fun h nx vs => ∃ parts, vs = List.flatten parts ∧ TyL h nx q.1 parts)
  | [], off, q, hq, _ => by
    simp only [shFs, Option.some.injEq] at hq
    subst hq
    refine ⟨Nat.le_refl _, fun m h nx s => ⟨m, h, nx, [], PMap.le_refl m, Ext.refl h nx, s, by simp [RelL], rfl, [], rfl, by simp [TyL]⟩⟩
  | f :: fs, off, q, hq, hf => by
    simp only [shFs] at hq
    split at hq
    · rename_i hoff
      obtain ⟨sh, hsh, hq⟩ := Option.bind_eq_some_iff.1 hq
      split at hq
      · rename_i hcell
        obtain ⟨q2, hq2, rfl⟩ := Option.map_eq_some_iff.1 hq
        obtain ⟨hle, rest⟩ := open_fields ih fs (off + sh.n) q2 hq2 (fun g hg => hf g (List.mem_cons_of_mem _ hg))
        refine ⟨by simp only; omega, fun m h nx s => ?_⟩
        obtain ⟨y, hy, hyw⟩ := hf f List.mem_cons_self
        rw [hoff, hcell] at hy
        obtain ⟨m1, h1, n1, vs, l1, x1, s1, r1, o1, t1⟩ := ih f.type sh _ y hsh hy hyw m h nx s
        obtain ⟨m2, h2, n2, us, l2, x2, s2, r2, o2, ps, rfl, t2⟩ := rest m1 h1 n1 s1
        refine ⟨m2, h2, n2, vs ++ ps.flatten, PMap.le_trans l1 l2, x1.trans x2, s2, ?_, ?_, vs :: ps, by simp, by simp only [TyL]; exact ⟨vs, ps, rfl, Ty.ext x2 t1, t2⟩⟩
        · have e : (cs.drop off).take (q2.2 - off) = (cs.drop off).take sh.n ++ (cs.drop (off + sh.n)).take (q2.2 - (off + sh.n)) := by
            rw [show q2.2 - off = sh.n + (q2.2 - (off + sh.n)) by omega, List.take_add, List.drop_drop]
          show RelL m2 _ ((cs.drop off).take (q2.2 - off))
          rw [e]
          exact (RelL.le l2 r1).append r2
        · simp only [allOne, List.all_append] at o1 o2 ⊢; simp [o1, o2]
      · cases hq
    · cases hq

/-- DATA, OPENED. -/
theorem open_data : ∀ (n : Nat) (t : TypeId) (sh : Sh) (fuel : Nat) (cs : List Value) (x : DataW H × List MemPlace), shOf P n t = some sh → DataW.trod enc P w base (fun _ => true) held fuel t cs = some x → (∀ n ∈ x.1.weights P t, n ≤ reachBytes) →
    ∀ (m : PMap) (h : AHeap) (nx : Nat), Sim w.heap.size m h (Free (fun _ => False) nx) w → OpenTo w m h nx cs (fun h nx vs => Ty h nx sh vs) := by
  intro n
  induction n with
  | zero => intro t sh fuel cs x hs; cases hs
  | succ n ih =>
    intro t sh fuel cs x hs hx hW m h nx s
    unfold shOf at hs
    split at hs
    · rename_i k hu
      obtain rfl := Option.some.inj hs
      obtain ⟨i, rfl, _, hw⟩ := DataW.trod_int hu hx
      exact open_flat s (v := .int k i) (by simp [Rel]) rfl (by simp only [Ty]; exact ⟨i, rfl, hw⟩)
    · rename_i hu
      obtain rfl := Option.some.inj hs
      obtain ⟨b, rfl, _⟩ := DataW.trod_bool hu hx
      exact open_flat s (v := .bool b) (by simp [Rel]) rfl (by simp only [Ty]; exact ⟨b, rfl⟩)
    · rename_i hu
      obtain rfl := Option.some.inj hs
      obtain ⟨b, rfl, _, hb⟩ := DataW.trod_string hu hx
      exact open_flat s (v := .str b) (by simp [Rel]) rfl (by simp only [Ty]; exact ⟨b, rfl, hb⟩)
    · rename_i e hu
      obtain ⟨se, hse, hs⟩ := Option.bind_eq_some_iff.1 hs
      split at hs
      · rename_i hc
        obtain ⟨hc1, hc2, hc3, hc4⟩ := hc
        obtain rfl := Option.some.inj hs
        rcases DataW.trod_slice hu hx with ⟨rfl, _⟩ | ⟨a, len, cap, elems, rest, fl, _, rfl, hxe, _, hl, _, hlen, hel, hsp, _⟩
        · exact open_flat s (v := .slice none 0 none) (by simp [Rel]) rfl (by simp only [Ty]; exact ⟨none, [], rfl, fun v hv => (by cases hv), ⟨by simp, fun j hj => by simp at hj⟩, by simp⟩)
        · have hwl : (elems.length + rest.length) * P.bytesOf e ≤ reachBytes ∧ ∀ y ∈ elems, ∀ n ∈ y.1.weights P e, n ≤ reachBytes := by
            rw [hxe] at hW
            simp only [DataW.weights, hu, List.mem_cons, List.mem_append, List.length_map] at hW
            refine ⟨hW _ (.inl rfl), fun y hy n hn => hW n (.inr (.inl (weights_mem_all (List.mem_map_of_mem hy) n hn)))⟩
          have hwlen : len ≤ 140737488351232 := by
            have h1 := hwl.1
            have h2 : elems.length ≤ (elems.length + rest.length) * P.bytesOf e := Nat.le_trans (Nat.le_add_right _ _) (Nat.le_mul_of_pos_right _ hc4)
            have h3 : reachBytes ≤ 140737488351232 := by decide
            omega
          have each : ∀ i, i < len → ∃ ci y, w.cells? base (a.add (i * se.n)) se.n = some ci ∧ DataW.trod enc P w base (fun _ => true) held fl e ci = some y ∧ ∀ n ∈ y.1.weights P e, n ≤ reachBytes := by
            intro i hi
            have he := hel i hi
            rw [hc1, List.getElem?_eq_getElem (by omega), Option.bind_eq_some_iff] at he
            obtain ⟨ci, h1, h2⟩ := he
            exact ⟨ci, _, h1, h2, hwl.2 _ (List.getElem_mem _)⟩
          -- the rows
          have rows : ∃ css : List (List Value), css.length = len ∧ (∀ c ∈ css, c.length = se.n) ∧ (∀ i (hi : i < css.length), w.cells? base (a.add (i * se.n)) se.n = some css[i] ∧ ∃ y, DataW.trod enc P w base (fun _ => true) held fl e css[i] = some y ∧ ∀ n ∈ y.1.weights P e, n ≤ reachBytes) := by
            have : ∀ k, k ≤ len → ∃ css : List (List Value), css.length = k ∧ (∀ c ∈ css, c.length = se.n) ∧ (∀ i (hi : i < css.length), w.cells? base (a.add (i * se.n)) se.n = some css[i] ∧ ∃ y, DataW.trod enc P w base (fun _ => true) held fl e css[i] = some y ∧ ∀ n ∈ y.1.weights P e, n ≤ reachBytes) := by
              intro k
              induction k with
              | zero => intro _; exact ⟨[], rfl, fun c hc => (by cases hc), fun i hi => by simp at hi⟩
              | succ k ihk =>
                intro hk
                obtain ⟨css, h1, h2, h3⟩ := ihk (by omega)
                obtain ⟨ci, y, h4, h5, h6⟩ := each k (by omega)
                refine ⟨css ++ [ci], by simp [h1], fun c hc => ?_, fun i hi => ?_⟩
                · rcases List.mem_append.1 hc with hc | hc
                  · exact h2 c hc
                  · simp at hc; subst hc; exact (World.cells?_some h4).2.1
                · by_cases c : i < css.length
                  · rw [List.getElem_append_left c]; exact h3 i c
                  · have : i = k := by simp at hi; omega
                    subst this
                    rw [List.getElem_append_right (by omega)]
                    simp only [h1, Nat.sub_self, List.getElem_cons_zero]
                    exact ⟨h4, y, h5, h6⟩
            exact this len (Nat.le_refl _)
          obtain ⟨css, r1, r2, r3⟩ := rows
          obtain ⟨m1, h1, n1, vss, l1, x1, s1, rr, oo, el, tt⟩ := open_many s (Q := fun h nx vs => Ty h nx se vs) (fun _ _ _ _ _ x t => Ty.ext x t) css (fun c hc m h nx s => by
            obtain ⟨i, hi, rfl⟩ := List.getElem_of_mem hc
            obtain ⟨_, y, hy, hyw⟩ := r3 i hi
            exact ih e se fl _ y hse hy hyw m h nx s)
          have hfl : ∀ (l : List (List Value)), (∀ c ∈ l, c.length = se.n) → l.flatten.length = l.length * se.n := by
            intro l
            induction l with
            | nil => intro _; simp
            | cons c l ihl => intro hl; simp only [List.flatten_cons, List.length_append, List.length_cons, hl c List.mem_cons_self, ihl (fun d hd => hl d (List.mem_cons_of_mem _ hd)), Nat.add_mul]; omega
          have hget : ∀ (l : List (List Value)) (i j : Nat), (∀ c ∈ l, c.length = se.n) → (hi : i < l.length) → j < se.n → l.flatten[i * se.n + j]? = l[i][j]? := by
            intro l
            induction l with
            | nil => intro i j _ hi; simp at hi
            | cons c l ihl =>
              intro i j hl hi hj
              have hcl := hl c List.mem_cons_self
              cases i with
              | zero => simp only [List.flatten_cons, Nat.zero_mul, Nat.zero_add, List.getElem_cons_zero]; rw [List.getElem?_append_left (by omega)]
              | succ i =>
                simp only [List.flatten_cons, List.getElem_cons_succ]
                rw [List.getElem?_append_right (by rw [hcl, Nat.add_mul]; omega), show (i + 1) * se.n + j - c.length = i * se.n + j by rw [hcl, Nat.add_mul]; omega]
                exact ihl i j (fun d hd => hl d (List.mem_cons_of_mem _ hd)) (by simp at hi; omega) hj
          obtain ⟨m2, h2, n2, ad, l2, x2, s2, rs, sl⟩ := open_block (x := a) (es := se.n) (len := len) (cap := cap) s1 hc3 hl rr oo (by rw [hfl css r2, r1]) (fun j hj => by
              have hjd : j / se.n < len := by rw [Nat.div_lt_iff_lt_mul hc2]; exact hj
              have hjm : j % se.n < se.n := Nat.mod_lt _ hc2
              obtain ⟨hcell, _⟩ := r3 (j / se.n) (by omega)
              have := (World.cells?_some hcell).2.2 (j % se.n) hjm
              have e1 : (a.add (j / se.n * se.n)).add (j % se.n) = a.add j := by
                rw [Addr.add_add]
                congr 1
                rw [Nat.mul_comm]; exact Nat.div_add_mod j se.n
              rw [e1] at this
              rw [this, ← hget css (j / se.n) (j % se.n) r2 (by omega) hjm]
              congr 1
              rw [Nat.mul_comm]; exact Nat.div_add_mod j se.n) (fun hne => by
              have hcap : 0 < cap := Nat.pos_of_ne_zero fun e => by rw [e] at hne; simp at hne
              have first : ∃ ci, w.cells? base (a.add (0 * se.n)) se.n = some ci := by
                by_cases c : 0 < len
                · obtain ⟨ci, _, h4, _, _⟩ := each 0 c; exact ⟨ci, h4⟩
                · obtain ⟨hrl, hr⟩ := hsp rfl
                  have := hr 0 (by omega)
                  rw [show len + 0 = 0 by omega, hc1, List.getElem?_eq_getElem (by omega), Option.bind_eq_some_iff] at this
                  obtain ⟨ci, h4, _⟩ := this
                  exact ⟨ci, h4⟩
              obtain ⟨ci, h4⟩ := first
              have h5 := (World.cells?_some h4).2.2 0 hc2
              have h6 := (World.cells?_some h4).2.1
              rw [Nat.zero_mul] at h5
              rw [show (a.add 0).add 0 = a by simp [Addr.add]] at h5
              rw [h5, List.getElem?_eq_getElem (by omega)]; rfl) hc2
          refine ⟨m2, h2, n2, [.slice ad len none], PMap.le_trans l1 l2, x1.trans x2, s2, by simp only [RelL]; exact ⟨_, [], rfl, rs, rfl⟩, rfl, ?_⟩
          simp only [Ty]
          have hvl : vss.length = len := by rw [el, r1]
          exact ⟨ad, vss, by rw [hvl], fun v hv => Ty.ext x2 (tt v hv), by rw [hvl]; exact sl, by rw [hvl]; exact hwlen⟩
      · cases hs
    · rename_i fs hu
      obtain ⟨q, hq, hs⟩ := Option.bind_eq_some_iff.1 hs
      split at hs
      · rename_i hqc
        obtain rfl := Option.some.inj hs
        obtain ⟨xs, fl, _, hxe, hcl, hxl, hf⟩ := DataW.trod_struct hu hx
        obtain ⟨_, op⟩ := open_fields (fuel := fl) (cs := cs) (fun t sh cs x h1 h2 h3 => ih t sh fl cs x h1 h2 h3) fs.toList 0 q hq (fun f hfm => by
          obtain ⟨i, hi, rfl⟩ := List.getElem_of_mem hfm
          simp only [Array.length_toList] at hi
          have := hf i fs[i] (by simp [hi])
          rw [List.getElem?_eq_getElem (by omega)] at this
          refine ⟨xs[i], by simpa using this, fun n hn => ?_⟩
          rw [hxe] at hW
          simp only [DataW.weights, hu] at hW
          exact hW n (DataW.weights_mem_each (j := i) (t := fs[i].type) (d := xs[i].1) (by simp [hi]) (by rw [List.getElem?_map, List.getElem?_eq_getElem (by omega)]; rfl) n (by simpa using hn)))
        have := op m h nx s
        rw [List.drop_zero, Nat.sub_zero, hqc, ← hcl, List.take_length] at this
        obtain ⟨m1, h1, n1, vs, a1, a2, a3, a4, a5, a6⟩ := this
        exact ⟨m1, h1, n1, vs, a1, a2, a3, a4, a5, by simp only [Ty]; exact a6⟩
      · cases hs
    · cases hs
end

structure Start (w : World) (m : PMap) (h : AHeap) (nx : Nat) (args : List AV) (xs : List Value) : Prop where
  rel : RelL m args xs
  sim : Sim w.heap.size m h (Free (fun _ => False) nx) w

theorem Start.nil (w : World) : Start w (fun _ => none) (fun _ => none) 0 [] [] :=
  ⟨by simp [RelL], ⟨Nat.le_refl _, fun _ _ q => (by cases q), fun _ _ => ⟨rfl, rfl⟩, fun _ _ _ _ _ _ _ q => (by cases q), fun _ _ q => (by cases q)⟩⟩

variable {w : World} {m : PMap} {h : AHeap} {nx : Nat} {args : List AV} {xs : List Value}

/-- A value's cells, as one value. -/
def joinA : Sh → List AV → AV
  | .st _, vs => .agg vs
  | _, vs => vs.getD 0 .bad

/-- One argument more. -/
theorem Start.data {H : Type} {enc : TypeId × Value → H} {P : Program} {base b0 : Nat} {held : Bool} {r : Reach} (s : Start w m h nx args xs) {n : Nat} {t : TypeId} {sh : Sh} {v : Value} {d : DataW H} {ps : List MemPlace} (hs : shOf P n t = some sh)
    (hval : Value.okWide P w r b0 t v) (hd : DataW.Trod enc P w base (fun _ => true) held t v d ps) (hW : ∀ n ∈ d.weights P t, n ≤ reachBytes) :
    ∃ m' h' nx' vs, Start w m' h' nx' (args ++ [joinA sh vs]) (xs ++ [v]) ∧ Ty h' nx' sh vs ∧ Ext h nx h' nx' ∧ m.le m' := by
  obtain ⟨fuel, hf⟩ := hd
  obtain ⟨m', h', nx', vs, l, x, s', rl, o, ty⟩ := open_data n t sh fuel _ _ hs hf hW m h nx s.sim
  refine ⟨m', h', nx', vs, ⟨(RelL.le l s.rel).append ?_, s'⟩, ty, x, l⟩
  simp only [RelL]
  refine ⟨v, [], rfl, ?_, rfl⟩
  have one : ∀ u, vs = [u] → v.cells.toList = [v] → joinA sh vs = u → Rel m' (joinA sh vs) v := by
    intro u hu hv hj
    rw [hj]
    subst hu
    rw [hv] at rl
    simp only [RelL] at rl
    obtain ⟨y, q, e, ry, _⟩ := rl
    cases e; exact ry
  cases n with
  | zero => cases hs
  | succ n =>
    unfold shOf at hs
    unfold Value.okWide at hval
    split at hs
    · rename_i k hu
      obtain rfl := Option.some.inj hs
      simp only [Ty] at ty
      obtain ⟨i, rfl, _⟩ := ty
      obtain ⟨i', hc, _⟩ := DataW.trod_int hu hf
      refine one _ rfl ?_ rfl
      cases v <;> simp_all [Value.cells, Cell.okWide, Cell.ok]
    · rename_i hu
      obtain rfl := Option.some.inj hs
      simp only [Ty] at ty
      obtain ⟨i, rfl⟩ := ty
      refine one _ rfl ?_ rfl
      cases v <;> simp_all [Value.cells, Cell.okWide, Cell.ok]
    · rename_i hu
      obtain rfl := Option.some.inj hs
      simp only [Ty] at ty
      obtain ⟨i, rfl, _⟩ := ty
      refine one _ rfl ?_ rfl
      cases v <;> simp_all [Value.cells, Cell.okWide, Cell.ok]
    · rename_i e hu
      obtain ⟨se, hse, hs⟩ := Option.bind_eq_some_iff.1 hs
      split at hs
      · obtain rfl := Option.some.inj hs
        simp only [Ty] at ty
        obtain ⟨a, c, rfl, _⟩ := ty
        refine one _ rfl ?_ rfl
        cases v <;> simp_all [Value.cells, Cell.okWide, Cell.ok]
      · cases hs
    · rename_i fs hu
      obtain ⟨q, hq, hs⟩ := Option.bind_eq_some_iff.1 hs
      split at hs
      · obtain rfl := Option.some.inj hs
        rw [hu] at hval
        obtain ⟨cs, rfl, _⟩ := hval
        simp only [joinA, Rel]
        exact ⟨cs.toList, rfl, by simpa [Value.cells] using rl⟩
      · cases hs
    · cases hs

theorem law_mem {P : Program} (hm : P.follows .mixedOrders = true) (kp : Nat → Keep) (wd : World → Prop) (hgo : ∀ {w1 w2 : World}, wd w1 → Below w.heap.size w1 w2 → wd w2) (hg : GlobIn m P.globals.size) (hw : wd w) (hx : @OrcsOk ⟨w.heap.size, P.globals.size, wd, hgo⟩ P kp) {n f : Nat} (s : Start w m h nx args xs) {h' : AHeap} {nx' : Nat}
    (hc : callP P kp n Y0 f args h nx = some (.bool true, h', nx')) : Calls P f ⟨xs⟩ w fun e w' => e = .returned (.bool true) ∧ Go.RowKit.Below w.heap.size w w' := by
  letI : Glo := ⟨w.heap.size, P.globals.size, wd, hgo⟩
  obtain ⟨_, _, hcalls⟩ := callP_ok hm (Nat.le_refl _) kp hx n m w f args xs h nx (fun _ => False) _ _ _ (fun _ q => q.elim) hc (EnvIn.nil _ _ hg hw) s.rel s.sim
  refine hcalls.mono ?_
  rintro e w' ⟨m', x, rfl, hx, ha⟩
  simp only [Rel] at hx
  exact ⟨by rw [hx], ha.below.old⟩

/-! ### makes that laws have -/
/-- A slice of whole numbers. -/
theorem Ty.intsB {k : IntKind} {vs : List AV} (t : Ty h nx (.sl (.int k)) vs) : ∃ a l, vs = [.slice a (List.length l) none] ∧ (∀ n ∈ l, (Lit.int k n).wf = true) ∧ Sl h nx a l.length 1 (l.map (AV.int k)) ∧ List.length l ≤ 140737488351232 := by
  simp only [Ty] at t
  obtain ⟨a, c, rfl, q, s, hb⟩ := t
  obtain ⟨l, hl, hw, hf⟩ : ∃ l : List Int, l.length = c.length ∧ (∀ n ∈ l, (Lit.int k n).wf = true) ∧ c.flatten = l.map (AV.int k) := by
    clear s hb
    induction c with
    | nil => exact ⟨[], rfl, fun _ h => (by cases h), rfl⟩
    | cons v c ih =>
      obtain ⟨l, h1, h2, h3⟩ := ih (fun v hv => q v (List.mem_cons_of_mem _ hv))
      obtain ⟨n, rfl, hn⟩ := q v List.mem_cons_self
      refine ⟨n :: l, by simp [h1], fun i hi => ?_, by simp [h3]⟩
      cases hi with
      | head => exact hn
      | tail _ hi => exact h2 i hi
  rw [hf] at s
  simp only [Sh.n] at s
  rw [← hl] at s hb ⊢
  exact ⟨a, l, rfl, hw, s, hb⟩
theorem Ty.ints {k : IntKind} {vs : List AV} (t : Ty h nx (.sl (.int k)) vs) : ∃ a l, vs = [.slice a (List.length l) none] ∧ (∀ n ∈ l, (Lit.int k n).wf = true) ∧ Sl h nx a l.length 1 (l.map (AV.int k)) := by
  obtain ⟨a, l, e, w, s, _⟩ := t.intsB
  exact ⟨a, l, e, w, s⟩

/-- A slice of anything. -/
theorem Ty.rows {e : Sh} {vs : List AV} (t : Ty h nx (.sl e) vs) : ∃ a c, vs = [.slice a (List.length c) none] ∧ (∀ v ∈ c, Ty h nx e v) ∧ Sl h nx a (List.length c) e.n c.flatten := by
  simp only [Ty] at t
  obtain ⟨a, c, e, q, s, _⟩ := t
  exact ⟨a, c, e, q, s⟩
theorem Ty.rowsB {e : Sh} {vs : List AV} (t : Ty h nx (.sl e) vs) : ∃ a c, vs = [.slice a (List.length c) none] ∧ (∀ v ∈ c, Ty h nx e v) ∧ Sl h nx a (List.length c) e.n c.flatten ∧ List.length c ≤ 140737488351232 := by
  simpa only [Ty] using t

end Go.Proofs.YtahilinkfnchaaaDoor.T
