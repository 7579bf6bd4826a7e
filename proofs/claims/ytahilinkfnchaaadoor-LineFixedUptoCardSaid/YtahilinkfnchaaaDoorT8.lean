/- The abstract machine: operations, regions, code, calls; and that memory follows it. Nothing of a program. -/
import Derived.Test.YtahilinkfnchaaaDoorTN
set_option linter.unusedVariables false
set_option linter.unusedSimpArgs false
namespace Go.Proofs.YtahilinkfnchaaaDoor.T
open Go Go.RowKit

/-! ### operands -/
def constS : Value → AV
  | .bool b => .bool b
  | .int k n => .int k n
  | .string s => .str s
  | .pointer none => .ptr none
  | .slice none 0 0 => .slice none 0 none
  | .nilFunc => .nilFn
  | .nilIface => .nilIface
  | .map none => .mapv none
  | _ => .bad
def constA : Value → AV
  | .agg cs => .agg (cs.toList.map constS)
  | .tuple cs => if cs.toList.isEmpty = true then .tuple [] else .bad
  | v => constS v

theorem constS_rel (m : PMap) (v : Value) : Rel m (constS v) v := by
  unfold constS
  split <;> simp [Rel]
theorem constL_rel (m : PMap) : ∀ vs : List Value, RelL m (vs.map constS) vs
  | [] => by simp [RelL]
  | v :: vs => by simp only [List.map_cons, RelL]; exact ⟨v, vs, rfl, constS_rel m v, constL_rel m vs⟩
theorem constA_rel (m : PMap) (v : Value) : Rel m (constA v) v := by
  cases v with
  | agg cs => simp only [constA, Rel]; exact ⟨cs.toList, rfl, constL_rel m _⟩
  | tuple cs =>
    simp only [constA]
    split
    · rename_i c
      simp only [Rel]
      refine ⟨[], ?_, by simp [RelL]⟩
      congr 1
      exact Array.ext' (by simpa using c)
    · simp only [Rel]
  | _ => simp only [constA]; exact constS_rel m _

/-- A frame: how many slots, what is in them (bad: not known). -/
structure Fr where
  nt : Nat
  f : Nat → AV
  gk : Nat
def mkL : List (Nat × AV) → Nat → AV
  | [], _ => .bad
  | p :: l, t => bif Nat.beq t p.1 then p.2 else mkL l t
/-- Forget all slots but these. -/
def cutF (ks : Option (List Nat)) (fr : Fr) : Fr :=
  match ks with
  | none => fr
  | some ks => ⟨fr.nt, mkL (ks.map fun t => (t, fr.f t)), fr.gk⟩

def evalA (fr : Fr) : Operand → AV
  | .tmp t => fr.f t
  | .const v => constA v
  | .global g => bif Nat.blt g fr.gk then .ptr (some (g, 0)) else .bad
  | .func f => .fn f [] []

/-- Package variables lie where the model lays them. -/
def GlobIn (m : PMap) (k : Nat) : Prop := ∀ g, g < k → ∃ p, m g = some p ∧ p.blk = g ∧ p.base = 0
theorem GlobIn.le {m m' : PMap} {k : Nat} (h : GlobIn m k) (l : m.le m') : GlobIn m' k := fun g hg => by
  obtain ⟨p, h1, h2⟩ := h g hg
  exact ⟨p, l _ _ h1, h2⟩
/-- A frame against an activation. -/
def FR (m : PMap) (fr : Fr) (a : Act) : Prop := (fr.nt = a.tmps.size ∧ ∀ t, Rel m (fr.f t) (a.tmps.getD t undef)) ∧ GlobIn m fr.gk

theorem undef_rel (m : PMap) : Rel m AV.undef undef := by simp only [AV.undef, Rel]; exact ⟨[], rfl, by simp [RelL]⟩

theorem evalA_rel {m : PMap} {fr : Fr} {a : Act} (hf : FR m fr a) (x : Operand) : Rel m (evalA fr x) (a.eval x) := by
  cases x with
  | tmp t => exact hf.1.2 t
  | const v => exact constA_rel m v
  | global g =>
    simp only [evalA, Act.eval]
    cases c : Nat.blt g fr.gk with
    | true =>
      obtain ⟨p, h1, h2, h3⟩ := hf.2 g (by simpa [Nat.blt_eq] using c)
      simp only [cond_true, Rel]
      exact ⟨p, h1, by rw [h2, h3]⟩
    | false => simp only [cond_false, Rel]
  | func f => simp only [evalA, Act.eval, Rel]; exact ⟨[], [], rfl, by simp [RelL], by simp [RelL]⟩

theorem FR.le {m m' : PMap} {fr : Fr} {a : Act} (hf : FR m fr a) (h : m.le m') : FR m' fr a := ⟨⟨hf.1.1, fun t => Rel.le h (hf.1.2 t)⟩, hf.2.le h⟩

def putF (fr : Fr) (d : Nat) (v : AV) : Fr := ⟨fr.nt, fun t => bif Nat.beq t d then v else fr.f t, fr.gk⟩
def putA (fr : Fr) (dst : Option Tmp) (v : AV) : Fr :=
  match dst with
  | some d => bif Nat.blt d fr.nt then putF fr d v else fr
  | none => fr

theorem putF_self {fr : Fr} {d : Nat} {v : AV} (h : fr.f d = v) : putF fr d v = fr := by
  unfold putF
  have : (fun t => bif Nat.beq t d then v else fr.f t) = fr.f := by
    funext t
    cases e : Nat.beq t d with
    | true => rw [Nat.eq_of_beq_eq_true e, h]; rfl
    | false => rfl
  rw [this]

theorem FR.put {m : PMap} {fr : Fr} {a : Act} (hf : FR m fr a) (dst : Option Tmp) {v : AV} {x : Value} (hr : Rel m v x) : FR m (putA fr dst v) (a.put dst x) := by
  cases dst with
  | none => exact hf
  | some d =>
    cases c : Nat.blt d fr.nt with
    | true =>
      simp only [putA, c, cond_true]
      refine ⟨⟨by simp only [putF, Act.put, Array.size_setIfInBounds]; exact hf.1.1, fun t => ?_⟩, hf.2⟩
      simp only [putF, Act.put]
      have hlt : d < a.tmps.size := by rw [← hf.1.1]; exact Nat.lt_of_succ_le (Nat.le_of_ble_eq_true c)
      cases e : Nat.beq t d with
      | true =>
        obtain rfl := Nat.eq_of_beq_eq_true e
        simp only [cond_true]
        rw [Array.getD_eq_getD_getElem?, Array.getElem?_setIfInBounds_self_of_lt hlt]; exact hr
      | false =>
        have hne : d ≠ t := fun q => by subst q; simp at e
        simp only [cond_false]
        rw [Array.getD_eq_getD_getElem?, Array.getElem?_setIfInBounds_ne hne, ← Array.getD_eq_getD_getElem?]; exact hf.1.2 t
    | false =>
      simp only [putA, c, cond_false]
      have hge : a.tmps.size ≤ d := by
        rw [← hf.1.1]
        apply Nat.le_of_not_lt; intro q
        have := Nat.ble_eq_true_of_le (Nat.succ_le_of_lt q)
        unfold Nat.blt at c
        rw [this] at c; cases c
      have : a.put (some d) x = a := by
        simp only [Act.put]
        rw [Array.setIfInBounds_eq_of_size_le hge]
      rw [this]; exact hf

theorem mkL_rel {m : PMap} {f : Nat → AV} {x : Value} {t : Nat} (h : Rel m (f t) x) : ∀ ks : List Nat, Rel m (mkL (ks.map fun t => (t, f t)) t) x
  | [] => by simp only [List.map_nil, mkL, Rel]
  | k :: ks => by
    simp only [List.map_cons, mkL]
    cases e : Nat.beq t k with
    | true => rw [← Nat.eq_of_beq_eq_true e]; exact h
    | false => exact mkL_rel h ks

theorem FR.cut {m : PMap} {fr : Fr} {a : Act} (hf : FR m fr a) (ks : Option (List Nat)) : FR m (cutF ks fr) a := by
  cases ks with
  | none => exact hf
  | some ks => exact ⟨⟨hf.1.1, fun t => mkL_rel (hf.1.2 t) ks⟩, hf.2⟩

theorem evalL_rel {m : PMap} {fr : Fr} {a : Act} (hf : FR m fr a) : ∀ xs : List Operand, RelL m (xs.map (evalA fr)) (xs.map a.eval)
  | [] => by simp [RelL]
  | x :: xs => by simp only [List.map_cons, RelL]; exact ⟨_, _, rfl, evalA_rel hf x, evalL_rel hf xs⟩
theorem evalP_rel {m : PMap} {fr : Fr} {a : Act} (hf : FR m fr a) : ∀ xs : List (Nat × Operand), PRel m (xs.map fun p => (p.1, evalA fr p.2)) (xs.map fun p => (p.1, a.eval p.2))
  | [] => by simp [PRel]
  | x :: xs => by simp only [List.map_cons, PRel]; exact ⟨_, _, rfl, evalA_rel hf x.2, evalP_rel hf xs⟩
theorem evalO_rel {m : PMap} {fr : Fr} {a : Act} (hf : FR m fr a) (x : Option Operand) : ORel m (x.map (evalA fr)) (x.map a.eval) := by
  cases x with
  | none => trivial
  | some x => exact evalA_rel hf x

/-! ### operations -/
variable {R : Type}

def pickA (t : Bool) (a b : AV) : AV :=
  match a, b with
  | .bool x, .bool y => .bool (if t = true then x else y)
  | a, b => if t = true then a else b
theorem pickA_eq (t : Bool) (a b : AV) : pickA t a b = if t = true then a else b := by
  unfold pickA; split <;> cases t <;> rfl

def builtinK (T : Types) (b : Builtin) (ts : List TypeId) (args : List AV) (id : Nat) (h : AHeap) (K : Eff → Option R) : Option R :=
  match b, ts, args with
  | .len, [t], [x] => lenM T t x h K
  | .delete, [t, _], [x, k] => delA T t x k h K
  | .append, [t, tx], [s, x] => appendA T t tx s x id h K
  | .copy, [t, _], [d, x] => copyA T t d x h K
  | .clear, [t], [x] => clearA T t x h K
  | .min, _, x :: r => (mostA true x r).bind fun v => K ⟨v, [], []⟩
  | .max, _, x :: r => (mostA false x r).bind fun v => K ⟨v, [], []⟩
  | _, _, _ => none

noncomputable def opK (T : Types) (fr : Fr) (op : Op) (id : Nat) (h : AHeap) (K : Eff → Option R) : Option R :=
  match op with
  | .move x => K ⟨evalA fr x, [], []⟩
  | .assign x => K ⟨evalA fr x, [], []⟩
  | .pick c a b => (match evalA fr c with
    | .bool t => K ⟨pickA t (evalA fr a) (evalA fr b), [], []⟩
    | _ => none)
  | .load t a => loadA T t (evalA fr a) h K
  | .store t a v => storeA T t (evalA fr a) (evalA fr v) h K
  | .alloc t => allocA T t id K
  | .box t v => boxV T t (evalA fr v) id K
  | .build t ps => buildA T t (ps.toList.map fun p => (p.1, evalA fr p.2)) K
  | .buildSlice t n ps => buildSliceA T t n (ps.toList.map fun p => (p.1, evalA fr p.2)) id K
  | .fieldAddr t x f => fieldAddrA T t (evalA fr x) f K
  | .field t x f => fieldA T t (evalA fr x) f K
  | .indexAddr t x i => indexAddrA T t (evalA fr x) (evalA fr i) K
  | .index t x i => indexA T t (evalA fr x) (evalA fr i) K
  | .slice t x lo hi mx => sliceA T t (evalA fr x) (lo.map (evalA fr)) (hi.map (evalA fr)) (mx.map (evalA fr)) h K
  | .makeSlice t l c => makeA T t (evalA fr l) (evalA fr c) id K
  | .binOp op t x y _ => binN T t op y (evalA fr x) (evalA fr y) fun v => K ⟨v, [], []⟩
  | .unOp op _ x => unA op (evalA fr x) fun v => K ⟨v, [], []⟩
  | .convert s d x => convertA T s d (evalA fr x) id K
  | .extract t i => extractA (evalA fr t) i K
  | .lookup t x k ok => lookupA T t (evalA fr x) (evalA fr k) ok h K
  | .mapUpdate t x k v => mapUpdA T t (evalA fr x) (evalA fr k) (evalA fr v) h K
  | .makeMap t r => makeMapA T t (r.map (evalA fr)) id K
  | .range t x => rangeA T t (evalA fr x) id K
  | .next x b => nextA (evalA fr x) b h K
  | .makeInterface t x => (T t).bind fun ti => if isIfaceD ti.desc = true then none else K ⟨.iface t (evalA fr x), [], []⟩
  | .makeFunc fn first caps => (match fn with
    | .func f => K ⟨.fn f (first.toList.map (evalA fr)) (caps.toList.map (evalA fr)), [], []⟩
    | _ => none)
  | .nilCheck x => (match evalA fr x with
    | .ptr a => a.bind fun a => K ⟨.ptr (some a), [], []⟩
    | .fn f a b => K ⟨.fn f a b, [], []⟩
    | _ => none)
  | .call { callee := .builtin b, args, argTypes } => builtinK T b argTypes.toList (args.toList.map (evalA fr)) id h K
  | _ => none

/-- What an operation does to memory, against an effect. -/
def DoesOp (P : Program) (N : Nat) (m : PMap) (h : AHeap) (fr : Nat → Prop) (w : World) (id : Nat) (e : Eff) (s : Sem Next) : Prop :=
  ∃ nx x w' m', s.run P w = .ok nx w' ∧ (nx = .value x ∨ (nx = .skip ∧ x = undef)) ∧ Rel m' e.v x ∧ Sim N m' (h.puts e.sets) (fun j => fr j ∧ j ≠ id) w' ∧ m.le m' ∧ Below N w w'

variable {P : Program} {T : Types} {N : Nat} {m : PMap} {h : AHeap} {fs : Nat → Prop} {w : World}

theorem does_op {id : Nat} {e : Eff} {s : Sem Value} (hd : Does P N m h fs w id e s) {q : Sem Next} (hq : q = (do pure (Next.value (← s)) : Sem Next)) : DoesOp P N m h fs w id e q := by
  obtain ⟨x, w', m', hr, hx, hs, hl, hb⟩ := hd
  subst hq
  exact ⟨.value x, x, w', m', by simp [hr], .inl rfl, hx, hs, hl, hb⟩
theorem doesU_op {id : Nat} {e : Eff} {s : Sem Unit} (hd : DoesU P N m h fs w id e s) {q : Sem Next} (hq : q = (do s; pure Next.skip : Sem Next)) : DoesOp P N m h fs w id e q := by
  obtain ⟨he, w', m', hr, hs, hl, hb⟩ := hd
  subst hq
  refine ⟨.skip, undef, w', m', by simp [hr], .inr ⟨rfl, rfl⟩, by rw [he]; exact undef_rel m', hs, hl, hb⟩

theorem opK_sim (ht : TOk P T) (s : Sim N m h fs w) {id : Nat} (hid : fs id) {fr : Fr} {a : Act} (hf : FR m fr a) {o : Oper} {K : Eff → Option R} {r : R} (hh : opK T fr o.op id h K = some r) :
    ∃ e, K e = some r ∧ DoesOp P N m h fs w id e (execOp a.eval o) := by
  have E := evalA_rel hf
  unfold opK at hh
  unfold execOp
  split at hh
  · rename_i x eo
    rw [eo]
    exact ⟨_, hh, does_op (Does.pure s (q := pure (a.eval x)) rfl (E x)) rfl⟩
  · rename_i x eo
    rw [eo]
    exact ⟨_, hh, does_op (Does.pure s (q := pure (a.eval x)) rfl (E x)) rfl⟩
  · rename_i c x y eo
    rw [eo]
    split at hh
    · rename_i t et
      have hc := E c
      rw [et] at hc
      simp only [Rel] at hc
      refine ⟨_, hh, does_op (Does.pure s (q := do pure (if ← asBool (a.eval c) then a.eval x else a.eval y)) (x := if t = true then a.eval x else a.eval y) (by rw [hc]; rfl) (by rw [pickA_eq]; cases t; exact E y; exact E x)) ?_⟩
      simp
    · cases hh
  · rename_i t x eo
    rw [eo]
    obtain ⟨e, he, d⟩ := loadA_sim ht s id (E x) hh
    exact ⟨e, he, does_op d rfl⟩
  · rename_i t x v eo
    rw [eo]
    obtain ⟨e, he, d⟩ := storeA_sim ht s id (E x) (E v) hh
    exact ⟨e, he, doesU_op d rfl⟩
  · rename_i t eo
    rw [eo]
    obtain ⟨e, he, d⟩ := allocA_sim ht s hid hh
    exact ⟨e, he, does_op d rfl⟩
  · rename_i t v eo
    rw [eo]
    obtain ⟨e, he, d⟩ := boxV_sim ht s hid (E v) hh
    exact ⟨e, he, does_op d rfl⟩
  · rename_i t ps eo
    rw [eo]
    obtain ⟨e, he, d⟩ := buildA_sim ht s id (ps := ps.map fun p => (p.1, a.eval p.2)) (by rw [Array.toList_map]; exact evalP_rel hf _) hh
    exact ⟨e, he, does_op d rfl⟩
  · rename_i t n ps eo
    rw [eo]
    obtain ⟨e, he, d⟩ := buildSliceA_sim ht s hid (ps := ps.map fun p => (p.1, a.eval p.2)) (by rw [Array.toList_map]; exact evalP_rel hf _) hh
    exact ⟨e, he, does_op d rfl⟩
  · rename_i t x f eo
    rw [eo]
    obtain ⟨e, he, d⟩ := fieldAddrA_sim ht s id (E x) hh
    exact ⟨e, he, does_op d rfl⟩
  · rename_i t x f eo
    rw [eo]
    obtain ⟨e, he, d⟩ := fieldA_sim ht s id (E x) hh
    exact ⟨e, he, does_op d rfl⟩
  · rename_i t x i eo
    rw [eo]
    obtain ⟨e, he, d⟩ := indexAddrA_sim ht s id (E x) (E i) hh
    exact ⟨e, he, does_op d rfl⟩
  · rename_i t x i eo
    rw [eo]
    obtain ⟨e, he, d⟩ := indexA_sim ht s id (E x) (E i) hh
    exact ⟨e, he, does_op d rfl⟩
  · rename_i t x lo hi mx eo
    rw [eo]
    obtain ⟨e, he, d⟩ := sliceA_sim ht s id (E x) (evalO_rel hf lo) (evalO_rel hf hi) (evalO_rel hf mx) hh
    exact ⟨e, he, does_op d rfl⟩
  · rename_i t l c eo
    rw [eo]
    obtain ⟨e, he, d⟩ := makeA_sim ht s hid (E l) (E c) hh
    exact ⟨e, he, does_op d rfl⟩
  · rename_i op t x y yt eo
    rw [eo]
    obtain ⟨v, hv, x', hr, hrel⟩ := binN_sim (P := P) (w := w) (xo := x) (yo := y) ht (E x) (E y) (fun c => by cases y <;> simp [isNilC] at c; rename_i v; cases v <;> simp at c; rfl) hh
    exact ⟨_, hv, does_op (Does.pure s hr (hrel m)) rfl⟩
  · rename_i op t x eo
    rw [eo]
    obtain ⟨v, hv, x', hr, hrel⟩ := unA_sim (P := P) (w := w) (E x) hh
    exact ⟨_, hv, does_op (Does.pure s hr (hrel m)) rfl⟩
  · rename_i sr d x eo
    rw [eo]
    obtain ⟨e, he, d⟩ := convertA_sim ht s hid (E x) hh
    exact ⟨e, he, does_op d rfl⟩
  · rename_i t i eo
    rw [eo]
    obtain ⟨e, he, d⟩ := extractA_sim s id (E t) hh
    exact ⟨e, he, does_op d rfl⟩
  · rename_i t x k ok eo
    rw [eo]
    obtain ⟨e, he, d⟩ := lookupA_sim ht s id (E x) (E k) hh
    exact ⟨e, he, does_op d rfl⟩
  · rename_i t x k v eo
    rw [eo]
    obtain ⟨e, he, d⟩ := mapUpdA_sim ht s id (E x) (E k) (E v) hh
    exact ⟨e, he, doesU_op d rfl⟩
  · rename_i t r eo
    rw [eo]
    obtain ⟨e, he, d⟩ := makeMapA_sim ht s hid (evalO_rel hf r) hh
    exact ⟨e, he, does_op d rfl⟩
  · rename_i t x eo
    rw [eo]
    obtain ⟨e, he, d⟩ := rangeA_sim ht s hid (E x) hh
    exact ⟨e, he, does_op d rfl⟩
  · rename_i x b eo
    rw [eo]
    obtain ⟨e, he, d⟩ := nextA_sim (ty := o.type) s id (E x) hh
    exact ⟨e, he, does_op d rfl⟩
  · rename_i t x eo
    rw [eo]
    obtain ⟨ti, et, hh⟩ := Option.bind_eq_some_iff.1 hh
    split at hh
    · cases hh
    rename_i hi
    obtain ⟨i, z, h1, _⟩ := ht.ok t ti et
    refine ⟨_, hh, does_op (Does.pure s (q := Instr.makeInterface t (a.eval x)) (x := .iface t (a.eval x)) ?_ ?_) rfl⟩
    · unfold Instr.makeInterface
      simp only [Sem.run_bind, run_underlying h1, Result.andThen_ok]
      cases hd : ti.desc <;> first | rfl | (rw [hd] at hi; simp [isIfaceD] at hi)
    · simp only [Rel]; exact ⟨_, rfl, E x⟩
  · rename_i fn first caps eo
    rw [eo]
    split at hh
    · rename_i f
      refine ⟨_, hh, does_op (Does.pure s (q := Instr.makeFunc (.func f) (first.map a.eval) (caps.map a.eval)) rfl ?_) rfl⟩
      simp only [Rel]
      exact ⟨first.toList.map a.eval, caps.toList.map a.eval, by congr 1 <;> (apply Array.ext'; simp), evalL_rel hf _, evalL_rel hf _⟩
    · cases hh
  · rename_i x eo
    rw [eo]
    have hx := E x
    split at hh
    · rename_i p ep
      obtain ⟨p, rfl, hh⟩ := Option.bind_eq_some_iff.1 hh
      rw [ep] at hx
      simp only [Rel] at hx
      obtain ⟨pl, hp, ex⟩ := hx
      refine ⟨_, hh, does_op (Does.pure s (q := pure (a.eval x)) rfl ?_) ?_⟩
      · simp only [Rel]; exact ⟨pl, hp, ex⟩
      · simp only [ex]; rfl
    · rename_i f u v ep
      rw [ep] at hx
      simp only [Rel] at hx
      obtain ⟨us, vs, ex, q⟩ := hx
      refine ⟨_, hh, does_op (Does.pure s (q := pure (a.eval x)) rfl ?_) ?_⟩
      · simp only [Rel]; exact ⟨us, vs, ex, q⟩
      · simp only [ex]; rfl
    · cases hh
  · rename_i b args ts eo
    rw [eo]
    simp only [resolve]
    unfold builtinK at hh
    have hargs := evalL_rel hf args.toList
    split at hh
    · rename_i t x e1 e2
      have ea : (args.map a.eval).toList = args.toList.map a.eval := by simp
      generalize hx : args.map a.eval = X at *
      rw [e2] at hargs
      simp only [RelL] at hargs
      obtain ⟨y, q, e3, hr, rfl⟩ := hargs
      rw [← ea] at e3
      have eX : X = #[y] := Array.ext' e3
      obtain ⟨e, he, d⟩ := lenM_sim ht s id (ty := o.type) (ts := ts) (by rw [← Array.getElem?_toList, e1]; rfl) hr hh
      refine ⟨e, he, ?_⟩
      obtain ⟨x1, w', m', hrun, rest⟩ := d
      exact ⟨.value x1, x1, w', m', by simp [invoke, builtin, eX, hrun], .inl rfl, rest⟩
    · rename_i t tk x kk e1 e2
      have ea : (args.map a.eval).toList = args.toList.map a.eval := by simp
      generalize hx : args.map a.eval = X at *
      rw [e2] at hargs
      simp only [RelL] at hargs
      obtain ⟨y, q, e3, hr, y2, q2, rfl, hr2, rfl⟩ := hargs
      rw [← ea] at e3
      have eX : X = #[y, y2] := Array.ext' e3
      obtain ⟨e, he, d⟩ := delA_sim ht s id (ty := o.type) (ts := ts) (by rw [← Array.getElem?_toList, e1]; rfl) hr hr2 hh
      refine ⟨e, he, ?_⟩
      obtain ⟨x1, w', m', hrun, rest⟩ := d
      exact ⟨.value x1, x1, w', m', by simp [invoke, builtin, eX, hrun], .inl rfl, rest⟩
    · rename_i t tx sx x e1 e2
      have ea : (args.map a.eval).toList = args.toList.map a.eval := by simp
      generalize hx : args.map a.eval = X at *
      rw [e2] at hargs
      simp only [RelL] at hargs
      obtain ⟨y, q, e3, hr, y2, q2, rfl, hr2, rfl⟩ := hargs
      rw [← ea] at e3
      have eX : X = #[y, y2] := Array.ext' e3
      have eT : ts = #[t, tx] := Array.ext' e1
      obtain ⟨e, he, d⟩ := appendA_sim ht s hid (ty := o.type) hr hr2 hh
      refine ⟨e, he, ?_⟩
      obtain ⟨x1, w', m', hrun, rest⟩ := d
      exact ⟨.value x1, x1, w', m', by simp [invoke, builtin, eX, eT, hrun], .inl rfl, rest⟩
    · rename_i t tx d x e1 e2
      have ea : (args.map a.eval).toList = args.toList.map a.eval := by simp
      generalize hx : args.map a.eval = X at *
      rw [e2] at hargs
      simp only [RelL] at hargs
      obtain ⟨y, q, e3, hr, y2, q2, rfl, hr2, rfl⟩ := hargs
      rw [← ea] at e3
      have eX : X = #[y, y2] := Array.ext' e3
      have eT : ts = #[t, tx] := Array.ext' e1
      obtain ⟨e, he, d⟩ := copyA_sim ht s id (tx := tx) (ty := o.type) hr hr2 hh
      refine ⟨e, he, ?_⟩
      obtain ⟨x1, w', m', hrun, rest⟩ := d
      exact ⟨.value x1, x1, w', m', by simp [invoke, builtin, eX, eT, hrun], .inl rfl, rest⟩
    · rename_i t x e1 e2
      have ea : (args.map a.eval).toList = args.toList.map a.eval := by simp
      generalize hx : args.map a.eval = X at *
      rw [e2] at hargs
      simp only [RelL] at hargs
      obtain ⟨y, q, e3, hr, rfl⟩ := hargs
      rw [← ea] at e3
      have eX : X = #[y] := Array.ext' e3
      have eT : ts = #[t] := Array.ext' e1
      obtain ⟨e, he, d⟩ := clearA_sim ht s id (ty := o.type) hr hh
      refine ⟨e, he, ?_⟩
      obtain ⟨x1, w', m', hrun, rest⟩ := d
      exact ⟨.value x1, x1, w', m', by simp [invoke, builtin, eX, eT, hrun], .inl rfl, rest⟩
    · rename_i x rest e2
      cases hm : mostA true x rest with
      | none => rw [hm] at hh; cases hh
      | some v =>
        rw [hm] at hh; simp only [Option.bind_some] at hh
        have ea : (args.map a.eval).toList = args.toList.map a.eval := by simp
        generalize hx : args.map a.eval = X at *
        rw [e2] at hargs
        simp only [RelL] at hargs
        obtain ⟨y, q, e3, hr, hq⟩ := hargs
        rw [← ea] at e3
        obtain ⟨z, hz, hrz⟩ := mostA_min (P := P) (w := w) rest x q y v hq hr hm
        refine ⟨_, hh, ?_⟩
        obtain ⟨x1, w', m', hrun, rest⟩ := Does.pure (id := id) (rd := []) s hz hrz
        exact ⟨.value x1, x1, w', m', by simp [invoke, builtin, Builtin.min_, e3, hrun], .inl rfl, rest⟩
    · rename_i x rest e2
      cases hm : mostA false x rest with
      | none => rw [hm] at hh; cases hh
      | some v =>
        rw [hm] at hh; simp only [Option.bind_some] at hh
        have ea : (args.map a.eval).toList = args.toList.map a.eval := by simp
        generalize hx : args.map a.eval = X at *
        rw [e2] at hargs
        simp only [RelL] at hargs
        obtain ⟨y, q, e3, hr, hq⟩ := hargs
        rw [← ea] at e3
        obtain ⟨z, hz, hrz⟩ := mostA_max (P := P) (w := w) rest x q y v hq hr hm
        refine ⟨_, hh, ?_⟩
        obtain ⟨x1, w', m', hrun, rest⟩ := Does.pure (id := id) (rd := []) s hz hrz
        exact ⟨.value x1, x1, w', m', by simp [invoke, builtin, Builtin.max_, e3, hrun], .inl rfl, rest⟩
    · cases hh
  · cases hh

end Go.Proofs.YtahilinkfnchaaaDoor.T
