/- The abstract machine: regions, code, calls; and that memory follows it. Nothing of a program. -/
import Derived.Test.YtahilinkfnchaaaDoorT8
import Derived.OrdersIn
import Derived.RangeFuncLeaves
import Derived.Sort.Defs
import Derived.Lib.BitFns
import Derived.Lib.ItoaNum
import Derived.Lib.Join
import Derived.Lib.Split
import Derived.Lib.AtoiAll
import Derived.Lib.Bytealg
set_option linter.unusedVariables false
set_option linter.unusedSimpArgs false
namespace Go.Proofs.YtahilinkfnchaaaDoor.T
open Go Go.RowKit

variable {R : Type}

/-! ### what a value of a type looks like: for the reader of a load or a result alone -/
def asI (k : IntKind) : AV → Option Int
  | .int k' n => if k' = k then some n else none
  | _ => none
def asB : AV → Option Bool
  | .bool b => some b
  | _ => none
def asStr : AV → Option ByteArray
  | .str s => some s
  | _ => none
def asP : AV → Option (Option (Nat × Nat))
  | .ptr a => some a
  | _ => none
def asSl : AV → Option (Option (Nat × Nat) × Nat × Option Nat)
  | .slice a n c => some (a, n, c)
  | _ => none
def asAgg (n : Nat) : AV → Option (List AV)
  | .agg cs => if cs.length = n then some cs else none
  | _ => none
def asRow : AV → Option (List AV)
  | .agg cs => some cs
  | _ => none
def asMp : AV → Option (Option Nat)
  | .mapv r => some r
  | _ => none
def asFn : AV → Option (Nat × List AV × List AV)
  | .fn f us vs => some (f, us, vs)
  | _ => none
theorem asFn_eq {v : AV} {q : Nat × List AV × List AV} (h : asFn v = some q) : v = .fn q.1 q.2.1 q.2.2 := by
  cases v <;> simp only [asFn] at h <;> first | (obtain rfl := Option.some.inj h; rfl) | cases h
/-- Who is called: a function, or a loop's round. -/
inductive Cal where
  | fn (f : Nat)
  | yld (l : Nat)
def asCal : AV → Option (Cal × List AV × List AV)
  | .fn f us vs => some (.fn f, us, vs)
  | .yld l => some (.yld l, [], [])
  | _ => none
def asTup (n : Nat) : AV → Option (List AV)
  | .tuple cs => if cs.length = n then some cs else none
  | _ => none

/-- A cell's look. -/
inductive FK where
  | int (k : IntKind)
  | bool
  | str
  | ptr
  | sl
  | mp
  | any

def norm1 (k : FK) (v : AV) (K : AV → Option R) : Option R :=
  match k with
  | .int k => (asI k v).bind fun n => K (.int k n)
  | .bool => (asB v).bind fun b => K (.bool b)
  | .str => (asStr v).bind fun s => K (.str s)
  | .ptr => (asP v).bind fun p => K (.ptr p)
  | .sl => (asSl v).bind fun s => K (.slice s.1 s.2.1 s.2.2)
  | .mp => (asMp v).bind fun r => K (.mapv r)
  | .any => K v
def normL : List FK → List AV → Nat → (List AV → Option R) → Option R
  | [], _, _, K => K []
  | k :: ks, cs, i, K => norm1 k (cs.getD i .bad) fun v => normL ks cs (i + 1) fun vs => K (v :: vs)

/-- Looks: of a scalar, of a struct's cells, of a tuple's parts. -/
inductive Look where
  | one (k : FK)
  | agg (ks : List FK)
  | tup (ls : List Look)
  | row

def norm0 (l : Look) (v : AV) (K : AV → Option R) : Option R :=
  match l with
  | .one k => norm1 k v K
  | .agg ks => (asAgg ks.length v).bind fun cs => normL ks cs 0 fun vs => K (.agg vs)
  | .tup _ => K v
  | .row => (asRow v).bind fun cs => K (.agg cs)
def normT : List Look → List AV → Nat → (List AV → Option R) → Option R
  | [], _, _, K => K []
  | l :: ls, cs, i, K => norm0 l (cs.getD i .bad) fun v => normT ls cs (i + 1) fun vs => K (v :: vs)
def norm (l : Look) (v : AV) (K : AV → Option R) : Option R :=
  match l with
  | .tup ls => (asTup ls.length v).bind fun cs => normT ls cs 0 fun vs => K (.tuple vs)
  | l => norm0 l v K

theorem norm1_eq {k : FK} {v : AV} {K : AV → Option R} {r : R} (h : norm1 k v K = some r) : K v = some r := by
  unfold norm1 at h
  split at h
  · rename_i k
    cases e : asI k v with
    | none => rw [e] at h; cases h
    | some n =>
      rw [e] at h
      cases v <;> simp only [asI] at e <;> try (cases e; done)
      split at e
      · rename_i c; subst c; obtain rfl := Option.some.inj e; exact h
      · cases e
  · cases v <;> simp only [asB] at h <;> first | exact h | cases h
  · cases v <;> simp only [asStr] at h <;> first | exact h | cases h
  · cases v <;> simp only [asP] at h <;> first | exact h | cases h
  · cases v <;> simp only [asSl] at h <;> first | exact h | cases h
  · cases v <;> simp only [asMp] at h <;> first | exact h | cases h
  · exact h

theorem normL_eq : ∀ {ks : List FK} {cs : List AV} {i : Nat} {K : List AV → Option R} {r : R}, i + ks.length = cs.length → normL ks cs i K = some r → K (cs.drop i) = some r
  | [], cs, i, K, r, hl, h => by
    simp only [normL] at h
    rw [List.drop_of_length_le (by simp at hl; omega)]; exact h
  | k :: ks, cs, i, K, r, hl, h => by
    simp only [normL] at h
    have h2 := normL_eq (by simp at hl ⊢; omega) (norm1_eq h)
    simp only [List.length_cons] at hl
    rw [List.drop_eq_getElem_cons (by omega)]
    rw [List.getD_eq_getElem?_getD, List.getElem?_eq_getElem (by omega)] at h2
    exact h2

theorem norm0_eq {l : Look} {v : AV} {K : AV → Option R} {r : R} (h : norm0 l v K = some r) : K v = some r := by
  unfold norm0 at h
  split at h
  · exact norm1_eq h
  · rename_i ks
    cases e : asAgg ks.length v with
    | none => rw [e] at h; cases h
    | some cs =>
      rw [e] at h
      cases v <;> simp only [asAgg] at e <;> try (cases e; done)
      split at e
      · rename_i c; obtain rfl := Option.some.inj e
        have := normL_eq (by omega) h
        rwa [List.drop_zero] at this
      · cases e
  · exact h
  · cases v <;> simp only [asRow] at h <;> first | exact h | cases h

theorem normT_eq : ∀ {ks : List Look} {cs : List AV} {i : Nat} {K : List AV → Option R} {r : R}, i + ks.length = cs.length → normT ks cs i K = some r → K (cs.drop i) = some r
  | [], cs, i, K, r, hl, h => by
    simp only [normT] at h
    rw [List.drop_of_length_le (by simp at hl; omega)]; exact h
  | k :: ks, cs, i, K, r, hl, h => by
    simp only [normT] at h
    have h2 := normT_eq (by simp at hl ⊢; omega) (norm0_eq h)
    simp only [List.length_cons] at hl
    rw [List.drop_eq_getElem_cons (by omega)]
    rw [List.getD_eq_getElem?_getD, List.getElem?_eq_getElem (by omega)] at h2
    exact h2

theorem norm_eq {l : Look} {v : AV} {K : AV → Option R} {r : R} (h : norm l v K = some r) : K v = some r := by
  unfold norm at h
  split at h
  · rename_i ls
    cases e : asTup ls.length v with
    | none => rw [e] at h; cases h
    | some cs =>
      rw [e] at h
      cases v <;> simp only [asTup] at e <;> try (cases e; done)
      split at e
      · rename_i c; obtain rfl := Option.some.inj e
        have := normT_eq (by omega) h
        rwa [List.drop_zero] at this
      · cases e
  · exact norm0_eq h

/-! ### the machine -/
/-- A call: function, arguments, heap, the next free block. -/
abbrev CallF := Nat → List AV → AHeap → Nat → Option (AV × AHeap × Nat)

/-- The rounds of the loops under way. -/
abbrev YldF := Nat → List AV → AHeap → Nat → Option (AV × AHeap × Nat)
def Y0 : YldF := fun _ _ _ _ => none
def YX (l : Nat) (r : List AV → AHeap → Nat → Option (AV × AHeap × Nat)) (Y : YldF) : YldF := fun l' args h c => if l' = l then r args h c else Y l' args h c
abbrev CalF := Cal → List AV → AHeap → Nat → Option (AV × AHeap × Nat)
def callC (call : CallF) (Y : YldF) : CalF
  | .fn f => call f
  | .yld l => Y l

structure Mach where
  T : Types
  L : Nat → Look
  gk : Nat

def calledOf : Op → Option (Operand × List Operand)
  | .call { callee := .value f, args, .. } => some (f, args.toList)
  | .call { callee := .invoke r _, args, .. } => some (r, args.toList)
  | _ => none
/-- Who is called, and with what ahead and behind: a function value; or a method of what is in an interface. -/
def calM (T : Types) (op : Op) (v : AV) : Option (Cal × List AV × List AV) :=
  match op with
  | .call { callee := .invoke _ nm, .. } => (match v with
    | .iface t x => (T t).bind fun ti => (ti.mth nm).bind fun f => some (.fn f, [x], [])
    | _ => none)
  | _ => asCal v
def looks : Op → Bool
  | .load .. | .index .. | .field .. | .lookup .. => true
  | _ => false

/-- One operation, wanted. id: the number for a block of its own; c: for those of a call. -/
noncomputable def stepK (M : Mach) (call : CallF) (Y : YldF) (fr : Fr) (o : Oper) (id : Nat) (h : AHeap) (c : Nat) (K : AV → AHeap → Nat → Option R) : Option R :=
  match calledOf o.op with
  | some (f, args) => (calM M.T o.op (evalA fr f)).bind fun q => (callC call Y q.1 (q.2.1 ++ args.map (evalA fr) ++ q.2.2) h c).bind fun r => norm (M.L o.type) r.1 fun v => K v r.2.1 r.2.2
  | none => opK M.T fr o.op id h fun e => if looks o.op = true then norm (M.L o.type) e.v fun v => K v (h.puts e.sets) c else K e.v (h.puts e.sets) c

def dstOf (ops : Array Oper) (j : Nat) : Option Tmp := (ops[j]?).bind (·.dst)

def guardK (ops : Array Oper) (o : Oper) (fr : Fr) (K : Fr → Bool → Option R) : Option R :=
  match o.guard with
  | none => K fr true
  | some (j, want) => (match dstOf ops j with
    | none => none
    | some t => (match fr.f t with
      | .bool b => if b = true then K (putF fr t (.bool true)) want else K (putF fr t (.bool false)) (!want)
      | .tuple _ => K fr false
      | _ => none))

noncomputable def opsK (M : Mach) (call : CallF) (Y : YldF) (ops : Array Oper) (base : Nat) : List (Oper × Nat) → Fr → AHeap → Nat → (Fr → AHeap → Nat → Option R) → Option R
  | [], fr, h, c, K => K fr h c
  | (o, i) :: rest, fr, h, c, K => guardK ops o fr fun fr want =>
      if want = true then stepK M call Y fr o (base + i) h c fun v h c => opsK M call Y ops base rest (putA fr o.dst v) h c K
      else opsK M call Y ops base rest (putA fr o.dst .undef) h c K

inductive AOut where
  | normal (fr : Fr) (h : AHeap) (nx : Nat)
  | exit (id : Nat) (fr : Fr) (h : AHeap) (nx : Nat)
  | ret (fr : Fr) (h : AHeap) (nx : Nat)

/-- What is live ahead of a region: the rest may be forgotten. -/
abbrev Keep := Nat → Option (Bool × List Nat)
def firstId : Code → Option Nat
  | .region id .. => some id
  | .seq a _ => firstId a
  | .block _ a => firstId a
  | .loop a => firstId a
  | _ => none
def cutC (kp : Keep) (c : Code) (fr : Fr) : Fr :=
  match firstId c with
  | some i => cutF ((kp i).map fun q => q.2) fr
  | none => fr

abbrev StepF (R : Type) := Fr → AHeap → Nat → Option R
def backK (next : StepF R) (K : AOut → Option R) : AOut → Option R
  | .normal fr h nx => next fr h nx
  | o => K o
/-- A jump, to be held still where a print's steps are compared. -/
def go1 : StepF R → StepF R := fun f => f
def jumpC (J : StepF R → StepF R) (kp : Keep) (c : Code) (f : StepF R) : StepF R :=
  match firstId c with
  | some i => (match kp i with
    | some q => bif q.1 then J f else f
    | none => f)
  | none => f
theorem jumpC_go1 (kp : Keep) (c : Code) (f : StepF R) : jumpC go1 kp c f = f := by
  unfold jumpC
  split
  · split
    · rename_i q _; cases q.1 <;> rfl
    · rfl
  · rfl
def iterK (J : StepF R → StepF R) (cut : Fr → Fr) (body : (AOut → Option R) → StepF R) : Nat → (AOut → Option R) → StepF R
  | 0, _, _, _, _ => none
  | n + 1, K, fr, h, nx => body (backK (fun fr h nx => J (iterK J cut body n K) (cut fr) h nx) K) fr h nx

def seqK (next : StepF R) (K : AOut → Option R) : AOut → Option R
  | .normal fr h nx => next fr h nx
  | o => K o
def blockK (id : Nat) (K : AOut → Option R) : AOut → Option R
  | .exit i fr h nx => if i = id then K (.normal fr h nx) else K (.exit i fr h nx)
  | o => K o

/-- Regions that draw their order: see there. -/
abbrev DrawF (R : Type) := Mach → CalF → Array Oper → Fr → AHeap → Nat → (Fr → AHeap → Nat → Option R) → Option R

/-- What is known of a round's arguments. -/
def yldL (M : Mach) (kp : Keep) (ps : List Nat) : List Look := match kp (1000000 + ps.getD 0 0) with | some q => q.2.map M.L | none => []
def normY (ls : List Look) (k : Nat) (args : List AV) (K : List AV → Option R) : Option R :=
  match ls with
  | [] => K args
  | ls => if Nat.beq ls.length k = true then normT ls args 0 K else none
/-- What a round may look at. -/
def yldK (kp : Keep) (ps : List Nat) : Option (List Nat) := (kp (2000000 + ps.getD 0 0)).map fun q => q.2
def putPs (fr : Fr) (args : List AV) : List Nat → Nat → Fr
  | [], _ => fr
  | p :: ps, i => putPs (putA fr (some p) (args.getD i .bad)) args ps (i + 1)
def isReady (h : AHeap) (l es : Nat) : Bool := match h l with | some b => Nat.beq b.es es | none => false
def roundEnd (l : Nat) : AOut → Option (AV × AHeap × Nat)
  | .normal _ h c => if isReady h l (LB + 1) = true then some (.bool true, h.put l (some ⟨[], LB, true⟩), c) else none
  | .ret _ h c => if isReady h l (LB + 1) = true then some (.bool false, h.put l (some ⟨[], LB + 2, true⟩), c) else none
  | .exit id _ h c => if isReady h l (LB + 1) = true then some (.bool false, h.put l (some ⟨[], LB + 3 + id, true⟩), c) else none
/-- A round: the assignment, the record busy, the body. -/
def roundBody (l : Nat) (cut : Fr → Fr) (body : (AOut → Option (AV × AHeap × Nat)) → StepF (AV × AHeap × Nat)) : AOut → Option (AV × AHeap × Nat)
  | .normal fr h c => if isReady h l LB = true then body (roundEnd l) (cut fr) (h.put l (some ⟨[], LB + 1, true⟩)) c else none
  | _ => none
def roundStep (l : Nat) (cut : Fr → Fr) (assign body : (AOut → Option (AV × AHeap × Nat)) → StepF (AV × AHeap × Nat)) : StepF (AV × AHeap × Nat) := fun fr h c =>
  assign (roundBody l cut body) fr h c
def roundA (M : Mach) (kp : Keep) (ps : List Nat) (fr : Fr) (step : StepF (AV × AHeap × Nat)) (args : List AV) (h : AHeap) (c : Nat) : Option (AV × AHeap × Nat) :=
  if Nat.beq args.length ps.length = true then normY (yldL M kp ps) ps.length args fun vs => step (putPs (cutF (yldK kp ps) fr) vs ps 0) h c else none
/-- How a loop's body may be left. -/
def exitsOf : Code → List Nat
  | .exit id => [id]
  | .seq a b => exitsOf a ++ exitsOf b
  | .cond _ a b => exitsOf a ++ exitsOf b
  | .block _ a => exitsOf a
  | .loop a => exitsOf a
  | .rangeFunc _ _ a b => exitsOf a ++ exitsOf b
  | _ => []
def afterExits (es l : Nat) (fr : Fr) (h : AHeap) (c : Nat) (K : AOut → Option R) : List Nat → Option R
  | [] => none
  | id :: ids => if Nat.beq es (LB + 3 + id) = true then K (.exit id fr (h.put l none) c) else afterExits es l fr h c K ids
def hasRet : Code → Bool
  | .ret => true
  | .seq a b => hasRet a || hasRet b
  | .cond _ a b => hasRet a || hasRet b
  | .block _ a => hasRet a
  | .loop a => hasRet a
  | .rangeFunc _ _ a b => hasRet a || hasRet b
  | _ => false
/-- Behind the loop: on, or the jump that a round has left. -/
def afterK (body : Code) (l : Nat) (fr : Fr) (h : AHeap) (c : Nat) (K : AOut → Option R) : Option R :=
  (h l).bind fun b =>
    if Nat.beq b.es LB = true then K (.normal fr (h.put l none) c)
    else if (hasRet body && Nat.beq b.es (LB + 2)) = true then K (.ret fr (h.put l none) c)
    else afterExits b.es l fr h c K (exitsOf body)

abbrev Res := AV × AHeap × Nat
noncomputable def aexec (J : StepF Res → StepF Res) (D : DrawF Res) (M : Mach) (cy : YldF → CallF) (Y : YldF) (kp : Keep) (lf : Nat) : Code → (AOut → Option Res) → StepF Res
  | .skip, K, fr, h, nx => K (.normal fr h nx)
  | .region _ ops draw, K, fr, h, nx =>
    if draw = true then D M (callC (cy Y) Y) ops fr h nx fun fr h c => K (.normal fr h c)
    else opsK M (cy Y) Y ops nx ops.toList.zipIdx fr h (nx + ops.toList.length) fun fr h c => K (.normal fr h c)
  | .seq a b, K, fr, h, nx => aexec J D M cy Y kp lf a (seqK (fun fr h nx => jumpC J kp b (aexec J D M cy Y kp lf b K) (cutC kp b fr) h nx) K) fr h nx
  | .cond c a b, K, fr, h, nx => (match evalA fr c with
    | .bool t => if t = true then aexec J D M cy Y kp lf a K fr h nx else aexec J D M cy Y kp lf b K fr h nx
    | _ => none)
  | .block id a, K, fr, h, nx => aexec J D M cy Y kp lf a (blockK id K) fr h nx
  | .loop a, K, fr, h, nx => J (iterK J (cutC kp a) (aexec J D M cy Y kp lf a) lf K) (cutC kp a fr) h nx
  | .exit id, K, fr, h, nx => K (.exit id fr h nx)
  | .ret, K, fr, h, nx => K (.ret fr h nx)
  | .rangeFunc g ps assign body, K, fr, h, nx =>
    (asFn (evalA fr g)).bind fun q =>
      (cy (YX nx (roundA M kp ps.toList fr (J (roundStep nx (cutC kp body) (aexec J D M cy Y kp lf assign) (aexec J D M cy Y kp lf body)))) Y) q.1 (q.2.1 ++ [.yld nx] ++ q.2.2) (h.put nx (some ⟨[], LB, true⟩)) (nx + 1)).bind fun r =>
        afterK body nx fr r.2.1 r.2.2 K
  | _, _, _, _, _ => none

theorem FR.cutC {m : PMap} {fr : Fr} {a : Act} (hf : FR m fr a) (kp : Keep) (c : Code) : FR m (cutC kp c fr) a := by
  unfold T.cutC
  split
  · exact hf.cut _
  · exact hf

structure AFun where
  body : Code
  ntmps : Nat
  results : List ResultVar
  keep : Keep

def resK (M : Mach) (fr : Fr) (h : AHeap) : List ResultVar → (List AV → Option R) → Option R
  | [], K => K []
  | .tmp t :: rest, K => resK M fr h rest fun vs => K (fr.f t :: vs)
  | .cell a t :: rest, K => loadA M.T t (fr.f a) h fun e => norm (M.L t) e.v fun v => resK M fr h rest fun vs => K (v :: vs)

def oneOr : List AV → AV
  | [v] => v
  | vs => .tuple vs

def retK (M : Mach) (fn : AFun) : AOut → Option (AV × AHeap × Nat)
  | .normal fr h nx => resK M fr h fn.results fun vs => some (oneOr vs, h, nx)
  | .ret fr h nx => resK M fr h fn.results fun vs => some (oneOr vs, h, nx)
  | _ => none

/-- Whole numbers of cells. -/
def intsOf : List AV → Option (List Int)
  | [] => some []
  | .int .i64 n :: l => (intsOf l).map (n :: ·)
  | _ => none
/-- Pairs of whole numbers, by cells. -/
def pairsOf : List AV → Option (List (Int × Int))
  | [] => some []
  | .int .i64 x :: .int .i64 y :: l => (pairsOf l).map ((x, y) :: ·)
  | _ => none
def pairAV (p : Int × Int) : List AV := [.int .i64 p.1, .int .i64 p.2]
def pairCells (d : List (Int × Int)) : List AV := (d.map pairAV).flatten
def ltAt (a b : Int × Int) : Bool := decide (a.1 < b.1)
/-- The library's sort of pairs by the first of them, equals in the library's own order. -/
def sortAt (d : List (Int × Int)) : List (Int × Int) := (Go.Sort.pdq ltAt d.toArray 0 d.length (Go.Lib.bitLen d.length) true true).toList
/-- A variable that holds the whole block as a slice. -/
def boxOf (cs : List AV) (b k : Nat) : Bool :=
  match cs with
  | [.slice (some a) n _] => a.1 == b && a.2 == 0 && n == k
  | _ => false
def capOf (vs : List AV) : Option Nat :=
  match vs with
  | [.ptr (some a)] => if a.2 = 0 then some a.1 else none
  | _ => none
def orcSort (a : Option (Nat × Nat)) (n : Nat) (h : AHeap) (nx : Nat) : Option (AV × AHeap × Nat) :=
  if n = 0 then some (.tuple [], h, nx) else a.bind fun p => (h p.1).bind fun b =>
      if (p.2 == 0 && b.es == 1 && b.own && b.cells.length == n && Nat.blt n LB) = true then (intsOf b.cells).bind fun zs => some (.tuple [], h.put p.1 (some ⟨(zs.mergeSort fun x y => decide (x ≤ y)).map (AV.int .i64), 1, true⟩), nx) else none
def orcSlice (a : Option (Nat × Nat)) (n : Nat) (vs : List AV) (h : AHeap) (nx : Nat) : Option (AV × AHeap × Nat) :=
  if n = 0 then some (.tuple [], h, nx) else a.bind fun p => (capOf vs).bind fun b => (h p.1).bind fun blk => (h b).bind fun bb =>
      if (p.2 == 0 && blk.es == 2 && blk.own && blk.cells.length == n * 2 && Nat.blt (n * 2) LB && Nat.blt 1 n && !(b == p.1) && boxOf bb.cells p.1 n && !mapB bb) = true then (pairsOf blk.cells).bind fun d => some (.tuple [], h.put p.1 (some ⟨pairCells (sortAt d), 2, true⟩), nx) else none
/-- The keys of a map's entries. -/
def keysE : List AV → Option (List ByteArray)
  | [] => some []
  | .tuple [.str k, _] :: l => (keysE l).map (k :: ·)
  | _ => none
/-- Texts, sorted. -/
def sortS (ks : List ByteArray) : List ByteArray := ((ks.map fun k => k.data.toList).mergeSort fun x y => decide (x ≤ y)).map fun l => ⟨l.toArray⟩
def orcKeys (r : Option Nat) (h : AHeap) (nx : Nat) : Option (AV × AHeap × Nat) :=
  match r with
  | none => some (.slice none 0 none, h, nx)
  | some r => (mapD h r).bind fun es => (keysE es).bind fun ks =>
    if (ks.all (fun k => Nat.ble k.size 1000000) && Nat.ble ks.length 1000000) = true then
      (if ks.isEmpty = true then some (.slice none 0 none, h, nx) else some (.slice (some (nx, 0)) ks.length none, h.put nx (some ⟨(sortS ks).map AV.str, 1, true⟩), nx + 1)) else none
def orcClone (r : Option Nat) (h : AHeap) (nx : Nat) : Option (AV × AHeap × Nat) :=
  match r with
  | none => some (.mapv none, h, nx)
  | some r => (mapD h r).bind fun es => some (.mapv (some nx), h.put nx (some ⟨es, MB, true⟩), nx + 1)
/-- Texts, bytes of cells. -/
def strsOf : List AV → Option (List ByteArray)
  | [] => some []
  | .str s :: l => (strsOf l).map (s :: ·)
  | _ => none
def octsOf : List AV → Option (List UInt8)
  | [] => some []
  | .int .u8 n :: l => if 0 ≤ n ∧ n < 256 then (octsOf l).map (UInt8.ofNat n.toNat :: ·) else none
  | _ => none
def hexD : List UInt8 := [48, 49, 50, 51, 52, 53, 54, 55, 56, 57, 97, 98, 99, 100, 101, 102]
def hexP (b : UInt8) : List UInt8 := [hexD.getD (b.toNat / 16) 0, hexD.getD (b.toNat % 16) 0]
/-- Bytes as digits; '-' for none. -/
def hexL (l : List UInt8) : List UInt8 := if l = [] then [45] else l.flatMap hexP
def orcItoa (n : Int) (h : AHeap) (nx : Nat) : Option (AV × AHeap × Nat) := if -9223372036854775808 ≤ n ∧ n ≤ 9223372036854775807 then some (.str ⟨(Lib.itoa n).toArray⟩, h, nx) else none
def joinB (ss : List ByteArray) (sep : ByteArray) : List UInt8 := Lib.join (ss.map (·.data.toList)) sep.data.toList
def orcJoin (a : Option (Nat × Nat)) (n : Nat) (sep : ByteArray) (h : AHeap) (nx : Nat) : Option (AV × AHeap × Nat) :=
  (srcS h a n 1).bind fun q => (strsOf q.2.1).bind fun ss => if (joinB ss sep).length ≤ 140737488355328 ∧ ss.length ≤ 140737488355328 then some (.str ⟨(joinB ss sep).toArray⟩, h, nx) else none
def orcSplit (s sep : ByteArray) (h : AHeap) (nx : Nat) : Option (AV × AHeap × Nat) :=
  if 1 ≤ sep.size ∧ s.size < 4294967281 ∧ (Lib.splitB sep 0 (Lib.countB s sep) s).length = Lib.countB s sep + 1 then
    some (.slice (some (nx, 0)) (Lib.countB s sep + 1) (some (Lib.countB s sep + 1)), h.put nx (some ⟨(Lib.splitB sep 0 (Lib.countB s sep) s).map AV.str, 1, true⟩), nx + 1) else none
def orcAtoi (te : Nat) (s : ByteArray) (h : AHeap) (nx : Nat) : Option (AV × AHeap × Nat) :=
  if s.size ≤ 281474976710656 then (match Lib.atoiAll s.data.toList with
    | .ok v => some (.tuple [.int .i64 v, .nilIface], h, nx)
    | .range => some (.tuple [.int .i64 (Lib.atoiSat s.data.toList), .iface te .bad], h, nx)
    | _ => some (.tuple [.int .i64 0, .iface te .bad], h, nx)) else none
def orcIndexB (s : ByteArray) (c : Int) (h : AHeap) (nx : Nat) : Option (AV × AHeap × Nat) :=
  if 0 ≤ c ∧ c < 256 then some (.int .i64 (Lib.indexByte s.data.toList (UInt8.ofNat c.toNat)), h, nx) else none
def orcHex (a : Option (Nat × Nat)) (n : Nat) (h : AHeap) (nx : Nat) : Option (AV × AHeap × Nat) :=
  (srcS h a n 1).bind fun q => (octsOf q.2.1).bind fun bs => if bs.length ≤ 35184372088832 then some (.str ⟨(hexL bs).toArray⟩, h, nx) else none
/-- Functions that are known by a contract: 3: a map's keys, sorted; 4: a map's copy; 1: whole numbers are sorted in their block; 2: sort.Slice of pairs by the first, by a closure over the slice. -/
def orcK : List Nat → List AV → AHeap → Nat → Option (AV × AHeap × Nat)
  | [1], [.slice a n _], h, nx => orcSort a n h nx
  | [3], [.mapv r], h, nx => orcKeys r h nx
  | [4], [.mapv r], h, nx => orcClone r h nx
  | [5], [.int .i64 n], h, nx => orcItoa n h nx
  | [6], [.slice a n _, .str sep], h, nx => orcJoin a n sep h nx
  | [7], [.str s, .str sep], h, nx => orcSplit s sep h nx
  | [8, te], [.str s], h, nx => orcAtoi te s h nx
  | [9], [.str s, .int .u8 c], h, nx => orcIndexB s c h nx
  | [10], [.slice a n _], h, nx => orcHex a n h nx
  | [2, t, g], [.iface t' (.slice a n _), .fn g' us vs], h, nx => if (t' == t && g' == g && us.isEmpty) = true then orcSlice a n vs h nx else none
  | _, _, _, _ => none

noncomputable def acall (D : DrawF Res) (M : Mach) (F : Nat → Option AFun) : Nat → YldF → CallF
  | 0, _, _, _, _, _ => none
  | n + 1, Y, f, args, h, nx => (match F f with
    | some fn => (match fn.keep 9000000 with
      | some q => orcK q.2 args h nx
      | none => aexec go1 D M (acall D M F n) Y fn.keep n fn.body (retK M fn) ⟨args.length + (fn.ntmps - args.length), fun t => args.getD t .bad, M.gk⟩ h nx)
    | none => none)

/-! ### memory follows -/
/-- What is known of memory all along: from which block on it is the call's own; how many package variables are laid; facts that hang on elder blocks alone. -/
class Glo where
  N : Nat
  gk : Nat
  wd : World → Prop
  go : ∀ {w w' : World}, wd w → Below N w w' → wd w'
open Glo (N)
variable {P : Program} {M : Mach} {m : PMap} {h : AHeap} {w : World}

/-- What is still free: some numbers below nx that somebody keeps, and all from nx on. -/
def Free (G : Nat → Prop) (nx : Nat) (i : Nat) : Prop := G i ∨ nx ≤ i

structure After (N : Nat) (m : PMap) (w : World) (G : Nat → Prop) (m' : PMap) (h' : AHeap) (nx' : Nat) (w' : World) : Prop where
  sim : Sim N m' h' (Free G nx') w'
  le : m.le m'
  below : Below N w w'

variable {N0 : Nat}
theorem After.refl {G : Nat → Prop} {nx : Nat} (s : Sim N0 m h (Free G nx) w) : After N0 m w G m h nx w := ⟨s, PMap.le_refl m, Below.refl N0 w⟩
theorem After.trans {G : Nat → Prop} {m1 m2 : PMap} {h1 h2 : AHeap} {n1 n2 : Nat} {w1 w2 : World} (a : After N0 m w G m1 h1 n1 w1) (b : After N0 m1 w1 G m2 h2 n2 w2) : After N0 m w G m2 h2 n2 w2 :=
  ⟨b.sim, PMap.le_trans a.le b.le, a.below.trans b.below⟩

variable [Glo]
/-- The loops under way: by which number, of what record, since when. -/
abbrev Loops := List (Nat × Loop × PMap)
def EnvIn (E : Loops) (m : PMap) (w : World) : Prop :=
  GlobIn m Glo.gk ∧ Glo.wd w ∧ ∀ q ∈ E, q.2.2.le m ∧ ∃ p r, m q.1 = some p ∧ w.heap[p.blk]? = some (Obj.loop r) ∧ SameLoop q.2.1 r
theorem EnvIn.go {E : Loops} {m m' : PMap} {w w' : World} (h : EnvIn E m w) (hl : m.le m') (hb : Below N w w') : EnvIn E m' w' := ⟨h.1.le hl, Glo.go h.2.1 hb, fun q hq => by
  obtain ⟨h1, p, r, h2, h3, h4⟩ := h.2.2 q hq
  obtain ⟨r', h5, h6⟩ := hb.loops p.blk r h3
  exact ⟨PMap.le_trans h1 hl, p, r', hl _ _ h2, h5, h4.trans h6⟩⟩
theorem EnvIn.nil (m : PMap) (w : World) (h1 : GlobIn m Glo.gk) (h2 : Glo.wd w) : EnvIn [] m w := ⟨h1, h2, fun _ h => by cases h⟩

def WF (ro : Option Nat) : Fence := { Fence.wide with round := ro }
omit [Glo] in
theorem WF_none : WF none = Fence.wide := rfl
omit [Glo] in
theorem WF_room (ro : Option Nat) (n : Nat) : (WF ro).room n := fun _ h => by simp [WF, Fence.wide] at h
omit [Glo] in
theorem callsIn_WF {ro : Option Nat} {n : Nat} {P : Program} {f : FuncId} {args : Array Value} {w : World} {R : Ending → World → Prop} (h : Calls P f args w R) : CallsIn (WF ro) n P f args w R := (callsIn_wide (n := n)).2 h

def CallOk (P : Program) (E : Loops) (call : CallF) : Prop :=
  ∀ (m : PMap) (w : World) (f : Nat) (args : List AV) (xs : List Value) (h : AHeap) (nx : Nat) (G : Nat → Prop) (v : AV) (h' : AHeap) (nx' : Nat), (∀ i, G i → i < nx) → call f args h nx = some (v, h', nx') → EnvIn E m w → RelL m args xs → Sim N m h (Free G nx) w →
    nx ≤ nx' ∧ (∀ ats, (callFunc f ats).run P w = .ok (.enter f ats) w) ∧ Calls P f ⟨xs⟩ w fun e w' => ∃ m' x, e = .returned x ∧ Rel m' v x ∧ After N m w G m' h' nx' w'
/-- A function does what its contract says. -/
def OrcOk (P : Program) (q : List Nat) (f : Nat) : Prop :=
  ∀ (m : PMap) (w : World) (args : List AV) (xs : List Value) (h : AHeap) (nx : Nat) (G : Nat → Prop) (v : AV) (h' : AHeap) (nx' : Nat), (∀ i, G i → i < nx) → orcK q args h nx = some (v, h', nx') → Glo.wd w → RelL m args xs → Sim N m h (Free G nx) w →
    nx ≤ nx' ∧ Calls P f ⟨xs⟩ w fun e w' => ∃ m' x, e = .returned x ∧ Rel m' v x ∧ After N m w G m' h' nx' w'
def YOk (P : Program) (E : Loops) (Y : YldF) : Prop :=
  ∀ (m : PMap) (w : World) (l : Nat) (args : List AV) (xs : List Value) (h : AHeap) (nx : Nat) (G : Nat → Prop) (v : AV) (h' : AHeap) (nx' : Nat), (∀ i, G i → i < nx) → Y l args h nx = some (v, h', nx') → EnvIn E m w → RelL m args xs → Sim N m h (Free G nx) w →
    nx ≤ nx' ∧ ∃ p fn tmps assign body, m l = some p ∧ (Instr.yield p.blk ⟨xs⟩).run P w = .ok (.round p.blk fn tmps assign body) w ∧ RoundIn Fence.wide 0 P p.blk fn tmps assign body w fun e w' => ∃ m' x, e = .returned x ∧ Rel m' v x ∧ After N m w G m' h' nx' w'
theorem YOk.nil (P : Program) (E : Loops) : YOk P E Y0 := fun _ _ _ _ _ _ _ _ _ _ _ _ h => by cases h

/-- What a frame's step to the next gives. -/
def Went (N : Nat) (m : PMap) (w : World) (G : Nat → Prop) (K : Fr → AHeap → Nat → Option R) (r : R) (nx : Nat) (a' : Act) (w' : World) : Prop :=
  ∃ m' fr' h' nx', K fr' h' nx' = some r ∧ nx ≤ nx' ∧ FR m' fr' a' ∧ After N m w G m' h' nx' w'

omit [Glo] in
theorem upon_about (P : Program) (ro : Option Nat) (o : Oper) (w : World) (ρ : Operand → Value) : ∀ f, o.about P w ρ = some f → (WF ro).fn f := fun _ _ => trivial
omit [Glo] in
theorem WF_depth {ro : Option Nat} {n : Nat} : (WF ro).depth.isSome = true → 1 ≤ n := fun h => by simp [WF, Fence.wide] at h

omit [Glo] in
theorem opK_not_defer {T : Types} {fr : Fr} {op : Op} {id : Nat} {h : AHeap} {K : Eff → Option R} {r : R} (hh : opK T fr op id h K = some r) : ∀ c, op ≠ .defer c := by
  intro c e
  subst e
  simp [opK] at hh

omit [Glo] in
theorem called_cases {op : Op} {f : Operand} {args : List Operand} (ec : calledOf op = some (f, args)) :
    (∃ args' ts, op = .call { callee := .value f, args := args', argTypes := ts } ∧ args'.toList = args) ∨ (∃ nm args' ts, op = .call { callee := .invoke f nm, args := args', argTypes := ts } ∧ args'.toList = args) := by
  cases op <;> simp only [calledOf] at ec <;> try (cases ec; done)
  rename_i cc
  obtain ⟨callee, args', ts⟩ := cc
  cases callee <;> simp only [Option.some.injEq, Prod.mk.injEq, reduceCtorEq] at ec
  · obtain ⟨rfl, rfl⟩ := ec
    exact .inl ⟨args', ts, rfl, rfl⟩
  · obtain ⟨rfl, rfl⟩ := ec
    exact .inr ⟨_, args', ts, rfl, rfl⟩

theorem step_sim {E : Loops} {call : CallF} {Y : YldF} {ro : Option Nat} {dn : Nat} (hc : CallOk P E call) (hY : YOk P E Y) (ht : TOk P M.T) {G : Nat → Prop} {c id : Nat} (s : Sim N m h (Free G c) w) (hE : EnvIn E m w) (hG : ∀ i, G i → i < c) (hid : G id) {fr : Fr} {a : Act} (hf : FR m fr a) {o : Oper}
    {K : AV → AHeap → Nat → Option R} {r : R} (hh : stepK M call Y fr o id h c K = some r) {next : Act → World → Prop} {Q : Exit → Act → World → Prop}
    (hn : ∀ m' v x h' c' w', K v h' c' = some r → c ≤ c' → Rel m' v x → m.le m' → Below N w w' → Sim N m' h' (Free (fun i => G i ∧ i ≠ id) c') w' → next (a.put o.dst x) w') : o.wpIn (WF ro) dn P a w next Q := by
  refine ⟨upon_about P ro o w _, ?_⟩
  unfold stepK at hh
  split at hh
  · rename_i f args ec
    rcases called_cases ec with ⟨args', ts, eo, rfl⟩ | ⟨nm, args', ts, eo, rfl⟩
    · have hcal : calM M.T o.op (evalA fr f) = asCal (evalA fr f) := by rw [eo]; rfl
      rw [hcal] at hh
      rw [Oper.semAt_eq _ _ _ (fun c e => by rw [eo] at e; cases e)]
      obtain ⟨⟨cal, first, caps⟩, ef, hh⟩ := Option.bind_eq_some_iff.1 hh
      simp only at hh
      cases hr : callC call Y cal (first ++ args'.toList.map (evalA fr) ++ caps) h c with
      | none => rw [hr] at hh; cases hh
      | some res =>
        obtain ⟨v, h', c'⟩ := res
        rw [hr] at hh; simp only [Option.bind_some] at hh
        have hk := norm_eq hh
        have hfn := evalA_rel hf f
        generalize evalA fr f = vf at ef hfn
        cases vf <;> simp only [asCal] at ef <;> try (cases ef; done)
        · rename_i fn us0 vs0
          simp only [Option.some.injEq, Prod.mk.injEq] at ef
          obtain ⟨rfl, rfl, rfl⟩ := ef
          simp only [Rel] at hfn
          obtain ⟨us, vs, efv, r1, r2⟩ := hfn
          have rargs := (r1.append (evalL_rel hf args'.toList)).append r2
          obtain ⟨hle, henter, hcalls⟩ := hc m w fn _ _ h c (fun i => G i) v h' c' hG hr hE rargs s
          have eargs : (⟨us⟩ ++ args'.map a.eval ++ ⟨vs⟩ : Array Value) = ⟨us ++ args'.toList.map a.eval ++ vs⟩ := by
            apply Array.ext'; simp
          unfold execOp
          rw [eo]
          simp only [resolve, efv, Deferred.ofValue, Sem.run_bind, Sem.run_pure, Result.andThen_ok, invoke, henter, Oper.uponIn]
          rw [eargs]
          refine ⟨WF_depth, callsIn_WF (hcalls.mono ?_)⟩
          rintro e w' ⟨m', x, rfl, hrx, haf⟩
          exact hn m' v x h' c' w' hk hle hrx haf.le haf.below (haf.sim.mono fun i hi => hi.imp (fun q => q.1) (fun q => q))
        · rename_i l
          simp only [Option.some.injEq, Prod.mk.injEq] at ef
          obtain ⟨rfl, rfl, rfl⟩ := ef
          simp only [Rel] at hfn
          obtain ⟨p, hp, efv⟩ := hfn
          simp only [List.nil_append, List.append_nil] at hr
          obtain ⟨hle, p', fn, tmps, assign, body, hp', hy, hround⟩ := hY m w l _ _ h c (fun i => G i) v h' c' hG hr hE (evalL_rel hf args'.toList) s
          rw [hp] at hp'; obtain rfl := Option.some.inj hp'
          have eargs : (#[] ++ args'.map a.eval : Array Value) = ⟨args'.toList.map a.eval⟩ := by
            apply Array.ext'; simp
          unfold execOp
          rw [eo]
          simp only [resolve, efv, Deferred.ofValue, Sem.run_bind, Sem.run_pure, Result.andThen_ok, invoke]
          rw [eargs, hy]
          refine ⟨WF_depth, RoundIn.mono (F := WF ro) (n := dn - 1) (R := fun e w' => ∃ m' x, e = .returned x ∧ Rel m' v x ∧ After N m w G m' h' c' w') ⟨trivial, fun c cs _ => hround.2 c cs (room_wide _)⟩ ?_⟩
          rintro e w' ⟨m', x, rfl, hrx, haf⟩
          exact hn m' v x h' c' w' hk hle hrx haf.le haf.below (haf.sim.mono fun i hi => hi.imp (fun q => q.1) (fun q => q))
    · rw [Oper.semAt_eq _ _ _ (fun c e => by rw [eo] at e; cases e)]
      obtain ⟨⟨cal, first, caps⟩, ef, hh⟩ := Option.bind_eq_some_iff.1 hh
      simp only at hh
      rw [eo] at ef
      simp only [calM] at ef
      have hfn := evalA_rel hf f
      generalize evalA fr f = vf at ef hfn
      cases vf <;> simp only at ef <;> try (cases ef; done)
      rename_i t x
      obtain ⟨ti, et, ef⟩ := Option.bind_eq_some_iff.1 ef
      obtain ⟨g, eg, ef⟩ := Option.bind_eq_some_iff.1 ef
      simp only [Option.some.injEq, Prod.mk.injEq] at ef
      obtain ⟨rfl, rfl, rfl⟩ := ef
      simp only [Rel] at hfn
      obtain ⟨y, efv, ry⟩ := hfn
      cases hr : callC call Y (.fn g) ([x] ++ args'.toList.map (evalA fr) ++ []) h c with
      | none => rw [hr] at hh; cases hh
      | some res =>
        obtain ⟨v, h', c'⟩ := res
        rw [hr] at hh; simp only [Option.bind_some] at hh
        have hk := norm_eq hh
        have rargs : RelL m ([x] ++ args'.toList.map (evalA fr) ++ []) ([y] ++ args'.toList.map a.eval ++ []) := (RelL.append (vs := [x]) (xs := [y]) ⟨y, [], rfl, ry, rfl⟩ (evalL_rel hf args'.toList)).append (by simp [RelL])
        obtain ⟨hle, henter, hcalls⟩ := hc m w g _ _ h c (fun i => G i) v h' c' hG hr hE rargs s
        have hmeth := fun n => ht.mth t ti nm g et eg n y w
        have eargs : (#[y] ++ args'.map a.eval : Array Value) = ⟨[y] ++ args'.toList.map a.eval ++ []⟩ := by
          apply Array.ext'; simp
        have eext : (#[Value.iface t y] ++ args'.map a.eval).extract 1 (#[Value.iface t y] ++ args'.map a.eval).size = args'.map a.eval := by
          apply Array.ext'; simp [List.take_of_length_le]
        have e0 : (#[Value.iface t y] ++ args'.map a.eval)[0]? = some (Value.iface t y) := by
          rw [← Array.getElem?_toList, Array.toList_append]; rfl
        have hcm : (callMethod (.iface t y) nm (args'.map a.eval)).run P w = .ok (.enter g (#[y] ++ args'.map a.eval)) w := by
          unfold callMethod
          simp only [Sem.run_bind, run_program, Result.andThen_ok]
          rw [show P.types.size + Made.depth = (P.types.size + 99) + 1 from rfl, hmeth]
          simp only [Result.andThen_ok, henter]
        unfold execOp
        rw [eo]
        simp only [resolve, efv, Sem.run_bind, Sem.run_pure, Result.andThen_ok, invoke, e0, eext, hcm, Oper.uponIn]
        rw [eargs]
        refine ⟨WF_depth, callsIn_WF (hcalls.mono ?_)⟩
        rintro e w' ⟨m', x, rfl, hrx, haf⟩
        exact hn m' v x h' c' w' hk hle hrx haf.le haf.below (haf.sim.mono fun i hi => hi.imp (fun q => q.1) (fun q => q))
  · obtain ⟨e, he, nx, x, w', m', hrun, hnx, hrel, hs, hle, hb⟩ := opK_sim ht s (.inl hid) hf hh
    rw [Oper.semAt_eq _ _ _ (opK_not_defer hh)]
    have hk : K e.v (h.puts e.sets) c = some r := by
      split at he
      · exact norm_eq he
      · exact he
    have hcid : id < c := hG id hid
    have hs' : Sim N m' (h.puts e.sets) (Free (fun i => G i ∧ i ≠ id) c) w' := hs.mono fun i hi => by
      rcases hi with hi | hi
      · exact ⟨.inl hi.1, hi.2⟩
      · exact ⟨.inr hi, by omega⟩
    have := hn m' e.v x _ c w' hk (Nat.le_refl _) hrel hle hb hs'
    rw [hrun]
    rcases hnx with rfl | ⟨rfl, rfl⟩
    · exact this
    · exact this

omit [Glo] in
theorem guard_sim {ops : Array Oper} {o : Oper} {fr : Fr} {a : Act} (hf : FR m fr a) {K : Fr → Bool → Option R} {r : R} (hh : guardK ops o fr K = some r) :
    ∃ fr', K fr' (Region.wanted o (yielded ops a.tmps)) = some r ∧ FR m fr' a := by
  unfold guardK at hh
  split at hh
  · rename_i eg
    exact ⟨fr, by rw [Region.wanted, eg]; exact hh, hf⟩
  · rename_i j want eg
    split at hh
    · cases hh
    · rename_i t et
      have hy : yielded ops a.tmps j = match a.tmps[t]? with | some (.bool b) => some b | _ => none := by
        unfold yielded
        unfold dstOf at et
        rw [et]; rfl
      have hr := hf.1.2 t
      have hgd : a.tmps.getD t undef = (a.tmps[t]?).getD undef := Array.getD_eq_getD_getElem?
      split at hh
      · rename_i b eb
        rw [eb] at hr
        simp only [Rel] at hr
        have hx : a.tmps[t]? = some (.bool b) := by
          rw [hgd] at hr
          cases e : a.tmps[t]? with
          | none => rw [e] at hr; cases hr
          | some u => rw [e] at hr; exact congrArg some hr
        have hset : ∀ b', b' = b → FR m (putF fr t (.bool b')) a := by
          intro b' e
          subst e
          rw [putF_self eb]; exact hf
        rw [hx] at hy
        have hw : Region.wanted o (yielded ops a.tmps) = (some b == some want) := by
          simp only [Region.wanted, eg, hy]
        rw [hw]
        cases b with
        | true => rw [if_pos rfl] at hh; exact ⟨_, by cases want <;> exact hh, hset true rfl⟩
        | false => rw [if_neg (by decide)] at hh; exact ⟨_, by cases want <;> exact hh, hset false rfl⟩
      · rename_i vs eb
        rw [eb] at hr
        simp only [Rel] at hr
        obtain ⟨ys, hys, _⟩ := hr
        have hy' : yielded ops a.tmps j = none := by
          rw [hgd] at hys
          rw [hy]
          cases e : a.tmps[t]? with
          | none => rfl
          | some u => rw [e] at hys; simp only [Option.getD_some] at hys; rw [hys]
        have hw : Region.wanted o (yielded ops a.tmps) = false := by
          simp only [Region.wanted, eg, hy']; rfl
        rw [hw]
        exact ⟨fr, hh, hf⟩
      · cases hh

/-- A plain region: its operations in their order. -/
theorem ops_sim {E : Loops} {call : CallF} {Y : YldF} {ro : Option Nat} {dn : Nat} (hc : CallOk P E call) (hY : YOk P E Y) (ht : TOk P M.T) {ops : Array Oper} {base : Nat} {Q : Exit → Act → World → Prop} {r : R} {K : Fr → AHeap → Nat → Option R} {G : Nat → Prop} {m0 : PMap} {w0 : World} {nx0 : Nat} {ds : List Deferred}
    (hG : ∀ i, G i → i < base) (hE0 : EnvIn E m0 w0)
    (hQ : ∀ a' w', Went N m0 w0 G K r nx0 a' w' → a'.defers = ds → Q .normal a' w') :
    ∀ (rest : List (Oper × Nat)) (k : Nat) (fr : Fr) (h : AHeap) (c : Nat) (m : PMap) (a : Act) (w : World), (∀ j, (rest[j]?).map (·.1) = ops[k + j]? ∧ ∀ p, rest[j]? = some p → p.2 = k + j) → k + rest.length = ops.size → base + ops.size ≤ c → nx0 ≤ c →
      opsK M call Y ops base rest fr h c K = some r → FR m fr a → a.defers = ds → Sim N m h (Free (fun i => G i ∨ (base + k ≤ i ∧ i < base + ops.size)) c) w → m0.le m → Below N w0 w → wpOpsIn (WF ro) dn P ops Q (List.range' k rest.length) a w := by
  intro rest
  induction rest with
  | nil =>
    intro k fr h c m a w _ _ hcb hnx hh hf hd s hle hb
    simp only [opsK] at hh
    simp only [List.length_nil, List.range'_zero, wpOpsIn]
    exact hQ a w ⟨m, fr, h, c, hh, hnx, hf, s.mono (fun i hi => hi.imp .inl (fun q => q)), hle, hb⟩ hd
  | cons p rest ih =>
    intro k fr h c m a w hl hk hcb hnx hh hf hd s hle hb
    obtain ⟨o, i⟩ := p
    have h0 := hl 0
    simp only [List.getElem?_cons_zero, Option.map_some, Nat.add_zero] at h0
    obtain ⟨ho, hi⟩ := h0
    have hi' : i = k := hi _ rfl
    subst hi'
    simp only [List.length_cons] at hk
    have hl' : ∀ j, (rest[j]?).map (·.1) = ops[i + 1 + j]? ∧ ∀ p, rest[j]? = some p → p.2 = i + 1 + j := by
      intro j
      have := hl (j + 1)
      simp only [List.getElem?_cons_succ] at this
      rwa [show i + (j + 1) = i + 1 + j by omega] at this
    have hput : ∀ v, (a.put o.dst v).defers = ds := fun v => by rw [← hd]; cases o.dst <;> rfl
    simp only [List.length_cons, List.range'_succ, wpOpsIn, ← ho]
    simp only [opsK] at hh
    obtain ⟨fr', hh, hf'⟩ := guard_sim hf hh
    by_cases hw : Region.wanted o (yielded ops a.tmps) = true
    · rw [if_pos hw]
      rw [if_pos hw] at hh
      refine step_sim (id := base + i) (G := fun j => G j ∨ (base + i ≤ j ∧ j < base + ops.size)) hc hY ht s (hE0.go hle hb) (fun j hj => ?_) (.inr ⟨by omega, by omega⟩) hf' hh ?_
      · rcases hj with hj | hj
        · have := hG j hj; omega
        · omega
      · intro m' v x h' c' w' hk' hcc hr hle' hb' hs'
        exact ih (i + 1) _ h' c' m' _ w' hl' (by omega) (by omega) (by omega) hk' ((hf'.le hle').put o.dst hr) (hput _) (hs'.mono fun j hj => by
          rcases hj with (hj | hj) | hj
          · exact .inl ⟨.inl hj, by have := hG j hj; omega⟩
          · exact .inl ⟨.inr ⟨by omega, hj.2⟩, by omega⟩
          · exact .inr hj) (PMap.le_trans hle hle') (hb.trans hb')
    · rw [if_neg hw]
      rw [if_neg hw] at hh
      refine ⟨upon_about P ro o w _, ?_⟩
      exact ih (i + 1) _ h c m _ w hl' (by omega) hcb hnx hh (hf'.put o.dst (undef_rel m)) (hput _) (s.mono fun j hj => by
        rcases hj with (hj | hj) | hj
        · exact .inl (.inl hj)
        · exact .inl (.inr ⟨by omega, hj.2⟩)
        · exact .inr hj) hle hb

end Go.Proofs.YtahilinkfnchaaaDoor.T
