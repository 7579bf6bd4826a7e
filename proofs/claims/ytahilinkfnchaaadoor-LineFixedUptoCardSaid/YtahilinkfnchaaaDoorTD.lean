/- Regions that draw their order: the machine's run of one, and that it serves every order. Nothing of a program. -/
import Derived.Test.YtahilinkfnchaaaDoorTC
set_option linter.unusedVariables false
set_option linter.unusedSimpArgs false
namespace Go.Proofs.YtahilinkfnchaaaDoor.T
open Go Go.RowKit
open Glo (N)

variable {R : Type}

structure St where
  fr : Fr
  h : AHeap
  c : Nat

/-- What one operation of a region did: nothing (not wanted), an effect, a call (function, arguments, value, heap and next number ahead of it and behind it). -/
inductive SE where
  | skip
  | op (e : Eff)
  | call (f : Cal) (args : List AV) (v : AV) (h h' : AHeap) (c c' : Nat)
/-- The same, for any order: of a call what it keeps, and the numbers at which blocks may lie beside it without its seeing them. -/
inductive SE2 where
  | skip
  | op (e : Eff)
  | call (v : AV) (c c' : Nat) (K : Nat → Prop) (ids : List Nat)

def wantA (ops : Array Oper) (o : Oper) (fr : Fr) : Option Bool :=
  match o.guard with
  | none => some true
  | some (j, want) => (match dstOf ops j with
    | none => none
    | some t => (match fr.f t with
      | .bool b => some (b == want)
      | .tuple _ => some false
      | _ => none))

def Step0 (M : Mach) (call : CalF) (ops : Array Oper) (base i : Nat) (s : St) (E : SE) (s' : St) : Prop :=
  ∃ o, ops[i]? = some o ∧ match E with
    | .skip => wantA ops o s.fr = some false ∧ s' = ⟨putA s.fr o.dst .undef, s.h, s.c⟩
    | .op e => wantA ops o s.fr = some true ∧ calledOf o.op = none ∧ opK M.T s.fr o.op (base + i) s.h some = some e ∧ s' = ⟨putA s.fr o.dst e.v, s.h.puts e.sets, s.c⟩
    | .call fn xs v h h' c c' => wantA ops o s.fr = some true ∧ h = s.h ∧ c = s.c ∧ (∃ f args first caps, calledOf o.op = some (f, args) ∧ calM M.T o.op (evalA s.fr f) = some (fn, first, caps) ∧ xs = first ++ args.map (evalA s.fr) ++ caps ∧ call fn xs s.h s.c = some (v, h', c')) ∧ s' = ⟨putA s.fr o.dst v, h', c'⟩
def Step1 (M : Mach) (call : CalF) (ops : Array Oper) (base i : Nat) (s : St) (E : SE2) (s' : St) : Prop :=
  ∃ o, ops[i]? = some o ∧ match E with
    | .skip => wantA ops o s.fr = some false ∧ s' = ⟨putA s.fr o.dst .undef, s.h, s.c⟩
    | .op e => wantA ops o s.fr = some true ∧ calledOf o.op = none ∧ opK M.T s.fr o.op (base + i) s.h some = some e ∧ s' = ⟨putA s.fr o.dst e.v, s.h.puts e.sets, s.c⟩
    | .call v c c' K ids => wantA ops o s.fr = some true ∧ c = s.c ∧ ∃ h', (∀ x, K x → h' x = s.h x) ∧ (∃ f args fn first caps, calledOf o.op = some (f, args) ∧ calM M.T o.op (evalA s.fr f) = some (fn, first, caps) ∧ ∀ ss : List (Nat × Option ABlk), (∀ p ∈ ss, p.1 ∈ ids) → call fn (first ++ args.map (evalA s.fr) ++ caps) (s.h.puts ss) s.c = some (v, h'.puts ss, c')) ∧ s' = ⟨putA s.fr o.dst v, h', c'⟩

inductive Run0 (M : Mach) (call : CalF) (ops : Array Oper) (base : Nat) : St → List (Nat × SE) → St → Prop where
  | nil (s : St) : Run0 M call ops base s [] s
  | cons {s s1 s2 : St} {i : Nat} {E : SE} {l : List (Nat × SE)} : Step0 M call ops base i s E s1 → Run0 M call ops base s1 l s2 → Run0 M call ops base s ((i, E) :: l) s2
inductive Run (M : Mach) (call : CalF) (ops : Array Oper) (base : Nat) : St → List (Nat × SE2) → St → Prop where
  | nil (s : St) : Run M call ops base s [] s
  | cons {s s1 s2 : St} {i : Nat} {E : SE2} {l : List (Nat × SE2)} : Step1 M call ops base i s E s1 → Run M call ops base s1 l s2 → Run M call ops base s ((i, E) :: l) s2

/-! ### the machine's run -/
noncomputable def drawOps (M : Mach) (call : CalF) (ops : Array Oper) (base : Nat) : List (Oper × Nat) → Fr → AHeap → Nat → List (Nat × SE) → (Fr → AHeap → Nat → List (Nat × SE) → Option R) → Option R
  | [], fr, h, c, acc, K => K fr h c acc
  | (o, i) :: rest, fr, h, c, acc, K => guardK ops o fr fun fr want =>
      if want = true then
        (match calledOf o.op with
         | some (f, args) => (calM M.T o.op (evalA fr f)).bind fun q => (call q.1 (q.2.1 ++ args.map (evalA fr) ++ q.2.2) h c).bind fun r => norm (M.L o.type) r.1 fun v => drawOps M call ops base rest (putA fr o.dst v) r.2.1 r.2.2 (acc ++ [(i, .call q.1 (q.2.1 ++ args.map (evalA fr) ++ q.2.2) v h r.2.1 c r.2.2)]) K
         | none => opK M.T fr o.op (base + i) h fun e => if looks o.op = true then norm (M.L o.type) e.v fun v => drawOps M call ops base rest (putA fr o.dst v) (h.puts e.sets) c (acc ++ [(i, .op ⟨v, e.sets, e.reads⟩)]) K
             else drawOps M call ops base rest (putA fr o.dst e.v) (h.puts e.sets) c (acc ++ [(i, .op e)]) K)
      else drawOps M call ops base rest (putA fr o.dst .undef) h c (acc ++ [(i, .skip)]) K

def predsB (ops : Array Oper) (i : Nat) : List Nat := match ops[i]? with | some o => (o.after.toList.filter fun e => Region.binds .any e).map (·.on) | none => []
/-- Those ahead of n, as the bits of a number; the masks of those below n, the last first. -/
def maskOf (ops : Array Oper) (l : List Nat) (n : Nat) : Nat := (predsB ops n).foldl (fun m p => m ||| (1 <<< p) ||| bif Nat.blt p n then l.getD (n - 1 - p) 0 else 0) 0
def masksTo (ops : Array Oper) : Nat → List Nat
  | 0 => []
  | n + 1 => maskOf ops (masksTo ops n) n :: masksTo ops n
/-- j stands ahead of i. -/
def befB (ops : Array Oper) (j i : Nat) : Bool := Nat.testBit (maskOf ops (masksTo ops i) i) j
def apartB (ops : Array Oper) (j i : Nat) : Bool := match ops[j]?, ops[i]? with | some x, some y => x.apart ops y | _, _ => false

/-- What an operation does to the heap: 0 nothing, 1 reads, 2 a block of its own, 3 anything. -/
def kindO : Op → Nat
  | .load .. => 1
  | .slice .. => 1
  | .lookup .. => 1
  | .makeMap .. => 2
  | .convert .. => 2
  | .mapUpdate .. => 3
  | .alloc .. => 2
  | .box .. => 2
  | .buildSlice .. => 2
  | .makeSlice .. => 2
  | .range .. => 2
  | .next .. => 3
  | .store .. => 3
  | .call { callee := .builtin b, .. } => (match b with | .len => 1 | .min => 0 | .max => 0 | _ => 3)
  | .call .. => 3
  | _ => 0
def kindB (ops : Array Oper) (i : Nat) : Nat := match ops[i]? with | some o => kindO o.op | none => 3

def idsOf (s : List (Nat × Option ABlk)) : List Nat := s.map fun p => p.1
/-- What has to be apart, of two that are not ordered: lists of numbers, two by two. -/
def apartP (base j i kj ki : Nat) (a b : Eff) : List (List Nat × List Nat) :=
  match kj, ki with
  | 1, 2 => [([base + i], a.reads)]
  | 2, 1 => [([base + j], b.reads)]
  | 2, 3 => [([base + j], b.reads)]
  | 3, 2 => [([base + i], a.reads)]
  | 1, 3 => [(idsOf b.sets, a.reads)]
  | 3, 1 => [(idsOf a.sets, b.reads)]
  | 3, 3 => [(idsOf a.sets, b.reads), (idsOf b.sets, a.reads)]
  | _, _ => []
def meetB (kj ki : Nat) : SE → SE → Bool
  | .skip, _ => true
  | _, .skip => true
  | .op _, .op _ => true
  | .op _, .call .. => Nat.beq kj 0 || Nat.beq kj 1
  | .call .., .op _ => Nat.beq ki 0 || Nat.beq ki 1 || Nat.beq ki 2
  | .call .., .call .. => false
def pairsB (ops : Array Oper) : List (Nat × SE) → Bool
  | [] => true
  | (j, E) :: l => (l.all fun q => befB ops j q.1 || (apartB ops j q.1 && meetB (kindB ops j) (kindB ops q.1) E q.2)) && pairsB ops l
def apartL (ops : Array Oper) (base : Nat) : List (Nat × SE) → List (List Nat × List Nat)
  | [] => []
  | (j, E) :: l => (l.flatMap fun q => bif befB ops j q.1 then [] else match E, q.2 with
      | .op a, .op b => apartP base j q.1 (kindB ops j) (kindB ops q.1) a b
      | _, _ => []) ++ apartL ops base l
/-- What a call beside a read has to leave alone. -/
def keptP (kj ki : Nat) : SE → SE → List (AHeap × AHeap × List Nat)
  | .op a, .call _ _ _ h h' _ _ => bif Nat.beq kj 1 then [(h, h', a.reads)] else []
  | .call _ _ _ h h' _ _, .op b => bif Nat.beq ki 1 then [(h, h', b.reads)] else []
  | _, _ => []
def keptL (ops : Array Oper) : List (Nat × SE) → List (AHeap × AHeap × List Nat)
  | [] => []
  | (j, E) :: l => (l.flatMap fun q => bif befB ops j q.1 then [] else keptP (kindB ops j) (kindB ops q.1) E q.2) ++ keptL ops l
/-- The numbers of the blocks that may come to lie beside a call. -/
def besideL (ops : Array Oper) (base j : Nat) (l : List (Nat × SE)) : List Nat :=
  l.flatMap fun q => bif befB ops j q.1 then [] else match q.2 with
    | .op _ => bif Nat.beq (kindB ops q.1) 2 then [base + q.1] else []
    | _ => []
structure Rob where
  f : Cal
  args : List AV
  v : AV
  h : AHeap
  h' : AHeap
  c : Nat
  c' : Nat
  ids : List Nat
def robL (ops : Array Oper) (base : Nat) : List (Nat × SE) → List Rob
  | [] => []
  | (j, E) :: l => (match E with
      | .call f args v h h' c c' => (match besideL ops base j l with | [] => [] | ids => [⟨f, args, v, h, h', c, c', ids⟩])
      | _ => []) ++ robL ops base l
def edgesB (ops : Array Oper) : Bool := (List.range ops.toList.length).all fun i => (predsB ops i).all fun p => decide (p < i)

def AllApart : List (List Nat × List Nat) → Prop
  | [] => True
  | t :: l => (∀ x ∈ t.1, x ∉ t.2) ∧ AllApart l
def AllKept : List (AHeap × AHeap × List Nat) → Prop
  | [] => True
  | t :: l => (∀ x ∈ t.2.2, t.2.1 x = t.1 x) ∧ AllKept l
def AllRob (call : CalF) : List Rob → Prop
  | [] => True
  | t :: l => (∀ ss : List (Nat × Option ABlk), (∀ p ∈ ss, p.1 ∈ t.ids) → call t.f t.args (t.h.puts ss) t.c = some (t.v, t.h'.puts ss, t.c')) ∧ AllRob call l
open Classical in
noncomputable def ifApart (l : List (List Nat × List Nat)) (K : Option R) : Option R :=
  match l with
  | [] => K
  | t :: l => if AllApart (t :: l) then K else none
open Classical in
noncomputable def ifKept (l : List (AHeap × AHeap × List Nat)) (K : Option R) : Option R :=
  match l with
  | [] => K
  | t :: l => if AllKept (t :: l) then K else none
open Classical in
noncomputable def ifRob (call : CalF) (l : List Rob) (K : Option R) : Option R :=
  match l with
  | [] => K
  | t :: l => if AllRob call (t :: l) then K else none

noncomputable def drawK : DrawF R := fun M call ops fr h nx K =>
  if edgesB ops = true then drawOps M call ops nx ops.toList.zipIdx fr h (nx + ops.toList.length) [] fun fr h c log => if pairsB ops log = true then ifApart (apartL ops nx log) (ifKept (keptL ops log) (ifRob call (robL ops nx log) (K fr h c))) else none
  else none

/-! ### a run, out of it -/
theorem guardK_out {ops : Array Oper} {o : Oper} {fr : Fr} {K : Fr → Bool → Option R} {r : R} (hh : guardK ops o fr K = some r) : ∃ w, wantA ops o fr = some w ∧ K fr w = some r := by
  unfold guardK at hh
  unfold wantA
  cases hg : o.guard with
  | none => rw [hg] at hh; exact ⟨true, rfl, hh⟩
  | some q =>
    obtain ⟨j, want⟩ := q
    rw [hg] at hh
    simp only at hh ⊢
    cases et : dstOf ops j with
    | none => rw [et] at hh; cases hh
    | some t =>
      rw [et] at hh
      simp only at hh ⊢
      generalize eb : fr.f t = u at hh ⊢
      cases u with
      | bool b =>
        simp only at hh ⊢
        have hset : putF fr t (.bool b) = fr := putF_self eb
        cases b with
        | true => rw [if_pos rfl, hset] at hh; exact ⟨_, rfl, by cases want <;> exact hh⟩
        | false => rw [if_neg (by decide), hset] at hh; exact ⟨_, rfl, by cases want <;> exact hh⟩
      | tuple vs => exact ⟨false, rfl, hh⟩
      | _ => cases hh

theorem opK_out {T : Types} {fr : Fr} {op : Op} {id : Nat} {h : AHeap} {K : Eff → Option R} {r : R} (hh : opK T fr op id h K = some r) : ∃ e, opK T fr op id h some = some e ∧ K e = some r := by
  rw [opK_bind] at hh
  cases he : opK T fr op id h some with
  | none => rw [he] at hh; cases hh
  | some e => rw [he] at hh; exact ⟨e, rfl, hh⟩

theorem drawOps_run {M : Mach} {call : CalF} {ops : Array Oper} {base : Nat} {K : Fr → AHeap → Nat → List (Nat × SE) → Option R} {r : R} : ∀ (rest : List (Oper × Nat)) (fr : Fr) (h : AHeap) (c : Nat) (acc : List (Nat × SE)),
    (∀ p ∈ rest, ops[p.2]? = some p.1) → drawOps M call ops base rest fr h c acc K = some r →
    ∃ l sf, Run0 M call ops base ⟨fr, h, c⟩ l sf ∧ l.map (·.1) = rest.map (·.2) ∧ K sf.fr sf.h sf.c (acc ++ l) = some r := by
  intro rest
  induction rest with
  | nil => intro fr h c acc _ hh; exact ⟨[], ⟨fr, h, c⟩, .nil _, rfl, by simpa [drawOps] using hh⟩
  | cons p rest ih =>
    intro fr h c acc hp hh
    obtain ⟨o, i⟩ := p
    have ho := hp (o, i) (by simp)
    have hp' : ∀ p ∈ rest, ops[p.2]? = some p.1 := fun p hq => hp p (List.mem_cons_of_mem _ hq)
    simp only [drawOps] at hh
    obtain ⟨want, hw, hh⟩ := guardK_out hh
    cases want with
    | false =>
      rw [if_neg (by decide)] at hh
      obtain ⟨l, sf, hr, hl, hk⟩ := ih _ _ _ _ hp' hh
      exact ⟨(i, .skip) :: l, sf, .cons ⟨o, ho, hw, rfl⟩ hr, by simp [hl], by simpa using hk⟩
    | true =>
      rw [if_pos rfl] at hh
      split at hh
      · rename_i f args ec
        obtain ⟨⟨fn, first, caps⟩, ef, hh⟩ := Option.bind_eq_some_iff.1 hh
        simp only at hh ef
        · cases hc : call fn (first ++ args.map (evalA fr) ++ caps) h c with
          | none => rw [hc] at hh; cases hh
          | some res =>
            rw [hc] at hh; simp only [Option.bind_some] at hh
            have hh := norm_eq hh
            obtain ⟨l, sf, hr, hl, hk⟩ := ih _ _ _ _ hp' hh
            exact ⟨(i, .call fn (first ++ args.map (evalA fr) ++ caps) res.1 h res.2.1 c res.2.2) :: l, sf, .cons ⟨o, ho, hw, rfl, rfl, ⟨f, args, first, caps, ec, ef, rfl, hc⟩, rfl⟩ hr, by simp [hl], by simpa using hk⟩
      · rename_i ec
        obtain ⟨e, he, hh⟩ := opK_out hh
        have hh2 : drawOps M call ops base rest (putA fr o.dst e.v) (h.puts e.sets) c (acc ++ [(i, .op e)]) K = some r := by
          split at hh
          · exact norm_eq hh
          · exact hh
        obtain ⟨l, sf, hr, hl, hk⟩ := ih _ _ _ _ hp' hh2
        exact ⟨(i, .op e) :: l, sf, .cons ⟨o, ho, hw, ec, he, rfl⟩ hr, by simp [hl], by simpa using hk⟩

theorem opK_kind0 (fr : Fr) (op : Op) (id : Nat) (hk : kindO op = 0) (T : Types) : (∀ h1 h2, opK T fr op id h1 some = opK T fr op id h2 some) ∧ ∀ h e, opK T fr op id h some = some e → e.sets = [] := by
  cases op with
  | load t a => cases hk
  | slice t x lo hi mx => cases hk
  | alloc t => cases hk
  | box t v => cases hk
  | buildSlice t n ps => cases hk
  | makeSlice t l c => cases hk
  | store t a v => cases hk
  | lookup t x k ok => cases hk
  | mapUpdate t x k v => cases hk
  | makeMap t r => cases hk
  | range t x => cases hk
  | next x b => cases hk
  | move x => exact ⟨fun _ _ => rfl, fun h e he => by obtain rfl := Option.some.inj he; rfl⟩
  | assign x => exact ⟨fun _ _ => rfl, fun h e he => by obtain rfl := Option.some.inj he; rfl⟩
  | pick c a b =>
    exact ⟨fun _ _ => rfl, fun h e he => by
      simp only [opK] at he
      split at he
      · obtain rfl := Option.some.inj he; rfl
      · cases he⟩
  | build t ps =>
    exact ⟨fun _ _ => rfl, fun h e he => by
      simp only [opK, buildA] at he
      split at he
      · split at he
        · split at he
          · generalize fillA _ _ _ = q at he
            cases q with
            | none => cases he
            | some q => obtain rfl := Option.some.inj he; rfl
          · cases he
        · split at he
          · generalize fillA _ _ _ = q at he
            cases q with
            | none => cases he
            | some q => obtain rfl := Option.some.inj he; rfl
          · cases he
        · cases he
      · cases he⟩
  | fieldAddr t x f =>
    exact ⟨fun _ _ => rfl, fun h e he => by
      simp only [opK, fieldAddrA] at he
      repeat' (first | (cases he; done) | (obtain rfl := Option.some.inj he; rfl) | (obtain ⟨_, _, he⟩ := Option.bind_eq_some_iff.1 he; obtain rfl := Option.some.inj he; rfl) | split at he)⟩
  | field t x f =>
    exact ⟨fun _ _ => rfl, fun h e he => by
      simp only [opK, fieldA] at he
      repeat' (first | (cases he; done) | (exact partA_sets he) | split at he)⟩
  | indexAddr t x i =>
    exact ⟨fun _ _ => rfl, fun h e he => by
      simp only [opK, indexAddrA] at he
      repeat' (first | (cases he; done) | (obtain rfl := Option.some.inj he; rfl) | (obtain ⟨_, _, he⟩ := Option.bind_eq_some_iff.1 he; split at he; · (obtain rfl := Option.some.inj he; rfl)) | split at he)⟩
  | index t x i =>
    exact ⟨fun _ _ => rfl, fun h e he => by
      simp only [opK, indexA] at he
      split at he
      · repeat' (first | (cases he; done) | (exact partA_sets he) | split at he)
      · rename_i sx k i ti _ _ _
        split at he
        · split at he
          · cases hq : sx.data.toList[i.toNat]? with
            | none => rw [hq] at he; cases he
            | some q => rw [hq] at he; obtain rfl := Option.some.inj he; rfl
          · cases he
        · cases he
      · cases he⟩
  | binOp op t x y yt =>
    exact ⟨fun _ _ => rfl, fun h e he => by
      rw [show opK T fr (.binOp op t x y yt) id h some = binN T t op y (evalA fr x) (evalA fr y) (fun v => some ⟨v, [], []⟩) from rfl, binN_bind] at he
      generalize binN _ _ _ _ _ _ _ = q at he
      cases q with
      | none => cases he
      | some q => obtain rfl := Option.some.inj he; rfl⟩
  | unOp op t x =>
    exact ⟨fun _ _ => rfl, fun h e he => by
      rw [show opK T fr (.unOp op t x) id h some = unA op (evalA fr x) (fun v => some ⟨v, [], []⟩) from rfl, unA_bind] at he
      generalize unA _ _ _ = q at he
      cases q with
      | none => cases he
      | some q => obtain rfl := Option.some.inj he; rfl⟩
  | convert s d x => cases hk
  | extract t i =>
    exact ⟨fun _ _ => rfl, fun h e he => by
      simp only [opK, extractA] at he
      split at he
      · rename_i vs _
        cases hq : vs[i]? with
        | none => rw [hq] at he; cases he
        | some q => rw [hq] at he; obtain rfl := Option.some.inj he; rfl
      · cases he⟩
  | makeInterface t x =>
    exact ⟨fun _ _ => rfl, fun h e he => by
      simp only [opK] at he
      obtain ⟨ti, et, he⟩ := Option.bind_eq_some_iff.1 he
      split at he
      · cases he
      · obtain rfl := Option.some.inj he; rfl⟩
  | makeFunc fn first caps =>
    exact ⟨fun _ _ => rfl, fun h e he => by
      simp only [opK] at he
      split at he
      · obtain rfl := Option.some.inj he; rfl
      · cases he⟩
  | nilCheck x =>
    exact ⟨fun _ _ => rfl, fun h e he => by
      simp only [opK] at he
      repeat' (first | (cases he; done) | (obtain rfl := Option.some.inj he; rfl) | (obtain ⟨_, _, he⟩ := Option.bind_eq_some_iff.1 he; obtain rfl := Option.some.inj he; rfl) | split at he)⟩
  | call cc =>
    obtain ⟨callee, args, ts⟩ := cc
    cases callee with
    | value f => cases hk
    | invoke r mt => cases hk
    | builtin b =>
      cases b <;> simp only [kindO] at hk <;> try (cases hk; done)
      case min =>
        refine ⟨fun h1 h2 => ?_, fun h e he => ?_⟩
        · simp only [opK, builtinK]; split <;> simp_all
        · simp only [opK, builtinK] at he
          split at he <;> first
            | contradiction
            | (cases he; done)
            | (generalize mostA _ _ _ = q at he; cases q with
               | none => cases he
               | some q => obtain rfl := Option.some.inj he; rfl)
      case max =>
        refine ⟨fun h1 h2 => ?_, fun h e he => ?_⟩
        · simp only [opK, builtinK]; split <;> simp_all
        · simp only [opK, builtinK] at he
          split at he <;> first
            | contradiction
            | (cases he; done)
            | (generalize mostA _ _ _ = q at he; cases q with
               | none => cases he
               | some q => obtain rfl := Option.some.inj he; rfl)
  | _ => exact ⟨fun _ _ => rfl, fun h e he => by simp [opK] at he⟩

theorem opK_kind1 (fr : Fr) (op : Op) (id : Nat) (hk : kindO op = 1) (T : Types) : ∀ h e, opK T fr op id h some = some e → e.sets = [] := by
  intro h e he
  cases op with
  | load t a =>
    simp only [opK, loadA] at he
    split at he
    · obtain ⟨a, _, he⟩ := Option.bind_eq_some_iff.1 he
      split at he
      · obtain ⟨c, _, he⟩ := Option.bind_eq_some_iff.1 he; obtain rfl := Option.some.inj he; rfl
      · obtain ⟨c, _, he⟩ := Option.bind_eq_some_iff.1 he; obtain rfl := Option.some.inj he; rfl
    · cases he
  | slice t x lo hi mx =>
    simp only [opK, sliceA] at he
    repeat' (first | (cases he; done) | (obtain ⟨_, _, he⟩ := Option.bind_eq_some_iff.1 he; obtain rfl := Option.some.inj he; rfl) | split at he)
  | call cc =>
    obtain ⟨callee, args, ts⟩ := cc
    cases callee with
    | value f => cases hk
    | invoke r mt => cases hk
    | builtin b =>
      cases b <;> simp only [kindO] at hk <;> try (cases hk; done)
      simp only [opK, builtinK] at he
      split at he <;> first
        | contradiction
        | (cases he; done)
        | (simp only [lenM] at he
           split at he
           · obtain ⟨_, _, he⟩ := Option.bind_eq_some_iff.1 he
             obtain ⟨_, _, he⟩ := Option.bind_eq_some_iff.1 he
             obtain rfl := Option.some.inj he; rfl
           · simp only [lenA] at he
             repeat' (first | (cases he; done) | (obtain rfl := Option.some.inj he; rfl) | split at he))
  | lookup t x k ok =>
    simp only [opK, lookupA] at he
    split at he
    · obtain ⟨_, _, he⟩ := Option.bind_eq_some_iff.1 he
      obtain ⟨_, _, he⟩ := Option.bind_eq_some_iff.1 he
      obtain ⟨_, _, he⟩ := Option.bind_eq_some_iff.1 he
      obtain rfl := Option.some.inj he; rfl
    · cases he
  | _ => cases hk

theorem opK_kind2 (fr : Fr) (op : Op) (id : Nat) (hk : kindO op = 2) (T : Types) : (∀ h1 h2, opK T fr op id h1 some = opK T fr op id h2 some) ∧ ∀ h e, opK T fr op id h some = some e → ∀ p ∈ e.sets, p.1 = id := by
  cases op with
  | alloc t =>
    refine ⟨fun _ _ => rfl, fun h e he => ?_⟩
    simp only [opK, allocA] at he
    split at he
    · exact boxA_sets he
    · cases he
  | box t v => exact ⟨fun _ _ => rfl, fun h e he => boxA_sets (es := esOf T t) (cs := (evalA fr v).cells) he⟩
  | buildSlice t n ps =>
    refine ⟨fun _ _ => rfl, fun h e he => ?_⟩
    simp only [opK, buildSliceA] at he
    split at he
    · split at he
      · split at he
        · split at he
          · generalize fillA _ _ _ = q at he
            cases q with
            | none => cases he
            | some q =>
              simp only [Option.bind_some] at he
              split at he
              · obtain rfl := Option.some.inj he; intro p hp; simp at hp; subst hp; rfl
              · cases he
          · cases he
        · cases he
      · cases he
    · cases he
  | range t x => exact ⟨fun _ _ => rfl, fun h e he => rangeA_sets he⟩
  | makeMap t r =>
    refine ⟨fun _ _ => rfl, fun h e he => ?_⟩
    simp only [opK, makeMapA] at he
    obtain ⟨te, _, he⟩ := Option.bind_eq_some_iff.1 he
    repeat' (first | (cases he; done) | (obtain rfl := Option.some.inj he; intro p hp; simp at hp; subst hp; rfl) | split at he)
  | convert s d x =>
    refine ⟨fun _ _ => rfl, fun h e he => ?_⟩
    exact convertA_sets he
  | makeSlice t l c =>
    refine ⟨fun _ _ => rfl, fun h e he => ?_⟩
    simp only [opK, makeA] at he
    repeat' (first | (cases he; done) | (obtain rfl := Option.some.inj he; intro p hp; simp at hp; subst hp; rfl) | split at he)
  | call cc =>
    obtain ⟨callee, args, ts⟩ := cc
    cases callee with
    | value f => cases hk
    | invoke r mt => cases hk
    | builtin b => cases b <;> cases hk
  | _ => cases hk

/-! ### two that do not meet may change places -/
theorem putA_get_ne {fr : Fr} {dst : Option Tmp} {v : AV} {t : Nat} (h : dst ≠ some t) : (putA fr dst v).f t = fr.f t := by
  cases dst with
  | none => rfl
  | some q =>
    simp only [putA]
    cases Nat.blt q fr.nt with
    | false => rfl
    | true =>
      simp only [cond_true, putF]
      cases e : Nat.beq t q with
      | true => exact absurd (congrArg some (Nat.eq_of_beq_eq_true e).symm) h
      | false => rfl
theorem putA_nt {fr : Fr} {dst : Option Tmp} {v : AV} : (putA fr dst v).nt = fr.nt := by
  cases dst with
  | none => rfl
  | some q => simp only [putA]; cases Nat.blt q fr.nt <;> rfl

theorem putA_gk {fr : Fr} {dst : Option Tmp} {v : AV} : (putA fr dst v).gk = fr.gk := by
  cases dst with
  | none => rfl
  | some q => simp only [putA]; cases Nat.blt q fr.nt <;> rfl

theorem evalA_put {fr : Fr} {dst : Option Tmp} {v : AV} {x : Operand} (h : ∀ d, dst = some d → x ≠ .tmp d) : evalA (putA fr dst v) x = evalA fr x := by
  cases x with
  | tmp t => exact putA_get_ne fun e => h t e rfl
  | global g => simp only [evalA, putA_gk]
  | _ => rfl

theorem looksAt_op {ops : Array Oper} {o : Oper} {t : Nat} (h : Operand.tmp t ∈ o.op.operands.toList) : t ∈ o.looksAt ops :=
  List.mem_append_left _ (List.mem_filterMap.2 ⟨.tmp t, h, rfl⟩)

theorem wantA_put {ops : Array Oper} {o : Oper} {fr : Fr} {dst : Option Tmp} {v : AV} (h : ∀ d, dst = some d → d ∉ o.looksAt ops) : wantA ops o (putA fr dst v) = wantA ops o fr := by
  unfold wantA
  cases hg : o.guard with
  | none => rfl
  | some q =>
    obtain ⟨j, want⟩ := q
    simp only
    cases hd : dstOf ops j with
    | none => rfl
    | some t =>
      simp only
      rw [putA_get_ne]
      intro e
      refine h t e (List.mem_append_right _ ?_)
      rw [hg]
      unfold dstOf at hd
      simp [hd]

theorem called_operands {op : Op} {f : Operand} {args : List Operand} (h : calledOf op = some (f, args)) : op.operands.toList = f :: args := by
  cases op <;> simp only [calledOf] at h <;> try (cases h; done)
  rename_i cc
  obtain ⟨callee, args', ts⟩ := cc
  cases callee <;> simp only at h <;> try (cases h; done)
  all_goals
    simp only [Option.some.injEq, Prod.mk.injEq] at h
    obtain ⟨rfl, rfl⟩ := h
    simp [Op.operands, Call.operands]

theorem puts_get {h : AHeap} : ∀ (s : List (Nat × Option ABlk)) (i : Nat), i ∉ s.map (·.1) → h.puts s i = h i := by
  intro s
  induction s generalizing h with
  | nil => intro i _; rfl
  | cons p s ih =>
    intro i hi
    simp only [List.map_cons, List.mem_cons, not_or] at hi
    simp only [AHeap.puts]
    rw [ih i hi.2]
    unfold AHeap.put
    rw [if_neg hi.1]

theorem put_puts {h : AHeap} {i : Nat} {b : Option ABlk} : ∀ (s : List (Nat × Option ABlk)), i ∉ s.map (·.1) → (h.put i b).puts s = (h.puts s).put i b := by
  intro s
  induction s generalizing h with
  | nil => intro _; rfl
  | cons p s ih =>
    intro hi
    simp only [List.map_cons, List.mem_cons, not_or] at hi
    simp only [AHeap.puts]
    have : (h.put i b).put p.1 p.2 = (h.put p.1 p.2).put i b := by
      funext j
      unfold AHeap.put
      by_cases e1 : j = p.1
      · by_cases e2 : j = i
        · exact absurd (e2.symm.trans e1) hi.1
        · rw [if_pos e1, if_neg e2, if_pos e1]
      · rw [if_neg e1]
        by_cases e2 : j = i
        · rw [if_pos e2, if_pos e2]
        · rw [if_neg e2, if_neg e2, if_neg e1]
    rw [this, ih hi.2]

theorem puts_comm {h : AHeap} : ∀ (s1 s2 : List (Nat × Option ABlk)), (∀ x ∈ s1.map (·.1), x ∉ s2.map (·.1)) → (h.puts s1).puts s2 = (h.puts s2).puts s1 := by
  intro s1
  induction s1 generalizing h with
  | nil => intro s2 _; rfl
  | cons p s1 ih =>
    intro s2 hd
    simp only [AHeap.puts]
    rw [ih s2 (fun x hx => hd x (by simp only [List.map_cons, List.mem_cons]; exact .inr hx)), put_puts s2 (hd p.1 (by simp))]

theorem putA_comm {fr : Fr} {x y : Option Tmp} {v u : AV} (h : ∀ d, x = some d → y ≠ some d) : putA (putA fr x v) y u = putA (putA fr y u) x v := by
  cases x with
  | none => rfl
  | some d =>
    cases y with
    | none => rfl
    | some e =>
      have hne : d ≠ e := fun he => h d rfl (he ▸ rfl)
      simp only [putA]
      cases c1 : Nat.blt d fr.nt <;> cases c2 : Nat.blt e fr.nt <;> simp only [cond_true, cond_false, putF, c1, c2]
      congr 1; funext t
      cases e1 : Nat.beq t d <;> cases e2 : Nat.beq t e <;> simp only [cond_true, cond_false]
      exact absurd ((Nat.eq_of_beq_eq_true e1).symm.trans (Nat.eq_of_beq_eq_true e2)) hne

theorem puts_append {h : AHeap} : ∀ (s1 s2 : List (Nat × Option ABlk)), h.puts (s1 ++ s2) = (h.puts s1).puts s2
  | [], _ => rfl
  | p :: s1, s2 => by simp only [List.cons_append, AHeap.puts]; exact puts_append s1 s2
theorem puts_congr {h h2 : AHeap} {x : Nat} : ∀ (s : List (Nat × Option ABlk)), h x = h2 x → h.puts s x = h2.puts s x := by
  intro s
  induction s generalizing h h2 with
  | nil => intro e; exact e
  | cons p s ih =>
    intro e
    simp only [AHeap.puts]
    refine ih ?_
    unfold AHeap.put
    split
    · rfl
    · exact e

/-- What an effect depends on. -/
def EffR (M : Mach) (ops : Array Oper) (base j : Nat) (a : Eff) (ra : List Nat) : Prop :=
  ∀ o fr h, ops[j]? = some o → opK M.T fr o.op (base + j) h some = some a → ∀ h2 : AHeap, (∀ x ∈ ra, h2 x = h x) → opK M.T fr o.op (base + j) h2 some = some a

/-- Two that are not ordered do not meet. -/
def Meet (M : Mach) (ops : Array Oper) (base j i : Nat) : SE2 → SE2 → Prop
  | .skip, _ => True
  | _, .skip => True
  | .op a, .op b => ∃ ra rb, EffR M ops base j a ra ∧ EffR M ops base i b rb ∧ (∀ x ∈ idsOf a.sets, x ∉ rb) ∧ (∀ x ∈ idsOf b.sets, x ∉ ra) ∧ ∀ x ∈ idsOf a.sets, x ∉ idsOf b.sets
  | .op a, .call _ _ _ K _ => a.sets = [] ∧ ∃ ra, EffR M ops base j a ra ∧ ∀ x ∈ ra, K x
  | .call _ _ _ K ids, .op b => (b.sets = [] ∧ ∃ rb, EffR M ops base i b rb ∧ ∀ x ∈ rb, K x) ∨ (EffR M ops base i b [] ∧ ∀ x ∈ idsOf b.sets, x ∈ ids)
  | .call .., .call .. => False

theorem swap {M : Mach} {call : CalF} {ops : Array Oper} {base j i : Nat} {s s1 s2 : St} {Ej Ei : SE2} (hj : Step1 M call ops base j s Ej s1) (hi : Step1 M call ops base i s1 Ei s2)
    (ha : apartB ops j i = true) (hm : Meet M ops base j i Ej Ei) : ∃ s', Step1 M call ops base i s Ei s' ∧ Step1 M call ops base j s' Ej s2 := by
  obtain ⟨oj, hoj, hj⟩ := hj
  obtain ⟨oi, hoi, hi⟩ := hi
  have hap : oj.apart ops oi = true := by simpa only [apartB, hoj, hoi] using ha
  obtain ⟨a1, a2, a3⟩ := Oper.apart_spec hap
  have a2' : ∀ d, oi.dst = some d → oj.dst ≠ some d := fun d h1 h2 => a2 d h2 h1
  -- operands
  have wi : ∀ v, wantA ops oi (putA s.fr oj.dst v) = wantA ops oi s.fr := fun v => wantA_put a1
  have wj : ∀ v, wantA ops oj (putA s.fr oi.dst v) = wantA ops oj s.fr := fun v => wantA_put a3
  have ei : ∀ v x, x ∈ oi.op.operands.toList → evalA (putA s.fr oj.dst v) x = evalA s.fr x := fun v x hx => evalA_put fun d hd e => a1 d hd (looksAt_op (e ▸ hx))
  have ej : ∀ v x, x ∈ oj.op.operands.toList → evalA (putA s.fr oi.dst v) x = evalA s.fr x := fun v x hx => evalA_put fun d hd e => a3 d hd (looksAt_op (e ▸ hx))
  have comm : ∀ v u, putA (putA s.fr oj.dst v) oi.dst u = putA (putA s.fr oi.dst u) oj.dst v := fun v u => putA_comm a2
  have calli : ∀ v f args, calledOf oi.op = some (f, args) → evalA (putA s.fr oj.dst v) f = evalA s.fr f ∧ args.map (evalA (putA s.fr oj.dst v)) = args.map (evalA s.fr) := fun v f args h => by
    have ho := called_operands h
    exact ⟨ei v f (by rw [ho]; simp), List.map_congr_left fun x hx => ei v x (by rw [ho]; exact List.mem_cons_of_mem _ hx)⟩
  have callj : ∀ v f args, calledOf oj.op = some (f, args) → evalA (putA s.fr oi.dst v) f = evalA s.fr f ∧ args.map (evalA (putA s.fr oi.dst v)) = args.map (evalA s.fr) := fun v f args h => by
    have ho := called_operands h
    exact ⟨ej v f (by rw [ho]; simp), List.map_congr_left fun x hx => ej v x (by rw [ho]; exact List.mem_cons_of_mem _ hx)⟩
  cases Ej with
  | skip =>
    obtain ⟨h1, rfl⟩ := hj
    cases Ei with
    | skip =>
      obtain ⟨h2, rfl⟩ := hi
      rw [wi] at h2
      exact ⟨_, ⟨oi, hoi, h2, rfl⟩, ⟨oj, hoj, by rw [wj]; exact h1, by rw [comm]⟩⟩
    | op e =>
      obtain ⟨h2, h3, h4, rfl⟩ := hi
      rw [wi] at h2
      rw [opK_cong (ei _)] at h4
      exact ⟨_, ⟨oi, hoi, h2, h3, h4, rfl⟩, ⟨oj, hoj, by rw [wj]; exact h1, by rw [comm]⟩⟩
    | call v c c' K ids =>
      obtain ⟨h2, rfl, h', hK, ⟨f, args, fn, first, caps, h3, h4, h5⟩, rfl⟩ := hi
      rw [wi] at h2
      obtain ⟨q1, q2⟩ := calli .undef f args h3
      rw [q1] at h4
      rw [q2] at h5
      exact ⟨_, ⟨oi, hoi, h2, rfl, h', hK, ⟨f, args, fn, first, caps, h3, h4, h5⟩, rfl⟩, ⟨oj, hoj, by rw [wj]; exact h1, by rw [comm]⟩⟩
  | op ej' =>
    obtain ⟨h1, hc1, h0, rfl⟩ := hj
    cases Ei with
    | skip =>
      obtain ⟨h2, rfl⟩ := hi
      rw [wi] at h2
      refine ⟨_, ⟨oi, hoi, h2, rfl⟩, ⟨oj, hoj, by rw [wj]; exact h1, hc1, ?_, by rw [comm]⟩⟩
      rw [opK_cong (ej _)]; exact h0
    | op ei' =>
      obtain ⟨h2, h3, h4, rfl⟩ := hi
      rw [wi] at h2
      rw [opK_cong (ei _)] at h4
      obtain ⟨ra, rb, fa, fb, n1, n2, n3⟩ := hm
      have h4' := fb oi s.fr _ hoi h4 s.h fun x hx => (puts_get _ _ fun hq => n1 x hq hx).symm
      refine ⟨_, ⟨oi, hoi, h2, h3, h4', rfl⟩, ⟨oj, hoj, by rw [wj]; exact h1, hc1, ?_, ?_⟩⟩
      · rw [opK_cong (ej _)]
        exact fa oj s.fr _ hoj h0 _ fun x hx => puts_get _ _ fun hq => n2 x hq hx
      · rw [comm, puts_comm _ _ n3]
    | call v c c' K ids =>
      obtain ⟨h2, rfl, h', hK, ⟨f, args, fn, first, caps, h3, h4, h5⟩, rfl⟩ := hi
      rw [wi] at h2
      obtain ⟨q1, q2⟩ := calli ej'.v f args h3
      rw [q1] at h4
      rw [q2] at h5
      obtain ⟨hs, ra, fa, hra⟩ := hm
      rw [hs] at h5 hK
      simp only [AHeap.puts] at h5 hK
      refine ⟨⟨putA s.fr oi.dst v, h', c'⟩, ⟨oi, hoi, h2, rfl, h', hK, ⟨f, args, fn, first, caps, h3, h4, h5⟩, rfl⟩, ⟨oj, hoj, by rw [wj]; exact h1, hc1, ?_, by rw [comm, hs]; rfl⟩⟩
      rw [opK_cong (ej _)]
      exact fa oj s.fr _ hoj h0 _ fun x hx => hK x (hra x hx)
  | call v c c' K ids =>
    obtain ⟨h1, rfl, h', hK, ⟨f, args, fn, first, caps, hc3, hc4, hc5⟩, rfl⟩ := hj
    cases Ei with
    | skip =>
      obtain ⟨h2, rfl⟩ := hi
      rw [wi] at h2
      obtain ⟨q1, q2⟩ := callj .undef f args hc3
      exact ⟨_, ⟨oi, hoi, h2, rfl⟩, ⟨oj, hoj, by rw [wj]; exact h1, rfl, h', hK, ⟨f, args, fn, first, caps, hc3, by rw [q1]; exact hc4, by rw [q2]; exact hc5⟩, by rw [comm]⟩⟩
    | op ei' =>
      obtain ⟨h2, h3, h4, rfl⟩ := hi
      rw [wi] at h2
      rw [opK_cong (ei _)] at h4
      obtain ⟨q1, q2⟩ := callj ei'.v f args hc3
      rcases hm with ⟨hs, rb, fb, hrb⟩ | ⟨fb, hids⟩
      · have h4' := fb oi s.fr _ hoi h4 s.h fun x hx => (hK x (hrb x hx)).symm
        refine ⟨_, ⟨oi, hoi, h2, h3, h4', rfl⟩, ⟨oj, hoj, by rw [wj]; exact h1, rfl, h', by rw [hs]; exact hK, ⟨f, args, fn, first, caps, hc3, by rw [q1]; exact hc4, ?_⟩, by rw [comm, hs]; rfl⟩⟩
        rw [q2, hs]; exact hc5
      · have h4' := fb oi s.fr _ hoi h4 s.h (fun x hx => by cases hx)
        refine ⟨_, ⟨oi, hoi, h2, h3, h4', rfl⟩, ⟨oj, hoj, by rw [wj]; exact h1, rfl, h'.puts ei'.sets, fun x hx => puts_congr _ (hK x hx), ⟨f, args, fn, first, caps, hc3, by rw [q1]; exact hc4, ?_⟩, by rw [comm]⟩⟩
        intro ss hss
        rw [q2]
        show call fn _ ((s.h.puts ei'.sets).puts ss) s.c = some (v, (h'.puts ei'.sets).puts ss, c')
        rw [← puts_append, ← puts_append]
        refine hc5 _ fun p hp => ?_
        rcases List.mem_append.1 hp with hp | hp
        · exact hids p.1 (List.mem_map.2 ⟨p, hp, rfl⟩)
        · exact hss p hp
    | call v2 c2 c2' K2 ids2 => exact hm.elim

end Go.Proofs.YtahilinkfnchaaaDoor.T
