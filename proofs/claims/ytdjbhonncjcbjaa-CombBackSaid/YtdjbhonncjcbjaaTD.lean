/- Regions that draw their order: the machine's run of one, and that it serves every order. Nothing of a program. -/
import Derived.Test.YtdjbhonncjcbjaaTC
set_option linter.unusedVariables false
set_option linter.unusedSimpArgs false
namespace Go.Proofs.Ytdjbhonncjcbjaa.T
open Go Go.RowKit

variable {R : Type}

structure St where
  fr : Fr
  h : AHeap
  c : Nat

/-- What one operation of a region did: nothing (not wanted), an effect, a call (heap and next number ahead of it and behind it). -/
inductive SE where
  | skip
  | op (e : Eff)
  | call (v : AV) (h h' : AHeap) (c c' : Nat)

def wantA (ops : Array Oper) (o : Oper) (fr : Fr) : Option Bool :=
  match o.guard with
  | none => some true
  | some (j, want) => (match dstOf ops j with
    | none => none
    | some t => (match fr.f t with
      | .bool b => some (b == want)
      | .tuple _ => some false
      | _ => none))

def Step1 (M : Mach) (call : CallF) (ops : Array Oper) (base i : Nat) (s : St) (E : SE) (s' : St) : Prop :=
  ∃ o, ops[i]? = some o ∧ match E with
    | .skip => wantA ops o s.fr = some false ∧ s' = ⟨putA s.fr o.dst .undef, s.h, s.c⟩
    | .op e => wantA ops o s.fr = some true ∧ calledOf o.op = none ∧ opK M.T s.fr o.op (base + i) s.h some = some e ∧ s' = ⟨putA s.fr o.dst e.v, s.h.puts e.sets, s.c⟩
    | .call v h h' c c' => wantA ops o s.fr = some true ∧ h = s.h ∧ c = s.c ∧ (∃ f args fn first caps, calledOf o.op = some (f, args) ∧ evalA s.fr f = .fn fn first caps ∧ call fn (first ++ args.map (evalA s.fr) ++ caps) s.h s.c = some (v, h', c')) ∧ s' = ⟨putA s.fr o.dst v, h', c'⟩

inductive Run (M : Mach) (call : CallF) (ops : Array Oper) (base : Nat) : St → List (Nat × SE) → St → Prop where
  | nil (s : St) : Run M call ops base s [] s
  | cons {s s1 s2 : St} {i : Nat} {E : SE} {l : List (Nat × SE)} : Step1 M call ops base i s E s1 → Run M call ops base s1 l s2 → Run M call ops base s ((i, E) :: l) s2

/-! ### the machine's run -/
def drawOps (M : Mach) (call : CallF) (ops : Array Oper) (base : Nat) : List (Oper × Nat) → Fr → AHeap → Nat → List (Nat × SE) → (Fr → AHeap → Nat → List (Nat × SE) → Option R) → Option R
  | [], fr, h, c, acc, K => K fr h c acc
  | (o, i) :: rest, fr, h, c, acc, K => guardK ops o fr fun fr want =>
      if want = true then
        (match calledOf o.op with
         | some (f, args) => (asFn (evalA fr f)).bind fun q => (call q.1 (q.2.1 ++ args.map (evalA fr) ++ q.2.2) h c).bind fun r => norm (M.L o.type) r.1 fun v => drawOps M call ops base rest (putA fr o.dst v) r.2.1 r.2.2 (acc ++ [(i, .call v h r.2.1 c r.2.2)]) K
         | none => opK M.T fr o.op (base + i) h fun e => if looks o.op = true then norm (M.L o.type) e.v fun v => drawOps M call ops base rest (putA fr o.dst v) (h.puts e.sets) c (acc ++ [(i, .op ⟨v, e.sets, e.reads⟩)]) K
             else drawOps M call ops base rest (putA fr o.dst e.v) (h.puts e.sets) c (acc ++ [(i, .op e)]) K)
      else drawOps M call ops base rest (putA fr o.dst .undef) h c (acc ++ [(i, .skip)]) K

def onB (ops : Array Oper) (j i : Nat) : Bool := match ops[i]? with | some o => o.after.toList.any fun e => Region.binds .any e && e.on == j | none => false
def predsB (ops : Array Oper) (i : Nat) : List Nat := match ops[i]? with | some o => (o.after.toList.filter fun e => Region.binds .any e).map (·.on) | none => []
/-- j stands ahead of i, by one edge or two. -/
def befB (ops : Array Oper) (j i : Nat) : Bool := (predsB ops i).any fun p => p == j || (predsB ops p).any (· == j)
def apartB (ops : Array Oper) (j i : Nat) : Bool := match ops[j]?, ops[i]? with | some x, some y => x.apart ops y | _, _ => false
def noneIn (xs ys : List Nat) : Bool := xs.all fun x => ys.all fun y => x != y
def meetB : SE → SE → Bool
  | .skip, _ => true
  | _, .skip => true
  | .op a, .op b => noneIn (a.sets.map (·.1)) b.reads && noneIn (b.sets.map (·.1)) a.reads && noneIn (a.sets.map (·.1)) (b.sets.map (·.1))
  | .op a, .call .. => a.sets.isEmpty
  | .call .., .op b => b.sets.isEmpty
  | .call .., .call .. => false
/-- What a call beside a read has to leave alone. -/
def keptP : SE → SE → List (AHeap × AHeap × Nat)
  | .op a, .call _ h h' _ _ => a.reads.map fun x => (h, h', x)
  | .call _ h h' _ _, .op b => b.reads.map fun x => (h, h', x)
  | _, _ => []
def pairsB (ops : Array Oper) : List (Nat × SE) → Bool
  | [] => true
  | (j, E) :: l => (l.all fun q => befB ops j q.1 || (apartB ops j q.1 && meetB E q.2)) && pairsB ops l
def keptL (ops : Array Oper) : List (Nat × SE) → List (AHeap × AHeap × Nat)
  | [] => []
  | (j, E) :: l => (l.flatMap fun q => if befB ops j q.1 = true then [] else keptP E q.2) ++ keptL ops l
def edgesB (ops : Array Oper) : Bool := (List.range ops.toList.length).all fun i => (predsB ops i).all fun p => decide (p < i)
def AllKept : List (AHeap × AHeap × Nat) → Prop
  | [] => True
  | t :: l => t.2.1 t.2.2 = t.1 t.2.2 ∧ AllKept l
open Classical in
noncomputable def ifKept (l : List (AHeap × AHeap × Nat)) (K : Option R) : Option R :=
  match l with
  | [] => K
  | t :: l => if AllKept (t :: l) then K else none

noncomputable def drawK : DrawF R := fun M call ops fr h nx K =>
  if edgesB ops = true then drawOps M call ops nx ops.toList.zipIdx fr h (nx + ops.toList.length) [] fun fr h c log => if pairsB ops log = true then ifKept (keptL ops log) (K fr h c) else none
  else none

/-! ### a run, out of it -/
theorem guardK_out {ops : Array Oper} {o : Oper} {fr : Fr} {K : Fr → Bool → Option R} {r : R} (hh : guardK ops o fr K = some r) : ∃ w, wantA ops o fr = some w ∧ K fr w = some r := by
  unfold guardK at hh
  unfold wantA
  cases hg : o.guard with
  | none => rw [hg] at hh; exact ⟨true, rfl, hh⟩
  | some q =>
    obtain ⟨j, want⟩ := q
    rw [hg] at hh
    simp only at hh ⊢
    cases et : dstOf ops j with
    | none => rw [et] at hh; cases hh
    | some t =>
      rw [et] at hh
      simp only at hh ⊢
      generalize eb : fr.f t = u at hh ⊢
      cases u with
      | bool b =>
        simp only at hh ⊢
        have hset : putF fr t (.bool b) = fr := putF_self eb
        cases b with
        | true => rw [if_pos rfl, hset] at hh; exact ⟨_, rfl, by cases want <;> exact hh⟩
        | false => rw [if_neg (by decide), hset] at hh; exact ⟨_, rfl, by cases want <;> exact hh⟩
      | tuple vs => exact ⟨false, rfl, hh⟩
      | _ => cases hh

theorem opK_out {T : Types} {fr : Fr} {op : Op} {id : Nat} {h : AHeap} {K : Eff → Option R} {r : R} (hh : opK T fr op id h K = some r) : ∃ e, opK T fr op id h some = some e ∧ K e = some r := by
  rw [opK_bind] at hh
  cases he : opK T fr op id h some with
  | none => rw [he] at hh; cases hh
  | some e => rw [he] at hh; exact ⟨e, rfl, hh⟩

theorem drawOps_run {M : Mach} {call : CallF} {ops : Array Oper} {base : Nat} {K : Fr → AHeap → Nat → List (Nat × SE) → Option R} {r : R} : ∀ (rest : List (Oper × Nat)) (fr : Fr) (h : AHeap) (c : Nat) (acc : List (Nat × SE)),
    (∀ p ∈ rest, ops[p.2]? = some p.1) → drawOps M call ops base rest fr h c acc K = some r →
    ∃ l sf, Run M call ops base ⟨fr, h, c⟩ l sf ∧ l.map (·.1) = rest.map (·.2) ∧ K sf.fr sf.h sf.c (acc ++ l) = some r := by
  intro rest
  induction rest with
  | nil => intro fr h c acc _ hh; exact ⟨[], ⟨fr, h, c⟩, .nil _, rfl, by simpa [drawOps] using hh⟩
  | cons p rest ih =>
    intro fr h c acc hp hh
    obtain ⟨o, i⟩ := p
    have ho := hp (o, i) (by simp)
    have hp' : ∀ p ∈ rest, ops[p.2]? = some p.1 := fun p hq => hp p (List.mem_cons_of_mem _ hq)
    simp only [drawOps] at hh
    obtain ⟨want, hw, hh⟩ := guardK_out hh
    cases want with
    | false =>
      rw [if_neg (by decide)] at hh
      obtain ⟨l, sf, hr, hl, hk⟩ := ih _ _ _ _ hp' hh
      exact ⟨(i, .skip) :: l, sf, .cons ⟨o, ho, hw, rfl⟩ hr, by simp [hl], by simpa using hk⟩
    | true =>
      rw [if_pos rfl] at hh
      split at hh
      · rename_i f args ec
        obtain ⟨⟨fn, first, caps⟩, ef, hh⟩ := Option.bind_eq_some_iff.1 hh
        have ef := asFn_eq ef
        simp only at hh ef
        · cases hc : call fn (first ++ args.map (evalA fr) ++ caps) h c with
          | none => rw [hc] at hh; cases hh
          | some res =>
            rw [hc] at hh; simp only [Option.bind_some] at hh
            have hh := norm_eq hh
            obtain ⟨l, sf, hr, hl, hk⟩ := ih _ _ _ _ hp' hh
            exact ⟨(i, .call res.1 h res.2.1 c res.2.2) :: l, sf, .cons ⟨o, ho, hw, rfl, rfl, ⟨f, args, fn, first, caps, ec, ef, hc⟩, rfl⟩ hr, by simp [hl], by simpa using hk⟩
      · rename_i ec
        obtain ⟨e, he, hh⟩ := opK_out hh
        have hh2 : drawOps M call ops base rest (putA fr o.dst e.v) (h.puts e.sets) c (acc ++ [(i, .op e)]) K = some r := by
          split at hh
          · exact norm_eq hh
          · exact hh
        obtain ⟨l, sf, hr, hl, hk⟩ := ih _ _ _ _ hp' hh2
        exact ⟨(i, .op e) :: l, sf, .cons ⟨o, ho, hw, ec, he, rfl⟩ hr, by simp [hl], by simpa using hk⟩

/-! ### two that do not meet may change places -/
theorem putA_get_ne {fr : Fr} {dst : Option Tmp} {v : AV} {t : Nat} (h : dst ≠ some t) : (putA fr dst v).f t = fr.f t := by
  cases dst with
  | none => rfl
  | some q =>
    simp only [putA]
    cases Nat.blt q fr.nt with
    | false => rfl
    | true =>
      simp only [cond_true, putF]
      cases e : Nat.beq t q with
      | true => exact absurd (congrArg some (Nat.eq_of_beq_eq_true e).symm) h
      | false => rfl
theorem putA_nt {fr : Fr} {dst : Option Tmp} {v : AV} : (putA fr dst v).nt = fr.nt := by
  cases dst with
  | none => rfl
  | some q => simp only [putA]; cases Nat.blt q fr.nt <;> rfl

theorem evalA_put {fr : Fr} {dst : Option Tmp} {v : AV} {x : Operand} (h : ∀ d, dst = some d → x ≠ .tmp d) : evalA (putA fr dst v) x = evalA fr x := by
  cases x with
  | tmp t => exact putA_get_ne fun e => h t e rfl
  | _ => rfl

theorem looksAt_op {ops : Array Oper} {o : Oper} {t : Nat} (h : Operand.tmp t ∈ o.op.operands.toList) : t ∈ o.looksAt ops :=
  List.mem_append_left _ (List.mem_filterMap.2 ⟨.tmp t, h, rfl⟩)

theorem wantA_put {ops : Array Oper} {o : Oper} {fr : Fr} {dst : Option Tmp} {v : AV} (h : ∀ d, dst = some d → d ∉ o.looksAt ops) : wantA ops o (putA fr dst v) = wantA ops o fr := by
  unfold wantA
  cases hg : o.guard with
  | none => rfl
  | some q =>
    obtain ⟨j, want⟩ := q
    simp only
    cases hd : dstOf ops j with
    | none => rfl
    | some t =>
      simp only
      rw [putA_get_ne]
      intro e
      refine h t e (List.mem_append_right _ ?_)
      rw [hg]
      unfold dstOf at hd
      simp [hd]

theorem called_operands {op : Op} {f : Operand} {args : List Operand} (h : calledOf op = some (f, args)) : op.operands.toList = f :: args := by
  cases op <;> simp only [calledOf] at h <;> try (cases h; done)
  rename_i cc
  obtain ⟨callee, args', ts⟩ := cc
  cases callee <;> simp only at h <;> try (cases h; done)
  simp only [Option.some.injEq, Prod.mk.injEq] at h
  obtain ⟨rfl, rfl⟩ := h
  simp [Op.operands, Call.operands]

theorem noneIn_spec {xs ys : List Nat} (h : noneIn xs ys = true) : ∀ x ∈ xs, x ∉ ys := by
  intro x hx hy
  simp only [noneIn, List.all_eq_true, bne_iff_ne] at h
  exact h x hx x hy rfl

theorem puts_get {h : AHeap} : ∀ (s : List (Nat × Option ABlk)) (i : Nat), i ∉ s.map (·.1) → h.puts s i = h i := by
  intro s
  induction s generalizing h with
  | nil => intro i _; rfl
  | cons p s ih =>
    intro i hi
    simp only [List.map_cons, List.mem_cons, not_or] at hi
    simp only [AHeap.puts]
    rw [ih i hi.2]
    unfold AHeap.put
    rw [if_neg hi.1]

theorem put_puts {h : AHeap} {i : Nat} {b : Option ABlk} : ∀ (s : List (Nat × Option ABlk)), i ∉ s.map (·.1) → (h.put i b).puts s = (h.puts s).put i b := by
  intro s
  induction s generalizing h with
  | nil => intro _; rfl
  | cons p s ih =>
    intro hi
    simp only [List.map_cons, List.mem_cons, not_or] at hi
    simp only [AHeap.puts]
    have : (h.put i b).put p.1 p.2 = (h.put p.1 p.2).put i b := by
      funext j
      unfold AHeap.put
      by_cases e1 : j = p.1
      · by_cases e2 : j = i
        · exact absurd (e2.symm.trans e1) hi.1
        · rw [if_pos e1, if_neg e2, if_pos e1]
      · rw [if_neg e1]
        by_cases e2 : j = i
        · rw [if_pos e2, if_pos e2]
        · rw [if_neg e2, if_neg e2, if_neg e1]
    rw [this, ih hi.2]

theorem puts_comm {h : AHeap} : ∀ (s1 s2 : List (Nat × Option ABlk)), (∀ x ∈ s1.map (·.1), x ∉ s2.map (·.1)) → (h.puts s1).puts s2 = (h.puts s2).puts s1 := by
  intro s1
  induction s1 generalizing h with
  | nil => intro s2 _; rfl
  | cons p s1 ih =>
    intro s2 hd
    simp only [AHeap.puts]
    rw [ih s2 (fun x hx => hd x (by simp only [List.map_cons, List.mem_cons]; exact .inr hx)), put_puts s2 (hd p.1 (by simp))]

theorem putA_comm {fr : Fr} {x y : Option Tmp} {v u : AV} (h : ∀ d, x = some d → y ≠ some d) : putA (putA fr x v) y u = putA (putA fr y u) x v := by
  cases x with
  | none => rfl
  | some d =>
    cases y with
    | none => rfl
    | some e =>
      have hne : d ≠ e := fun he => h d rfl (he ▸ rfl)
      simp only [putA]
      cases c1 : Nat.blt d fr.nt <;> cases c2 : Nat.blt e fr.nt <;> simp only [cond_true, cond_false, putF, c1, c2]
      congr 1; funext t
      cases e1 : Nat.beq t d <;> cases e2 : Nat.beq t e <;> simp only [cond_true, cond_false]
      exact absurd ((Nat.eq_of_beq_eq_true e1).symm.trans (Nat.eq_of_beq_eq_true e2)) hne

theorem swap {M : Mach} {call : CallF} {ops : Array Oper} {base j i : Nat} {s s1 s2 : St} {Ej Ei : SE} (hj : Step1 M call ops base j s Ej s1) (hi : Step1 M call ops base i s1 Ei s2)
    (ha : apartB ops j i = true) (hm : meetB Ej Ei = true) (hk : AllKept (keptP Ej Ei)) : ∃ s', Step1 M call ops base i s Ei s' ∧ Step1 M call ops base j s' Ej s2 := by
  obtain ⟨oj, hoj, hj⟩ := hj
  obtain ⟨oi, hoi, hi⟩ := hi
  have hap : oj.apart ops oi = true := by simpa only [apartB, hoj, hoi] using ha
  obtain ⟨a1, a2, a3⟩ := Oper.apart_spec hap
  have a2' : ∀ d, oi.dst = some d → oj.dst ≠ some d := fun d h1 h2 => a2 d h2 h1
  -- operands
  have wi : ∀ v, wantA ops oi (putA s.fr oj.dst v) = wantA ops oi s.fr := fun v => wantA_put a1
  have wj : ∀ v, wantA ops oj (putA s.fr oi.dst v) = wantA ops oj s.fr := fun v => wantA_put a3
  have ei : ∀ v x, x ∈ oi.op.operands.toList → evalA (putA s.fr oj.dst v) x = evalA s.fr x := fun v x hx => evalA_put fun d hd e => a1 d hd (looksAt_op (e ▸ hx))
  have ej : ∀ v x, x ∈ oj.op.operands.toList → evalA (putA s.fr oi.dst v) x = evalA s.fr x := fun v x hx => evalA_put fun d hd e => a3 d hd (looksAt_op (e ▸ hx))
  have comm : ∀ v u, putA (putA s.fr oj.dst v) oi.dst u = putA (putA s.fr oi.dst u) oj.dst v := fun v u => putA_comm a2
  have calli : ∀ v f args, calledOf oi.op = some (f, args) → evalA (putA s.fr oj.dst v) f = evalA s.fr f ∧ args.map (evalA (putA s.fr oj.dst v)) = args.map (evalA s.fr) := fun v f args h => by
    have ho := called_operands h
    exact ⟨ei v f (by rw [ho]; simp), List.map_congr_left fun x hx => ei v x (by rw [ho]; exact List.mem_cons_of_mem _ hx)⟩
  have callj : ∀ v f args, calledOf oj.op = some (f, args) → evalA (putA s.fr oi.dst v) f = evalA s.fr f ∧ args.map (evalA (putA s.fr oi.dst v)) = args.map (evalA s.fr) := fun v f args h => by
    have ho := called_operands h
    exact ⟨ej v f (by rw [ho]; simp), List.map_congr_left fun x hx => ej v x (by rw [ho]; exact List.mem_cons_of_mem _ hx)⟩
  cases Ej with
  | skip =>
    obtain ⟨h1, rfl⟩ := hj
    cases Ei with
    | skip =>
      obtain ⟨h2, rfl⟩ := hi
      rw [wi] at h2
      exact ⟨_, ⟨oi, hoi, h2, rfl⟩, ⟨oj, hoj, by rw [wj]; exact h1, by rw [comm]⟩⟩
    | op e =>
      obtain ⟨h2, h3, h4, rfl⟩ := hi
      rw [wi] at h2
      rw [opK_cong (ei _)] at h4
      exact ⟨_, ⟨oi, hoi, h2, h3, h4, rfl⟩, ⟨oj, hoj, by rw [wj]; exact h1, by rw [comm]⟩⟩
    | call v h h' c c' =>
      obtain ⟨h2, rfl, rfl, ⟨f, args, fn, first, caps, h3, h4, h5⟩, rfl⟩ := hi
      rw [wi] at h2
      obtain ⟨q1, q2⟩ := calli .undef f args h3
      rw [q1] at h4
      rw [q2] at h5
      exact ⟨_, ⟨oi, hoi, h2, rfl, rfl, ⟨f, args, fn, first, caps, h3, h4, h5⟩, rfl⟩, ⟨oj, hoj, by rw [wj]; exact h1, by rw [comm]⟩⟩
  | op ej' =>
    obtain ⟨h1, hc1, h0, rfl⟩ := hj
    obtain ⟨lj1, lj2⟩ := opK_loc (T := M.T) (h := s.h) s.fr oj.op (base + j) ej' h0
    cases Ei with
    | skip =>
      obtain ⟨h2, rfl⟩ := hi
      rw [wi] at h2
      refine ⟨_, ⟨oi, hoi, h2, rfl⟩, ⟨oj, hoj, by rw [wj]; exact h1, hc1, ?_, by rw [comm]⟩⟩
      rw [opK_cong (ej _)]; exact h0
    | op ei' =>
      obtain ⟨h2, h3, h4, rfl⟩ := hi
      rw [wi] at h2
      rw [opK_cong (ei _)] at h4
      simp only [meetB, Bool.and_eq_true] at hm
      have n1 := noneIn_spec hm.1.1
      have n2 := noneIn_spec hm.1.2
      have n3 := noneIn_spec hm.2
      obtain ⟨li1, li2⟩ := opK_loc (T := M.T) (h := s.h.puts ej'.sets) s.fr oi.op (base + i) ei' h4
      have h4' := li2 s.h fun x hx => (puts_get _ _ fun hq => n1 x hq hx).symm
      refine ⟨_, ⟨oi, hoi, h2, h3, h4', rfl⟩, ⟨oj, hoj, by rw [wj]; exact h1, hc1, ?_, ?_⟩⟩
      · rw [opK_cong (ej _)]
        exact lj2 _ fun x hx => puts_get _ _ fun hq => n2 x hq hx
      · rw [comm, puts_comm _ _ n3]
    | call v h h' c c' =>
      obtain ⟨h2, rfl, rfl, ⟨f, args, fn, first, caps, h3, h4, h5⟩, rfl⟩ := hi
      rw [wi] at h2
      obtain ⟨q1, q2⟩ := calli ej'.v f args h3
      rw [q1] at h4
      rw [q2] at h5
      have hs : ej'.sets = [] := by simpa [meetB] using hm
      rw [hs] at h5
      simp only [AHeap.puts] at h5
      refine ⟨_, ⟨oi, hoi, h2, by rw [hs]; rfl, rfl, ⟨f, args, fn, first, caps, h3, h4, h5⟩, rfl⟩, ⟨oj, hoj, by rw [wj]; exact h1, hc1, ?_, by rw [comm, hs]; rfl⟩⟩
      rw [opK_cong (ej _)]
      refine lj2 _ fun x hx => ?_
      have : ∀ (l : List Nat), AllKept (l.map fun x => (s.h.puts ej'.sets, h', x)) → ∀ x ∈ l, h' x = s.h.puts ej'.sets x := by
        intro l
        induction l with
        | nil => intro _ x hx; cases hx
        | cons q l ih =>
          intro hq x hx
          simp only [List.map_cons, AllKept] at hq
          cases hx with
          | head => exact hq.1
          | tail _ hx => exact ih hq.2 x hx
      have := this ej'.reads hk x hx
      rwa [hs] at this
  | call v h h' c c' =>
    obtain ⟨h1, rfl, rfl, ⟨f, args, fn, first, caps, hc3, hc4, hc5⟩, rfl⟩ := hj
    cases Ei with
    | skip =>
      obtain ⟨h2, rfl⟩ := hi
      rw [wi] at h2
      obtain ⟨q1, q2⟩ := callj .undef f args hc3
      exact ⟨_, ⟨oi, hoi, h2, rfl⟩, ⟨oj, hoj, by rw [wj]; exact h1, rfl, rfl, ⟨f, args, fn, first, caps, hc3, by rw [q1]; exact hc4, by rw [q2]; exact hc5⟩, by rw [comm]⟩⟩
    | op ei' =>
      obtain ⟨h2, h3, h4, rfl⟩ := hi
      rw [wi] at h2
      rw [opK_cong (ei _)] at h4
      have hs : ei'.sets = [] := by simpa [meetB] using hm
      obtain ⟨li1, li2⟩ := opK_loc (T := M.T) (h := h') s.fr oi.op (base + i) ei' h4
      have hkk : ∀ (l : List Nat), AllKept (l.map fun x => (s.h, h', x)) → ∀ x ∈ l, h' x = s.h x := by
        intro l
        induction l with
        | nil => intro _ x hx; cases hx
        | cons q l ih =>
          intro hq x hx
          simp only [List.map_cons, AllKept] at hq
          cases hx with
          | head => exact hq.1
          | tail _ hx => exact ih hq.2 x hx
      have h4' := li2 s.h fun x hx => (hkk ei'.reads hk x hx).symm
      obtain ⟨q1, q2⟩ := callj ei'.v f args hc3
      refine ⟨_, ⟨oi, hoi, h2, h3, h4', rfl⟩, ⟨oj, hoj, by rw [wj]; exact h1, by rw [hs]; rfl, rfl, ⟨f, args, fn, first, caps, hc3, by rw [q1]; exact hc4, ?_⟩, by rw [comm, hs]; rfl⟩⟩
      rw [q2, hs]; exact hc5
    | call v2 h2 h2' c2 c2' => simp [meetB] at hm

end Go.Proofs.Ytdjbhonncjcbjaa.T
