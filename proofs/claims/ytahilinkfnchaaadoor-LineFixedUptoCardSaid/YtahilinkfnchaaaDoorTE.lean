/- Regions that draw their order: memory follows the run in the order of the text, whatever order is drawn. Nothing of a program. -/
import Derived.Test.YtahilinkfnchaaaDoorTD
set_option linter.unusedVariables false
set_option linter.unusedSimpArgs false
namespace Go.Proofs.YtahilinkfnchaaaDoor.T
open Go Go.RowKit
open Glo (N)

variable {R : Type} {P : Program} {M : Mach} {call : CalF} {ops : Array Oper} {base : Nat}

/-- What is not ordered does not meet. -/
def PairsOk (M : Mach) (ops : Array Oper) (base : Nat) : List (Nat × SE2) → Prop
  | [] => True
  | (j, E) :: l => (∀ q ∈ l, befB ops j q.1 = true ∨ (apartB ops j q.1 = true ∧ Meet M ops base j q.1 E q.2)) ∧ PairsOk M ops base l

theorem PairsOk.drop {i : Nat} {E : SE2} : ∀ {pre post : List (Nat × SE2)}, PairsOk M ops base (pre ++ (i, E) :: post) → PairsOk M ops base (pre ++ post) ∧ ∀ q ∈ pre, befB ops q.1 i = true ∨ (apartB ops q.1 i = true ∧ Meet M ops base q.1 i q.2 E)
  | [], post, h => ⟨h.2, fun q hq => by cases hq⟩
  | (j, F) :: pre, post, h => by
    obtain ⟨h1, h2⟩ := h
    obtain ⟨h3, h4⟩ := PairsOk.drop h2
    refine ⟨⟨fun q hq => h1 q ?_, h3⟩, fun q hq => ?_⟩
    · rcases List.mem_append.1 hq with hq | hq
      · exact List.mem_append_left _ hq
      · exact List.mem_append_right _ (List.mem_cons_of_mem _ hq)
    · cases hq with
      | head => exact h1 (i, E) (List.mem_append_right _ List.mem_cons_self)
      | tail _ hq => exact h4 q hq

/-! ### who stands ahead of whom -/
inductive Anc (ops : Array Oper) : Nat → Nat → Prop where
  | step {j i : Nat} : j ∈ predsB ops i → Anc ops j i
  | more {j p i : Nat} : p ∈ predsB ops i → Anc ops j p → Anc ops j i

theorem maskOf_ok {l : List Nat} {n j : Nat} (h : Nat.testBit (maskOf ops l n) j = true) : ∃ p ∈ predsB ops n, p = j ∨ (p < n ∧ Nat.testBit (l.getD (n - 1 - p) 0) j = true) := by
  have key : ∀ (ps : List Nat) (m : Nat), Nat.testBit (ps.foldl (fun m p => m ||| (1 <<< p) ||| bif Nat.blt p n then l.getD (n - 1 - p) 0 else 0) m) j = true →
      Nat.testBit m j = true ∨ ∃ p ∈ ps, p = j ∨ (p < n ∧ Nat.testBit (l.getD (n - 1 - p) 0) j = true) := by
    intro ps
    induction ps with
    | nil => intro m h; exact .inl h
    | cons p ps ih =>
      intro m h
      rcases ih _ h with h | ⟨q, hq, hr⟩
      · rw [Nat.testBit_or, Nat.testBit_or, Bool.or_eq_true, Bool.or_eq_true, Nat.one_shiftLeft, Nat.testBit_two_pow, decide_eq_true_eq] at h
        rcases h with (h | h) | h
        · exact .inl h
        · exact .inr ⟨p, List.mem_cons_self, .inl h⟩
        · cases c : Nat.blt p n with
          | false => rw [c] at h; simp at h
          | true =>
            rw [c] at h
            exact .inr ⟨p, List.mem_cons_self, .inr ⟨by simpa [Nat.blt_eq] using c, h⟩⟩
      · exact .inr ⟨q, List.mem_cons_of_mem _ hq, hr⟩
  rcases key _ 0 h with h | h
  · simp at h
  · exact h

theorem masksTo_ok : ∀ (n k j : Nat), k < n → Nat.testBit ((masksTo ops n).getD (n - 1 - k) 0) j = true → Anc ops j k
  | 0, k, j, hk, _ => by omega
  | n + 1, k, j, hk, h => by
    by_cases c : k = n
    · subst c
      rw [show k + 1 - 1 - k = 0 by omega] at h
      simp only [masksTo, List.getD_cons_zero] at h
      obtain ⟨p, hp, hr⟩ := maskOf_ok h
      rcases hr with rfl | ⟨hlt, hr⟩
      · exact .step hp
      · exact .more hp (masksTo_ok k p j hlt hr)
    · rw [show n + 1 - 1 - k = (n - 1 - k) + 1 by omega] at h
      simp only [masksTo, List.getD_cons_succ] at h
      exact masksTo_ok n k j (by omega) h

theorem befB_anc {j i : Nat} (h : befB ops j i = true) : Anc ops j i := by
  obtain ⟨p, hp, hr⟩ := maskOf_ok h
  rcases hr with rfl | ⟨hlt, hr⟩
  · exact .step hp
  · exact .more hp (masksTo_ok i p j hlt hr)

/-! ### from the run in the text's order -/
/-- An entry of the log is what an operation did. -/
def EntryOk (M : Mach) (ops : Array Oper) (base : Nat) (q : Nat × SE) : Prop :=
  match q.2 with
  | .op e => ∃ o fr h, ops[q.1]? = some o ∧ opK M.T fr o.op (base + q.1) h some = some e
  | _ => True

theorem Run0.entries {s sf : St} : ∀ {l : List (Nat × SE)}, Run0 M call ops base s l sf → ∀ q ∈ l, EntryOk M ops base q := by
  intro l hr
  induction hr with
  | nil => intro q hq; cases hq
  | cons h1 _ ih =>
    intro q hq
    cases hq with
    | head =>
      obtain ⟨o, ho, h1⟩ := h1
      rename_i s1 _ _ i E _ _
      cases E with
      | op e => exact ⟨o, s1.fr, s1.h, ho, h1.2.2.1⟩
      | skip => trivial
      | call => trivial
    | tail _ hq => exact ih q hq

theorem kindO_le (op : Op) : kindO op = 0 ∨ kindO op = 1 ∨ kindO op = 2 ∨ kindO op = 3 := by
  cases op with
  | call cc =>
    obtain ⟨callee, args, ts⟩ := cc
    cases callee with
    | builtin b => cases b <;> simp [kindO]
    | _ => simp [kindO]
  | _ => simp [kindO]

/-- Each kind's effect: what it depends on, what it sets. -/
theorem entry_kind {j : Nat} {e : Eff} (h : EntryOk M ops base (j, .op e)) :
    (kindB ops j = 0 ∧ e.sets = [] ∧ EffR M ops base j e []) ∨ (kindB ops j = 1 ∧ e.sets = [] ∧ EffR M ops base j e e.reads) ∨ (kindB ops j = 2 ∧ (∀ x ∈ idsOf e.sets, x = base + j) ∧ EffR M ops base j e []) ∨
      (kindB ops j = 3 ∧ (∀ x ∈ idsOf e.sets, x = base + j ∨ x ∈ e.reads) ∧ EffR M ops base j e e.reads) := by
  obtain ⟨o, fr, h, ho, he⟩ := h
  have hk : kindB ops j = kindO o.op := by simp [kindB, ho]
  have same : ∀ o', ops[j]? = some o' → o' = o := fun o' h' => by rw [ho] at h'; exact (Option.some.inj h').symm
  have loc : EffR M ops base j e e.reads := fun o' fr' h' ho' he' h2 hx => (opK_loc (T := M.T) (h := h') fr' o'.op (base + j) e he').2 h2 hx
  rw [hk]
  rcases kindO_le o.op with k | k | k | k
  · obtain ⟨c, s⟩ := opK_kind0 fr o.op (base + j) k M.T
    refine .inl ⟨k, s h e he, fun o' fr' h' ho' he' h2 _ => ?_⟩
    obtain rfl := same o' ho'
    rw [(opK_kind0 fr' o'.op (base + j) k M.T).1 h2 h']; exact he'
  · exact .inr (.inl ⟨k, opK_kind1 fr o.op (base + j) k M.T h e he, loc⟩)
  · obtain ⟨c, s⟩ := opK_kind2 fr o.op (base + j) k M.T
    refine .inr (.inr (.inl ⟨k, fun x hx => ?_, fun o' fr' h' ho' he' h2 _ => ?_⟩))
    · obtain ⟨p, hp, rfl⟩ := List.mem_map.1 hx
      exact s h e he p hp
    · obtain rfl := same o' ho'
      rw [(opK_kind2 fr' o'.op (base + j) k M.T).1 h2 h']; exact he'
  · refine .inr (.inr (.inr ⟨k, fun x hx => ?_, loc⟩))
    obtain ⟨p, hp, rfl⟩ := List.mem_map.1 hx
    exact (opK_loc (T := M.T) (h := h) fr o.op (base + j) e he).1 p hp

theorem AllApart_append : ∀ {a b : List (List Nat × List Nat)}, AllApart (a ++ b) → AllApart a ∧ AllApart b
  | [], b, h => ⟨trivial, h⟩
  | t :: a, b, h => by
    simp only [List.cons_append, AllApart] at h
    obtain ⟨h1, h2⟩ := AllApart_append h.2
    exact ⟨⟨h.1, h1⟩, h2⟩
theorem AllKept_append : ∀ {a b : List (AHeap × AHeap × List Nat)}, AllKept (a ++ b) → AllKept a ∧ AllKept b
  | [], b, h => ⟨trivial, h⟩
  | t :: a, b, h => by
    simp only [List.cons_append, AllKept] at h
    obtain ⟨h1, h2⟩ := AllKept_append h.2
    exact ⟨⟨h.1, h1⟩, h2⟩
theorem AllRob_append : ∀ {a b : List Rob}, AllRob call (a ++ b) → AllRob call a ∧ AllRob call b
  | [], b, h => ⟨trivial, h⟩
  | t :: a, b, h => by
    simp only [List.cons_append, AllRob] at h
    obtain ⟨h1, h2⟩ := AllRob_append h.2
    exact ⟨⟨h.1, h1⟩, h2⟩
theorem AllApart_flatMap {α : Type} {f : α → List (List Nat × List Nat)} : ∀ {l : List α}, AllApart (l.flatMap f) → ∀ q ∈ l, AllApart (f q)
  | [], _, q, hq => by cases hq
  | a :: l, h, q, hq => by
    rw [List.flatMap_cons] at h
    obtain ⟨h1, h2⟩ := AllApart_append h
    cases hq with
    | head => exact h1
    | tail _ hq => exact AllApart_flatMap h2 q hq
theorem AllKept_flatMap {α : Type} {f : α → List (AHeap × AHeap × List Nat)} : ∀ {l : List α}, AllKept (l.flatMap f) → ∀ q ∈ l, AllKept (f q)
  | [], _, q, hq => by cases hq
  | a :: l, h, q, hq => by
    rw [List.flatMap_cons] at h
    obtain ⟨h1, h2⟩ := AllKept_append h
    cases hq with
    | head => exact h1
    | tail _ hq => exact AllKept_flatMap h2 q hq

/-- The log, for any order. -/
def seTwo (ops : Array Oper) (base j : Nat) (l : List (Nat × SE)) : SE → SE2
  | .skip => .skip
  | .op e => .op e
  | .call _ _ v h h' c c' => .call v c c' (fun x => h' x = h x) (besideL ops base j l)
def logTwo (ops : Array Oper) (base : Nat) : List (Nat × SE) → List (Nat × SE2)
  | [] => []
  | (j, E) :: l => (j, seTwo ops base j l E) :: logTwo ops base l
theorem logTwo_ids : ∀ (l : List (Nat × SE)), (logTwo ops base l).map (·.1) = l.map (·.1)
  | [] => rfl
  | (j, E) :: l => by simp only [logTwo, List.map_cons, logTwo_ids l]
theorem logTwo_mem : ∀ {l : List (Nat × SE)} {q : Nat × SE2}, q ∈ logTwo ops base l → ∃ E l', (q.1, E) ∈ l ∧ q.2 = seTwo ops base q.1 l' E
  | [], q, h => by cases h
  | (j, E) :: l, q, h => by
    simp only [logTwo] at h
    cases h with
    | head => exact ⟨E, l, List.mem_cons_self, rfl⟩
    | tail _ h =>
      obtain ⟨E', l', h1, h2⟩ := logTwo_mem h
      exact ⟨E', l', List.mem_cons_of_mem _ h1, h2⟩

theorem Run0.two {s sf : St} {l : List (Nat × SE)} (hr : Run0 M call ops base s l sf) : AllRob call (robL ops base l) → Run M call ops base s (logTwo ops base l) sf := by
  induction hr with
  | nil => intro _; exact .nil _
  | cons h1 _ ih =>
    rename_i s0 s1 s2 i E l _
    intro hrob
    simp only [robL] at hrob
    obtain ⟨r1, r2⟩ := AllRob_append hrob
    refine .cons ?_ (ih r2)
    obtain ⟨o, ho, h1⟩ := h1
    refine ⟨o, ho, ?_⟩
    cases E with
    | skip => exact h1
    | op e => exact h1
    | call f xs v h h' c c' =>
      obtain ⟨a, rfl, rfl, ⟨g, args, first, caps, b1, b2, rfl, b4⟩, rfl⟩ := h1
      refine ⟨a, rfl, h', fun x hx => hx, ⟨g, args, f, first, caps, b1, b2, fun ss hss => ?_⟩, rfl⟩
      simp only at r1
      cases hb : besideL ops base i l with
      | nil =>
        cases ss with
        | nil => exact b4
        | cons p ss =>
          have := hss p List.mem_cons_self
          rw [hb] at this
          cases this
      | cons x xs =>
        rw [hb] at r1 hss
        exact r1.1 ss hss

theorem pairsOk_of : ∀ {l : List (Nat × SE)}, (∀ q ∈ l, EntryOk M ops base q) → (l.map (·.1)).Pairwise (· < ·) → pairsB ops l = true → AllApart (apartL ops base l) → AllKept (keptL ops l) → PairsOk M ops base (logTwo ops base l)
  | [], _, _, _, _, _ => trivial
  | (j, E) :: l, hen, hlt, h, hap, hk => by
    simp only [pairsB, Bool.and_eq_true] at h
    simp only [keptL] at hk
    simp only [apartL] at hap
    obtain ⟨k1, k2⟩ := AllKept_append hk
    obtain ⟨p1, p2⟩ := AllApart_append hap
    simp only [List.map_cons, List.pairwise_cons] at hlt
    refine ⟨fun q hq => ?_, pairsOk_of (fun q hq => hen q (List.mem_cons_of_mem _ hq)) hlt.2 h.2 p2 k2⟩
    obtain ⟨F, l', hF, hq2⟩ := logTwo_mem hq
    have hq1 := (List.all_eq_true.1 h.1) _ hF
    have hji : j < q.1 := hlt.1 q.1 (List.mem_map.2 ⟨_, hF, rfl⟩)
    have hkk := AllKept_flatMap k1 _ hF
    have hpp := AllApart_flatMap p1 _ hF
    by_cases c : befB ops j q.1 = true
    · exact .inl c
    · have c' : befB ops j q.1 = false := by simpa using c
      simp only [c', Bool.false_or, Bool.and_eq_true] at hq1
      simp only [c', cond_false] at hkk hpp
      refine .inr ⟨hq1.1, ?_⟩
      rw [hq2]
      have eE := hen _ List.mem_cons_self
      have eF := hen _ (List.mem_cons_of_mem _ hF)
      have hm := hq1.2
      cases E with
      | skip => exact trivial
      | op a =>
        cases F with
        | skip => exact trivial
        | op b =>
          show Meet M ops base j q.1 (.op a) (.op b)
          simp only [apartP] at hpp
          rcases entry_kind eE with ⟨e1, e2, e3⟩ | ⟨e1, e2, e3⟩ | ⟨e1, e2, e3⟩ | ⟨e1, e2, e3⟩ <;> rcases entry_kind eF with ⟨f1, f2, f3⟩ | ⟨f1, f2, f3⟩ | ⟨f1, f2, f3⟩ | ⟨f1, f2, f3⟩ <;> simp only [e1, f1, AllApart, and_true] at hpp <;> refine ⟨_, _, e3, f3, ?_, ?_, ?_⟩ <;> intro x hx
          all_goals first
            | (rw [e2] at hx; cases hx; done)
            | (rw [f2] at hx; cases hx; done)
            | (intro hy; cases hy; done)
            | (rw [f2]; intro hy; cases hy; done)
            | (intro hy; have h1 := e2 x hx; have h2 := f2 x hy; omega)
            | (rw [f2 x hx]; exact hpp _ List.mem_cons_self)
            | (rw [e2 x hx]; exact hpp _ List.mem_cons_self)
            | exact hpp x hx
            | exact hpp.1 x hx
            | exact hpp.2 x hx
            | (intro hy
               have h1 := e2 x hx
               rcases f2 x hy with h2 | h2
               · omega
               · exact hpp x (by rw [h1]; exact List.mem_cons_self) h2)
            | (intro hy
               have h2 := f2 x hy
               rcases e2 x hx with h1 | h1
               · omega
               · exact hpp x (by rw [h2]; exact List.mem_cons_self) h1)
            | (intro hy
               rcases f2 x hy with h2 | h2
               · rcases e2 x hx with h1 | h1
                 · omega
                 · exact hpp.2 x hy h1
               · exact hpp.1 x hx h2)
        | call f xs v h0 h' cc cc' =>
          show a.sets = [] ∧ ∃ ra, EffR M ops base j a ra ∧ ∀ x ∈ ra, h' x = h0 x
          rcases entry_kind eE with ⟨e1, e2, e3⟩ | ⟨e1, e2, e3⟩ | ⟨e1, e2, e3⟩ | ⟨e1, e2, e3⟩ <;> simp only [e1] at hm hkk
          · exact ⟨e2, [], e3, fun x hx => by cases hx⟩
          · exact ⟨e2, a.reads, e3, hkk.1⟩
          · cases hm
          · cases hm
      | call f xs v h0 h' cc cc' =>
        cases F with
        | skip => exact trivial
        | op b =>
          show (b.sets = [] ∧ ∃ rb, EffR M ops base q.1 b rb ∧ ∀ x ∈ rb, h' x = h0 x) ∨ (EffR M ops base q.1 b [] ∧ ∀ x ∈ idsOf b.sets, x ∈ besideL ops base j l)
          rcases entry_kind eF with ⟨e1, e2, e3⟩ | ⟨e1, e2, e3⟩ | ⟨e1, e2, e3⟩ | ⟨e1, e2, e3⟩ <;> simp only [e1] at hm hkk
          · exact .inl ⟨e2, [], e3, fun x hx => by cases hx⟩
          · exact .inl ⟨e2, b.reads, e3, hkk.1⟩
          · refine .inr ⟨e3, fun x hx => ?_⟩
            unfold besideL
            refine List.mem_flatMap.2 ⟨_, hF, ?_⟩
            simp only [c', cond_false, e1]
            rw [e2 x hx]
            exact List.mem_cons_self
          · cases hm
        | call => cases hm

/-- An operation that waits for none of those ahead of it may come first. -/
theorem Run.front {sf : St} {i : Nat} {E : SE2} : ∀ {pre post : List (Nat × SE2)} {s : St}, Run M call ops base s (pre ++ (i, E) :: post) sf →
    (∀ q ∈ pre, apartB ops q.1 i = true ∧ Meet M ops base q.1 i q.2 E) → ∃ s1, Step1 M call ops base i s E s1 ∧ Run M call ops base s1 (pre ++ post) sf
  | [], post, s, hr, _ => by
    cases hr with
    | cons h1 h2 => exact ⟨_, h1, h2⟩
  | (j, F) :: pre, post, s, hr, hq => by
    cases hr with
    | cons h1 h2 =>
      obtain ⟨s2, h3, h4⟩ := Run.front h2 fun q hq' => hq q (List.mem_cons_of_mem _ hq')
      obtain ⟨q1, q2⟩ := hq (j, F) (by simp)
      obtain ⟨s', h5, h6⟩ := swap h1 h3 q1 q2
      exact ⟨s', h5, .cons h6 h4⟩

/-- One operation, in memory. -/
theorem step1_sim [Glo] {E0 : Loops} {cf : CallF} {Y : YldF} {ro : Option Nat} {dn : Nat} (hc : CallOk P E0 cf) (hY : YOk P E0 Y) (ht : TOk P M.T) {G : Nat → Prop} {m : PMap} {w : World} {i : Nat} {s s' : St} {E : SE2} (hs : Step1 M (callC cf Y) ops base i s E s') {a : Act} (hf : FR m s.fr a) (hsim : Sim N m s.h (Free G s.c) w) (hE0 : EnvIn E0 m w)
    (hG : ∀ i, G i → i < s.c) (hid : G (base + i)) {next : Act → World → Prop} {Q : Exit → Act → World → Prop}
    (hn : ∀ m' a' w', FR m' s'.fr a' → a'.defers = a.defers → m.le m' → Below N w w' → s.c ≤ s'.c → Sim N m' s'.h (Free (fun j => G j ∧ j ≠ base + i) s'.c) w' → next a' w') : wpOpIn (WF ro) dn P ops Q i next a w := by
  obtain ⟨o, ho, hs⟩ := hs
  have hput : ∀ v, (a.put o.dst v).defers = a.defers := fun v => by cases o.dst <;> rfl
  have wanted : ∀ b, wantA ops o s.fr = some b → Region.wanted o (yielded ops a.tmps) = b := by
    intro b hb
    have hh : guardK ops o s.fr (fun _ w => some w) = some b := by
      unfold wantA at hb
      unfold guardK
      cases hg : o.guard with
      | none => rw [hg] at hb; exact hb
      | some q =>
        obtain ⟨j, want⟩ := q
        rw [hg] at hb
        simp only at hb ⊢
        cases et : dstOf ops j with
        | none => rw [et] at hb; cases hb
        | some t =>
          rw [et] at hb
          simp only at hb ⊢
          generalize s.fr.f t = u at hb ⊢
          cases u with
          | bool b' => cases b' <;> cases want <;> exact hb
          | tuple vs => exact hb
          | _ => cases hb
    obtain ⟨fr', h1, _⟩ := guard_sim hf hh
    exact Option.some.inj h1
  unfold wpOpIn
  rw [ho]
  simp only
  cases E with
  | skip =>
    obtain ⟨h1, rfl⟩ := hs
    rw [wanted _ h1, if_neg (by decide)]
    exact ⟨upon_about P ro o w _, hn m _ w (hf.put o.dst (undef_rel m)) (hput _) (PMap.le_refl m) (Below.refl N w) (Nat.le_refl _) (hsim.mono fun j hj => hj.imp (fun q => q.1) (fun q => q))⟩
  | op e =>
    obtain ⟨h1, h2, h3, rfl⟩ := hs
    rw [wanted _ h1, if_pos rfl]
    refine ⟨upon_about P ro o w _, ?_⟩
    rw [Oper.semAt_eq _ _ _ (opK_not_defer h3)]
    obtain ⟨e', he', nx, x, w', m', hrun, hnx, hrel, hs2, hle, hb⟩ := opK_sim ht hsim (.inl hid) hf h3
    obtain rfl := Option.some.inj he'
    have hid' : base + i < s.c := hG _ hid
    have := hn m' (a.put o.dst x) w' ((hf.le hle).put o.dst hrel) (hput _) hle hb (Nat.le_refl _) (hs2.mono fun j hj => by
      rcases hj with hj | hj
      · exact ⟨.inl hj.1, hj.2⟩
      · exact ⟨.inr hj, fun e => by rw [e] at hj; exact absurd hid' (Nat.not_lt.2 hj)⟩)
    rw [hrun]
    rcases hnx with rfl | ⟨rfl, rfl⟩
    · exact this
    · exact this
  | call v c c' K ids =>
    obtain ⟨h1, rfl, h', _, ⟨f, args, fn, first, caps, h3, h4, h5⟩, rfl⟩ := hs
    have h5 := h5 [] (fun p hp => by cases hp)
    simp only [AHeap.puts] at h5
    rw [wanted _ h1, if_pos rfl]
    refine step_sim (Y := Y) (E := E0) (K := fun v h c => some (v, h, c)) (id := base + i) (r := (v, h', c')) (M := ⟨M.T, fun _ => .one .any, M.gk⟩) hc hY ht hsim hE0 hG hid hf ?_ ?_
    · unfold stepK
      rw [h3]
      simp only [h4, Option.bind_some, h5]
      rfl
    · intro m' v2 x h2 c2 w' hk hcc hrel hle hb hs2
      simp only [Option.some.injEq, Prod.mk.injEq] at hk
      obtain ⟨rfl, rfl, rfl⟩ := hk
      exact hn m' _ w' ((hf.le hle).put o.dst hrel) (hput _) hle hb hcc hs2

theorem preds_listed {listed : Array Bool} {i : Nat} (hr : i ∈ Region.ready .any ops listed) : i < ops.size ∧ listed.getD i true = false ∧ ∀ p ∈ predsB ops i, listed.getD p false = true := by
  simp only [Region.ready, List.mem_filter, List.mem_range, Bool.and_eq_true] at hr
  obtain ⟨h1, h2, h3⟩ := hr
  refine ⟨h1, by simpa using h2, fun p hp => ?_⟩
  unfold predsB at hp
  cases ho : ops[i]? with
  | none => rw [ho] at hp; cases hp
  | some o =>
    rw [ho] at hp h3
    simp only [Option.map_some, Option.getD_some, Array.all_eq_true_iff_forall_mem] at h3
    simp only [List.mem_map, List.mem_filter] at hp
    obtain ⟨e, ⟨he, hb⟩, rfl⟩ := hp
    have := h3 e (by simpa using he)
    simpa [hb] using this

theorem ready_of {listed : Array Bool} {i : Nat} (hi : i < ops.size) (hl : listed.getD i true = false) (hp : ∀ p ∈ predsB ops i, listed.getD p false = true) : i ∈ Region.ready .any ops listed := by
  simp only [Region.ready, List.mem_filter, List.mem_range, Bool.and_eq_true]
  refine ⟨hi, by simpa using hl, ?_⟩
  have ho : ops[i]? = some ops[i] := Array.getElem?_eq_getElem hi
  unfold predsB at hp
  rw [ho] at hp ⊢
  simp only [Option.map_some, Option.getD_some, Array.all_eq_true_iff_forall_mem]
  intro e he
  by_cases hb : Region.binds .any e = true
  · have := hp e.on (List.mem_map.2 ⟨e, List.mem_filter.2 ⟨by simpa using he, hb⟩, rfl⟩)
    simp [this]
  · simp [hb]

theorem any_sim [Glo] {E0 : Loops} {cf : CallF} {Y : YldF} {ro : Option Nat} {dn : Nat} {ds : List Deferred} (hc : CallOk P E0 cf) (hY : YOk P E0 Y) (ht : TOk P M.T) (hed : edgesB ops = true) {G : Nat → Prop} (hG : ∀ i, G i → i < base) {sf : St} {Q : Exit → Act → World → Prop} {m0 : PMap} {w0 : World} {nx0 : Nat}
    (hE0 : EnvIn E0 m0 w0) (hQ : ∀ m' a' w', FR m' sf.fr a' → a'.defers = ds → nx0 ≤ sf.c → After N m0 w0 G m' sf.h sf.c w' → Q .normal a' w') :
    ∀ (fuel : Nat) (listed : Array Bool) (rem : List (Nat × SE2)) (s : St) (m : PMap) (a : Act) (w : World), rem.length ≤ fuel → listed.size = ops.size →
      (∀ i, i < ops.size → (listed.getD i true = false ↔ i ∈ rem.map (·.1))) → (∀ q ∈ rem, q.1 < ops.size) → (rem.map (·.1)).Pairwise (· < ·) →
      (∀ i, i < ops.size → listed.getD i true = true → ∀ p ∈ predsB ops i, listed.getD p false = true) →
      Run M (callC cf Y) ops base s rem sf → PairsOk M ops base rem → FR m s.fr a → a.defers = ds → base + ops.size ≤ s.c → nx0 ≤ s.c → Sim N m s.h (Free (fun j => G j ∨ ∃ k ∈ rem.map (·.1), j = base + k) s.c) w → m0.le m → Below N w0 w →
      wpAnyIn (WF ro) dn P .any ops Q fuel listed a w := by
  have fin : ∀ (s : St) (m : PMap) (a : Act) (w : World), Run M (callC cf Y) ops base s [] sf → FR m s.fr a → a.defers = ds → nx0 ≤ s.c → Sim N m s.h (Free (fun j => G j ∨ ∃ k ∈ ([] : List (Nat × SE2)).map (·.1), j = base + k) s.c) w → m0.le m → Below N w0 w → Q .normal a w := by
    intro s m a w hr hf hd hn hs hle hb
    cases hr
    exact hQ m a w hf hd hn ⟨hs.mono fun j hj => hj.imp .inl (fun q => q), hle, hb⟩
  have hnil : ∀ (listed : Array Bool) (rem : List (Nat × SE2)), listed.size = ops.size → (∀ i, i < ops.size → (listed.getD i true = false ↔ i ∈ rem.map (·.1))) → (∀ q ∈ rem, q.1 < ops.size) → (rem.map (·.1)).Pairwise (· < ·) → Region.ready .any ops listed = [] → rem = [] := by
    intro listed rem hsz hl hlt hsort hr
    cases rem with
    | nil => rfl
    | cons q rem =>
      exfalso
      have hq := hlt q (by simp)
      have hmem : q.1 ∈ Region.ready .any ops listed := by
        refine ready_of hq ((hl q.1 hq).2 (by simp)) fun p hp => ?_
        have hpl : p < q.1 := by
          have := (List.all_eq_true.1 hed) q.1 (List.mem_range.2 (by simpa using hq))
          have := (List.all_eq_true.1 this) p hp
          simpa using this
        have hps : p < ops.size := by omega
        by_cases c : listed.getD p true = false
        · have := (hl p hps).1 c
          simp only [List.map_cons, List.mem_cons] at this
          simp only [List.map_cons, List.pairwise_cons] at hsort
          rcases this with h1 | h1
          · omega
          · have := hsort.1 p h1; omega
        · have c' : listed.getD p true = true := by simpa using c
          have hs2 : p < listed.size := by omega
          simp only [Array.getD, hs2, dite_true] at c' ⊢; exact c'
      rw [hr] at hmem; cases hmem
  intro fuel
  induction fuel with
  | zero =>
    intro listed rem s m a w hlen hsz hl hlt hsort hcl hr hp hf hd hb1 hn hs hle hb
    obtain rfl : rem = [] := List.eq_nil_of_length_eq_zero (by omega)
    refine ⟨?_, fin s m a w hr hf hd hn hs hle hb⟩
    apply List.eq_nil_iff_forall_not_mem.2
    intro i hi
    obtain ⟨h1, h2, _⟩ := preds_listed hi
    have := (hl i h1).1 h2
    simp at this
  | succ fuel ih =>
    intro listed rem s m a w hlen hsz hl hlt hsort hcl hr hp hf hd hb1 hn hs hle hb
    refine ⟨fun h0 => ?_, fun i hi => ?_⟩
    · obtain rfl := hnil listed rem hsz hl hlt hsort h0
      exact fin s m a w hr hf hd hn hs hle hb
    · obtain ⟨h1, h2, h3⟩ := preds_listed hi
      have hmem := (hl i h1).1 h2
      obtain ⟨q, hq, hqi⟩ := List.mem_map.1 hmem
      obtain ⟨pre, post, hrem⟩ := List.append_of_mem hq
      obtain ⟨i', E⟩ := q
      simp only at hqi
      subst hqi
      subst hrem
      obtain ⟨hp', hpre⟩ := hp.drop
      have hunl : ∀ q ∈ pre, listed.getD q.1 true = false := fun q hq' => (hl q.1 (hlt q (by simp [hq']))).2 (List.mem_map.2 ⟨q, by simp [hq'], rfl⟩)
      have tf : ∀ p, listed.getD p false = true → p < ops.size ∧ listed.getD p true = true := by
        intro p hp
        by_cases hs2 : p < listed.size
        · simp only [Array.getD, hs2, dite_true] at hp ⊢; exact ⟨by omega, hp⟩
        · simp [Array.getD, hs2] at hp
      have hno : ∀ q ∈ pre, ¬ befB ops q.1 i' = true := by
        intro q hq' hbf
        have hu := hunl q hq'
        have up : ∀ j p, Anc ops j p → (∀ p2 ∈ predsB ops p, listed.getD p2 false = true) → listed.getD j false = true := by
          intro j p ha
          induction ha with
          | step hp => intro hl2; exact hl2 _ hp
          | more hp _ ih2 =>
            intro hl2
            obtain ⟨pl, pt⟩ := tf _ (hl2 _ hp)
            exact ih2 (hcl _ pl pt)
        obtain ⟨_, qt⟩ := tf _ (up _ _ (befB_anc hbf) h3)
        rw [hu] at qt; cases qt
      obtain ⟨s1, hs1, hr1⟩ := Run.front (s := s) hr fun q hq' => (hpre q hq').resolve_left (hno q hq')
      have hnd : i' ∉ (pre ++ post).map (·.1) := by
        rw [List.map_append, List.map_cons] at hsort
        rw [List.map_append, List.mem_append]
        rw [List.pairwise_append] at hsort
        obtain ⟨_, hb2, hc2⟩ := hsort
        rw [List.pairwise_cons] at hb2
        rintro (hx | hx)
        · have := hc2 i' hx i' (by simp); omega
        · have := hb2.1 i' hx; omega
      refine step1_sim (G := fun j => G j ∨ ∃ k ∈ (pre ++ (i', E) :: post).map (·.1), j = base + k) hc hY ht hs1 hf hs (hE0.go hle hb) ?_ (.inr ⟨i', by simp, rfl⟩) ?_
      · intro j hj
        rcases hj with hj | ⟨k, hk, rfl⟩
        · have := hG j hj; omega
        · obtain ⟨q, hq', rfl⟩ := List.mem_map.1 hk
          have := hlt q hq'; omega
      · intro m' a' w' hf' hd' hle' hb' hcc hs'
        have hget : ∀ j d, (listed.setIfInBounds i' true).getD j d = if j = i' then true else listed.getD j d := by
          intro j d
          simp only [Array.getD_eq_getD_getElem?, Array.getElem?_setIfInBounds]
          by_cases e : j = i'
          · subst e; simp [hsz, h1]
          · rw [if_neg (fun e2 => e e2.symm), if_neg e]
        refine ih (listed.setIfInBounds i' true) (pre ++ post) s1 m' a' w' (by simp only [List.length_append, List.length_cons] at hlen ⊢; omega) (by simpa using hsz) ?_ (fun q hq' => hlt q (by simp only [List.mem_append, List.mem_cons] at hq' ⊢; rcases hq' with h | h; exact .inl h; exact .inr (.inr h))) ?_ ?_ hr1 hp' hf' (hd'.trans hd) (by omega) (by omega) (hs'.mono ?_) (PMap.le_trans hle hle') (hb.trans hb')
        · intro j hj
          rw [hget]
          by_cases e : j = i'
          · subst e; rw [if_pos rfl]; simp only [Bool.true_eq_false, false_iff]; exact hnd
          · rw [if_neg e, hl j hj]
            simp only [List.map_append, List.map_cons, List.mem_append, List.mem_cons]
            constructor
            · rintro (h | h | h)
              · exact .inl h
              · exact absurd h e
              · exact .inr h
            · rintro (h | h)
              · exact .inl h
              · exact .inr (.inr h)
        · rw [List.map_append, List.map_cons] at hsort
          rw [List.map_append]
          rw [List.pairwise_append] at hsort ⊢
          obtain ⟨ha2, hb2, hc2⟩ := hsort
          rw [List.pairwise_cons] at hb2
          exact ⟨ha2, hb2.2, fun x hx y hy => hc2 x hx y (List.mem_cons_of_mem _ hy)⟩
        · intro j hj ht2 p hp2
          rw [hget] at ht2 ⊢
          by_cases e : j = i'
          · subst e
            have := h3 p hp2
            by_cases e2 : p = j
            · rw [if_pos e2]
            · rw [if_neg e2]; exact this
          · rw [if_neg e] at ht2
            have := hcl j hj ht2 p hp2
            by_cases e2 : p = i'
            · rw [if_pos e2]
            · rw [if_neg e2]; exact this
        · rintro j (hj | hj)
          · rcases hj with hj | ⟨k, hk, rfl⟩
            · exact .inl ⟨.inl hj, fun e => by have := hG j hj; omega⟩
            · refine .inl ⟨.inr ⟨k, ?_, rfl⟩, fun e => hnd ?_⟩
              · simp only [List.map_append, List.map_cons, List.mem_append, List.mem_cons] at hk ⊢
                rcases hk with h | h
                · exact .inl h
                · exact .inr (.inr h)
              · have : k = i' := by omega
                rw [← this]; exact hk
          · exact .inr hj


theorem ifApart_out {l : List (List Nat × List Nat)} {K : Option R} {r : R} (h : ifApart l K = some r) : AllApart l ∧ K = some r := by
  unfold ifApart at h
  split at h
  · exact ⟨trivial, h⟩
  · split at h
    · rename_i c; exact ⟨c, h⟩
    · cases h
theorem ifKept_out {l : List (AHeap × AHeap × List Nat)} {K : Option R} {r : R} (h : ifKept l K = some r) : AllKept l ∧ K = some r := by
  unfold ifKept at h
  split at h
  · exact ⟨trivial, h⟩
  · split at h
    · rename_i c; exact ⟨c, h⟩
    · cases h
theorem ifRob_out {l : List Rob} {K : Option R} {r : R} (h : ifRob call l K = some r) : AllRob call l ∧ K = some r := by
  unfold ifRob at h
  split at h
  · exact ⟨trivial, h⟩
  · split at h
    · rename_i c; exact ⟨c, h⟩
    · cases h

/-- THE DRAWN REGIONS. -/
theorem draw_ok [Glo] (hm : P.follows .mixedOrders = true) (ht : TOk P M.T) {E0 : Loops} {cf : CallF} {Y : YldF} (hc : CallOk P E0 cf) (hY : YOk P E0 Y) : DrawOk P M E0 (callC cf Y) (drawK (R := R)) := by
  intro ro dn ops id fr h nx K r m a w G hG hE0 hh hf hs
  unfold drawK at hh
  split at hh
  · rename_i hed
    obtain ⟨l, sf, hr, hl, hk⟩ := drawOps_run ops.toList.zipIdx fr h (nx + ops.toList.length) [] (fun p hp => by
      obtain ⟨o, i⟩ := p
      rw [List.mem_zipIdx_iff_getElem?] at hp
      rw [← Array.getElem?_toList]; exact hp) hh
    simp only [List.nil_append] at hk
    split at hk
    · rename_i hpb
      obtain ⟨hap, hk⟩ := ifApart_out hk
      obtain ⟨hak, hk⟩ := ifKept_out hk
      obtain ⟨hro, hk⟩ := ifRob_out hk
      have hids : l.map (·.1) = List.range ops.size := by
        rw [hl]
        apply List.ext_getElem?
        intro j
        rw [List.getElem?_map, List.getElem?_zipIdx]
        by_cases c : j < ops.size
        · rw [List.getElem?_range c, List.getElem?_eq_getElem (by simpa using c)]; simp
        · rw [List.getElem?_eq_none (by simpa using c), List.getElem?_eq_none (by simpa using c)]; rfl
      have hids2 : (logTwo ops nx l).map (·.1) = List.range ops.size := (logTwo_ids l).trans hids
      refine wpIn_region_any hm ?_
      refine any_sim (ds := a.defers) hc hY ht hed hG (sf := sf) (nx0 := nx) (m0 := m) (w0 := w) hE0 ?_ ops.size (Array.replicate ops.size false) (logTwo ops nx l) ⟨fr, h, nx + ops.toList.length⟩ m a _ ?_ (by simp) ?_ ?_ ?_ ?_ (hr.two hro) (pairsOk_of hr.entries (by rw [hids]; exact List.pairwise_lt_range) hpb hap hak) hf rfl (by simp) (by simp) ?_ (PMap.le_refl m) ((Below.refl N w).drew)
      · intro m' a' w' hf' hd' hn haf
        exact ⟨rfl, ⟨m', sf.fr, sf.h, sf.c, hk, hn, hf', haf⟩, hd'⟩
      · have := congrArg List.length hids2
        simp at this; omega
      · intro i hi
        rw [hids2]
        simp [Array.getD_eq_getD_getElem?, hi]
      · intro q hq
        have : q.1 ∈ (logTwo ops nx l).map (·.1) := List.mem_map.2 ⟨q, hq, rfl⟩
        rw [hids2] at this
        simpa using this
      · rw [hids2]; exact List.pairwise_lt_range
      · intro i hi ht2
        simp [Array.getD_eq_getD_getElem?, hi] at ht2
      · refine (hs.mono fun j hj => ?_).drew
        rcases hj with (hj | ⟨k, hk2, rfl⟩) | hj
        · exact .inl hj
        · exact .inr (by omega)
        · exact .inr (by simp only at hj; omega)
    · cases hk
  · cases hh

/-- EVERY CALL OF A PROGRAM THAT MIXES ORDERS: what the abstract machine says, memory does. -/
theorem acall_draw [Glo] {F : Nat → Option AFun} (hm : P.follows .mixedOrders = true) (ht : TOk P M.T) (hgk : M.gk ≤ Glo.gk) (hF : FOk P F) (hX : ∀ f fn q, F f = some fn → fn.keep 9000000 = some q → OrcOk P q.2 f) (n : Nat) (E : Loops) (Y : YldF) (hY : YOk P E Y) : CallOk P E (acall drawK M F n Y) :=
  acall_ok ht hgk hF hX (fun _ _ _ hc hY => draw_ok hm ht hc hY) n E Y hY

end Go.Proofs.YtahilinkfnchaaaDoor.T
