/- The abstract machine: a run does not see blocks that are not there. Nothing of a program. -/
import Derived.Test.YtncmdbpoceilgaaTK
set_option linter.unusedVariables false
set_option linter.unusedSimpArgs false
namespace Go.Proofs.Ytncmdbpoceilgaa.T
open Go Go.RowKit

variable {R : Type} {T : Types} {h : AHeap}

/-- Blocks that are not there, below what is new. -/
def Gone (ss : List (Nat × Option ABlk)) (h : AHeap) (c : Nat) : Prop := ∀ p ∈ ss, p.1 < c ∧ h p.1 = none
theorem Gone.le {ss : List (Nat × Option ABlk)} {c c' : Nat} (g : Gone ss h c) (l : c ≤ c') : Gone ss h c' := fun p hp => ⟨by have := (g p hp).1; omega, (g p hp).2⟩
theorem Gone.not {ss : List (Nat × Option ABlk)} {c i : Nat} (g : Gone ss h c) (hi : c ≤ i ∨ h i ≠ none) : i ∉ ss.map (·.1) := fun hm => by
  obtain ⟨p, hp, rfl⟩ := List.mem_map.1 hm
  rcases hi with hi | hi
  · have := (g p hp).1; omega
  · exact hi (g p hp).2
theorem Gone.put {ss : List (Nat × Option ABlk)} {c i : Nat} {b : Option ABlk} (g : Gone ss h c) (hi : c ≤ i ∨ h i ≠ none) : Gone ss (h.put i b) c := fun p hp => ⟨(g p hp).1, by
  rw [put_ne (fun e => ?_)]
  · exact (g p hp).2
  · exact g.not hi (e ▸ List.mem_map.2 ⟨p, hp, rfl⟩)⟩
theorem Gone.puts {ss s : List (Nat × Option ABlk)} {c : Nat} (g : Gone ss h c) (hs : ∀ i ∈ s.map (·.1), i ∉ ss.map (·.1)) : Gone ss (h.puts s) c := fun p hp => ⟨(g p hp).1, by
  rw [puts_get s p.1 (fun hm => hs _ hm (List.mem_map.2 ⟨p, hp, rfl⟩))]
  exact (g p hp).2⟩

def RdS (e : Eff) (h : AHeap) : Prop := ∀ i ∈ e.reads, h i ≠ none

theorem loadA_rd {t : Nat} {x : AV} {e : Eff} (he : loadA T t x h some = some e) : RdS e h := by
  simp only [loadA] at he
  split at he
  · rename_i a ti et
    cases a with
    | none => cases he
    | some a =>
      simp only [Option.bind_some] at he
      split at he
      · obtain ⟨cs, hc, he⟩ := Option.bind_eq_some_iff.1 he
        obtain rfl := Option.some.inj he
        intro i hi hn
        simp at hi; subst hi
        unfold ldR at hc
        rw [hn] at hc; cases hc
      · obtain ⟨cs, hc, he⟩ := Option.bind_eq_some_iff.1 he
        obtain rfl := Option.some.inj he
        intro i hi hn
        simp at hi; subst hi
        unfold ldA at hc
        rw [hn] at hc; cases hc
  · cases he
theorem storeA_rd {t : Nat} {x v : AV} {e : Eff} (he : storeA T t x v h some = some e) : RdS e h := by
  simp only [storeA] at he
  split at he
  · rename_i a ti et
    cases a with
    | none => cases he
    | some a =>
      simp only [Option.bind_some] at he
      obtain ⟨b, hb, he⟩ := Option.bind_eq_some_iff.1 he
      obtain rfl := Option.some.inj he
      intro i hi hn
      simp at hi; subst hi
      unfold stA at hb
      rw [hn] at hb; cases hb
  · cases he
theorem mapD_rd {r : Nat} {es : List AV} (he : mapD h r = some es) : h r ≠ none := fun hn => by
  unfold mapD at he
  rw [hn] at he; cases he
theorem mapO_rd {r : Option Nat} {es : List AV} (he : mapO h r = some es) : ∀ i ∈ rdM r, h i ≠ none := by
  cases r with
  | none => intro i hi; cases hi
  | some r => intro i hi; simp [rdM] at hi; subst hi; exact mapD_rd he
theorem lookupA_rd {t : Nat} {x k : AV} {ok : Bool} {e : Eff} (he : lookupA T t x k ok h some = some e) : RdS e h := by
  simp only [lookupA] at he
  split at he
  · obtain ⟨te, et, he⟩ := Option.bind_eq_some_iff.1 he
    obtain ⟨es, hes, he⟩ := Option.bind_eq_some_iff.1 he
    obtain ⟨o, ho, he⟩ := Option.bind_eq_some_iff.1 he
    obtain rfl := Option.some.inj he
    exact mapO_rd hes
  · cases he
theorem mapUpdA_rd {t : Nat} {x k v : AV} {e : Eff} (he : mapUpdA T t x k v h some = some e) : RdS e h := by
  simp only [mapUpdA] at he
  split at he
  · obtain ⟨te, et, he1⟩ := Option.bind_eq_some_iff.1 he
    clear he
    obtain ⟨r, hr, he2⟩ := Option.bind_eq_some_iff.1 he1
    clear he1
    subst hr
    obtain ⟨es, hes, he⟩ := Option.bind_eq_some_iff.1 he2
    clear he2
    obtain ⟨o, ho, he⟩ := Option.bind_eq_some_iff.1 he
    obtain rfl := Option.some.inj he
    intro i hi
    simp at hi; subst hi
    exact mapD_rd hes
  · cases he
theorem delA_rd {t : Nat} {x k : AV} {e : Eff} (he : delA T t x k h some = some e) : RdS e h := by
  simp only [delA] at he
  split at he
  · obtain ⟨te, et, he1⟩ := Option.bind_eq_some_iff.1 he
    clear he
    obtain ⟨r, hr, he2⟩ := Option.bind_eq_some_iff.1 he1
    clear he1
    subst hr
    obtain ⟨es, hes, he⟩ := Option.bind_eq_some_iff.1 he2
    clear he2
    obtain ⟨o, ho, he⟩ := Option.bind_eq_some_iff.1 he
    obtain rfl := Option.some.inj he
    intro i hi
    simp at hi; subst hi
    exact mapD_rd hes
  · cases he
theorem lenM_rd {t : Nat} {x : AV} {e : Eff} (he : lenM T t x h some = some e) : RdS e h := by
  simp only [lenM] at he
  split at he
  · obtain ⟨te, et, he⟩ := Option.bind_eq_some_iff.1 he
    obtain ⟨es, hes, he⟩ := Option.bind_eq_some_iff.1 he
    obtain rfl := Option.some.inj he
    exact mapO_rd hes
  · simp only [lenA] at he
    repeat' (first | (cases he; done) | (obtain rfl := Option.some.inj he; intro i hi; cases hi; done) | split at he)
theorem srcA_rd {tx : Nat} {x : AV} {es : Nat} {q : Nat × List AV × List Nat} (he : srcA T tx x es h = some q) : ∀ i ∈ q.2.2, h i ≠ none := by
  unfold srcA at he
  split at he
  · rename_i a n c ti et
    split at he
    · unfold srcS at he
      cases a with
      | none => obtain rfl := Option.some.inj he; intro i hi; cases hi
      | some a =>
        simp only at he
        split at he
        · obtain rfl := Option.some.inj he; intro i hi; cases hi
        · obtain ⟨b, hb, he⟩ := Option.bind_eq_some_iff.1 he
          split at he
          · obtain rfl := Option.some.inj he
            intro i hi hn
            simp at hi; subst hi
            rw [hn] at hb; cases hb
          · cases he
    · cases he
  · split at he
    · split at he
      · obtain rfl := Option.some.inj he; intro i hi; cases hi
      · cases he
    · cases he
  · cases he
theorem appD_rd {a : Option (Nat × Nat)} {n : Nat} {clip : Option Nat} {es bytes id : Nat} {q : Nat × List AV × List Nat} {e : AE} (hk : appD h a n clip es bytes id q = some e) (hq : ∀ i ∈ q.2.2, h i ≠ none) : ∀ i ∈ e.reads, h i ≠ none := by
  have cons : ∀ {x : Nat} {l : List Nat}, h x ≠ none → (∀ i ∈ l, h i ≠ none) → ∀ i ∈ x :: l, h i ≠ none := fun hx hl i hi => by
    rcases List.mem_cons.1 hi with rfl | hi
    · exact hx
    · exact hl i hi
  unfold appD at hk
  split at hk
  · obtain rfl := Option.some.inj hk; exact hq
  · split at hk
    · split at hk
      · obtain rfl := Option.some.inj hk; exact hq
      · rename_i a
        obtain ⟨b, hb, hk⟩ := Option.bind_eq_some_iff.1 hk
        have ha : h a.1 ≠ none := fun hn => by rw [hn] at hb; cases hb
        split at hk
        · split at hk
          · obtain rfl := Option.some.inj hk; exact cons ha hq
          · split at hk
            · split at hk
              · obtain rfl := Option.some.inj hk; exact cons ha hq
              · obtain rfl := Option.some.inj hk; exact cons ha hq
            · cases hk
        · cases hk
    · cases hk
theorem appendA_rd {t tx : Nat} {s x : AV} {id : Nat} {e : Eff} (he : appendA T t tx s x id h some = some e) : RdS e h := by
  simp only [appendA] at he
  split at he
  · split at he
    · split at he
      · obtain ⟨q, hq, he⟩ := Option.bind_eq_some_iff.1 he
        obtain ⟨f, hf, he⟩ := Option.bind_eq_some_iff.1 he
        obtain rfl := Option.some.inj he
        exact appD_rd hf (srcA_rd hq)
      · cases he
    · cases he
  · cases he
theorem copD_rd {a c : Option (Nat × Nat)} {n k es : Nat} {q : Nat × List (Nat × Option ABlk) × List Nat} (hq : copD h a n c k es = some q) : ∀ i ∈ q.2.2, h i ≠ none := by
  unfold copD at hq
  split at hq
  · obtain rfl := Option.some.inj hq; intro i hi; cases hi
  · cases a with
    | none => cases hq
    | some a =>
    cases c with
    | none => cases hq
    | some c =>
    simp only [Option.bind_some] at hq
    obtain ⟨b, hb, hq⟩ := Option.bind_eq_some_iff.1 hq
    obtain ⟨s, hs, hq⟩ := Option.bind_eq_some_iff.1 hq
    split at hq
    · obtain rfl := Option.some.inj hq
      intro i hi hn
      simp at hi
      rcases hi with rfl | rfl
      · rw [hn] at hb; cases hb
      · rw [hn] at hs; cases hs
    · cases hq
theorem cleD_rd {a : Option (Nat × Nat)} {n es : Nat} {z : List AV} {q : List (Nat × Option ABlk) × List Nat} (hq : cleD h a n es z = some q) : ∀ i ∈ q.2, h i ≠ none := by
  unfold cleD at hq
  split at hq
  · obtain rfl := Option.some.inj hq; intro i hi; cases hi
  · cases a with
    | none => cases hq
    | some a =>
    simp only [Option.bind_some] at hq
    obtain ⟨b, hb, hq⟩ := Option.bind_eq_some_iff.1 hq
    split at hq
    · obtain rfl := Option.some.inj hq
      intro i hi hn
      simp at hi; subst hi
      rw [hn] at hb; cases hb
    · cases hq
theorem copyA_rd {t : Nat} {d x : AV} {e : Eff} (he : copyA T t d x h some = some e) : RdS e h := by
  simp only [copyA] at he
  split at he
  · split at he
    · split at he
      · obtain ⟨q, hq, he⟩ := Option.bind_eq_some_iff.1 he
        obtain rfl := Option.some.inj he
        exact copD_rd hq
      · cases he
    · cases he
  · cases he
theorem clearA_rd {t : Nat} {x : AV} {e : Eff} (he : clearA T t x h some = some e) : RdS e h := by
  simp only [clearA] at he
  split at he
  · split at he
    · split at he
      · split at he
        · cases he
        · obtain ⟨q, hq, he⟩ := Option.bind_eq_some_iff.1 he
          obtain rfl := Option.some.inj he
          exact cleD_rd hq
      · cases he
    · cases he
  · cases he
theorem builtinK_rd {b : Builtin} {ts : List TypeId} {args : List AV} {id : Nat} {e : Eff} (he : builtinK T b ts args id h some = some e) : RdS e h := by
  have mo : ∀ {c : Bool} {x : AV} {r : List AV}, ((mostA c x r).bind fun v => some (⟨v, [], []⟩ : Eff)) = some e → RdS e h := fun hm => by
    obtain ⟨v, _, hm⟩ := Option.bind_eq_some_iff.1 hm
    obtain rfl := Option.some.inj hm
    intro i hi; cases hi
  unfold builtinK at he
  split at he
  · exact lenM_rd he
  · exact delA_rd he
  · exact appendA_rd he
  · exact copyA_rd he
  · exact clearA_rd he
  · exact mo he
  · exact mo he
  · cases he
theorem sliceA_fro {t : Nat} {x : AV} {lo hi mx : Option AV} {e : Eff} (he : sliceA T t x lo hi mx h some = some e) {h2 : AHeap} (hh : ∀ i, h i ≠ none → h2 i = h i) : sliceA T t x lo hi mx h2 some = some e := by
  have es_ok : ∀ {a : Option (Nat × Nat)} {es : Nat}, esIs h a es = true → esIs h2 a es = true := by
    intro a es q
    unfold esIs at q ⊢
    cases a with
    | none => rfl
    | some a =>
      simp only at q ⊢
      cases hb : h a.1 with
      | none => rw [hb] at q; cases q
      | some b => rw [hh a.1 (by rw [hb]; simp), hb]; rw [hb] at q; exact q
  have cut : ∀ {a : Option (Nat × Nat)} {n : Nat} {cap : Option Nat} {es : Nat} {q : Option (Nat × Nat) × Nat × Option Nat}, cutA h a n cap es lo hi mx = some q → cutA h2 a n cap es lo hi mx = some q := by
    intro a n cap es q hq
    unfold cutA at hq ⊢
    obtain ⟨z, hz, hq⟩ := Option.bind_eq_some_iff.1 hq
    rw [hz, Option.bind_some]
    split at hq
    · rename_i c
      rw [if_pos]
      · exact hq
      · rw [Bool.or_eq_true] at c ⊢
        exact c.imp id es_ok
    · cases hq
  have cutr : ∀ {a : Option (Nat × Nat)} {n es : Nat} {q : Option (Nat × Nat) × Nat × Option Nat}, cutR h a n es lo hi mx = some q → cutR h2 a n es lo hi mx = some q := by
    intro a n es q hq
    unfold cutR at hq ⊢
    cases a with
    | none => cases hq
    | some a =>
      simp only [Option.bind_some] at hq ⊢
      obtain ⟨b, hb, hq⟩ := Option.bind_eq_some_iff.1 hq
      rw [hh a.1 (by rw [hb]; simp), hb, Option.bind_some]
      exact hq
  simp only [sliceA] at he ⊢
  split at he
  · split at he
    · split at he
      · obtain ⟨q, hq, he⟩ := Option.bind_eq_some_iff.1 he
        rw [cut hq]; exact he
      · cases he
    · cases he
  · exact he
  · split at he
    · split at he
      · obtain ⟨q, hq, he⟩ := Option.bind_eq_some_iff.1 he
        rw [cutr hq]; exact he
      · cases he
    · cases he
  · cases he

/-- An operation does not see what is not there, and sets what is there or is new. -/
theorem opK_fro {fr : Fr} {op : Op} {id : Nat} {e : Eff} (he : opK T fr op id h some = some e) {h2 : AHeap} (hh : ∀ i, h i ≠ none → h2 i = h i) :
    opK T fr op id h2 some = some e ∧ ∀ x ∈ idsOf e.sets, x = id ∨ h x ≠ none := by
  have ofRd : RdS e h → opK T fr op id h2 some = some e ∧ ∀ x ∈ idsOf e.sets, x = id ∨ h x ≠ none := fun rd => by
    have l := opK_loc (T := T) (h := h) fr op id e he
    refine ⟨l.2 h2 fun i hi => hh i (rd i hi), fun x hx => ?_⟩
    obtain ⟨p, hp, rfl⟩ := List.mem_map.1 hx
    exact (l.1 p hp).imp (fun q => q) (rd _)
  rcases kindO_le op with k | k | k | k
  · obtain ⟨c, s⟩ := opK_kind0 fr op id k T
    exact ⟨(c h2 h).trans he, fun x hx => by rw [s h e he] at hx; cases hx⟩
  · have s := opK_kind1 fr op id k T h e he
    cases op with
    | load t a => exact ofRd (loadA_rd he)
    | slice t x lo hi mx => exact ⟨sliceA_fro he hh, fun x hx => by rw [s] at hx; cases hx⟩
    | lookup t x k ok => exact ofRd (lookupA_rd he)
    | call cc =>
      obtain ⟨callee, args, ts⟩ := cc
      cases callee with
      | builtin b =>
        simp only [opK] at he
        exact ofRd (builtinK_rd he)
      | value f => simp [opK] at he
      | invoke r nm => simp [opK] at he
    | _ => simp [kindO] at k
  · obtain ⟨c, s⟩ := opK_kind2 fr op id k T
    refine ⟨(c h2 h).trans he, fun x hx => ?_⟩
    obtain ⟨p, hp, rfl⟩ := List.mem_map.1 hx
    exact .inl (s h e he p hp)
  · cases op with
    | store t a v => exact ofRd (storeA_rd he)
    | mapUpdate t x k v => exact ofRd (mapUpdA_rd he)
    | call cc =>
      obtain ⟨callee, args, ts⟩ := cc
      cases callee with
      | builtin b =>
        simp only [opK] at he
        exact ofRd (builtinK_rd he)
      | value f => simp [opK] at he
      | invoke r nm => simp [opK] at he
    | _ => simp [kindO] at k

/-! ### the machine's run -/
/-- Who is called does not see what is not there. -/
def FroC (call : CalF) : Prop := ∀ (f : Cal) (args : List AV) (h : AHeap) (c : Nat) (v : AV) (h' : AHeap) (c' : Nat) (ss : List (Nat × Option ABlk)), call f args h c = some (v, h', c') → Gone ss h c → Gone ss h' c' ∧ call f args (h.puts ss) c = some (v, h'.puts ss, c')
def FroF (call : CallF) : Prop := ∀ (f : Nat) (args : List AV) (h : AHeap) (c : Nat) (v : AV) (h' : AHeap) (c' : Nat) (ss : List (Nat × Option ABlk)), call f args h c = some (v, h', c') → Gone ss h c → Gone ss h' c' ∧ call f args (h.puts ss) c = some (v, h'.puts ss, c')
theorem froC {call : CallF} {Y : YldF} (hc : FroF call) (hY : FroF Y) : FroC (callC call Y) := fun f => by
  cases f with
  | fn f => exact fun args => hc f args
  | yld l => exact fun args => hY l args

/-- Two continuations, with more blocks and without. -/
def FroK (ss : List (Nat × Option ABlk)) (K K' : Fr → AHeap → Nat → Option Res) : Prop := ∀ fr h c v h' c', K fr h c = some (v, h', c') → Gone ss h c → Gone ss h' c' ∧ K' fr (h.puts ss) c = some (v, h'.puts ss, c')
def AOut.puts (ss : List (Nat × Option ABlk)) : AOut → AOut
  | .normal fr h c => .normal fr (h.puts ss) c
  | .exit id fr h c => .exit id fr (h.puts ss) c
  | .ret fr h c => .ret fr (h.puts ss) c
def AOut.gone (ss : List (Nat × Option ABlk)) : AOut → Prop
  | .normal _ h c => Gone ss h c
  | .exit _ _ h c => Gone ss h c
  | .ret _ h c => Gone ss h c
def FroO (ss : List (Nat × Option ABlk)) (K K' : AOut → Option Res) : Prop := ∀ o v h' c', K o = some (v, h', c') → o.gone ss → Gone ss h' c' ∧ K' (o.puts ss) = some (v, h'.puts ss, c')

theorem puts_there {ss : List (Nat × Option ABlk)} {c : Nat} (g : Gone ss h c) : ∀ i, h i ≠ none → h.puts ss i = h i := fun i hi => puts_get ss i (g.not (.inr hi))

theorem opK_gone {fr : Fr} {op : Op} {id c : Nat} {ss : List (Nat × Option ABlk)} {e : Eff} (he : opK T fr op id h some = some e) (g : Gone ss h c) (hid : id ∉ ss.map (·.1)) :
    opK T fr op id (h.puts ss) some = some e ∧ Gone ss (h.puts e.sets) c ∧ (h.puts ss).puts e.sets = (h.puts e.sets).puts ss := by
  obtain ⟨q1, q2⟩ := opK_fro he (puts_there g)
  have ap : ∀ x ∈ e.sets.map (·.1), x ∉ ss.map (·.1) := fun x hx => by
    rcases q2 x hx with rfl | hn
    · exact hid
    · exact g.not (.inr hn)
  exact ⟨q1, g.puts ap, (puts_comm _ _ ap).symm⟩

theorem norm1_bind (k : FK) (v : AV) (K : AV → Option R) : norm1 k v K = (norm1 k v some).bind K := by
  unfold norm1
  cases k <;> simp only [Option.bind_assoc, Option.bind_some]
theorem normL_bind : ∀ {R : Type} (ks : List FK) (cs : List AV) (i : Nat) (K : List AV → Option R), normL ks cs i K = (normL ks cs i some).bind K
  | _, [], _, _, _ => rfl
  | _, k :: ks, cs, i, K => by
    simp only [normL]
    rw [norm1_bind, norm1_bind (R := List AV) k _ (fun v => normL ks cs (i + 1) fun vs => some (v :: vs)), Option.bind_assoc]
    congr 1; funext v
    rw [normL_bind ks cs (i + 1) (fun vs => K (v :: vs)), normL_bind (R := List AV) ks cs (i + 1) (fun vs => some (v :: vs)), Option.bind_assoc]; rfl
theorem norm0_bind (l : Look) (v : AV) (K : AV → Option R) : norm0 l v K = (norm0 l v some).bind K := by
  unfold norm0
  cases l with
  | one k => exact norm1_bind k v K
  | agg ks =>
    simp only [Option.bind_assoc]
    congr 1; funext cs
    rw [normL_bind ks cs 0 (fun vs => K (.agg vs)), normL_bind (R := AV) ks cs 0 (fun vs => some (AV.agg vs)), Option.bind_assoc]; rfl
  | tup ls => rfl
  | row => simp only [Option.bind_assoc]; rfl
theorem normT_bind : ∀ {R : Type} (ks : List Look) (cs : List AV) (i : Nat) (K : List AV → Option R), normT ks cs i K = (normT ks cs i some).bind K
  | _, [], _, _, _ => rfl
  | _, k :: ks, cs, i, K => by
    simp only [normT]
    rw [norm0_bind, norm0_bind (R := List AV) k _ (fun v => normT ks cs (i + 1) fun vs => some (v :: vs)), Option.bind_assoc]
    congr 1; funext v
    rw [normT_bind ks cs (i + 1) (fun vs => K (v :: vs)), normT_bind (R := List AV) ks cs (i + 1) (fun vs => some (v :: vs)), Option.bind_assoc]; rfl
theorem norm_bind (l : Look) (v : AV) (K : AV → Option R) : norm l v K = (norm l v some).bind K := by
  unfold norm
  split
  · simp only [Option.bind_assoc]
    congr 1; funext cs
    rename_i ls
    rw [normT_bind ls cs 0 (fun vs => K (.tuple vs)), normT_bind (R := AV) ls cs 0 (fun vs => some (AV.tuple vs)), Option.bind_assoc]; rfl
  · exact norm0_bind _ _ _
theorem norm_same {R' : Type} {l : Look} {v : AV} {K : AV → Option R} {r : R} (h : norm l v K = some r) (K' : AV → Option R') : norm l v K' = K' v := by
  rw [norm_bind] at h ⊢
  obtain ⟨w, hw, _⟩ := Option.bind_eq_some_iff.1 h
  rw [hw, Option.bind_some]
  rw [Option.some.inj (norm_eq hw)]
theorem normT_same {R' : Type} {ls : List Look} {vs : List AV} {K : List AV → Option R} {r : R} (hl : ls.length = vs.length) (h : normT ls vs 0 K = some r) (K' : List AV → Option R') : normT ls vs 0 K' = K' vs := by
  rw [normT_bind] at h ⊢
  obtain ⟨w, hw, _⟩ := Option.bind_eq_some_iff.1 h
  rw [hw, Option.bind_some]
  have := normT_eq (by omega) hw
  rw [List.drop_zero] at this
  rw [Option.some.inj this]

theorem stepK_fro {M : Mach} {call : CallF} {Y : YldF} {ss : List (Nat × Option ABlk)} (hc : FroC (callC call Y)) {fr : Fr} {o : Oper} {id : Nat} {c : Nat} {K K' : AV → AHeap → Nat → Option Res} {v : AV} {h' : AHeap} {c' : Nat} (hid : id ∉ ss.map (·.1))
    (hK : ∀ v0 h1 c1 v h' c', K v0 h1 c1 = some (v, h', c') → Gone ss h1 c1 → Gone ss h' c' ∧ K' v0 (h1.puts ss) c1 = some (v, h'.puts ss, c'))
    (hh : stepK M call Y fr o id h c K = some (v, h', c')) (g : Gone ss h c) : Gone ss h' c' ∧ stepK M call Y fr o id (h.puts ss) c K' = some (v, h'.puts ss, c') := by
  unfold stepK at hh ⊢
  split at hh
  · obtain ⟨q, hq, hh⟩ := Option.bind_eq_some_iff.1 hh
    obtain ⟨⟨v1, h1, c1⟩, hr, hh⟩ := Option.bind_eq_some_iff.1 hh
    obtain ⟨g1, e1⟩ := hc _ _ _ _ _ _ _ ss hr g
    rw [hq, Option.bind_some, e1, Option.bind_some]
    simp only at hh ⊢
    rw [norm_same hh]
    exact hK _ _ _ _ _ _ (norm_eq hh) g1
  · rw [opK_bind] at hh ⊢
    obtain ⟨e, he, hh⟩ := Option.bind_eq_some_iff.1 hh
    obtain ⟨e1, g1, e2⟩ := opK_gone he g hid
    rw [e1, Option.bind_some, e2]
    split at hh
    · rename_i cl
      rw [if_pos cl, norm_same hh]
      exact hK _ _ _ _ _ _ (norm_eq hh) g1
    · rename_i cl
      rw [if_neg cl]
      exact hK _ _ _ _ _ _ hh g1

theorem guardK_same {R' : Type} {ops : Array Oper} {o : Oper} {fr : Fr} {K : Fr → Bool → Option R} {r : R} (hh : guardK ops o fr K = some r) : ∃ fr' w, K fr' w = some r ∧ ∀ K' : Fr → Bool → Option R', guardK ops o fr K' = K' fr' w := by
  unfold guardK at hh ⊢
  cases hg : o.guard with
  | none => rw [hg] at hh; exact ⟨fr, true, hh, fun _ => rfl⟩
  | some q =>
    obtain ⟨j, want⟩ := q
    rw [hg] at hh
    simp only at hh ⊢
    cases hd : dstOf ops j with
    | none => rw [hd] at hh; cases hh
    | some t =>
      rw [hd] at hh
      simp only at hh ⊢
      split at hh
      · rename_i b hb
        split at hh
        · rename_i hbt; exact ⟨_, _, hh, fun K' => by rw [hbt]; simp⟩
        · rename_i hbf
          have hbf' : b = false := by simpa using hbf
          exact ⟨_, _, hh, fun K' => by rw [hbf']; simp⟩
      · exact ⟨fr, false, hh, fun _ => rfl⟩
      · cases hh

theorem opsK_fro {M : Mach} {call : CallF} {Y : YldF} {ss : List (Nat × Option ABlk)} (hc : FroC (callC call Y)) {ops : Array Oper} {base : Nat} (hb : ∀ p ∈ ss, p.1 < base) {K K' : Fr → AHeap → Nat → Option Res} (hK : FroK ss K K') :
    ∀ (rest : List (Oper × Nat)), FroK ss (fun fr h c => opsK M call Y ops base rest fr h c K) (fun fr h c => opsK M call Y ops base rest fr h c K')
  | [] => fun fr h c v h' c' hh g => by simp only [opsK] at hh ⊢; exact hK _ _ _ _ _ _ hh g
  | (o, i) :: rest => fun fr h c v h' c' hh g => by
    simp only [opsK] at hh ⊢
    obtain ⟨fr', w, hh, same⟩ := guardK_same (R' := Res) hh
    rw [same]
    have hid : base + i ∉ ss.map (·.1) := fun hm => by
      obtain ⟨p, hp, e⟩ := List.mem_map.1 hm
      have := hb p hp; omega
    split at hh
    · rename_i cw
      rw [if_pos cw]
      exact stepK_fro hc hid (fun v0 h1 c1 v h' c' hk g1 => opsK_fro hc hb hK rest _ _ _ _ _ _ hk g1) hh g
    · rename_i cw
      rw [if_neg cw]
      exact opsK_fro hc hb hK rest _ _ _ _ _ _ hh g

/-! ### regions that draw their order -/
def seP (ss : List (Nat × Option ABlk)) : Nat × SE → Nat × SE
  | (i, .call f args v h h' c c') => (i, .call f args v (h.puts ss) (h'.puts ss) c c')
  | q => q
def LogG (ss : List (Nat × Option ABlk)) (l : List (Nat × SE)) : Prop := ∀ q ∈ l, match q.2 with | .call _ _ _ h _ c _ => Gone ss h c | _ => True
theorem seP_fst (ss : List (Nat × Option ABlk)) (q : Nat × SE) : (seP ss q).1 = q.1 := by
  obtain ⟨i, E⟩ := q
  cases E <;> rfl

theorem seP_mk (ss : List (Nat × Option ABlk)) (j : Nat) (E : SE) : seP ss (j, E) = (j, (seP ss (j, E)).2) := by cases E <;> rfl

theorem drawOps_fro {M : Mach} {call : CalF} {ss : List (Nat × Option ABlk)} (hc : FroC call) {ops : Array Oper} {base : Nat} (hb : ∀ p ∈ ss, p.1 < base) {K K' : Fr → AHeap → Nat → List (Nat × SE) → Option Res}
    (hK : ∀ fr h c l v h' c', K fr h c l = some (v, h', c') → Gone ss h c → LogG ss l → Gone ss h' c' ∧ K' fr (h.puts ss) c (l.map (seP ss)) = some (v, h'.puts ss, c')) :
    ∀ (rest : List (Oper × Nat)) (fr : Fr) (h : AHeap) (c : Nat) (acc : List (Nat × SE)) (v : AV) (h' : AHeap) (c' : Nat), drawOps M call ops base rest fr h c acc K = some (v, h', c') → Gone ss h c → LogG ss acc →
      Gone ss h' c' ∧ drawOps M call ops base rest fr (h.puts ss) c (acc.map (seP ss)) K' = some (v, h'.puts ss, c')
  | [], fr, h, c, acc, v, h', c', hh, g, gl => by simp only [drawOps] at hh ⊢; exact hK _ _ _ _ _ _ _ hh g gl
  | (o, i) :: rest, fr, h, c, acc, v, h', c', hh, g, gl => by
    have more : ∀ q : Nat × SE, (match q.2 with | .call _ _ _ h _ c _ => Gone ss h c | _ => True) → LogG ss (acc ++ [q]) := fun q hq r hr => by
      rcases List.mem_append.1 hr with hr | hr
      · exact gl r hr
      · rw [List.mem_singleton.1 hr]; exact hq
    have mapA : ∀ q, (acc ++ [q]).map (seP ss) = acc.map (seP ss) ++ [seP ss q] := fun q => by simp
    simp only [drawOps] at hh ⊢
    obtain ⟨fr', w, hh, same⟩ := guardK_same (R' := Res) hh
    rw [same]
    have hid : base + i ∉ ss.map (·.1) := fun hm => by
      obtain ⟨p, hp, e⟩ := List.mem_map.1 hm
      have := hb p hp; omega
    split at hh
    · rename_i cw
      rw [if_pos cw]
      split at hh
      · obtain ⟨q, hq, hh⟩ := Option.bind_eq_some_iff.1 hh
        obtain ⟨⟨v1, h1, c1⟩, hr, hh⟩ := Option.bind_eq_some_iff.1 hh
        obtain ⟨g1, e1⟩ := hc _ _ _ _ _ _ _ ss hr g
        rw [hq, Option.bind_some, e1, Option.bind_some]
        simp only at hh ⊢
        rw [norm_same hh]
        have k := drawOps_fro hc hb hK rest _ _ _ _ _ _ _ (norm_eq hh) g1 (more (i, .call _ _ v1 h h1 c c1) g)
        rw [mapA] at k
        exact k
      · rw [opK_bind] at hh ⊢
        obtain ⟨e, he, hh⟩ := Option.bind_eq_some_iff.1 hh
        obtain ⟨e1, g1, e2⟩ := opK_gone he g hid
        rw [e1, Option.bind_some, e2]
        split at hh
        · rename_i cl
          rw [if_pos cl, norm_same hh]
          have k := drawOps_fro hc hb hK rest _ _ _ _ _ _ _ (norm_eq hh) g1 (more (i, .op ⟨e.v, e.sets, e.reads⟩) trivial)
          rw [mapA] at k
          exact k
        · rename_i cl
          rw [if_neg cl]
          have k := drawOps_fro hc hb hK rest _ _ _ _ _ _ _ hh g1 (more (i, .op e) trivial)
          rw [mapA] at k
          exact k
    · rename_i cw
      rw [if_neg cw]
      have k := drawOps_fro hc hb hK rest _ _ _ _ _ _ _ hh g (more (i, .skip) trivial)
      rw [mapA] at k
      exact k

theorem meetB_seP (ss : List (Nat × Option ABlk)) (kj ki : Nat) (p q : Nat × SE) : meetB kj ki (seP ss p).2 (seP ss q).2 = meetB kj ki p.2 q.2 := by
  obtain ⟨i, E⟩ := p
  obtain ⟨j, F⟩ := q
  cases E <;> cases F <;> rfl
theorem pairsB_seP (ss : List (Nat × Option ABlk)) {ops : Array Oper} : ∀ l : List (Nat × SE), pairsB ops (l.map (seP ss)) = pairsB ops l
  | [] => rfl
  | p :: l => by
    have e := pairsB_seP ss (ops := ops) l
    obtain ⟨j, E⟩ := p
    have h1 : seP ss (j, E) = (j, (seP ss (j, E)).2) := seP_mk ss j E
    rw [List.map_cons, h1]
    simp only [pairsB]
    rw [e, List.all_map]
    congr 1
    congr 1
    funext q
    simp only [Function.comp, seP_fst]
    have := meetB_seP ss (kindB ops j) (kindB ops q.1) (j, E) q
    simp only at this
    rw [this]
theorem apartL_seP (ss : List (Nat × Option ABlk)) {ops : Array Oper} {base : Nat} : ∀ l : List (Nat × SE), apartL ops base (l.map (seP ss)) = apartL ops base l
  | [] => rfl
  | p :: l => by
    have e := apartL_seP ss (ops := ops) (base := base) l
    obtain ⟨j, E⟩ := p
    have h1 : seP ss (j, E) = (j, (seP ss (j, E)).2) := seP_mk ss j E
    rw [List.map_cons, h1]
    simp only [apartL]
    rw [e, List.flatMap_map]
    congr 1
    congr 1
    funext q
    simp only [seP_fst]
    obtain ⟨i, F⟩ := q
    cases E <;> cases F <;> rfl
theorem besideL_seP (ss : List (Nat × Option ABlk)) {ops : Array Oper} {base j : Nat} (l : List (Nat × SE)) : besideL ops base j (l.map (seP ss)) = besideL ops base j l := by
  unfold besideL
  rw [List.flatMap_map]
  congr 1
  funext q
  simp only [seP_fst]
  obtain ⟨i, F⟩ := q
  cases F <;> rfl
theorem besideL_ids {ops : Array Oper} {base j : Nat} {l : List (Nat × SE)} : ∀ x ∈ besideL ops base j l, base ≤ x := fun x hx => by
  unfold besideL at hx
  obtain ⟨q, _, hx⟩ := List.mem_flatMap.1 hx
  cases hbb : befB ops j q.1 with
  | true => rw [hbb] at hx; cases hx
  | false =>
    rw [hbb] at hx
    simp only [cond_false] at hx
    split at hx
    · cases hk : Nat.beq (kindB ops q.1) 2 with
      | true => rw [hk] at hx; simp at hx; omega
      | false => rw [hk] at hx; simp at hx
    · cases hx
theorem AllKept_append2 : ∀ {a b : List (AHeap × AHeap × List Nat)}, AllKept a → AllKept b → AllKept (a ++ b)
  | [], _, _, h => h
  | _ :: _, _, h, k => ⟨h.1, AllKept_append2 h.2 k⟩
theorem AllRob_append2 {call : CalF} : ∀ {a b : List Rob}, AllRob call a → AllRob call b → AllRob call (a ++ b)
  | [], _, _, h => h
  | _ :: _, _, h, k => ⟨h.1, AllRob_append2 h.2 k⟩
theorem AllKept_flat {α : Type} {f g : α → List (AHeap × AHeap × List Nat)} (h : ∀ q, AllKept (f q) → AllKept (g q)) : ∀ {l : List α}, AllKept (l.flatMap f) → AllKept (l.flatMap g)
  | [], _ => trivial
  | a :: l, k => by
    rw [List.flatMap_cons] at k ⊢
    obtain ⟨k1, k2⟩ := AllKept_append k
    exact AllKept_append2 (h a k1) (AllKept_flat h k2)
theorem keptL_seP (ss : List (Nat × Option ABlk)) {ops : Array Oper} : ∀ {l : List (Nat × SE)}, AllKept (keptL ops l) → AllKept (keptL ops (l.map (seP ss)))
  | [], _ => trivial
  | (j, E) :: l, h => by
    simp only [keptL] at h
    obtain ⟨h1, h2⟩ := AllKept_append h
    have e : seP ss (j, E) = (j, (seP ss (j, E)).2) := seP_mk ss j E
    rw [List.map_cons, e]
    simp only [keptL]
    refine AllKept_append2 ?_ (keptL_seP ss h2)
    rw [List.flatMap_map]
    refine AllKept_flat (fun q hq => ?_) h1
    simp only [seP_fst]
    cases hb : befB ops j q.1 with
    | true => exact trivial
    | false =>
      rw [hb] at hq
      simp only [cond_false] at hq ⊢
      obtain ⟨i, F⟩ := q
      cases E <;> cases F <;> try exact trivial
      · simp only [seP, keptP] at hq ⊢
        cases hk : Nat.beq (kindB ops j) 1 with
        | true => rw [hk] at hq; exact ⟨fun x hx => puts_congr ss (hq.1 x hx), trivial⟩
        | false => exact trivial
      · simp only [seP, keptP] at hq ⊢
        cases hk : Nat.beq (kindB ops i) 1 with
        | true => rw [hk] at hq; exact ⟨fun x hx => puts_congr ss (hq.1 x hx), trivial⟩
        | false => exact trivial
theorem robL_seP {call : CalF} {ss : List (Nat × Option ABlk)} (hc : FroC call) {ops : Array Oper} {base : Nat} (hb : ∀ p ∈ ss, p.1 < base) : ∀ {l : List (Nat × SE)}, LogG ss l → AllRob call (robL ops base l) → AllRob call (robL ops base (l.map (seP ss)))
  | [], _, _ => trivial
  | (j, E) :: l, gl, h => by
    simp only [robL] at h
    obtain ⟨h1, h2⟩ := AllRob_append h
    have e : seP ss (j, E) = (j, (seP ss (j, E)).2) := seP_mk ss j E
    rw [List.map_cons, e]
    simp only [robL]
    refine AllRob_append2 ?_ (robL_seP hc hb (fun q hq => gl q (List.mem_cons_of_mem _ hq)) h2)
    cases E with
    | skip => exact trivial
    | op e => exact trivial
    | call f args v h0 h' c c' =>
      simp only [seP, besideL_seP] at h1 ⊢
      have g0 : Gone ss h0 c := gl _ List.mem_cons_self
      have ids : ∀ x ∈ besideL ops base j l, base ≤ x := besideL_ids
      cases hbs : besideL ops base j l with
      | nil => exact trivial
      | cons x xs =>
        rw [hbs] at h1 ids
        simp only at h1 ⊢
        refine ⟨fun s2 hs2 => ?_, trivial⟩
        have r := h1.1 s2 hs2
        have ap : ∀ y ∈ s2.map (·.1), y ∉ ss.map (·.1) := fun y hy hm => by
          obtain ⟨p, hp, rfl⟩ := List.mem_map.1 hy
          obtain ⟨q, hq, e⟩ := List.mem_map.1 hm
          have := ids _ (hs2 p hp)
          have := hb q hq
          omega
        have k := (hc _ _ _ _ _ _ _ ss r (g0.puts ap)).2
        simp only
        rw [puts_comm s2 ss ap, puts_comm s2 ss ap] at k
        exact k
theorem drawK_fro {M : Mach} {call : CalF} (hc : FroC call) {ss : List (Nat × Option ABlk)} {ops : Array Oper} {K K' : Fr → AHeap → Nat → Option Res} (hK : FroK ss K K') : FroK ss (fun fr h c => drawK M call ops fr h c K) (fun fr h c => drawK M call ops fr h c K') := fun fr h c v h' c' hh g => by
  simp only [drawK] at hh ⊢
  split at hh
  · rename_i ce
    rw [if_pos ce]
    have hb : ∀ p ∈ ss, p.1 < c := fun p hp => (g p hp).1
    refine drawOps_fro hc hb ?_ _ _ _ _ [] _ _ _ hh (g.le (by omega)) (fun q hq => by cases hq)
    intro fr1 h1 c1 l v1 h1' c1' hk g1 gl
    split at hk
    · rename_i cp
      obtain ⟨a1, hk⟩ := ifApart_out hk
      obtain ⟨a2, hk⟩ := ifKept_out hk
      obtain ⟨a3, hk⟩ := ifRob_out hk
      rw [if_pos (by rw [pairsB_seP]; exact cp), ifApart_pos (by rw [apartL_seP]; exact a1), ifKept_pos (keptL_seP ss a2), ifRob_pos (robL_seP hc hb gl a3)]
      exact hK _ _ _ _ _ _ hk g1
    · cases hk
  · cases hh

/-! ### code -/
theorem ready_gone {l es : Nat} {ss : List (Nat × Option ABlk)} {c : Nat} (hr : isReady h l es = true) (g : Gone ss h c) : isReady (h.puts ss) l es = true ∧ l ∉ ss.map (·.1) := by
  unfold isReady at hr ⊢
  cases hl : h l with
  | none => rw [hl] at hr; cases hr
  | some b =>
    rw [hl] at hr
    have hn : h l ≠ none := by rw [hl]; simp
    exact ⟨by rw [puts_there g l hn, hl]; exact hr, g.not (.inr hn)⟩
theorem roundEnd_fro (l : Nat) (ss : List (Nat × Option ABlk)) : FroO ss (roundEnd l) (roundEnd l) := fun o v h' c' hh g => by
  have key : ∀ {h : AHeap} {c : Nat} {b : Option ABlk} {v0 : AV}, (if isReady h l (LB + 1) = true then some (v0, h.put l b, c) else none) = some (v, h', c') → Gone ss h c →
      Gone ss h' c' ∧ (if isReady (h.puts ss) l (LB + 1) = true then some (v0, (h.puts ss).put l b, c) else none) = some (v, h'.puts ss, c') := fun {h c b v0} hh g => by
    split at hh
    · rename_i cr
      obtain ⟨k1, k2⟩ := ready_gone cr g
      obtain rfl := (Prod.mk.inj (Option.some.inj hh)).1
      obtain ⟨rfl, rfl⟩ := Prod.mk.inj (Prod.mk.inj (Option.some.inj hh)).2
      rw [if_pos k1, put_puts ss k2]
      refine ⟨?_, rfl⟩
      have := g.puts (s := [(l, b)]) (fun i hi => by simp at hi; subst hi; exact k2)
      exact this
    · cases hh
  cases o with
  | normal fr h c => exact key hh g
  | exit id fr h c => exact key hh g
  | ret fr h c => exact key hh g
theorem iterK_fro {ss : List (Nat × Option ABlk)} {cut : Fr → Fr} {body : (AOut → Option Res) → StepF Res} (hb : ∀ K K', FroO ss K K' → FroK ss (body K) (body K')) {K K' : AOut → Option Res} (hK : FroO ss K K') : ∀ n, FroK ss (iterK go1 cut body n K) (iterK go1 cut body n K')
  | 0 => fun fr h c v h' c' hh => by cases hh
  | n + 1 => fun fr h c v h' c' hh g => by
    refine hb _ _ ?_ fr h c v h' c' hh g
    intro o v h' c' ho g
    cases o with
    | normal fr h c => exact iterK_fro hb hK n _ _ _ _ _ _ ho g
    | exit id fr h c => exact hK _ _ _ _ ho g
    | ret fr h c => exact hK _ _ _ _ ho g
theorem normY_same {R R' : Type} {ls : List Look} {k : Nat} {args : List AV} {K : List AV → Option R} {r : R} (hk : args.length = k) (h : normY ls k args K = some r) (K' : List AV → Option R') : K args = some r ∧ normY ls k args K' = K' args := by
  unfold normY at h ⊢
  cases ls with
  | nil => exact ⟨h, rfl⟩
  | cons l ls =>
    simp only at h ⊢
    split at h
    · rename_i c
      have hl : (l :: ls).length = args.length := by rw [hk]; exact Nat.eq_of_beq_eq_true c
      rw [if_pos c, normT_same hl h]
      have := normT_eq (by omega) h
      rw [List.drop_zero] at this
      exact ⟨this, rfl⟩
    · cases h
theorem roundA_fro {M : Mach} {kp : Keep} {ps : List Nat} {fr : Fr} {step : StepF Res} (hs : ∀ ss, FroK ss step step) : ∀ (args : List AV) (h : AHeap) (c : Nat) (v : AV) (h' : AHeap) (c' : Nat) (ss : List (Nat × Option ABlk)), roundA M kp ps fr step args h c = some (v, h', c') → Gone ss h c → Gone ss h' c' ∧ roundA M kp ps fr step args (h.puts ss) c = some (v, h'.puts ss, c') := fun args h c v h' c' ss hh g => by
  unfold roundA at hh ⊢
  split at hh
  · rename_i cl
    rw [if_pos cl]
    obtain ⟨k1, k2⟩ := normY_same (R' := Res) (Nat.eq_of_beq_eq_true cl) hh fun vs => step (putPs (cutF (yldK kp ps) fr) vs ps 0) (h.puts ss) c
    rw [k2]
    exact hs ss _ _ _ _ _ _ k1 g
  · cases hh
theorem afterExits_fro {ss : List (Nat × Option ABlk)} {es l : Nat} {fr : Fr} {c : Nat} {K K' : AOut → Option Res} (hK : FroO ss K K') (hl : l ∉ ss.map (·.1)) (g : Gone ss h c) {v : AV} {h' : AHeap} {c' : Nat} : ∀ ids, afterExits es l fr h c K ids = some (v, h', c') → Gone ss h' c' ∧ afterExits es l fr (h.puts ss) c K' ids = some (v, h'.puts ss, c')
  | [], hh => by cases hh
  | id :: ids, hh => by
    have g2 : Gone ss (h.put l none) c := g.puts (s := [(l, none)]) fun i hi => by simp at hi; subst hi; exact hl
    unfold afterExits at hh ⊢
    split at hh
    · rename_i ce
      rw [if_pos ce, ← put_puts ss hl]
      exact hK _ _ _ _ hh g2
    · rename_i ce
      rw [if_neg ce]
      exact afterExits_fro hK hl g ids hh
theorem afterK_fro {ss : List (Nat × Option ABlk)} {body : Code} {l : Nat} {fr : Fr} {c : Nat} {K K' : AOut → Option Res} (hK : FroO ss K K') (g : Gone ss h c) {v : AV} {h' : AHeap} {c' : Nat} (hh : afterK body l fr h c K = some (v, h', c')) : Gone ss h' c' ∧ afterK body l fr (h.puts ss) c K' = some (v, h'.puts ss, c') := by
  unfold afterK at hh ⊢
  obtain ⟨b, hb, hh⟩ := Option.bind_eq_some_iff.1 hh
  have hn : h l ≠ none := by rw [hb]; simp
  have hl := g.not (.inr hn)
  have g2 : Gone ss (h.put l none) c := g.puts (s := [(l, none)]) fun i hi => by simp at hi; subst hi; exact hl
  rw [puts_there g l hn, hb, Option.bind_some]
  split at hh
  · rename_i c1
    rw [if_pos c1, ← put_puts ss hl]
    exact hK _ _ _ _ hh g2
  · rename_i c1
    rw [if_neg c1]
    split at hh
    · rename_i c2
      rw [if_pos c2, ← put_puts ss hl]
      exact hK _ _ _ _ hh g2
    · rename_i c2
      rw [if_neg c2]
      exact afterExits_fro hK hl g _ hh

theorem FroF.yx {Y : YldF} (hY : FroF Y) {l : Nat} {r : List AV → AHeap → Nat → Option Res} (hr : ∀ (args : List AV) (h : AHeap) (c : Nat) (v : AV) (h' : AHeap) (c' : Nat) (ss : List (Nat × Option ABlk)), r args h c = some (v, h', c') → Gone ss h c → Gone ss h' c' ∧ r args (h.puts ss) c = some (v, h'.puts ss, c')) : FroF (YX l r Y) := fun f args h c v h' c' ss hh g => by
  unfold YX at hh ⊢
  split at hh
  · rename_i cf; rw [if_pos cf]; exact hr _ _ _ _ _ _ _ hh g
  · rename_i cf; rw [if_neg cf]; exact hY _ _ _ _ _ _ _ _ hh g

theorem aexec_fro {M : Mach} {cy : YldF → CallF} (hcy : ∀ Y, FroF Y → FroF (cy Y)) {Y : YldF} (hY : FroF Y) {kp : Keep} {lf : Nat} : ∀ (c : Code) (ss : List (Nat × Option ABlk)) (K K' : AOut → Option Res), FroO ss K K' → FroK ss (aexec go1 drawK M cy Y kp lf c K) (aexec go1 drawK M cy Y kp lf c K')
  | .skip, ss, K, K', hK => fun fr h c v h' c' hh g => by simp only [aexec] at hh ⊢; exact hK _ _ _ _ hh g
  | .region id ops draw, ss, K, K', hK => fun fr h c v h' c' hh g => by
    simp only [aexec] at hh ⊢
    have hk : FroK ss (fun fr h c => K (.normal fr h c)) (fun fr h c => K' (.normal fr h c)) := fun fr h c v h' c' hh g => hK _ _ _ _ hh g
    split at hh
    · rename_i cd
      rw [if_pos cd]
      exact drawK_fro (froC (hcy Y hY) hY) hk _ _ _ _ _ _ hh g
    · rename_i cd
      rw [if_neg cd]
      exact opsK_fro (froC (hcy Y hY) hY) (fun p hp => (g p hp).1) hk _ _ _ _ _ _ _ hh (g.le (by omega))
  | .seq a b, ss, K, K', hK => fun fr h c v h' c' hh g => by
    simp only [aexec, jumpC_go1] at hh ⊢
    refine aexec_fro hcy hY a ss _ _ ?_ _ _ _ _ _ _ hh g
    intro o v h' c' ho g
    cases o with
    | normal fr h c => exact aexec_fro hcy hY b ss _ _ hK _ _ _ _ _ _ ho g
    | exit id fr h c => exact hK _ _ _ _ ho g
    | ret fr h c => exact hK _ _ _ _ ho g
  | .cond x a b, ss, K, K', hK => fun fr h c v h' c' hh g => by
    simp only [aexec] at hh ⊢
    split at hh
    · rename_i t ht
      split at hh
      · rename_i ct; rw [if_pos ct]; exact aexec_fro hcy hY a ss _ _ hK _ _ _ _ _ _ hh g
      · rename_i ct; rw [if_neg ct]; exact aexec_fro hcy hY b ss _ _ hK _ _ _ _ _ _ hh g
    · cases hh
  | .block id a, ss, K, K', hK => fun fr h c v h' c' hh g => by
    simp only [aexec] at hh ⊢
    refine aexec_fro hcy hY a ss _ _ ?_ _ _ _ _ _ _ hh g
    intro o v h' c' ho g
    cases o with
    | normal fr h c => exact hK _ _ _ _ ho g
    | exit i fr h c =>
      simp only [blockK, AOut.puts] at ho ⊢
      split at ho
      · rename_i ci; rw [if_pos ci]; exact hK _ _ _ _ ho g
      · rename_i ci; rw [if_neg ci]; exact hK _ _ _ _ ho g
    | ret fr h c => exact hK _ _ _ _ ho g
  | .loop a, ss, K, K', hK => fun fr h c v h' c' hh g => by
    simp only [aexec, go1] at hh ⊢
    exact iterK_fro (fun K K' hK => aexec_fro hcy hY a ss K K' hK) hK lf _ _ _ _ _ _ hh g
  | .exit id, ss, K, K', hK => fun fr h c v h' c' hh g => by simp only [aexec] at hh ⊢; exact hK _ _ _ _ hh g
  | .ret, ss, K, K', hK => fun fr h c v h' c' hh g => by simp only [aexec] at hh ⊢; exact hK _ _ _ _ hh g
  | .rangeFunc gf ps assign body, ss, K, K', hK => fun fr h c v h' c' hh g => by
    simp only [aexec, go1] at hh ⊢
    obtain ⟨q, hq, hh⟩ := Option.bind_eq_some_iff.1 hh
    obtain ⟨⟨v1, h1, c1⟩, hr, hh⟩ := Option.bind_eq_some_iff.1 hh
    rw [hq, Option.bind_some]
    have step : ∀ ss, FroK ss (roundStep c (cutC kp body) (aexec go1 drawK M cy Y kp lf assign) (aexec go1 drawK M cy Y kp lf body)) (roundStep c (cutC kp body) (aexec go1 drawK M cy Y kp lf assign) (aexec go1 drawK M cy Y kp lf body)) := fun ss fr h c2 v h' c' hh g => by
      unfold roundStep at hh ⊢
      refine aexec_fro hcy hY assign ss _ _ ?_ _ _ _ _ _ _ hh g
      intro o v h' c' ho g
      cases o with
      | normal fr h c2 =>
        simp only [roundBody, AOut.puts] at ho ⊢
        split at ho
        · rename_i cr
          obtain ⟨k1, k2⟩ := ready_gone cr g
          rw [if_pos k1, ← put_puts ss k2]
          refine aexec_fro hcy hY body ss _ _ (roundEnd_fro c ss) _ _ _ _ _ _ ho ?_
          exact g.puts (s := [(c, some ⟨[], LB + 1, true⟩)]) fun i hi => by simp at hi; subst hi; exact k2
        · cases ho
      | exit id fr h c2 => cases ho
      | ret fr h c2 => cases ho
    have hYX := hY.yx (l := c) (roundA_fro (M := M) (kp := kp) (ps := ps.toList) (fr := fr) step)
    have hcn : c ∉ ss.map (·.1) := g.not (.inl (Nat.le_refl c))
    have g1 : Gone ss (h.put c (some ⟨[], LB, true⟩)) (c + 1) := (g.puts (s := [(c, some ⟨[], LB, true⟩)]) fun i hi => by simp at hi; subst hi; exact hcn).le (by omega)
    obtain ⟨g2, e2⟩ := hcy _ hYX _ _ _ _ _ _ _ ss hr g1
    rw [put_puts ss hcn] at e2
    rw [e2, Option.bind_some]
    exact afterK_fro hK g2 hh
  | .scope _, _, _, _, _ => fun fr h c v h' c' hh => by simp [aexec] at hh
  | .label _, _, _, _, _ => fun fr h c v h' c' hh => by simp [aexec] at hh
  | .goto _, _, _, _, _ => fun fr h c v h' c' hh => by simp [aexec] at hh
  | .refuse _, _, _, _, _ => fun fr h c v h' c' hh => by simp [aexec] at hh

/-! ### calls -/
theorem resK_fro {M : Mach} {ss : List (Nat × Option ABlk)} {fr : Fr} {c : Nat} (g : Gone ss h c) : ∀ {l : List ResultVar} {K : List AV → Option R} {r : R}, resK M fr h l K = some r → ∃ vs, K vs = some r ∧ ∀ {R' : Type} (K' : List AV → Option R'), resK M fr (h.puts ss) l K' = K' vs
  | [], K, r, hh => ⟨[], hh, fun _ => rfl⟩
  | .tmp t :: l, K, r, hh => by
    simp only [resK] at hh
    obtain ⟨vs, k1, k2⟩ := resK_fro g hh
    exact ⟨_, k1, fun K' => by simp only [resK]; rw [k2]⟩
  | .cell a t :: l, K, r, hh => by
    simp only [resK] at hh
    rw [loadA_bind] at hh
    obtain ⟨e, he, hh⟩ := Option.bind_eq_some_iff.1 hh
    obtain ⟨vs, k1, k2⟩ := resK_fro g (norm_eq hh)
    have e2 : loadA M.T t (fr.f a) (h.puts ss) some = some e := (loadA_loc (T := M.T) (h := h) t (fr.f a) 0 e he).2 (h.puts ss) fun i hi => puts_there g i (loadA_rd he i hi)
    refine ⟨_, k1, fun K' => ?_⟩
    simp only [resK]
    rw [loadA_bind, e2, Option.bind_some, norm_same hh, k2]
theorem retK_fro (M : Mach) (fn : AFun) (ss : List (Nat × Option ABlk)) : FroO ss (retK M fn) (retK M fn) := fun o v h' c' hh g => by
  have key : ∀ {fr : Fr} {h : AHeap} {c : Nat}, (resK M fr h fn.results fun vs => some (oneOr vs, h, c)) = some (v, h', c') → Gone ss h c → Gone ss h' c' ∧ (resK M fr (h.puts ss) fn.results fun vs => some (oneOr vs, h.puts ss, c)) = some (v, h'.puts ss, c') := fun {fr h c} hh g => by
    obtain ⟨vs, k1, k2⟩ := resK_fro g hh
    rw [k2]
    obtain rfl := (Prod.mk.inj (Option.some.inj k1)).1
    obtain ⟨rfl, rfl⟩ := Prod.mk.inj (Prod.mk.inj (Option.some.inj k1)).2
    exact ⟨g, rfl⟩
  cases o with
  | normal fr h c => exact key hh g
  | exit id fr h c => cases hh
  | ret fr h c => exact key hh g
theorem orcK_fro (q : List Nat) (args : List AV) (h : AHeap) (c : Nat) (v : AV) (h' : AHeap) (c' : Nat) (ss : List (Nat × Option ABlk)) (hh : orcK q args h c = some (v, h', c')) (g : Gone ss h c) : Gone ss h' c' ∧ orcK q args (h.puts ss) c = some (v, h'.puts ss, c') := by
  have same : ∀ {i : Nat}, h i ≠ none → (h.puts ss) i = h i := fun hn => puts_there g _ hn
  have set : ∀ {i : Nat} {b : Option ABlk} {d : Nat}, c ≤ i ∨ h i ≠ none → c ≤ d → Gone ss (h.put i b) d ∧ (h.puts ss).put i b = (h.put i b).puts ss := fun {i b d} hi hd => by
    have hn := g.not hi
    exact ⟨(g.puts (s := [(i, b)]) fun x hx => by simp at hx; subst hx; exact hn).le hd, (put_puts ss hn).symm⟩
  have fin : ∀ {v0 : AV} {h0 : AHeap} {c0 : Nat}, some (v0, h0, c0) = some (v, h', c') → v = v0 ∧ h' = h0 ∧ c' = c0 := fun hh => by
    obtain rfl := (Prod.mk.inj (Option.some.inj hh)).1
    obtain ⟨rfl, rfl⟩ := Prod.mk.inj (Prod.mk.inj (Option.some.inj hh)).2
    exact ⟨rfl, rfl, rfl⟩
  unfold orcK at hh ⊢
  split at hh
  · unfold orcSort at hh ⊢
    split at hh
    · rename_i c0
      obtain ⟨rfl, rfl, rfl⟩ := fin hh
      exact ⟨g, by rw [if_pos c0]⟩
    · rename_i c0
      obtain ⟨p, hp, hh⟩ := Option.bind_eq_some_iff.1 hh
      obtain ⟨b, hb, hh⟩ := Option.bind_eq_some_iff.1 hh
      have hn : h p.1 ≠ none := by rw [hb]; simp
      split at hh
      · rename_i c1
        obtain ⟨zs, hz, hh⟩ := Option.bind_eq_some_iff.1 hh
        obtain ⟨rfl, rfl, rfl⟩ := fin hh
        obtain ⟨s1, s2⟩ := set (b := some ⟨(zs.mergeSort fun x y => decide (x ≤ y)).map (AV.int .i64), 1, true⟩) (.inr hn) (Nat.le_refl _)
        refine ⟨s1, ?_⟩
        rw [if_neg c0, hp, Option.bind_some, same hn, hb, Option.bind_some, if_pos c1, hz, Option.bind_some, s2]
      · cases hh
  · unfold orcKeys at hh ⊢
    split at hh
    · obtain ⟨rfl, rfl, rfl⟩ := fin hh
      exact ⟨g, rfl⟩
    · rename_i r
      obtain ⟨es, hes, hh⟩ := Option.bind_eq_some_iff.1 hh
      obtain ⟨ks, hks, hh⟩ := Option.bind_eq_some_iff.1 hh
      rw [show mapD (h.puts ss) r = mapD h r from mapD_loc (same (mapD_rd hes)), hes, Option.bind_some, hks, Option.bind_some]
      split at hh
      · rename_i c1
        rw [if_pos c1]
        split at hh
        · rename_i c2
          obtain ⟨rfl, rfl, rfl⟩ := fin hh
          rw [if_pos c2]
          exact ⟨g, rfl⟩
        · rename_i c2
          obtain ⟨rfl, rfl, rfl⟩ := fin hh
          rw [if_neg c2]
          obtain ⟨s1, s2⟩ := set (i := c) (b := some ⟨(sortS ks).map AV.str, 1, true⟩) (.inl (Nat.le_refl c)) (Nat.le_succ c)
          exact ⟨s1, by rw [s2]⟩
      · cases hh
  · unfold orcClone at hh ⊢
    split at hh
    · obtain ⟨rfl, rfl, rfl⟩ := fin hh
      exact ⟨g, rfl⟩
    · rename_i r
      obtain ⟨es, hes, hh⟩ := Option.bind_eq_some_iff.1 hh
      obtain ⟨rfl, rfl, rfl⟩ := fin hh
      rw [show mapD (h.puts ss) r = mapD h r from mapD_loc (same (mapD_rd hes)), hes, Option.bind_some]
      obtain ⟨s1, s2⟩ := set (i := c) (b := some ⟨es, MB, true⟩) (.inl (Nat.le_refl c)) (Nat.le_succ c)
      exact ⟨s1, by rw [s2]⟩
  · rename_i g' us vs
    split at hh
    · rename_i c0
      rw [if_pos c0]
      unfold orcSlice at hh ⊢
      split at hh
      · rename_i c1
        obtain ⟨rfl, rfl, rfl⟩ := fin hh
        rw [if_pos c1]
        exact ⟨g, rfl⟩
      · rename_i c1
        rw [if_neg c1]
        obtain ⟨p, hp, hh⟩ := Option.bind_eq_some_iff.1 hh
        obtain ⟨b, hb, hh⟩ := Option.bind_eq_some_iff.1 hh
        obtain ⟨blk, hblk, hh⟩ := Option.bind_eq_some_iff.1 hh
        obtain ⟨bb, hbb, hh⟩ := Option.bind_eq_some_iff.1 hh
        have hn : h p.1 ≠ none := by rw [hblk]; simp
        have hn2 : h b ≠ none := by rw [hbb]; simp
        rw [hp, Option.bind_some, hb, Option.bind_some, same hn, hblk, Option.bind_some, same hn2, hbb, Option.bind_some]
        split at hh
        · rename_i c2
          rw [if_pos c2]
          obtain ⟨d, hd, hh⟩ := Option.bind_eq_some_iff.1 hh
          obtain ⟨rfl, rfl, rfl⟩ := fin hh
          rw [hd, Option.bind_some]
          obtain ⟨s1, s2⟩ := set (b := some ⟨pairCells (sortAt d), 2, true⟩) (.inr hn) (Nat.le_refl _)
          exact ⟨s1, by rw [s2]⟩
        · cases hh
    · cases hh
  · cases hh

theorem acall_fro (M : Mach) (F : Nat → Option AFun) : ∀ (n : Nat) (Y : YldF), FroF Y → FroF (acall drawK M F n Y)
  | 0, _, _ => fun f args h c v h' c' ss hh => by cases hh
  | n + 1, Y, hY => fun f args h c v h' c' ss hh g => by
    unfold acall at hh ⊢
    split at hh
    · rename_i fn hf
      split at hh
      · exact orcK_fro _ _ _ _ _ _ _ ss hh g
      · exact aexec_fro (fun Y hY => acall_fro M F n Y hY) hY fn.body ss _ _ (retK_fro M fn ss) _ _ _ _ _ _ hh g
    · cases hh
theorem Y0_fro : FroF Y0 := fun _ _ _ _ _ _ _ _ hh => by cases hh

/-- A CALL DOES NOT SEE WHAT IS NOT THERE. -/
theorem callP_fro (P : Program) (kp : Nat → Keep) (n : Nat) {Y : YldF} (hY : FroF Y) {f : Nat} {args : List AV} {h : AHeap} {c : Nat} {v : AV} {h' : AHeap} {c' : Nat} (ss : List (Nat × Option ABlk)) (hh : callP P kp n Y f args h c = some (v, h', c')) (g : Gone ss h c) : Gone ss h' c' ∧ callP P kp n Y f args (h.puts ss) c = some (v, h'.puts ss, c') :=
  acall_fro _ _ n Y hY _ _ _ _ _ _ _ ss hh g
/-- A call that was proved on a heap without the block `id` (below the call's numbers), on any heap that has it: what is set there stays. -/
theorem callP_rob {P : Program} {kp : Nat → Keep} {n : Nat} {Y : YldF} (hY : FroF Y) {f : Nat} {args : List AV} {h : AHeap} {c id : Nat} {v : AV} {h' : AHeap} {c' : Nat} (hid : id < c) (hh : callP P kp n Y f args (h.put id none) c = some (v, h', c')) :
    callP P kp n Y f args h c = some (v, h'.put id (h id), c') ∧ ∀ ss : List (Nat × Option ABlk), (∀ p ∈ ss, p.1 ∈ [id]) → callP P kp n Y f args (h.puts ss) c = some (v, (h'.put id (h id)).puts ss, c') := by
  have main : ∀ ss : List (Nat × Option ABlk), (∀ p ∈ ss, p.1 = id) → callP P kp n Y f args ((h.put id none).puts ss) c = some (v, h'.puts ss, c') := fun ss hs =>
    (callP_fro P kp n hY ss hh fun p hp => by rw [hs p hp]; exact ⟨hid, put_same _ _ _⟩).2
  have e : (h.put id none).puts [(id, h id)] = h := by
    show (h.put id none).put id (h id) = h
    rw [put_put]
    funext i
    by_cases hi : i = id
    · subst hi; rw [put_same]
    · rw [put_ne hi]
  refine ⟨?_, fun ss hs => ?_⟩
  · have := main [(id, h id)] (by simp)
    rw [e] at this
    exact this
  · have := main ((id, h id) :: ss) (fun p hp => by
      rcases List.mem_cons.1 hp with rfl | hp
      · rfl
      · simpa using hs p hp)
    rw [show ((id, h id) :: ss) = [(id, h id)] ++ ss from rfl, puts_append, e, puts_append] at this
    exact this
end Go.Proofs.Ytncmdbpoceilgaa.T
