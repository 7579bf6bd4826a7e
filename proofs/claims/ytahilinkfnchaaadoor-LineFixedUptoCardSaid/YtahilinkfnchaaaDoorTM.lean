/- The abstract machine's maps: keys are strings. Nothing of a program. -/
import Derived.Test.YtahilinkfnchaaaDoorT7
set_option linter.unusedVariables false
set_option linter.unusedSimpArgs false
namespace Go.Proofs.YtahilinkfnchaaaDoor.T
open Go Go.RowKit Go.MapKept

variable {R : Type} {P : Program} {T : Types} {N : Nat} {m : PMap} {h : AHeap} {fr : Nat → Prop} {w : World}

/-! ### entries -/
/-- The first entry of a key, and where. -/
def findE (s : ByteArray) : List AV → Nat → Option (Option (Nat × AV))
  | [], _ => some none
  | .tuple [.str k, v] :: l, i => if k = s then some (some (i, v)) else findE s l (i + 1)
  | _, _ => none
def updE (s : ByteArray) (v : AV) (es : List AV) : Option (List AV) := (findE s es 0).map fun o => match o with
  | some q => es.set q.1 (.tuple [.str s, v])
  | none => es ++ [.tuple [.str s, v]]
def delE (s : ByteArray) (es : List AV) : Option (List AV) := (findE s es 0).map fun o => match o with
  | some q => es.eraseIdx q.1
  | none => es

theorem EntRel.length {m : PMap} : ∀ {vs : List AV} {es : List MapEntry}, EntRel m vs es → es.length = vs.length
  | [], es, h => by simp only [EntRel] at h; subst h; rfl
  | _ :: _, _, ⟨e, r, k, x, h1, h2, h3, h4, h5⟩ => by subst h1; simp [EntRel.length h5]
theorem EntRel.app {m : PMap} : ∀ {vs us : List AV} {es fs : List MapEntry}, EntRel m vs es → EntRel m us fs → EntRel m (vs ++ us) (es ++ fs)
  | [], _, _, _, h, q => by simp only [EntRel] at h; subst h; exact q
  | _ :: _, _, _, _, ⟨e, r, k, x, h1, h2, h3, h4, h5⟩, q => by subst h1; exact ⟨e, _, k, x, rfl, h2, h3, h4, h5.app q⟩
theorem EntRel.one {m : PMap} {k v : AV} {e : MapEntry} (h1 : Rel m k e.key) (h2 : Rel m v e.val) : EntRel m [.tuple [k, v]] [e] := ⟨e, [], k, v, rfl, rfl, h1, h2, rfl⟩
theorem EntRel.erase {m : PMap} : ∀ {vs : List AV} {es : List MapEntry} (_ : EntRel m vs es) (i : Nat), EntRel m (vs.eraseIdx i) (es.eraseIdx i)
  | [], es, h, i => by simp only [EntRel] at h; subst h; simp [EntRel]
  | _ :: _, _, ⟨e, r, k, x, h1, h2, h3, h4, h5⟩, 0 => by subst h1; simpa using h5
  | _ :: _, _, ⟨e, r, k, x, h1, h2, h3, h4, h5⟩, i + 1 => by subst h1; exact ⟨e, _, k, x, rfl, h2, h3, h4, h5.erase i⟩
theorem EntRel.mod {m : PMap} {f : MapEntry → MapEntry} {k v : AV} (hf : ∀ e, Rel m k (f e).key ∧ Rel m v (f e).val) : ∀ {vs : List AV} {es : List MapEntry} (_ : EntRel m vs es) (i : Nat), EntRel m (vs.set i (.tuple [k, v])) (es.modify i f)
  | [], es, h, i => by simp only [EntRel] at h; subst h; simp [EntRel]
  | _ :: _, _, ⟨e, r, k0, x, h1, h2, h3, h4, h5⟩, 0 => by subst h1; exact ⟨f e, r, k, v, by simp, rfl, (hf e).1, (hf e).2, h5⟩
  | _ :: _, _, ⟨e, r, k0, x, h1, h2, h3, h4, h5⟩, i + 1 => by subst h1; exact ⟨e, _, k0, x, by simp, h2, h3, h4, h5.mod hf i⟩

/-- What is found. -/
theorem find_sim {m : PMap} {s : ByteArray} : ∀ {vs : List AV} {es : List MapEntry} {i : Nat} {o : Option (Nat × AV)}, EntRel m vs es → findE s vs i = some o →
    (o = none ∧ Instr.findNow .string (.string s) es i = some none ∧ ∀ x ∈ es, x.key ≠ .string s) ∨ (∃ j v e, o = some (i + j, v) ∧ Instr.findNow .string (.string s) es i = some (some (i + j, e.val)) ∧ es[j]? = some e ∧ e.key = .string s ∧ Rel m v e.val)
  | [], es, i, o, h, hf => by
    simp only [EntRel] at h; subst h
    simp only [findE, Option.some.injEq] at hf
    exact .inl ⟨hf.symm, rfl, by simp⟩
  | _ :: vs, _, i, o, ⟨e, r, k, x, h1, h2, h3, h4, h5⟩, hf => by
    subst h1 h2
    cases k with
    | str k =>
      simp only [Rel] at h3
      simp only [findE] at hf
      have hnow : Instr.sameNow .string (.string s) e.key = some (s == k) := by rw [h3]; rfl
      by_cases c : k = s
      · rw [if_pos c] at hf
        have hb : (s == k) = true := (bytes_beq s k).2 c.symm
        exact .inr ⟨0, x, e, (Option.some.inj hf).symm, by simp [Instr.findNow, hnow, hb], rfl, by rw [h3, c], h4⟩
      · rw [if_neg c] at hf
        have hb : (s == k) = false := by
          cases q : (s == k) with
          | false => rfl
          | true => exact absurd ((bytes_beq s k).1 q).symm c
        rcases find_sim h5 hf with ⟨z1, z2, z3⟩ | ⟨j, v, e', z1, z2, z3, z4, z5⟩
        · refine .inl ⟨z1, by simp [Instr.findNow, hnow, hb, z2], fun y hy => ?_⟩
          rcases List.mem_cons.1 hy with rfl | hy
          · rw [h3]; intro q; exact c (Value.string.inj q)
          · exact z3 y hy
        · exact .inr ⟨j + 1, v, e', by rw [z1]; congr 2; omega, by simp [Instr.findNow, hnow, hb, z2]; omega, by simpa using z3, z4, z5⟩
    | _ => simp [findE] at hf

/-! ### operations -/
def isStrD : TypeDesc → Bool
  | .string => true
  | _ => false
/-- Of a map's type with strings as keys: the elements' type. -/
def mapTy (T : Types) (t : Nat) : Option TI := (T t).bind fun ti => match ti.desc with
  | .map k e => (T k).bind fun tk => if isStrD tk.desc = true then T e else none
  | _ => none
/-- Is it an iterator's? -/
def isIt : List AV → Bool
  | .nilFn :: _ => true
  | _ => false
def mapD (h : AHeap) (r : Nat) : Option (List AV) := (h r).bind fun b => if (mapB b && b.own && !isIt b.cells) = true then some b.cells else none

theorem mapTy_ok (ht : TOk P T) {t : Nat} {te : TI} (e : mapTy T t = some te) : ∃ k el, P.underlying t = some (.map k el) ∧ P.underlying k = some .string ∧ T el = some te := by
  unfold mapTy at e
  obtain ⟨ti, et, e⟩ := Option.bind_eq_some_iff.1 e
  split at e
  · rename_i k el ed
    obtain ⟨tk, ek, e⟩ := Option.bind_eq_some_iff.1 e
    split at e
    · rename_i hs
      obtain ⟨_, _, hu, _⟩ := ht.info et
      obtain ⟨_, _, hk, _⟩ := ht.info ek
      refine ⟨k, el, by rw [hu, ed], ?_, e⟩
      rw [hk]
      cases hd : tk.desc <;> rw [hd] at hs <;> first | rfl | (simp [isStrD] at hs)
    · cases e
  · cases e
theorem mapD_ok (s : Sim N m h fr w) {r : Nat} {es : List AV} (e : mapD h r = some es) : ∃ b p en ck, h r = some b ∧ b.es = MB ∧ b.own = true ∧ b.cells = es ∧ m r = some p ∧ w.heap[p.blk]? = some (.map en ck) ∧ EntRel m es en.toList ∧ Stamped en ck ∧ N ≤ p.blk := by
  unfold mapD at e
  obtain ⟨b, hb, e⟩ := Option.bind_eq_some_iff.1 e
  split at e
  · rename_i c
    simp only [Bool.and_eq_true] at c
    obtain rfl := Option.some.inj e
    have hes : b.es = MB := Nat.eq_of_beq_eq_true c.1.1
    obtain ⟨p, hp, k⟩ := s.blk r b hb
    obtain ⟨_, o, h1, hk⟩ := k.map hes
    rcases hk with ⟨en, ck, rfl, h2, h3⟩ | ⟨st, pos, hc, _⟩
    · exact ⟨b, p, en, ck, hb, hes, c.1.2, rfl, hp, h1, h2, h3, (k.own c.1.2).1⟩
    · have := c.2
      rw [hc] at this
      simp [isIt, itC] at this
  · cases e

theorem map_val {r : Nat} {X : Value} (hx : Rel m (.mapv (some r)) X) {p : Place} (hp : m r = some p) : X = .map (some p.blk) := by
  simp only [Rel] at hx
  obtain ⟨q, hq, rfl⟩ := hx
  rw [hp] at hq; obtain rfl := Option.some.inj hq; rfl
theorem below_putObj {a : World} (hb : Below N a w) {b : Nat} (hN : N ≤ b) {en en' : Array MapEntry} {ck ck' : Nat} (hr : w.heap[b]? = some (.map en ck)) : Below N a (w.putObj b (.map en' ck')) :=
  hb.trans ⟨⟨rfl, rfl, rfl, by simp, fun k hk => World.putObj_heap_other (by omega)⟩, fun k q hq => ⟨q, (World.putObj_heap_other (by intro e; subst e; rw [hr] at hq; cases hq)).trans hq, .refl q⟩, fun k d hd => (World.putObj_heap_other (by intro e; subst e; rw [hr] at hd; cases hd)).trans hd⟩

/-- The entries of a map that may be nil; what is read of it. -/
def mapO (h : AHeap) (r : Option Nat) : Option (List AV) := match r with | none => some [] | some r => mapD h r
def rdM (r : Option Nat) : List Nat := match r with | none => [] | some r => [r]
def valE (z : AV) (o : Option (Nat × AV)) : AV := match o with | some q => q.2 | none => z
def hasE (o : Option (Nat × AV)) : Bool := o.isSome
def lookV (ok : Bool) (z : AV) (o : Option (Nat × AV)) : AV := bif ok then .tuple [valE z o, .bool (hasE o)] else valE z o
def lookupA (T : Types) (t : Nat) (x k : AV) (ok : Bool) (h : AHeap) (K : Eff → Option R) : Option R :=
  match x, k with
  | .mapv r, .str s => (mapTy T t).bind fun te => (mapO h r).bind fun es => (findE s es 0).bind fun o => K ⟨lookV ok te.zero o, [], rdM r⟩
  | _, _ => none

/-- A map in memory, or none: its entries. -/
theorem mapO_ok (s : Sim N m h fr w) {r : Option Nat} {es : List AV} (e : mapO h r = some es) {X : Value} (hx : Rel m (.mapv r) X) : (r = none ∧ es = [] ∧ X = .map none) ∨ ∃ i b p en ck, r = some i ∧ h i = some b ∧ b.es = MB ∧ b.own = true ∧ m i = some p ∧ X = .map (some p.blk) ∧ w.heap[p.blk]? = some (.map en ck) ∧ EntRel m es en.toList ∧ Stamped en ck ∧ N ≤ p.blk := by
  cases r with
  | none =>
    simp only [mapO, Option.some.injEq] at e
    simp only [Rel] at hx
    exact .inl ⟨rfl, e.symm, hx⟩
  | some i =>
    obtain ⟨b, p, en, ck, hb, h1, h2, _, hp, hm, her, hst, hN⟩ := mapD_ok s (show mapD h i = some es from e)
    exact .inr ⟨i, b, p, en, ck, rfl, hb, h1, h2, hp, map_val hx hp, hm, her, hst, hN⟩

theorem lookupA_sim (ht : TOk P T) (s : Sim N m h fr w) (id : Nat) {t : Nat} {x k : AV} {X Y : Value} {ok : Bool} {K : Eff → Option R} {r : R} (hx : Rel m x X) (hy : Rel m k Y) (hh : lookupA T t x k ok h K = some r) :
    ∃ e, K e = some r ∧ Does P N m h fr w id e (Instr.lookup t X Y ok) := by
  unfold lookupA at hh
  split at hh
  · rename_i rr st
    obtain ⟨te, et, hh⟩ := Option.bind_eq_some_iff.1 hh
    obtain ⟨es, hes, hh⟩ := Option.bind_eq_some_iff.1 hh
    obtain ⟨o, ho, hh⟩ := Option.bind_eq_some_iff.1 hh
    obtain ⟨kt, el, hu, hk, ee⟩ := mapTy_ok ht et
    obtain ⟨info, z, _, hi, _, _, hz, hrz, _⟩ := ht.info ee
    simp only [Rel] at hy; subst hy
    have hzr : (zeroValue el).run P w = .ok z w := by simp [zeroValue, typeInfo, hi, hz]
    have hkey : IsKey .string (.string st) := trivial
    have done : ∀ (o : Option (Nat × AV)) (val : Value), Rel m (valE te.zero o) val → (Instr.lookup t X (.string st) ok).run P w = .ok (if ok = true then .tuple #[val, .bool (hasE o)] else val) w → K ⟨lookV ok te.zero o, [], rdM rr⟩ = some r → ∃ e, K e = some r ∧ Does P N m h fr w id e (Instr.lookup t X (.string st) ok) := by
      intro o val hr hrun hk
      refine ⟨_, hk, Does.pure s hrun ?_⟩
      unfold lookV
      cases ok with
      | true => simp only [cond_true, if_true, Rel, RelL]; exact ⟨_, rfl, val, _, rfl, hr, _, _, rfl, rfl, rfl⟩
      | false => exact hr
    rcases mapO_ok s hes hx with ⟨rfl, rfl, rfl⟩ | ⟨i, b, p, en, ck, rfl, hb, _, _, hp, rfl, hm, her, _, _⟩
    · simp only [findE, Option.some.injEq] at ho; subst ho
      exact done none z (hrz m) (by simp [Instr.lookup, run_underlying hu, run_checkKey hk hkey, run_findKey hk (l := []) (a := none) rfl, hzr, Result.andThen, hasE]) hh
    · rcases find_sim her ho with ⟨rfl, z2, _⟩ | ⟨j, v, e, rfl, z2, z3, z4, z5⟩
      · exact done none z (hrz m) (by simp [Instr.lookup, run_underlying hu, MapKept.run_getObj_map hm, run_checkKey hk hkey, run_findKey hk z2, hzr, Result.andThen, hasE]) hh
      · exact done (some (0 + j, v)) e.val z5 (by simp [Instr.lookup, run_underlying hu, MapKept.run_getObj_map hm, run_checkKey hk hkey, run_findKey hk z2, Result.andThen, hasE]) hh
  · cases hh

def mapUpdA (T : Types) (t : Nat) (x k v : AV) (h : AHeap) (K : Eff → Option R) : Option R :=
  match x, k with
  | .mapv r, .str s => (mapTy T t).bind fun _ => r.bind fun r => (mapD h r).bind fun es => (updE s v es).bind fun es' => K ⟨AV.undef, [(r, some ⟨es', MB, true⟩)], [r]⟩
  | _, _ => none
theorem mapUpdA_sim (ht : TOk P T) (s : Sim N m h fr w) (id : Nat) {t : Nat} {x k v : AV} {X Y Z : Value} {K : Eff → Option R} {r : R} (hx : Rel m x X) (hy : Rel m k Y) (hz : Rel m v Z) (hh : mapUpdA T t x k v h K = some r) :
    ∃ e, K e = some r ∧ DoesU P N m h fr w id e (Instr.mapUpdate t X Y Z) := by
  unfold mapUpdA at hh
  split at hh
  · rename_i rr st
    obtain ⟨te, et, hh1⟩ := Option.bind_eq_some_iff.1 hh
    clear hh
    obtain ⟨rr, hrr, hh2⟩ := Option.bind_eq_some_iff.1 hh1
    clear hh1
    subst hrr
    obtain ⟨es, hes, hh⟩ := Option.bind_eq_some_iff.1 hh2
    clear hh2
    obtain ⟨es', hup, hh⟩ := Option.bind_eq_some_iff.1 hh
    obtain ⟨kt, el, hu, hk, ee⟩ := mapTy_ok ht et
    obtain ⟨b, p, en, ck, hb, hbe, hbo, hbc, hp, hm, her, hst, hN⟩ := mapD_ok s hes
    obtain rfl := map_val hx hp
    simp only [Rel] at hy; subst hy
    have hkey : IsKey .string (.string st) := trivial
    unfold updE at hup
    obtain ⟨o, ho, hup⟩ := Option.map_eq_some_iff.1 hup
    rcases find_sim her ho with ⟨rfl, z2, z3⟩ | ⟨j, v', e, rfl, z2, z3, z4, z5⟩
    · simp only at hup; subst hup
      have hst' := stamped_push hst (key := .string st) (val := Z) z3
      have her' : EntRel m (es ++ [.tuple [.str st, v]]) (en.push { key := .string st, val := Z, born := ck }).toList := by
        rw [Array.toList_push]; exact her.app (EntRel.one (by simp only [Rel]) hz)
      refine ⟨_, hh, rfl, w.putObj p.blk (.map (en.push { key := .string st, val := Z, born := ck }) (ck + 1)), m, ?_, (s.setMap hb hbe hbo hp her' hst').mono (fun _ hj => hj.1), PMap.le_refl m, below_putObj (Below.refl N w) hN hm⟩
      simp [Instr.mapUpdate, run_underlying hu, MapKept.run_getObj_map hm, run_checkKey hk hkey, run_findKey hk z2, MapKept.run_setObj_map _ hm, Result.andThen, World.putObj]
    · simp only [Nat.zero_add] at hup z2; subst hup
      have hf : ∀ e : MapEntry, Rel m (.str st) ({ e with key := .string st, val := Z } : MapEntry).key ∧ Rel m v ({ e with key := .string st, val := Z } : MapEntry).val := fun e => ⟨by simp only [Rel], hz⟩
      have hj : en[j]? = some e := by rw [← Array.getElem?_toList]; exact z3
      have hst' := stamped_modify hst j (fun e => { e with key := .string st, val := Z }) (fun _ _ => rfl) (fun e' _ he' => by rw [hj] at he'; obtain rfl := Option.some.inj he'; exact z4.symm)
      have her' : EntRel m (es.set j (.tuple [.str st, v])) (en.modify j fun e => { e with key := .string st, val := Z }).toList := by
        rw [Array.toList_modify]; exact her.mod hf j
      refine ⟨_, hh, rfl, w.putObj p.blk (.map (en.modify j fun e => { e with key := .string st, val := Z }) ck), m, ?_, (s.setMap hb hbe hbo hp her' hst').mono (fun _ hj => hj.1), PMap.le_refl m, below_putObj (Below.refl N w) hN hm⟩
      have hkk : ((en[j]?).map (·.key)).getD (.string st) = .string st := by rw [hj]; simp [z4]
      simp [Instr.mapUpdate, run_underlying hu, MapKept.run_getObj_map hm, run_checkKey hk hkey, run_findKey hk z2, MapKept.run_setObj_map _ hm, Result.andThen, World.putObj, hkk, run_keyThatStays hkey]
  · cases hh

def delA (T : Types) (t : Nat) (x k : AV) (h : AHeap) (K : Eff → Option R) : Option R :=
  match x, k with
  | .mapv r, .str s => (mapTy T t).bind fun _ => r.bind fun r => (mapD h r).bind fun es => (delE s es).bind fun es' => K ⟨.tuple [], [(r, some ⟨es', MB, true⟩)], [r]⟩
  | _, _ => none
theorem delA_sim (ht : TOk P T) (s : Sim N m h fr w) (id : Nat) {t ty : Nat} {ts : Array TypeId} (h0 : ts[0]? = some t) {x k : AV} {X Y : Value} {K : Eff → Option R} {r : R} (hx : Rel m x X) (hy : Rel m k Y) (hh : delA T t x k h K = some r) :
    ∃ e, K e = some r ∧ Does P N m h fr w id e (Builtin.delete_ ts ty #[X, Y]) := by
  unfold delA at hh
  split at hh
  · rename_i rr st
    obtain ⟨te, et, hh1⟩ := Option.bind_eq_some_iff.1 hh
    clear hh
    obtain ⟨rr, hrr, hh2⟩ := Option.bind_eq_some_iff.1 hh1
    clear hh1
    subst hrr
    obtain ⟨es, hes, hh⟩ := Option.bind_eq_some_iff.1 hh2
    clear hh2
    obtain ⟨es', hup, hh⟩ := Option.bind_eq_some_iff.1 hh
    obtain ⟨kt, el, hu, hk, ee⟩ := mapTy_ok ht et
    obtain ⟨b, p, en, ck, hb, hbe, hbo, hbc, hp, hm, her, hst, hN⟩ := mapD_ok s hes
    obtain rfl := map_val hx hp
    simp only [Rel] at hy; subst hy
    have hkey : IsKey .string (.string st) := trivial
    have hun : Rel m (.tuple []) (.tuple #[]) := by simp only [Rel]; exact ⟨[], rfl, rfl⟩
    unfold delE at hup
    obtain ⟨o, ho, hup⟩ := Option.map_eq_some_iff.1 hup
    rcases find_sim her ho with ⟨rfl, z2, z3⟩ | ⟨j, v', e, rfl, z2, z3, z4, z5⟩
    · simp only at hup; subst hup
      refine ⟨_, hh, .tuple #[], w.putObj p.blk (.map en ck), m, ?_, hun, (s.setMap hb hbe hbo hp her hst).mono (fun _ hj => hj.1), PMap.le_refl m, below_putObj (Below.refl N w) hN hm⟩
      simp [Builtin.delete_, h0, run_underlying hu, MapKept.run_getObj_map hm, run_checkKey hk hkey, run_findKey hk z2, MapKept.run_setObj_map _ hm, Result.andThen, World.putObj]
    · simp only [Nat.zero_add] at hup z2; subst hup
      have hjs : j < en.size := by have := (List.getElem?_eq_some_iff.1 z3).1; simpa using this
      have hsub : (en.eraseIdxIfInBounds j).toList = en.toList.eraseIdx j := by
        unfold Array.eraseIdxIfInBounds
        rw [dif_pos hjs]
        simp
      have her' : EntRel m (es.eraseIdx j) (en.eraseIdxIfInBounds j).toList := by rw [hsub]; exact her.erase j
      refine ⟨_, hh, .tuple #[], w.putObj p.blk (.map (en.eraseIdxIfInBounds j) ck), m, ?_, hun, (s.setMap hb hbe hbo hp her' (stamped_erase hst j)).mono (fun _ hj => hj.1), PMap.le_refl m, below_putObj (Below.refl N w) hN hm⟩
      simp [Builtin.delete_, h0, run_underlying hu, MapKept.run_getObj_map hm, run_checkKey hk hkey, run_findKey hk z2, MapKept.run_setObj_map _ hm, Result.andThen, World.putObj]
  · cases hh

/-- Length, of a map too. -/
def lenM (T : Types) (t : Nat) (x : AV) (h : AHeap) (K : Eff → Option R) : Option R :=
  match x with
  | .mapv r => (mapTy T t).bind fun _ => (mapO h r).bind fun es => K ⟨.int .i64 (es.length : Nat), [], rdM r⟩
  | x => lenA T t x K
theorem lenM_sim (ht : TOk P T) (s : Sim N m h fr w) (id : Nat) {t ty : Nat} {ts : Array TypeId} (h0 : ts[0]? = some t) {x : AV} {X : Value} {K : Eff → Option R} {r : R} (hx : Rel m x X) (hh : lenM T t x h K = some r) :
    ∃ e, K e = some r ∧ Does P N m h fr w id e (Builtin.len_ ts ty #[X]) := by
  unfold lenM at hh
  split at hh
  · obtain ⟨te, et, hh⟩ := Option.bind_eq_some_iff.1 hh
    obtain ⟨es, hes, hh⟩ := Option.bind_eq_some_iff.1 hh
    obtain ⟨kt, el, hu, hk, ee⟩ := mapTy_ok ht et
    rcases mapO_ok s hes hx with ⟨rfl, rfl, rfl⟩ | ⟨i, b, p, en, ck, rfl, hb, _, _, hp, rfl, hm, her, _, _⟩
    · exact ⟨_, hh, Does.pure s (by simp [Builtin.len_, h0, run_underlying hu, goInt]; rfl) (by simp only [Rel]; rfl)⟩
    · have hl := her.length
      rw [Array.length_toList] at hl
      exact ⟨_, hh, Does.pure s (x := .int .i64 (en.size : Nat)) (by simp [Builtin.len_, h0, run_underlying hu, MapKept.run_getObj_map hm, goInt]) (by simp only [Rel]; rw [hl])⟩
  · exact lenA_sim ht s id h0 hx hh

/-- A new map. -/
def makeMapA (T : Types) (t : Nat) (res : Option AV) (id : Nat) (K : Eff → Option R) : Option R :=
  (mapTy T t).bind fun _ => match res with
    | none => K ⟨.mapv (some id), [(id, some ⟨[], MB, true⟩)], []⟩
    | some (.int _ _) => K ⟨.mapv (some id), [(id, some ⟨[], MB, true⟩)], []⟩
    | _ => none
theorem makeMapA_sim (ht : TOk P T) (s : Sim N m h fr w) {id : Nat} (hid : fr id) {t : Nat} {res : Option AV} {X : Option Value} {K : Eff → Option R} {r : R} (hx : ORel m res X) (hh : makeMapA T t res id K = some r) :
    ∃ e, K e = some r ∧ Does P N m h fr w id e (Instr.makeMap t X) := by
  unfold makeMapA at hh
  obtain ⟨te, et, hh⟩ := Option.bind_eq_some_iff.1 hh
  obtain ⟨kt, el, hu, hk, ee⟩ := mapTy_ok ht et
  obtain ⟨s', le⟩ := s.allocMap hid (cs := []) (en := #[]) (ck := 0) rfl (stamped_empty 0)
  have fin : (Instr.makeMap t X).run P w = .ok (.map (some w.heap.size)) (w.alloc (.map #[] 0)) → Does P N m h fr w id ⟨.mapv (some id), [(id, some ⟨[], MB, true⟩)], []⟩ (Instr.makeMap t X) := fun hrun =>
    ⟨.map (some w.heap.size), w.alloc (.map #[] 0), _, hrun, by simp only [Rel]; exact ⟨⟨w.heap.size, 0, 0, MB⟩, by simp [PMap.put], rfl⟩, s', le, (Below.refl N w).alloc s.base _⟩
  split at hh
  · cases X with
    | none => exact ⟨_, hh, fin rfl⟩
    | some X => exact absurd hx (by simp [ORel])
  · rename_i kk nn
    cases X with
    | none => exact absurd hx (by simp [ORel])
    | some X =>
      simp only [ORel, Rel] at hx
      subst hx
      exact ⟨_, hh, fin (by simp [Instr.makeMap, run_underlying hu, asInt, Result.andThen, newObj]; rfl)⟩
  · cases hh

end Go.Proofs.YtahilinkfnchaaaDoor.T
