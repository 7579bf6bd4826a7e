/- The abstract machine's operations on memory, each with what the model does. Nothing of a program. -/
import Derived.Test.YtahilinkfnchaaaDoorT2
import Derived.Laws.Slices
import Derived.Laws.MakeOwn
set_option linter.unusedVariables false
set_option linter.unusedSimpArgs false
namespace Go.Proofs.YtahilinkfnchaaaDoor.T
open Go Go.RowKit

variable {R : Type} {P : Program} {T : Types} {N : Nat} {m : PMap} {h : AHeap} {fr : Nat → Prop} {w : World}

/-- What a piece of the model does, against an effect. -/
def Does (P : Program) (N : Nat) (m : PMap) (h : AHeap) (fr : Nat → Prop) (w : World) (id : Nat) (e : Eff) (s : Sem Value) : Prop :=
  ∃ x w' m', s.run P w = .ok x w' ∧ Rel m' e.v x ∧ Sim N m' (h.puts e.sets) (fun j => fr j ∧ j ≠ id) w' ∧ m.le m' ∧ Below N w w'
def DoesU (P : Program) (N : Nat) (m : PMap) (h : AHeap) (fr : Nat → Prop) (w : World) (id : Nat) (e : Eff) (s : Sem Unit) : Prop :=
  e.v = AV.undef ∧ ∃ w' m', s.run P w = .ok () w' ∧ Sim N m' (h.puts e.sets) (fun j => fr j ∧ j ≠ id) w' ∧ m.le m' ∧ Below N w w'

theorem Does.pure (s : Sim N m h fr w) {id : Nat} {v : AV} {rd : List Nat} {x : Value} {q : Sem Value} (hr : q.run P w = .ok x w) (hx : Rel m v x) : Does P N m h fr w id ⟨v, [], rd⟩ q :=
  ⟨x, w, m, hr, hx, s.mono fun _ hj => hj.1, PMap.le_refl m, Below.refl N w⟩

/-! ### types -/
theorem TOk.at (ht : TOk P T) {t : Nat} {i : TI} (e : T t = some i) : (underlying t).run P w = .ok i.desc w ∧ (sizeOf t).run P w = .ok i.size w ∧ (isAgg t).run P w = .ok i.desc.isRow w := by
  obtain ⟨info, z, hu, hi, hs, hb, hz, _⟩ := ht.ok t i e
  refine ⟨run_underlying hu w, by simp [sizeOf, typeInfo, hi, hs], ?_⟩
  unfold isAgg
  rw [Sem.run_bind, run_underlying hu w]
  cases i.desc <;> rfl

theorem TOk.info (ht : TOk P T) {t : Nat} {i : TI} (e : T t = some i) : ∃ info z, P.underlying t = some i.desc ∧ P.info? t = some info ∧ info.size = i.size ∧ info.bytes = i.bytes ∧ info.zero = some z ∧ (∀ m, Rel m i.zero z) ∧ i.zero.cells.length = i.size ∧ allOne i.zero.cells = true := ht.ok t i e

/-! ### load, store -/
def mapB (b : ABlk) : Bool := Nat.beq b.es MB
theorem mapB_ne {b : ABlk} (h : mapB b = false) : b.es ≠ MB := fun e => by rw [mapB, e, Nat.beq_refl] at h; cases h
theorem mapB_of {b : ABlk} {es : Nat} (e : b.es = es) (h : Nat.beq es MB = false) : mapB b = false := by rw [mapB, e, h]
theorem mapB_lt {b : ABlk} (h : b.es < MB) : mapB b = false := by
  unfold mapB
  cases c : Nat.beq b.es MB with
  | false => rfl
  | true => have := Nat.eq_of_beq_eq_true c; omega
def ldA (h : AHeap) (i o : Nat) : Option AV := (h i).bind fun b => bif mapB b then none else b.cells[o]?
def ldR (h : AHeap) (i o n : Nat) : Option (List AV) := (h i).bind fun b => bif mapB b then none else if o + n ≤ b.cells.length then some ((b.cells.drop o).take n) else none

def loadA (T : Types) (t : Nat) (x : AV) (h : AHeap) (K : Eff → Option R) : Option R :=
  match x, T t with
  | .ptr a, some ti => a.bind fun a =>
    if ti.desc.isRow = true then (ldR h a.1 a.2 ti.size).bind fun cs => K ⟨.agg cs, [], [a.1]⟩
    else (ldA h a.1 a.2).bind fun c => K ⟨c, [], [a.1]⟩
  | _, _ => none

theorem Sim.cell (s : Sim N m h fr w) {i : Nat} {b : ABlk} (hb : h i = some b) {p : Place} (hp : m i = some p) (hn : b.es ≠ MB) {j : Nat} {c : AV} (hc : b.cells[j]? = some c) :
    ∃ x, w.cell? ⟨p.blk, p.base + j, none⟩ = some x ∧ Rel m c x := by
  obtain ⟨p', hp', ok⟩ := s.blk i b hb
  rw [hp] at hp'; obtain rfl := Option.some.inj hp'
  obtain ⟨xs, rx, qx⟩ := ok.cells hn
  obtain ⟨x, hx, hr⟩ := rx.get j c hc
  exact ⟨x, qx j x hx, hr⟩

theorem Sim.range (s : Sim N m h fr w) {i : Nat} {b : ABlk} (hb : h i = some b) {p : Place} (hp : m i = some p) (hm : b.es ≠ MB) (o n : Nat) (hn : o + n ≤ b.cells.length) :
    ∃ xs, RelL m ((b.cells.drop o).take n) xs ∧ w.rangeAt p.blk (p.base + o) xs ∧ xs.length = n := by
  obtain ⟨p', hp', ok⟩ := s.blk i b hb
  rw [hp] at hp'; obtain rfl := Option.some.inj hp'
  obtain ⟨xs, rx, qx⟩ := ok.cells hm
  have r := (rx.drop o).take n
  have hl := rx.length
  refine ⟨_, r, fun j v hv => ?_, by simp; omega⟩
  rw [List.getElem?_take] at hv
  split at hv
  · rw [List.getElem?_drop] at hv
    have := qx _ v hv
    rwa [← Nat.add_assoc] at this
  · cases hv

theorem loadA_run (ht : TOk P T) (s : Sim N m h fr w) {t : Nat} {x : AV} {X : Value} {K : Eff → Option R} {r : R} (hx : Rel m x X) (hh : loadA T t x h K = some r) :
    ∃ v rd x A, K ⟨v, [], rd⟩ = some r ∧ X = .pointer (some A) ∧ (loadVar t A).run P w = .ok x w ∧ Rel m v x := by
  unfold loadA at hh
  split at hh
  · rename_i a ti et
    cases a with
    | none => cases hh
    | some a =>
    simp only [Option.bind_some] at hh
    simp only [Rel] at hx
    obtain ⟨p, hp, rfl⟩ := hx
    obtain ⟨info, z, hu, hi, hs, _⟩ := ht.info et
    cases hb : h a.1 with
    | none => simp [ldR, ldA, hb] at hh
    | some b =>
      simp only [ldR, ldA, hb, Option.bind_some] at hh
      cases hmb : mapB b with
      | true => simp [hmb] at hh
      | false =>
      have hne := mapB_ne hmb
      simp only [hmb, cond_false] at hh
      by_cases c : ti.desc.isRow = true
      · rw [if_pos c] at hh
        by_cases c2 : a.2 + ti.size ≤ b.cells.length
        · rw [if_pos c2] at hh
          simp only [Option.bind_some] at hh
          obtain ⟨xs, rx, qx, hl⟩ := s.range hb hp hne a.2 ti.size c2
          refine ⟨_, _, _, _, hh, rfl, run_loadVar_mid w p.blk (p.base + a.2) t xs ti.desc qx hu c (by rw [hi]; simp [hs, hl]), ?_⟩
          simp only [Rel]; exact ⟨xs, rfl, rx⟩
        · rw [if_neg c2] at hh; cases hh
      · rw [if_neg c] at hh
        cases hc : b.cells[a.2]? with
        | none => rw [hc] at hh; cases hh
        | some v =>
          rw [hc] at hh; simp only [Option.bind_some] at hh
          obtain ⟨x, hx1, hx2⟩ := s.cell hb hp hne hc
          refine ⟨_, _, x, _, hh, rfl, ?_, hx2⟩
          have c' : ti.desc.isRow = false := by simpa using c
          simp only [loadVar, Sem.run_bind, Result.andThen_ok, (ht.at et).2.2, c']
          simp [hx1]
  · cases hh

theorem loadA_sim (ht : TOk P T) (s : Sim N m h fr w) (id : Nat) {t : Nat} {x : AV} {X : Value} {K : Eff → Option R} {r : R} (hx : Rel m x X) (hh : loadA T t x h K = some r) :
    ∃ e, K e = some r ∧ Does P N m h fr w id e (Instr.loadAt t X) := by
  obtain ⟨v, rd, x', A, hk, rfl, hrun, hrel⟩ := loadA_run ht s hx hh
  exact ⟨_, hk, Does.pure s (by simp only [Instr.loadAt, Instr.sureAddr, Sem.run_bind, Sem.run_pure, Result.andThen_ok, hrun]) hrel⟩

def storeOk (b : ABlk) (o : Nat) (v : AV) (size : Nat) : Bool := b.own && (v.cells.length == size) && allOne v.cells && decide (o + v.cells.length ≤ b.cells.length) && !mapB b

def stA (h : AHeap) (i o : Nat) (v : AV) (size : Nat) : Option ABlk := (h i).bind fun b => if storeOk b o v size = true then some ⟨splice b.cells o v.cells, b.es, true⟩ else none

def storeA (T : Types) (t : Nat) (x v : AV) (h : AHeap) (K : Eff → Option R) : Option R :=
  match x, T t with
  | .ptr a, some ti => a.bind fun a => (stA h a.1 a.2 v ti.size).bind fun b => K ⟨AV.undef, [(a.1, some b)], [a.1]⟩
  | _, _ => none

theorem storeA_sim (ht : TOk P T) (s : Sim N m h fr w) (id : Nat) {t : Nat} {x v : AV} {X Y : Value} {K : Eff → Option R} {r : R} (hx : Rel m x X) (hv : Rel m v Y) (hh : storeA T t x v h K = some r) :
    ∃ e, K e = some r ∧ DoesU P N m h fr w id e (Instr.storeAt t X Y) := by
  unfold storeA at hh
  split at hh
  · rename_i a ti et
    cases a with
    | none => cases hh
    | some a =>
    simp only [Option.bind_some] at hh
    simp only [Rel] at hx
    obtain ⟨p, hp, rfl⟩ := hx
    cases hb : h a.1 with
    | none => simp [stA, hb] at hh
    | some b =>
      simp only [stA, hb, Option.bind_some] at hh
      by_cases c : storeOk b a.2 v ti.size = true
      · rw [if_pos c] at hh
        simp only [Option.bind_some] at hh
        simp only [storeOk, Bool.and_eq_true, beq_iff_eq, decide_eq_true_eq] at c
        obtain ⟨⟨⟨⟨own, hlen⟩, one⟩, hfit⟩, hmb⟩ := c
        have hne : b.es ≠ MB := mapB_ne (by simpa using hmb)
        have rc := Rel.cells hv one
        obtain ⟨p', hp', ok⟩ := s.blk a.1 b hb
        rw [hp] at hp'; obtain rfl := Option.some.inj hp'
        have hcl : Y.cells.toList.length = v.cells.length := rc.length
        have hrun : (storeCells ⟨p.blk, p.base + a.2, none⟩ Y.cells.toList).run P w = .ok () (w.setCells p.blk (p.base + a.2) Y.cells.toList) := by
          have := run_storeCells_cells (P := P) p.blk (p.base + a.2) Y.cells.toList 0 w (fun j hj => by
              have := ((ok.own own).2 hne (a.2 + j) (by have := ok.fits hne; omega)).1
              rwa [show p.base + (a.2 + j) = p.base + a.2 + 0 + j by omega] at this)
            (fun j hj => by
              have := ((ok.own own).2 hne (a.2 + j) (by have := ok.fits hne; omega)).2
              rwa [show p.base + (a.2 + j) = p.base + a.2 + 0 + j by omega] at this) (fun v hv => RelL.one rc one v hv)
          simpa using this
        refine ⟨_, hh, rfl, _, m, ?_, (s.store hb hp own a.2 v.cells Y.cells.toList rc one hfit hne).mono (fun _ hj => hj.1), PMap.le_refl m, below_setCells (ok.own own).1 _ _ _ (Below.refl N w)⟩
        simp only [Instr.storeAt, Instr.sureAddr, Sem.run_bind, Sem.run_pure, Result.andThen_ok, storeVar, (ht.at et).2.1]
        rw [if_neg (by simp only [Array.length_toList] at hcl; omega)]
        exact hrun
      · rw [if_neg c] at hh; cases hh
  · cases hh

/-! ### new variables -/
def esOf (T : Types) (t : Nat) : Nat :=
  match T t with
  | some i => (match i.desc with | .array _ e => (match T e with | some j => j.size | none => 0) | .struct _ => bif Nat.ble 64 i.size then 1 else i.size | _ => i.size)
  | none => 0

theorem esOf_lt (ht : TOk P T) (t : Nat) : esOf T t < MB := by
  unfold esOf
  split
  · rename_i i e
    split
    · split
      · exact ht.small _ _ (by assumption)
      · decide
    · cases Nat.ble 64 i.size with
      | true => show 1 < MB; decide
      | false => exact ht.small _ _ e
    · exact ht.small _ _ e
  · decide

def boxA (es : Nat) (cells : List AV) (id : Nat) (K : Eff → Option R) : Option R :=
  if allOne cells = true then K ⟨.ptr (some (id, 0)), [(id, some ⟨cells, es, true⟩)], []⟩ else none

theorem boxA_sim (s : Sim N m h fr w) {id : Nat} (hid : fr id) {es : Nat} (hes : es < MB) {cells : List AV} {xs : List Value} (rc : RelL m cells xs) (elem : TypeId) {K : Eff → Option R} {r : R} (hh : boxA es cells id K = some r) :
    ∃ e, K e = some r ∧ Does P N m h fr w id e (do pure (.pointer (some (← newRow elem xs.toArray)))) := by
  unfold boxA at hh
  by_cases c : allOne cells = true
  · rw [if_pos c] at hh
    obtain ⟨s', le⟩ := s.alloc hid cells xs [] rc c elem es cells.length (Nat.le_refl _) (by rw [List.append_nil, rc.length]; exact Nat.le_refl _) hes
    rw [List.append_nil] at s'
    refine ⟨_, hh, .pointer (some ⟨w.heap.size, 0, none⟩), w.alloc (.cells xs.toArray elem), _, rfl, ?_, s', le, (Below.refl N w).alloc s.base _⟩
    simp only [Rel]; exact ⟨⟨w.heap.size, 0, cells.length, es⟩, by simp [PMap.put], rfl⟩
  · rw [if_neg c] at hh; cases hh

def allocA (T : Types) (t : Nat) (id : Nat) (K : Eff → Option R) : Option R :=
  match T t with
  | some i => boxA (esOf T t) i.zero.cells id K
  | none => none

theorem allocA_sim (ht : TOk P T) (s : Sim N m h fr w) {id : Nat} (hid : fr id) {t : Nat} {K : Eff → Option R} {r : R} (hh : allocA T t id K = some r) :
    ∃ e, K e = some r ∧ Does P N m h fr w id e (Instr.alloc t true (.tuple #[])) := by
  unfold allocA at hh
  split at hh
  · rename_i i et
    obtain ⟨info, z, hu, hi, hs, hb, hz, hr, hl, ho⟩ := ht.info et
    obtain ⟨e, he, x, w', m', hrun, rest⟩ := boxA_sim (P := P) s hid (esOf_lt ht t) (Rel.cells (hr m) ho) t hh
    refine ⟨e, he, x, w', m', ?_, rest⟩
    rw [← hrun]
    simp [Instr.alloc, zeroValue, typeInfo, hi, hz, newVar]
  · cases hh

def boxV (T : Types) (t : Nat) (v : AV) (id : Nat) (K : Eff → Option R) : Option R := boxA (esOf T t) v.cells id K
theorem boxV_sim (ht : TOk P T) (s : Sim N m h fr w) {id : Nat} (hid : fr id) {t : Nat} {v : AV} {X : Value} (hv : Rel m v X) {K : Eff → Option R} {r : R} (hh : boxV T t v id K = some r) :
    ∃ e, K e = some r ∧ Does P N m h fr w id e (Instr.box t X) := by
  unfold boxV at hh
  have ho : allOne v.cells = true := by
    unfold boxA at hh
    by_cases c : allOne v.cells = true
    · exact c
    · rw [if_neg c] at hh; cases hh
  obtain ⟨e, he, x, w', m', hrun, rest⟩ := boxA_sim (P := P) s hid (esOf_lt ht t) (Rel.cells hv ho) t hh
  exact ⟨e, he, x, w', m', by rw [← hrun]; simp [Instr.box, newVar], rest⟩

/-! ### addresses -/
def fieldAddrA (T : Types) (st : Nat) (x : AV) (f : Nat) (K : Eff → Option R) : Option R :=
  match x, T st with
  | .ptr a, some i =>
    (match i.desc with
     | .struct fs => (match fs.toList[f]? with
       | some fd => (match T fd.type with
         | some j => if j.size = 0 then none else a.bind fun a => K ⟨.ptr (some (a.1, a.2 + fd.offset)), [], []⟩
         | none => none)
       | none => none)
     | _ => none)
  | _, _ => none

theorem fieldAddrA_sim (ht : TOk P T) (s : Sim N m h fr w) (id : Nat) {t f : Nat} {x : AV} {X : Value} {K : Eff → Option R} {r : R} (hx : Rel m x X) (hh : fieldAddrA T t x f K = some r) :
    ∃ e, K e = some r ∧ Does P N m h fr w id e (Instr.fieldAt t X f) := by
  unfold fieldAddrA at hh
  split at hh
  · rename_i a i et
    split at hh
    · rename_i fs ed
      split at hh
      · rename_i fd ef
        split at hh
        · rename_i j ej
          by_cases c : j.size = 0
          · rw [if_pos c] at hh; cases hh
          · rw [if_neg c] at hh
            cases a with
            | none => cases hh
            | some a =>
            simp only [Option.bind_some] at hh
            simp only [Rel] at hx
            obtain ⟨p, hp, rfl⟩ := hx
            refine ⟨_, hh, Does.pure s (x := .pointer (some ⟨p.blk, p.base + (a.2 + fd.offset), none⟩)) ?_ ?_⟩
            · have e1 := (ht.at (w := w) et).1
              rw [ed] at e1
              have ef' : fs[f]? = some fd := by rw [← Array.getElem?_toList]; exact ef
              simp only [Instr.fieldAt, Sem.run_bind, e1, Result.andThen_ok, ef', Instr.sureAddr, Sem.run_pure, fieldPlace, (ht.at (w := w) ej).2.1, if_neg c]
              simp [Addr.add_mid, Nat.add_assoc]
            · simp only [Rel]; exact ⟨p, hp, rfl⟩
        · cases hh
      · cases hh
    · cases hh
  · cases hh

def indexAddrA (T : Types) (t : Nat) (x ix : AV) (K : Eff → Option R) : Option R :=
  match x, ix, T t with
  | .slice a n _, .int _ i, some ti =>
    (match ti.desc with
     | .slice e => (match T e with
       | some te => a.bind fun a => if 0 ≤ i ∧ i < n then K ⟨.ptr (some (a.1, a.2 + i.toNat * te.size)), [], []⟩ else none
       | none => none)
     | _ => none)
  | .ptr a, .int _ i, some ti =>
    (match ti.desc with
     | .array n e => (match T e with
       | some te => a.bind fun a => if 0 ≤ i ∧ i < n then K ⟨.ptr (some (a.1, a.2 + i.toNat * te.size)), [], []⟩ else none
       | none => none)
     | _ => none)
  | _, _, _ => none

theorem indexAddrA_sim (ht : TOk P T) (s : Sim N m h fr w) (id : Nat) {t : Nat} {x ix : AV} {X Y : Value} {K : Eff → Option R} {r : R} (hx : Rel m x X) (hy : Rel m ix Y) (hh : indexAddrA T t x ix K = some r) :
    ∃ e, K e = some r ∧ Does P N m h fr w id e (Instr.indexAt t X Y) := by
  unfold indexAddrA at hh
  split at hh
  · rename_i a n cl k i ti et
    split at hh
    · rename_i e ed
      split at hh
      · rename_i te ete
        cases a with
        | none => cases hh
        | some a =>
        simp only [Option.bind_some] at hh
        simp only [Rel] at hx hy
        obtain ⟨p, A, c, hp, rfl, hn, _, hA⟩ := hx
        subst hy
        by_cases cc : 0 ≤ i ∧ i < n
        · rw [if_pos cc] at hh
          obtain ⟨rfl, _⟩ := hA (by omega)
          refine ⟨_, hh, Does.pure s (x := .pointer (some ⟨p.blk, p.base + (a.2 + i.toNat * te.size), none⟩)) ?_ ?_⟩
          · have e1 := (ht.at (w := w) et).1
            rw [ed] at e1
            simp [Instr.indexAt, asIntOf, e1, cc, (ht.at (w := w) ete).2.1, Addr.add_mid, Nat.add_assoc]
          · simp only [Rel]; exact ⟨p, hp, rfl⟩
        · rw [if_neg cc] at hh; cases hh
      · cases hh
    · cases hh
  · rename_i a k i ti et
    split at hh
    · rename_i n e ed
      split at hh
      · rename_i te ete
        cases a with
        | none => cases hh
        | some a =>
        simp only [Option.bind_some] at hh
        simp only [Rel] at hx hy
        obtain ⟨p, hp, rfl⟩ := hx
        subst hy
        by_cases cc : 0 ≤ i ∧ i < n
        · rw [if_pos cc] at hh
          refine ⟨_, hh, Does.pure s (x := .pointer (some ⟨p.blk, p.base + (a.2 + i.toNat * te.size), none⟩)) ?_ ?_⟩
          · have e1 := (ht.at (w := w) et).1
            rw [ed] at e1
            simp [Instr.indexAt, asIntOf, Instr.sureAddr, e1, cc, (ht.at (w := w) ete).2.1, Addr.add_mid, Nat.add_assoc]
          · simp only [Rel]; exact ⟨p, hp, rfl⟩
        · rw [if_neg cc] at hh; cases hh
      · cases hh
    · cases hh
  · cases hh

end Go.Proofs.YtahilinkfnchaaaDoor.T
