/- The abstract machine's literals, fields, conversions. Nothing of a program. -/
import Derived.Test.YtahilinkfnchaaaDoorT6
import Derived.Laws.Tables
import Derived.Laws.IdiomStrings
set_option linter.unusedVariables false
set_option linter.unusedSimpArgs false
namespace Go.Proofs.YtahilinkfnchaaaDoor.T
open Go Go.RowKit

variable {R : Type} {P : Program} {T : Types} {N : Nat} {m : PMap} {h : AHeap} {fr : Nat → Prop} {w : World}

/-! ### literals -/
def setsA (cs : List AV) (off : Nat) : List AV → Nat → List AV
  | [], _ => cs
  | v :: vs, j => setsA (cs.set (off + j) v) off vs (j + 1)
def fillA (place : Nat → Option (Nat × Nat)) (cs : List AV) : List (Nat × AV) → Option (List AV)
  | [] => some cs
  | (i, v) :: rest => (place i).bind fun p => if (v.cells.length == p.2 && decide (p.1 + v.cells.length ≤ cs.length) && allOne v.cells) = true then fillA place (setsA cs p.1 v.cells 0) rest else none

def PRel (m : PMap) : List (Nat × AV) → List (Nat × Value) → Prop
  | [], ys => ys = []
  | (i, v) :: r, ys => ∃ x q, ys = (i, x) :: q ∧ Rel m v x ∧ PRel m r q

theorem setsA_rel {cs : List AV} {xs : Array Value} (hc : RelL m cs xs.toList) (off : Nat) : ∀ (vs : List AV) (ys : List Value) (j : Nat) , RelL m vs ys →
    RelL m (setsA cs off vs j) ((ys.zipIdx j).foldl (fun cs (c, j) => cs.setIfInBounds (off + j) c) xs).toList := by
  intro vs
  induction vs generalizing cs xs with
  | nil => intro ys j hr; simp only [RelL] at hr; subst hr; simpa [setsA] using hc
  | cons v vs ih =>
    intro ys j hr
    simp only [RelL] at hr
    obtain ⟨y, q, rfl, a, b⟩ := hr
    simp only [setsA, List.zipIdx_cons, List.foldl_cons]
    exact ih (by rw [Array.toList_setIfInBounds]; exact hc.set _ _ _ a) q (j + 1) b

theorem fillA_rel {place : Nat → Option (Nat × Nat)} : ∀ {parts : List (Nat × AV)} {ps : List (Nat × Value)} {cs cs' : List AV} {xs : Array Value}, PRel m parts ps → RelL m cs xs.toList → fillA place cs parts = some cs' →
    ∃ xs', Instr.fill place xs ps = some xs' ∧ RelL m cs' xs'.toList := by
  intro parts
  induction parts with
  | nil => intro ps cs cs' xs hp hc hf; simp only [PRel] at hp; subst hp; simp only [fillA, Option.some.injEq] at hf; subst hf; exact ⟨xs, rfl, hc⟩
  | cons p parts ih =>
    intro ps cs cs' xs hp hc hf
    obtain ⟨i, v⟩ := p
    simp only [PRel] at hp
    obtain ⟨x, q, rfl, hv, hq⟩ := hp
    simp only [fillA] at hf
    cases e : place i with
    | none => rw [e] at hf; cases hf
    | some pl =>
      rw [e] at hf; simp only [Option.bind_some] at hf
      split at hf
      · rename_i c
        simp only [Bool.and_eq_true, beq_iff_eq, decide_eq_true_eq] at c
        obtain ⟨⟨c1, c2⟩, c3⟩ := c
        have rc := Rel.cells hv c3
        have l1 := rc.length
        have l2 := hc.length
        simp only [Array.length_toList] at l1 l2
        obtain ⟨xs', e', r'⟩ := ih hq (setsA_rel hc pl.1 v.cells x.cells.toList 0 rc) hf
        refine ⟨xs', ?_, r'⟩
        simp only [Instr.fill, e]
        rw [if_neg (by simp; omega)]
        rw [← e']
        congr 1
        rw [← Array.foldl_toList, Array.toList_zipIdx]
      · cases hf

/-- Where a struct's fields lie. -/
def placeA (T : Types) (fs : List Field) (i : Nat) : Option (Nat × Nat) := (fs[i]?).bind fun f => (sizeOfA T f.type).map fun n => (f.offset, n)

def buildA (T : Types) (t : Nat) (parts : List (Nat × AV)) (K : Eff → Option R) : Option R :=
  match T t with
  | some ti =>
    (match ti.desc with
     | .struct fs => if fs.toList.all (fun f => (sizeOfA T f.type).isSome) = true then (fillA (placeA T fs.toList) ti.zero.cells parts).bind fun cs => K ⟨.agg cs, [], []⟩ else none
     | .array _ e => (match T e with
       | some te => (fillA (fun i => some (i * te.size, te.size)) ti.zero.cells parts).bind fun cs => K ⟨.agg cs, [], []⟩
       | none => none)
     | _ => none)
  | none => none

theorem run_places_list (ht : TOk P T) : ∀ (fs : List Field), fs.all (fun f => (sizeOfA T f.type).isSome) = true →
    (fs.mapM (m := Sem) fun f => do pure (f.offset, ← sizeOf f.type)).run P w = .ok (fs.map fun f => (f.offset, (sizeOfA T f.type).getD 0)) w := by
  intro fs
  induction fs with
  | nil => intro _; simp
  | cons f fs ih =>
    intro h
    simp only [List.all_cons, Bool.and_eq_true] at h
    obtain ⟨h1, h2⟩ := h
    unfold sizeOfA at h1
    cases e : T f.type with
    | none => rw [e] at h1; simp at h1
    | some i =>
      simp only [List.mapM_cons, Sem.run_bind, (ht.at (w := w) e).2.1, Result.andThen_ok, ih h2, Sem.run_pure, List.map_cons]
      simp [sizeOfA, e]

theorem buildA_sim (ht : TOk P T) (s : Sim N m h fr w) (id : Nat) {t : Nat} {parts : List (Nat × AV)} {ps : Array (Nat × Value)} {K : Eff → Option R} {r : R} (hp : PRel m parts ps.toList) (hh : buildA T t parts K = some r) :
    ∃ e, K e = some r ∧ Does P N m h fr w id e (Instr.build t ps) := by
  unfold buildA at hh
  split at hh
  · rename_i ti et
    obtain ⟨info, z, hu, hi, hs, hb, hz, hr, hl, ho⟩ := ht.info et
    have hzc := Rel.cells (hr m) ho
    have zrun : (zeroValue t).run P w = .ok z w := by simp [zeroValue, typeInfo, hi, hz]
    split at hh
    · rename_i fs ed
      rw [ed] at hu
      split at hh
      · rename_i call
        cases e : fillA (placeA T fs.toList) ti.zero.cells parts with
        | none => rw [e] at hh; cases hh
        | some cs =>
          rw [e] at hh; simp only [Option.bind_some] at hh
          obtain ⟨xs', ef, rf⟩ := fillA_rel (place := placeA T fs.toList) hp hzc e
          refine ⟨_, hh, Does.pure s (x := .agg xs') ?_ (by simp only [Rel]; exact ⟨xs'.toList, rfl, rf⟩)⟩
          have hpl := run_places_list (P := P) (w := w) ht fs.toList call
          have hm : (fs.mapM (m := Sem) fun f => do pure (f.offset, ← sizeOf f.type)).run P w = .ok (fs.toList.map fun f => (f.offset, (sizeOfA T f.type).getD 0)).toArray w := by
            rw [Array.mapM_eq_mapM_toList, Sem.run_map, hpl]; rfl
          have heq : (fun i => ((fs.toList.map fun f => (f.offset, (sizeOfA T f.type).getD 0)).toArray[i]? : Option (Nat × Nat))) = placeA T fs.toList := by
            funext i
            simp only [placeA, List.getElem?_toArray, List.getElem?_map]
            cases hf : fs.toList[i]? with
            | none => rfl
            | some f =>
              have := (List.all_eq_true.1 call) f (List.mem_of_getElem? hf)
              cases hsz : sizeOfA T f.type with
              | none => rw [hsz] at this; simp at this
              | some n => simp [hsz]
          simp only [Instr.build, Sem.run_bind, zrun, Result.andThen_ok, run_underlying hu, hm, heq, Sem.run_pure, ef]
      · cases hh
    · rename_i n e ed
      rw [ed] at hu
      split at hh
      · rename_i te ee
        cases e' : fillA (fun i => some (i * te.size, te.size)) ti.zero.cells parts with
        | none => rw [e'] at hh; cases hh
        | some cs =>
          rw [e'] at hh; simp only [Option.bind_some] at hh
          obtain ⟨xs', ef, rf⟩ := fillA_rel (place := fun i => some (i * te.size, te.size)) hp hzc e'
          refine ⟨_, hh, Does.pure s (x := .agg xs') ?_ (by simp only [Rel]; exact ⟨xs'.toList, rfl, rf⟩)⟩
          simp only [Instr.build, Sem.run_bind, zrun, Result.andThen_ok, run_underlying hu, (ht.at (w := w) ee).2.1, Sem.run_pure, ef]
      · cases hh
    · cases hh
  · cases hh

def buildSliceA (T : Types) (t len : Nat) (parts : List (Nat × AV)) (id : Nat) (K : Eff → Option R) : Option R :=
  match T t with
  | some ti =>
    (match ti.desc with
     | .slice e => (match T e with
       | some te => if (decide (len * te.size ≤ 16777216) && te.size != 0) = true then
           (fillA (fun i => some (i * te.size, te.size)) (madeA te.zero.cells (len * te.size)) parts).bind fun cs =>
             if (allOne cs && cs.length == len * te.size) = true then K ⟨.slice (some (id, 0)) len (some len), [(id, some ⟨cs, te.size, true⟩)], []⟩ else none
         else none
       | none => none)
     | _ => none)
  | none => none

theorem buildSliceA_sim (ht : TOk P T) (s : Sim N m h fr w) {id : Nat} (hid : fr id) {t len : Nat} {parts : List (Nat × AV)} {ps : Array (Nat × Value)} {K : Eff → Option R} {r : R} (hp : PRel m parts ps.toList)
    (hh : buildSliceA T t len parts id K = some r) : ∃ e, K e = some r ∧ Does P N m h fr w id e (Instr.buildSlice t len ps) := by
  unfold buildSliceA at hh
  split at hh
  · rename_i ti et
    split at hh
    · rename_i e ed
      split at hh
      · rename_i te ee
        obtain ⟨hu, hsz, info, z, hi, hs, hb, hz, hr, hl, ho⟩ := ht.slice (w := w) et ed ee
        split at hh
        · rename_i c
          simp only [Bool.and_eq_true, decide_eq_true_eq, bne_iff_ne] at c
          obtain ⟨c1, c2⟩ := c
          cases e' : fillA (fun i => some (i * te.size, te.size)) (madeA te.zero.cells (len * te.size)) parts with
          | none => rw [e'] at hh; cases hh
          | some cs =>
            rw [e'] at hh; simp only [Option.bind_some] at hh
            split at hh
            · rename_i c3
              simp only [Bool.and_eq_true, beq_iff_eq] at c3
              obtain ⟨c3, c4⟩ := c3
              have hzc := Rel.cells (hr m) ho
              have hz0 : te.zero.cells ≠ [] := by intro e; rw [e] at hl; exact c2 hl.symm
              have hmade := madeA_rel hzc hz0 (Nat.le_refl (len * te.size))
              have hfull : (madeCells z.cells (len * te.size)).toList.take (len * te.size) = (madeCells z.cells (len * te.size)).toList := by
                rw [List.take_of_length_le]; rw [Array.length_toList, size_madeCells]; exact Nat.le_refl _
              rw [hfull] at hmade
              obtain ⟨xs', ef, rf⟩ := fillA_rel (place := fun i => some (i * te.size, te.size)) hp hmade e'
              obtain ⟨s2, le⟩ := s.alloc hid cs xs'.toList [] rf c3 e te.size (len * te.size) (by omega) (by rw [List.append_nil, rf.length]; omega) (ht.small _ _ (by assumption))
              rw [List.append_nil] at s2
              try simp only [Array.toArray_toList] at s2
              have zrun : (zeroValue e).run P w = .ok z w := by simp [zeroValue, typeInfo, hi, hz]
              have hcells : (Array.range (len * te.size)).map ((if len * te.size = 0 then #[] else z.cells)[· % (if len * te.size = 0 then #[] else z.cells).size]!) = madeCells z.cells (len * te.size) := by
                by_cases c0 : len * te.size = 0
                · simp [c0, madeCells]
                · simp only [if_neg c0]; rfl
              refine ⟨_, hh, .slice (some ⟨w.heap.size, 0, none⟩) len len, _, _, ?_, ?_, s2, le, (Below.refl N w).alloc s.base _⟩
              · simp only [Instr.buildSlice, Sem.run_bind, run_underlying hu, Result.andThen_ok, hsz]
                rw [if_neg (by omega)]
                by_cases c0 : len * te.size = 0
                · simp only [if_pos c0] at hcells ⊢
                  simp only [Sem.run_bind, Sem.run_pure, Result.andThen_ok, hcells, ef]
                  rfl
                · simp only [if_neg c0] at hcells ⊢
                  simp only [Sem.run_bind, zrun, Sem.run_pure, Result.andThen_ok, hcells, ef]
                  rfl
              · simp only [Rel]
                exact ⟨⟨w.heap.size, 0, len * te.size, te.size⟩, _, _, by simp [PMap.put], rfl, Nat.le_refl _, fun k hk => by obtain rfl := Option.some.inj hk; exact CapIs.self _, fun _ => ⟨rfl, by simp⟩⟩
            · cases hh
        · cases hh
      · cases hh
    · cases hh
  · cases hh

/-! ### parts of values -/
def partA (T : Types) (t : Nat) (cs : List AV) (off : Nat) (K : Eff → Option R) : Option R :=
  match T t with
  | some ti => if ti.desc.isRow = true then K ⟨.agg ((cs.drop off).take ti.size), [], []⟩ else (cs[off]?).bind fun c => K ⟨c, [], []⟩
  | none => none

theorem partA_sim (ht : TOk P T) (s : Sim N m h fr w) (id : Nat) {t off : Nat} {cs : List AV} {xs : Array Value} {K : Eff → Option R} {r : R} (hx : RelL m cs xs.toList) (hh : partA T t cs off K = some r) :
    ∃ e, K e = some r ∧ Does P N m h fr w id e (part t xs off) := by
  unfold partA at hh
  split at hh
  · rename_i ti et
    obtain ⟨_, e2, e3⟩ := ht.at (w := w) et
    split at hh
    · rename_i c
      rw [c] at e3
      refine ⟨_, hh, Does.pure s (x := .agg (xs.extract off (off + ti.size))) (by simp [part, e3, e2]) ?_⟩
      simp only [Rel]
      exact ⟨(xs.toList.drop off).take ti.size, by congr 1; apply Array.ext'; rw [Array.toList_extract]; simp [List.extract], (hx.drop _).take _⟩
    · rename_i c
      have c' : ti.desc.isRow = false := by simpa using c
      rw [c'] at e3
      cases hc : cs[off]? with
      | none => rw [hc] at hh; cases hh
      | some v =>
        rw [hc] at hh; simp only [Option.bind_some] at hh
        obtain ⟨x, hx1, hx2⟩ := hx.get off v hc
        rw [Array.getElem?_toList] at hx1
        exact ⟨_, hh, Does.pure s (x := x) (by simp [part, e3, hx1]) hx2⟩
  · cases hh

def fieldA (T : Types) (t : Nat) (x : AV) (f : Nat) (K : Eff → Option R) : Option R :=
  match x, T t with
  | .agg cs, some ti => (match ti.desc with
    | .struct fs => (match fs.toList[f]? with
      | some fd => partA T fd.type cs fd.offset K
      | none => none)
    | _ => none)
  | _, _ => none

theorem fieldA_sim (ht : TOk P T) (s : Sim N m h fr w) (id : Nat) {t f : Nat} {x : AV} {X : Value} {K : Eff → Option R} {r : R} (hx : Rel m x X) (hh : fieldA T t x f K = some r) :
    ∃ e, K e = some r ∧ Does P N m h fr w id e (Instr.field t X f) := by
  unfold fieldA at hh
  split at hh
  · rename_i cs ti et
    simp only [Rel] at hx
    obtain ⟨ys, rfl, hr⟩ := hx
    split at hh
    · rename_i fs ed
      split at hh
      · rename_i fd ef
        obtain ⟨e, he, x, w', m', hrun, rest⟩ := partA_sim ht s id (xs := ⟨ys⟩) hr hh
        refine ⟨e, he, x, w', m', ?_, rest⟩
        have e1 := (ht.at (w := w) et).1
        rw [ed] at e1
        have ef' : fs[f]? = some fd := by rw [← Array.getElem?_toList]; exact ef
        simp [Instr.field, e1, ef', asAgg, hrun]
      · cases hh
    · cases hh
  · cases hh

def indexA (T : Types) (t : Nat) (x ix : AV) (K : Eff → Option R) : Option R :=
  match x, ix, T t with
  | .agg cs, .int _ i, some ti => (match ti.desc with
    | .array n e => (match T e with
      | some te => if 0 ≤ i ∧ i < (n : Int) then partA T e cs (i.toNat * te.size) K else none
      | none => none)
    | _ => none)
  | .str s, .int _ i, some ti => (match ti.desc with
    | .string => if 0 ≤ i then (s.data.toList[i.toNat]?).bind fun b => K ⟨.int .u8 b.toNat, [], []⟩ else none
    | _ => none)
  | _, _, _ => none

theorem indexA_sim (ht : TOk P T) (s : Sim N m h fr w) (id : Nat) {t : Nat} {x ix : AV} {X Y : Value} {K : Eff → Option R} {r : R} (hx : Rel m x X) (hy : Rel m ix Y) (hh : indexA T t x ix K = some r) :
    ∃ e, K e = some r ∧ Does P N m h fr w id e (Instr.index t X Y) := by
  unfold indexA at hh
  split at hh
  · rename_i cs k i ti et
    simp only [Rel] at hx hy
    obtain ⟨ys, rfl, hr⟩ := hx
    subst hy
    split at hh
    · rename_i n e ed
      split at hh
      · rename_i te ee
        split at hh
        · rename_i c
          obtain ⟨ef, he, x, w', m', hrun, rest⟩ := partA_sim ht s id (xs := ⟨ys⟩) hr hh
          refine ⟨ef, he, x, w', m', ?_, rest⟩
          have e1 := (ht.at (w := w) et).1
          rw [ed] at e1
          simp [Instr.index, asIntOf, e1, c, (ht.at (w := w) ee).2.1, hrun]
        · cases hh
      · cases hh
    · cases hh
  · rename_i sx k i ti et
    simp only [Rel] at hx hy
    subst hx; subst hy
    split at hh
    · rename_i ed
      split at hh
      · rename_i c
        cases hb : sx.data.toList[i.toNat]? with
        | none => rw [hb] at hh; cases hh
        | some b =>
          rw [hb] at hh; simp only [Option.bind_some] at hh
          have e1 := (ht.at (w := w) et).1
          rw [ed] at e1
          have hb' : sx[i.toNat]? = some b := by
            rw [Array.getElem?_toList] at hb
            obtain ⟨hlt, hb⟩ := Array.getElem?_eq_some_iff.1 hb
            rw [getElem?_pos sx i.toNat (by exact hlt)]
            exact congrArg some hb
          exact ⟨_, hh, Does.pure s (x := .int .u8 b.toNat) (by simp [Instr.index, asIntOf, e1, c, hb']) (by simp only [Rel])⟩
      · cases hh
    · cases hh
  · cases hh

/-! ### conversions, tuples, least and greatest -/
def isU8D : TypeDesc → Bool
  | .int .u8 => true
  | _ => false
def isStrD0 : TypeDesc → Bool
  | .string => true
  | _ => false
noncomputable def convertA (T : Types) (src dst : Nat) (x : AV) (id : Nat) (K : Eff → Option R) : Option R :=
  match x, T src, T dst with
  | .int _ n, some _, some ti => (match ti.desc with
    | .int k => K ⟨.int k (wrapA k n), [], []⟩
    | _ => none)
  | .str s, some si, some ti => (match ti.desc with
    | .slice e => (T e).bind fun te => if (isU8D te.desc && isStrD0 si.desc) = true then K ⟨.slice (some (id, 0)) s.size none, [(id, some ⟨bytesA s, 1, true⟩)], []⟩ else none
    | _ => none)
  | _, _, _ => none

theorem convertA_sets {T : Types} {src dst : Nat} {x : AV} {id : Nat} {e : Eff} (he : convertA T src dst x id some = some e) : ∀ p ∈ e.sets, p.1 = id := by
  unfold convertA at he
  split at he
  · split at he
    · obtain rfl := Option.some.inj he; intro p hp; cases hp
    · cases he
  · split at he
    · obtain ⟨te, _, he⟩ := Option.bind_eq_some_iff.1 he
      split at he
      · obtain rfl := Option.some.inj he; intro p hp; simp at hp; subst hp; rfl
      · cases he
    · cases he
  · cases he

theorem bytesRow_toList (s : ByteArray) (cap : Nat) : bytesRow s cap = (byteCells s ++ List.replicate (cap - s.size) (Value.int .u8 0)).toArray := by
  apply Array.ext'
  simp [bytesRow, byteCells]

theorem convertA_sim (ht : TOk P T) (s : Sim N m h fr w) {id : Nat} (hid : fr id) {src dst : Nat} {x : AV} {X : Value} {K : Eff → Option R} {r : R} (hx : Rel m x X) (hh : convertA T src dst x id K = some r) :
    ∃ e, K e = some r ∧ Does P N m h fr w id e (convert src dst X) := by
  unfold convertA at hh
  split at hh
  · rename_i k0 n si ti es et
    simp only [Rel] at hx; subst hx
    split at hh
    · rename_i k ed
      have e0 := (ht.at (w := w) es).1
      have e1 := (ht.at (w := w) et).1
      rw [ed] at e1
      exact ⟨_, hh, Does.pure s (x := .int k (wrapA k n)) (by simp [convert, e0, e1, Conv.intToInt, wrapA_eq]) (by simp only [Rel])⟩
    · cases hh
  · rename_i st si ti es et
    simp only [Rel] at hx; subst hx
    split at hh
    · rename_i e ed
      obtain ⟨te, ee, hh⟩ := Option.bind_eq_some_iff.1 hh
      split at hh
      · rename_i c
        simp only [Bool.and_eq_true] at c
        obtain ⟨_, _, hu0, _⟩ := ht.info es
        obtain ⟨_, _, hu1, _⟩ := ht.info et
        obtain ⟨_, _, hu2, _⟩ := ht.info ee
        have hs : P.underlying src = some .string := by
          rw [hu0]; revert c; cases si.desc <;> simp [isStrD0]
        have hd : P.underlying dst = some (.slice e) := by rw [hu1, ed]
        have he : P.underlying e = some (.int .u8) := by
          rw [hu2]; revert c; cases te.desc <;> simp [isU8D]
          rename_i k; cases k <;> simp
        have hrun := run_bytes_of_string (P := P) w src dst e st hs hd he
        have hge := grownCap_ge w st.size 0 e
        generalize grownCap w st.size 0 e = G at *
        rw [bytesRow_toList] at hrun
        have hlen : (bytesA st).length = st.size := by rw [(bytesA_rel (m := m) st).length.symm, byteCells_length]
        obtain ⟨s2, le⟩ := s.drew.alloc hid (bytesA st) (byteCells st) (List.replicate (G - st.size) (Value.int .u8 0)) (bytesA_rel st) (bytesA_one st) e 1 G (by rw [hlen]; exact hge) (by rw [List.length_append, byteCells_length, List.length_replicate]; omega) (by decide)
        refine ⟨_, hh, _, _, _, hrun, ?_, s2.mark _ _ (Nat.le_refl _), le, ((Below.refl N w).drew).alloc s.base _⟩
        simp only [Rel]
        exact ⟨⟨w.heap.size, 0, G, 1⟩, _, _, by simp [PMap.put], rfl, hge, by simp, fun _ => ⟨rfl, by simp⟩⟩
      · cases hh
    · cases hh
  · cases hh

def extractA (x : AV) (i : Nat) (K : Eff → Option R) : Option R :=
  match x with
  | .tuple vs => (vs[i]?).bind fun v => K ⟨v, [], []⟩
  | _ => none

theorem extractA_sim (s : Sim N m h fr w) (id : Nat) {i : Nat} {x : AV} {X : Value} {K : Eff → Option R} {r : R} (hx : Rel m x X) (hh : extractA x i K = some r) :
    ∃ e, K e = some r ∧ Does P N m h fr w id e (Instr.extract X i) := by
  unfold extractA at hh
  split at hh
  · rename_i vs
    simp only [Rel] at hx
    obtain ⟨ys, rfl, hr⟩ := hx
    cases hv : vs[i]? with
    | none => rw [hv] at hh; cases hh
    | some v =>
      rw [hv] at hh; simp only [Option.bind_some] at hh
      obtain ⟨y, hy, hr'⟩ := hr.get i v hv
      refine ⟨_, hh, Does.pure s (x := y) ?_ hr'⟩
      have : (⟨ys⟩ : Array Value)[i]? = some y := by rw [← Array.getElem?_toList]; exact hy
      simp [Instr.extract, this]
  · cases hh

def mostA (less : Bool) : AV → List AV → Option AV
  | .int k a, [] => some (.int k a)
  | .int k a, .int _ b :: r => mostA less (.int k (if less then (if b < a then b else a) else (if b > a then b else a))) r
  | _, _ => none

theorem mostA_min {P : Program} {w : World} : ∀ (vs : List AV) (v : AV) (xs : List Value) (x : Value) (u : AV), RelL m vs xs → Rel m v x → mostA true v vs = some u → ∃ y, (xs.foldlM Builtin.min2 x).run P w = .ok y w ∧ Rel m u y := by
  intro vs
  induction vs with
  | nil =>
    intro v xs x u hr hv hm
    simp only [RelL] at hr; subst hr
    have : u = v := by cases v <;> simp [mostA] at hm; exact hm.symm
    subst this
    exact ⟨x, by simp, hv⟩
  | cons q vs ih =>
    intro v xs x u hr hv hm
    simp only [RelL] at hr
    obtain ⟨y, r, rfl, hq, hrr⟩ := hr
    obtain ⟨k, a, rfl⟩ : ∃ k a, v = .int k a := by cases v <;> first | exact ⟨_, _, rfl⟩ | (simp [mostA] at hm)
    obtain ⟨k2, b, rfl⟩ : ∃ k a, q = .int k a := by cases q <;> first | exact ⟨_, _, rfl⟩ | (simp [mostA] at hm)
    simp only [mostA] at hm
    simp only [Rel] at hv hq
    subst hv; subst hq
    obtain ⟨z, hz, hrz⟩ := ih _ r (.int k (if b < a then b else a)) u hrr (by simp only [Rel, if_true]) hm
    exact ⟨z, by simp [List.foldlM_cons, Builtin.min2, hz], hrz⟩

theorem mostA_max {P : Program} {w : World} : ∀ (vs : List AV) (v : AV) (xs : List Value) (x : Value) (u : AV), RelL m vs xs → Rel m v x → mostA false v vs = some u → ∃ y, (xs.foldlM Builtin.max2 x).run P w = .ok y w ∧ Rel m u y := by
  intro vs
  induction vs with
  | nil =>
    intro v xs x u hr hv hm
    simp only [RelL] at hr; subst hr
    have : u = v := by cases v <;> simp [mostA] at hm; exact hm.symm
    subst this
    exact ⟨x, by simp, hv⟩
  | cons q vs ih =>
    intro v xs x u hr hv hm
    simp only [RelL] at hr
    obtain ⟨y, r, rfl, hq, hrr⟩ := hr
    obtain ⟨k, a, rfl⟩ : ∃ k a, v = .int k a := by cases v <;> first | exact ⟨_, _, rfl⟩ | (simp [mostA] at hm)
    obtain ⟨k2, b, rfl⟩ : ∃ k a, q = .int k a := by cases q <;> first | exact ⟨_, _, rfl⟩ | (simp [mostA] at hm)
    simp only [mostA] at hm
    simp only [Rel] at hv hq
    subst hv; subst hq
    obtain ⟨z, hz, hrz⟩ := ih _ r (.int k (if b > a then b else a)) u hrr (by simp [Rel]) hm
    exact ⟨z, by simp [List.foldlM_cons, Builtin.max2, hz], hrz⟩

end Go.Proofs.YtahilinkfnchaaaDoor.T
