/- The abstract machine's append, copy, make, literals. Nothing of a program. -/
import Derived.Test.YtahilinkfnchaaaDoorT4
set_option linter.unusedVariables false
set_option linter.unusedSimpArgs false
namespace Go.Proofs.YtahilinkfnchaaaDoor.T
open Go Go.RowKit

variable {R : Type} {P : Program} {T : Types} {N : Nat} {m : PMap} {h : AHeap} {fr : Nat → Prop} {w : World}

theorem RelL.of_get {vs : List AV} {xs : List Value} (hl : xs.length = vs.length) (hg : ∀ (i : Nat) (v : AV), vs[i]? = some v → ∃ x, xs[i]? = some x ∧ Rel m v x) : RelL m vs xs := by
  induction vs generalizing xs with
  | nil => simp only [RelL]; exact List.eq_nil_of_length_eq_zero hl
  | cons v vs ih =>
    cases xs with
    | nil => simp at hl
    | cons x xs =>
      simp only [RelL]
      obtain ⟨x', hx', hr⟩ := hg 0 v rfl
      simp only [List.getElem?_cons_zero, Option.some.injEq] at hx'
      subst hx'
      refine ⟨x, xs, rfl, hr, ih (by simpa using hl) fun i u hu => ?_⟩
      have := hg (i + 1) u (by simpa using hu)
      simpa using this

/-! ### append -/
def bytesA (s : ByteArray) : List AV := s.data.toList.map fun b => .int .u8 b.toNat

theorem bytesA_rel (s : ByteArray) : RelL m (bytesA s) (byteCells s) := by
  refine RelL.of_get (by simp [bytesA, byteCells]) fun i v hv => ?_
  simp only [bytesA, List.getElem?_map, Option.map_eq_some_iff] at hv
  obtain ⟨b, hb, rfl⟩ := hv
  refine ⟨.int .u8 b.toNat, by simp only [byteCells, List.getElem?_map]; simp at hb; simp [hb], by simp only [Rel]⟩

theorem bytesA_one (s : ByteArray) : allOne (bytesA s) = true := allOne_of fun v hv => by
  simp only [bytesA, List.mem_map] at hv; obtain ⟨b, _, rfl⟩ := hv; rfl

/-- What is appended: how many elements, their cells, what was read. -/
def srcS (h : AHeap) (a : Option (Nat × Nat)) (n es : Nat) : Option (Nat × List AV × List Nat) :=
  match a with
  | none => some (0, [], [])
  | some a => if n = 0 then some (0, [], []) else (h a.1).bind fun b =>
      if (b.es == es && decide (a.2 + n * es ≤ b.cells.length)) = true then some (n, (b.cells.drop a.2).take (n * es), [a.1]) else none
def srcA (T : Types) (tx : Nat) (x : AV) (es : Nat) (h : AHeap) : Option (Nat × List AV × List Nat) :=
  match x, T tx with
  | .slice a n _, some ti => if isSliceD ti.desc = true then srcS h a n es else none
  | .str s, some ti => (match ti.desc with
    | .string => if es = 1 then some (s.size, bytesA s, []) else none
    | _ => none)
  | _, _ => none

theorem rangeAt_cells {b o : Nat} {xs : List Value} (q : w.rangeAt b o xs) : ∀ j u, xs[j]? = some u → w.cell? ((⟨b, o, none⟩ : Addr).add j) = some u := fun j u hu => by
  rw [Addr.add_mid]; exact q j u hu

theorem srcA_sim (ht : TOk P T) (s : Sim N m h fr w) {tx es : Nat} (hes : es < MB) {x : AV} {X : Value} {k : Nat} {vs : List AV} {rd : List Nat} (hx : Rel m x X) (hh : srcA T tx x es h = some (k, vs, rd)) :
    ∃ news, RelL m vs news ∧ allOne vs = true ∧ Src P es tx X k news w := by
  unfold srcA at hh
  split at hh
  · rename_i a n c ti et
    by_cases cd : isSliceD ti.desc = true
    · rw [if_pos cd] at hh
      obtain ⟨info, z, hu, _⟩ := ht.info et
      cases ed : ti.desc <;> simp [ed, isSliceD] at cd
      rw [ed] at hu
      unfold srcS at hh
      cases a with
      | none =>
        simp only [Rel] at hx
        obtain ⟨rfl, rfl⟩ := hx
        simp only [Option.some.injEq, Prod.mk.injEq] at hh
        obtain ⟨rfl, rfl, rfl⟩ := hh
        exact ⟨[], by simp [RelL], rfl, Src.ofNil w hu 0⟩
      | some a =>
        simp only [Rel] at hx
        obtain ⟨p, A, cc, hp, rfl, hn, hcl, hA⟩ := hx
        simp only at hh
        by_cases c0 : n = 0
        · rw [if_pos c0] at hh
          simp only [Option.some.injEq, Prod.mk.injEq] at hh
          obtain ⟨rfl, rfl, rfl⟩ := hh
          subst c0
          exact ⟨[], by simp [RelL], rfl, Src.ofSlice w hu A 0 cc [] (by simp) (fun j u hu => by simp at hu) (fun u hu => by cases hu)⟩
        · rw [if_neg c0] at hh
          cases hb : h a.1 with
          | none => rw [hb] at hh; cases hh
          | some b =>
            rw [hb] at hh; simp only [Option.bind_some] at hh
            by_cases c1 : (b.es == es && decide (a.2 + n * es ≤ b.cells.length)) = true
            · rw [if_pos c1] at hh
              simp only [Option.some.injEq, Prod.mk.injEq] at hh
              obtain ⟨rfl, rfl, rfl⟩ := hh
              simp only [Bool.and_eq_true, beq_iff_eq, decide_eq_true_eq] at c1
              obtain ⟨rfl, _⟩ := hA (by omega)
              have hne : b.es ≠ MB := by rw [c1.1]; omega
              obtain ⟨xs, rx, qx, hl⟩ := s.range hb hp hne a.2 (n * es) c1.2
              obtain ⟨p', hp', ok⟩ := s.blk a.1 b hb
              have one : allOne ((b.cells.drop a.2).take (n * es)) = true := allOne_of fun v hv => allOne_mem (ok.one hne) (List.mem_of_mem_drop (List.mem_of_mem_take hv))
              exact ⟨xs, rx, one, Src.ofSlice w hu _ n cc xs hl (rangeAt_cells qx) (RelL.one rx one)⟩
            · rw [if_neg c1] at hh; cases hh
    · rw [if_neg cd] at hh; cases hh
  · rename_i sx ti et
    simp only [Rel] at hx; subst hx
    obtain ⟨info, z, hu, _⟩ := ht.info et
    split at hh
    · rename_i ed
      rw [ed] at hu
      by_cases c1 : es = 1
      · rw [if_pos c1] at hh; subst c1
        simp only [Option.some.injEq, Prod.mk.injEq] at hh
        obtain ⟨rfl, rfl, rfl⟩ := hh
        exact ⟨byteCells sx, bytesA_rel sx, bytesA_one sx, Src.ofString w hu sx⟩
      · rw [if_neg c1] at hh; cases hh
    · cases hh
  · cases hh

def growOk (need bytes : Nat) : Bool := decide ((need + need / 4 + 192) * bytes ≤ 281474976710656) && decide (need ≤ 9223372036854775807)

/-- What an append yields: a slice, blocks, what was read. -/
structure AE where
  a : Option (Nat × Nat)
  n : Nat
  c : Option Nat
  sets : List (Nat × Option ABlk)
  reads : List Nat

def capLt (cap : Option Nat) (m : Nat) : Bool := match cap with
  | some k => Nat.blt k CB && Nat.blt k m
  | none => false
def capIn (cap : Option Nat) (m hi len : Nat) : Bool := match cap with
  | some k => Nat.ble m (capMin k) && Nat.ble hi len
  | none => false
def appD (h : AHeap) (a : Option (Nat × Nat)) (n : Nat) (cap : Option Nat) (es bytes id : Nat) (q : Nat × List AV × List Nat) : Option AE :=
  if q.1 = 0 then some ⟨a, n, cap, [], q.2.2⟩ else
  if growOk (n + q.1) bytes = true then
    (match a with
     | none => some ⟨some (id, 0), n + q.1, none, [(id, some ⟨q.2.1, es, true⟩)], q.2.2⟩
     | some a => (h a.1).bind fun b =>
       if (b.es == es && decide (a.2 + n * es ≤ b.cells.length)) = true then
         (if capLt cap (n + q.1) = true then some ⟨some (id, 0), n + q.1, none, [(id, some ⟨(b.cells.drop a.2).take (n * es) ++ q.2.1, es, true⟩)], a.1 :: q.2.2⟩
          else if b.own = true then
            (if capIn cap (n + q.1) (a.2 + (n + q.1) * es) b.cells.length = true then some ⟨some a, n + q.1, cap, [(a.1, some ⟨splice b.cells (a.2 + n * es) q.2.1, b.es, true⟩)], a.1 :: q.2.2⟩
             else some ⟨some (id, 0), n + q.1, none, [(a.1, none), (id, some ⟨(b.cells.drop a.2).take (n * es) ++ q.2.1, es, true⟩)], a.1 :: q.2.2⟩) else none)
       else none)
  else none

def appendA (T : Types) (t tx : Nat) (sl x : AV) (id : Nat) (h : AHeap) (K : Eff → Option R) : Option R :=
  match sl, T t with
  | .slice a n clip, some ti =>
    (match ti.desc with
     | .slice e => (match T e with
       | some te => (srcA T tx x te.size h).bind fun q => (appD h a n clip te.size te.bytes id q).bind fun e => K ⟨.slice e.a e.n e.c, e.sets, e.reads⟩
       | none => none)
     | _ => none)
  | _, _ => none

theorem size_zeroCells' (z : Array Value) (n : Nat) : (Builtin.zeroCells z n).toList.length = n * z.size := by simp [Builtin.zeroCells]

theorem appendA_sim (ht : TOk P T) (s : Sim N m h fr w) {id : Nat} (hid : fr id) {t tx ty : Nat} {sl x : AV} {X Y : Value} {K : Eff → Option R} {r : R} (hx : Rel m sl X) (hy : Rel m x Y)
    (hh : appendA T t tx sl x id h K = some r) : ∃ e, K e = some r ∧ Does P N m h fr w id e (Builtin.append_ #[t, tx] ty #[X, Y]) := by
  unfold appendA at hh
  split at hh
  · rename_i a n clip ti et
    split at hh
    · rename_i e ed
      split at hh
      · rename_i te ee
        obtain ⟨hu, hsz, info, z, hi, hs, hb, hz, hr, hl, ho⟩ := ht.slice (w := w) et ed ee
        cases hsrc : srcA T tx x te.size h with
        | none => rw [hsrc] at hh; cases hh
        | some q =>
        obtain ⟨k, vs, rd⟩ := q
        rw [hsrc] at hh
        simp only [Option.bind_some, appD] at hh
        obtain ⟨news, rv, one, src⟩ := srcA_sim ht s (ht.small _ _ ee) hy hsrc
        have hzc : z.cells.size = te.size := by have := (Rel.cells (hr m) ho).length; rw [hl] at this; simpa using this
        have hnl : news.length = k * te.size := src.newsLen
        have src' : Src P info.size tx Y k news w := by rw [hs]; exact src
        by_cases c0 : k = 0
        · rw [if_pos c0] at hh
          simp only [Option.bind_some] at hh
          subst c0
          refine ⟨_, hh, Does.pure s (x := X) ?_ hx⟩
          have hn0 : news = [] := List.eq_nil_of_length_eq_zero (by rw [hnl]; simp)
          subst hn0
          have : ∃ A cc, X = .slice A n cc ∧ n ≤ cc := by
            cases a with
            | none => simp only [Rel] at hx; obtain ⟨rfl, rfl⟩ := hx; exact ⟨_, _, rfl, Nat.le_refl _⟩
            | some a => simp only [Rel] at hx; obtain ⟨p, A, cc, _, rfl, q, _⟩ := hx; exact ⟨_, _, rfl, q⟩
          obtain ⟨A, cc, rfl, hle⟩ := this
          rcases src'.kind with ⟨e', hk⟩ | hk <;> cases A <;> simp [Builtin.append_, run_underlying hu, run_underlying hk, sizeOf, typeInfo, hi, src'.len, hle, src'.cells, storeCells]
        · rw [if_neg c0] at hh
          by_cases cg : growOk (n + k) te.bytes = true
          · rw [if_pos cg] at hh
            simp only [growOk, Bool.and_eq_true, decide_eq_true_eq] at cg
            obtain ⟨cg1, cg2⟩ := cg
            -- the arm that makes a new row
            have grow : ∀ (A : Option Addr) (cc : Nat) (cs : List AV) (olds : List Value), X = .slice A n cc → cc < n + k → RelL m cs olds → allOne cs = true → cs.length = n * te.size →
                (Builtin.firstCells te.size n (.slice A n cc)).run P w.drew = .ok olds.toArray w.drew → ∀ (sets : List (Nat × Option ABlk)) (h' : AHeap) , h.puts sets = h'.put id (some ⟨cs ++ vs, te.size, true⟩) → (Sim N m h' fr w) →
                ∃ x w' m', (Builtin.append_ #[t, tx] ty #[X, Y]).run P w = .ok x w' ∧ Rel m' (.slice (some (id, 0)) (n + k) none) x ∧ Sim N m' (h.puts sets) (fun j => fr j ∧ j ≠ id) w' ∧ m.le m' ∧ Below N w w' := by
              intro A cc cs olds hX hcc rc oc hcl hold sets h' hsets s'
              subst hX
              have hrun := run_append_grow_src (P := P) w t tx ty e info z hu hi hz A n cc olds (by rw [hs]; exact hold) Y k news src' hcc (by omega) (by rw [hb]; exact growslice_fits_wide hcc cg1)
              have hge := grownCap_ge w (n + k) cc e
              generalize grownCap w (n + k) cc e = G at *
              have hal := s'.drew.alloc hid (cs ++ vs) (olds ++ news) (Builtin.zeroCells z.cells (G - (n + k))).toList (rc.append rv) (by
                refine allOne_of fun v hv => ?_
                rw [List.mem_append] at hv
                rcases hv with hv | hv
                · exact allOne_mem oc hv
                · exact allOne_mem one hv) e te.size (G * te.size) (by
                rw [List.length_append, hcl, ← rv.length, hnl, ← Nat.add_mul]; exact Nat.mul_le_mul_right _ hge) (by
                rw [List.length_append, List.length_append, rc.length, hcl, hnl, size_zeroCells', hzc, ← Nat.add_mul, ← Nat.add_mul]
                exact Nat.mul_le_mul_right _ (by omega)) (ht.small _ _ ee)
              obtain ⟨s2, le⟩ := hal
              have hsize : w.drew.heap.size = w.heap.size := rfl
              rw [hsize] at s2 le
              refine ⟨_, _, _, hrun, ?_, ?_, le, ((Below.refl N w).drew).alloc s'.base _⟩
              · simp only [Rel]
                exact ⟨⟨w.heap.size, 0, G * te.size, te.size⟩, _, _, by simp [PMap.put], rfl, hge, by simp, fun _ => ⟨rfl, by simp⟩⟩
              · rw [hsets]
                have : ((olds ++ news) ++ (Builtin.zeroCells z.cells (G - (n + k))).toList).toArray = (olds ++ news).toArray ++ Builtin.zeroCells z.cells (G - (n + k)) := by simp
                rw [this] at s2
                exact s2
            cases a with
            | none =>
              simp only [Option.bind_some] at hh
              simp only [Rel] at hx
              obtain ⟨rfl, rfl⟩ := hx
              refine ⟨_, hh, grow none 0 [] [] rfl (by omega) (by simp [RelL]) rfl (by simp) (by simp [Builtin.firstCells]) _ h rfl s⟩
            | some a =>
              simp only at hh
              simp only [Rel] at hx
              obtain ⟨p, A, cc, hp, rfl, hn, hcl, hA⟩ := hx
              cases hbk : h a.1 with
              | none => rw [hbk] at hh; cases hh
              | some b =>
                rw [hbk] at hh; simp only [Option.bind_some] at hh
                by_cases c1 : (b.es == te.size && decide (a.2 + n * te.size ≤ b.cells.length)) = true
                · rw [if_pos c1] at hh
                  simp only [Bool.and_eq_true, beq_iff_eq, decide_eq_true_eq] at c1
                  obtain ⟨p', hp', ok⟩ := s.blk a.1 b hbk
                  rw [hp] at hp'; obtain rfl := Option.some.inj hp'
                  have hsm := ht.small _ _ ee
                  have hMB := MB_LB
                  have hne : b.es ≠ MB := by rw [c1.1]; omega
                  have hes : p.es = te.size := (ok.es (by rw [c1.1]; omega)).trans c1.1
                  obtain ⟨xs, rx, qx, hlx⟩ := s.range hbk hp hne a.2 (n * te.size) c1.2
                  have onex : allOne ((b.cells.drop a.2).take (n * te.size)) = true := allOne_of fun v hv => allOne_mem (ok.one hne) (List.mem_of_mem_drop (List.mem_of_mem_take hv))
                  have hcsl : ((b.cells.drop a.2).take (n * te.size)).length = n * te.size := by rw [← rx.length, hlx]
                  have hold : (Builtin.firstCells te.size n (.slice (some A) n cc)).run P w.drew = .ok xs.toArray w.drew := by
                    by_cases cz : n = 0
                    · subst cz
                      have : xs = [] := List.eq_nil_of_length_eq_zero (by rw [hlx]; simp)
                      subst this
                      exact run_firstCells_some w.drew te.size 0 A 0 cc [] (by simp) (fun j v hv => by simp at hv)
                    · obtain ⟨rfl, _⟩ := hA (by omega)
                      exact run_firstCells_some w.drew te.size n _ n cc xs hlx (fun j v hv => by have := rangeAt_cells qx j v hv; simpa using this)
                  by_cases ccl : capLt clip (n + k) = true
                  · rw [if_pos ccl] at hh
                    simp only [Option.bind_some] at hh
                    have : cc < n + k := by
                      cases clip with
                      | none => simp [capLt] at ccl
                      | some k0 => simp only [capLt, Bool.and_eq_true, Nat.blt_eq] at ccl; have := (hcl k0 rfl).1 ccl.1; omega
                    exact ⟨_, hh, grow (some A) cc _ xs rfl (by omega) rx onex hcsl hold _ h rfl s⟩
                  · rw [if_neg ccl] at hh
                    by_cases cown : b.own = true
                    · rw [if_pos cown] at hh
                      by_cases cin : capIn clip (n + k) (a.2 + (n + k) * te.size) b.cells.length = true
                      · -- in its place
                        rw [if_pos cin] at hh
                        simp only [Option.bind_some] at hh
                        obtain ⟨k0, rfl⟩ : ∃ k0, clip = some k0 := by cases clip with | none => simp [capIn] at cin | some k0 => exact ⟨k0, rfl⟩
                        have hk0 := hcl k0 rfl
                        simp only [capIn, Bool.and_eq_true, Nat.ble_eq] at cin
                        obtain ⟨cin1, cin2⟩ := cin
                        have cr : n + k ≤ cc := by have := hk0.min_le; omega
                        refine ⟨_, hh, ?_⟩
                        obtain ⟨rfl, hcap⟩ := hA (by omega)
                        rw [hes] at hcap
                        have hth := (ok.own cown).2 hne
                        have hkc : n * te.size + news.length ≤ cc * te.size := by rw [hnl, ← Nat.add_mul]; exact Nat.mul_le_mul_right _ cr
                        have hrun := run_append_room_src (P := P) w t tx ty e info hu hi p.blk (p.base + a.2) n cc Y k news src' cr
                          (fun j hj => by
                            have := (hth (a.2 + n * te.size + j) (by omega)).1
                            rw [hs]; rwa [show p.base + (a.2 + n * te.size + j) = p.base + a.2 + n * te.size + j by omega] at this)
                          (fun j hj => by
                            have := (hth (a.2 + n * te.size + j) (by omega)).2
                            rw [hs]; rwa [show p.base + (a.2 + n * te.size + j) = p.base + a.2 + n * te.size + j by omega] at this)
                        rw [hs] at hrun
                        have hfit : a.2 + n * te.size + vs.length ≤ b.cells.length := by rw [← rv.length, hnl]; rw [Nat.add_mul] at cin2; omega
                        have s2 := s.store hbk hp cown (a.2 + n * te.size) vs news rv one hfit hne
                        rw [show p.base + (a.2 + n * te.size) = p.base + a.2 + n * te.size by omega] at s2
                        refine ⟨_, _, m, hrun, ?_, s2.mono (fun _ hj => hj.1), PMap.le_refl m, below_setCells (ok.own cown).1 _ _ _ (Below.refl N w)⟩
                        simp only [Rel]
                        exact ⟨p, _, _, hp, rfl, cr, fun k hk => by rw [← Option.some.inj hk]; exact hk0, fun _ => ⟨rfl, by rw [hes]; exact hcap⟩⟩
                      rw [if_neg cin] at hh
                      simp only [Option.bind_some] at hh
                      refine ⟨_, hh, ?_⟩
                      by_cases cr : n + k ≤ cc
                      · -- there is room
                        obtain ⟨rfl, hcap⟩ := hA (by omega)
                        rw [hes] at hcap
                        have hth := (ok.own cown).2 hne
                        have hkc : n * te.size + news.length ≤ cc * te.size := by rw [hnl, ← Nat.add_mul]; exact Nat.mul_le_mul_right _ cr
                        have hrun := run_append_room_src (P := P) w t tx ty e info hu hi p.blk (p.base + a.2) n cc Y k news src' cr
                          (fun j hj => by
                            have := (hth (a.2 + n * te.size + j) (by omega)).1
                            rw [hs]; rwa [show p.base + (a.2 + n * te.size + j) = p.base + a.2 + n * te.size + j by omega] at this)
                          (fun j hj => by
                            have := (hth (a.2 + n * te.size + j) (by omega)).2
                            rw [hs]; rwa [show p.base + (a.2 + n * te.size + j) = p.base + a.2 + n * te.size + j by omega] at this)
                        rw [hs] at hrun
                        obtain ⟨s2, le⟩ := s.onto hbk hp cown hid a.2 (n * te.size) (cc * te.size) vs news rv one c1.2 (by rw [← rv.length]; exact hkc) hcap hne
                        rw [c1.1] at s2 le
                        refine ⟨_, _, _, hrun, ?_, s2, le, below_setCells (ok.own cown).1 _ _ _ (Below.refl N w)⟩
                        simp only [Rel]
                        exact ⟨⟨p.blk, p.base + a.2, cc * te.size, te.size⟩, _, _, by simp [PMap.put], rfl, cr, by simp, fun _ => ⟨rfl, by simp⟩⟩
                      · exact grow (some A) cc _ xs rfl (by omega) rx onex hcsl hold _ (h.put a.1 none) rfl (s.kill a.1)
                    · rw [if_neg cown] at hh; cases hh
                · rw [if_neg c1] at hh; cases hh
          · rw [if_neg cg] at hh; cases hh
      · cases hh
    · cases hh
  · cases hh

end Go.Proofs.YtahilinkfnchaaaDoor.T
