/- Desk: Hear. -/
import Derived.Test.YtahilinkfnchaaaDoorDC
set_option linter.unusedVariables false
set_option linter.unusedSimpArgs false
namespace Go.Proofs.YtahilinkfnchaaaDoor.T
open Go Go.RowKit Go.Proofs
set_option maxRecDepth 10000

def toldT (code : Int) (ps : List (List UInt8)) : Tld :=
  if 3 ≤ ps.length then
    (let dn := decide ((ps.drop 3).head? = some doneW)
     ⟨code, dn, (numL (ps.getD 1 [])).1, (unhexL (ps.getD 2 [])).getD [], ((if dn = true then (ps.drop 3).drop 1 else ps.drop 3).map B)⟩)
  else ⟨code, false, 0, [], []⟩
def toldL (ps : List (List UInt8)) : Tld :=
  if ps.getD 0 [] = noW ∧ 1 < ps.length then toldT (numL (ps.getD 1 [])).1 (ps.drop 1) else toldT 0 ps
def noTold : Tld := ⟨0, false, 0, [], []⟩
def hearP (l : List UInt8) : Option Tld := if tellP (toldL (cutW l)) = some l then some (toldL (cutW l)) else none

def hearV (t : Tld) (s : ByteArray) : Option Tld := if tellP t = some s.data.toList then some t else none

theorem st_set {R : Type} {h : AHeap} {i o es : Nat} {cs : List AV} {v : AV} (hb : h i = some ⟨cs, es, true⟩) (hv : v.cells = [v]) (ho : o < cs.length) (h3 : allOne [v] = true) (K : ABlk → Option R) (hm : Nat.beq es MB = false := by rfl) : (stA h i o v 1).bind K = K ⟨cs.set o v, es, true⟩ := by
  rw [st_at hb (by rw [hv]; rfl) (by rw [hv]; simp; omega) (by rw [hv]; exact h3) _ hm, hv]
  congr 2
  unfold splice
  apply List.ext_getElem?
  intro q
  simp only [List.length_cons, List.length_nil, Nat.zero_add]
  rw [List.getElem?_set]
  by_cases hq : o = q
  · subst hq; rw [if_pos rfl, if_pos ho]
    rw [List.append_assoc, List.getElem?_append_right (by rw [List.length_take]; omega), List.length_take, show o - min o cs.length = 0 by omega]; rfl
  · rw [if_neg hq]
    by_cases hl : q < o
    · rw [List.append_assoc, List.getElem?_append_left (by simp; omega), List.getElem?_take, if_pos hl]
    · rw [List.getElem?_append_right (by simp; omega), List.getElem?_drop]; congr 1; simp; omega

/-- A block of bigger rows is no list's block. -/
theorem av_es {h : AHeap} {nx n r es : Nat} {a : Option (Nat × Nat)} {vs l : List AV} {b : Bool} (s : Sl h nx a n 1 vs) (e : h r = some ⟨l, es, b⟩) (hes : es ≠ 1) : Av (fun j => j = r) a n := fun hn p ep q => by
  obtain ⟨pb, bb, e1, e2, e3, e4, _⟩ := s.2 0 hn
  rw [e1] at ep; obtain rfl := Option.some.inj ep
  rw [show pb.1 = r from q, e] at e3
  obtain rfl := Option.some.inj e3
  exact hes e4

theorem clone_spec {n : Nat} (hn : 1 ≤ n) (Y : YldF) {ea : Option (Nat × Nat)} (c : Option Nat) {ns : List ByteArray} {h : AHeap} {nx : Nat} (u : Sl h nx ea ns.length 1 (ns.map AV.str)) (hl : ns.length ≤ 100000000) :
    ∃ h' nx' a' c', callP Tryd.prog keepT n Y 25 [.slice ea ns.length c] h nx = some (.slice a' ns.length c', h', nx') ∧ Ext h nx h' nx' ∧ Sl h' nx' a' ns.length 1 (ns.map AV.str) ∧ Av (Old nx) a' ns.length := by
  obtain ⟨n, rfl⟩ : ∃ m, n = m + 1 := ⟨n - 1, by omega⟩
  rw [F25_eq]
  cases ea with
  | none =>
    have hz : ns.length = 0 := by
      by_cases q : ns.length = 0
      · exact q
      · obtain ⟨p, _, e, _⟩ := u.2 0 (by omega); cases e
    have : ns = [] := List.length_eq_zero_iff.1 hz
    subst this
    exact ⟨h, nx + 4, none, none, rfl, ⟨by omega, fun _ _ => rfl⟩, ⟨rfl, fun j hj => by simp at hj⟩, Av.none⟩
  | some p =>
    rw [if_neg (by simp)]
    dsimp only
    have u1 : Sl (h.put (nx + 3) (some ⟨[], 1, true⟩)) (nx + 4) (some p) ns.length 1 (ns.map AV.str) := u.ext ((Ext.refl h nx).put (by omega) (by omega))
    obtain ⟨rd, e1⟩ := u1.src'
    rw [e1]
    simp only [mst_, mst5_]
    have w : OwnSl (h.put (nx + 3) (some ⟨[], 1, true⟩)) nx (nx + 4) (some (nx + 3, 0)) 0 1 [] := ⟨rfl, .inr ⟨nx + 3, rfl, by omega, by omega, put_same _ _ _⟩⟩
    obtain ⟨e, f1, f2, f3, f4, f5⟩ := w.appendS (some 0) (bytes := 16) (id := nx + 5) (k := ns.length) (ws := ns.map AV.str) (rd := rd) (by simp) (growOk_of (by omega) (by omega)) (by omega) (by omega)
    rw [f1]
    simp only [mst_, mst5_]
    rw [Nat.zero_add] at f2 f3
    rw [List.nil_append] at f3
    rw [f2]
    exact ⟨_, _, e.a, e.c, rfl, ⟨by omega, fun j hj => (f4.2 j hj).trans (put_ne (by omega))⟩, (f3.le (by omega)).sl, f3.av fun j h1 h2 q => by unfold Old at q; omega⟩

def rowT (t : Tld) (da ea : Option (Nat × Nat)) (dc ec : Option Nat) : List AV := [.int .i64 t.code, .bool t.done, .int .i64 t.size, .slice da (ob t.data).length dc, .slice ea t.names.length ec]
theorem zero_told (h : AHeap) (nx : Nat) (A : Nat → Prop) : ToldR h nx A noTold [.int .i64 0, .bool false, .int .i64 0, .slice none 0 none, .slice none 0 none] := ⟨_, _, rfl, Byt.none _ _ _ _ _, Txt.none _ _ _ _ _⟩
/-- What Hear comes to. -/
def HearRes (h : AHeap) (nx0 : Nat) (o : Option Tld) (r : Option (AV × AHeap × Nat)) : Prop :=
  ∃ row h' nx', r = some (.tuple [.agg row, .int .i64 (if o.isSome then 0 else 4)], h', nx') ∧ Ext h nx0 h' nx' ∧ ToldR h' nx' (Old nx0) (o.getD noTold) row

theorem hear3 {m : Nat} (hm : 11 ≤ m) (Y : YldF) (lf : Nat) {s : ByteArray} {h : AHeap} {nx0 nx i : Nat} {t : Tld} {l0 : List AV} {da ea : Option (Nat × Nat)} {dc ec : Option Nat} (hi : nx0 < i) (hi2 : i < nx) (hl0 : l0.length = 5) (hr : h nx0 = some ⟨l0, 5, true⟩) (ti : h i = some ⟨rowT t da ea dc ec, 5, true⟩)
    (d : Sl h nx da (ob t.data).length 1 (ints .u8 (ob t.data))) (da' : Av (Old nx0) da (ob t.data).length) (u : Sl h nx ea t.names.length 1 (t.names.map AV.str)) (z : t.Small m) :
    HearRes h nx0 (hearV t s) (F9_J3 (callP Tryd.prog keepT m) Y lf s (some (nx0, 0)) (some (i, 0)) h nx) := by
  unfold rowT at ti
  unfold hearV
  rw [F9_J3_eq]
  simp only [mst_, mst5_]
  rw [ldr_all (n := 5) ti rfl]
  simp only [mst_, mst5_]
  have tr : ToldR h (nx + 7) (fun _ => False) t [.int .i64 t.code, .bool t.done, .int .i64 t.size, .slice da (ob t.data).length dc, .slice ea t.names.length ec] :=
    ⟨_, _, rfl, ⟨_, _, rfl, d.ext ⟨by omega, fun _ _ => rfl⟩, fun _ _ _ q => q⟩, ⟨_, _, rfl, u.ext ⟨by omega, fun _ _ => rfl⟩, fun _ _ _ q => q⟩⟩
  obtain ⟨h1, n1, g1, g2⟩ := tell_spec (n := m) (by omega) Y tr z
  rw [g1]
  unfold toldV
  simp only [mst_, mst5_]
  have x1 : Ext h nx h1 n1 := g2.from (by omega)
  have hr1 := (x1.2 nx0 (by omega)).trans hr
  have ti1 := (x1.2 i (by omega)).trans ti
  have no : ∀ z, n1 ≤ z → HearRes h nx0 none (some (.tuple [.agg [.int .i64 0, .bool false, .int .i64 0, .slice none 0 none, .slice none 0 none], .int .i64 4], h1.put nx0 (some ⟨[.int .i64 0, .bool false, .int .i64 0, .slice none 0 none, .slice none 0 none], 5, true⟩), z)) := fun z hz =>
    ⟨_, _, z, rfl, ⟨by have := x1.1; omega, fun j hj => (put_ne (by omega)).trans (x1.2 j (by omega))⟩, zero_told _ _ _⟩
  cases ht : tellP t with
  | none =>
    rw [if_neg (show ¬ (none : Option (List UInt8)) = some s.data.toList by simp)]
    rw [if_pos (show (((if (none : Option (List UInt8)).isSome = true then (0 : Int) else 4) : Int) != 0) = true from rfl), st_all (n := 5) hr1 rfl hl0 rfl, ldr_all (n := 5) (put_same _ _ _) rfl]
    simp only [mst_, mst5_]
    exact no _ (by omega)
  | some l =>
    rw [if_neg (show ¬ (((if (some l : Option (List UInt8)).isSome = true then (0 : Int) else 4) : Int) != 0) = true by simp), tl_beq]
    simp only [Option.getD_some]
    by_cases hs : l = s.data.toList
    · subst hs
      rw [if_pos (show some s.data.toList = some s.data.toList from rfl), if_neg (by rw [decide_eq_true (show _ = s from B_of s)]; simp), F9_J4_eq]
      simp only [mst_, mst5_]
      rw [ld_at ti1 (show _ = some (AV.slice ea t.names.length ec) from rfl)]
      simp only [mst_, mst5_]
      have u1 : Sl h1 n1 ea t.names.length 1 (t.names.map AV.str) := u.ext x1
      obtain ⟨h2, n2, a2, c2, k1, k2, k3, k4⟩ := clone_spec (n := m) (by omega) Y ec (u1.ext ⟨show n1 ≤ n1 + 7 + 5 by omega, fun _ _ => rfl⟩) z.l2
      rw [k1]
      simp only [mst_, mst5_]
      have x2 : Ext h1 n1 h2 n2 := k2.from (by omega)
      have ti2 := (x2.2 i (by have := x1.1; omega)).trans ti1
      have hr2 := (x2.2 nx0 (by have := x1.1; omega)).trans hr1
      rw [st_set ti2 rfl (by simp) rfl]
      simp only [List.set_cons_succ, List.set_cons_zero]
      rw [ldr_all (n := 5) (put_same _ _ _) rfl]
      simp only [mst_, mst5_]
      have hr3 : (h2.put i (some ⟨[.int .i64 t.code, .bool t.done, .int .i64 t.size, .slice da (ob t.data).length dc, .slice a2 t.names.length c2], 5, true⟩)) nx0 = some ⟨l0, 5, true⟩ := (put_ne (by omega)).trans hr2
      rw [st_all (n := 5) hr3 rfl hl0 rfl, ldr_all (n := 5) (put_same _ _ _) rfl]
      simp only [mst_, mst5_]
      have l1 := x1.1
      have l2 := x2.1
      have d2 : Sl h2 n2 da (ob t.data).length 1 (ints .u8 (ob t.data)) := (d.ext x1).ext x2
      have d3 := d2.fr (av_es d2 ti2 (by omega)) ((Frm.refl (fun j => j = i) h2 n2).put (b := some ⟨[.int .i64 t.code, .bool t.done, .int .i64 t.size, .slice da (ob t.data).length dc, .slice a2 t.names.length c2], 5, true⟩) (.inl rfl) (Nat.le_refl _))
      have u3 := k3.fr (av_es k3 ti2 (by omega)) ((Frm.refl (fun j => j = i) h2 n2).put (b := some ⟨[.int .i64 t.code, .bool t.done, .int .i64 t.size, .slice da (ob t.data).length dc, .slice a2 t.names.length c2], 5, true⟩) (.inl rfl) (Nat.le_refl _))
      refine ⟨_, _, _, rfl, ⟨by omega, fun j hj => (put_ne (by omega)).trans ((put_ne (by omega)).trans ((x2.2 j (by omega)).trans (x1.2 j (by omega))))⟩, ?_⟩
      refine ⟨_, _, rfl, ⟨_, _, rfl, ?_, da'⟩, ⟨_, _, rfl, ?_, fun hn p e q => k4 hn p e (by unfold Old at q ⊢; omega)⟩⟩
      · exact d3.fr (av_es d3 hr3 (by omega)) ((Frm.refl (fun j => j = nx0) _ n2).put (.inl rfl) (by omega))
      · exact u3.fr (av_es u3 hr3 (by omega)) ((Frm.refl (fun j => j = nx0) _ n2).put (.inl rfl) (by omega))
    · rw [if_neg (show ¬ some l = some s.data.toList from fun q => hs (Option.some.inj q)), if_pos (by rw [decide_eq_false (fun q => hs (by rw [← q]; exact (B_data l).symm))]; rfl), st_all (n := 5) hr1 rfl hl0 rfl, ldr_all (n := 5) (put_same _ _ _) rfl]
      simp only [mst_, mst5_]
      exact no _ (by omega)

/-- Names, behind the sign of a thing done. -/
theorem hear2 {m : Nat} (hm : 11 ≤ m) (Y : YldF) (lf : Nat) {s : ByteArray} {h : AHeap} {nx0 nx i : Nat} {code size : Int} {dn : Bool} {data : List UInt8} {ws : List (List UInt8)} {l0 : List AV} {da ea pa : Option (Nat × Nat)} {dc ec : Option Nat} {en : Nat} (pc : Option Nat) (hi : nx0 < i) (hi2 : i < nx) (hl0 : l0.length = 5) (hr : h nx0 = some ⟨l0, 5, true⟩) (ti : h i = some ⟨[.int .i64 code, .bool dn, .int .i64 size, .slice da (ob data).length dc, .slice ea en ec], 5, true⟩)
    (d : Sl h nx da (ob data).length 1 (ints .u8 (ob data))) (da' : Av (Old nx0) da (ob data).length) (p : Sl h nx pa ws.length 1 ((ws.map B).map AV.str)) (hdn : dn = true → 1 ≤ ws.length) {t : Tld} (ht : t = ⟨code, dn, size, data, (if dn = true then ws.drop 1 else ws).map B⟩) (z : t.Small m) :
    HearRes h nx0 (hearV t s) (F9_J2 (callP Tryd.prog keepT m) Y lf s (some (nx0, 0)) pa ws.length pc (some (i, 0)) h nx) := by
  rw [F9_J2_eq]
  simp only [mst_, mst5_]
  rw [ld_at ti (show _ = some (AV.bool dn) from rfl)]
  simp only [mst_, mst5_]
  have fin : ∀ (pb : Option (Nat × Nat)) (pc' : Option Nat) (ns : List ByteArray) (z' : Nat), nx ≤ z' → t = ⟨code, dn, size, data, ns⟩ → Sl h nx pb ns.length 1 (ns.map AV.str) → 
      HearRes h nx0 (hearV t s) (F9_J3 (callP Tryd.prog keepT m) Y lf s (some (nx0, 0)) (some (i, 0)) (h.put i (some ⟨[.int .i64 code, .bool dn, .int .i64 size, .slice da (ob data).length dc, .slice pb ns.length pc'], 5, true⟩)) z') := by
    intro pb pc' ns z' hz' hteq q
    subst hteq
    have f : Frm (fun j => j = i) h nx (h.put i (some ⟨[.int .i64 code, .bool dn, .int .i64 size, .slice da (ob data).length dc, .slice pb ns.length pc'], 5, true⟩)) z' := (Frm.refl _ h nx).put (.inl rfl) hz'
    have hti : (h.put i (some ⟨[.int .i64 code, .bool dn, .int .i64 size, .slice da (ob data).length dc, .slice pb ns.length pc'], 5, true⟩)) i = some ⟨rowT ⟨code, dn, size, data, ns⟩ da pb dc pc', 5, true⟩ := put_same _ _ _
    obtain ⟨row, h', nx', g1, g2, g3⟩ := hear3 (t := ⟨code, dn, size, data, ns⟩) (s := s) hm Y lf hi (by omega) hl0 ((put_ne (by omega)).trans hr) hti (d.fr (av_es d ti (by omega)) f) da' (q.fr (av_es q ti (by omega)) f) z
    exact ⟨row, h', nx', g1, ⟨by have := g2.1; omega, fun j hj => (g2.2 j hj).trans (put_ne (by omega))⟩, g3⟩
  cases dn
  · rw [if_neg (show ¬ (false = true) by simp), st_set ti rfl (by simp) rfl]
    simp only [List.set_cons_succ, List.set_cons_zero]
    have e : ws.length = (ws.map B).length := by simp
    rw [e] at p ⊢
    exact fin pa pc (ws.map B) _ (by omega) (by rw [ht]; simp) p
  · have hw := hdn rfl
    obtain ⟨c1, c2, c3⟩ := p.cut pc (lo := 1) (hi := ws.length) hw (Nat.le_refl _) (l := some (.int .i64 1)) (r := none) (bound_some (i := 1) (by omega)) bound_none
    rw [if_pos (show true = true from rfl), c1]
    simp only [mst_, mst5_]
    rw [st_set ti rfl (by simp) rfl]
    simp only [List.set_cons_succ, List.set_cons_zero]
    have e : ws.length - 1 = ((ws.drop 1).map B).length := by simp
    have e2 : (((ws.map B).map AV.str).drop (1 * 1)).take ((ws.length - 1) * 1) = ((ws.drop 1).map B).map AV.str := by
      rw [List.take_of_length_le (by simp), List.map_drop, List.map_drop]
    rw [e2, e] at c2
    rw [e]
    exact fin _ _ ((ws.drop 1).map B) _ (by omega) (by rw [ht]; simp) c2
end Go.Proofs.YtahilinkfnchaaaDoor.T
