/- A part of the abstract machine and its simulation. -/
import Derived.Test.YtbalikooghpmlaaDoorAmOps12
set_option linter.unusedVariables false
set_option linter.unusedSimpArgs false
namespace Go.AM
open Go Go.RowKit
section
variable {GL : List (Nat × List PV)} {B0 : Nat} {w0 : World} {g : G} {env : Env} {σ : List AObj} {s : S} {tm : Array Value} {w : World} {ty : List TI} {P : Program} {H : FuncId → FH} {C : CallF} {h : FH} {base : Nat}
theorem prows_rows {σ : List AObj} {v : AV} {sz : Nat} {ys : List (List PV)} (hi : ∀ id gn z off len, v ≠ .ms id gn z off len) (h : prowsOf σ v = some (sz, ys)) : rowsOf σ v = some (sz, ys.map (·.map AV.p)) := by
 cases v with
 | p pv =>
  cases pv with
  | lit l => cases l <;> first | (simp only [prowsOf] at h; simp only [rowsOf]; injection h with h; injection h with h1 h2; subst h1; subst h2; rfl) | cases h
  | sl nl z rows => simp only [prowsOf] at h; simp only [rowsOf]; injection h with h; injection h with h1 h2; subst h1; subst h2; rfl
  | _ => cases h
 | own z rows => simp only [prowsOf] at h; simp only [rowsOf]; injection h with h; injection h with h1 h2; subst h1; subst h2; rfl
 | ms id gn z off len => exact absurd rfl (hi id gn z off len)
 | _ => cases h
theorem prows_rows' {σ : List AObj} {v : AV} {sz : Nat} {ys : List (List PV)} (h : prowsOf σ v = some (sz, ys)) : rowsOf σ v = some (sz, ys.map (·.map AV.p)) := by
 cases v with
 | ms id gn z off len =>
  simp only [prowsOf] at h
  simp only [rowsOf]
  split at h
  ·rename_i gn' sz' rows h0
   split at h
   ·rename_i hc
    split at h
    ·rename_i l hl
     injection h with h; injection h with h1 h2; subst h1; subst h2
     rw [if_pos hc]
     have : ∀ (rs : List (List AV)) (ls : List (List PV)), allRows rs = some ls → copyR rs = ls.map (·.map AV.p) := by
      intro rs
      induction rs with
      | nil => intro ls h; simp [allRows] at h; subst h; rfl
      | cons r rs ih =>
       intro ls h
       simp only [allRows] at h
       split at h
       ·rename_i l' ls' h1 h2
        injection h with h; subst h
        have e1 : copyL r = l'.map AV.p := by
         rw [allPure_copy h1]
         clear ih h2
         induction r generalizing l' with
         | nil => simp [allPure] at h1; subst h1; rfl
         | cons c r ih =>
          cases c with
          | p v =>
           simp only [allPure] at h1
           split at h1
           ·rename_i l hl; injection h1 with h1; subst h1; rw [ih _ hl]; rfl
           ·cases h1
          | _ => simp [allPure] at h1
        simp [copyR, e1, ih _ h2]
       ·cases h
     rw [this _ _ hl]
    ·cases h
   ·cases h
  ·cases h
 | _ => exact prows_rows (fun _ _ _ _ _ e => by cases e) h
theorem size_zeroCells' (z : Array Value) (n : Nat) : (Builtin.zeroCells z n).size = n * z.size := by simp [Builtin.zeroCells]
theorem app_new {d sz need cap : Nat} {env : Env} {σ : List AObj} {rows : List (List AV)} {A : Array Value} {z : Array Value} (hI : Inv GL B0 w0 g env σ tm w) (hR : RowsAt g sz rows A) (hA : A.size = need * sz) (hn : rows.length = need) (hz : z.size = sz) (hd : d < tm.size) (e : TypeId) :
 ∃ g', Inv GL B0 w0 g' ((d, .asl true sz rows) :: env) σ (putT tm (some d) (.slice (some ⟨w.heap.size, 0, none⟩) need (grownCap w need cap e))) (w.drew.alloc (.cells (A ++ Builtin.zeroCells z (grownCap w need cap e - need)) e)) ∧
  Post g w g' (w.drew.alloc (.cells (A ++ Builtin.zeroCells z (grownCap w need cap e - need)) e)) := by
 have hge := grownCap_ge w need cap e
 have hR' : RowsAt g sz rows (A ++ Builtin.zeroCells z (grownCap w need cap e - need)) := by
  refine ⟨by have := hR.1; rw [Array.size_append]; omega, fun i r hi => ?_⟩
  obtain ⟨h1, h2⟩ := hR.2 i r hi
  refine ⟨h1, fun j c hj => ?_⟩
  obtain ⟨u, hu, o1, rr⟩ := h2 j c hj
  exact ⟨u, by rw [Array.getElem?_append_left (Array.getElem?_eq_some_iff.1 hu).1]; exact hu, o1, rr⟩
 obtain ⟨g', hI', hP⟩ := Inv.new_own (s := ⟨env, σ, [], none, false⟩) hI.drew hR' (cap := grownCap w need cap e) (by omega) (by
  rw [Array.size_append, hA, size_zeroCells', hz, ← Nat.add_mul, show need + (grownCap w need cap e - need) = grownCap w need cap e by omega]; exact Nat.le_refl _) hd e
 rw [hn] at hI'
 exact ⟨g', hI', (Post.drew g w).trans hP⟩
theorem app_newMs {d sz need cap : Nat} {env : Env} {σ : List AObj} {rows : List (List AV)} {A : Array Value} {z : Array Value} (hI : Inv GL B0 w0 g env σ tm w) (hR : RowsAt g sz rows A) (hA : A.size = need * sz) (hn : rows.length = need) (hz : z.size = sz) (hd : d < tm.size) (e : TypeId) :
 ∃ g', Inv GL B0 w0 g' ((d, .ms σ.length 0 sz 0 rows.length) :: env) (σ ++ [.arr 0 sz rows]) (putT tm (some d) (.slice (some ⟨w.heap.size, 0, none⟩) need (grownCap w need cap e))) (w.drew.alloc (.cells (A ++ Builtin.zeroCells z (grownCap w need cap e - need)) e)) ∧
  Post g w g' (w.drew.alloc (.cells (A ++ Builtin.zeroCells z (grownCap w need cap e - need)) e)) := by
 have hge := grownCap_ge w need cap e
 have hR' : RowsAt g sz rows (A ++ Builtin.zeroCells z (grownCap w need cap e - need)) := by
  refine ⟨by have := hR.1; rw [Array.size_append]; omega, fun i r hi => ?_⟩
  obtain ⟨h1, h2⟩ := hR.2 i r hi
  refine ⟨h1, fun j c hj => ?_⟩
  obtain ⟨u, hu, o1, rr⟩ := h2 j c hj
  exact ⟨u, by rw [Array.getElem?_append_left (Array.getElem?_eq_some_iff.1 hu).1]; exact hu, o1, rr⟩
 obtain ⟨g', hI', hP⟩ := Inv.new_ms (s := ⟨env, σ, [], none, false⟩) hI.drew hR' (cap := grownCap w need cap e) (by omega) (by
  rw [Array.size_append, hA, size_zeroCells', hz, ← Nat.add_mul, show need + (grownCap w need cap e - need) = grownCap w need cap e by omega]; exact Nat.le_refl _) hd e
 have e1 : Value.slice (some ⟨w.drew.heap.size, 0, none⟩) rows.length (grownCap w need cap e) = .slice (some ⟨w.heap.size, 0, none⟩) need (grownCap w need cap e) := by rw [hn]; rfl
 rw [e1] at hI'
 exact ⟨g', hI', (Post.drew g w).trans hP⟩
theorem Inv.rename {d : Nat} {v v' : AV} {env : Env} {σ : List AObj} {g' : G} {tm' : Array Value} {w' : World} (h : Inv GL B0 w0 g' ((d, v) :: env) σ tm' w')
 (hv : ∀ V, RelS g' d v V → RelS g' d v' V) : Inv GL B0 w0 g' ((d, v') :: env) σ tm' w' := by
 refine ⟨h.below, h.base, h.fz, h.tlt, h.own, fun t => ?_, h.objs, h.len, h.glob, h.mlt⟩
 have := h.env t
 simp only [get] at this ⊢
 split
 ·rename_i e
  rw [if_pos e] at this
  have e' : d = t := by simpa using e
  subst e'; exact hv _ this
 ·rename_i e
  rw [if_neg e] at this
  exact this
theorem app_nil {t t' e ty' : TypeId} {i : TypeInfo} {z : Value} (hA : AppTy P t t' e i z) (hzs : z.cells.size = i.size) {d : Nat} (hd : d < tm.size) {X : Value} {ys : List (List AV)} {news : List Value} (hI : Inv GL B0 w0 g env σ tm w) (hn : Src P g w i.size ys X news) (hb : 0 < i.bytes ∧ ys.length * i.bytes ≤ 70368744177664) (hpos : 0 < ys.length) :
 ∃ V g' w', (Builtin.append_ #[t, t'] ty' #[.slice none 0 0, X]).run P w = .ok V w' ∧ Inv GL B0 w0 g' ((d, .asl true i.size ys) :: env) σ (putT tm (some d) V) w' ∧ Post g w g' w' := by
 have hg := app_grow (n := 0) (cap := 0) (b := none) (ty' := ty') (olds := #[]) hA (hn.len w) (hn.first w.drew rfl) (run_firstCells_none _ _ _ _ _) (by omega) (by simpa using hb)
 obtain ⟨g', hI', hP⟩ := app_new (rows := ys) (cap := 0) (A := #[] ++ news.toArray) (need := 0 + ys.length) hI (by simpa using hn.at_) (by simpa using hn.sz) (by simp) hzs hd e
 exact ⟨_, g', _, hg, hI', hP⟩
theorem app_nilMs {t t' e ty' : TypeId} {i : TypeInfo} {z : Value} (hA : AppTy P t t' e i z) (hzs : z.cells.size = i.size) {d : Nat} (hd : d < tm.size) {X : Value} {ys : List (List AV)} {news : List Value} (hI : Inv GL B0 w0 g env σ tm w) (hn : Src P g w i.size ys X news) (hb : 0 < i.bytes ∧ ys.length * i.bytes ≤ 70368744177664) (hpos : 0 < ys.length) :
 ∃ V g' w', (Builtin.append_ #[t, t'] ty' #[.slice none 0 0, X]).run P w = .ok V w' ∧ Inv GL B0 w0 g' ((d, .ms σ.length 0 i.size 0 ys.length) :: env) (σ ++ [.arr 0 i.size ys]) (putT tm (some d) V) w' ∧ Post g w g' w' := by
 have hg := app_grow (n := 0) (cap := 0) (b := none) (ty' := ty') (olds := #[]) hA (hn.len w) (hn.first w.drew rfl) (run_firstCells_none _ _ _ _ _) (by omega) (by simpa using hb)
 obtain ⟨g', hI', hP⟩ := app_newMs (rows := ys) (cap := 0) (A := #[] ++ news.toArray) (need := 0 + ys.length) hI (by simpa using hn.at_) (by simpa using hn.sz) (by simp) hzs hd e
 exact ⟨_, g', _, hg, hI', hP⟩
theorem app_own {t t' e ty' : TypeId} {i : TypeInfo} {z : Value} (hA : AppTy P t t' e i z) (hzs : z.cells.size = i.size) {x d : Nat} (hd : d < tm.size) {X : Value} {rows ys : List (List AV)} {news : List Value} (hI : Inv GL B0 w0 g env σ tm w) (hn : Src P g w i.size ys X news)
 (hb : 0 < i.bytes ∧ (rows.length + ys.length) * i.bytes ≤ 70368744177664) {v : AV} (hv : get env x = v) (hvv : v = .asl true i.size rows ∨ ∃ ps, v = .own i.size ps ∧ rows = ps.map (·.map AV.p)) {V0 : Value} (hV0 : tm.getD x Go.undef = V0) :
 ∃ V g' w', (Builtin.append_ #[t, t'] ty' #[V0, X]).run P w = .ok V w' ∧ Inv GL B0 w0 g' ((d, .asl true i.size (rows ++ ys)) :: strip env (.tmp x)) σ (putT tm (some d) V) w' ∧ Post g w g' w' := by
 have hov : owns v = true := by rcases hvv with rfl | ⟨ps, rfl, _⟩ <;> rfl
 have hren : ∀ (g : G) (d : Nat) V, RelS g d v V → RelS g d (.asl true i.size rows) V := by
  intro g d V h
  rcases hvv with rfl | ⟨ps, rfl, rfl⟩
  ·exact h
  ·exact own_asl h
 have hx : RelA g (fun b => g.tag b = some (.slot x)) (.asl true i.size rows) V0 := by
  have := hI.env x
  rw [hv, hV0] at this
  exact hren g x _ this
 have hx0 := hx
 unfold RelA at hx
 rcases hx with ⟨rfl, hrn⟩ | ⟨ad, cap, rfl, hl, es, hk0, ho⟩
 ·rcases Nat.eq_zero_or_pos ys.length with hz | hpos
  ·have hys : ys = [] := List.length_eq_zero_iff.1 hz
   subst hys
   have hr := app_none (ty' := ty') (w := w) hA (hn.len w) (hn.first w rfl)
   have hm := hI.move (x := x) (d := d) hd
   rw [hV0, hv] at hm
   refine ⟨_, _, _, hr, ?_, Post.retag g w (rt x d)⟩
   rw [List.append_nil]
   exact hm.rename (fun V hVV => hren _ _ V hVV)
  ·obtain ⟨V, g', w', h1, h2, h3⟩ := app_nil (ty' := ty') hA hzs hd (hI.stripped (.tmp x)) hn (by subst hrn; simpa using hb) hpos
   exact ⟨V, g', w', h1, by rw [hrn]; exact h2, h3⟩
 rcases Nat.lt_or_ge cap (rows.length + ys.length) with hlt | hge
 ·
  obtain ⟨olds, hso⟩ := rows_mem (P := P) (w := w) (size := i.size) (V := .slice (some ad) rows.length cap) rfl (fun h0 => es (by omega)) (rowsAR hI hk0)
  have hg := app_grow (n := rows.length) (cap := cap) (b := some ad) (ty' := ty') hA (hn.len w) (hn.first w.drew rfl) (hso.first w.drew rfl) hlt hb
  obtain ⟨g', hI', hP⟩ := app_new (rows := rows ++ ys) (cap := cap) (A := olds.toArray ++ news.toArray) (need := rows.length + ys.length) (hI.stripped (.tmp x)) (by
   have := hso.at_.append (by simpa using hso.sz) hn.at_ (Z := #[])
   simpa using this) (by simp [hso.sz, hn.sz, Nat.add_mul]) (by simp) hzs hd e
  exact ⟨_, g', _, hg, hI', hP⟩
 ·rcases Nat.eq_zero_or_pos ys.length with hz | hpos
  ·have hys : ys = [] := List.length_eq_zero_iff.1 hz
   subst hys
   have hnw : news = [] := by have := hn.sz; simpa using this
   subst hnw
   have hr := app_room (ty' := ty') (n := rows.length) (cap := cap) (a := ad) (w' := w) hA (hn.len w) (hn.first w rfl) (by omega) (by simp [storeCells])
   have hm := hI.move (x := x) (d := d) hd
   rw [hV0, hv] at hm
   refine ⟨_, _, _, hr, ?_, Post.retag g w (rt x d)⟩
   rw [List.append_nil]
   exact hm.rename (fun V hVV => hren _ _ V hVV)
  ·obtain ⟨b, D, el, rfl, hD, hfit, g', hI', hP⟩ := hI.push (x := x) (d := d) hx0 ⟨v, hv, hov⟩ hn hge hpos hd
   have hst := run_storeCells_at P b (rows.length * i.size) el news 0 D w hD (by simpa using hfit) (fun u hu => by have := hn.one u hu; cases u <;> first | rfl | cases this)
   simp only [Nat.add_zero] at hst
   have hr := app_room (ty' := ty') (n := rows.length) (cap := cap) (a := ⟨b, 0, none⟩) hA (hn.len w) (hn.first w rfl) hge (by rw [addr_add, Nat.zero_add]; exact hst)
   exact ⟨_, g', _, hr, hI', hP⟩
theorem app_ms {t t' e ty' : TypeId} {i : TypeInfo} {z : Value} (hA : AppTy P t t' e i z) (hzs : z.cells.size = i.size) {d : Nat} (hd : d < tm.size) {X : Value} {rows ys : List (List AV)} {news : List Value} (hI : Inv GL B0 w0 g env σ tm w) (hn : Src P g w i.size ys X news)
 {id gen len : Nat} (hb : 0 < i.bytes ∧ (len + ys.length) * i.bytes ≤ 70368744177664) (h0 : σ[id]? = some (.arr gen i.size rows)) (hlen : len ≤ rows.length) {tg : Nat → Prop} {V0 : Value} {z0 : Nat} (hx : RelA g tg (.ms id gen z0 0 len) V0) :
 ∃ V g' w', (Builtin.append_ #[t, t'] ty' #[V0, X]).run P w = .ok V w' ∧ Inv GL B0 w0 g' ((d, .ms id (gen + 1) i.size 0 (len + ys.length)) :: env) (σ.set id (.arr (gen + 1) i.size (rows.take len ++ ys))) (putT tm (some d) V) w' ∧ Post g w g' w' := by
 unfold RelA at hx
 obtain ⟨m, hm, hma, hg, hms, ad, cap, rfl, hl, hx, hsp⟩ := hx
 obtain ⟨m', hm', _, heg, hesz, ht, hf, D0, ⟨el, hD0⟩, hDs, hlr, hrl, hj⟩ := hI.objs id _ h0
 rw [hm] at hm'; injection hm' with hm'; subst hm'
 have hx := hx heg.symm
 have fin : ∀ {g' : G} {σ' : List AObj} {w' : World} {blk cp : Nat} {ad' : Addr}, Inv GL B0 w0 g' env σ' tm w' → g'.μ[id]? = some ⟨gen + 1, blk, i.size, true⟩ → len + ys.length ≤ cp → (0 < cp → ad' = ⟨blk, 0, none⟩ ∧ cp * i.size ≤ g'.bs blk) → ad'.spot = none →
  Inv GL B0 w0 g' ((d, .ms id (gen + 1) i.size 0 (len + ys.length)) :: env) σ' (putT tm (some d) (.slice (some ad') (len + ys.length) cp)) w' := by
  intro g' σ' w' blk cp ad' hI' hμ hcp hh hsp'
  refine hI'.value hd (RelS.of_A ?_)
  unfold RelA
  exact ⟨_, hμ, rfl, Nat.le_refl _, fun _ => rfl, ad', cp, rfl, hcp, fun _ hc => ⟨by rw [Nat.zero_mul]; exact (hh hc).1, by rw [Nat.zero_add]; exact (hh hc).2⟩, hsp'⟩
 rcases Nat.lt_or_ge cap (len + ys.length) with hlt | hge
 ·obtain ⟨g', hI', hP, hμ, hbs⟩ := hI.drew.regen_new (P := P) (len := len) (news := news) (X := X) h0 hm hlen ⟨hn.len, hn.first, hn.one, hn.sz, hn.at_⟩ (D := D0) ⟨el, hD0⟩ e (Builtin.zeroCells z.cells (grownCap w (len + ys.length) cap e - (len + ys.length)))
  have hll : len * i.size ≤ D0.size := Nat.le_trans (Nat.mul_le_mul_right _ hlen) hlr
  have hfo : (Builtin.firstCells i.size len (.slice (some ad) len cap)).run P w.drew = .ok (D0.toList.take (len * i.size)).toArray w.drew := by
   refine run_firstCells_some (P := P) w.drew i.size len ad len cap (D0.toList.take (len * i.size)) (by simp; omega) (fun j v hjv => ?_)
   have hjl := (List.getElem?_eq_some_iff.1 hjv).1
   have hlp : 0 < cap := by
    rcases Nat.eq_zero_or_pos len with h | h
    ·subst h; simp at hjl
    ·omega
   obtain ⟨had, _⟩ := hx hlp
   subst had
   rw [Nat.zero_mul, addr_add, Nat.zero_add]
   rw [List.getElem?_take] at hjv
   split at hjv
   ·rw [Array.getElem?_toList] at hjv
    show w.cell? _ = _
    rw [cell_of_row _ _ j D0 el (0, 0) hD0]; exact hjv
   ·cases hjv
  have hg := app_grow (n := len) (cap := cap) (b := some ad) (ty' := ty') hA (hn.len w) (hn.first w.drew rfl) hfo hlt hb
  refine ⟨_, g', _, hg, fin hI' hμ (grownCap_ge _ _ _ _) (fun _ => ⟨rfl, ?_⟩) rfl, (Post.drew g w).trans hP⟩
  have hge := grownCap_ge w (len + ys.length) cap e
  have : g'.bs w.drew.heap.size = _ := hbs
  have htk : (D0.toList.take (len * i.size)).length = len * i.size := by simp; omega
  have hsm : len * i.size + ys.length * i.size + (grownCap w (len + ys.length) cap e - (len + ys.length)) * i.size = grownCap w (len + ys.length) cap e * i.size := by
   rw [← Nat.add_mul, ← Nat.add_mul]; congr 1; omega
  rw [this, Array.size_append, Array.size_append, List.size_toArray, List.size_toArray, htk, hn.sz, size_zeroCells', hzs, hsm]
  exact Nat.le_refl _
 ·have hroom : (len + ys.length) * i.size ≤ g.bs m.blk := by
   rcases Nat.eq_zero_or_pos cap with hc | hc
   ·have : len + ys.length = 0 := by omega
    rw [this]; simp
   ·obtain ⟨_, h2⟩ := hx hc
    rw [hesz, Nat.zero_add] at h2
    exact Nat.le_trans (Nat.mul_le_mul_right _ hge) h2
  obtain ⟨D, el', hD, hfit, g', hI', hP, hμ, hbs⟩ := hI.regen_in (P := P) (len := len) h0 hm hlen hn hroom
  have hcap : 0 < cap → ad = ⟨m.blk, 0, none⟩ ∧ cap * i.size ≤ g'.bs m.blk := fun hc => by
   obtain ⟨h1, h2⟩ := hx hc
   rw [hesz] at h1 h2
   rw [Nat.zero_add] at h2
   exact ⟨by rw [h1, Nat.zero_mul], by rw [hbs]; exact h2⟩
  rcases Nat.eq_zero_or_pos ys.length with hz | hpos
  ·have hys : ys = [] := List.length_eq_zero_iff.1 hz
   subst hys
   have hnw : news = [] := by have := hn.sz; simpa using this
   subst hnw
   have hr := app_room (ty' := ty') (n := len) (cap := cap) (a := ad) (w' := w) hA (hn.len w) (hn.first w rfl) (by omega) (by simp [storeCells])
   have hself : w.setRow m.blk (D.toList.take (len * i.size) ++ [] ++ D.toList.drop (len * i.size + ([] : List Value).length)).toArray = w := by
    simp only [List.append_nil, List.length_nil, Nat.add_zero, List.take_append_drop, Array.toArray_toList]
    exact setRow_self w m.blk D el' (0, 0) hD
   rw [hself] at hI' hP
   exact ⟨_, g', _, hr, fin hI' hμ hge hcap hsp, hP⟩
  ·have hst := run_storeCells_at P m.blk (len * i.size) el' news 0 D w hD (by simpa using hfit) (fun u hu => by have := hn.one u hu; cases u <;> first | rfl | cases this)
   simp only [Nat.add_zero] at hst
   have had := (hcap (by omega)).1
   have hr := app_room (ty' := ty') (n := len) (cap := cap) (a := ad) hA (hn.len w) (hn.first w rfl) hge (by rw [had, addr_add, Nat.zero_add]; exact hst)
   exact ⟨_, g', _, hr, fin hI' hμ hge hcap hsp, hP⟩
theorem app_nms {t t' e ty' : TypeId} {i : TypeInfo} {z : Value} (hA : AppTy P t t' e i z) (hzs : z.cells.size = i.size) {d : Nat} (hd : d < tm.size) {X : Value} {ys : List (List AV)} {news : List Value} (hI : Inv GL B0 w0 g env σ tm w) (hn : Src P g w i.size ys X news) (hb : 0 < i.bytes ∧ ys.length * i.bytes ≤ 70368744177664) (hpos : 0 < ys.length) {id : Nat} (h0 : σ[id]? = some .dead) :
 ∃ V g' w', (Builtin.append_ #[t, t'] ty' #[.slice none 0 0, X]).run P w = .ok V w' ∧ Inv GL B0 w0 g' ((d, .ms id 1 i.size 0 ys.length) :: env) (σ.set id (.arr 1 i.size ys)) (putT tm (some d) V) w' ∧ Post g w g' w' := by
 have hg := app_grow (n := 0) (cap := 0) (b := none) (ty' := ty') (olds := #[]) hA (hn.len w) (hn.first w.drew rfl) (run_firstCells_none _ _ _ _ _) (by omega) (by simpa using hb)
 obtain ⟨g', hI', hP, hμ, hbs⟩ := hI.drew.undead (P := P) (X := X) h0 ⟨hn.len, hn.first, hn.one, hn.sz, hn.at_⟩ e (Builtin.zeroCells z.cells (grownCap w (0 + ys.length) 0 e - (0 + ys.length)))
 have hge := grownCap_ge w (0 + ys.length) 0 e
 refine ⟨_, g', _, hg, hI'.value hd (RelS.of_A ?_), (Post.drew g w).trans hP⟩
 unfold RelA
 refine ⟨_, hμ, rfl, Nat.le_refl _, fun _ => rfl, _, _, by rw [Nat.zero_add], by simpa using hge, fun _ _ => ⟨by rw [Nat.zero_mul]; rfl, ?_⟩, rfl⟩
 have hge2 : ys.length ≤ grownCap w ys.length 0 e := by simpa using hge
 have hb2 : g'.bs w.drew.heap.size = _ := hbs
 simp only [Nat.zero_add] at hb2 ⊢
 rw [hb2, Array.size_append, Array.size_append, size_zeroCells', hzs]
 have : ys.length * i.size + (grownCap w ys.length 0 e - ys.length) * i.size = grownCap w ys.length 0 e * i.size := by rw [← Nat.add_mul]; congr 1; omega
 simp only [List.size_toArray, List.length_nil, Nat.zero_add, hn.sz]
 omega
end
end Go.AM
