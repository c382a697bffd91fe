/- A part of the abstract machine and its simulation. -/
import Derived.Test.YtbalikooghpmlaaDoorAmOps9
set_option linter.unusedVariables false
set_option linter.unusedSimpArgs false
namespace Go.AM
open Go Go.RowKit
section
variable {GL : List (Nat × List PV)} {B0 : Nat} {w0 : World} {g : G} {env : Env} {σ : List AObj} {s : S} {tm : Array Value} {w : World} {ty : List TI} {P : Program} {H : FuncId → FH} {C : CallF} {h : FH} {base : Nat}
theorem Inv.drew (hI : Inv GL B0 w0 g env σ tm w) : Inv GL B0 w0 g env σ tm w.drew := by
 have hk : KeepPl g g w w.drew (fun _ => True) := fun b pl hb _ => ⟨hb, rfl, fun _ h => h, rfl⟩
 exact ⟨hI.below.drew, hI.base, hI.fz, hI.tlt, hI.own, hI.env, fun id o ho => (hI.objs id o ho).keep (Gle.refl g) hk trivial (fun _ => trivial) (fun _ _ => trivial) (fun e he _ => he), hI.len, hI.glob, hI.mlt⟩
theorem Post.drew (g : G) (w : World) : Post g w g w.drew := ⟨Nat.le_refl _, Gle.refl _, fun b _ h => ⟨rfl, h, rfl, fun _ => rfl⟩, fun _ r h => ⟨r, h⟩⟩
theorem read_rows {b o sz : Nat} {rows : List (List AV)} (hc : ∀ (i : Nat) r, rows[i]? = some r → r.length = sz ∧ ∀ (j : Nat) c, r[j]? = some c → ∃ u, w.cell? ⟨b, o + (i * sz + j), none⟩ = some u ∧ one u = true ∧ RelA g (fun _ => False) c u) :
 ∃ news : List Value, news.length = rows.length * sz ∧ (∀ (k : Nat) v, news[k]? = some v → w.cell? ⟨b, o + k, none⟩ = some v ∧ one v = true) ∧ RowsAt g sz rows news.toArray := by
 have key : ∀ k, k < rows.length * sz → ∃ u, w.cell? ⟨b, o + k, none⟩ = some u ∧ one u = true := by
  intro k hk
  have hsz : 0 < sz := by
   rcases Nat.eq_zero_or_pos sz with h | h
   ·subst h; simp at hk
   ·exact h
  have hi : k / sz < rows.length := Nat.div_lt_of_lt_mul (by rwa [Nat.mul_comm])
  obtain ⟨h1, h2⟩ := hc (k / sz) _ (List.getElem?_eq_getElem hi)
  have hj : k % sz < (rows[k / sz]).length := by rw [h1]; exact Nat.mod_lt _ hsz
  obtain ⟨u, hu, o1, _⟩ := h2 (k % sz) _ (List.getElem?_eq_getElem hj)
  refine ⟨u, ?_, o1⟩
  rwa [show k / sz * sz + k % sz = k by rw [Nat.mul_comm]; exact Nat.div_add_mod k sz] at hu
 refine ⟨(List.range (rows.length * sz)).map fun k => (w.cell? ⟨b, o + k, none⟩).getD Go.undef, by simp, fun k v hk => ?_, by simp, fun i r hi => ?_⟩
 ·rw [List.getElem?_map] at hk
  obtain ⟨k', hk', rfl⟩ := Option.map_eq_some_iff.1 hk
  have hkl := (List.getElem?_eq_some_iff.1 hk').1
  simp only [List.length_range] at hkl
  rw [List.getElem?_range hkl] at hk'
  injection hk' with hk'; subst hk'
  obtain ⟨u, hu, o1⟩ := key k hkl
  rw [hu]; exact ⟨rfl, o1⟩
 ·obtain ⟨h1, h2⟩ := hc i r hi
  refine ⟨h1, fun j c hj => ?_⟩
  obtain ⟨u, hu, o1, rr⟩ := h2 j c hj
  have hlt : i * sz + j < rows.length * sz := row_lt (List.getElem?_eq_some_iff.1 hi).1 (by rw [← h1]; exact (List.getElem?_eq_some_iff.1 hj).1)
  refine ⟨u, ?_, o1, rr⟩
  rw [List.getElem?_toArray, List.getElem?_map, List.getElem?_range hlt]
  simp [hu]
theorem copyR_get : ∀ {rs : List (List AV)} {i : Nat} {r : List AV}, (copyR rs)[i]? = some r → ∃ r', rs[i]? = some r' ∧ r = r'.map copyV
 | [], i, r, h => by simp [copyR] at h
 | x :: rs, i, r, h => by
  cases i with
  | zero => simp [copyR, copyL_eq] at h; exact ⟨x, by simp, h.symm⟩
  | succ i => simp [copyR] at h; simpa using copyR_get h
theorem copyR_len : ∀ rs : List (List AV), (copyR rs).length = rs.length
 | [] => rfl
 | x :: rs => by simp [copyR, copyR_len rs]
structure Src (P : Program) (g : G) (w : World) (size : Nat) (rows : List (List AV)) (V : Value) (news : List Value) : Prop where
 len : ∀ w', (Builtin.lenOf V).run P w' = .ok rows.length w'
 first : ∀ w' : World, w'.heap = w.heap → (Builtin.firstCells size rows.length V).run P w' = .ok news.toArray w'
 one : ∀ u ∈ news, one u = true
 sz : news.length = rows.length * size
 at_ : RowsAt g size rows news.toArray
theorem rows_nil {V : Value} {size : Nat} {sl : Option Addr} {n cap : Nat} (hV : V = .slice sl n cap) (hn : n = 0) : Src P g w size [] V [] := by
 subst hV hn
 refine ⟨fun w' => by simp [Builtin.lenOf], fun w' _ => ?_, fun u hu => by simp at hu, by simp, by simp, fun i r hi => by simp at hi⟩
 cases sl with
 | none => simp [Builtin.firstCells]
 | some a =>
  have := run_firstCells_some (P := P) w' size 0 a 0 cap [] (by simp) (fun j v h => by simp at h)
  simpa using this
theorem rows_mem {V : Value} {size : Nat} {ad : Addr} {cap : Nat} {rows : List (List AV)} (hV : V = .slice (some ad) rows.length cap) (hs0 : 0 < rows.length → ad.spot = none)
 (hc : ∀ (i : Nat) r, rows[i]? = some r → r.length = size ∧ ∀ (j : Nat) c, r[j]? = some c → ∃ u, w.cell? ⟨ad.block, ad.off + (i * size + j), none⟩ = some u ∧ one u = true ∧ RelA g (fun _ => False) c u) :
 ∃ news, Src P g w size rows V news := by
 rcases Nat.eq_zero_or_pos rows.length with h0 | h0
 ·have : rows = [] := List.length_eq_zero_iff.1 h0
  subst this
  exact ⟨[], rows_nil hV rfl⟩
 have hs := hs0 h0
 obtain ⟨news, hl, hn, hR⟩ := read_rows hc
 subst hV
 refine ⟨news, fun w' => by simp [Builtin.lenOf], fun w' hw => ?_, fun u hu => ?_, hl, hR⟩
 ·refine run_firstCells_some (P := P) w' size rows.length ad rows.length cap news hl (fun j v hj => ?_)
  rw [addr_add' hs]
  have : w'.cell? ⟨ad.block, ad.off + j, none⟩ = w.cell? ⟨ad.block, ad.off + j, none⟩ := World.cell?_of_block (by rw [hw])
  rw [this]; exact (hn j v hj).1
 ·obtain ⟨k, hk, rfl⟩ := List.mem_iff_getElem.1 hu
  exact (hn k _ (List.getElem?_eq_getElem hk)).2
theorem rowsPR {sz b o : Nat} {rows : List (List PV)} (hI : Inv GL B0 w0 g env σ tm w) (hr : RelPR g.Φ sz rows b o) (i : Nat) (r : List AV) (hi : (rows.map (·.map AV.p))[i]? = some r) :
 r.length = sz ∧ ∀ (j : Nat) c, r[j]? = some c → ∃ u, w.cell? ⟨b, o + (i * sz + j), none⟩ = some u ∧ one u = true ∧ RelA g (fun _ => False) c u := by
 rw [List.getElem?_map] at hi
 obtain ⟨r', hr', rfl⟩ := Option.map_eq_some_iff.1 hi
 obtain ⟨h1, h2⟩ := hr.get i r' hr'
 refine ⟨by simpa using h1, fun j c hj => ?_⟩
 rw [List.getElem?_map] at hj
 obtain ⟨c', hc', rfl⟩ := Option.map_eq_some_iff.1 hj
 obtain ⟨u, hu, o1, rr⟩ := h2.get j c' hc'
 exact ⟨u, by rw [← Nat.add_assoc]; exact hI.fz _ _ _ hu, o1, RelA.of_p rr⟩
theorem rowsAR {sz b o : Nat} {rows : List (List AV)} (hI : Inv GL B0 w0 g env σ tm w) (hr : RelAR g sz rows b o) (i : Nat) (r : List AV) (hi : rows[i]? = some r) :
 r.length = sz ∧ ∀ (j : Nat) c, r[j]? = some c → ∃ u, w.cell? ⟨b, o + (i * sz + j), none⟩ = some u ∧ one u = true ∧ RelA g (fun _ => False) c u := by
 obtain ⟨h1, h2⟩ := hr.get i r hi
 refine ⟨h1, fun j c hj => ?_⟩
 obtain ⟨u, hu, o1, rr⟩ := h2.get j c hj
 exact ⟨u, by rw [← Nat.add_assoc]; exact hI.fz _ _ _ hu, o1, rr⟩
theorem Src.nil_size {V : Value} {sz size : Nat} {rows : List (List AV)} {news : List Value} (h : Src P g w sz rows V news) (he : rows.isEmpty = true) (hV : ∃ a n c, V = .slice a n c) : ∃ news, Src P g w size rows V news := by
 have : rows = [] := List.isEmpty_iff.1 he
 subst this
 obtain ⟨a, n, c, rfl⟩ := hV
 have := h.len w
 simp [Builtin.lenOf] at this
 exact ⟨[], rows_nil rfl this⟩
theorem src_of (hI : Inv GL B0 w0 g env σ tm w) {v : AV} {V : Value} (hv : RelA g (fun _ => False) v V) {sz size : Nat} {rows : List (List AV)} (hr : rowsOf σ v = some (sz, rows)) (hs : (rows.isEmpty || sz == size) = true) :
 ∃ news, Src P g w size rows V news := by
 simp only [Bool.or_eq_true, beq_iff_eq] at hs
 have slice : ∀ {ad : Addr} {cap : Nat}, V = .slice (some ad) rows.length cap → (0 < rows.length → ad.spot = none) → (∀ (i : Nat) r, rows[i]? = some r → r.length = sz ∧ ∀ (j : Nat) c, r[j]? = some c → ∃ u, w.cell? ⟨ad.block, ad.off + (i * sz + j), none⟩ = some u ∧ one u = true ∧ RelA g (fun _ => False) c u) →
  ∃ news, Src P g w size rows V news := by
  intro ad cap hV has hc
  obtain ⟨news, hn⟩ := rows_mem (P := P) hV has hc
  rcases hs with h | h
  ·exact hn.nil_size h ⟨_, _, _, hV⟩
  ·subst h; exact ⟨news, hn⟩
 unfold rowsOf at hr
 split at hr
 ·rename_i b
  injection hr with hr; injection hr with h1 h2; subst h1; subst h2
  unfold RelA RelP at hv
  obtain ⟨rfl, _⟩ := hv
  have hlen : ((byteRows b).map (·.map AV.p)).length = b.size := by simp [byteRows]
  refine ⟨b.data.toList.map fun u => Value.int .u8 u.toNat, fun w' => by rw [hlen]; simp [Builtin.lenOf], fun w' _ => ?_, fun u hu => ?_, ?_, ?_⟩
  ·rw [hlen]
   have he : b.extract 0 b.size = b := by
    apply ByteArray.ext
    rw [ByteArray.data_extract]
    exact Array.extract_size
   simp only [Builtin.firstCells, he, Sem.run_pure]
   congr 1
   apply Array.ext'
   simp
  ·obtain ⟨a, _, rfl⟩ := List.mem_map.1 hu; rfl
  ·rcases hs with h | h
   ·have : b.data.toList = [] := by simpa [byteRows] using h
    simp [byteRows, this]
   ·subst h; simp [byteRows]
  ·rcases hs with h | h
   ·have : b.data.toList = [] := by simpa [byteRows] using h
    simp [byteRows, this]
    exact ⟨by simp, fun i r hi => by simp at hi⟩
   ·subst h
    refine ⟨by simp [byteRows], fun i r hi => ?_⟩
    simp only [byteRows, List.map_map, List.getElem?_map] at hi
    obtain ⟨u, hu, rfl⟩ := Option.map_eq_some_iff.1 hi
    refine ⟨rfl, fun j c hj => ?_⟩
    cases j with
    | zero =>
     simp at hj; subst hj
     refine ⟨.int .u8 u.toNat, ?_, rfl, RelA.lit rfl⟩
     simp only [Nat.mul_one, Nat.add_zero, List.getElem?_toArray, List.getElem?_map]
     rw [hu]; rfl
    | succ j => simp at hj
 ·rename_i nl sz' ps
  injection hr with hr; injection hr with h1 h2; subst h1; subst h2
  unfold RelA RelP at hv
  obtain ⟨a, cap, e, hl, hn, _, hsl⟩ := hv
  ·rcases hsl with ⟨rfl, rfl⟩ | ⟨ad, rfl, es, k⟩
   ·have : ps = [] := by
     cases ps with
     | nil => rfl
     | cons x xs => simp at hl
    subst this
    exact ⟨[], rows_nil e rfl⟩
   ·exact slice (by simpa using e) (fun h0 => es (by simp at h0; omega)) (rowsPR hI k)
 ·rename_i sz' ps
  injection hr with hr; injection hr with h1 h2; subst h1; subst h2
  unfold RelA at hv
  rcases hv with ⟨rfl, rfl⟩ | ⟨ad, cap, e, hl, es, k, _⟩
  ·exact ⟨[], rows_nil rfl rfl⟩
  exact slice (by simpa using e) (fun h0 => es (by simp at h0; omega)) (rowsPR hI k)
 ·rename_i ow sz' rs
  injection hr with hr; injection hr with h1 h2; subst h1; subst h2
  unfold RelA at hv
  rcases hv with ⟨rfl, rfl⟩ | ⟨ad, cap, e, hl, es, k, _⟩
  ·exact ⟨[], rows_nil rfl rfl⟩
  exact slice e (fun h0 => es (by omega)) (rowsAR hI k)
 ·rename_i id gn z off len
  split at hr
  ·rename_i gn' sz' rs h0
   split at hr
   ·rename_i hc
    simp only [Bool.and_eq_true, beq_iff_eq, decide_eq_true_eq] at hc
    obtain ⟨rfl, hfit⟩ := hc
    injection hr with hr; injection hr with h1 h2; subst h1; subst h2
    unfold RelA at hv
    obtain ⟨e, he, ha, hg, hez, ad, cap, eV, hl, hx, hsp⟩ := hv
    obtain ⟨e', he', _, hgen, hsz, ht, hf, C, hC, hCs, hlr, hrl, hj⟩ := hI.objs id _ h0
    rw [he] at he'; injection he' with he'; subst he'
    have hlen : (copyR ((rs.drop off).take len)).length = len := by rw [copyR_len]; simp; omega
    rcases Nat.eq_zero_or_pos len with hz | hp
    ·have : (rs.drop off).take len = [] := by subst hz; simp
     rw [this]
     exact ⟨[], rows_nil eV hz⟩
    ·obtain ⟨had, _⟩ := hx hgen.symm (by omega)
     subst had
     refine slice (by rw [hlen]; exact eV) (fun _ => rfl) (fun i r hi => ?_)
     obtain ⟨r', hr', rfl⟩ := copyR_get hi
     rw [List.getElem?_take] at hr'
     split at hr'
     ·rw [List.getElem?_drop] at hr'
      have hrl' := hrl r' (List.mem_of_getElem? hr')
      refine ⟨by simpa using hrl', fun j c hc => ?_⟩
      rw [List.getElem?_map] at hc
      obtain ⟨c', hc', rfl⟩ := Option.map_eq_some_iff.1 hc
      obtain ⟨u, hu, o1, rr⟩ := hj _ r' j c' hr' hc'
      refine ⟨u, ?_, o1, copyV_rel rr⟩
      rw [hC.cell]
      rw [← hu, hsz, Nat.add_mul]
      show C[off * sz' + (i * sz' + j)]? = _
      rw [Nat.add_assoc]
     ·cases hr'
   ·cases hr
  ·cases hr
 ·cases hr
structure AppTy (P : Program) (t t' e : TypeId) (i : TypeInfo) (z : Value) : Prop where
 ut : P.underlying t = some (.slice e)
 ux : (∃ e', P.underlying t' = some (.slice e')) ∨ P.underlying t' = some .string
 inf : P.info? e = some i
 zro : i.zero = some z
theorem app_room {t t' e ty' : TypeId} {i : TypeInfo} {z : Value} (hA : AppTy P t t' e i z) {a : Addr} {n cap m : Nat} {X : Value} {news : Array Value} {w' : World} (hl : (Builtin.lenOf X).run P w = .ok m w) (hx : (Builtin.firstCells i.size m X).run P w = .ok news w)
 (hroom : n + m ≤ cap) (hst : (storeCells (a.add (n * i.size)) news.toList).run P w = .ok () w') :
 (Builtin.append_ #[t, t'] ty' #[.slice (some a) n cap, X]).run P w = .ok (.slice (some a) (n + m) cap) w' := by
 rcases hA.ux with ⟨e', hu⟩ | hu
 all_goals simp [Builtin.append_, run_underlying hA.ut, run_underlying hu, sizeOf, typeInfo, hA.inf, hl, hroom, hx, hst]
theorem app_none {t t' e ty' : TypeId} {i : TypeInfo} {z : Value} (hA : AppTy P t t' e i z) {X : Value} {news : Array Value} (hl : (Builtin.lenOf X).run P w = .ok 0 w) (hx : (Builtin.firstCells i.size 0 X).run P w = .ok news w) :
 (Builtin.append_ #[t, t'] ty' #[.slice none 0 0, X]).run P w = .ok (.slice none 0 0) w := by
 rcases hA.ux with ⟨e', hu⟩ | hu
 all_goals simp [Builtin.append_, run_underlying hA.ut, run_underlying hu, sizeOf, typeInfo, hA.inf, hl, hx]
theorem app_grow {t t' e ty' : TypeId} {i : TypeInfo} {z : Value} (hA : AppTy P t t' e i z) {b : Option Addr} {n cap m : Nat} {X : Value} {olds news : Array Value} (hl : (Builtin.lenOf X).run P w = .ok m w) (hx : (Builtin.firstCells i.size m X).run P w.drew = .ok news w.drew)
 (ho : (Builtin.firstCells i.size n (.slice b n cap)).run P w.drew = .ok olds w.drew) (hg : cap < n + m) (hb : 0 < i.bytes ∧ (n + m) * i.bytes ≤ 70368744177664) :
 (Builtin.append_ #[t, t'] ty' #[.slice b n cap, X]).run P w = .ok (.slice (some ⟨w.heap.size, 0, none⟩) (n + m) (grownCap w (n + m) cap e))
  (w.drew.alloc (.cells (olds ++ news ++ Builtin.zeroCells z.cells (grownCap w (n + m) cap e - (n + m))) e)) := by
 have hn : ¬ (n + m ≤ cap) := by omega
 have hm : (n + m) * 1 ≤ (n + m) * i.bytes := Nat.mul_le_mul_left _ hb.1
 have h63' : ¬ (9223372036854775807 < ((n : Int) + (m : Int))) := by omega
 have hfit := growslice_fits (bytes := i.bytes) (show cap < n + m by omega) (by omega)
 have h48' : ¬ (281474976710656 < Builtin.nextslicecap (n + m) cap * i.bytes) := by omega
 rcases hA.ux with ⟨e', hu⟩ | hu
 all_goals simp [Builtin.append_, run_underlying hA.ut, run_underlying hu, sizeOf, typeInfo, zeroValue, hA.inf, hA.zro, hl, hn, h63', h48', Question.forced, hx, ho, newRow, grownCap]
end
end Go.AM
