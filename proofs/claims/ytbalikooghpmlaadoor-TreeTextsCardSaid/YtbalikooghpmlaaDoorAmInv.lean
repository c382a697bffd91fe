/- A part of the abstract machine and its simulation. -/
import Derived.Test.YtbalikooghpmlaaDoorAmRel
import Derived.Below
import Derived.Laws.Append
import Derived.Laws.CopyRow
import Derived.Laws.MakeOwn
import Derived.Laws.IdiomCopy
set_option linter.unusedVariables false
set_option linter.unusedSimpArgs false
namespace Go.AM
open Go Go.RowKit
def Blk (w : World) (b : Nat) (C : Array Value) : Prop := ∃ e, w.heap[b]? = some (.cells C e (0, 0))
def stOf : Nat → LoopState
 | 0 => .ready
 | 1 => .busy
 | _ => .done
def kindK : Value → Option (Option IntKind)
 | .int k _ => some (some k)
 | .string _ => some none
 | _ => none
def RelKV (Φ : Mem) (kt : Option IntKind) : List (Value × PV) → List MapEntry → Prop
 | [], [] => True
 | (k, v) :: r, E :: es => E.key = k ∧ kindK k = some kt ∧ RelP Φ v E.val ∧ RelKV Φ kt r es
 | _, _ => False
theorem RelKV.mono {Φ Φ' : Mem} {kt : Option IntKind} (h : MemLe Φ Φ') : ∀ {kvs : List (Value × PV)} {es : List MapEntry}, RelKV Φ kt kvs es → RelKV Φ' kt kvs es
 | [], [], _ => trivial
 | (k, v) :: r, E :: es, hr => ⟨hr.1, hr.2.1, hr.2.2.1.mono h _ _, RelKV.mono h hr.2.2.2⟩
 | [], _ :: _, hr => hr.elim
 | _ :: _, [], hr => hr.elim
def RelObj (g : G) (w : World) (id : Nat) : AObj → Prop
 | .cells cs => ∃ e, g.μ[id]? = some e ∧ e.arr = false ∧ g.tag e.blk = some (.obj id) ∧ (∀ o, g.Φ e.blk o = none) ∧
  ∃ C, Blk w e.blk C ∧ C.size = cs.length ∧ ∀ (j : Nat) c, cs[j]? = some c → ∃ u, C[j]? = some u ∧ one u = true ∧ RelA g (fun b => g.tag b = some (.cell id j)) c u
 | .arr gen sz rows => ∃ e, g.μ[id]? = some e ∧ e.arr = true ∧ e.gen = gen ∧ e.sz = sz ∧ g.tag e.blk = some (.obj id) ∧ (∀ o, g.Φ e.blk o = none) ∧
  ∃ C, Blk w e.blk C ∧ C.size = g.bs e.blk ∧ rows.length * sz ≤ C.size ∧ (∀ r, r ∈ rows → r.length = sz) ∧
   ∀ (i : Nat) r (j : Nat) c, rows[i]? = some r → r[j]? = some c → ∃ u, C[i * sz + j]? = some u ∧ one u = true ∧ RelA g (fun b => g.tag b = some (.elem id i j)) c u
 | .map kt kvs => ∃ e, g.μ[id]? = some e ∧ e.arr = false ∧ g.tag e.blk = some (.obj id) ∧ (∀ o, g.Φ e.blk o = none) ∧
  ∃ es clock, w.heap[e.blk]? = some (.map es clock) ∧ RelKV g.Φ kt kvs es.toList
 | .loop st pend nt f env ps a b => ∃ e, g.μ[id]? = some e ∧ e.arr = false ∧ g.tag e.blk = some (.obj id) ∧ (∀ o, g.Φ e.blk o = none) ∧
  ∃ rec : Loop, w.heap[e.blk]? = some (.loop rec) ∧ rec.state = stOf st ∧ rec.pending = pend ∧ rec.params.toList = ps ∧ rec.assign = a ∧ rec.body = b ∧ nt ≤ rec.tmps.size ∧
   ∀ t, RelA g (fun _ => False) (get env t) (rec.tmps.getD t undef)
 | .dead => ∃ e, g.μ[id]? = some e ∧ e.arr = true ∧ e.gen = 0 ∧ e.sz = 0
 | .gone => ∃ e, g.μ[id]? = some e ∧ e.arr = true ∧ e.sz = 0
 | .hid => ∃ e, g.μ[id]? = some e ∧ e.arr = false
def RelS (g : G) (t : Nat) : AV → Value → Prop
 | .tup cs, V => ∃ Vs : List Value, V = .tuple Vs.toArray ∧ cs.length = Vs.length ∧ ∀ (i : Nat) c, cs[i]? = some c → ∃ u, Vs[i]? = some u ∧ RelA g (fun b => g.tag b = some (.comp t i)) c u
 | v, V => RelA g (fun b => g.tag b = some (.slot t)) v V
structure Inv (GL : List (Nat × List PV)) (B0 : Nat) (w0 : World) (g : G) (env : Env) (σ : List AObj) (tm : Array Value) (w : World) : Prop where
 below : Below B0 w0 w
 base : B0 ≤ w.heap.size
 fz : ∀ b o u, g.Φ b o = some u → w.cell? ⟨b, o, none⟩ = some u
 tlt : ∀ b pl, g.tag b = some pl → B0 ≤ b ∧ b < w.heap.size
 own : ∀ b pl, g.tag b = some pl → (∀ id, pl ≠ .obj id) → pl ≠ .mark → ∃ C, Blk w b C ∧ C.size = g.bs b
 env : ∀ t, RelS g t (get env t) (tm.getD t undef)
 objs : ∀ (id : Nat) o, σ[id]? = some o → RelObj g w id o
 len : g.μ.length = σ.length
 glob : ∀ k cs, globOf GL k = some cs → RelPC g.Φ cs k 0
 mlt : ∀ (id : Nat) e, g.μ[id]? = some e → e.blk < w.heap.size
structure Post (g : G) (w : World) (g' : G) (w' : World) : Prop where
 size : w.heap.size ≤ w'.heap.size
 gle : Gle g g'
 keep : ∀ b, b < w.heap.size → g.tag b = none → w'.heap[b]? = w.heap[b]? ∧ g'.tag b = none ∧ g'.bs b = g.bs b ∧ ∀ o, g'.Φ b o = g.Φ b o
 loops : ∀ (b : Nat) r, w.heap[b]? = some (.loop r) → ∃ r', w'.heap[b]? = some (.loop r')
theorem Post.refl (g : G) (w : World) : Post g w g w := ⟨Nat.le_refl _, Gle.refl _, fun _ _ h => ⟨rfl, h, rfl, fun _ => rfl⟩, fun _ r h => ⟨r, h⟩⟩
theorem Post.trans {g g' g'' : G} {w w' w'' : World} (h : Post g w g' w') (k : Post g' w' g'' w'') : Post g w g'' w'' := by
 refine ⟨Nat.le_trans h.size k.size, h.gle.trans k.gle, fun b hb ht => ?_, fun b r hr => let ⟨r1, h1⟩ := h.loops b r hr; k.loops b r1 h1⟩
 obtain ⟨a1, a2, a3, a4⟩ := h.keep b hb ht
 obtain ⟨b1, b2, b3, b4⟩ := k.keep b (Nat.lt_of_lt_of_le hb h.size) a2
 exact ⟨b1.trans a1, b2, b3.trans a3, fun o => (b4 o).trans (a4 o)⟩
theorem loops_row {w : World} {b : Nat} {C D : Array Value} {e : TypeId} {f : Nat × Nat} (h : w.heap[b]? = some (.cells C e f)) : ∀ (k : Nat) r, w.heap[k]? = some (.loop r) → ∃ r', (w.setRow b D).heap[k]? = some (.loop r') := by
 intro k r hk
 have hne : k ≠ b := fun e => by subst e; rw [h] at hk; cases hk
 exact ⟨r, (setRow_other w b k D hne).trans hk⟩
theorem loops_alloc {w : World} {o : Obj} : ∀ (k : Nat) r, w.heap[k]? = some (.loop r) → ∃ r', (w.alloc o).heap[k]? = some (.loop r') := by
 intro k r hk
 have hlt := (Array.getElem?_eq_some_iff.1 hk).1
 exact ⟨r, (Below.heap_alloc w o k hlt).trans hk⟩
def KeepPl (g g' : G) (w w' : World) (A : Pl → Prop) : Prop :=
 ∀ b pl, g.tag b = some pl → A pl → g'.tag b = some pl ∧ g'.bs b = g.bs b ∧ (∀ o, g.Φ b o = none → g'.Φ b o = none) ∧ w'.heap[b]? = w.heap[b]?
theorem Keeps.of_place {g g' : G} {w w' : World} {A : Pl → Prop} (k : KeepPl g g' w w' A) {pl : Pl} (h : A pl) : Keeps g g' (fun b => g.tag b = some pl) (fun b => g'.tag b = some pl) :=
 fun b hb => let ⟨a1, a2, a3, _⟩ := k b pl hb h; ⟨a1, a2, a3⟩
theorem Keeps.of_false {g g' : G} {tg : Nat → Prop} : Keeps g g' (fun _ => False) tg := fun _ h => h.elim
theorem RelS.keep {g g' : G} {w w' : World} {A : Pl → Prop} (h : Gle g g') (k : KeepPl g g' w w' A) {t : Nat} (h1 : A (.slot t)) (h2 : ∀ i, A (.comp t i)) {v : AV} {V : Value} (hr : RelS g t v V) : RelS g' t v V := by
 cases v with
 | tup cs =>
  obtain ⟨Vs, e, l, f⟩ := hr
  refine ⟨Vs, e, l, fun i c hc => ?_⟩
  obtain ⟨u, hu, r⟩ := f i c hc
  exact ⟨u, hu, r.mono h _ _ _ _ (Keeps.of_place k (h2 i))⟩
 | _ => exact RelA.mono h _ _ _ _ (Keeps.of_place k h1) hr
theorem RelAL.get {g : G} : ∀ {cs : List AV} {Vs : List Value}, RelAL g cs Vs → cs.length = Vs.length ∧ ∀ (i : Nat) c, cs[i]? = some c → ∃ u, Vs[i]? = some u ∧ RelA g (fun _ => False) c u
 | [], Vs, h => by unfold RelAL at h; subst h; exact ⟨rfl, fun i c hc => by simp at hc⟩
 | c :: cs, Vs, h => by
  unfold RelAL at h
  obtain ⟨u, us, rfl, k, ks⟩ := h
  obtain ⟨l, f⟩ := RelAL.get ks
  refine ⟨by simp [l], fun i c' hc => ?_⟩
  cases i with
  | zero => simp at hc; subst hc; exact ⟨u, by simp, k⟩
  | succ i => simp at hc; simpa using f i c' hc
theorem RelAL.mk {g : G} : ∀ {cs : List AV} {Vs : List Value}, cs.length = Vs.length → (∀ (i : Nat) c, cs[i]? = some c → ∃ u, Vs[i]? = some u ∧ RelA g (fun _ => False) c u) → RelAL g cs Vs
 | [], Vs, hl, h => by unfold RelAL; exact List.length_eq_zero_iff.1 hl.symm
 | c :: cs, Vs, hl, h => by
  cases Vs with
  | nil => simp at hl
  | cons u us =>
   unfold RelAL
   obtain ⟨u', hu, k⟩ := h 0 c (by simp)
   simp at hu; subst hu
   exact ⟨u, us, rfl, k, RelAL.mk (by simpa using hl) fun i c' hc => by simpa using h (i + 1) c' (by simpa using hc)⟩
theorem RelA1.get {g : G} : ∀ {cs : List AV} {Vs : List Value}, RelA1 g cs Vs → cs.length = Vs.length ∧ ∀ (i : Nat) c, cs[i]? = some c → ∃ u, Vs[i]? = some u ∧ one u = true ∧ RelA g (fun _ => False) c u
 | [], Vs, h => by unfold RelA1 at h; subst h; exact ⟨rfl, fun i c hc => by simp at hc⟩
 | c :: cs, Vs, h => by
  unfold RelA1 at h
  obtain ⟨u, us, rfl, o, k, ks⟩ := h
  obtain ⟨l, f⟩ := RelA1.get ks
  refine ⟨by simp [l], fun i c' hc => ?_⟩
  cases i with
  | zero => simp at hc; subst hc; exact ⟨u, by simp, o, k⟩
  | succ i => simp at hc; simpa using f i c' hc
theorem RelA1.mk {g : G} : ∀ {cs : List AV} {Vs : List Value}, cs.length = Vs.length → (∀ (i : Nat) c, cs[i]? = some c → ∃ u, Vs[i]? = some u ∧ one u = true ∧ RelA g (fun _ => False) c u) → RelA1 g cs Vs
 | [], Vs, hl, h => by unfold RelA1; exact List.length_eq_zero_iff.1 hl.symm
 | c :: cs, Vs, hl, h => by
  cases Vs with
  | nil => simp at hl
  | cons u us =>
   unfold RelA1
   obtain ⟨u', hu, o, k⟩ := h 0 c (by simp)
   simp at hu; subst hu
   exact ⟨u, us, rfl, o, k, RelA1.mk (by simpa using hl) fun i c' hc => by simpa using h (i + 1) c' (by simpa using hc)⟩
theorem RelPL.get {Φ : Mem} : ∀ {cs : List PV} {Vs : List Value}, RelPL Φ cs Vs → cs.length = Vs.length ∧ ∀ (i : Nat) c, cs[i]? = some c → ∃ u, Vs[i]? = some u ∧ RelP Φ c u
 | [], Vs, h => by unfold RelPL at h; subst h; exact ⟨rfl, fun i c hc => by simp at hc⟩
 | c :: cs, Vs, h => by
  unfold RelPL at h
  obtain ⟨u, us, rfl, k, ks⟩ := h
  obtain ⟨l, f⟩ := RelPL.get ks
  refine ⟨by simp [l], fun i c' hc => ?_⟩
  cases i with
  | zero => simp at hc; subst hc; exact ⟨u, by simp, k⟩
  | succ i => simp at hc; simpa using f i c' hc
theorem RelPL.mk {Φ : Mem} : ∀ {cs : List PV} {Vs : List Value}, cs.length = Vs.length → (∀ (i : Nat) c, cs[i]? = some c → ∃ u, Vs[i]? = some u ∧ RelP Φ c u) → RelPL Φ cs Vs
 | [], Vs, hl, h => by unfold RelPL; exact List.length_eq_zero_iff.1 hl.symm
 | c :: cs, Vs, hl, h => by
  cases Vs with
  | nil => simp at hl
  | cons u us =>
   unfold RelPL
   obtain ⟨u', hu, k⟩ := h 0 c (by simp)
   simp at hu; subst hu
   exact ⟨u, us, rfl, k, RelPL.mk (by simpa using hl) fun i c' hc => by simpa using h (i + 1) c' (by simpa using hc)⟩
theorem RelP1.get {Φ : Mem} : ∀ {cs : List PV} {Vs : List Value}, RelP1 Φ cs Vs → cs.length = Vs.length ∧ ∀ (i : Nat) c, cs[i]? = some c → ∃ u, Vs[i]? = some u ∧ one u = true ∧ RelP Φ c u
 | [], Vs, h => by unfold RelP1 at h; subst h; exact ⟨rfl, fun i c hc => by simp at hc⟩
 | c :: cs, Vs, h => by
  unfold RelP1 at h
  obtain ⟨u, us, rfl, o, k, ks⟩ := h
  obtain ⟨l, f⟩ := RelP1.get ks
  refine ⟨by simp [l], fun i c' hc => ?_⟩
  cases i with
  | zero => simp at hc; subst hc; exact ⟨u, by simp, o, k⟩
  | succ i => simp at hc; simpa using f i c' hc
theorem RelP1.mk {Φ : Mem} : ∀ {cs : List PV} {Vs : List Value}, cs.length = Vs.length → (∀ (i : Nat) c, cs[i]? = some c → ∃ u, Vs[i]? = some u ∧ one u = true ∧ RelP Φ c u) → RelP1 Φ cs Vs
 | [], Vs, hl, h => by unfold RelP1; exact List.length_eq_zero_iff.1 hl.symm
 | c :: cs, Vs, hl, h => by
  cases Vs with
  | nil => simp at hl
  | cons u us =>
   unfold RelP1
   obtain ⟨u', hu, o, k⟩ := h 0 c (by simp)
   simp at hu; subst hu
   exact ⟨u, us, rfl, o, k, RelP1.mk (by simpa using hl) fun i c' hc => by simpa using h (i + 1) c' (by simpa using hc)⟩
theorem RelPC.get {Φ : Mem} : ∀ {cs : List PV} {b o : Nat}, RelPC Φ cs b o → ∀ (i : Nat) c, cs[i]? = some c → ∃ u, Φ b (o + i) = some u ∧ one u = true ∧ RelP Φ c u
 | [], b, o, _, i, c, hc => by simp at hc
 | c :: cs, b, o, h, i, c', hc => by
  unfold RelPC at h
  cases i with
  | zero => simp at hc; subst hc; exact h.1
  | succ i =>
   simp at hc
   have := RelPC.get h.2 i c' hc
   rwa [show o + 1 + i = o + (i + 1) by omega] at this
theorem RelPC.mk {Φ : Mem} : ∀ {cs : List PV} {b o : Nat}, (∀ (i : Nat) c, cs[i]? = some c → ∃ u, Φ b (o + i) = some u ∧ one u = true ∧ RelP Φ c u) → RelPC Φ cs b o
 | [], b, o, _ => by unfold RelPC; trivial
 | c :: cs, b, o, h => by
  unfold RelPC
  refine ⟨by simpa using h 0 c (by simp), RelPC.mk fun i c' hc => ?_⟩
  have := h (i + 1) c' (by simpa using hc)
  rwa [show o + (i + 1) = o + 1 + i by omega] at this
theorem RelAC.get {g : G} : ∀ {cs : List AV} {b o : Nat}, RelAC g cs b o → ∀ (i : Nat) c, cs[i]? = some c → ∃ u, g.Φ b (o + i) = some u ∧ one u = true ∧ RelA g (fun _ => False) c u
 | [], b, o, _, i, c, hc => by simp at hc
 | c :: cs, b, o, h, i, c', hc => by
  unfold RelAC at h
  cases i with
  | zero => simp at hc; subst hc; exact h.1
  | succ i =>
   simp at hc
   have := RelAC.get h.2 i c' hc
   rwa [show o + 1 + i = o + (i + 1) by omega] at this
theorem RelAC.mk {g : G} : ∀ {cs : List AV} {b o : Nat}, (∀ (i : Nat) c, cs[i]? = some c → ∃ u, g.Φ b (o + i) = some u ∧ one u = true ∧ RelA g (fun _ => False) c u) → RelAC g cs b o
 | [], b, o, _ => by unfold RelAC; trivial
 | c :: cs, b, o, h => by
  unfold RelAC
  refine ⟨by simpa using h 0 c (by simp), RelAC.mk fun i c' hc => ?_⟩
  have := h (i + 1) c' (by simpa using hc)
  rwa [show o + (i + 1) = o + 1 + i by omega] at this
theorem RelPR.get {Φ : Mem} {sz : Nat} : ∀ {rs : List (List PV)} {b o : Nat}, RelPR Φ sz rs b o → ∀ (i : Nat) r, rs[i]? = some r → r.length = sz ∧ RelPC Φ r b (o + i * sz)
 | [], b, o, _, i, r, hc => by simp at hc
 | r :: rs, b, o, h, i, r', hc => by
  unfold RelPR at h
  cases i with
  | zero => simp at hc; subst hc; exact ⟨h.1, by simpa using h.2.1⟩
  | succ i =>
   simp at hc
   have := RelPR.get h.2.2 i r' hc
   rwa [show o + sz + i * sz = o + (i + 1) * sz by rw [Nat.add_mul]; omega] at this
theorem RelPR.mk {Φ : Mem} {sz : Nat} : ∀ {rs : List (List PV)} {b o : Nat}, (∀ (i : Nat) r, rs[i]? = some r → r.length = sz ∧ RelPC Φ r b (o + i * sz)) → RelPR Φ sz rs b o
 | [], b, o, _ => by unfold RelPR; trivial
 | r :: rs, b, o, h => by
  unfold RelPR
  obtain ⟨h1, h2⟩ := h 0 r (by simp)
  refine ⟨h1, by simpa using h2, RelPR.mk fun i r' hc => ?_⟩
  have := h (i + 1) r' (by simpa using hc)
  rwa [show o + (i + 1) * sz = o + sz + i * sz by rw [Nat.add_mul]; omega] at this
theorem RelAR.get {g : G} {sz : Nat} : ∀ {rs : List (List AV)} {b o : Nat}, RelAR g sz rs b o → ∀ (i : Nat) r, rs[i]? = some r → r.length = sz ∧ RelAC g r b (o + i * sz)
 | [], b, o, _, i, r, hc => by simp at hc
 | r :: rs, b, o, h, i, r', hc => by
  unfold RelAR at h
  cases i with
  | zero => simp at hc; subst hc; exact ⟨h.1, by simpa using h.2.1⟩
  | succ i =>
   simp at hc
   have := RelAR.get h.2.2 i r' hc
   rwa [show o + sz + i * sz = o + (i + 1) * sz by rw [Nat.add_mul]; omega] at this
theorem RelAR.mk {g : G} {sz : Nat} : ∀ {rs : List (List AV)} {b o : Nat}, (∀ (i : Nat) r, rs[i]? = some r → r.length = sz ∧ RelAC g r b (o + i * sz)) → RelAR g sz rs b o
 | [], b, o, _ => by unfold RelAR; trivial
 | r :: rs, b, o, h => by
  unfold RelAR
  obtain ⟨h1, h2⟩ := h 0 r (by simp)
  refine ⟨h1, by simpa using h2, RelAR.mk fun i r' hc => ?_⟩
  have := h (i + 1) r' (by simpa using hc)
  rwa [show o + (i + 1) * sz = o + sz + i * sz by rw [Nat.add_mul]; omega] at this
theorem RelS.of_A {g : G} {t : Nat} {v : AV} {V : Value} (h : RelA g (fun _ => False) v V) : RelS g t v V := by
 cases v with
 | tup cs =>
  unfold RelA at h
  obtain ⟨Vs, e, k⟩ := h
  obtain ⟨l, f⟩ := k.get
  refine ⟨Vs, e, l, fun i c hc => ?_⟩
  obtain ⟨u, hu, r⟩ := f i c hc
  exact ⟨u, hu, r.mono (Gle.refl g) _ _ _ _ Keeps.of_false⟩
 | _ => exact RelA.mono (Gle.refl g) _ _ _ _ Keeps.of_false h
theorem RelObj.keep {g g' : G} {w w' : World} {A : Pl → Prop} (h : Gle g g') (k : KeepPl g g' w w' A) {id : Nat} (h1 : A (.obj id)) (h2 : ∀ j, A (.cell id j)) (h3 : ∀ i j, A (.elem id i j))
 (hg : ∀ e, g.μ[id]? = some e → e.arr = true → g'.μ[id]? = some e) {o : AObj} (hr : RelObj g w id o) : RelObj g' w' id o := by
 cases o with
 | cells cs =>
  obtain ⟨e, he, ha, ht, hf, C, ⟨el, hC⟩, hs, hj⟩ := hr
  obtain ⟨k1, k2, k3, k4⟩ := k _ _ ht h1
  obtain ⟨e', he', _, _, _, h5⟩ := h.μ id e he
  rw [h5 ha] at he'
  refine ⟨e, he', ha, k1, fun o => k3 o (hf o), C, ⟨el, by rw [k4]; exact hC⟩, hs, fun j c hc => ?_⟩
  obtain ⟨u, hu, o1, r⟩ := hj j c hc
  exact ⟨u, hu, o1, r.mono h _ _ _ _ (Keeps.of_place k (h2 j))⟩
 | arr gen sz rows =>
  obtain ⟨e, he, ha, e1, e2, ht, hf, C, ⟨el, hC⟩, hs, hl, hrl, hj⟩ := hr
  obtain ⟨k1, k2, k3, k4⟩ := k _ _ ht h1
  refine ⟨e, hg e he ha, ha, e1, e2, k1, fun o => k3 o (hf o), C, ⟨el, by rw [k4]; exact hC⟩, by rw [k2]; exact hs, hl, hrl, fun i r j c hi hc => ?_⟩
  obtain ⟨u, hu, o1, r⟩ := hj i r j c hi hc
  exact ⟨u, hu, o1, r.mono h _ _ _ _ (Keeps.of_place k (h3 i j))⟩
 | map kt kvs =>
  obtain ⟨e, he, ha, ht, hf, es, ck, hw, hk⟩ := hr
  obtain ⟨k1, k2, k3, k4⟩ := k _ _ ht h1
  obtain ⟨e', he', _, _, _, h5⟩ := h.μ id e he
  rw [h5 ha] at he'
  exact ⟨e, he', ha, k1, fun o => k3 o (hf o), es, ck, by rw [k4]; exact hw, hk.mono h.Φ⟩
 | loop st pend nt f env ps a b =>
  obtain ⟨e, he, ha, ht, hf, rec, hw, q1, q2, q4, q5, q6, q7, q8⟩ := hr
  obtain ⟨k1, k2, k3, k4⟩ := k _ _ ht h1
  obtain ⟨e', he', _, _, _, h5⟩ := h.μ id e he
  rw [h5 ha] at he'
  exact ⟨e, he', ha, k1, fun o => k3 o (hf o), rec, by rw [k4]; exact hw, q1, q2, q4, q5, q6, q7, fun t => (q8 t).mono h _ _ _ _ Keeps.none⟩
 | dead =>
  obtain ⟨e, he, ha, hz⟩ := hr
  exact ⟨e, hg e he ha, ha, hz⟩
 | gone =>
  obtain ⟨e, he, ha, hz⟩ := hr
  exact ⟨e, hg e he ha, ha, hz⟩
 | hid =>
  obtain ⟨e, he, ha⟩ := hr
  obtain ⟨e', he', _, _, _, h5⟩ := h.μ id e he
  rw [h5 ha] at he'
  exact ⟨e, he', ha⟩
end Go.AM
