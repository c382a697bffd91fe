/- A part of the abstract machine and its simulation. -/
import Derived.Test.YtbalikooghpmlaaDoorAmCore
import Derived.Control
set_option linter.unusedVariables false
set_option linter.unusedSimpArgs false
namespace Go.AM
open Go
def one : Value → Bool
 | .agg _ => false
 | .tuple _ => false
 | _ => true
abbrev Mem := Nat → Nat → Option Value
mutual
def RelP (Φ : Mem) : PV → Value → Prop
 | .lit v, V => V = v ∧ litOk v = true
 | .agg cs, V => ∃ Vs : List Value, V = .agg Vs.toArray ∧ RelP1 Φ cs Vs
 | .sl nl sz rows, V => ∃ a cap, V = .slice a rows.length cap ∧ rows.length ≤ cap ∧ (nl = some true → a = none ∧ cap = 0) ∧ (nl = some false → a ≠ none ∧ cap = rows.length) ∧ ((a = none ∧ cap = 0) ∨ ∃ ad, a = some ad ∧ (0 < cap → ad.spot = none) ∧ RelPR Φ sz rows ad.block ad.off)
 | .pp cells, V => ∃ ad, V = .pointer (some ad) ∧ ad.spot = none ∧ RelPC Φ cells ad.block ad.off
 | .fn f, V => V = .func (.func f) #[] #[]
 | .ifc t v, V => ∃ U, V = .iface t U ∧ RelP Φ v U
 | .tup cs, V => ∃ Vs : List Value, V = .tuple Vs.toArray ∧ RelPL Φ cs Vs
def RelPL (Φ : Mem) : List PV → List Value → Prop
 | [], Vs => Vs = []
 | c :: cs, Vs => ∃ u us, Vs = u :: us ∧ RelP Φ c u ∧ RelPL Φ cs us
def RelP1 (Φ : Mem) : List PV → List Value → Prop
 | [], Vs => Vs = []
 | c :: cs, Vs => ∃ u us, Vs = u :: us ∧ one u = true ∧ RelP Φ c u ∧ RelP1 Φ cs us
def RelPC (Φ : Mem) : List PV → Nat → Nat → Prop
 | [], _, _ => True
 | c :: cs, b, o => (∃ u, Φ b o = some u ∧ one u = true ∧ RelP Φ c u) ∧ RelPC Φ cs b (o + 1)
def RelPR (Φ : Mem) (sz : Nat) : List (List PV) → Nat → Nat → Prop
 | [], _, _ => True
 | r :: rs, b, o => r.length = sz ∧ RelPC Φ r b o ∧ RelPR Φ sz rs b (o + sz)
end
inductive Pl where
 | slot (t : Nat)
 | comp (t i : Nat)
 | cell (id j : Nat)
 | elem (id i j : Nat)
 | obj (id : Nat)
 | mark
 deriving DecidableEq
structure ME where
 gen : Nat
 blk : Nat
 sz : Nat
 arr : Bool
structure G where
 Φ : Mem
 bs : Nat → Nat
 μ : List ME
 tag : Nat → Option Pl
def OwnB (g : G) (tg : Nat → Prop) (ad : Addr) (n cap sz : Nat) : Prop :=
 n < cap → tg ad.block ∧ ad.off = 0 ∧ cap * sz ≤ g.bs ad.block ∧ ∀ o, n * sz ≤ o → g.Φ ad.block o = none
mutual
def RelA (g : G) (tg : Nat → Prop) : AV → Value → Prop
 | .undef, _ => True
 | .p v, V => RelP g.Φ v V
 | .own sz rows, V => (V = .slice none 0 0 ∧ rows = []) ∨ ∃ ad cap, V = .slice (some ad) rows.length cap ∧ rows.length ≤ cap ∧ (0 < cap → ad.spot = none) ∧ RelPR g.Φ sz rows ad.block ad.off ∧ OwnB g tg ad rows.length cap sz
 | .agg cs, V => ∃ Vs : List Value, V = .agg Vs.toArray ∧ RelA1 g cs Vs
 | .tup cs, V => ∃ Vs : List Value, V = .tuple Vs.toArray ∧ RelAL g cs Vs
 | .asl ow sz rows, V => (V = .slice none 0 0 ∧ rows = []) ∨ ∃ ad cap, V = .slice (some ad) rows.length cap ∧ rows.length ≤ cap ∧ (0 < cap → ad.spot = none) ∧ RelAR g sz rows ad.block ad.off ∧ (ow = true → OwnB g tg ad rows.length cap sz)
 | .ap cells, V => ∃ ad, V = .pointer (some ad) ∧ ad.spot = none ∧ RelAC g cells ad.block ad.off
 | .ms id gen sz off len, V => ∃ e, g.μ[id]? = some e ∧ e.arr = true ∧ gen ≤ e.gen ∧ (gen = e.gen → e.sz = sz) ∧ ∃ ad cap, V = .slice (some ad) len cap ∧ len ≤ cap ∧ (gen = e.gen → 0 < cap → ad = ⟨e.blk, off * e.sz, none⟩ ∧ (off + cap) * e.sz ≤ g.bs e.blk) ∧ ad.spot = none
 | .ptr id off, V => ∃ e, g.μ[id]? = some e ∧ e.arr = false ∧ V = .pointer (some ⟨e.blk, off, none⟩)
 | .ep id gen i j, V => ∃ e, g.μ[id]? = some e ∧ e.arr = true ∧ gen ≤ e.gen ∧ ∃ ad, V = .pointer (some ad) ∧ (gen = e.gen → ad = ⟨e.blk, i * e.sz + j, none⟩)
 | .mp id, V => ∃ e, g.μ[id]? = some e ∧ e.arr = false ∧ V = .map (some e.blk)
 | .fn f cap, V => ∃ caps : List Value, V = .func (.func f) #[] caps.toArray ∧ RelAL g cap caps
 | .yld id, V => ∃ e, g.μ[id]? = some e ∧ e.arr = false ∧ V = .func (.yield e.blk) #[] #[]
 | .nms id _, V => ∃ e, g.μ[id]? = some e ∧ e.arr = true ∧ V = .slice none 0 0
 | .ifc t v, V => ∃ U, V = .iface t U ∧ RelA g (fun _ => False) v U
def RelAL (g : G) : List AV → List Value → Prop
 | [], Vs => Vs = []
 | c :: cs, Vs => ∃ u us, Vs = u :: us ∧ RelA g (fun _ => False) c u ∧ RelAL g cs us
def RelA1 (g : G) : List AV → List Value → Prop
 | [], Vs => Vs = []
 | c :: cs, Vs => ∃ u us, Vs = u :: us ∧ one u = true ∧ RelA g (fun _ => False) c u ∧ RelA1 g cs us
def RelAC (g : G) : List AV → Nat → Nat → Prop
 | [], _, _ => True
 | c :: cs, b, o => (∃ u, g.Φ b o = some u ∧ one u = true ∧ RelA g (fun _ => False) c u) ∧ RelAC g cs b (o + 1)
def RelAR (g : G) (sz : Nat) : List (List AV) → Nat → Nat → Prop
 | [], _, _ => True
 | r :: rs, b, o => r.length = sz ∧ RelAC g r b o ∧ RelAR g sz rs b (o + sz)
end
def MemLe (Φ Φ' : Mem) : Prop := ∀ b o u, Φ b o = some u → Φ' b o = some u
theorem MemLe.refl (Φ : Mem) : MemLe Φ Φ := fun _ _ _ h => h
theorem MemLe.trans {Φ Φ' Φ'' : Mem} (h : MemLe Φ Φ') (k : MemLe Φ' Φ'') : MemLe Φ Φ'' := fun b o u hu => k b o u (h b o u hu)
mutual
theorem RelP.mono {Φ Φ' : Mem} (h : MemLe Φ Φ') : ∀ (v : PV) (V : Value), RelP Φ v V → RelP Φ' v V
 | .lit v, V, hr => by unfold RelP at hr ⊢; exact hr
 | .agg cs, V, hr => by
  unfold RelP at hr ⊢
  obtain ⟨Vs, e, k⟩ := hr
  exact ⟨Vs, e, RelP1.mono h cs Vs k⟩
 | .sl nl sz rows, V, hr => by
  unfold RelP at hr ⊢
  obtain ⟨a, cap, e, hl, hn, hf, hs⟩ := hr
  refine ⟨a, cap, e, hl, hn, hf, ?_⟩
  rcases hs with hn | ⟨ad, ea, es, k⟩
  ·exact .inl hn
  ·exact .inr ⟨ad, ea, es, RelPR.mono h sz rows _ _ k⟩
 | .pp cells, V, hr => by
  unfold RelP at hr ⊢
  obtain ⟨ad, e, es, k⟩ := hr
  exact ⟨ad, e, es, RelPC.mono h cells _ _ k⟩
 | .fn f, V, hr => by unfold RelP at hr ⊢; exact hr
 | .ifc t v, V, hr => by
  unfold RelP at hr ⊢
  obtain ⟨U, e, k⟩ := hr
  exact ⟨U, e, RelP.mono h v U k⟩
 | .tup cs, V, hr => by
  unfold RelP at hr ⊢
  obtain ⟨Vs, e, k⟩ := hr
  exact ⟨Vs, e, RelPL.mono h cs Vs k⟩
theorem RelPL.mono {Φ Φ' : Mem} (h : MemLe Φ Φ') : ∀ (cs : List PV) (Vs : List Value), RelPL Φ cs Vs → RelPL Φ' cs Vs
 | [], Vs, hr => by unfold RelPL at hr ⊢; exact hr
 | c :: cs, Vs, hr => by
  unfold RelPL at hr ⊢
  obtain ⟨u, us, e, k, ks⟩ := hr
  exact ⟨u, us, e, RelP.mono h c u k, RelPL.mono h cs us ks⟩
theorem RelP1.mono {Φ Φ' : Mem} (h : MemLe Φ Φ') : ∀ (cs : List PV) (Vs : List Value), RelP1 Φ cs Vs → RelP1 Φ' cs Vs
 | [], Vs, hr => by unfold RelP1 at hr ⊢; exact hr
 | c :: cs, Vs, hr => by
  unfold RelP1 at hr ⊢
  obtain ⟨u, us, e, o, k, ks⟩ := hr
  exact ⟨u, us, e, o, RelP.mono h c u k, RelP1.mono h cs us ks⟩
theorem RelPC.mono {Φ Φ' : Mem} (h : MemLe Φ Φ') : ∀ (cs : List PV) (b o : Nat), RelPC Φ cs b o → RelPC Φ' cs b o
 | [], b, o, hr => by unfold RelPC at hr ⊢; exact hr
 | c :: cs, b, o, hr => by
  unfold RelPC at hr ⊢
  obtain ⟨⟨u, hu, o1, k⟩, ks⟩ := hr
  exact ⟨⟨u, h _ _ _ hu, o1, RelP.mono h c u k⟩, RelPC.mono h cs _ _ ks⟩
theorem RelPR.mono {Φ Φ' : Mem} (h : MemLe Φ Φ') (sz : Nat) : ∀ (rs : List (List PV)) (b o : Nat), RelPR Φ sz rs b o → RelPR Φ' sz rs b o
 | [], b, o, hr => by unfold RelPR at hr ⊢; exact hr
 | r :: rs, b, o, hr => by
  unfold RelPR at hr ⊢
  obtain ⟨l, k, ks⟩ := hr
  exact ⟨l, RelPC.mono h r _ _ k, RelPR.mono h sz rs _ _ ks⟩
end
structure Gle (g g' : G) : Prop where
 Φ : MemLe g.Φ g'.Φ
 μ : ∀ (id : Nat) (e : ME), g.μ[id]? = some e → ∃ e' : ME, g'.μ[id]? = some e' ∧ e'.arr = e.arr ∧ e.gen ≤ e'.gen ∧ (e'.gen = e.gen → e'.blk = e.blk ∧ e'.sz = e.sz ∧ (e.arr = true ∧ 0 < e.sz → g'.bs e.blk = g.bs e.blk)) ∧ (e.arr = false → e' = e)
theorem Gle.refl (g : G) : Gle g g := ⟨MemLe.refl _, fun _ e h => ⟨e, h, rfl, Nat.le_refl _, fun _ => ⟨rfl, rfl, fun _ => rfl⟩, fun _ => rfl⟩⟩
theorem Gle.trans {g g' g'' : G} (h : Gle g g') (k : Gle g' g'') : Gle g g'' := by
 refine ⟨h.Φ.trans k.Φ, fun id e he => ?_⟩
 obtain ⟨e1, h1, h2, h3, h4, h5⟩ := h.μ id e he
 obtain ⟨e2, k1, k2, k3, k4, k5⟩ := k.μ id e1 h1
 refine ⟨e2, k1, k2.trans h2, Nat.le_trans h3 k3, fun hg => ?_, fun ha => ?_⟩
 ·have g1 : e1.gen = e.gen := by omega
  have g2 : e2.gen = e1.gen := by omega
  obtain ⟨a1, a2, a3⟩ := h4 g1
  obtain ⟨b1, b2, b3⟩ := k4 g2
  exact ⟨b1.trans a1, b2.trans a2, fun hs => by rw [a1, a2, h2] at b3; rw [b3 hs, a3 hs]⟩
 ·have := h5 ha
  subst this
  exact k5 ha
def Keeps (g g' : G) (tg tg' : Nat → Prop) : Prop := ∀ b, tg b → tg' b ∧ g'.bs b = g.bs b ∧ ∀ o, g.Φ b o = none → g'.Φ b o = none
theorem Keeps.none {g g' : G} : Keeps g g' (fun _ => False) (fun _ => False) := fun _ h => h.elim
mutual
theorem RelA.mono {g g' : G} (h : Gle g g') : ∀ (v : AV) (tg tg' : Nat → Prop) (V : Value), Keeps g g' tg tg' → RelA g tg v V → RelA g' tg' v V
 | .undef, _, _, V, _, _ => by unfold RelA; trivial
 | .p v, _, _, V, _, hr => by unfold RelA at hr ⊢; exact hr.mono h.Φ
 | .own sz rows, tg, tg', V, hk, hr => by
  unfold RelA at hr ⊢
  rcases hr with hr | hr
  ·exact .inl hr
  obtain ⟨ad, cap, e, hl, es, k, ho⟩ := hr
  refine .inr ⟨ad, cap, e, hl, es, k.mono h.Φ, fun hlt => ?_⟩
  obtain ⟨h1, h0, h2, h3⟩ := ho hlt
  obtain ⟨k1, k2, k3⟩ := hk _ h1
  exact ⟨k1, h0, by rw [k2]; exact h2, fun o ho => k3 o (h3 o ho)⟩
 | .agg cs, _, _, V, _, hr => by
  unfold RelA at hr ⊢
  obtain ⟨Vs, e, k⟩ := hr
  exact ⟨Vs, e, RelA1.mono h cs Vs k⟩
 | .tup cs, _, _, V, _, hr => by
  unfold RelA at hr ⊢
  obtain ⟨Vs, e, k⟩ := hr
  exact ⟨Vs, e, RelAL.mono h cs Vs k⟩
 | .asl ow sz rows, tg, tg', V, hk, hr => by
  unfold RelA at hr ⊢
  rcases hr with hr | hr
  ·exact .inl hr
  obtain ⟨ad, cap, e, hl, es, k, ho⟩ := hr
  refine .inr ⟨ad, cap, e, hl, es, RelAR.mono h sz rows _ _ k, fun how hlt => ?_⟩
  obtain ⟨h1, h0, h2, h3⟩ := ho how hlt
  obtain ⟨k1, k2, k3⟩ := hk _ h1
  exact ⟨k1, h0, by rw [k2]; exact h2, fun o ho => k3 o (h3 o ho)⟩
 | .ap cells, _, _, V, _, hr => by
  unfold RelA at hr ⊢
  obtain ⟨ad, e, es, k⟩ := hr
  exact ⟨ad, e, es, RelAC.mono h cells _ _ k⟩
 | .ms id gen sz off len, _, _, V, _, hr => by
  unfold RelA at hr ⊢
  obtain ⟨e, he, ha, hg, hs, ad, cap, eV, hl, hx, hsp⟩ := hr
  obtain ⟨e', h1, h2, h3, h4, h5⟩ := h.μ id e he
  refine ⟨e', h1, by rw [h2, ha], Nat.le_trans hg h3, fun hge => by rw [(h4 (by omega)).2.1]; exact hs (by omega), ad, cap, eV, hl, fun hge hc => ?_, hsp⟩
  obtain ⟨a1, a2, a3⟩ := h4 (by omega)
  obtain ⟨b1, b2⟩ := hx (by omega) hc
  refine ⟨by rw [a1, a2]; exact b1, ?_⟩
  rcases Nat.eq_zero_or_pos e.sz with hz | hz
  ·rw [a2, hz]; exact Nat.zero_le _
  ·rw [a1, a2, a3 ⟨ha, hz⟩]; exact b2
 | .ptr id off, _, _, V, _, hr => by
  unfold RelA at hr ⊢
  obtain ⟨e, he, ha, eV⟩ := hr
  obtain ⟨e', h1, h2, h3, h4, h5⟩ := h.μ id e he
  exact ⟨e, by rw [h1, h5 ha], ha, eV⟩
 | .ep id gen i j, _, _, V, _, hr => by
  unfold RelA at hr ⊢
  obtain ⟨e, he, ha, hg, ad, eV, hx⟩ := hr
  obtain ⟨e', h1, h2, h3, h4, h5⟩ := h.μ id e he
  refine ⟨e', h1, by rw [h2, ha], Nat.le_trans hg h3, ad, eV, fun hge => ?_⟩
  obtain ⟨a1, a2, a3⟩ := h4 (by omega)
  rw [a1, a2]; exact hx (by omega)
 | .mp id, _, _, V, _, hr => by
  unfold RelA at hr ⊢
  obtain ⟨e, he, ha, eV⟩ := hr
  obtain ⟨e', h1, h2, h3, h4, h5⟩ := h.μ id e he
  exact ⟨e, by rw [h1, h5 ha], ha, eV⟩
 | .fn f cap, _, _, V, _, hr => by
  unfold RelA at hr ⊢
  obtain ⟨Vs, e, k⟩ := hr
  exact ⟨Vs, e, RelAL.mono h cap Vs k⟩
 | .yld id, _, _, V, _, hr => by
  unfold RelA at hr ⊢
  obtain ⟨e, he, ha, eV⟩ := hr
  obtain ⟨e', h1, h2, h3, h4, h5⟩ := h.μ id e he
  exact ⟨e, by rw [h1, h5 ha], ha, eV⟩
 | .nms id _, _, _, V, _, hr => by
  unfold RelA at hr ⊢
  obtain ⟨e, he, ha, eV⟩ := hr
  obtain ⟨e', h1, h2, h3, h4, h5⟩ := h.μ id e he
  exact ⟨e', h1, by rw [h2, ha], eV⟩
 | .ifc t v, _, _, V, _, hr => by
  unfold RelA at hr ⊢
  obtain ⟨U, e, k⟩ := hr
  exact ⟨U, e, RelA.mono h v _ _ U Keeps.none k⟩
theorem RelAL.mono {g g' : G} (h : Gle g g') : ∀ (cs : List AV) (Vs : List Value), RelAL g cs Vs → RelAL g' cs Vs
 | [], Vs, hr => by unfold RelAL at hr ⊢; exact hr
 | c :: cs, Vs, hr => by
  unfold RelAL at hr ⊢
  obtain ⟨u, us, e, k, ks⟩ := hr
  exact ⟨u, us, e, RelA.mono h c _ _ u Keeps.none k, RelAL.mono h cs us ks⟩
theorem RelA1.mono {g g' : G} (h : Gle g g') : ∀ (cs : List AV) (Vs : List Value), RelA1 g cs Vs → RelA1 g' cs Vs
 | [], Vs, hr => by unfold RelA1 at hr ⊢; exact hr
 | c :: cs, Vs, hr => by
  unfold RelA1 at hr ⊢
  obtain ⟨u, us, e, o, k, ks⟩ := hr
  exact ⟨u, us, e, o, RelA.mono h c _ _ u Keeps.none k, RelA1.mono h cs us ks⟩
theorem RelAC.mono {g g' : G} (h : Gle g g') : ∀ (cs : List AV) (b o : Nat), RelAC g cs b o → RelAC g' cs b o
 | [], b, o, hr => by unfold RelAC at hr ⊢; exact hr
 | c :: cs, b, o, hr => by
  unfold RelAC at hr ⊢
  obtain ⟨⟨u, hu, o1, k⟩, ks⟩ := hr
  exact ⟨⟨u, h.Φ _ _ _ hu, o1, RelA.mono h c _ _ u Keeps.none k⟩, RelAC.mono h cs _ _ ks⟩
theorem RelAR.mono {g g' : G} (h : Gle g g') (sz : Nat) : ∀ (rs : List (List AV)) (b o : Nat), RelAR g sz rs b o → RelAR g' sz rs b o
 | [], b, o, hr => by unfold RelAR at hr ⊢; exact hr
 | r :: rs, b, o, hr => by
  unfold RelAR at hr ⊢
  obtain ⟨l, k, ks⟩ := hr
  exact ⟨l, RelAC.mono h r _ _ k, RelAR.mono h sz rs _ _ ks⟩
end
end Go.AM
