/- What the functions of this seat compute on the abstract machine, function by function, and the plain laws. -/
import Derived.Test.YtnfggookadgjiaaLaws2
set_option linter.unusedVariables false
set_option linter.unusedSimpArgs false
namespace Go.AM.S22
open Go Go.Proofs Go.AM
set_option linter.unusedVariables false
set_option maxRecDepth 100000
set_option maxHeartbeats 4000000
namespace A3
open Go Go.Proofs Go.AM Go.AM.S22
theorem in_eq (l:List Int) (v:Int) (hl:l.length < 9223372036854775808):ref03_In l v = some (decide (v∈l)):=by
 unfold ref03_In
 rw [rangeL,if_pos hl]
 generalize 0 = i
 induction l generalizing i with
 | nil=>rfl
 | cons x l ih =>
  rw [rangeC]
  by_cases c:x = v
  ·rw [if_pos c,decide_eq_true (by simp [c])]
  ·rw [if_neg c]
   have:=ih (by rw [List.length_cons] at hl; omega) (i + 1)
   show rangeC _ l (i + 1) () _ = _
   rw [this]
   congr 1
   by_cases c2:v∈l
   ·rw [decide_eq_true c2,decide_eq_true (by simp [c2])]
   ·rw [decide_eq_false c2,decide_eq_false (by simp [c2]; exact fun h=>c h.symm)]
theorem Insert_eq {n:Nat} {l:List Int} {x:Int} (hn:l.length + 1≤n) (hl:l.length≤1000):∃ l',ref03_Insert n l x = some l'∧(∀ y,y∈l'↔y∈l∨y = x)∧l'.length≤l.length + 1:=by
 unfold ref03_Insert whileL
 have W:∀ (m i:Nat) (k:Int→Option (List Int)),i≤l.length→l.length - i + 1≤m→∃ j:Nat,j≤l.length∧whileC (fun (s1:Int) n1 =>
  if s1 < (l.length:Int) then
   (idx l s1).bind fun v12 =>
   if v12 < x then
    n1 (w64 (s1 + 1))
   else
    k s1
  else
   k s1) m (i:Int) = k (j:Int):=by
  intro m
  induction m with
  | zero=>intro i k _ h; omega
  | succ m ih =>
   intro i k hi hm
   rw [whileC]
   by_cases c:i < l.length
   ·have e:idx l (i:Int) = some l[i]:=by unfold idx; rw [if_pos (by omega),Int.toNat_natCast,List.getElem?_eq_getElem c]
    rw [if_pos (by omega),e,Option.bind_some]
    by_cases c2:l[i] < x
    ·rw [if_pos c2,w64_eq (by omega) (by omega),show ((i:Int) + 1) = ((i + 1:Nat):Int) by omega]
     exact ih (i + 1) k (by omega) (by omega)
    ·rw [if_neg c2]; exact ⟨i,hi,rfl⟩
   ·rw [if_neg (by omega)]; exact ⟨i,hi,rfl⟩
 obtain ⟨j,hj,e⟩:=W n 0 (fun s1 =>
 if s1 < (l.length:Int) then
  (idx l s1).bind fun v1 =>
  if v1 = x then
   some l
  else
   (slcT l s1).bind fun v2 =>
   (app 8 ([]:List Int) v2).bind fun v3 =>
   (app 8 v3 [x]).bind fun v4 =>
   (slcF l s1).bind fun v5 =>
   (app 8 v4 v5).bind fun v6 =>
   some v6
 else
  (slcT l s1).bind fun v7 =>
  (app 8 ([]:List Int) v7).bind fun v8 =>
  (app 8 v8 [x]).bind fun v9 =>
  (slcF l s1).bind fun v10 =>
  (app 8 v9 v10).bind fun v11 =>
  some v11) (by omega) (by omega)
 show ∃ l',whileC _ n ((0:Nat):Int) = some l'∧_
 rw [e]
 have eT:slcT l (j:Int) = some (l.take j):=by unfold slcT; rw [if_pos (by omega),Int.toNat_natCast]
 have eF:slcF l (j:Int) = some (l.drop j):=by unfold slcF; rw [if_pos (by omega),Int.toNat_natCast]
 have tl:(l.take j).length = j:=by rw [List.length_take]; omega
 have dl:(l.drop j).length = l.length - j:=List.length_drop ..
 have fin:((slcT l (j:Int)).bind fun v2 =>
  (app 8 ([]:List Int) v2).bind fun v3 =>
  (app 8 v3 [x]).bind fun v4 =>
  (slcF l (j:Int)).bind fun v5 =>
  (app 8 v4 v5).bind fun v6 =>
  some v6) = some (l.take j ++ [x] ++ l.drop j):=by
  rw [eT,Option.bind_some,app_ok (by simp only [List.length_nil]; omega),Option.bind_some,List.nil_append,app_ok (by simp only [List.length_cons,List.length_nil]; omega),Option.bind_some,eF,Option.bind_some,app_ok (by simp only [List.length_append,List.length_cons,List.length_nil]; omega)]; rfl
 have res:∃ l',some (l.take j ++ [x] ++ l.drop j) = some l'∧(∀ y,y∈l'↔y∈l∨y = x)∧l'.length≤l.length + 1:=by
  refine ⟨_,rfl,fun y=>?_,by simp only [List.length_append,List.length_cons,List.length_nil]; omega⟩
  conv=>rhs; rw [← List.take_append_drop j l]
  simp only [List.mem_append,List.mem_singleton]
  constructor
  ·rintro ((h | h) | h)
   ·exact .inl (.inl h)
   ·exact .inr h
   ·exact .inl (.inr h)
  ·rintro ((h | h) | h)
   ·exact .inl (.inl h)
   ·exact .inr h
   ·exact .inl (.inr h)
 by_cases c:j < l.length
 ·have e2:idx l (j:Int) = some l[j]:=by unfold idx; rw [if_pos (by omega),Int.toNat_natCast,List.getElem?_eq_getElem c]
  rw [if_pos (by omega),e2,Option.bind_some]
  by_cases c2:l[j] = x
  ·rw [if_pos c2]
   refine ⟨l,rfl,fun y=>⟨fun h=>.inl h,fun h=>?_⟩,by omega⟩
   rcases h with h | rfl
   ·exact h
   ·rw [← c2]; exact List.getElem_mem c
  ·rw [if_neg c2,fin]; exact res
 ·rw [if_neg (by omega),fin]; exact res
def inL:List (List Int)→List Int→Bool
 | [],_=>true
 | _ :: _,[]=>true
 | A :: As,f :: fs=>decide (f∈A) && inL As fs
theorem fits_while {A:List (List Int)} {F:List Int} (hA:A.length≤1000) (hAl:∀ x∈A,x.length≤1000) {R:Type} (k:Bool×Int→Option R):∀ (As:List (List Int)) (fs:List Int) (i m:Nat) (b:Bool),A.drop i = As→F.drop i = fs→fs.length = As.length→As.length + 2≤m →
 ∃ z,whileC (fun (s4:Bool×Int) n4 =>
  if s4.1 = true then
   if s4.2 < (A.length:Int) then
    (idx A s4.2).bind fun v2 =>
    (idx F s4.2).bind fun v3 =>
    (ref03_In v2 v3).bind fun v4 =>
    n4 (v4,w64 (s4.2 + 1))
   else
    k (true,s4.2)
  else
   k (false,s4.2)) m (b,(i:Int)) = k (b && inL As fs,z)
 | As,fs,i,0,b,_,_,_,hm=>by omega
 | [],fs,i,m + 1,b,hd,_,_,hm=>by
  have:A.length≤i:=List.drop_eq_nil_iff.1 hd
  rw [whileC,inL,Bool.and_true]
  cases b with
  | false=>exact ⟨_,by rw [if_neg (by simp)]⟩
  | true=>exact ⟨_,by rw [if_pos rfl,if_neg (by simp only []; omega)]⟩
 | X :: As,[],i,m + 1,b,hd,hf,hl,hm=>by cases hl
 | X :: As,f :: fs,i,m + 1,b,hd,hf,hl,hm=>by
  have hi:i < A.length:=by
   rcases Nat.lt_or_ge i A.length with h | h
   ·exact h
   ·rw [List.drop_eq_nil_of_le h] at hd; cases hd
  have hif:i < F.length:=by
   rcases Nat.lt_or_ge i F.length with h | h
   ·exact h
   ·rw [List.drop_eq_nil_of_le h] at hf; cases hf
  rw [List.drop_eq_getElem_cons hi] at hd
  injection hd with hd1 hd2
  rw [List.drop_eq_getElem_cons hif] at hf
  injection hf with hf1 hf2
  rw [whileC,inL]
  cases b with
  | false=>exact ⟨_,by rw [if_neg (by simp),Bool.false_and]⟩
  | true =>
   rw [if_pos rfl]
   simp only [Bool.true_and]
   have e1:idx A (i:Int) = some X:=by unfold idx; rw [if_pos (by omega),Int.toNat_natCast,List.getElem?_eq_getElem hi,hd1]
   have e2:idx F (i:Int) = some f:=by unfold idx; rw [if_pos (by omega),Int.toNat_natCast,List.getElem?_eq_getElem hif,hf1]
   have hX:X∈A:=by rw [← hd1]; exact List.getElem_mem hi
   rw [if_pos (by omega),e1,Option.bind_some,e2,Option.bind_some,in_eq X f (by have:=hAl X hX; omega),Option.bind_some,w64_eq (by omega) (by omega),show ((i:Int) + 1) = ((i + 1:Nat):Int) by omega]
   exact fits_while hA hAl k As fs (i + 1) m (decide (f∈X)) hd2 hf2 (by simpa using hl) (by simp only [List.length_cons] at hm; omega)
theorem Step_eq {r:List Int} {a:Automaton} (ha:OKa r a) {n:Nat} {s:Int} {A:List (List Int)} (hrk:(A.length:Int) = rk r s) (hA:A.length≤300) (hAl:∀ x∈A,x.length≤1000) (hn:402≤n) :
 ∃ out,ref03_Step n a s A = some out∧(∀ y,y∈out↔∃ x∈a.Rules,x.Sym = s∧x.To = y∧inL A x.From = true)∧out.length≤400:=by
 have hrul:=ha.rul
 unfold ref03_Step
 rw [rangeL,if_pos (by omega)]
 have H:∀ (l:List Rule) (i:Nat) (o:List Int),(∀ x∈l,x∈a.Rules)→o.length + l.length≤400 →
  ∃ out,rangeC (fun i3 x3 (s3:(List Int)) n3 =>
  whileL n ((x3.Sym == s),0) (fun k4 (s4:Bool×Int) n4 =>
   if s4.1 = true then
    if s4.2 < (A.length:Int) then
     (idx A s4.2).bind fun v2 =>
     (idx x3.From s4.2).bind fun v3 =>
     (ref03_In v2 v3).bind fun v4 =>
     n4 (v4,w64 (s4.2 + 1))
    else
     k4 (true,s4.2)
   else
    k4 (false,s4.2)) fun s4 =>
  if s4.1 = true then
   (ref03_Insert n s3 x3.To).bind fun v1 =>
   n3 v1
  else
   n3 s3) l i o (fun s3=>some s3) = some out∧(∀ y,y∈out↔y∈o∨∃ x∈l,x.Sym = s∧x.To = y∧inL A x.From = true)∧out.length≤400:=by
  intro l
  induction l with
  | nil=>intro i o _ h; exact ⟨o,rfl,fun y=>by simp,by simpa using h⟩
  | cons x l ih =>
   intro i o hx hl
   have hmem:=hx x (by simp)
   have hsy:=ha.sym x hmem
   rw [List.length_cons] at hl
   have hW:∀ k:Bool×Int→Option (List Int),∃ z,whileC (fun (s4:Bool×Int) n4 =>
   if s4.1 = true then
    if s4.2 < (A.length:Int) then
     (idx A s4.2).bind fun v2 =>
     (idx x.From s4.2).bind fun v3 =>
     (ref03_In v2 v3).bind fun v4 =>
     n4 (v4,w64 (s4.2 + 1))
    else
     k (true,s4.2)
   else
    k (false,s4.2)) n ((x.Sym == s),0) = k (decide (x.Sym = s) && inL A x.From,z):=by
    intro k
    by_cases c:x.Sym = s
    ·rw [decide_eq_true c,show (x.Sym == s) = true by simp [c]]
     have hfl:x.From.length = A.length:=by have:=hsy.2.2; rw [c] at this; omega
     exact fits_while (by omega) hAl k A x.From 0 n true rfl rfl hfl (by omega)
    ·rw [decide_eq_false c,show (x.Sym == s) = false by simp [c],Bool.false_and]
     obtain ⟨n',rfl⟩:∃ n',n = n' + 1:=⟨n - 1,by omega⟩
     exact ⟨0,by rw [whileC,if_neg (by simp)]⟩
   rw [rangeC,whileL]
   obtain ⟨z,e⟩:=hW (fun s4 =>
  if s4.1 = true then
   (ref03_Insert n o x.To).bind fun v1 =>
   (fun s'=>rangeC (fun i3 x3 (s3:(List Int)) n3 =>
  whileL n ((x3.Sym == s),0) (fun k4 (s4:Bool×Int) n4 =>
   if s4.1 = true then
    if s4.2 < (A.length:Int) then
     (idx A s4.2).bind fun v2 =>
     (idx x3.From s4.2).bind fun v3 =>
     (ref03_In v2 v3).bind fun v4 =>
     n4 (v4,w64 (s4.2 + 1))
    else
     k4 (true,s4.2)
   else
    k4 (false,s4.2)) fun s4 =>
  if s4.1 = true then
   (ref03_Insert n s3 x3.To).bind fun v1 =>
   n3 v1
  else
   n3 s3) l (i + 1) s' (fun s3=>some s3)) v1
  else
   (fun s'=>rangeC (fun i3 x3 (s3:(List Int)) n3 =>
  whileL n ((x3.Sym == s),0) (fun k4 (s4:Bool×Int) n4 =>
   if s4.1 = true then
    if s4.2 < (A.length:Int) then
     (idx A s4.2).bind fun v2 =>
     (idx x3.From s4.2).bind fun v3 =>
     (ref03_In v2 v3).bind fun v4 =>
     n4 (v4,w64 (s4.2 + 1))
    else
     k4 (true,s4.2)
   else
    k4 (false,s4.2)) fun s4 =>
  if s4.1 = true then
   (ref03_Insert n s3 x3.To).bind fun v1 =>
   n3 v1
  else
   n3 s3) l (i + 1) s' (fun s3=>some s3)) o)
   have hsplit:∀ {o':List Int} {out:List Int} (c:Bool),(∀ y,y∈o'↔y∈o∨(c = true∧y = x.To))→c = (decide (x.Sym = s) && inL A x.From)→(∀ y,y∈out↔y∈o'∨∃ x∈l,x.Sym = s∧x.To = y∧inL A x.From = true)→∀ y,y∈out↔y∈o∨∃ z∈x :: l,z.Sym = s∧z.To = y∧inL A z.From = true:=by
    intro o' out c h1 hc h2 y
    rw [h2,h1]
    constructor
    ·rintro ((h | ⟨h,rfl⟩) | ⟨z,hz,h⟩)
     ·exact .inl h
     ·rw [hc,Bool.and_eq_true,decide_eq_true_eq] at h
      exact .inr ⟨x,by simp,h.1,rfl,h.2⟩
     ·exact .inr ⟨z,List.mem_cons_of_mem _ hz,h⟩
    ·rintro (h | ⟨z,hz,h⟩)
     ·exact .inl (.inl h)
     ·rcases List.mem_cons.1 hz with rfl | hz
      ·exact .inl (.inr ⟨by rw [hc,Bool.and_eq_true,decide_eq_true_eq]; exact ⟨h.1,h.2.2⟩,h.2.1.symm⟩)
      ·exact .inr ⟨z,hz,h⟩
   cases c:(decide (x.Sym = s) && inL A x.From) with
   | true =>
    obtain ⟨o',eo,ho,hol⟩:=Insert_eq (n:=n) (l:=o) (x:=x.To) (by omega) (by omega)
    obtain ⟨out,e2,h2,h3⟩:=ih (i + 1) o' (fun y hy=>hx y (List.mem_cons_of_mem _ hy)) (by omega)
    refine ⟨out,?_,hsplit true (fun y=>by rw [ho]; simp) c.symm h2,h3⟩
    refine e.trans ?_
    rw [c]
    simp only [if_true]
    rw [eo,Option.bind_some]; exact e2
   | false =>
    obtain ⟨out,e2,h2,h3⟩:=ih (i + 1) o (fun y hy=>hx y (List.mem_cons_of_mem _ hy)) (by omega)
    refine ⟨out,?_,hsplit false (fun y=>by simp) c.symm h2,h3⟩
    refine e.trans ?_
    rw [c]
    exact e2
 obtain ⟨out,e,h1,h2⟩:=H a.Rules 0 [] (fun _ h=>h) (by simp; omega)
 exact ⟨out,e,fun y=>by rw [h1]; simp,h2⟩
theorem Of_eq {r:List Int} {a:Automaton} (ha:OKa r a):∀ (n:Nat) (t:Tree),tdT t + 403≤n→shT r t = true→tsT t≤300→∃ l,ref03_Of n a t = some l∧(∀ q,q∈l↔stT a t q = true)∧l.length≤400
 | 0,_,h,_,_=>by omega
 | n + 1,t,hd,hs,hl=>by
  rw [tdT_eq] at hd
  have hts:=tsT_eq t
  have htl:=tlen t.Kids
  obtain ⟨s1,s2,s3,s4⟩:=sh_parts hs
  unfold ref03_Of
  rw [rangeL,if_pos (by omega)]
  have H:∀ (ks:List Tree) (i:Nat) (acc:List (List Int)) (K:List (List Int)→Option (List Int)),tdL ks + 403≤n + 1→shL r ks = true→tsL ks≤300→acc.length + ks.length≤1000 →
   ∃ A,rangeC (fun i1 x1 (s1:(List (List Int))) n1 =>
   (ref03_Of n a x1).bind fun v2 =>
   (app 24 s1 [v2]).bind fun v3 =>
   n1 v3) ks i acc K = K (acc ++ A)∧A.length = ks.length∧(∀ x∈A,x.length≤1000)∧∀ f:List Int,inL A f = stL a ks f:=by
   intro ks
   induction ks with
   | nil=>intro i acc K _ _ _ _; refine ⟨[],by rw [rangeC,List.append_nil],rfl,(fun x h=>by cases h),fun f=>by rw [inL,stL]⟩
   | cons k ks ih =>
    intro i acc K h1 h2 h3 h4
    have hdk:tdT k + 1≤tdL (k :: ks):=td_mem (by simp)
    have hdks:tdL ks≤tdL (k :: ks):=by rw [tdL]; omega
    obtain ⟨q1,q2⟩:=shL_cons h2
    rw [tsL] at h3
    rw [List.length_cons] at h4
    obtain ⟨v,ev,hv,hvl⟩:=Of_eq ha n k (by omega) q1 (by omega)
    obtain ⟨A,e,h5,h6,h7⟩:=ih (i + 1) (acc ++ [v]) K (by omega) q2 (by omega) (by simp only [List.length_append,List.length_cons,List.length_nil]; omega)
    refine ⟨v :: A,?_,by rw [List.length_cons,List.length_cons,h5],fun x hx=>?_,fun f=>?_⟩
    ·rw [rangeC,ev,Option.bind_some,app_ok (by simp only [List.length_cons,List.length_nil]; omega),Option.bind_some]
     show rangeC _ ks (i + 1) _ K = _
     rw [e,List.append_assoc]; rfl
    ·rcases List.mem_cons.1 hx with rfl | hx
     ·omega
     ·exact h6 x hx
    ·cases f with
     | nil=>rw [inL,stL]
     | cons f fs =>
      rw [inL,stL,h7]
      congr 1
      by_cases c:f∈v
      ·rw [decide_eq_true c,(hv f).1 c]
      ·rw [decide_eq_false c]; exact (Bool.eq_false_iff.2 (fun h=>c ((hv f).2 h))).symm
  obtain ⟨A,e,h5,h6,h7⟩:=H t.Kids 0 [] (fun s1=>(ref03_Step n a t.Sym s1).bind fun v1=>some v1) (by omega) s4 (by omega) (by simp; omega)
  obtain ⟨out,e2,h8,h9⟩:=Step_eq ha (n:=n) (s:=t.Sym) (A:=A) (by rw [h5]; exact s3) (by omega) h6 (by omega)
  refine ⟨out,?_,fun q=>?_,h9⟩
  ·rw [e,List.nil_append,e2]; rfl
  ·rw [h8,stT_eq,List.any_eq_true]
   constructor
   ·rintro ⟨x,hx,g1,g2,g3⟩
    exact ⟨x,hx,by rw [← h7,g3,decide_eq_true ⟨g1,g2⟩]; rfl⟩
   ·rintro ⟨x,hx,g⟩
    rw [Bool.and_eq_true,decide_eq_true_eq,← h7] at g
    exact ⟨x,hx,g.1.1,g.1.2,g.2⟩
theorem Has_eq {r:List Int} {a:Automaton} (ha:OKa r a) {n:Nat} {t:Tree} (hd:tdT t + 403≤n) (hs:shT r t = true) (hl:tsT t≤300):ref03_Has n a t = some (a.Final.find? (stT a t)).isSome:=by
 obtain ⟨l,e,h1,h2⟩:=Of_eq ha n t hd hs hl
 unfold ref03_Has ref03_Meet
 rw [e,Option.bind_some,rangeL,if_pos (by omega)]
 have H:∀ (l:List Int) (i:Nat),rangeC (fun i1 x1 (s1:Unit) n1 =>
  (ref03_In a.Final x1).bind fun v1 =>
  if v1 = true then
   some true
  else
   n1 ()) l i () (fun s1=>some false) = some (l.any fun x=>decide (x∈a.Final)):=by
  intro l
  induction l with
  | nil=>intro i; rfl
  | cons x l ih =>
   intro i
   rw [rangeC,in_eq _ _ (by have:=ha.fin; omega),Option.bind_some,List.any_cons]
   cases decide (x∈a.Final) with
   | true=>rw [if_pos rfl,Bool.true_or]
   | false=>rw [if_neg (by simp),Bool.false_or]; exact ih (i + 1)
 rw [H l 0,Option.bind_some]
 congr 1
 rw [Bool.eq_iff_iff,List.any_eq_true,List.find?_isSome]
 constructor
 ·rintro ⟨x,hx,h⟩
  exact ⟨x,of_decide_eq_true h,(h1 x).1 hx⟩
 ·rintro ⟨x,hx,h⟩
  exact ⟨x,(h1 x).2 h,decide_eq_true hx⟩
end A3
end Go.AM.S22

namespace Go.AM.S22
open Go Go.Proofs Go.AM
set_option linter.unusedVariables false
set_option maxRecDepth 100000
set_option maxHeartbeats 4000000
namespace Fx
open Go Go.Proofs Go.AM Go.AM.S22 Go.AM.S22.Tab
def sumT (v:List Int):List Int→Int→Int
 | [],n=>n
 | s :: f,n=>sumT v f (plusI (if gz v s = 0 then 4611686018427387904 else n) (gz v s))
def sumV (v:List Int):List Int→Int
 | []=>0
 | s :: f=>gz v s + sumV v f
section
variable {a:Automaton} {v:List Int} {m:Nat}
theorem plusI_top {x:Int} (h:0≤x):plusI 4611686018427387904 x = 4611686018427387904:=by unfold plusI; rw [if_pos (by omega)]
theorem sumT_top (hv:ZV m v):∀ f,sumT v f 4611686018427387904 = 4611686018427387904
 | []=>rfl
 | s :: f=>by
  have:=hv.gz s
  rw [sumT,ite_self,plusI_top this.1]; exact sumT_top hv f
theorem sumT_small (hv:ZV m v):∀ (f:List Int) (n:Int),0≤n→sumT v f n < 4611686018427387904→sumT v f n = n + sumV v f∧∀ s∈f,gz v s≠0
 | [],n,_,_=>⟨by rw [sumT,sumV]; omega,fun s h=>by cases h⟩
 | s :: f,n,h0,h=>by
  have hg:=hv.gz s
  rw [sumT] at h ⊢
  by_cases c:gz v s = 0
  ·rw [if_pos c,plusI_top hg.1,sumT_top hv] at h; omega
  ·rw [if_neg c] at h ⊢
   by_cases d:4611686018427387904≤n + gz v s
   ·rw [show plusI n (gz v s) = 4611686018427387904 from if_pos d,sumT_top hv] at h; omega
   ·have e:plusI n (gz v s) = n + gz v s:=if_neg d
    rw [e] at h ⊢
    obtain ⟨h1,h2⟩:=sumT_small hv f _ (by omega) h
    refine ⟨by rw [h1,sumV]; omega,fun y hy=>?_⟩
    rcases List.mem_cons.1 hy with rfl | hy
    ·exact c
    ·exact h2 y hy
theorem sumT_of:∀ (f:List Int) (n k:Int),Sz.costL v f n = some k→sumT v f n = k
 | [],n,k,h=>by rw [Sz.costL] at h; injection h
 | s :: f,n,k,h=>by
  rw [Sz.costL,gv_gz] at h
  split at h
  ·cases h
  ·rename_i c
   rw [sumT,if_neg c,← pl_plus]
   exact sumT_of f _ k h
theorem sumV_pos (hv:ZV m v):∀ f,0≤sumV v f
 | []=>by rw [sumV]; exact Int.le_refl _
 | s :: f=>by have:=hv.gz s; have:=sumV_pos hv f; rw [sumV]; omega
theorem sumV_mem (hv:ZV m v):∀ f,∀ y∈f,gz v y≤sumV v f
 | [],y,h=>by cases h
 | s :: f,y,h=>by
  have h1:=hv.gz s
  have h2:=sumV_pos hv f
  rw [sumV]
  rcases List.mem_cons.1 h with rfl | h
  ·omega
  ·have:=sumV_mem hv f y h; omega
theorem rule_ex (ha:OKa a) (hg:Sz.Good a.Rules a.States.toNat v) (hL:Sz.Low a.Rules v) {q:Int} (h0:0≤q) (h1:gz v q≠0):∃ x∈a.Rules,x.To = q∧sumT v x.From 1 = gz v q:=by
 obtain ⟨t,ht,e⟩:=hg.2 q h0 h1
 rw [gv_gz] at e
 cases ht with
 | @mk x ks hx hk =>
  refine ⟨x,hx,rfl,?_⟩
  have hb:=Sz.bnd_of ks x.From hk (fun t q _ hd=>hL t q hd)
  obtain ⟨n,e1,h2⟩:=Sz.cost_low ks x.From 1 (Sz.capI 1) hb (Int.le_refl _)
  obtain ⟨ks',k1,k2⟩:=Sz.cost_good hg x.From 1 n (fun s hs=>(ha.from' x hx s hs).1) e1
  have hl:=(hL _ _ (.mk hx k1)).2
  have c1:Sz.capI 1 = 1:=rfl
  rw [c1] at e1
  rw [sumT_of _ _ _ e1]
  rw [gv_gz] at hl
  rw [tsT_eq] at hl e
  dsimp only at hl e
  rw [e] at hl ⊢
  omega
def GT (a:Automaton) (v:List Int) (t:Tree) (q:Int):Prop:=Sz.Der a.Rules t q∧(tsT t:Int) = gz v q
def KI (a:Automaton) (v:List Int) (kn:List (Int×Tree)):Prop:=∀ q t,mget q kn = some t→GT a v t q
theorem mget_put {K V:Type} [DecidableEq K] (k:K) (x:V) (q:K):∀ l:List (K×V),mget q (mput k x l) = if q = k then some x else mget q l
 | []=>rfl
 | (k',v') :: r=>by
  rw [mput]
  by_cases c:k = k'
  ·subst c
   rw [if_pos rfl,mget,mget]
   by_cases d:q = k
   ·rw [if_pos d,if_pos d]
   ·rw [if_neg d,if_neg d,if_neg d]
  ·rw [if_neg c,mget,mget,mget_put k x q r]
   by_cases d:q = k'
   ·rw [if_pos d,if_pos d,if_neg (fun e=>c (e.symm.trans d))]
   ·rw [if_neg d,if_neg d]
theorem KI.put {kn:List (Int×Tree)} (h:KI a v kn) {s:Int} {t:Tree} (ht:GT a v t s):KI a v (mput s t kn):=by
 intro q u hq
 rw [mget_put] at hq
 split at hq
 ·rename_i e; injection hq with hq; subst hq; subst e; exact ht
 ·exact h q u hq
structure TOI (a:Automaton) (v:List Int) (i:Nat) (w:List (List Int)):Prop where
 len:w.length = a.States.toNat
 snd:∀ (q:Nat) l,w[q]? = some l→l.length≤i∧∀ y∈l,∃ (j:Nat) (x:Rule),y = (j:Int)∧a.Rules[j]? = some x∧x.To = (q:Int)∧sumT v x.From 1 = gz v (q:Int)∧sumT v x.From 1 < 4611686018427387904
 cpl:∀ (j:Nat) x,j < i→a.Rules[j]? = some x→sumT v x.From 1 = gz v x.To→sumT v x.From 1 < 4611686018427387904→∃ l,w[x.To.toNat]? = some l∧l≠[]
theorem TOI.zero (ha:OKa a):TOI a v 0 (List.replicate a.States.toNat []) :=
 ⟨List.length_replicate ..,fun q l h=>by
  have:=List.eq_of_mem_replicate (List.mem_of_getElem? h)
  subst this
  exact ⟨Nat.zero_le _,fun y h=>by cases h⟩,fun j x h=>absurd h (Nat.not_lt_zero _)⟩
theorem TOI.skip {i:Nat} {w:List (List Int)} (h:TOI a v i w) {x:Rule} (hx:a.Rules[i]? = some x) (hn:¬ (sumT v x.From 1 = gz v x.To∧sumT v x.From 1 < 4611686018427387904)):TOI a v (i + 1) w :=
 ⟨h.len,fun q l hq=>⟨Nat.le_succ_of_le (h.snd q l hq).1,(h.snd q l hq).2⟩,fun j y hj hy h1 h2=>by
  by_cases c:j = i
  ·subst c; rw [hx] at hy; injection hy with hy; subst hy; exact absurd ⟨h1,h2⟩ hn
  ·exact h.cpl j y (by omega) hy h1 h2⟩
theorem TOI.add {i:Nat} {w:List (List Int)} (h:TOI a v i w) {x:Rule} (hx:a.Rules[i]? = some x) (h0:0≤x.To) {l:List Int} (hl:w[x.To.toNat]? = some l) (h1:sumT v x.From 1 = gz v x.To) (h2:sumT v x.From 1 < 4611686018427387904):TOI a v (i + 1) (w.set x.To.toNat (l ++ [(i:Int)])):=by
 have hlt:=(List.getElem?_eq_some_iff.1 hl).1
 refine ⟨by rw [List.length_set,h.len],fun q l' hq=>?_,fun j y hj hy g1 g2=>?_⟩
 ·by_cases c:x.To.toNat = q
  ·subst c
   rw [List.getElem?_set_self hlt] at hq
   injection hq with hq; subst hq
   have:=h.snd _ _ hl
   refine ⟨by rw [List.length_append]; simp; omega,fun y hy=>?_⟩
   rcases List.mem_append.1 hy with hy | hy
   ·exact this.2 y hy
   ·rw [List.mem_singleton] at hy
    exact ⟨i,x,hy,hx,by omega,by rw [h1]; congr 1; omega,h2⟩
  ·rw [List.getElem?_set_ne c] at hq
   exact ⟨Nat.le_succ_of_le (h.snd q l' hq).1,(h.snd q l' hq).2⟩
 ·by_cases c:x.To.toNat = y.To.toNat
  ·rw [← c,List.getElem?_set_self hlt]
   exact ⟨_,rfl,by simp⟩
  ·rw [List.getElem?_set_ne c]
   by_cases d:j = i
   ·subst d; rw [hx] at hy; injection hy with hy; subst hy; exact absurd rfl c
   ·exact h.cpl j y (by omega) hy g1 g2
theorem copy_eq:∀ (n:Nat) (t:Tree),tdT t < n→tsT t≤100000→tree_Copy n t = some t
 | 0,_,h,_=>by omega
 | n + 1,.mk s ks,hd,hs=>by
  rw [tdT_eq] at hd
  have hts:=tsT_eq (.mk s ks)
  have htl:=tlen ks
  dsimp only at hd hts
  rw [tree_Copy,rangeL,if_pos (by dsimp only; omega)]
  dsimp only
  have H:∀ (ks:List Tree) (i:Nat) (acc:List Tree) (K:List Tree→Option Tree),tdL ks < n + 1→tsL ks≤100000→acc.length + ks.length≤200000 →
   rangeC (fun i1 x1 (s1:(List Tree)) n1 =>
   (tree_Copy n x1).bind fun v1 =>
   (app 32 s1 [v1]).bind fun v2 =>
   n1 v2) ks i acc K = K (acc ++ ks):=by
   intro ks
   induction ks with
   | nil=>intro i acc K _ _ _; rw [rangeC,List.append_nil]
   | cons k ks ih =>
    intro i acc K h1 h2 h3
    have hdk:tdT k + 1≤tdL (k :: ks):=A3.td_mem (by simp)
    have hdks:tdL ks≤tdL (k :: ks):=by rw [tdL]; omega
    rw [tsL] at h2
    rw [List.length_cons] at h3
    rw [rangeC,copy_eq n k (by omega) (by omega),Option.bind_some,app_ok (by simp only [List.length_cons,List.length_nil]; omega),Option.bind_some]
    refine (ih (i + 1) (acc ++ [k]) K (by omega) (by omega) (by simp only [List.length_append,List.length_cons,List.length_nil]; omega)).trans ?_
    rw [List.append_assoc]; rfl
  rw [H ks 0 [] _ (by omega) (by omega) (by simp; omega),List.nil_append]
end
end Fx
end Go.AM.S22

namespace Go.AM.S22
open Go Go.Proofs Go.AM
set_option linter.unusedVariables false
set_option maxRecDepth 100000
set_option maxHeartbeats 4000000
namespace Fx
open Go Go.Proofs Go.AM Go.AM.S22 Go.AM.S22.Tab
section
variable {a:Automaton} {v:List Int}
theorem of_eq (ha:OKa a) (hv:ZV a.States.toNat v) (hg:Sz.Good a.Rules a.States.toNat v) (hL:Sz.Low a.Rules v) {w:List (List Int)} (hw:TOI a v a.Rules.length w):∀ (n:Nat) (s:Int) (kn:List (Int×Tree)),
 0≤s→s < a.States→0 < gz v s→gz v s≤300→gz v s + 2≤(n:Int)→KI a v kn→∃ t kn',empty_least_1_xesfcdo n s a kn w a.States.toNat = some (t,kn')∧GT a v t s∧KI a v kn'
 | 0,s,kn,h0,h1,h2,h3,h4,h5=>by omega
 | n + 1,s,kn,h0,h1,h2,h3,h4,h5=>by
  have hst:=ha.st
  have hrul:=ha.rul
  rw [empty_least_1_xesfcdo]
  cases c:mget s kn with
  | some t =>
   exact ⟨t,kn,rfl,h5 s t c,h5⟩
  | none =>
   rw [if_neg (by simp)]
   obtain ⟨l,hl⟩:∃ l,w[s.toNat]? = some l:=⟨_,List.getElem?_eq_getElem (by rw [hw.len]; omega)⟩
   have hne:l≠[]:=by
    obtain ⟨x,hx,e1,e2⟩:=rule_ex ha hg hL h0 (by omega)
    obtain ⟨j,hj⟩:=List.getElem?_of_mem hx
    obtain ⟨l',f1,f2⟩:=hw.cpl j x (List.getElem?_eq_some_iff.1 hj).1 hj (by rw [e1,e2]) (by omega)
    rw [e1,hl] at f1
    injection f1 with f1; subst f1; exact f2
   obtain ⟨hll,hls⟩:=hw.snd _ _ hl
   have hidx:idxM a.States.toNat w s = some l:=by unfold idxM; rw [if_pos (by omega),hl]
   rw [hidx,Option.bind_some,rangeL,if_pos (by omega)]
   have Inn:∀ (f:List Int) (i:Nat) (kn:List (Int×Tree)) (ks:List Tree) (K:List (Int×Tree)×List Tree→Option (Tree×List (Int×Tree))),(∀ y∈f,0≤y∧y < a.States∧0 < gz v y∧gz v y + 1≤gz v s)→KI a v kn→ks.length + f.length≤1000 →
    ∃ kn' qs,rangeC (fun i4 x4 (s4:(List (Int×Tree))×(List Tree)) n4 =>
    (empty_least_1_xesfcdo n x4 a s4.1 w a.States.toNat).bind fun v4 =>
    (app 32 s4.2 [v4.1]).bind fun v5 =>
    n4 (v4.2,v5)) f i (kn,ks) K = K (kn',ks ++ qs)∧KI a v kn'∧Sz.DerL a.Rules qs f∧(tsL qs:Int) = sumV v f:=by
    intro f
    induction f with
    | nil=>intro i kn ks K _ hk _; exact ⟨kn,[],by rw [rangeC,List.append_nil],hk,.nil,by rw [tsL,sumV]; rfl⟩
    | cons y f ih =>
     intro i kn ks K hf hk hlen
     obtain ⟨y0,y1,y2,y3⟩:=hf y (by simp)
     rw [List.length_cons] at hlen
     obtain ⟨t,kn1,e1,e2,e3⟩:=of_eq ha hv hg hL hw n y kn y0 y1 y2 (by omega) (by omega) hk
     obtain ⟨kn2,qs,f1,f2,f3,f4⟩:=ih (i + 1) kn1 (ks ++ [t]) K (fun z hz=>hf z (List.mem_cons_of_mem _ hz)) e3 (by simp only [List.length_append,List.length_cons,List.length_nil]; omega)
     refine ⟨kn2,t :: qs,?_,f2,.cons e2.1 f3,by rw [tsL,sumV,← f4,← e2.2]; omega⟩
     rw [rangeC,e1,Option.bind_some,app_ok (by simp only [List.length_cons,List.length_nil]; omega),Option.bind_some]
     refine Eq.trans f1 ?_
     rw [List.append_assoc]; rfl
   have Out:∀ (l:List Int) (i:Nat) (kn:List (Int×Tree)) (sy:Int) (ks:List Tree) (K:List (Int×Tree)×Int×List Tree→Option (Tree×List (Int×Tree))),(∀ y∈l,∃ (j:Nat) (x:Rule),y = (j:Int)∧a.Rules[j]? = some x∧x.To = s∧sumT v x.From 1 = gz v s∧sumT v x.From 1 < 4611686018427387904)→KI a v kn→(i≠0→GT a v (.mk sy ks) s)→(l = []→i≠0) →
    ∃ kn' sy' ks',rangeC (fun i3 x3 (s3:(List (Int×Tree))×Int×(List Tree)) n3 =>
    (idx a.Rules x3).bind fun v2 =>
    rangeL v2.From (s3.1,([]:List Tree)) (fun k4 i4 x4 (s4:(List (Int×Tree))×(List Tree)) n4 =>
     (empty_least_1_xesfcdo n x4 a s4.1 w a.States.toNat).bind fun v4 =>
     (app 32 s4.2 [v4.1]).bind fun v5 =>
     n4 (v4.2,v5)) fun s4 =>
    if (i3:Int) = 0 then
     n3 (s4.1,v2.Sym,s4.2)
    else
     (tree_Compare n (Tree.mk v2.Sym s4.2) (Tree.mk s3.2.1 s3.2.2)).bind fun v3 =>
     if v3 < 0 then
      n3 (s4.1,v2.Sym,s4.2)
     else
      n3 (s4.1,s3.2.1,s3.2.2)) l i (kn,sy,ks) K = K (kn',sy',ks')∧KI a v kn'∧GT a v (.mk sy' ks') s:=by
    intro l
    induction l with
    | nil=>intro i kn sy ks K _ hk hG hi; exact ⟨kn,sy,ks,rfl,hk,hG (hi rfl)⟩
    | cons y l ih =>
     intro i kn sy ks K hy hk hG _
     obtain ⟨j,x,rfl,hx,xt,x1,x2⟩:=hy y (by simp)
     have hxm:=List.mem_of_getElem? hx
     have hfl:=ha.frm x hxm
     obtain ⟨hsum,hnz⟩:=sumT_small hv x.From 1 (by omega) x2
     have hxi:idx a.Rules (j:Int) = some x:=by unfold idx; rw [if_pos (by omega),Int.toNat_natCast,hx]
     obtain ⟨kn1,qs,f1,f2,f3,f4⟩:=Inn x.From 0 kn [] (fun s4=>if (i:Int) = 0 then
     (fun s'=>rangeC (fun i3 x3 (s3:(List (Int×Tree))×Int×(List Tree)) n3 =>
    (idx a.Rules x3).bind fun v2 =>
    rangeL v2.From (s3.1,([]:List Tree)) (fun k4 i4 x4 (s4:(List (Int×Tree))×(List Tree)) n4 =>
     (empty_least_1_xesfcdo n x4 a s4.1 w a.States.toNat).bind fun v4 =>
     (app 32 s4.2 [v4.1]).bind fun v5 =>
     n4 (v4.2,v5)) fun s4 =>
    if (i3:Int) = 0 then
     n3 (s4.1,v2.Sym,s4.2)
    else
     (tree_Compare n (Tree.mk v2.Sym s4.2) (Tree.mk s3.2.1 s3.2.2)).bind fun v3 =>
     if v3 < 0 then
      n3 (s4.1,v2.Sym,s4.2)
     else
      n3 (s4.1,s3.2.1,s3.2.2)) l (i + 1) s' K) (s4.1,x.Sym,s4.2)
    else
     (tree_Compare n (Tree.mk x.Sym s4.2) (Tree.mk sy ks)).bind fun v3 =>
     if v3 < 0 then
      (fun s'=>rangeC (fun i3 x3 (s3:(List (Int×Tree))×Int×(List Tree)) n3 =>
    (idx a.Rules x3).bind fun v2 =>
    rangeL v2.From (s3.1,([]:List Tree)) (fun k4 i4 x4 (s4:(List (Int×Tree))×(List Tree)) n4 =>
     (empty_least_1_xesfcdo n x4 a s4.1 w a.States.toNat).bind fun v4 =>
     (app 32 s4.2 [v4.1]).bind fun v5 =>
     n4 (v4.2,v5)) fun s4 =>
    if (i3:Int) = 0 then
     n3 (s4.1,v2.Sym,s4.2)
    else
     (tree_Compare n (Tree.mk v2.Sym s4.2) (Tree.mk s3.2.1 s3.2.2)).bind fun v3 =>
     if v3 < 0 then
      n3 (s4.1,v2.Sym,s4.2)
     else
      n3 (s4.1,s3.2.1,s3.2.2)) l (i + 1) s' K) (s4.1,x.Sym,s4.2)
     else
      (fun s'=>rangeC (fun i3 x3 (s3:(List (Int×Tree))×Int×(List Tree)) n3 =>
    (idx a.Rules x3).bind fun v2 =>
    rangeL v2.From (s3.1,([]:List Tree)) (fun k4 i4 x4 (s4:(List (Int×Tree))×(List Tree)) n4 =>
     (empty_least_1_xesfcdo n x4 a s4.1 w a.States.toNat).bind fun v4 =>
     (app 32 s4.2 [v4.1]).bind fun v5 =>
     n4 (v4.2,v5)) fun s4 =>
    if (i3:Int) = 0 then
     n3 (s4.1,v2.Sym,s4.2)
    else
     (tree_Compare n (Tree.mk v2.Sym s4.2) (Tree.mk s3.2.1 s3.2.2)).bind fun v3 =>
     if v3 < 0 then
      n3 (s4.1,v2.Sym,s4.2)
     else
      n3 (s4.1,s3.2.1,s3.2.2)) l (i + 1) s' K) (s4.1,sy,ks)) (fun z hz=>by
      have h1:=ha.from' x hxm z hz
      have h2:=hnz z hz
      have h3:=hv.gz z
      have h4:=sumV_mem hv x.From z hz
      exact ⟨h1.1,h1.2,by omega,by omega⟩) hk (by simp only [List.length_nil]; omega)
     rw [List.nil_append] at f1
     have hT:GT a v (.mk x.Sym qs) s:=by
      refine ⟨by rw [← xt]; exact .mk hxm f3,?_⟩
      rw [tsT_eq]; dsimp only; omega
     rw [rangeC,hxi,Option.bind_some,rangeL,if_pos (by omega)]
     have ihn:=fun sy' ks' (h:GT a v (.mk sy' ks') s)=>ih (i + 1) kn1 sy' ks' K (fun z hz=>hy z (List.mem_cons_of_mem _ hz)) f2 (fun _=>h) (fun _=>by omega)
     by_cases ci:(i:Int) = 0
     ·obtain ⟨kn',sy',ks',g1,g2⟩:=ihn _ _ hT
      refine ⟨kn',sy',ks',?_,g2⟩
      refine Eq.trans f1 ?_
      rw [if_pos ci]; exact g1
     ·have hB:=hG (by omega)
      have hT2:=hT.2
      have hB2:=hB.2
      have d1:=td_le (.mk x.Sym qs)
      have d2:=td_le (.mk sy ks)
      have hcmp:=Compare_eq (n:=n) (x:=.mk x.Sym qs) (y:=.mk sy ks) (by omega) (by omega) (by omega) (by omega)
      by_cases cc:cmpF n (.mk x.Sym qs) (.mk sy ks) < 0
      ·obtain ⟨kn',sy',ks',g1,g2⟩:=ihn _ _ hT
       refine ⟨kn',sy',ks',?_,g2⟩
       refine Eq.trans f1 ?_
       rw [if_neg ci,hcmp,Option.bind_some,if_pos cc]; exact g1
      ·obtain ⟨kn',sy',ks',g1,g2⟩:=ihn _ _ hB
       refine ⟨kn',sy',ks',?_,g2⟩
       refine Eq.trans f1 ?_
       rw [if_neg ci,hcmp,Option.bind_some,if_neg cc]; exact g1
   obtain ⟨kn',sy',ks',g1,g2,g3⟩:=Out l 0 kn 0 [] (fun s3=>some ((Tree.mk s3.2.1 s3.2.2),(mput s (Tree.mk s3.2.1 s3.2.2) s3.1))) (fun y hy=>by
    obtain ⟨j,x,e1,e2,e3,e4,e5⟩:=hls y hy
    have:((s.toNat:Nat):Int) = s:=by omega
    rw [this] at e3 e4
    exact ⟨j,x,e1,e2,e3,e4,e5⟩) h5 (fun h=>absurd rfl h) (fun h=>absurd h hne)
   exact ⟨_,_,g1,g3,g2.put g3⟩
end
end Fx
end Go.AM.S22

namespace Go.AM.S22
open Go Go.Proofs Go.AM
set_option linter.unusedVariables false
set_option maxRecDepth 100000
set_option maxHeartbeats 4000000
namespace Fx
open Go Go.Proofs Go.AM Go.AM.S22 Go.AM.S22.Tab
section
variable {a:Automaton} {v:List Int} {n0:Nat}
theorem sumT_loop (hv:ZV a.States.toNat v) {R:Type} (K:Int→Option R):∀ (f:List Int) (i:Nat) (s:Int),(∀ y∈f,0≤y∧y < (a.States.toNat:Int))→0≤s→s≤4611686018427387904 →
 rangeC (fun i6 x6 (s6:Int) n6 =>
  (idx v x6).bind fun v10 =>
  if v10 = 0 then
   (empty_plus 4611686018427387904 v10).bind fun v11 =>
   n6 v11
  else
   (empty_plus s6 v10).bind fun v12 =>
   n6 v12) f i s K = K (sumT v f s)
 | [],i,s,_,_,_=>by rw [rangeC,sumT]
 | y :: f,i,s,hf,h0,h1=>by
  have hy:=hf y (by simp)
  have hg:=hv.gz y
  have e1:idx v y = some (gz v y):=idx_get hv.len hy.1 hy.2
  rw [rangeC,e1,Option.bind_some,sumT]
  have hb:∀ q:Int,0≤q→q≤4611686018427387904→0≤plusI q (gz v y)∧plusI q (gz v y)≤4611686018427387904:=fun q _ _=>by unfold plusI; split <;> omega
  by_cases c:gz v y = 0
  ·rw [if_pos c,eplus_eq (by omega) (by omega) hg.1 hg.2,Option.bind_some,if_pos c]
   have:=hb 4611686018427387904 (by omega) (by omega)
   exact sumT_loop hv K f (i + 1) _ (fun z hz=>hf z (List.mem_cons_of_mem _ hz)) this.1 this.2
  ·rw [if_neg c,eplus_eq h0 h1 hg.1 hg.2,Option.bind_some,if_neg c]
   have:=hb s h0 h1
   exact sumT_loop hv K f (i + 1) _ (fun z hz=>hf z (List.mem_cons_of_mem _ hz)) this.1 this.2
theorem to_loop (ha:OKa a) (hv:ZV a.States.toNat v) {R:Type} (K:List (List Int)→Option R):∀ (l:List Rule) (i:Nat) (w:List (List Int)),a.Rules.drop i = l→i≤a.Rules.length→TOI a v i w →
 ∃ w',rangeC (fun i4 x4 (s4:(List (List Int))) n4 =>
  rangeL x4.From 1 (fun k6 i6 x6 (s6:Int) n6 =>
   (idx v x6).bind fun v10 =>
   if v10 = 0 then
    (empty_plus 4611686018427387904 v10).bind fun v11 =>
    n6 v11
   else
    (empty_plus s6 v10).bind fun v12 =>
    n6 v12) fun s6 =>
  (idx v x4.To).bind fun v7 =>
  if s6 = v7 then
   if s6 < 4611686018427387904 then
    (idxM ((a.States).toNat) s4 x4.To).bind fun v8 =>
    (app 8 v8 [(i4:Int)]).bind fun v9 =>
    n4 (List.set s4 ((x4.To).toNat) v9)
   else
    n4 s4
  else
   n4 s4) l i w K = K w'∧TOI a v a.Rules.length w'
 | [],i,w,hd,hi,hw=>by
  have hl:a.Rules.length≤i:=List.drop_eq_nil_iff.1 hd
  have:i = a.Rules.length:=by omega
  subst this
  exact ⟨w,rfl,hw⟩
 | x :: l,i,w,hd,_,hw=>by
  have hrul:=ha.rul
  have hst:=ha.st
  have hi:i < a.Rules.length:=by
   rcases Nat.lt_or_ge i a.Rules.length with h | h
   ·exact h
   ·rw [List.drop_eq_nil_of_le h] at hd; cases hd
  rw [List.drop_eq_getElem_cons hi] at hd
  injection hd with hd1 hd2
  have hx:a.Rules[i]? = some x:=by rw [List.getElem?_eq_getElem hi,hd1]
  have hxm:=List.mem_of_getElem? hx
  have hto:=ha.to x hxm
  have hfl:=ha.frm x hxm
  have e1:idx v x.To = some (gz v x.To):=idx_get hv.len hto.1 (by omega)
  obtain ⟨l0,hl0⟩:∃ l0,w[x.To.toNat]? = some l0:=⟨_,List.getElem?_eq_getElem (by rw [hw.len]; omega)⟩
  rw [rangeC,rangeL,if_pos (by omega),sumT_loop hv _ x.From 0 1 (fun y hy=>by have:=ha.from' x hxm y hy; omega) (by omega) (by omega),e1,Option.bind_some]
  by_cases c1:sumT v x.From 1 = gz v x.To
  ·by_cases c2:sumT v x.From 1 < 4611686018427387904
   ·have e2:idxM a.States.toNat w x.To = some l0:=by unfold idxM; rw [if_pos (by omega),hl0]
    have hll:=(hw.snd _ _ hl0).1
    rw [if_pos c1,if_pos c2,e2,Option.bind_some,app_ok (by simp only [List.length_cons,List.length_nil]; omega),Option.bind_some]
    exact to_loop ha hv K l (i + 1) _ hd2 hi (hw.add hx hto.1 hl0 c1 c2)
   ·rw [if_pos c1,if_neg c2]
    exact to_loop ha hv K l (i + 1) _ hd2 hi (hw.skip hx (fun h=>c2 h.2))
  ·rw [if_neg c1]
   exact to_loop ha hv K l (i + 1) _ hd2 hi (hw.skip hx (fun h=>c1 h.1))
theorem LeastOf_eq (r:List Int) (ha:OKa a) (hZ:SZ a v n0) (w:AW a) (hva:aV r a = true) {n:Nat} (hn:400≤n) {s:Int} (h0:0≤s) (h1:s < a.States) (h2:gz v s≠0) :
 (gz v s≤300→∃ u,empty_LeastOf n ⟨r⟩ a s = some (u,0)∧GT a v u s)∧(300 < gz v s→empty_LeastOf n ⟨r⟩ a s = some (.mk 0 [],3)):=by
 have hst:=ha.st
 have hrul:=ha.rul
 have hg:=hZ.zv.gz s
 have e1:idx v s = some (gz v s):=idx_get hZ.zv.len h0 (by omega)
 unfold empty_LeastOf
 rw [auto_eq r a w,Option.bind_some,if_pos hva,if_neg (by omega),if_neg (by omega)]
 unfold empty_first
 rw [hZ.e,Option.bind_some,rangeL,if_pos (by simp only [List.length_cons,List.length_nil]; omega),rangeC,e1,Option.bind_some,if_pos (by omega),if_pos rfl]
 show (gz v s≤300→∃ u,Option.bind (if gz v s = 0 then _ else _) _ = _∧_)∧(300 < gz v s→Option.bind (if gz v s = 0 then _ else _) _ = _)
 rw [if_neg h2]
 refine ⟨fun h=>?_,fun h=>by rw [if_pos h]; rfl⟩
 rw [if_neg (by omega)]
 have hm:mkz 24 a.States a.States ([]:List Int) = some (List.replicate a.States.toNat []):=by unfold mkz; rw [if_pos (by omega)]
 rw [hm,Option.bind_some,rangeL,if_pos (by omega)]
 obtain ⟨w',f1,f2⟩:=to_loop ha hZ.zv (fun s4=>rangeL [s] (false,([]:List (Int×Tree)),0,([]:List Tree)) (fun k5 i5 x5 (s5:Bool×(List (Int×Tree))×Int×(List Tree)) n5 =>
  (idx v x5).bind fun v4 =>
  if v4 = gz v s then
   (empty_least_1_xesfcdo n x5 a s5.2.1 s4 ((a.States).toNat)).bind fun v5 =>
   if s5.1 = true then
    (tree_Compare n v5.1 (Tree.mk s5.2.2.1 s5.2.2.2)).bind fun v6 =>
    if v6 < 0 then
     n5 (true,v5.2,v5.1.Sym,v5.1.Kids)
    else
     n5 (true,v5.2,s5.2.2.1,s5.2.2.2)
   else
    n5 (true,v5.2,v5.1.Sym,v5.1.Kids)
  else
   n5 (s5.1,s5.2.1,s5.2.2.1,s5.2.2.2)) fun s5 =>
  (tree_Copy n (Tree.mk s5.2.2.1 s5.2.2.2)).bind fun v3 =>
  some (v3,(0:Int))) a.Rules 0 _ rfl (Nat.zero_le _) (TOI.zero ha)
 obtain ⟨t,kn',g1,g2,g3⟩:=of_eq ha hZ.zv hZ.good hZ.low f2 n s [] h0 h1 (by omega) h (by omega) (fun q t h=>by cases h)
 obtain ⟨sy,ks⟩:=t
 have ht2:=g2.2
 have htd:=td_le (.mk sy ks)
 refine ⟨.mk sy ks,?_,g2⟩
 refine Eq.trans (congrArg (fun z=>Option.bind z _) f1) ?_
 rw [rangeL,if_pos (by simp only [List.length_cons,List.length_nil]; omega),rangeC,e1,Option.bind_some,if_pos rfl,g1,Option.bind_some,if_neg (by decide)]
 simp only [rangeC]
 rw [copy_eq n (Tree.mk sy ks) (by omega) (by omega)]
 rfl
end
end Fx
end Go.AM.S22

namespace Go.AM.S22
open Go Go.Proofs Go.AM
set_option linter.unusedVariables false
set_option maxRecDepth 100000
set_option maxHeartbeats 4000000
namespace Fx
open Go Go.Proofs Go.AM Go.AM.S22 Go.AM.S22.Tab
section
variable {a:Automaton} {v:List Int} {R M I:Int} {n0:Nat}
theorem keep2 (tb:repair_table) (x:Rule) (c:Int):repair_table_keep_pxx tb x c = repair_table_keep_wxx tb x c:=rfl
def BR (a:Automaton) (R M I:Int) (t:Tree) (s c:Int) (q:Tree×Int):Prop :=
 (q.2 = 0∧Sz.Der a.Rules q.1 s∧dT R M I t q.1≤c∧(1≤I→(tsT q.1:Int)≤tsT t + c)∧tsT q.1≤300 * tsT t)∨(q.2 = 3∧(1≤I→300 < c))
theorem build_eq {r:List Int} (ha:OKa a) (hZ:SZ a v n0) (wA:AW a) (hva:aV r a = true) (w:WOk R M I) {tb:repair_table} {c0:Nat} (hT:TB a v R M I tb c0):∀ (n:Nat) (t:Tree) (k s:Int),tdT t + 402≤n→tsT t≤80→NodeT (cosT a v R M I) tb t k→0≤s→s < a.States→gz (cosT a v R M I t) s < FAR →
 ∃ q,repair_table_build_pxxx n tb ⟨r⟩ k s = some q∧BR a R M I t s (gz (cosT a v R M I t) s) q
 | 0,_,_,_,h,_,_,_,_,_=>by omega
 | n + 1,t,k,s,hd,hs,hN,h0,h1,hc=>by
  have hst:=ha.st
  have hrul:=ha.rul
  have hts:=tsT_eq t
  have htd:=tdT_eq t
  obtain ⟨k0,n1,n2,roots,n3,n4⟩:=hN.out
  have hKR:=n4.kr
  have hC:∀ t:Tree,CV a.States.toNat (cosT a v R M I t):=fun t=>cosT_CV hZ.zv w t
  have hk1:∀ c∈t.Kids.map (cosT a v R M I),CV a.States.toNat c:=fun c hc=>by
   obtain ⟨t,h1,rfl⟩:=List.mem_map.1 hc; exact hC t
  have ik:((k.toNat:Nat):Int) = k:=by omega
  have hgz:=(hC t).gz s
  have e1:idx tb.cost k = some (cosT a v R M I t):=by unfold idx; rw [if_pos k0,n2]
  have e2:idx (cosT a v R M I t) s = some (gz (cosT a v R M I t) s):=(hC t).idx h0 (by omega)
  have e3:idx tb.kids k = some roots:=by unfold idx; rw [if_pos k0,n3]
  have hkeep:∀ x∈a.Rules,repair_table_keep_pxx tb x k = some (keepC R t.Sym (t.Kids.map (cosT a v R M I)) x):=fun x hx=>by
   have:=keep_eq ha hKR (fun u _=>hC u) n1 n3 hs (by rw [hT.w]; exact w.r) hx
   rw [ik,hT.w] at this
   rw [keep2]; exact this
  have hne:gz v s≠0:=cost_der ha hZ.zv w hZ.good hZ.low (tsT t + 1) t s (by omega) h0 (by omega) hc
  generalize hcc:gz (cosT a v R M I t) s = c at hc hgz e2
  have hfi:c = min (M * (tsT t:Int) + newsC I (gz v s)) FAR∨∃ x∈a.Rules,x.To = s∧c = keepC R t.Sym (t.Kids.map (cosT a v R M I)) x:=by
   have hq:=hcc
   rw [cosT_eq,rowC,cosL_map] at hq
   rcases fold_inv hk1 w.r h0 a.Rules _ (ini_CV hZ.zv w.m w.i (tsT t)) (fun x hx=>by have:=ha.to x hx; omega) with e | ⟨x,x1,x2,x3⟩
   ·rw [e,ini_gz hZ.zv h0 (by omega)] at hq; exact .inl hq.symm
   ·exact .inr ⟨x,x1,x2,hq.symm.trans x3⟩
  rw [repair_table_build_pxxx,hT.a,rangeL,if_pos (by omega)]
  simp only [e1,e2,e3,Option.bind_some]
  have Inn:∀ (ks:List Tree) (f:List Int) (rs:List Int) (i:Nat) (acc:List Tree) (b:Int) (K:List Tree→Option (Tree×Int)),(∀ x∈ks,tdT x + 402≤n)→tsL ks≤80→NodeL (cosT a v R M I) tb ks rs→roots.drop i = rs→f.length = ks.length→(∀ y∈f,0≤y∧y < a.States)→acc.length + ks.length≤1000→0≤b→b≤FAR→sumC (ks.map (cosT a v R M I)) f b < FAR →
   (∃ us,rangeC (fun i3 x3 (s3:(List Tree)) n3 =>
    (roots[i3]?).bind fun v6 =>
    (repair_table_build_pxxx n tb ⟨r⟩ v6 x3).bind fun v7 =>
    if v7.2 = 0 then
     (app 32 s3 [v7.1]).bind fun v8 =>
     n3 v8
    else
     some ((Tree.mk 0 ([]:List Tree)),v7.2)) f i acc K = K (acc ++ us)∧us.length = ks.length∧Sz.DerL a.Rules us f∧b + dL R M I ks us≤sumC (ks.map (cosT a v R M I)) f b∧(1≤I→(tsL us:Int) + b≤tsL ks + sumC (ks.map (cosT a v R M I)) f b)∧tsL us≤300 * tsL ks) ∨
   (rangeC (fun i3 x3 (s3:(List Tree)) n3 =>
    (roots[i3]?).bind fun v6 =>
    (repair_table_build_pxxx n tb ⟨r⟩ v6 x3).bind fun v7 =>
    if v7.2 = 0 then
     (app 32 s3 [v7.1]).bind fun v8 =>
     n3 v8
    else
     some ((Tree.mk 0 ([]:List Tree)),v7.2)) f i acc K = some (.mk 0 [],3)∧(1≤I→300 < sumC (ks.map (cosT a v R M I)) f b)):=by
   intro ks
   induction ks with
   | nil =>
    intro f rs i acc b K _ _ _ _ hl _ _ _ _ _
    have:f = []:=List.length_eq_zero_iff.1 hl
    subst this
    refine .inl ⟨[],by rw [rangeC,List.append_nil],rfl,.nil,?_,?_,?_⟩
    ·rw [dL]; show b + 0≤b; omega
    ·intro _; show ((tsL []:Nat):Int) + b≤((tsL []:Nat):Int) + b; omega
    ·rw [tsL]; exact Nat.zero_le _
   | cons u ks ih =>
    intro f rs i acc b K hdk hsk hnl hdr hl hf hlen hb0 hb1 hlt
    match f,rs,hl,hnl,hdr,hf,hlt with
    | [],_,h,_,_,_,_=>cases h
    | y :: f,[],_,h,_,_,_=>rw [NodeL] at h; exact h.elim; all_goals (intros; contradiction)
    | y :: f,rt :: rs,hl,hnl,hdr,hf,hlt =>
     rw [NodeL] at hnl
     obtain ⟨hn1,hn2⟩:=hnl
     have hgu:=(hC u).gz y
     have hy:=hf y (by simp)
     rw [tsL] at hsk
     rw [List.length_cons] at hlen
     rw [List.map_cons,sumC] at hlt ⊢
     have hcv:∀ c∈ks.map (cosT a v R M I),CV a.States.toNat c:=fun c hc=>by
      obtain ⟨t,h1,rfl⟩:=List.mem_map.1 hc; exact hC t
     have hge:=sumC_ge (ks.map (cosT a v R M I)) f (min (b + gz (cosT a v R M I u) y) FAR) hcv (by omega)
     have hmin:min (b + gz (cosT a v R M I u) y) FAR = b + gz (cosT a v R M I u) y:=by omega
     have hir:roots[i]? = some rt:=by
      have:=List.getElem?_drop (xs:=roots) (i:=i) (j:=0)
      rw [hdr] at this
      simpa using this.symm
     have hdr':roots.drop (i + 1) = rs:=by
      have:roots.drop (i + 1) = (roots.drop i).drop 1:=by rw [List.drop_drop]
      rw [this,hdr]; rfl
     rw [hmin] at hlt hge ⊢
     obtain ⟨q,q1,q2⟩:=build_eq ha hZ wA hva w hT n u rt y (hdk u (by simp)) (by omega) hn1 hy.1 hy.2 (by omega)
     rw [rangeC,hir,Option.bind_some,q1,Option.bind_some]
     rcases q2 with ⟨p1,p2,p3,p4,p5⟩ | ⟨p1,p2⟩
     ·rw [if_pos p1,app_ok (by simp only [List.length_cons,List.length_nil]; omega),Option.bind_some]
      have hih:=ih f rs (i + 1) (acc ++ [q.1]) (b + gz (cosT a v R M I u) y) K (fun x hx=>hdk x (List.mem_cons_of_mem _ hx)) (by omega) hn2 hdr' (by simpa using hl) (fun z hz=>hf z (List.mem_cons_of_mem _ hz)) (by simp only [List.length_append,List.length_cons,List.length_nil]; omega) (by omega) (by omega) hlt
      rcases hih with ⟨us,g1,g2,g3,g4,g5,g6⟩ | ⟨g1,g2⟩
      ·refine .inl ⟨q.1 :: us,?_,by rw [List.length_cons,List.length_cons,g2],.cons p2 g3,?_,fun hI=>?_,?_⟩
       ·refine Eq.trans g1 ?_
        rw [List.append_assoc]; rfl
       ·rw [dL]; omega
       ·have:=p4 hI; have:=g5 hI
        rw [tsL,tsL]; omega
       ·rw [tsL,tsL]; omega
      ·exact .inr ⟨g1,g2⟩
     ·rw [if_neg (by rw [p1]; decide),p1]
      exact .inr ⟨rfl,fun hI=>by have:=p2 hI; omega⟩
  have Out:∀ (l:List Rule) (i:Nat),(∀ x∈l,x∈a.Rules)→((∃ q,rangeC (fun i2 x2 (s2:Unit) n2 =>
   if x2.To = s then
    (repair_table_keep_pxx tb x2 k).bind fun v2 =>
    if v2 = c then
     rangeL x2.From ([]:List Tree) (fun k3 i3 x3 (s3:(List Tree)) n3 =>
      (roots[i3]?).bind fun v6 =>
      (repair_table_build_pxxx n tb ⟨r⟩ v6 x3).bind fun v7 =>
      if v7.2 = 0 then
       (app 32 s3 [v7.1]).bind fun v8 =>
       n3 v8
      else
       some ((Tree.mk 0 ([]:List Tree)),v7.2)) fun s3 =>
     some ((Tree.mk x2.Sym s3),0)
    else
     n2 ()
   else
    n2 ()) l i () (fun s2=>(empty_LeastOf n ⟨r⟩ a s).bind fun v1=>some (v1.1,v1.2)) = some q∧BR a R M I t s c q) ∨
    (rangeC (fun i2 x2 (s2:Unit) n2 =>
   if x2.To = s then
    (repair_table_keep_pxx tb x2 k).bind fun v2 =>
    if v2 = c then
     rangeL x2.From ([]:List Tree) (fun k3 i3 x3 (s3:(List Tree)) n3 =>
      (roots[i3]?).bind fun v6 =>
      (repair_table_build_pxxx n tb ⟨r⟩ v6 x3).bind fun v7 =>
      if v7.2 = 0 then
       (app 32 s3 [v7.1]).bind fun v8 =>
       n3 v8
      else
       some ((Tree.mk 0 ([]:List Tree)),v7.2)) fun s3 =>
     some ((Tree.mk x2.Sym s3),0)
    else
     n2 ()
   else
    n2 ()) l i () (fun s2=>(empty_LeastOf n ⟨r⟩ a s).bind fun v1=>some (v1.1,v1.2)) = ((empty_LeastOf n ⟨r⟩ a s).bind fun v1=>some (v1.1,v1.2))∧∀ x∈l,x.To = s→keepC R t.Sym (t.Kids.map (cosT a v R M I)) x≠c)):=by
   intro l
   induction l with
   | nil=>intro i _; exact .inr ⟨rfl,fun x h=>by cases h⟩
   | cons x l ih =>
    intro i hl
    have hx:=hl x (by simp)
    have hfl:=ha.frm x hx
    have ih':=ih (i + 1) (fun y hy=>hl y (List.mem_cons_of_mem _ hy))
    rw [rangeC]
    by_cases d1:x.To = s
    ·rw [if_pos d1,hkeep x hx,Option.bind_some]
     by_cases d2:keepC R t.Sym (t.Kids.map (cosT a v R M I)) x = c
     ·rw [if_pos d2,rangeL,if_pos (by omega)]
      left
      have d3:=d2
      unfold keepC at d3
      rw [List.length_map] at d3
      have h9:¬ (x.Sym≠t.Sym∧R < 0):=fun h=>by rw [if_pos h] at d3; omega
      rw [if_neg h9] at d3
      have h8:x.From.length = t.Kids.length:=by
       by_cases h:x.From.length = t.Kids.length
       ·exact h
       ·rw [if_neg h] at d3; omega
      rw [if_pos h8] at d3
      have hb:0≤(if x.Sym = t.Sym then (0:Int) else R)∧(if x.Sym = t.Sym then (0:Int) else R)≤FAR:=by have:=w.r; unfold FAR; split <;> omega
      have htl:=tlen t.Kids
      have hI:=Inn t.Kids x.From roots 0 [] (if x.Sym = t.Sym then 0 else R) (fun s3=>some ((Tree.mk x.Sym s3),0)) (fun y hy=>by
       have:=A3.td_mem hy
       omega) (by omega) n4 (by simp) h8 (fun y hy=>ha.from' x hx y hy) (by simp only [List.length_nil]; omega) hb.1 hb.2 (by rw [d3]; exact hc)
      rw [d3] at hI
      rcases hI with ⟨us,g1,g2,g3,g4,g5,g6⟩ | ⟨g1,g2⟩
      ·refine ⟨(.mk x.Sym us,0),g1,.inl ⟨rfl,by rw [← d1]; exact .mk hx g3,?_,fun hI=>?_,?_⟩⟩
       ·rw [dT_eq,if_pos ⟨g2.symm,by
         by_cases e:x.Sym = t.Sym
         ·exact .inl e.symm
         ·exact .inr (by
           rcases Int.lt_or_le R 0 with h | h
           ·exact absurd ⟨e,h⟩ h9
           ·exact h)⟩]
        have hsy:(if t.Sym = (Tree.mk x.Sym us).Sym then (0:Int) else R) = (if x.Sym = t.Sym then (0:Int) else R):=by
         by_cases e:x.Sym = t.Sym
         ·rw [if_pos e,if_pos e.symm]
         ·rw [if_neg e,if_neg (fun h=>e h.symm)]
        rw [hsy]
        show min _ (_ + dL R M I t.Kids us)≤c
        omega
       ·have:=g5 hI
        show (tsT (.mk x.Sym us):Int)≤_
        rw [tsT_eq (.mk x.Sym us)]; dsimp only; omega
       ·show tsT (.mk x.Sym us)≤_
        rw [tsT_eq (.mk x.Sym us)]; dsimp only; omega
      ·exact ⟨_,g1,.inr ⟨rfl,g2⟩⟩
     ·rw [if_neg d2]
      rcases ih' with h | ⟨h,h'⟩
      ·exact .inl h
      ·refine .inr ⟨h,fun y hy e=>?_⟩
       rcases List.mem_cons.1 hy with rfl | hy
       ·exact d2
       ·exact h' y hy e
    ·rw [if_neg d1]
     rcases ih' with h | ⟨h,h'⟩
     ·exact .inl h
     ·refine .inr ⟨h,fun y hy e=>?_⟩
      rcases List.mem_cons.1 hy with rfl | hy
      ·exact absurd e d1
      ·exact h' y hy e
  rcases Out a.Rules 0 (fun _ h=>h) with h | ⟨h,h'⟩
  ·exact h
  ·rw [h]
   have hfi:c = min (M * (tsT t:Int) + newsC I (gz v s)) FAR:=hfi.resolve_right fun ⟨x,x1,x2,x3⟩=>h' x x1 x2 x3.symm
   obtain ⟨L1,L2⟩:=LeastOf_eq r ha hZ wA hva (n:=n) (by omega) h0 h1 hne
   have hgv:=hZ.zv.gz s
   have hm:=mul_bd w.m (tsT t)
   have hI:=w.i
   have hnews:newsC I (gz v s) = if I = 0 then 0 else if 1099511627776 < gz v s then FAR else gz v s * I:=by unfold newsC; rw [if_neg hne]
   by_cases c3:gz v s≤300
   ·obtain ⟨u,u1,u2,u3⟩:=L1 c3
    rw [u1]
    refine ⟨_,rfl,.inl ⟨rfl,u2,?_,fun hI1=>?_,?_⟩⟩
    ·have hle:dT R M I t u≤M * (tsT t:Int) + I * (tsT u:Int):=(dT_bd w t u).2
     show dT R M I t u≤c
     have:newsC I (gz v s) = I * (tsT u:Int):=by
      rw [hnews,u3]
      by_cases z:I = 0
      ·rw [if_pos z,z,Int.zero_mul]
      ·rw [if_neg z,if_neg (by omega),Int.mul_comm]
     rw [this] at hfi
     omega
    ·show (tsT u:Int)≤_
     have:gz v s≤newsC I (gz v s):=by
      rw [hnews,if_neg (by omega),if_neg (by omega)]
      have:=Int.mul_le_mul_of_nonneg_left hI1 hgv.1
      omega
     omega
    ·show tsT u≤_
     omega
   ·rw [L2 (by omega)]
    refine ⟨_,rfl,.inr ⟨rfl,fun hI1=>?_⟩⟩
    have:gz v s≤newsC I (gz v s)∨newsC I (gz v s) = FAR:=by
     rw [hnews,if_neg (by omega)]
     by_cases z:1099511627776 < gz v s
     ·rw [if_pos z]; exact .inr rfl
     ·rw [if_neg z]
      have:=Int.mul_le_mul_of_nonneg_left hI1 hgv.1
      exact .inl (by omega)
    unfold FAR at *
    omega
end
end Fx
end Go.AM.S22

namespace Go.AM.S22
open Go Go.Proofs Go.AM
set_option linter.unusedVariables false
set_option maxRecDepth 100000
set_option maxHeartbeats 4000000
namespace Fx
open Go Go.Proofs Go.AM Go.AM.S22 Go.AM.S22.Tab
mutual
theorem der_sh {r:List Int} {a:Automaton} (h3:A3.OKa r a):∀ {u:Tree} {s:Int},Sz.Der a.Rules u s→shT r u = true∧A3.stT a u s = true
 | _,_,@Sz.Der.mk _ x ks hx hk=>by
  obtain ⟨h1,h2,h4⟩:=derL_sh h3 hk
  have hs:=h3.sym x hx
  refine ⟨by rw [shT,Bool.and_eq_true,decide_eq_true_eq]; exact ⟨⟨hs.1,hs.2.1,by rw [h1]; exact hs.2.2⟩,h2⟩,?_⟩
  rw [A3.stT,List.any_eq_true]
  exact ⟨x,hx,by rw [Bool.and_eq_true,decide_eq_true_eq]; exact ⟨⟨rfl,rfl⟩,h4⟩⟩
theorem derL_sh {r:List Int} {a:Automaton} (h3:A3.OKa r a):∀ {ks:List Tree} {f:List Int},Sz.DerL a.Rules ks f→ks.length = f.length∧shL r ks = true∧A3.stL a ks f = true
 | _,_,.nil=>⟨rfl,by rw [shL],by rw [A3.stL]⟩
 | _,_,.cons h1 h2=>by
  obtain ⟨a1,a2⟩:=der_sh h3 h1
  obtain ⟨b1,b2,b3⟩:=derL_sh h3 h2
  exact ⟨by rw [List.length_cons,List.length_cons,b1],by rw [shL,a1,b2]; rfl,by rw [A3.stL,a2,b3]; rfl⟩
end
mutual
theorem tw_of:∀ t:Tree,tsT t≤1000000→twT t = true
 | .mk s ks,h=>by
  have h0:=tsT_eq (.mk s ks)
  have h1:=tlen ks
  dsimp only at h0
  rw [twT,Bool.and_eq_true,decide_eq_true_eq]
  exact ⟨by omega,twL_of ks (by omega)⟩
theorem twL_of:∀ ks:List Tree,tsL ks≤1000000→twL ks = true
 | [],_=>by rw [twL]
 | k :: ks,h=>by
  rw [tsL] at h
  rw [twL,tw_of k (by omega),twL_of ks (by omega)]; rfl
end
theorem costs_law (r:List Int) (a:Automaton) (t:Tree) (R M I:Int) (w:AW a) (hw:twT t = true):∃ n,law22_RepairCosts n ⟨r⟩ a t ⟨R,M,I⟩ = some true:=by
 by_cases c:fewB r a t = true
 ·obtain ⟨v,n0,hz⟩:∃ v n0,aV r a = true→SZ a v n0:=by
   by_cases hv:aV r a = true
   ·obtain ⟨v,n0,h⟩:=sz_ex (ok_of hv c); exact ⟨v,n0,fun _=>h⟩
   ·exact ⟨[],0,fun h=>absurd h hv⟩
  have hs:tsT t≤80:=by
   unfold fewB at c
   simp only [Bool.and_eq_true,decide_eq_true_eq] at c
   omega
  refine ⟨tdT t + n0 + 30000,?_⟩
  generalize hn:tdT t + n0 + 30000 = n
  unfold law22_RepairCosts law22_given
  rw [few_eq r a t w (by omega) hw,Option.bind_some,if_pos c,awake_eq]
  simp only [Option.bind_some]
  have hR:=refCost_eq (n:=n) (R:=R) (M:=M) (I:=I) (t:=t) w (by omega) hw (fun h=>ok_of h c) hs hz (by omega)
  rw [hR]
  simp only [Option.bind_some]
  unfold repair_Cost repair_Fix
  have hC:=checked_eq (n:=n) (R:=R) (M:=M) (I:=I) (t:=t) w (by omega) hw (fun h=>ok_of h c) hs hz
  unfold rCost at hR ⊢
  rcases hC with ⟨h1,h2⟩ | ⟨h1,h2,h3,h4⟩ | ⟨h1,h2,h3,q,h4,h5⟩
  ·rw [h2,if_neg h1]; rfl
  ·rw [h4,if_pos ⟨h1,h2⟩,if_neg h3]; rfl
  ·have hA:=ok_of h1 c
   have hZ:=hz h1
   have hW:=wok_of h3
   have h3':=A3.ok_of h1 c
   obtain ⟨b1,b2⟩:=best_rel hA hZ hW hs h4
   rw [if_pos ⟨h1,h2⟩,if_pos h3]
   rcases h5 with ⟨g1,g2⟩ | ⟨g1,g2,g3⟩ | ⟨g1,g2,tb,g3,g4,g5⟩
   ·rw [g2,if_pos (b1 g1)]; rfl
   ·obtain ⟨e1,e2,e3⟩:=b2 g1
    rw [g3,if_neg (by rw [e1]; decide),if_pos (by unfold K0 at e2; omega)]; rfl
   ·obtain ⟨e1,e2,e3⟩:=b2 g1
    have hq:leastR a v R M I t = q.2:=by unfold K0 at e2; omega
    rw [g3,if_neg (by rw [e1]; decide),if_neg (by omega),hq]
    have hts:=tsT_eq t
    have hcl:w64 ((tb.cost.length:Int) - 1) = ((tsT t - 1:Nat):Int):=by rw [g4.cost,w64_eq (by omega) (by omega)]; omega
    rcases h4 with ⟨q1,_⟩ | ⟨q1,q2,q3,q4,q5⟩
    ·omega
    have hqf:=hA.fins _ q1
    obtain ⟨z,z1,z2⟩:=build_eq (r:=r) hA hZ w h1 hW g4 n t _ q.1 (by omega) hs g5 q2 hqf.2 (by unfold FAR; omega)
    rw [← q4] at z2
    simp only [Option.bind_some,hcl,z1]
    simp only [if_true]
    rcases z2 with ⟨p1,p2,p3,p4,p5⟩ | ⟨p1,p2⟩
    ·rw [if_pos p1]
     have hd2:=td_le z.1
     rw [tree_Size_eq n z.1 (by omega) (by omega),Option.bind_some]
     by_cases d1:(300:Int) < (tsT z.1:Int)
     ·rw [if_pos d1]
      simp only [Option.bind_some,if_true]
      by_cases d2:I < 1
      ·rw [if_pos d2]
      ·have:=p4 (by omega)
       rw [if_neg d2,ref01_Size_eq n t (by omega) (by omega),Option.bind_some,w64_eq (by omega) (by omega),if_pos (by omega)]
     ·rw [if_neg d1]
      obtain ⟨y1,y2⟩:=der_sh h3' p2
      have hval:tvld r z.1 = true:=by
       have h6:=h2
       unfold tvld at h6 ⊢
       rw [Bool.and_eq_true] at h6
       rw [Bool.and_eq_true,Bool.and_eq_true,decide_eq_true_eq]
       exact ⟨h6.1,by omega,y1⟩
      have hlow:=low_cost (R:=R) (M:=M) (I:=I) hA hZ.zv hW hZ.low t z.1 q.1 p2 (by omega)
      simp only [Option.bind_some,if_true]
      rw [if_neg (by decide),rtvalid_eq r (by omega) (tw_of z.1 (by omega)),Option.bind_some,hval,if_pos rfl,A3.Has_eq h3' (by omega) y1 (by omega),Option.bind_some]
      rw [if_pos (by rw [List.find?_isSome]; exact ⟨q.1,q1,y2⟩),between_eq hW n t z.1 (by omega) (by omega) hs (by omega),Option.bind_some,if_pos (by omega)]
    ·rw [if_neg (by rw [p1]; decide)]
     simp only [Option.bind_some,if_true]
     by_cases d2:I < 1
     ·rw [if_pos d2]
     ·have:=p2 (by omega)
      rw [if_neg d2,ref01_Size_eq n t (by omega) (by omega),Option.bind_some,w64_eq (by omega) (by omega),if_pos (by omega)]
 ·refine ⟨tdT t + 20,?_⟩
  unfold law22_RepairCosts
  rw [few_eq r a t w (by omega) hw,Option.bind_some,if_neg c,awake_eq]; rfl
end Fx
theorem closed7:closedB T [3,22,24,25,27,28,30,43,64] = true:=by decide +kernel
theorem law7 (pss:List (List PV)) (h:wtAll T [24,27,30,43] pss):∃ σ',call Try.prog T H (.fn 7) (argsOf T [24,27,30,43] pss) [] = some (.ret (.p (.lit (.bool true))),σ'):=by
 obtain ⟨p1,r1,rfl,⟨n1,w1⟩,p2,r2,rfl,⟨n2,w2⟩,p3,r3,rfl,⟨n3,w3⟩,p5,r5,rfl,⟨n5,w5⟩,rfl⟩:=h
 obtain ⟨r,rfl⟩:=wt24 w1
 obtain ⟨a,rfl,ha⟩:=wt27 w2
 obtain ⟨x,rfl,hx⟩:=wt30 n3 p3 w3
 obtain ⟨w,rfl⟩:=wt43 w5
 obtain ⟨n,hn⟩:=Fx.costs_law r a x w.Relabel w.Remove w.Insert ha hx
 have:=spec7 n ⟨r⟩ a x w true hn
 rw [row_Tree_eq]
 exact ⟨[],this⟩
end Go.AM.S22

