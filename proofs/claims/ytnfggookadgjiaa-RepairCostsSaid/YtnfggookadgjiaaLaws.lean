/- What the functions of this seat compute on the abstract machine, function by function, and the plain laws. -/
import Derived.Test.YtnfggookadgjiaaTab
import Derived.Test.YtnfggookadgjiaaAmGen
set_option linter.unusedVariables false
set_option linter.unusedSimpArgs false
namespace Go.AM.S22
open Go Go.Proofs Go.AM
set_option maxRecDepth 100000
set_option linter.unusedVariables false
set_option maxHeartbeats 4000000
structure Tree where
 Sym:Int
 Kids:List Tree
mutual
def row_Tree:Tree→List PV
 | .mk f0 f1=>[iv f0,.sl none 2 (rows_Tree f1)]
def rows_Tree:List Tree→List (List PV)
 | []=>[]
 | x :: r=>row_Tree x :: rows_Tree r
end
theorem rows_Tree_map:∀ l:List Tree,rows_Tree l = l.map row_Tree
 | []=>rfl
 | x :: r=>by rw [rows_Tree,rows_Tree_map r]; rfl
theorem row_Tree_eq (x:Tree):row_Tree x = [iv x.Sym,.sl none 2 (List.map row_Tree x.Kids)]:=by
 cases x; rw [row_Tree]; simp only [rows_Tree_map]
attribute [go_sem] row_Tree_eq
structure Rule where
 Sym:Int
 From:List Int
 To:Int
def row_Rule (x:Rule):List PV:=[iv x.Sym,.sl none 1 (List.map rowI x.From),iv x.To]
theorem row_Rule_eq (x:Rule):row_Rule x = [iv x.Sym,.sl none 1 (List.map rowI x.From),iv x.To]:=rfl
attribute [go_sem] row_Rule_eq
structure Alphabet where
 Ranks:List Int
def row_Alphabet (x:Alphabet):List PV:=[.sl none 1 (List.map rowI x.Ranks)]
theorem row_Alphabet_eq (x:Alphabet):row_Alphabet x = [.sl none 1 (List.map rowI x.Ranks)]:=rfl
attribute [go_sem] row_Alphabet_eq
structure Automaton where
 States:Int
 Final:List Int
 Rules:List Rule
def row_Automaton (x:Automaton):List PV:=[iv x.States,.sl none 1 (List.map rowI x.Final),.sl none 3 (List.map row_Rule x.Rules)]
theorem row_Automaton_eq (x:Automaton):row_Automaton x = [iv x.States,.sl none 1 (List.map rowI x.Final),.sl none 3 (List.map row_Rule x.Rules)]:=rfl
attribute [go_sem] row_Automaton_eq
structure repair_labeled where
 many:Int
 tree:Tree
def row_repair_labeled (x:repair_labeled):List PV:=[iv x.many,iv x.tree.Sym,.sl none 2 (List.map row_Tree x.tree.Kids)]
theorem row_repair_labeled_eq (x:repair_labeled):row_repair_labeled x = [iv x.many,iv x.tree.Sym,.sl none 2 (List.map row_Tree x.tree.Kids)]:=rfl
attribute [go_sem] row_repair_labeled_eq
structure tree_sized where
 sym:Int
 size:Int
 kids:List tree_sized
mutual
def row_tree_sized:tree_sized→List PV
 | .mk f0 f1 f2=>[iv f0,iv f1,.sl none 3 (rows_tree_sized f2)]
def rows_tree_sized:List tree_sized→List (List PV)
 | []=>[]
 | x :: r=>row_tree_sized x :: rows_tree_sized r
end
theorem rows_tree_sized_map:∀ l:List tree_sized,rows_tree_sized l = l.map row_tree_sized
 | []=>rfl
 | x :: r=>by rw [rows_tree_sized,rows_tree_sized_map r]; rfl
theorem row_tree_sized_eq (x:tree_sized):row_tree_sized x = [iv x.sym,iv x.size,.sl none 3 (List.map row_tree_sized x.kids)]:=by
 cases x; rw [row_tree_sized]; simp only [rows_tree_sized_map]
attribute [go_sem] row_tree_sized_eq
structure repair_holes where
 ok:Bool
 gone:Int
 list:List (List Int)
def row_repair_holes (x:repair_holes):List PV:=[bv x.ok,iv x.gone,.sl none 1 (List.map (rowL 1 rowI) x.list)]
theorem row_repair_holes_eq (x:repair_holes):row_repair_holes x = [bv x.ok,iv x.gone,.sl none 1 (List.map (rowL 1 rowI) x.list)]:=rfl
attribute [go_sem] row_repair_holes_eq
structure ref22_choice where
 some:Bool
 n:Int
 t:Tree
def row_ref22_choice (x:ref22_choice):List PV:=[bv x.some,iv x.n,iv x.t.Sym,.sl none 2 (List.map row_Tree x.t.Kids)]
theorem row_ref22_choice_eq (x:ref22_choice):row_ref22_choice x = [bv x.some,iv x.n,iv x.t.Sym,.sl none 2 (List.map row_Tree x.t.Kids)]:=rfl
attribute [go_sem] row_ref22_choice_eq
structure ref22_cut where
 some:Bool
 nodes:Int
 l:List (List Int)
def row_ref22_cut (x:ref22_cut):List PV:=[bv x.some,iv x.nodes,.sl none 1 (List.map (rowL 1 rowI) x.l)]
theorem row_ref22_cut_eq (x:ref22_cut):row_ref22_cut x = [bv x.some,iv x.nodes,.sl none 1 (List.map (rowL 1 rowI) x.l)]:=rfl
attribute [go_sem] row_ref22_cut_eq
structure repair_Weights where
 Relabel:Int
 Remove:Int
 Insert:Int
def row_repair_Weights (x:repair_Weights):List PV:=[iv x.Relabel,iv x.Remove,iv x.Insert]
theorem row_repair_Weights_eq (x:repair_Weights):row_repair_Weights x = [iv x.Relabel,iv x.Remove,iv x.Insert]:=rfl
attribute [go_sem] row_repair_Weights_eq
structure ref22_Weights where
 Relabel:Int
 Remove:Int
 Insert:Int
def row_ref22_Weights (x:ref22_Weights):List PV:=[iv x.Relabel,iv x.Remove,iv x.Insert]
theorem row_ref22_Weights_eq (x:ref22_Weights):row_ref22_Weights x = [iv x.Relabel,iv x.Remove,iv x.Insert]:=rfl
attribute [go_sem] row_ref22_Weights_eq
def ref01_count:Nat→Tree→Int→Option Int
 | 0,_,_=>none
 | n + 1,a0,a1 =>
  rangeL a0.Kids 1 (fun k1 i1 x1 (s1:Int) n1 =>
   if s1≤a1 then
    (ref01_count n x1 (w64 (a1 - s1))).bind fun v1 =>
    n1 (w64 (s1 + v1))
   else
    n1 s1) fun s1 =>
  some s1
theorem spec60:∀ (n:Nat),(∀ (a0:Tree) (a1:Int) (r:Int),ref01_count n a0 a1 = some r →
 call Try.prog T H (.fn 60) [.p (.agg [iv a0.Sym,.sl none 2 (List.map row_Tree a0.Kids)]),.p (iv a1)] [] = some (.ret (.p (iv r)),[])):=by
 intro n
 induction n with
 | zero=>intro a0 a1 r h; cases h
 | succ n ih =>
  intro a0 a1 r h
  refine Sat.fn fun Q hQ=>?_
  rw [ref01_count] at h
  rw [call60]
  conv=>arg 1; arg 7; unfold S22.c60 Try.f60; simp only [Option.getD_some]
  simp only [go_sem]
  refine run_rangeL (c:=L60_0) (live:=[1,5,9,10,11]) (by simp only [go_sem]) (M:=fun i1 (s1:Int)=>[(1,.p (iv a1)),(5,.p (iv s1)),(9,.p (.sl none 2 (List.map row_Tree a0.Kids))),(10,.p (iv (a0.Kids.length:Int))),(11,.p (iv (i1:Int)))]) (Z:=fun i1 (s1:Int)=>[.cells [.p (iv a0.Sym),.p (.sl none 2 (List.map row_Tree a0.Kids))]]) (N:=fun (s1:Int)=>⟨[(5,.p (iv s1))],[.cells [.p (iv a0.Sym),.p (.sl none 2 (List.map row_Tree a0.Kids))]],[],none,false⟩) h rfl rfl (fun _ _=>rfl) ?_ ?_ ?_
  ·intro s1 h
   try dsimp only at h ⊢
   simp only [go_sem]
   injection h with h; subst h
   exact Sat.ok hQ
  ·intro K1 s1 hb1 he1
   try dsimp only
   conv=>arg 1; arg 7; unfold L60_0 loopAt S22.c60 Try.f60; simp only [loopIn,Option.getD_some,if_true]
   simp only [go_sem,he1]
   exact hb1
  ·intro K1 k1 i1 x1 s1 n1 hR1 hE1 hb1 hx1 hi1 hw1 ih1 h
   try dsimp only at h ⊢
   conv=>arg 1; arg 7; unfold L60_0 loopAt S22.c60 Try.f60; simp only [loopIn,Option.getD_some,if_true]
   by_cases c1:s1≤a1
   ·have h:=iteT h c1
    obtain ⟨v1,e_v1,h⟩:=ob h
    have e_v1c:call Try.prog T H (.fn 60) [.p (.agg [iv x1.Sym,.sl none 2 (List.map row_Tree x1.Kids)]),.p (iv (w64 (a1 - s1)))] [] = some (.ret (.p (iv v1)),[]):=ih x1 (w64 (a1 - s1)) v1 e_v1
    simp only [go_sem,hx1,hi1,hw1,c1,e_v1c,hR1,hE1]
    exact ih1 (w64 (s1 + v1)) h
   ·have h:=iteF h c1
    simp only [go_sem,hx1,hi1,hw1,c1,hR1,hE1]
    exact ih1 s1 h
def ref01_Few (n:Nat) (a0:Tree) (a1:Int):Option Bool :=
 (ref01_count n a0 a1).bind fun v1 =>
 some (decide (v1≤a1))
theorem spec27 (n:Nat) (a0:Tree) (a1:Int) (r:Bool) (h:ref01_Few n a0 a1 = some r) :
 call Try.prog T H (.fn 27) [.p (.agg [iv a0.Sym,.sl none 2 (List.map row_Tree a0.Kids)]),.p (iv a1)] [] = some (.ret (.p (bv r)),[]):=by
 refine Sat.fn fun Q hQ=>?_
 unfold ref01_Few at h
 rw [call27]
 conv=>arg 1; arg 7; unfold S22.c27 Try.f27; simp only [Option.getD_some]
 obtain ⟨v1,e_v1,h⟩:=ob h
 have e_v1c:=spec60 n a0 a1 v1 e_v1
 simp only [go_sem,e_v1c]
 injection h with h; subst h
 exact Sat.ok hQ
def law22_few (n:Nat) (a0:Alphabet) (a1:Automaton) (a2:List Tree):Option Bool :=
 rangeL a2 () (fun k1 i1 x1 (s1:Unit) n1 =>
  (ref01_Few n x1 80).bind fun v1 =>
  if v1 = true then
   n1 ()
  else
   some false) fun s1 =>
 rangeL a1.Rules () (fun k2 i2 x2 (s2:Unit) n2 =>
  if 30 < (x2.From.length:Int) then
   some false
  else
   n2 ()) fun s2 =>
 if (a0.Ranks.length:Int)≤60 then
  if a1.States≤40 then
   if (a1.Rules.length:Int)≤400 then
    some (decide ((a1.Final.length:Int)≤400))
   else
    some false
  else
   if 300 < a1.States then
    if (a1.Rules.length:Int)≤400 then
     some (decide ((a1.Final.length:Int)≤400))
    else
     some false
   else
    some false
 else
  some false
theorem spec8 (n:Nat) (a0:Alphabet) (a1:Automaton) (a2:List Tree) (r:Bool) (h:law22_few n a0 a1 a2 = some r) :
 call Try.prog T H (.fn 8) [.p (.agg [.sl none 1 (List.map rowI a0.Ranks)]),.p (.agg [iv a1.States,.sl none 1 (List.map rowI a1.Final),.sl none 3 (List.map row_Rule a1.Rules)]),.p (.sl none 2 (List.map row_Tree a2))] [] = some (.ret (.p (bv r)),[]):=by
 refine Sat.fn fun Q hQ=>?_
 unfold law22_few at h
 rw [call8]
 conv=>arg 1; arg 7; unfold S22.c8 Try.f8; simp only [Option.getD_some]
 simp only [go_sem]
 refine run_rangeL (c:=L8_0) (live:=[3,4,11,12,13]) (by simp only [go_sem]) (M:=fun i1 (s1:Unit)=>[(3,.ptr 0 0),(4,.ptr 1 0),(11,.p (.sl none 2 (List.map row_Tree a2))),(12,.p (iv (a2.length:Int))),(13,.p (iv (i1:Int)))]) (Z:=fun i1 (s1:Unit)=>[.cells [.p (.sl none 1 (List.map rowI a0.Ranks))],.cells [.p (iv a1.States),.p (.sl none 1 (List.map rowI a1.Final)),.p (.sl none 3 (List.map row_Rule a1.Rules))]]) (N:=fun (s1:Unit)=>⟨[(3,.ptr 0 0),(4,.ptr 1 0)],[.cells [.p (.sl none 1 (List.map rowI a0.Ranks))],.cells [.p (iv a1.States),.p (.sl none 1 (List.map rowI a1.Final)),.p (.sl none 3 (List.map row_Rule a1.Rules))]],[],none,false⟩) h rfl rfl (fun _ _=>rfl) ?_ ?_ ?_
 ·intro s1 h
  try dsimp only at h ⊢
  simp only [go_sem]
  refine run_rangeL (c:=L8_2) (live:=[3,4,22,23,24]) (by simp only [go_sem]) (M:=fun i2 (s2:Unit)=>[(3,.ptr 0 0),(4,.ptr 1 0),(22,.p (.sl none 3 (List.map row_Rule a1.Rules))),(23,.p (iv (a1.Rules.length:Int))),(24,.p (iv (i2:Int)))]) (Z:=fun i2 (s2:Unit)=>[.cells [.p (.sl none 1 (List.map rowI a0.Ranks))],.cells [.p (iv a1.States),.p (.sl none 1 (List.map rowI a1.Final)),.p (.sl none 3 (List.map row_Rule a1.Rules))]]) (N:=fun (s2:Unit)=>⟨[(3,.ptr 0 0),(4,.ptr 1 0)],[.cells [.p (.sl none 1 (List.map rowI a0.Ranks))],.cells [.p (iv a1.States),.p (.sl none 1 (List.map rowI a1.Final)),.p (.sl none 3 (List.map row_Rule a1.Rules))]],[],none,false⟩) h rfl rfl (fun _ _=>rfl) ?_ ?_ ?_
  ·intro s2 h
   try dsimp only at h ⊢
   by_cases c1:(a0.Ranks.length:Int)≤60
   ·have h:=iteT h c1
    by_cases c2:a1.States≤40
    ·have h:=iteT h c2
     by_cases c3:(a1.Rules.length:Int)≤400
     ·have h:=iteT h c3
      simp only [go_sem,c1,c2,c3]
      injection h with h; subst h
      exact Sat.ok hQ
     ·have h:=iteF h c3
      simp only [go_sem,c1,c2,c3]
      injection h with h; subst h
      exact Sat.ok hQ
    ·have h:=iteF h c2
     by_cases c4:300 < a1.States
     ·have h:=iteT h c4
      by_cases c5:(a1.Rules.length:Int)≤400
      ·have h:=iteT h c5
       simp only [go_sem,c1,c2,c4,c5]
       injection h with h; subst h
       exact Sat.ok hQ
      ·have h:=iteF h c5
       simp only [go_sem,c1,c2,c4,c5]
       injection h with h; subst h
       exact Sat.ok hQ
     ·have h:=iteF h c4
      simp only [go_sem,c1,c2,c4]
      injection h with h; subst h
      exact Sat.ok hQ
   ·have h:=iteF h c1
    simp only [go_sem,c1]
    injection h with h; subst h
    exact Sat.ok hQ
  ·intro K2 s2 hb2 he2
   try dsimp only
   conv=>arg 1; arg 7; unfold L8_2 loopAt S22.c8 Try.f8; simp only [loopIn,Option.getD_some,if_true]
   simp only [go_sem,he2]
   exact hb2
  ·intro K2 k2 i2 x2 s2 n2 hR2 hE2 hb2 hx2 hi2 hw2 ih2 h
   try dsimp only at h ⊢
   conv=>arg 1; arg 7; unfold L8_2 loopAt S22.c8 Try.f8; simp only [loopIn,Option.getD_some,if_true]
   by_cases c6:30 < (x2.From.length:Int)
   ·have h:=iteT h c6
    simp only [go_sem,hx2,hi2,hw2,c6,hR2,hE2]
    injection h with h; subst h
    exact Sat.ok hQ
   ·have h:=iteF h c6
    simp only [go_sem,hx2,hi2,hw2,c6,hR2,hE2]
    exact ih2 () h
 ·intro K1 s1 hb1 he1
  try dsimp only
  conv=>arg 1; arg 7; unfold L8_0 loopAt S22.c8 Try.f8; simp only [loopIn,Option.getD_some,if_true]
  simp only [go_sem,he1]
  exact hb1
 ·intro K1 k1 i1 x1 s1 n1 hR1 hE1 hb1 hx1 hi1 hw1 ih1 h
  try dsimp only at h ⊢
  conv=>arg 1; arg 7; unfold L8_0 loopAt S22.c8 Try.f8; simp only [loopIn,Option.getD_some,if_true]
  obtain ⟨v1,e_v1,h⟩:=ob h
  have e_v1c:=spec27 n x1 80 v1 e_v1
  by_cases c7:v1 = true
  ·have h:=iteT h c7
   simp only [go_sem,hx1,hi1,hw1,e_v1c,c7,hR1,hE1]
   exact ih1 () h
  ·have h:=iteF h c7
   have c7:=eq_false_of_ne_true c7
   simp only [go_sem,hx1,hi1,hw1,e_v1c,c7,hR1,hE1]
   injection h with h; subst h
   exact Sat.ok hQ
def tree_ValidAlphabet_1 (a0:Int):Option Bool :=
 if a0 < 0 then
  some true
 else
  some (decide (3 < a0))
theorem spec90 (a0:Int) (r:Bool) (h:tree_ValidAlphabet_1 a0 = some r) :
 call Try.prog T H (.fn 90) [.p (iv a0)] [] = some (.ret (.p (bv r)),[]):=by
 refine Sat.fn fun Q hQ=>?_
 unfold tree_ValidAlphabet_1 at h
 rw [call90]
 conv=>arg 1; arg 7; unfold S22.c90 Try.f90; simp only [Option.getD_some]
 by_cases c1:a0 < 0
 ·have h:=iteT h c1
  simp only [go_sem,c1]
  injection h with h; subst h
  exact Sat.ok hQ
 ·have h:=iteF h c1
  simp only [go_sem,c1]
  injection h with h; subst h
  exact Sat.ok hQ
def tree_ValidAlphabet (a0:Alphabet):Option Bool :=
 if (a0.Ranks.length:Int)≤12 then
  jn (fun (u1:Int) =>
   some (!(decide (0≤u1)))) fun j1 =>
  rangeL a0.Ranks () (fun k1 i1 x1 (s1:Unit) n1 =>
   (tree_ValidAlphabet_1 x1).bind fun v1 =>
   if v1 = true then
    j1 (i1:Int)
   else
    n1 ()) fun s1 =>
  j1 (-1)
 else
  some false
theorem spec61 (a0:Alphabet) (r:Bool) (h:tree_ValidAlphabet a0 = some r) :
 call Try.prog T H (.fn 61) [.p (.agg [.sl none 1 (List.map rowI a0.Ranks)])] [] = some (.ret (.p (bv r)),[]):=by
 refine Sat.fn fun Q hQ=>?_
 unfold tree_ValidAlphabet at h
 rw [call61]
 conv=>arg 1; arg 7; unfold S22.c61 Try.f61; simp only [Option.getD_some]
 by_cases c1:(a0.Ranks.length:Int)≤12
 ·have h:=iteT h c1
  simp only [go_sem,c1]
  refine Sat.callc ?_
  rw [call50]
  conv=>arg 1; arg 7; unfold S22.c50 Try.f50; simp only [Option.getD_some]
  simp only [go_sem]
  refine Sat.callj (V:=fun (u1:Int)=>.p (iv u1)) (Z:=fun (u1:Int)=>[.cells [.p (.sl none 1 (List.map rowI a0.Ranks))]]) h ?_ ?_
  ·intro u1 h
   try dsimp only at h ⊢
   simp only [go_sem]
   refine Sat.ok ?_
   dsimp only
   simp only [go_sem]
   injection h with h; subst h
   exact Sat.ok hQ
  ·intro j1 h
   rw [call80]
   conv=>arg 1; arg 7; unfold S22.c80 Try.f80; simp only [Option.getD_some]
   simp only [go_sem]
   refine run_rangeL (c:=L80_0) (live:=[0,1,7,8]) (by simp only [go_sem]) (M:=fun i1 (s1:Unit)=>[(0,.p (.sl none 1 (List.map rowI a0.Ranks))),(1,.p (.fn 90)),(7,.p (iv (a0.Ranks.length:Int))),(8,.p (iv (i1:Int)))]) (Z:=fun i1 (s1:Unit)=>[.cells [.p (.sl none 1 (List.map rowI a0.Ranks))]]) (N:=fun (s1:Unit)=>⟨[],[.cells [.p (.sl none 1 (List.map rowI a0.Ranks))]],[],none,false⟩) h rfl rfl (fun _ _=>rfl) ?_ ?_ ?_
   ·intro s1 h
    try dsimp only at h ⊢
    simp only [go_sem]
    exact Sat.ok ⟨(-1),rfl,h⟩
   ·intro K1 s1 hb1 he1
    try dsimp only
    conv=>arg 1; arg 7; unfold L80_0 loopAt S22.c80 Try.f80; simp only [loopIn,Option.getD_some,if_true]
    simp only [go_sem,he1]
    exact hb1
   ·intro K1 k1 i1 x1 s1 n1 hR1 hE1 hb1 hx1 hi1 hw1 ih1 h
    try dsimp only at h ⊢
    conv=>arg 1; arg 7; unfold L80_0 loopAt S22.c80 Try.f80; simp only [loopIn,Option.getD_some,if_true]
    obtain ⟨v1,e_v1,h⟩:=ob h
    have e_v1c:=spec90 x1 v1 e_v1
    by_cases c2:v1 = true
    ·have h:=iteT h c2
     simp only [go_sem,hx1,hi1,hw1,e_v1c,c2,hR1,hE1]
     exact Sat.ok ⟨(i1:Int),rfl,h⟩
    ·have h:=iteF h c2
     have c2:=eq_false_of_ne_true c2
     simp only [go_sem,hx1,hi1,hw1,e_v1c,c2,hR1,hE1]
     exact ih1 () h
 ·have h:=iteF h c1
  simp only [go_sem,c1]
  injection h with h; subst h
  exact Sat.ok hQ
def auto_Valid (a0:Alphabet) (a1:Automaton):Option Bool :=
 (tree_ValidAlphabet a0).bind fun v1 =>
 if v1 = true then
  if a1.States < 0 then
   some false
  else
   if 300 < a1.States then
    some false
   else
    if 20000 < (a1.Rules.length:Int) then
     some false
    else
     rangeL a1.Final () (fun k1 i1 x1 (s1:Unit) n1 =>
      jn (fun (u3:Bool) =>
       if u3 = true then
        if 0 < (i1:Int) then
         (idx a1.Final (w64 ((i1:Int) - 1))).bind fun v3 =>
         if x1≤v3 then
          some false
         else
          n1 ()
        else
         n1 ()
       else
        some false) fun j3 =>
      if 0≤x1 then
       j3 (decide (x1 < a1.States))
      else
       j3 false) fun s1 =>
     rangeL a1.Rules () (fun k3 i3 x3 (s3:Unit) n3 =>
      if x3.Sym < 0 then
       some false
      else
       if (a0.Ranks.length:Int)≤x3.Sym then
        some false
       else
        (idx a0.Ranks x3.Sym).bind fun v2 =>
        if (x3.From.length:Int) = v2 then
         jn (fun (u1:Bool) =>
          if u1 = true then
           rangeL x3.From () (fun k4 i4 x4 (s4:Unit) n4 =>
            jn (fun (u2:Bool) =>
             if u2 = true then
              n4 ()
             else
              some false) fun j2 =>
            if 0≤x4 then
             j2 (decide (x4 < a1.States))
            else
             j2 false) fun s4 =>
           n3 ()
          else
           some false) fun j1 =>
         if 0≤x3.To then
          j1 (decide (x3.To < a1.States))
         else
          j1 false
        else
         some false) fun s3 =>
     some true
 else
  some false
theorem spec28 (a0:Alphabet) (a1:Automaton) (r:Bool) (h:auto_Valid a0 a1 = some r) :
 call Try.prog T H (.fn 28) [.p (.agg [.sl none 1 (List.map rowI a0.Ranks)]),.p (.agg [iv a1.States,.sl none 1 (List.map rowI a1.Final),.sl none 3 (List.map row_Rule a1.Rules)])] [] = some (.ret (.p (bv r)),[]):=by
 refine Sat.fn fun Q hQ=>?_
 unfold auto_Valid at h
 rw [call28]
 conv=>arg 1; arg 7; unfold S22.c28 Try.f28; simp only [Option.getD_some]
 obtain ⟨v1,e_v1,h⟩:=ob h
 have e_v1c:=spec61 a0 v1 e_v1
 by_cases c1:v1 = true
 ·have h:=iteT h c1
  by_cases c2:a1.States < 0
  ·have h:=iteT h c2
   simp only [go_sem,e_v1c,c1,c2]
   injection h with h; subst h
   exact Sat.ok hQ
  ·have h:=iteF h c2
   by_cases c3:300 < a1.States
   ·have h:=iteT h c3
    simp only [go_sem,e_v1c,c1,c2,c3]
    injection h with h; subst h
    exact Sat.ok hQ
   ·have h:=iteF h c3
    by_cases c4:20000 < (a1.Rules.length:Int)
    ·have h:=iteT h c4
     simp only [go_sem,e_v1c,c1,c2,c3,c4]
     injection h with h; subst h
     exact Sat.ok hQ
    ·have h:=iteF h c4
     simp only [go_sem,e_v1c,c1,c2,c3,c4]
     refine run_rangeL (c:=L28_0) (live:=[2,3,5,33,34,35]) (by simp only [go_sem]) (M:=fun i1 (s1:Unit)=>[(2,.ptr 0 0),(3,.ptr 1 0),(5,.fn 62 [.ptr 1 0]),(33,.p (.sl none 1 (List.map rowI a1.Final))),(34,.p (iv (a1.Final.length:Int))),(35,.p (iv (i1:Int)))]) (Z:=fun i1 (s1:Unit)=>[.cells [.p (.sl none 1 (List.map rowI a0.Ranks))],.cells [.p (iv a1.States),.p (.sl none 1 (List.map rowI a1.Final)),.p (.sl none 3 (List.map row_Rule a1.Rules))]]) (N:=fun (s1:Unit)=>⟨[(2,.ptr 0 0),(3,.ptr 1 0),(5,.fn 62 [.ptr 1 0])],[.cells [.p (.sl none 1 (List.map rowI a0.Ranks))],.cells [.p (iv a1.States),.p (.sl none 1 (List.map rowI a1.Final)),.p (.sl none 3 (List.map row_Rule a1.Rules))]],[],none,false⟩) h rfl rfl (fun _ _=>rfl) ?_ ?_ ?_
     ·intro s1 h
      try dsimp only at h ⊢
      simp only [go_sem]
      refine run_rangeL (c:=L28_2) (live:=[2,5,60,61,62]) (by simp only [go_sem]) (M:=fun i3 (s3:Unit)=>[(2,.ptr 0 0),(5,.fn 62 [.ptr 1 0]),(60,.p (.sl none 3 (List.map row_Rule a1.Rules))),(61,.p (iv (a1.Rules.length:Int))),(62,.p (iv (i3:Int)))]) (Z:=fun i3 (s3:Unit)=>[.cells [.p (.sl none 1 (List.map rowI a0.Ranks))],.cells [.p (iv a1.States),.p (.sl none 1 (List.map rowI a1.Final)),.p (.sl none 3 (List.map row_Rule a1.Rules))]]) (N:=fun (s3:Unit)=>⟨[],[.cells [.p (.sl none 1 (List.map rowI a0.Ranks))],.cells [.p (iv a1.States),.p (.sl none 1 (List.map rowI a1.Final)),.p (.sl none 3 (List.map row_Rule a1.Rules))]],[],none,false⟩) h rfl rfl (fun _ _=>rfl) ?_ ?_ ?_
      ·intro s3 h
       try dsimp only at h ⊢
       simp only [go_sem]
       injection h with h; subst h
       exact Sat.ok hQ
      ·intro K3 s3 hb3 he3
       try dsimp only
       conv=>arg 1; arg 7; unfold L28_2 loopAt S22.c28 Try.f28; simp only [loopIn,Option.getD_some,if_true]
       simp only [go_sem,he3]
       exact hb3
      ·intro K3 k3 i3 x3 s3 n3 hR3 hE3 hb3 hx3 hi3 hw3 ih3 h
       try dsimp only at h ⊢
       conv=>arg 1; arg 7; unfold L28_2 loopAt S22.c28 Try.f28; simp only [loopIn,Option.getD_some,if_true]
       by_cases c5:x3.Sym < 0
       ·have h:=iteT h c5
        simp only [go_sem,hx3,hi3,hw3,c5,hR3,hE3]
        injection h with h; subst h
        exact Sat.ok hQ
       ·have h:=iteF h c5
        by_cases c6:(a0.Ranks.length:Int)≤x3.Sym
        ·have h:=iteT h c6
         simp only [go_sem,hx3,hi3,hw3,c5,c6,hR3,hE3]
         injection h with h; subst h
         exact Sat.ok hQ
        ·have h:=iteF h c6
         obtain ⟨v2,e_v2,h⟩:=ob h
         obtain ⟨e_v2a,e_v2b⟩:=idx_some e_v2
         by_cases c7:(x3.From.length:Int) = v2
         ·have h:=iteT h c7
          have c7b:((x3.From.length:Int) != v2) = false:=bneF c7
          simp only [go_sem,hx3,hi3,hw3,c5,c6,e_v2a,e_v2b,c7b,hR3,hE3]
          refine Sat.callj (V:=fun (u1:Bool)=>.p (bv u1)) (Z:=fun (u1:Bool)=>[.cells [.p (.sl none 1 (List.map rowI a0.Ranks))],.cells [.p (iv a1.States),.p (.sl none 1 (List.map rowI a1.Final)),.p (.sl none 3 (List.map row_Rule a1.Rules))],.cells [.p (iv x3.Sym),.p (.sl none 1 (List.map rowI x3.From)),.p (iv x3.To)]]) h ?_ ?_
          ·intro u1 h
           try dsimp only at h ⊢
           by_cases c8:u1 = true
           ·have h:=iteT h c8
            simp only [go_sem,c8,hw3,hR3,hE3]
            refine run_rangeL (c:=L28_4) (live:=[2,5,60,61,62,97,98,99]) (by simp only [go_sem]) (M:=fun i4 (s4:Unit)=>[(2,.ptr 0 0),(5,.fn 62 [.ptr 1 0]),(60,.p (.sl none 3 (List.map row_Rule a1.Rules))),(61,.p (iv (a1.Rules.length:Int))),(62,.p (iv (i3:Int))),(97,.p (.sl none 1 (List.map rowI x3.From))),(98,.p (iv (x3.From.length:Int))),(99,.p (iv (i4:Int)))]) (Z:=fun i4 (s4:Unit)=>[.cells [.p (.sl none 1 (List.map rowI a0.Ranks))],.cells [.p (iv a1.States),.p (.sl none 1 (List.map rowI a1.Final)),.p (.sl none 3 (List.map row_Rule a1.Rules))],.cells [.p (iv x3.Sym),.p (.sl none 1 (List.map rowI x3.From)),.p (iv x3.To)]]) (N:=fun (s4:Unit)=>⟨[(2,.ptr 0 0),(5,.fn 62 [.ptr 1 0]),(60,.p (.sl none 3 (List.map row_Rule a1.Rules))),(61,.p (iv (a1.Rules.length:Int))),(62,.p (iv (i3:Int)))],[.cells [.p (.sl none 1 (List.map rowI a0.Ranks))],.cells [.p (iv a1.States),.p (.sl none 1 (List.map rowI a1.Final)),.p (.sl none 3 (List.map row_Rule a1.Rules))],.cells [.p (iv x3.Sym),.p (.sl none 1 (List.map rowI x3.From)),.p (iv x3.To)]],[],none,false⟩) h rfl rfl (fun _ _=>rfl) ?_ ?_ ?_
            ·intro s4 h
             try dsimp only at h ⊢
             simp only [go_sem,hw3,hR3,hE3]
             exact ih3 () h
            ·intro K4 s4 hb4 he4
             try dsimp only
             conv=>arg 1; arg 7; unfold L28_4 loopAt S22.c28 Try.f28; simp only [loopIn,Option.getD_some,if_true]
             simp only [go_sem,he4]
             exact hb4
            ·intro K4 k4 i4 x4 s4 n4 hR4 hE4 hb4 hx4 hi4 hw4 ih4 h
             try dsimp only at h ⊢
             conv=>arg 1; arg 7; unfold L28_4 loopAt S22.c28 Try.f28; simp only [loopIn,Option.getD_some,if_true]
             simp only [go_sem,hx4,hi4,hw4,hw3,hR3,hE3,hR4,hE4]
             refine Sat.callj (V:=fun (u2:Bool)=>.p (bv u2)) (Z:=fun (u2:Bool)=>[.cells [.p (.sl none 1 (List.map rowI a0.Ranks))],.cells [.p (iv a1.States),.p (.sl none 1 (List.map rowI a1.Final)),.p (.sl none 3 (List.map row_Rule a1.Rules))],.cells [.p (iv x3.Sym),.p (.sl none 1 (List.map rowI x3.From)),.p (iv x3.To)]]) h ?_ ?_
             ·intro u2 h
              try dsimp only at h ⊢
              by_cases c9:u2 = true
              ·have h:=iteT h c9
               simp only [go_sem,c9,hw3,hR3,hE3,hw4,hR4,hE4]
               exact ih4 () h
              ·have h:=iteF h c9
               have c9:=eq_false_of_ne_true c9
               simp only [go_sem,c9,hw3,hR3,hE3,hw4,hR4,hE4]
               injection h with h; subst h
               exact Sat.ok hQ
             ·intro j2 h
              rw [call62]
              conv=>arg 1; arg 7; unfold S22.c62 Try.f62; simp only [Option.getD_some]
              by_cases c10:0≤x4
              ·have h:=iteT h c10
               simp only [go_sem,c10]
               exact Sat.ok ⟨(decide (x4 < a1.States)),rfl,h⟩
              ·have h:=iteF h c10
               simp only [go_sem,c10]
               exact Sat.ok ⟨false,rfl,h⟩
           ·have h:=iteF h c8
            have c8:=eq_false_of_ne_true c8
            simp only [go_sem,c8,hw3,hR3,hE3]
            injection h with h; subst h
            exact Sat.ok hQ
          ·intro j1 h
           rw [call62]
           conv=>arg 1; arg 7; unfold S22.c62 Try.f62; simp only [Option.getD_some]
           by_cases c11:0≤x3.To
           ·have h:=iteT h c11
            simp only [go_sem,c11]
            exact Sat.ok ⟨(decide (x3.To < a1.States)),rfl,h⟩
           ·have h:=iteF h c11
            simp only [go_sem,c11]
            exact Sat.ok ⟨false,rfl,h⟩
         ·have h:=iteF h c7
          have c7b:((x3.From.length:Int) != v2) = true:=bneT c7
          simp only [go_sem,hx3,hi3,hw3,c5,c6,e_v2a,e_v2b,c7b,hR3,hE3]
          injection h with h; subst h
          exact Sat.ok hQ
     ·intro K1 s1 hb1 he1
      try dsimp only
      conv=>arg 1; arg 7; unfold L28_0 loopAt S22.c28 Try.f28; simp only [loopIn,Option.getD_some,if_true]
      simp only [go_sem,he1]
      exact hb1
     ·intro K1 k1 i1 x1 s1 n1 hR1 hE1 hb1 hx1 hi1 hw1 ih1 h
      try dsimp only at h ⊢
      conv=>arg 1; arg 7; unfold L28_0 loopAt S22.c28 Try.f28; simp only [loopIn,Option.getD_some,if_true]
      simp only [go_sem,hx1,hi1,hw1,hR1,hE1]
      refine Sat.callj (V:=fun (u3:Bool)=>.p (bv u3)) (Z:=fun (u3:Bool)=>[.cells [.p (.sl none 1 (List.map rowI a0.Ranks))],.cells [.p (iv a1.States),.p (.sl none 1 (List.map rowI a1.Final)),.p (.sl none 3 (List.map row_Rule a1.Rules))]]) h ?_ ?_
      ·intro u3 h
       try dsimp only at h ⊢
       by_cases c12:u3 = true
       ·have h:=iteT h c12
        by_cases c13:0 < (i1:Int)
        ·have h:=iteT h c13
         obtain ⟨v3,e_v3,h⟩:=ob h
         obtain ⟨e_v3a,e_v3b⟩:=idx_some e_v3
         by_cases c14:x1≤v3
         ·have h:=iteT h c14
          simp only [go_sem,c12,c13,e_v3a,e_v3b,c14,hw1,hR1,hE1]
          injection h with h; subst h
          exact Sat.ok hQ
         ·have h:=iteF h c14
          simp only [go_sem,c12,c13,e_v3a,e_v3b,c14,hw1,hR1,hE1]
          exact ih1 () h
        ·have h:=iteF h c13
         simp only [go_sem,c12,c13,hw1,hR1,hE1]
         exact ih1 () h
       ·have h:=iteF h c12
        have c12:=eq_false_of_ne_true c12
        simp only [go_sem,c12,hw1,hR1,hE1]
        injection h with h; subst h
        exact Sat.ok hQ
      ·intro j3 h
       rw [call62]
       conv=>arg 1; arg 7; unfold S22.c62 Try.f62; simp only [Option.getD_some]
       by_cases c15:0≤x1
       ·have h:=iteT h c15
        simp only [go_sem,c15]
        exact Sat.ok ⟨(decide (x1 < a1.States)),rfl,h⟩
       ·have h:=iteF h c15
        simp only [go_sem,c15]
        exact Sat.ok ⟨false,rfl,h⟩
 ·have h:=iteF h c1
  have c1:=eq_false_of_ne_true c1
  simp only [go_sem,e_v1c,c1]
  injection h with h; subst h
  exact Sat.ok hQ
def tree_formed:Nat→Alphabet→Tree→Int→Option (Bool×Int)
 | 0,_,_,_=>none
 | n + 1,a0,a1,a2 =>
  if (w64 (a2 - 1)) < 0 then
   some (false,w64 (a2 - 1))
  else
   if a1.Sym < 0 then
    some (false,w64 (a2 - 1))
   else
    if (a0.Ranks.length:Int)≤a1.Sym then
     some (false,w64 (a2 - 1))
    else
     (idx a0.Ranks a1.Sym).bind fun v1 =>
     if (a1.Kids.length:Int) = v1 then
      rangeL a1.Kids (w64 (a2 - 1)) (fun k1 i1 x1 (s1:Int) n1 =>
       (tree_formed n a0 x1 s1).bind fun v2 =>
       if v2.1 = true then
        n1 v2.2
       else
        some (false,v2.2)) fun s1 =>
      some (true,s1)
     else
      some (false,w64 (a2 - 1))
theorem spec63:∀ (n:Nat),(∀ (σ:List AObj) (p2:Nat) (hp2:p2 < σ.length) (a0:Alphabet) (a1:Tree) (a2:Int) (r:Bool×Int),tree_formed n a0 a1 a2 = some r →
 call Try.prog T H (.fn 63) [.p (.agg [.sl none 1 (List.map rowI a0.Ranks)]),.p (.agg [iv a1.Sym,.sl none 2 (List.map row_Tree a1.Kids)]),.ptr p2 0] (List.set σ p2 (.cells [.p (iv a2)])) = some (.ret (.p (bv r.1)),(List.set σ p2 (.cells [.p (iv r.2)])))):=by
 intro n
 induction n with
 | zero=>intro σ p2 hp2 a0 a1 a2 r h; cases h
 | succ n ih =>
  intro σ p2 hp2 a0 a1 a2 r h
  refine Sat.fn fun Q hQ=>?_
  rw [tree_formed] at h
  rw [call63]
  conv=>arg 1; arg 7; unfold S22.c63 Try.f63; simp only [Option.getD_some]
  by_cases c1:(w64 (a2 - 1)) < 0
  ·have h:=iteT h c1
   simp only [go_sem,c1,hp2,fun k=>Nat.lt_add_right k hp2,Nat.not_le_of_lt hp2,fun k=>Nat.not_le_of_lt (Nat.lt_add_right k hp2)]
   injection h with h; subst h
   exact Sat.ok hQ
  ·have h:=iteF h c1
   by_cases c2:a1.Sym < 0
   ·have h:=iteT h c2
    simp only [go_sem,c1,c2,hp2,fun k=>Nat.lt_add_right k hp2,Nat.not_le_of_lt hp2,fun k=>Nat.not_le_of_lt (Nat.lt_add_right k hp2)]
    injection h with h; subst h
    exact Sat.ok hQ
   ·have h:=iteF h c2
    by_cases c3:(a0.Ranks.length:Int)≤a1.Sym
    ·have h:=iteT h c3
     simp only [go_sem,c1,c2,c3,hp2,fun k=>Nat.lt_add_right k hp2,Nat.not_le_of_lt hp2,fun k=>Nat.not_le_of_lt (Nat.lt_add_right k hp2)]
     injection h with h; subst h
     exact Sat.ok hQ
    ·have h:=iteF h c3
     obtain ⟨v1,e_v1,h⟩:=ob h
     obtain ⟨e_v1a,e_v1b⟩:=idx_some e_v1
     by_cases c4:(a1.Kids.length:Int) = v1
     ·have h:=iteT h c4
      have c4b:((a1.Kids.length:Int) != v1) = false:=bneF c4
      simp only [go_sem,c1,c2,c3,e_v1a,e_v1b,c4b,hp2,fun k=>Nat.lt_add_right k hp2,Nat.not_le_of_lt hp2,fun k=>Nat.not_le_of_lt (Nat.lt_add_right k hp2)]
      refine run_rangeL (c:=L63_0) (live:=[2,3,44,45,46]) (by simp only [go_sem]) (M:=fun i1 (s1:Int)=>[(2,.ptr p2 0),(3,.ptr σ.length 0),(44,.p (.sl none 2 (List.map row_Tree a1.Kids))),(45,.p (iv (a1.Kids.length:Int))),(46,.p (iv (i1:Int)))]) (Z:=fun i1 (s1:Int)=>((List.set σ p2 (.cells [.p (iv s1)])) ++ [.cells [.p (.sl none 1 (List.map rowI a0.Ranks))],.cells [.p (iv a1.Sym),.p (.sl none 2 (List.map row_Tree a1.Kids))]])) (N:=fun (s1:Int)=>⟨[],((List.set σ p2 (.cells [.p (iv s1)])) ++ [.cells [.p (.sl none 1 (List.map rowI a0.Ranks))],.cells [.p (iv a1.Sym),.p (.sl none 2 (List.map row_Tree a1.Kids))]]),[],none,false⟩) h rfl rfl (fun _ _=>rfl) ?_ ?_ ?_
      ·intro s1 h
       try dsimp only at h ⊢
       simp only [go_sem,hp2,fun k=>Nat.lt_add_right k hp2,Nat.not_le_of_lt hp2,fun k=>Nat.not_le_of_lt (Nat.lt_add_right k hp2)]
       injection h with h; subst h
       exact Sat.ok hQ
      ·intro K1 s1 hb1 he1
       try dsimp only
       conv=>arg 1; arg 7; unfold L63_0 loopAt S22.c63 Try.f63; simp only [loopIn,Option.getD_some,if_true]
       simp only [go_sem,he1,hp2,fun k=>Nat.lt_add_right k hp2,Nat.not_le_of_lt hp2,fun k=>Nat.not_le_of_lt (Nat.lt_add_right k hp2)]
       exact hb1
      ·intro K1 k1 i1 x1 s1 n1 hR1 hE1 hb1 hx1 hi1 hw1 ih1 h
       try dsimp only at h ⊢
       conv=>arg 1; arg 7; unfold L63_0 loopAt S22.c63 Try.f63; simp only [loopIn,Option.getD_some,if_true]
       obtain ⟨v2,e_v2,h⟩:=ob h
       have e_v2c:call Try.prog T H (.fn 63) [.p (.agg [.sl none 1 (List.map rowI a0.Ranks)]),.p (.agg [iv x1.Sym,.sl none 2 (List.map row_Tree x1.Kids)]),.ptr p2 0] ((List.set σ p2 (.cells [.p (iv s1)])) ++ [.cells [.p (.sl none 1 (List.map rowI a0.Ranks))],.cells [.p (iv a1.Sym),.p (.sl none 2 (List.map row_Tree a1.Kids))],.cells [.p (iv x1.Sym),.p (.sl none 2 (List.map row_Tree x1.Kids))]]) = some (.ret (.p (bv v2.1)),((List.set σ p2 (.cells [.p (iv v2.2)])) ++ [.cells [.p (.sl none 1 (List.map rowI a0.Ranks))],.cells [.p (iv a1.Sym),.p (.sl none 2 (List.map row_Tree a1.Kids))],.cells [.p (iv x1.Sym),.p (.sl none 2 (List.map row_Tree x1.Kids))]])):=by have q:=ih ((List.set σ p2 (.cells [.p (iv s1)])) ++ [.cells [.p (.sl none 1 (List.map rowI a0.Ranks))],.cells [.p (iv a1.Sym),.p (.sl none 2 (List.map row_Tree a1.Kids))],.cells [.p (iv x1.Sym),.p (.sl none 2 (List.map row_Tree x1.Kids))]]) p2 (by simp only [List.length_append,List.length_set,List.length_cons,List.length_nil]; omega) a0 x1 s1 v2 e_v2; first | (simp only [go_sem,hp2,fun k=>Nat.lt_add_right k hp2,Nat.not_le_of_lt hp2,fun k=>Nat.not_le_of_lt (Nat.lt_add_right k hp2)] at q ⊢; exact q) | exact q
       by_cases c5:v2.1 = true
       ·have h:=iteT h c5
        simp only [go_sem,hx1,hi1,hw1,e_v2c,c5,hR1,hE1,hp2,fun k=>Nat.lt_add_right k hp2,Nat.not_le_of_lt hp2,fun k=>Nat.not_le_of_lt (Nat.lt_add_right k hp2)]
        exact ih1 v2.2 h
       ·have h:=iteF h c5
        have c5:=eq_false_of_ne_true c5
        simp only [go_sem,hx1,hi1,hw1,e_v2c,c5,hR1,hE1,hp2,fun k=>Nat.lt_add_right k hp2,Nat.not_le_of_lt hp2,fun k=>Nat.not_le_of_lt (Nat.lt_add_right k hp2)]
        injection h with h; subst h
        exact Sat.ok hQ
     ·have h:=iteF h c4
      have c4b:((a1.Kids.length:Int) != v1) = true:=bneT c4
      simp only [go_sem,c1,c2,c3,e_v1a,e_v1b,c4b,hp2,fun k=>Nat.lt_add_right k hp2,Nat.not_le_of_lt hp2,fun k=>Nat.not_le_of_lt (Nat.lt_add_right k hp2)]
      injection h with h; subst h
      exact Sat.ok hQ
def tree_Valid (n:Nat) (a0:Alphabet) (a1:Tree):Option Bool :=
 (tree_ValidAlphabet a0).bind fun v1 =>
 if v1 = true then
  (tree_formed n a0 a1 300).bind fun v2 =>
  some v2.1
 else
  some false
theorem spec29 (n:Nat) (a0:Alphabet) (a1:Tree) (r:Bool) (h:tree_Valid n a0 a1 = some r) :
 call Try.prog T H (.fn 29) [.p (.agg [.sl none 1 (List.map rowI a0.Ranks)]),.p (.agg [iv a1.Sym,.sl none 2 (List.map row_Tree a1.Kids)])] [] = some (.ret (.p (bv r)),[]):=by
 refine Sat.fn fun Q hQ=>?_
 unfold tree_Valid at h
 rw [call29]
 conv=>arg 1; arg 7; unfold S22.c29 Try.f29; simp only [Option.getD_some]
 obtain ⟨v1,e_v1,h⟩:=ob h
 have e_v1c:=spec61 a0 v1 e_v1
 by_cases c1:v1 = true
 ·have h:=iteT h c1
  obtain ⟨v2,e_v2,h⟩:=ob h
  have e_v2c:call Try.prog T H (.fn 63) [.p (.agg [.sl none 1 (List.map rowI a0.Ranks)]),.p (.agg [iv a1.Sym,.sl none 2 (List.map row_Tree a1.Kids)]),.ptr 2 0] [.cells [.p (.sl none 1 (List.map rowI a0.Ranks))],.cells [.p (iv a1.Sym),.p (.sl none 2 (List.map row_Tree a1.Kids))],.cells [.p (iv 300)]] = some (.ret (.p (bv v2.1)),[.cells [.p (.sl none 1 (List.map rowI a0.Ranks))],.cells [.p (iv a1.Sym),.p (.sl none 2 (List.map row_Tree a1.Kids))],.cells [.p (iv v2.2)]]):=by have q:=spec63 n [.cells [.p (.sl none 1 (List.map rowI a0.Ranks))],.cells [.p (iv a1.Sym),.p (.sl none 2 (List.map row_Tree a1.Kids))],.cells [.p (iv 300)]] 2 (by simp only [List.length_append,List.length_set,List.length_cons,List.length_nil]; omega) a0 a1 300 v2 e_v2; first | (simp only [go_sem] at q ⊢; exact q) | exact q
  simp only [go_sem,e_v1c,c1,e_v2c]
  injection h with h; subst h
  exact Sat.ok hQ
 ·have h:=iteF h c1
  have c1:=eq_false_of_ne_true c1
  simp only [go_sem,e_v1c,c1]
  injection h with h; subst h
  exact Sat.ok hQ
def cmp_isNaN_int (a0:Int):Option Bool :=
 some (a0 != a0)
theorem spec103 (a0:Int) (r:Bool) (h:cmp_isNaN_int a0 = some r) :
 call Try.prog T H (.fn 103) [.p (iv a0)] [] = some (.ret (.p (bv r)),[]):=by
 refine Sat.fn fun Q hQ=>?_
 unfold cmp_isNaN_int at h
 rw [call103]
 conv=>arg 1; arg 7; unfold S22.c103 Try.f103; simp only [Option.getD_some]
 simp only [go_sem]
 injection h with h; subst h
 exact Sat.ok hQ
def cmp_Compare_int (a0:Int) (a1:Int):Option Int :=
 (cmp_isNaN_int a0).bind fun v1 =>
 (cmp_isNaN_int a1).bind fun v2 =>
 if v1 = true then
  if v2 = true then
   some 0
  else
   some (-1)
 else
  if v2 = true then
   some 1
  else
   if a0 < a1 then
    some (-1)
   else
    if a1 < a0 then
     some 1
    else
     some 0
theorem spec95 (a0:Int) (a1:Int) (r:Int) (h:cmp_Compare_int a0 a1 = some r) :
 call Try.prog T H (.fn 95) [.p (iv a0),.p (iv a1)] [] = some (.ret (.p (iv r)),[]):=by
 refine Sat.fn fun Q hQ=>?_
 unfold cmp_Compare_int at h
 rw [call95]
 conv=>arg 1; arg 7; unfold S22.c95 Try.f95; simp only [Option.getD_some]
 obtain ⟨v1,e_v1,h⟩:=ob h
 have e_v1c:=spec103 a0 v1 e_v1
 obtain ⟨v2,e_v2,h⟩:=ob h
 have e_v2c:=spec103 a1 v2 e_v2
 by_cases c1:v1 = true
 ·have h:=iteT h c1
  by_cases c2:v2 = true
  ·have h:=iteT h c2
   simp only [go_sem,e_v1c,e_v2c,c1,c2]
   injection h with h; subst h
   exact Sat.ok hQ
  ·have h:=iteF h c2
   have c2:=eq_false_of_ne_true c2
   simp only [go_sem,e_v1c,e_v2c,c1,c2]
   injection h with h; subst h
   exact Sat.ok hQ
 ·have h:=iteF h c1
  have c1:=eq_false_of_ne_true c1
  by_cases c3:v2 = true
  ·have h:=iteT h c3
   simp only [go_sem,e_v1c,e_v2c,c1,c3]
   injection h with h; subst h
   exact Sat.ok hQ
  ·have h:=iteF h c3
   have c3:=eq_false_of_ne_true c3
   by_cases c4:a0 < a1
   ·have h:=iteT h c4
    simp only [go_sem,e_v1c,e_v2c,c1,c3,c4]
    injection h with h; subst h
    exact Sat.ok hQ
   ·have h:=iteF h c4
    by_cases c5:a1 < a0
    ·have h:=iteT h c5
     simp only [go_sem,e_v1c,e_v2c,c1,c3,c4,c5]
     injection h with h; subst h
     exact Sat.ok hQ
    ·have h:=iteF h c5
     simp only [go_sem,e_v1c,e_v2c,c1,c3,c4,c5]
     injection h with h; subst h
     exact Sat.ok hQ
def cmp_Or_int (a0:List Int):Option Int :=
 rangeL a0 () (fun k1 i1 x1 (s1:Unit) n1 =>
  if x1 = 0 then
   n1 ()
  else
   some x1) fun s1 =>
 some 0
theorem spec101 (a0:List Int) (r:Int) (h:cmp_Or_int a0 = some r) :
 call Try.prog T H (.fn 101) [.p (.sl none 1 (List.map rowI a0))] [] = some (.ret (.p (iv r)),[]):=by
 refine Sat.fn fun Q hQ=>?_
 unfold cmp_Or_int at h
 rw [call101]
 conv=>arg 1; arg 7; unfold S22.c101 Try.f101; simp only [Option.getD_some]
 simp only [go_sem]
 refine run_rangeL (c:=L101_0) (live:=[3,6,7,8]) (by simp only [go_sem]) (M:=fun i1 (s1:Unit)=>[(3,.p (iv 0)),(6,.p (.sl none 1 (List.map rowI a0))),(7,.p (iv (a0.length:Int))),(8,.p (iv (i1:Int)))]) (Z:=fun i1 (s1:Unit)=>[]) (N:=fun (s1:Unit)=>⟨[(3,.p (iv 0))],[],[],none,false⟩) h rfl rfl (fun _ _=>rfl) ?_ ?_ ?_
 ·intro s1 h
  try dsimp only at h ⊢
  simp only [go_sem]
  injection h with h; subst h
  exact Sat.ok hQ
 ·intro K1 s1 hb1 he1
  try dsimp only
  conv=>arg 1; arg 7; unfold L101_0 loopAt S22.c101 Try.f101; simp only [loopIn,Option.getD_some,if_true]
  simp only [go_sem,he1]
  exact hb1
 ·intro K1 k1 i1 x1 s1 n1 hR1 hE1 hb1 hx1 hi1 hw1 ih1 h
  try dsimp only at h ⊢
  conv=>arg 1; arg 7; unfold L101_0 loopAt S22.c101 Try.f101; simp only [loopIn,Option.getD_some,if_true]
  by_cases c1:x1 = 0
  ·have h:=iteT h c1
   have c1b:(x1 != 0) = false:=bneF c1
   simp only [go_sem,hx1,hi1,hw1,c1b,hR1,hE1]
   exact ih1 () h
  ·have h:=iteF h c1
   have c1b:(x1 != 0) = true:=bneT c1
   simp only [go_sem,hx1,hi1,hw1,c1b,hR1,hE1]
   injection h with h; subst h
   exact Sat.ok hQ
def tree_compare:Nat→tree_sized→tree_sized→Option Int
 | 0,_,_=>none
 | n + 1,a0,a1 =>
  (cmp_Compare_int a0.size a1.size).bind fun v1 =>
  (cmp_Compare_int a0.sym a1.sym).bind fun v2 =>
  (cmp_Or_int [v1,v2]).bind fun v3 =>
  if v3 = 0 then
   jn (fun (u1:Int) =>
    some u1) fun j1 =>
   rangeL a0.kids () (fun k1 i1 x1 (s1:Unit) n1 =>
    if (a1.kids.length:Int)≤(i1:Int) then
     j1 1
    else
     (a1.kids[i1]?).bind fun v4 =>
     (tree_compare n x1 v4).bind fun v5 =>
     if v5 = 0 then
      n1 ()
     else
      j1 v5) fun s1 =>
   if (a0.kids.length:Int) < (a1.kids.length:Int) then
    j1 (-1)
   else
    j1 0
  else
   some v3
theorem spec91:∀ (n:Nat),(∀ (a0:tree_sized) (a1:tree_sized) (r:Int),tree_compare n a0 a1 = some r →
 call Try.prog T H (.fn 91) [.p (.agg [iv a0.sym,iv a0.size,.sl none 3 (List.map row_tree_sized a0.kids)]),.p (.agg [iv a1.sym,iv a1.size,.sl none 3 (List.map row_tree_sized a1.kids)])] [] = some (.ret (.p (iv r)),[])):=by
 intro n
 induction n with
 | zero=>intro a0 a1 r h; cases h
 | succ n ih =>
  intro a0 a1 r h
  refine Sat.fn fun Q hQ=>?_
  rw [tree_compare] at h
  rw [call91]
  conv=>arg 1; arg 7; unfold S22.c91 Try.f91; simp only [Option.getD_some]
  obtain ⟨v1,e_v1,h⟩:=ob h
  have e_v1c:=spec95 a0.size a1.size v1 e_v1
  obtain ⟨v2,e_v2,h⟩:=ob h
  have e_v2c:=spec95 a0.sym a1.sym v2 e_v2
  obtain ⟨v3,e_v3,h⟩:=ob h
  have e_v3c:call Try.prog T H (.fn 101) [.p (.sl none 1 [[iv v1],[iv v2]])] [] = some (.ret (.p (iv v3)),[]):=by have q:=spec101 [v1,v2] v3 e_v3; simp only [List.map_cons,List.map_nil,rowI] at q ⊢; exact q
  by_cases c1:v3 = 0
  ·have h:=iteT h c1
   have c1b:(v3 != 0) = false:=bneF c1
   simp only [go_sem,e_v1c,e_v2c,e_v3c,c1b]
   refine Sat.callj (V:=fun (u1:Int)=>.p (iv u1)) (Z:=fun (u1:Int)=>[.cells [.p (iv a0.sym),.p (iv a0.size),.p (.sl none 3 (List.map row_tree_sized a0.kids))],.cells [.p (iv a1.sym),.p (iv a1.size),.p (.sl none 3 (List.map row_tree_sized a1.kids))]]) h ?_ ?_
   ·intro u1 h
    try dsimp only at h ⊢
    simp only [go_sem]
    injection h with h; subst h
    exact Sat.ok hQ
   ·intro j1 h
    rw [call102]
    conv=>arg 1; arg 7; unfold S22.c102 Try.f102; simp only [Option.getD_some]
    simp only [go_sem]
    refine run_rangeL (c:=L102_0) (live:=[0,1,2,11,12,13]) (by simp only [go_sem]) (M:=fun i1 (s1:Unit)=>[(0,.p (.sl none 3 (List.map row_tree_sized a0.kids))),(1,.p (.sl none 3 (List.map row_tree_sized a1.kids))),(2,.p (.fn 91)),(11,.p (.sl none 3 (List.map row_tree_sized a0.kids))),(12,.p (iv (a0.kids.length:Int))),(13,.p (iv (i1:Int)))]) (Z:=fun i1 (s1:Unit)=>[.cells [.p (iv a0.sym),.p (iv a0.size),.p (.sl none 3 (List.map row_tree_sized a0.kids))],.cells [.p (iv a1.sym),.p (iv a1.size),.p (.sl none 3 (List.map row_tree_sized a1.kids))]]) (N:=fun (s1:Unit)=>⟨[(0,.p (.sl none 3 (List.map row_tree_sized a0.kids))),(1,.p (.sl none 3 (List.map row_tree_sized a1.kids)))],[.cells [.p (iv a0.sym),.p (iv a0.size),.p (.sl none 3 (List.map row_tree_sized a0.kids))],.cells [.p (iv a1.sym),.p (iv a1.size),.p (.sl none 3 (List.map row_tree_sized a1.kids))]],[],none,false⟩) h rfl rfl (fun _ _=>rfl) ?_ ?_ ?_
    ·intro s1 h
     try dsimp only at h ⊢
     by_cases c2:(a0.kids.length:Int) < (a1.kids.length:Int)
     ·have h:=iteT h c2
      simp only [go_sem,c2]
      exact Sat.ok ⟨(-1),rfl,h⟩
     ·have h:=iteF h c2
      simp only [go_sem,c2]
      exact Sat.ok ⟨0,rfl,h⟩
    ·intro K1 s1 hb1 he1
     try dsimp only
     conv=>arg 1; arg 7; unfold L102_0 loopAt S22.c102 Try.f102; simp only [loopIn,Option.getD_some,if_true]
     simp only [go_sem,he1]
     exact hb1
    ·intro K1 k1 i1 x1 s1 n1 hR1 hE1 hb1 hx1 hi1 hw1 ih1 h
     try dsimp only at h ⊢
     conv=>arg 1; arg 7; unfold L102_0 loopAt S22.c102 Try.f102; simp only [loopIn,Option.getD_some,if_true]
     by_cases c3:(a1.kids.length:Int)≤(i1:Int)
     ·have h:=iteT h c3
      simp only [go_sem,hx1,hi1,hw1,c3,hR1,hE1]
      exact Sat.ok ⟨1,rfl,h⟩
     ·have h:=iteF h c3
      obtain ⟨v4,e_v4,h⟩:=ob h
      obtain ⟨v5,e_v5,h⟩:=ob h
      have e_v5c:=ih x1 v4 v5 e_v5
      by_cases c4:v5 = 0
      ·have h:=iteT h c4
       have c4b:(v5 != 0) = false:=bneF c4
       simp only [go_sem,hx1,hi1,hw1,c3,e_v4,e_v5c,c4b,hR1,hE1]
       exact ih1 () h
      ·have h:=iteF h c4
       have c4b:(v5 != 0) = true:=bneT c4
       simp only [go_sem,hx1,hi1,hw1,c3,e_v4,e_v5c,c4b,hR1,hE1]
       exact Sat.ok ⟨v5,rfl,h⟩
  ·have h:=iteF h c1
   have c1b:(v3 != 0) = true:=bneT c1
   simp only [go_sem,e_v1c,e_v2c,e_v3c,c1b]
   injection h with h; subst h
   exact Sat.ok hQ
def tree_measure:Nat→Tree→Option tree_sized
 | 0,_=>none
 | n + 1,a0 =>
  rangeL a0.Kids (1,([]:List tree_sized)) (fun k1 i1 x1 (s1:Int×(List tree_sized)) n1 =>
   (tree_measure n x1).bind fun v1 =>
   (app 40 s1.2 [v1]).bind fun v2 =>
   n1 (w64 (s1.1 + v1.size),v2)) fun s1 =>
  some (tree_sized.mk a0.Sym s1.1 s1.2)
theorem spec92:∀ (n:Nat),(∀ (a0:Tree) (r:tree_sized),tree_measure n a0 = some r →
 call Try.prog T H (.fn 92) [.p (.agg [iv a0.Sym,.sl none 2 (List.map row_Tree a0.Kids)])] [] = some (.ret (.p (.agg [iv r.sym,iv r.size,.sl none 3 (List.map row_tree_sized r.kids)])),[])):=by
 intro n
 induction n with
 | zero=>intro a0 r h; cases h
 | succ n ih =>
  intro a0 r h
  refine Sat.fn fun Q hQ=>?_
  rw [tree_measure] at h
  rw [call92]
  conv=>arg 1; arg 7; unfold S22.c92 Try.f92; simp only [Option.getD_some]
  simp only [go_sem]
  refine run_rangeL (c:=L92_0) (live:=[2,3,11,12,13]) (by simp only [go_sem]) (M:=fun i1 (s1:Int×(List tree_sized))=>[(2,.ptr 1 0),(3,.ptr 2 0),(11,.p (.sl none 2 (List.map row_Tree a0.Kids))),(12,.p (iv (a0.Kids.length:Int))),(13,.p (iv (i1:Int)))]) (Z:=fun i1 (s1:Int×(List tree_sized))=>[.cells [.p (iv a0.Sym),.p (.sl none 2 (List.map row_Tree a0.Kids))],.cells [.p (iv 0),.p (iv 0),.own 3 []],.cells [.p (iv a0.Sym),.p (iv s1.1),.own 3 (List.map row_tree_sized s1.2)]]) (N:=fun (s1:Int×(List tree_sized))=>⟨[(2,.ptr 1 0),(3,.ptr 2 0)],[.cells [.p (iv a0.Sym),.p (.sl none 2 (List.map row_Tree a0.Kids))],.cells [.p (iv 0),.p (iv 0),.own 3 []],.cells [.p (iv a0.Sym),.p (iv s1.1),.own 3 (List.map row_tree_sized s1.2)]],[],none,false⟩) h rfl rfl (fun _ _=>rfl) ?_ ?_ ?_
  ·intro s1 h
   try dsimp only at h ⊢
   simp only [go_sem]
   injection h with h; subst h
   exact Sat.ok hQ
  ·intro K1 s1 hb1 he1
   try dsimp only
   conv=>arg 1; arg 7; unfold L92_0 loopAt S22.c92 Try.f92; simp only [loopIn,Option.getD_some,if_true]
   simp only [go_sem,he1]
   exact hb1
  ·intro K1 k1 i1 x1 s1 n1 hR1 hE1 hb1 hx1 hi1 hw1 ih1 h
   try dsimp only at h ⊢
   conv=>arg 1; arg 7; unfold L92_0 loopAt S22.c92 Try.f92; simp only [loopIn,Option.getD_some,if_true]
   obtain ⟨v1,e_v1,h⟩:=ob h
   have e_v1c:=ih x1 v1 e_v1
   obtain ⟨v2,e_v2,h⟩:=ob h
   have e_v2a:boundOk (s1.2.length + 1) 40 = true:=bnd_of (by have:=(app_some e_v2).1; simpa using this) (by decide)
   have e_v2b:(List.map row_tree_sized s1.2) ++ [[iv v1.sym,iv v1.size,.sl none 3 (List.map row_tree_sized v1.kids)]] = List.map row_tree_sized v2:=by rw [(app_some e_v2).2]; simp [row_tree_sized_eq]
   simp only [go_sem,hx1,hi1,hw1,e_v1c,e_v2a,e_v2b,hR1,hE1]
   exact ih1 (w64 (s1.1 + v1.size),v2) h
def tree_Compare (n:Nat) (a0:Tree) (a1:Tree):Option Int :=
 (tree_measure n a0).bind fun v1 =>
 (tree_measure n a1).bind fun v2 =>
 (tree_compare n v1 v2).bind fun v3 =>
 some v3
theorem spec66 (n:Nat) (a0:Tree) (a1:Tree) (r:Int) (h:tree_Compare n a0 a1 = some r) :
 call Try.prog T H (.fn 66) [.p (.agg [iv a0.Sym,.sl none 2 (List.map row_Tree a0.Kids)]),.p (.agg [iv a1.Sym,.sl none 2 (List.map row_Tree a1.Kids)])] [] = some (.ret (.p (iv r)),[]):=by
 refine Sat.fn fun Q hQ=>?_
 unfold tree_Compare at h
 rw [call66]
 conv=>arg 1; arg 7; unfold S22.c66 Try.f66; simp only [Option.getD_some]
 obtain ⟨v1,e_v1,h⟩:=ob h
 have e_v1c:=spec92 n a0 v1 e_v1
 obtain ⟨v2,e_v2,h⟩:=ob h
 have e_v2c:=spec92 n a1 v2 e_v2
 obtain ⟨v3,e_v3,h⟩:=ob h
 have e_v3c:=spec91 n v1 v2 v3 e_v3
 simp only [go_sem,e_v1c,e_v2c,e_v3c]
 injection h with h; subst h
 exact Sat.ok hQ
def empty_plus (a0:Int) (a1:Int):Option Int :=
 if 4611686018427387904≤a0 then
  some 4611686018427387904
 else
  if 4611686018427387904≤a1 then
   some 4611686018427387904
  else
   some (minI (w64 (a0 + a1)) 4611686018427387904)
theorem spec94 (a0:Int) (a1:Int) (r:Int) (h:empty_plus a0 a1 = some r) :
 call Try.prog T H (.fn 94) [.p (iv a0),.p (iv a1)] [] = some (.ret (.p (iv r)),[]):=by
 refine Sat.fn fun Q hQ=>?_
 unfold empty_plus at h
 rw [call94]
 conv=>arg 1; arg 7; unfold S22.c94 Try.f94; simp only [Option.getD_some]
 by_cases c1:4611686018427387904≤a0
 ·have h:=iteT h c1
  simp only [go_sem,c1]
  injection h with h; subst h
  exact Sat.ok hQ
 ·have h:=iteF h c1
  by_cases c2:4611686018427387904≤a1
  ·have h:=iteT h c2
   simp only [go_sem,c1,c2]
   injection h with h; subst h
   exact Sat.ok hQ
  ·have h:=iteF h c2
   simp only [go_sem,c1,c2]
   injection h with h; subst h
   exact Sat.ok hQ
def empty_sizes (a0:Automaton):Option (List Int) :=
 (mkz 8 a0.States a0.States 0).bind fun v1 =>
 rangeI a0.States v1 (fun k9 i9 (s9:(List Int)) n9 =>
  rangeL a0.Rules (false,s9) (fun k12 i12 x12 (s12:Bool×(List Int)) n12 =>
   rangeL x12.From 1 (fun k13 i13 x13 (s13:Int) n13 =>
    (idxM ((a0.States).toNat) s12.2 x13).bind fun v4 =>
    if v4 = 0 then
     n12 (s12.1,s12.2)
    else
     (empty_plus s13 v4).bind fun v5 =>
     n13 v5) fun s13 =>
   (idxM ((a0.States).toNat) s12.2 x12.To).bind fun v3 =>
   if v3 = 0 then
    n12 (true,(List.set s12.2 ((x12.To).toNat) s13))
   else
    if s13 < v3 then
     n12 (true,(List.set s12.2 ((x12.To).toNat) s13))
    else
     n12 (s12.1,s12.2)) fun s12 =>
  if s12.1 = true then
   n9 s12.2
  else
   k9 s12.2) fun s9 =>
 (tkM ((a0.States).toNat) s9).bind fun v2 =>
 some v2
theorem spec69 (a0:Automaton) (r:List Int) (h:empty_sizes a0 = some r) :
 call Try.prog T H (.fn 69) [.p (.agg [iv a0.States,.sl none 1 (List.map rowI a0.Final),.sl none 3 (List.map row_Rule a0.Rules)])] [] = some (.ret (.p (.sl none 1 (List.map rowI r))),[]):=by
 refine Sat.fn fun Q hQ=>?_
 unfold empty_sizes at h
 rw [call69]
 conv=>arg 1; arg 7; unfold S22.c69 Try.f69; simp only [Option.getD_some]
 obtain ⟨v1,e_v1,h⟩:=ob h
 obtain ⟨e_v11,e_v12,e_v13,e_v14⟩:=mkz_some e_v1
 have e_v1b:boundOk (a0.States).toNat 8 = true:=bnd_of e_v13 (by decide)
 have e_v1r:List.replicate (a0.States).toNat [AV.p (iv 0)] = List.map (rowA rowI) v1:=by rw [e_v14]; exact rep_map (by first | rfl | simp only [go_sem,List.map_nil])
 simp only [go_sem,e_v11,e_v12,e_v1b,e_v1r]
 refine run_rangeI (c:=L69_0) (live:=[1,3,14,15]) (by simp only [go_sem]) (M:=fun i9 (s9:(List Int))=>[(1,.ptr 0 0),(3,.ms 1 0 1 0 ((a0.States).toNat)),(14,.p (iv a0.States)),(15,.p (iv (i9:Int)))]) (Z:=fun i9 (s9:(List Int))=>[.cells [.p (iv a0.States),.p (.sl none 1 (List.map rowI a0.Final)),.p (.sl none 3 (List.map row_Rule a0.Rules))],.arr 0 1 (List.map (rowA rowI) s9)]) (N:=fun (s9:(List Int))=>⟨[(3,.ms 1 0 1 0 ((a0.States).toNat))],[.cells [.p (iv a0.States),.p (.sl none 1 (List.map rowI a0.Final)),.p (.sl none 3 (List.map row_Rule a0.Rules))],.arr 0 1 (List.map (rowA rowI) s9)],[],none,false⟩) h rfl rfl (fun _ _=>rfl) ?_ ?_ ?_
 ·intro s9 h
  try dsimp only at h ⊢
  obtain ⟨v2,e_v2,h⟩:=ob h
  have e_v2a:=(tkM_some e_v2).1
  have e_v2b:=(tkM_some e_v2).2
  simp only [go_sem,e_v2a,e_v2b]
  injection h with h; subst h
  exact Sat.ok hQ
 ·intro K9 i9 s9 hb9 he9
  try dsimp only
  conv=>arg 1; arg 7; unfold L69_0 loopAt S22.c69 Try.f69; simp only [loopIn,Option.getD_some,if_true]
  simp only [go_sem,he9]
  exact hb9
 ·intro K9 k9 i9 s9 n9 hR9 hE9 hb9 hi9 hw9 ih9 h
  try dsimp only at h ⊢
  conv=>arg 1; arg 7; unfold L69_0 loopAt S22.c69 Try.f69; simp only [loopIn,Option.getD_some,if_true]
  simp only [go_sem,hi9,hw9,hR9,hE9]
  refine run_rangeL (c:=L69_2) (live:=[1,3,4,14,15,18,19,20]) (by simp only [go_sem]) (M:=fun i12 (s12:Bool×(List Int))=>[(1,.ptr 0 0),(3,.ms 1 0 1 0 ((a0.States).toNat)),(4,.p (bv s12.1)),(14,.p (iv a0.States)),(15,.p (iv (i9:Int))),(18,.p (.sl none 3 (List.map row_Rule a0.Rules))),(19,.p (iv (a0.Rules.length:Int))),(20,.p (iv (i12:Int)))]) (Z:=fun i12 (s12:Bool×(List Int))=>[.cells [.p (iv a0.States),.p (.sl none 1 (List.map rowI a0.Final)),.p (.sl none 3 (List.map row_Rule a0.Rules))],.arr 0 1 (List.map (rowA rowI) s12.2)]) (N:=fun (s12:Bool×(List Int))=>⟨[(1,.ptr 0 0),(3,.ms 1 0 1 0 ((a0.States).toNat)),(4,.p (bv s12.1)),(14,.p (iv a0.States)),(15,.p (iv (i9:Int)))],[.cells [.p (iv a0.States),.p (.sl none 1 (List.map rowI a0.Final)),.p (.sl none 3 (List.map row_Rule a0.Rules))],.arr 0 1 (List.map (rowA rowI) s12.2)],[],none,false⟩) h rfl rfl (fun _ _=>rfl) ?_ ?_ ?_
  ·intro s12 h
   try dsimp only at h ⊢
   by_cases c1:s12.1 = true
   ·have h:=iteT h c1
    simp only [go_sem,c1,hw9,hR9,hE9]
    exact ih9 s12.2 h
   ·have h:=iteF h c1
    have c1:=eq_false_of_ne_true c1
    simp only [go_sem,c1,hw9,hR9,hE9]
    exact hb9 s12.2 h
  ·intro K12 s12 hb12 he12
   try dsimp only
   conv=>arg 1; arg 7; unfold L69_2 loopAt S22.c69 Try.f69; simp only [loopIn,Option.getD_some,if_true]
   simp only [go_sem,he12]
   exact hb12
  ·intro K12 k12 i12 x12 s12 n12 hR12 hE12 hb12 hx12 hi12 hw12 ih12 h
   try dsimp only at h ⊢
   conv=>arg 1; arg 7; unfold L69_2 loopAt S22.c69 Try.f69; simp only [loopIn,Option.getD_some,if_true]
   simp only [go_sem,hx12,hi12,hw12,hw9,hR9,hE9,hR12,hE12]
   refine run_rangeL (c:=L69_4) (live:=[1,3,4,6,7,14,15,18,19,20,25,26,27]) (by simp only [go_sem]) (M:=fun i13 (s13:Int)=>[(1,.ptr 0 0),(3,.ms 1 0 1 0 ((a0.States).toNat)),(4,.p (bv s12.1)),(6,.ptr 2 0),(7,.p (iv s13)),(14,.p (iv a0.States)),(15,.p (iv (i9:Int))),(18,.p (.sl none 3 (List.map row_Rule a0.Rules))),(19,.p (iv (a0.Rules.length:Int))),(20,.p (iv (i12:Int))),(25,.p (.sl none 1 (List.map rowI x12.From))),(26,.p (iv (x12.From.length:Int))),(27,.p (iv (i13:Int)))]) (Z:=fun i13 (s13:Int)=>[.cells [.p (iv a0.States),.p (.sl none 1 (List.map rowI a0.Final)),.p (.sl none 3 (List.map row_Rule a0.Rules))],.arr 0 1 (List.map (rowA rowI) s12.2),.cells [.p (iv x12.Sym),.p (.sl none 1 (List.map rowI x12.From)),.p (iv x12.To)]]) (N:=fun (s13:Int)=>⟨[(1,.ptr 0 0),(3,.ms 1 0 1 0 ((a0.States).toNat)),(4,.p (bv s12.1)),(6,.ptr 2 0),(7,.p (iv s13)),(14,.p (iv a0.States)),(15,.p (iv (i9:Int))),(18,.p (.sl none 3 (List.map row_Rule a0.Rules))),(19,.p (iv (a0.Rules.length:Int))),(20,.p (iv (i12:Int)))],[.cells [.p (iv a0.States),.p (.sl none 1 (List.map rowI a0.Final)),.p (.sl none 3 (List.map row_Rule a0.Rules))],.arr 0 1 (List.map (rowA rowI) s12.2),.cells [.p (iv x12.Sym),.p (.sl none 1 (List.map rowI x12.From)),.p (iv x12.To)]],[],none,false⟩) h rfl rfl (fun _ _=>rfl) ?_ ?_ ?_
   ·intro s13 h
    try dsimp only at h ⊢
    obtain ⟨v3,e_v3,h⟩:=ob h
    obtain ⟨e_v3a,e_v3b,e_v3d⟩:=idxM_some e_v3
    by_cases c2:v3 = 0
    ·have h:=iteT h c2
     have c2b:(v3 == 0) = true:=beqT c2
     have e_y1:List.set (List.map (rowA rowI) s12.2) ((x12.To).toNat) [.p (iv s13)] = List.map (rowA rowI) (List.set s12.2 ((x12.To).toNat) s13):=map_set' (by first | rfl | simp only [go_sem,List.map_cons,List.map_nil])
     simp only [go_sem,e_v3a,e_v3b,e_v3d,c2b,e_y1,hw9,hR9,hE9,hw12,hR12,hE12]
     exact ih12 (true,(List.set s12.2 ((x12.To).toNat) s13)) h
    ·have h:=iteF h c2
     have c2b:(v3 == 0) = false:=beqF c2
     by_cases c3:s13 < v3
     ·have h:=iteT h c3
      have e_y2:List.set (List.map (rowA rowI) s12.2) ((x12.To).toNat) [.p (iv s13)] = List.map (rowA rowI) (List.set s12.2 ((x12.To).toNat) s13):=map_set' (by first | rfl | simp only [go_sem,List.map_cons,List.map_nil])
      simp only [go_sem,e_v3a,e_v3b,e_v3d,c2b,c3,e_y2,hw9,hR9,hE9,hw12,hR12,hE12]
      exact ih12 (true,(List.set s12.2 ((x12.To).toNat) s13)) h
     ·have h:=iteF h c3
      simp only [go_sem,e_v3a,e_v3b,e_v3d,c2b,c3,hw9,hR9,hE9,hw12,hR12,hE12]
      exact ih12 (s12.1,s12.2) h
   ·intro K13 s13 hb13 he13
    try dsimp only
    conv=>arg 1; arg 7; unfold L69_4 loopAt S22.c69 Try.f69; simp only [loopIn,Option.getD_some,if_true]
    simp only [go_sem,he13]
    exact hb13
   ·intro K13 k13 i13 x13 s13 n13 hR13 hE13 hb13 hx13 hi13 hw13 ih13 h
    try dsimp only at h ⊢
    conv=>arg 1; arg 7; unfold L69_4 loopAt S22.c69 Try.f69; simp only [loopIn,Option.getD_some,if_true]
    obtain ⟨v4,e_v4,h⟩:=ob h
    obtain ⟨e_v4a,e_v4b,e_v4d⟩:=idxM_some e_v4
    by_cases c4:v4 = 0
    ·have h:=iteT h c4
     have c4b:(v4 == 0) = true:=beqT c4
     simp only [go_sem,hx13,hi13,hw13,e_v4a,e_v4b,e_v4d,c4b,hw9,hR9,hE9,hw12,hR12,hE12,hR13,hE13]
     exact ih12 (s12.1,s12.2) h
    ·have h:=iteF h c4
     have c4b:(v4 == 0) = false:=beqF c4
     obtain ⟨v5,e_v5,h⟩:=ob h
     have e_v5c:=spec94 s13 v4 v5 e_v5
     simp only [go_sem,hx13,hi13,hw13,e_v4a,e_v4b,e_v4d,c4b,e_v5c,hw9,hR9,hE9,hw12,hR12,hE12,hR13,hE13]
     exact ih13 v5 h
def empty_Sizes (a0:Alphabet) (a1:Automaton):Option ((List Int)×Int) :=
 (auto_Valid a0 a1).bind fun v1 =>
 if v1 = true then
  (empty_sizes a1).bind fun v2 =>
  some (v2,0)
 else
  some (([]:List Int),1)
theorem spec37 (a0:Alphabet) (a1:Automaton) (r:(List Int)×Int) (h:empty_Sizes a0 a1 = some r) :
 call Try.prog T H (.fn 37) [.p (.agg [.sl none 1 (List.map rowI a0.Ranks)]),.p (.agg [iv a1.States,.sl none 1 (List.map rowI a1.Final),.sl none 3 (List.map row_Rule a1.Rules)])] [] = some (.ret (.p (.tup [.sl none 1 (List.map rowI r.1),iv r.2])),[]):=by
 refine Sat.fn fun Q hQ=>?_
 unfold empty_Sizes at h
 rw [call37]
 conv=>arg 1; arg 7; unfold S22.c37 Try.f37; simp only [Option.getD_some]
 obtain ⟨v1,e_v1,h⟩:=ob h
 have e_v1c:=spec28 a0 a1 v1 e_v1
 by_cases c1:v1 = true
 ·have h:=iteT h c1
  obtain ⟨v2,e_v2,h⟩:=ob h
  have e_v2c:=spec69 a1 v2 e_v2
  simp only [go_sem,e_v1c,c1,e_v2c]
  injection h with h; subst h
  exact Sat.ok hQ
 ·have h:=iteF h c1
  have c1:=eq_false_of_ne_true c1
  simp only [go_sem,e_v1c,c1]
  injection h with h; subst h
  exact Sat.ok hQ
def tree_Size:Nat→Tree→Option Int
 | 0,_=>none
 | n + 1,a0 =>
  rangeL a0.Kids 1 (fun k1 i1 x1 (s1:Int) n1 =>
   (tree_Size n x1).bind fun v1 =>
   n1 (w64 (s1 + v1))) fun s1 =>
  some s1
theorem spec38:∀ (n:Nat),(∀ (a0:Tree) (r:Int),tree_Size n a0 = some r →
 call Try.prog T H (.fn 38) [.p (.agg [iv a0.Sym,.sl none 2 (List.map row_Tree a0.Kids)])] [] = some (.ret (.p (iv r)),[])):=by
 intro n
 induction n with
 | zero=>intro a0 r h; cases h
 | succ n ih =>
  intro a0 r h
  refine Sat.fn fun Q hQ=>?_
  rw [tree_Size] at h
  rw [call38]
  conv=>arg 1; arg 7; unfold S22.c38 Try.f38; simp only [Option.getD_some]
  simp only [go_sem]
  refine run_rangeL (c:=L38_0) (live:=[3,7,8,9]) (by simp only [go_sem]) (M:=fun i1 (s1:Int)=>[(3,.p (iv s1)),(7,.p (.sl none 2 (List.map row_Tree a0.Kids))),(8,.p (iv (a0.Kids.length:Int))),(9,.p (iv (i1:Int)))]) (Z:=fun i1 (s1:Int)=>[.cells [.p (iv a0.Sym),.p (.sl none 2 (List.map row_Tree a0.Kids))]]) (N:=fun (s1:Int)=>⟨[(3,.p (iv s1))],[.cells [.p (iv a0.Sym),.p (.sl none 2 (List.map row_Tree a0.Kids))]],[],none,false⟩) h rfl rfl (fun _ _=>rfl) ?_ ?_ ?_
  ·intro s1 h
   try dsimp only at h ⊢
   simp only [go_sem]
   injection h with h; subst h
   exact Sat.ok hQ
  ·intro K1 s1 hb1 he1
   try dsimp only
   conv=>arg 1; arg 7; unfold L38_0 loopAt S22.c38 Try.f38; simp only [loopIn,Option.getD_some,if_true]
   simp only [go_sem,he1]
   exact hb1
  ·intro K1 k1 i1 x1 s1 n1 hR1 hE1 hb1 hx1 hi1 hw1 ih1 h
   try dsimp only at h ⊢
   conv=>arg 1; arg 7; unfold L38_0 loopAt S22.c38 Try.f38; simp only [loopIn,Option.getD_some,if_true]
   obtain ⟨v1,e_v1,h⟩:=ob h
   have e_v1c:=ih x1 v1 e_v1
   simp only [go_sem,hx1,hi1,hw1,e_v1c,hR1,hE1]
   exact ih1 (w64 (s1 + v1)) h
def ref01_ValidAlphabet (a0:Alphabet):Option Bool :=
 if 12 < (a0.Ranks.length:Int) then
  some false
 else
  rangeL a0.Ranks () (fun k1 i1 x1 (s1:Unit) n1 =>
   if x1 < 0 then
    some false
   else
    if 3 < x1 then
     some false
    else
     n1 ()) fun s1 =>
  some true
theorem spec56 (a0:Alphabet) (r:Bool) (h:ref01_ValidAlphabet a0 = some r) :
 call Try.prog T H (.fn 56) [.p (.agg [.sl none 1 (List.map rowI a0.Ranks)])] [] = some (.ret (.p (bv r)),[]):=by
 refine Sat.fn fun Q hQ=>?_
 unfold ref01_ValidAlphabet at h
 rw [call56]
 conv=>arg 1; arg 7; unfold S22.c56 Try.f56; simp only [Option.getD_some]
 by_cases c1:12 < (a0.Ranks.length:Int)
 ·have h:=iteT h c1
  simp only [go_sem,c1]
  injection h with h; subst h
  exact Sat.ok hQ
 ·have h:=iteF h c1
  simp only [go_sem,c1]
  refine run_rangeL (c:=L56_0) (live:=[10,11,12]) (by simp only [go_sem]) (M:=fun i1 (s1:Unit)=>[(10,.p (.sl none 1 (List.map rowI a0.Ranks))),(11,.p (iv (a0.Ranks.length:Int))),(12,.p (iv (i1:Int)))]) (Z:=fun i1 (s1:Unit)=>[.cells [.p (.sl none 1 (List.map rowI a0.Ranks))]]) (N:=fun (s1:Unit)=>⟨[],[.cells [.p (.sl none 1 (List.map rowI a0.Ranks))]],[],none,false⟩) h rfl rfl (fun _ _=>rfl) ?_ ?_ ?_
  ·intro s1 h
   try dsimp only at h ⊢
   simp only [go_sem]
   injection h with h; subst h
   exact Sat.ok hQ
  ·intro K1 s1 hb1 he1
   try dsimp only
   conv=>arg 1; arg 7; unfold L56_0 loopAt S22.c56 Try.f56; simp only [loopIn,Option.getD_some,if_true]
   simp only [go_sem,he1]
   exact hb1
  ·intro K1 k1 i1 x1 s1 n1 hR1 hE1 hb1 hx1 hi1 hw1 ih1 h
   try dsimp only at h ⊢
   conv=>arg 1; arg 7; unfold L56_0 loopAt S22.c56 Try.f56; simp only [loopIn,Option.getD_some,if_true]
   by_cases c2:x1 < 0
   ·have h:=iteT h c2
    simp only [go_sem,hx1,hi1,hw1,c2,hR1,hE1]
    injection h with h; subst h
    exact Sat.ok hQ
   ·have h:=iteF h c2
    by_cases c3:3 < x1
    ·have h:=iteT h c3
     simp only [go_sem,hx1,hi1,hw1,c2,c3,hR1,hE1]
     injection h with h; subst h
     exact Sat.ok hQ
    ·have h:=iteF h c3
     simp only [go_sem,hx1,hi1,hw1,c2,c3,hR1,hE1]
     exact ih1 () h
def ref01_shaped:Nat→Alphabet→Tree→Option Bool
 | 0,_,_=>none
 | n + 1,a0,a1 =>
  if a1.Sym < 0 then
   some false
  else
   if (a0.Ranks.length:Int)≤a1.Sym then
    some false
   else
    (idx a0.Ranks a1.Sym).bind fun v1 =>
    if (a1.Kids.length:Int) = v1 then
     rangeL a1.Kids () (fun k1 i1 x1 (s1:Unit) n1 =>
      (ref01_shaped n a0 x1).bind fun v2 =>
      if v2 = true then
       n1 ()
      else
       some false) fun s1 =>
     some true
    else
     some false
theorem spec57:∀ (n:Nat),(∀ (a0:Alphabet) (a1:Tree) (r:Bool),ref01_shaped n a0 a1 = some r →
 call Try.prog T H (.fn 57) [.p (.agg [.sl none 1 (List.map rowI a0.Ranks)]),.p (.agg [iv a1.Sym,.sl none 2 (List.map row_Tree a1.Kids)])] [] = some (.ret (.p (bv r)),[])):=by
 intro n
 induction n with
 | zero=>intro a0 a1 r h; cases h
 | succ n ih =>
  intro a0 a1 r h
  refine Sat.fn fun Q hQ=>?_
  rw [ref01_shaped] at h
  rw [call57]
  conv=>arg 1; arg 7; unfold S22.c57 Try.f57; simp only [Option.getD_some]
  by_cases c1:a1.Sym < 0
  ·have h:=iteT h c1
   simp only [go_sem,c1]
   injection h with h; subst h
   exact Sat.ok hQ
  ·have h:=iteF h c1
   by_cases c2:(a0.Ranks.length:Int)≤a1.Sym
   ·have h:=iteT h c2
    simp only [go_sem,c1,c2]
    injection h with h; subst h
    exact Sat.ok hQ
   ·have h:=iteF h c2
    obtain ⟨v1,e_v1,h⟩:=ob h
    obtain ⟨e_v1a,e_v1b⟩:=idx_some e_v1
    by_cases c3:(a1.Kids.length:Int) = v1
    ·have h:=iteT h c3
     have c3b:((a1.Kids.length:Int) != v1) = false:=bneF c3
     simp only [go_sem,c1,c2,e_v1a,e_v1b,c3b]
     refine run_rangeL (c:=L57_0) (live:=[2,31,32,33]) (by simp only [go_sem]) (M:=fun i1 (s1:Unit)=>[(2,.ptr 0 0),(31,.p (.sl none 2 (List.map row_Tree a1.Kids))),(32,.p (iv (a1.Kids.length:Int))),(33,.p (iv (i1:Int)))]) (Z:=fun i1 (s1:Unit)=>[.cells [.p (.sl none 1 (List.map rowI a0.Ranks))],.cells [.p (iv a1.Sym),.p (.sl none 2 (List.map row_Tree a1.Kids))]]) (N:=fun (s1:Unit)=>⟨[],[.cells [.p (.sl none 1 (List.map rowI a0.Ranks))],.cells [.p (iv a1.Sym),.p (.sl none 2 (List.map row_Tree a1.Kids))]],[],none,false⟩) h rfl rfl (fun _ _=>rfl) ?_ ?_ ?_
     ·intro s1 h
      try dsimp only at h ⊢
      simp only [go_sem]
      injection h with h; subst h
      exact Sat.ok hQ
     ·intro K1 s1 hb1 he1
      try dsimp only
      conv=>arg 1; arg 7; unfold L57_0 loopAt S22.c57 Try.f57; simp only [loopIn,Option.getD_some,if_true]
      simp only [go_sem,he1]
      exact hb1
     ·intro K1 k1 i1 x1 s1 n1 hR1 hE1 hb1 hx1 hi1 hw1 ih1 h
      try dsimp only at h ⊢
      conv=>arg 1; arg 7; unfold L57_0 loopAt S22.c57 Try.f57; simp only [loopIn,Option.getD_some,if_true]
      obtain ⟨v2,e_v2,h⟩:=ob h
      have e_v2c:=ih a0 x1 v2 e_v2
      by_cases c4:v2 = true
      ·have h:=iteT h c4
       simp only [go_sem,hx1,hi1,hw1,e_v2c,c4,hR1,hE1]
       exact ih1 () h
      ·have h:=iteF h c4
       have c4:=eq_false_of_ne_true c4
       simp only [go_sem,hx1,hi1,hw1,e_v2c,c4,hR1,hE1]
       injection h with h; subst h
       exact Sat.ok hQ
    ·have h:=iteF h c3
     have c3b:((a1.Kids.length:Int) != v1) = true:=bneT c3
     simp only [go_sem,c1,c2,e_v1a,e_v1b,c3b]
     injection h with h; subst h
     exact Sat.ok hQ
def ref01_Valid (n:Nat) (a0:Alphabet) (a1:Tree):Option Bool :=
 (ref01_ValidAlphabet a0).bind fun v1 =>
 if v1 = true then
  (ref01_Few n a1 300).bind fun v2 =>
  if v2 = true then
   (ref01_shaped n a0 a1).bind fun v3 =>
   some v3
  else
   some false
 else
  some false
theorem spec24 (n:Nat) (a0:Alphabet) (a1:Tree) (r:Bool) (h:ref01_Valid n a0 a1 = some r) :
 call Try.prog T H (.fn 24) [.p (.agg [.sl none 1 (List.map rowI a0.Ranks)]),.p (.agg [iv a1.Sym,.sl none 2 (List.map row_Tree a1.Kids)])] [] = some (.ret (.p (bv r)),[]):=by
 refine Sat.fn fun Q hQ=>?_
 unfold ref01_Valid at h
 rw [call24]
 conv=>arg 1; arg 7; unfold S22.c24 Try.f24; simp only [Option.getD_some]
 obtain ⟨v1,e_v1,h⟩:=ob h
 have e_v1c:=spec56 a0 v1 e_v1
 by_cases c1:v1 = true
 ·have h:=iteT h c1
  obtain ⟨v2,e_v2,h⟩:=ob h
  have e_v2c:=spec27 n a1 300 v2 e_v2
  by_cases c2:v2 = true
  ·have h:=iteT h c2
   obtain ⟨v3,e_v3,h⟩:=ob h
   have e_v3c:=spec57 n a0 a1 v3 e_v3
   simp only [go_sem,e_v1c,c1,e_v2c,c2,e_v3c]
   injection h with h; subst h
   exact Sat.ok hQ
  ·have h:=iteF h c2
   have c2:=eq_false_of_ne_true c2
   simp only [go_sem,e_v1c,c1,e_v2c,c2]
   injection h with h; subst h
   exact Sat.ok hQ
 ·have h:=iteF h c1
  have c1:=eq_false_of_ne_true c1
  simp only [go_sem,e_v1c,c1]
  injection h with h; subst h
  exact Sat.ok hQ
def ref03_Valid (a0:Alphabet) (a1:Automaton):Option Bool :=
 (ref01_ValidAlphabet a0).bind fun v1 =>
 if v1 = true then
  if a1.States < 0 then
   some false
  else
   if 300 < a1.States then
    some false
   else
    if 20000 < (a1.Rules.length:Int) then
     some false
    else
     rangeL a1.Final () (fun k1 i1 x1 (s1:Unit) n1 =>
      if x1 < 0 then
       some false
      else
       if a1.States≤x1 then
        some false
       else
        if 0 < (i1:Int) then
         (idx a1.Final (w64 ((i1:Int) - 1))).bind fun v3 =>
         if x1≤v3 then
          some false
         else
          n1 ()
        else
         n1 ()) fun s1 =>
     rangeL a1.Rules () (fun k3 i3 x3 (s3:Unit) n3 =>
      if x3.Sym < 0 then
       some false
      else
       if (a0.Ranks.length:Int)≤x3.Sym then
        some false
       else
        (idx a0.Ranks x3.Sym).bind fun v2 =>
        if (x3.From.length:Int) = v2 then
         if x3.To < 0 then
          some false
         else
          if a1.States≤x3.To then
           some false
          else
           rangeL x3.From () (fun k4 i4 x4 (s4:Unit) n4 =>
            if x4 < 0 then
             some false
            else
             if a1.States≤x4 then
              some false
             else
              n4 ()) fun s4 =>
           n3 ()
        else
         some false) fun s3 =>
     some true
 else
  some false
theorem spec67 (a0:Alphabet) (a1:Automaton) (r:Bool) (h:ref03_Valid a0 a1 = some r) :
 call Try.prog T H (.fn 67) [.p (.agg [.sl none 1 (List.map rowI a0.Ranks)]),.p (.agg [iv a1.States,.sl none 1 (List.map rowI a1.Final),.sl none 3 (List.map row_Rule a1.Rules)])] [] = some (.ret (.p (bv r)),[]):=by
 refine Sat.fn fun Q hQ=>?_
 unfold ref03_Valid at h
 rw [call67]
 conv=>arg 1; arg 7; unfold S22.c67 Try.f67; simp only [Option.getD_some]
 obtain ⟨v1,e_v1,h⟩:=ob h
 have e_v1c:=spec56 a0 v1 e_v1
 by_cases c1:v1 = true
 ·have h:=iteT h c1
  by_cases c2:a1.States < 0
  ·have h:=iteT h c2
   simp only [go_sem,e_v1c,c1,c2]
   injection h with h; subst h
   exact Sat.ok hQ
  ·have h:=iteF h c2
   by_cases c3:300 < a1.States
   ·have h:=iteT h c3
    simp only [go_sem,e_v1c,c1,c2,c3]
    injection h with h; subst h
    exact Sat.ok hQ
   ·have h:=iteF h c3
    by_cases c4:20000 < (a1.Rules.length:Int)
    ·have h:=iteT h c4
     simp only [go_sem,e_v1c,c1,c2,c3,c4]
     injection h with h; subst h
     exact Sat.ok hQ
    ·have h:=iteF h c4
     simp only [go_sem,e_v1c,c1,c2,c3,c4]
     refine run_rangeL (c:=L67_0) (live:=[2,3,31,32,33]) (by simp only [go_sem]) (M:=fun i1 (s1:Unit)=>[(2,.ptr 0 0),(3,.ptr 1 0),(31,.p (.sl none 1 (List.map rowI a1.Final))),(32,.p (iv (a1.Final.length:Int))),(33,.p (iv (i1:Int)))]) (Z:=fun i1 (s1:Unit)=>[.cells [.p (.sl none 1 (List.map rowI a0.Ranks))],.cells [.p (iv a1.States),.p (.sl none 1 (List.map rowI a1.Final)),.p (.sl none 3 (List.map row_Rule a1.Rules))]]) (N:=fun (s1:Unit)=>⟨[(2,.ptr 0 0),(3,.ptr 1 0)],[.cells [.p (.sl none 1 (List.map rowI a0.Ranks))],.cells [.p (iv a1.States),.p (.sl none 1 (List.map rowI a1.Final)),.p (.sl none 3 (List.map row_Rule a1.Rules))]],[],none,false⟩) h rfl rfl (fun _ _=>rfl) ?_ ?_ ?_
     ·intro s1 h
      try dsimp only at h ⊢
      simp only [go_sem]
      refine run_rangeL (c:=L67_2) (live:=[2,3,62,63,64]) (by simp only [go_sem]) (M:=fun i3 (s3:Unit)=>[(2,.ptr 0 0),(3,.ptr 1 0),(62,.p (.sl none 3 (List.map row_Rule a1.Rules))),(63,.p (iv (a1.Rules.length:Int))),(64,.p (iv (i3:Int)))]) (Z:=fun i3 (s3:Unit)=>[.cells [.p (.sl none 1 (List.map rowI a0.Ranks))],.cells [.p (iv a1.States),.p (.sl none 1 (List.map rowI a1.Final)),.p (.sl none 3 (List.map row_Rule a1.Rules))]]) (N:=fun (s3:Unit)=>⟨[],[.cells [.p (.sl none 1 (List.map rowI a0.Ranks))],.cells [.p (iv a1.States),.p (.sl none 1 (List.map rowI a1.Final)),.p (.sl none 3 (List.map row_Rule a1.Rules))]],[],none,false⟩) h rfl rfl (fun _ _=>rfl) ?_ ?_ ?_
      ·intro s3 h
       try dsimp only at h ⊢
       simp only [go_sem]
       injection h with h; subst h
       exact Sat.ok hQ
      ·intro K3 s3 hb3 he3
       try dsimp only
       conv=>arg 1; arg 7; unfold L67_2 loopAt S22.c67 Try.f67; simp only [loopIn,Option.getD_some,if_true]
       simp only [go_sem,he3]
       exact hb3
      ·intro K3 k3 i3 x3 s3 n3 hR3 hE3 hb3 hx3 hi3 hw3 ih3 h
       try dsimp only at h ⊢
       conv=>arg 1; arg 7; unfold L67_2 loopAt S22.c67 Try.f67; simp only [loopIn,Option.getD_some,if_true]
       by_cases c5:x3.Sym < 0
       ·have h:=iteT h c5
        simp only [go_sem,hx3,hi3,hw3,c5,hR3,hE3]
        injection h with h; subst h
        exact Sat.ok hQ
       ·have h:=iteF h c5
        by_cases c6:(a0.Ranks.length:Int)≤x3.Sym
        ·have h:=iteT h c6
         simp only [go_sem,hx3,hi3,hw3,c5,c6,hR3,hE3]
         injection h with h; subst h
         exact Sat.ok hQ
        ·have h:=iteF h c6
         obtain ⟨v2,e_v2,h⟩:=ob h
         obtain ⟨e_v2a,e_v2b⟩:=idx_some e_v2
         by_cases c7:(x3.From.length:Int) = v2
         ·have h:=iteT h c7
          have c7b:((x3.From.length:Int) != v2) = false:=bneF c7
          by_cases c8:x3.To < 0
          ·have h:=iteT h c8
           simp only [go_sem,hx3,hi3,hw3,c5,c6,e_v2a,e_v2b,c7b,c8,hR3,hE3]
           injection h with h; subst h
           exact Sat.ok hQ
          ·have h:=iteF h c8
           by_cases c9:a1.States≤x3.To
           ·have h:=iteT h c9
            simp only [go_sem,hx3,hi3,hw3,c5,c6,e_v2a,e_v2b,c7b,c8,c9,hR3,hE3]
            injection h with h; subst h
            exact Sat.ok hQ
           ·have h:=iteF h c9
            simp only [go_sem,hx3,hi3,hw3,c5,c6,e_v2a,e_v2b,c7b,c8,c9,hR3,hE3]
            refine run_rangeL (c:=L67_4) (live:=[2,3,62,63,64,104,105,106]) (by simp only [go_sem]) (M:=fun i4 (s4:Unit)=>[(2,.ptr 0 0),(3,.ptr 1 0),(62,.p (.sl none 3 (List.map row_Rule a1.Rules))),(63,.p (iv (a1.Rules.length:Int))),(64,.p (iv (i3:Int))),(104,.p (.sl none 1 (List.map rowI x3.From))),(105,.p (iv (x3.From.length:Int))),(106,.p (iv (i4:Int)))]) (Z:=fun i4 (s4:Unit)=>[.cells [.p (.sl none 1 (List.map rowI a0.Ranks))],.cells [.p (iv a1.States),.p (.sl none 1 (List.map rowI a1.Final)),.p (.sl none 3 (List.map row_Rule a1.Rules))],.cells [.p (iv x3.Sym),.p (.sl none 1 (List.map rowI x3.From)),.p (iv x3.To)]]) (N:=fun (s4:Unit)=>⟨[(2,.ptr 0 0),(3,.ptr 1 0),(62,.p (.sl none 3 (List.map row_Rule a1.Rules))),(63,.p (iv (a1.Rules.length:Int))),(64,.p (iv (i3:Int)))],[.cells [.p (.sl none 1 (List.map rowI a0.Ranks))],.cells [.p (iv a1.States),.p (.sl none 1 (List.map rowI a1.Final)),.p (.sl none 3 (List.map row_Rule a1.Rules))],.cells [.p (iv x3.Sym),.p (.sl none 1 (List.map rowI x3.From)),.p (iv x3.To)]],[],none,false⟩) h rfl rfl (fun _ _=>rfl) ?_ ?_ ?_
            ·intro s4 h
             try dsimp only at h ⊢
             simp only [go_sem,hw3,hR3,hE3]
             exact ih3 () h
            ·intro K4 s4 hb4 he4
             try dsimp only
             conv=>arg 1; arg 7; unfold L67_4 loopAt S22.c67 Try.f67; simp only [loopIn,Option.getD_some,if_true]
             simp only [go_sem,he4]
             exact hb4
            ·intro K4 k4 i4 x4 s4 n4 hR4 hE4 hb4 hx4 hi4 hw4 ih4 h
             try dsimp only at h ⊢
             conv=>arg 1; arg 7; unfold L67_4 loopAt S22.c67 Try.f67; simp only [loopIn,Option.getD_some,if_true]
             by_cases c10:x4 < 0
             ·have h:=iteT h c10
              simp only [go_sem,hx4,hi4,hw4,c10,hw3,hR3,hE3,hR4,hE4]
              injection h with h; subst h
              exact Sat.ok hQ
             ·have h:=iteF h c10
              by_cases c11:a1.States≤x4
              ·have h:=iteT h c11
               simp only [go_sem,hx4,hi4,hw4,c10,c11,hw3,hR3,hE3,hR4,hE4]
               injection h with h; subst h
               exact Sat.ok hQ
              ·have h:=iteF h c11
               simp only [go_sem,hx4,hi4,hw4,c10,c11,hw3,hR3,hE3,hR4,hE4]
               exact ih4 () h
         ·have h:=iteF h c7
          have c7b:((x3.From.length:Int) != v2) = true:=bneT c7
          simp only [go_sem,hx3,hi3,hw3,c5,c6,e_v2a,e_v2b,c7b,hR3,hE3]
          injection h with h; subst h
          exact Sat.ok hQ
     ·intro K1 s1 hb1 he1
      try dsimp only
      conv=>arg 1; arg 7; unfold L67_0 loopAt S22.c67 Try.f67; simp only [loopIn,Option.getD_some,if_true]
      simp only [go_sem,he1]
      exact hb1
     ·intro K1 k1 i1 x1 s1 n1 hR1 hE1 hb1 hx1 hi1 hw1 ih1 h
      try dsimp only at h ⊢
      conv=>arg 1; arg 7; unfold L67_0 loopAt S22.c67 Try.f67; simp only [loopIn,Option.getD_some,if_true]
      by_cases c12:x1 < 0
      ·have h:=iteT h c12
       simp only [go_sem,hx1,hi1,hw1,c12,hR1,hE1]
       injection h with h; subst h
       exact Sat.ok hQ
      ·have h:=iteF h c12
       by_cases c13:a1.States≤x1
       ·have h:=iteT h c13
        simp only [go_sem,hx1,hi1,hw1,c12,c13,hR1,hE1]
        injection h with h; subst h
        exact Sat.ok hQ
       ·have h:=iteF h c13
        by_cases c14:0 < (i1:Int)
        ·have h:=iteT h c14
         obtain ⟨v3,e_v3,h⟩:=ob h
         obtain ⟨e_v3a,e_v3b⟩:=idx_some e_v3
         by_cases c15:x1≤v3
         ·have h:=iteT h c15
          simp only [go_sem,hx1,hi1,hw1,c12,c13,c14,e_v3a,e_v3b,c15,hR1,hE1]
          injection h with h; subst h
          exact Sat.ok hQ
         ·have h:=iteF h c15
          simp only [go_sem,hx1,hi1,hw1,c12,c13,c14,e_v3a,e_v3b,c15,hR1,hE1]
          exact ih1 () h
        ·have h:=iteF h c14
         simp only [go_sem,hx1,hi1,hw1,c12,c13,c14,hR1,hE1]
         exact ih1 () h
 ·have h:=iteF h c1
  have c1:=eq_false_of_ne_true c1
  simp only [go_sem,e_v1c,c1]
  injection h with h; subst h
  exact Sat.ok hQ
def ref22_Asked (n:Nat) (a0:Alphabet) (a1:Automaton) (a2:Tree):Option Int :=
 (ref03_Valid a0 a1).bind fun v1 =>
 if v1 = true then
  (ref01_Valid n a0 a2).bind fun v2 =>
  if v2 = true then
   some 0
  else
   some 1
 else
  some 1
theorem spec34 (n:Nat) (a0:Alphabet) (a1:Automaton) (a2:Tree) (r:Int) (h:ref22_Asked n a0 a1 a2 = some r) :
 call Try.prog T H (.fn 34) [.p (.agg [.sl none 1 (List.map rowI a0.Ranks)]),.p (.agg [iv a1.States,.sl none 1 (List.map rowI a1.Final),.sl none 3 (List.map row_Rule a1.Rules)]),.p (.agg [iv a2.Sym,.sl none 2 (List.map row_Tree a2.Kids)])] [] = some (.ret (.p (iv r)),[]):=by
 refine Sat.fn fun Q hQ=>?_
 unfold ref22_Asked at h
 rw [call34]
 conv=>arg 1; arg 7; unfold S22.c34 Try.f34; simp only [Option.getD_some]
 obtain ⟨v1,e_v1,h⟩:=ob h
 have e_v1c:=spec67 a0 a1 v1 e_v1
 by_cases c1:v1 = true
 ·have h:=iteT h c1
  obtain ⟨v2,e_v2,h⟩:=ob h
  have e_v2c:=spec24 n a0 a2 v2 e_v2
  by_cases c2:v2 = true
  ·have h:=iteT h c2
   simp only [go_sem,e_v1c,c1,e_v2c,c2]
   injection h with h; subst h
   exact Sat.ok hQ
  ·have h:=iteF h c2
   have c2:=eq_false_of_ne_true c2
   simp only [go_sem,e_v1c,c1,e_v2c,c2]
   injection h with h; subst h
   exact Sat.ok hQ
 ·have h:=iteF h c1
  have c1:=eq_false_of_ne_true c1
  simp only [go_sem,e_v1c,c1]
  injection h with h; subst h
  exact Sat.ok hQ
def ref01_Size:Nat→Tree→Option Int
 | 0,_=>none
 | n + 1,a0 =>
  rangeL a0.Kids 1 (fun k1 i1 x1 (s1:Int) n1 =>
   (ref01_Size n x1).bind fun v1 =>
   n1 (w64 (s1 + v1))) fun s1 =>
  some s1
theorem spec23:∀ (n:Nat),(∀ (a0:Tree) (r:Int),ref01_Size n a0 = some r →
 call Try.prog T H (.fn 23) [.p (.agg [iv a0.Sym,.sl none 2 (List.map row_Tree a0.Kids)])] [] = some (.ret (.p (iv r)),[])):=by
 intro n
 induction n with
 | zero=>intro a0 r h; cases h
 | succ n ih =>
  intro a0 r h
  refine Sat.fn fun Q hQ=>?_
  rw [ref01_Size] at h
  rw [call23]
  conv=>arg 1; arg 7; unfold S22.c23 Try.f23; simp only [Option.getD_some]
  simp only [go_sem]
  refine run_rangeL (c:=L23_0) (live:=[3,7,8,9]) (by simp only [go_sem]) (M:=fun i1 (s1:Int)=>[(3,.p (iv s1)),(7,.p (.sl none 2 (List.map row_Tree a0.Kids))),(8,.p (iv (a0.Kids.length:Int))),(9,.p (iv (i1:Int)))]) (Z:=fun i1 (s1:Int)=>[.cells [.p (iv a0.Sym),.p (.sl none 2 (List.map row_Tree a0.Kids))]]) (N:=fun (s1:Int)=>⟨[(3,.p (iv s1))],[.cells [.p (iv a0.Sym),.p (.sl none 2 (List.map row_Tree a0.Kids))]],[],none,false⟩) h rfl rfl (fun _ _=>rfl) ?_ ?_ ?_
  ·intro s1 h
   try dsimp only at h ⊢
   simp only [go_sem]
   injection h with h; subst h
   exact Sat.ok hQ
  ·intro K1 s1 hb1 he1
   try dsimp only
   conv=>arg 1; arg 7; unfold L23_0 loopAt S22.c23 Try.f23; simp only [loopIn,Option.getD_some,if_true]
   simp only [go_sem,he1]
   exact hb1
  ·intro K1 k1 i1 x1 s1 n1 hR1 hE1 hb1 hx1 hi1 hw1 ih1 h
   try dsimp only at h ⊢
   conv=>arg 1; arg 7; unfold L23_0 loopAt S22.c23 Try.f23; simp only [loopIn,Option.getD_some,if_true]
   obtain ⟨v1,e_v1,h⟩:=ob h
   have e_v1c:=ih x1 v1 e_v1
   simp only [go_sem,hx1,hi1,hw1,e_v1c,hR1,hE1]
   exact ih1 (w64 (s1 + v1)) h
def ref06_plus (a0:Int) (a1:Int):Option Int :=
 if (w64 (4611686018427387904 - a1)) < a0 then
  some 4611686018427387904
 else
  some (w64 (a0 + a1))
theorem spec73 (a0:Int) (a1:Int) (r:Int) (h:ref06_plus a0 a1 = some r) :
 call Try.prog T H (.fn 73) [.p (iv a0),.p (iv a1)] [] = some (.ret (.p (iv r)),[]):=by
 refine Sat.fn fun Q hQ=>?_
 unfold ref06_plus at h
 rw [call73]
 conv=>arg 1; arg 7; unfold S22.c73 Try.f73; simp only [Option.getD_some]
 by_cases c1:(w64 (4611686018427387904 - a1)) < a0
 ·have h:=iteT h c1
  simp only [go_sem,c1]
  injection h with h; subst h
  exact Sat.ok hQ
 ·have h:=iteF h c1
  simp only [go_sem,c1]
  injection h with h; subst h
  exact Sat.ok hQ
def ref06_Smallest (n:Nat) (a0:Automaton):Option (List Int) :=
 (mkz 8 a0.States a0.States 0).bind fun v1 =>
 whileL n (true,v1) (fun k9 (s9:Bool×(List Int)) n9 =>
  if s9.1 = true then
   rangeL a0.Rules (false,s9.2) (fun k12 i12 x12 (s12:Bool×(List Int)) n12 =>
    rangeL x12.From 1 (fun k13 i13 x13 (s13:Int) n13 =>
     (idxM ((a0.States).toNat) s12.2 x13).bind fun v4 =>
     if v4 = 0 then
      k13 0
     else
      (ref06_plus s13 v4).bind fun v5 =>
      n13 v5) fun s13 =>
    if 0 < s13 then
     (idxM ((a0.States).toNat) s12.2 x12.To).bind fun v3 =>
     if v3 = 0 then
      n12 (true,(List.set s12.2 ((x12.To).toNat) s13))
     else
      if s13 < v3 then
       n12 (true,(List.set s12.2 ((x12.To).toNat) s13))
      else
       n12 (s12.1,s12.2)
    else
     n12 (s12.1,s12.2)) fun s12 =>
   n9 (s12.1,s12.2)
  else
   k9 (false,s9.2)) fun s9 =>
 (tkM ((a0.States).toNat) s9.2).bind fun v2 =>
 some v2
theorem spec42 (n:Nat) (a0:Automaton) (r:List Int) (h:ref06_Smallest n a0 = some r) :
 call Try.prog T H (.fn 42) [.p (.agg [iv a0.States,.sl none 1 (List.map rowI a0.Final),.sl none 3 (List.map row_Rule a0.Rules)])] [] = some (.ret (.p (.sl none 1 (List.map rowI r))),[]):=by
 refine Sat.fn fun Q hQ=>?_
 unfold ref06_Smallest at h
 rw [call42]
 conv=>arg 1; arg 7; unfold S22.c42 Try.f42; simp only [Option.getD_some]
 obtain ⟨v1,e_v1,h⟩:=ob h
 obtain ⟨e_v11,e_v12,e_v13,e_v14⟩:=mkz_some e_v1
 have e_v1b:boundOk (a0.States).toNat 8 = true:=bnd_of e_v13 (by decide)
 have e_v1r:List.replicate (a0.States).toNat [AV.p (iv 0)] = List.map (rowA rowI) v1:=by rw [e_v14]; exact rep_map (by first | rfl | simp only [go_sem,List.map_nil])
 simp only [go_sem,e_v11,e_v12,e_v1b,e_v1r]
 refine run_whileL (c:=L42_0) (live:=[1,3,4]) (by simp only [go_sem]) (M:=fun (s9:Bool×(List Int))=>[(1,.ptr 0 0),(3,.ms 1 0 1 0 ((a0.States).toNat)),(4,.p (bv s9.1))]) (Z:=fun (s9:Bool×(List Int))=>[.cells [.p (iv a0.States),.p (.sl none 1 (List.map rowI a0.Final)),.p (.sl none 3 (List.map row_Rule a0.Rules))],.arr 0 1 (List.map (rowA rowI) s9.2)]) (N:=fun (s9:Bool×(List Int))=>⟨[(3,.ms 1 0 1 0 ((a0.States).toNat))],[.cells [.p (iv a0.States),.p (.sl none 1 (List.map rowI a0.Final)),.p (.sl none 3 (List.map row_Rule a0.Rules))],.arr 0 1 (List.map (rowA rowI) s9.2)],[],none,false⟩) h rfl rfl (fun _=>rfl) ?_ ?_
 ·intro s9 h
  try dsimp only at h ⊢
  obtain ⟨v2,e_v2,h⟩:=ob h
  have e_v2a:=(tkM_some e_v2).1
  have e_v2b:=(tkM_some e_v2).2
  simp only [go_sem,e_v2a,e_v2b]
  injection h with h; subst h
  exact Sat.ok hQ
 ·intro K9 k9 s9 n9 hR9 hE9 hb9 ih9 h
  try dsimp only at h ⊢
  conv=>arg 1; arg 7; unfold L42_0 loopAt S22.c42 Try.f42; simp only [loopIn,Option.getD_some,if_true]
  by_cases c1:s9.1 = true
  ·have h:=iteT h c1
   simp only [go_sem,c1,hR9,hE9]
   refine run_rangeL (c:=L42_2) (live:=[1,3,4,15,16,17]) (by simp only [go_sem]) (M:=fun i12 (s12:Bool×(List Int))=>[(1,.ptr 0 0),(3,.ms 1 0 1 0 ((a0.States).toNat)),(4,.p (bv s12.1)),(15,.p (.sl none 3 (List.map row_Rule a0.Rules))),(16,.p (iv (a0.Rules.length:Int))),(17,.p (iv (i12:Int)))]) (Z:=fun i12 (s12:Bool×(List Int))=>[.cells [.p (iv a0.States),.p (.sl none 1 (List.map rowI a0.Final)),.p (.sl none 3 (List.map row_Rule a0.Rules))],.arr 0 1 (List.map (rowA rowI) s12.2)]) (N:=fun (s12:Bool×(List Int))=>⟨[(1,.ptr 0 0),(3,.ms 1 0 1 0 ((a0.States).toNat)),(4,.p (bv s12.1))],[.cells [.p (iv a0.States),.p (.sl none 1 (List.map rowI a0.Final)),.p (.sl none 3 (List.map row_Rule a0.Rules))],.arr 0 1 (List.map (rowA rowI) s12.2)],[],none,false⟩) h rfl rfl (fun _ _=>rfl) ?_ ?_ ?_
   ·intro s12 h
    try dsimp only at h ⊢
    simp only [go_sem,hR9,hE9]
    exact ih9 (s12.1,s12.2) h
   ·intro K12 s12 hb12 he12
    try dsimp only
    conv=>arg 1; arg 7; unfold L42_2 loopAt S22.c42 Try.f42; simp only [loopIn,Option.getD_some,if_true]
    simp only [go_sem,he12]
    exact hb12
   ·intro K12 k12 i12 x12 s12 n12 hR12 hE12 hb12 hx12 hi12 hw12 ih12 h
    try dsimp only at h ⊢
    conv=>arg 1; arg 7; unfold L42_2 loopAt S22.c42 Try.f42; simp only [loopIn,Option.getD_some,if_true]
    simp only [go_sem,hx12,hi12,hw12,hR9,hE9,hR12,hE12]
    refine run_rangeL (c:=L42_4) (live:=[1,3,4,6,7,15,16,17,22,23,24]) (by simp only [go_sem]) (M:=fun i13 (s13:Int)=>[(1,.ptr 0 0),(3,.ms 1 0 1 0 ((a0.States).toNat)),(4,.p (bv s12.1)),(6,.ptr 2 0),(7,.p (iv s13)),(15,.p (.sl none 3 (List.map row_Rule a0.Rules))),(16,.p (iv (a0.Rules.length:Int))),(17,.p (iv (i12:Int))),(22,.p (.sl none 1 (List.map rowI x12.From))),(23,.p (iv (x12.From.length:Int))),(24,.p (iv (i13:Int)))]) (Z:=fun i13 (s13:Int)=>[.cells [.p (iv a0.States),.p (.sl none 1 (List.map rowI a0.Final)),.p (.sl none 3 (List.map row_Rule a0.Rules))],.arr 0 1 (List.map (rowA rowI) s12.2),.cells [.p (iv x12.Sym),.p (.sl none 1 (List.map rowI x12.From)),.p (iv x12.To)]]) (N:=fun (s13:Int)=>⟨[(1,.ptr 0 0),(3,.ms 1 0 1 0 ((a0.States).toNat)),(4,.p (bv s12.1)),(6,.ptr 2 0),(7,.p (iv s13)),(15,.p (.sl none 3 (List.map row_Rule a0.Rules))),(16,.p (iv (a0.Rules.length:Int))),(17,.p (iv (i12:Int)))],[.cells [.p (iv a0.States),.p (.sl none 1 (List.map rowI a0.Final)),.p (.sl none 3 (List.map row_Rule a0.Rules))],.arr 0 1 (List.map (rowA rowI) s12.2),.cells [.p (iv x12.Sym),.p (.sl none 1 (List.map rowI x12.From)),.p (iv x12.To)]],[],none,false⟩) h rfl rfl (fun _ _=>rfl) ?_ ?_ ?_
    ·intro s13 h
     try dsimp only at h ⊢
     by_cases c2:0 < s13
     ·have h:=iteT h c2
      obtain ⟨v3,e_v3,h⟩:=ob h
      obtain ⟨e_v3a,e_v3b,e_v3d⟩:=idxM_some e_v3
      by_cases c3:v3 = 0
      ·have h:=iteT h c3
       have c3b:(v3 == 0) = true:=beqT c3
       have e_y1:List.set (List.map (rowA rowI) s12.2) ((x12.To).toNat) [.p (iv s13)] = List.map (rowA rowI) (List.set s12.2 ((x12.To).toNat) s13):=map_set' (by first | rfl | simp only [go_sem,List.map_cons,List.map_nil])
       simp only [go_sem,c2,e_v3a,e_v3b,e_v3d,c3b,e_y1,hR9,hE9,hw12,hR12,hE12]
       exact ih12 (true,(List.set s12.2 ((x12.To).toNat) s13)) h
      ·have h:=iteF h c3
       have c3b:(v3 == 0) = false:=beqF c3
       by_cases c4:s13 < v3
       ·have h:=iteT h c4
        have e_y2:List.set (List.map (rowA rowI) s12.2) ((x12.To).toNat) [.p (iv s13)] = List.map (rowA rowI) (List.set s12.2 ((x12.To).toNat) s13):=map_set' (by first | rfl | simp only [go_sem,List.map_cons,List.map_nil])
        simp only [go_sem,c2,e_v3a,e_v3b,e_v3d,c3b,c4,e_y2,hR9,hE9,hw12,hR12,hE12]
        exact ih12 (true,(List.set s12.2 ((x12.To).toNat) s13)) h
       ·have h:=iteF h c4
        simp only [go_sem,c2,e_v3a,e_v3b,e_v3d,c3b,c4,hR9,hE9,hw12,hR12,hE12]
        exact ih12 (s12.1,s12.2) h
     ·have h:=iteF h c2
      simp only [go_sem,c2,hR9,hE9,hw12,hR12,hE12]
      exact ih12 (s12.1,s12.2) h
    ·intro K13 s13 hb13 he13
     try dsimp only
     conv=>arg 1; arg 7; unfold L42_4 loopAt S22.c42 Try.f42; simp only [loopIn,Option.getD_some,if_true]
     simp only [go_sem,he13]
     exact hb13
    ·intro K13 k13 i13 x13 s13 n13 hR13 hE13 hb13 hx13 hi13 hw13 ih13 h
     try dsimp only at h ⊢
     conv=>arg 1; arg 7; unfold L42_4 loopAt S22.c42 Try.f42; simp only [loopIn,Option.getD_some,if_true]
     obtain ⟨v4,e_v4,h⟩:=ob h
     obtain ⟨e_v4a,e_v4b,e_v4d⟩:=idxM_some e_v4
     by_cases c5:v4 = 0
     ·have h:=iteT h c5
      have c5b:(v4 == 0) = true:=beqT c5
      simp only [go_sem,hx13,hi13,hw13,e_v4a,e_v4b,e_v4d,c5b,hR9,hE9,hw12,hR12,hE12,hR13,hE13]
      exact hb13 0 h
     ·have h:=iteF h c5
      have c5b:(v4 == 0) = false:=beqF c5
      obtain ⟨v5,e_v5,h⟩:=ob h
      have e_v5c:=spec73 s13 v4 v5 e_v5
      simp only [go_sem,hx13,hi13,hw13,e_v4a,e_v4b,e_v4d,c5b,e_v5c,hR9,hE9,hw12,hR12,hE12,hR13,hE13]
      exact ih13 v5 h
  ·have h:=iteF h c1
   have c1:=eq_false_of_ne_true c1
   simp only [go_sem,c1,hR9,hE9]
   exact hb9 (false,s9.2) h
def repair_fits_1 (a0:Int) (a1:Int):Option Bool :=
 if a1≤a0 then
  some (decide (a0≤1000))
 else
  some false
theorem spec75 (a0:Int) (a1:Int) (r:Bool) (h:repair_fits_1 a0 a1 = some r) :
 call Try.prog T H (.fn 75) [.p (iv a0),.p (iv a1)] [] = some (.ret (.p (bv r)),[]):=by
 refine Sat.fn fun Q hQ=>?_
 unfold repair_fits_1 at h
 rw [call75]
 conv=>arg 1; arg 7; unfold S22.c75 Try.f75; simp only [Option.getD_some]
 by_cases c1:a1≤a0
 ·have h:=iteT h c1
  simp only [go_sem,c1]
  injection h with h; subst h
  exact Sat.ok hQ
 ·have h:=iteF h c1
  simp only [go_sem,c1]
  injection h with h; subst h
  exact Sat.ok hQ
def repair_fits (a0:repair_Weights):Option Bool :=
 (repair_fits_1 a0.Relabel (-1)).bind fun v1 =>
 if v1 = true then
  (repair_fits_1 a0.Remove 0).bind fun v2 =>
  if v2 = true then
   (repair_fits_1 a0.Insert 0).bind fun v3 =>
   some v3
  else
   some false
 else
  some false
theorem spec45 (a0:repair_Weights) (r:Bool) (h:repair_fits a0 = some r) :
 call Try.prog T H (.fn 45) [.p (.agg [iv a0.Relabel,iv a0.Remove,iv a0.Insert])] [] = some (.ret (.p (bv r)),[]):=by
 refine Sat.fn fun Q hQ=>?_
 unfold repair_fits at h
 rw [call45]
 conv=>arg 1; arg 7; unfold S22.c45 Try.f45; simp only [Option.getD_some]
 obtain ⟨v1,e_v1,h⟩:=ob h
 have e_v1c:call Try.prog T H (.fn 75) [.p (iv a0.Relabel),.p (iv (-1))] [] = some (.ret (.p (bv v1)),[]):=spec75 a0.Relabel (-1) v1 e_v1
 by_cases c1:v1 = true
 ·have h:=iteT h c1
  obtain ⟨v2,e_v2,h⟩:=ob h
  have e_v2c:=spec75 a0.Remove 0 v2 e_v2
  by_cases c2:v2 = true
  ·have h:=iteT h c2
   obtain ⟨v3,e_v3,h⟩:=ob h
   have e_v3c:=spec75 a0.Insert 0 v3 e_v3
   simp only [go_sem,e_v1c,c1,e_v2c,c2,e_v3c]
   injection h with h; subst h
   exact Sat.ok hQ
  ·have h:=iteF h c2
   have c2:=eq_false_of_ne_true c2
   simp only [go_sem,e_v1c,c1,e_v2c,c2]
   injection h with h; subst h
   exact Sat.ok hQ
 ·have h:=iteF h c1
  have c1:=eq_false_of_ne_true c1
  simp only [go_sem,e_v1c,c1]
  injection h with h; subst h
  exact Sat.ok hQ
def repair_least_int (a0:Int) (a1:Int):Option Int :=
 if a1 < a0 then
  some a1
 else
  some a0
theorem spec76 (a0:Int) (a1:Int) (r:Int) (h:repair_least_int a0 a1 = some r) :
 call Try.prog T H (.fn 76) [.p (iv a0),.p (iv a1)] [] = some (.ret (.p (iv r)),[]):=by
 refine Sat.fn fun Q hQ=>?_
 unfold repair_least_int at h
 rw [call76]
 conv=>arg 1; arg 7; unfold S22.c76 Try.f76; simp only [Option.getD_some]
 by_cases c1:a1 < a0
 ·have h:=iteT h c1
  simp only [go_sem,c1]
  injection h with h; subst h
  exact Sat.ok hQ
 ·have h:=iteF h c1
  simp only [go_sem,c1]
  injection h with h; subst h
  exact Sat.ok hQ
def law22_given (a0:ref22_Weights):Option repair_Weights :=
 some (repair_Weights.mk a0.Relabel a0.Remove a0.Insert)
theorem spec17 (a0:ref22_Weights) (r:repair_Weights) (h:law22_given a0 = some r) :
 call Try.prog T H (.fn 17) [.p (.agg [iv a0.Relabel,iv a0.Remove,iv a0.Insert])] [] = some (.ret (.p (.agg [iv r.Relabel,iv r.Remove,iv r.Insert])),[]):=by
 refine Sat.fn fun Q hQ=>?_
 unfold law22_given at h
 rw [call17]
 conv=>arg 1; arg 7; unfold S22.c17 Try.f17; simp only [Option.getD_some]
 simp only [go_sem]
 injection h with h; subst h
 exact Sat.ok hQ
def ref22_Between:Nat→Tree→Tree→ref22_Weights→Option Int
 | 0,_,_,_=>none
 | n + 1,a0,a1,a2 =>
  (ref01_Size n a0).bind fun v1 =>
  (ref01_Size n a1).bind fun v2 =>
  if (a0.Kids.length:Int) = (a1.Kids.length:Int) then
   if a0.Sym = a1.Sym then
    rangeL a0.Kids 0 (fun k1 i1 x1 (s1:Int) n1 =>
     (a1.Kids[i1]?).bind fun v3 =>
     (ref22_Between n x1 v3 a2).bind fun v4 =>
     n1 (w64 (s1 + v4))) fun s1 =>
    some (minI (w64 ((w64 (a2.Remove * v1)) + (w64 (a2.Insert * v2)))) s1)
   else
    if a2.Relabel < 0 then
     some (w64 ((w64 (a2.Remove * v1)) + (w64 (a2.Insert * v2))))
    else
     rangeL a0.Kids a2.Relabel (fun k2 i2 x2 (s2:Int) n2 =>
      (a1.Kids[i2]?).bind fun v5 =>
      (ref22_Between n x2 v5 a2).bind fun v6 =>
      n2 (w64 (s2 + v6))) fun s2 =>
     some (minI (w64 ((w64 (a2.Remove * v1)) + (w64 (a2.Insert * v2)))) s2)
  else
   some (w64 ((w64 (a2.Remove * v1)) + (w64 (a2.Insert * v2))))
theorem spec26:∀ (n:Nat),(∀ (a0:Tree) (a1:Tree) (a2:ref22_Weights) (r:Int),ref22_Between n a0 a1 a2 = some r →
 call Try.prog T H (.fn 26) [.p (.agg [iv a0.Sym,.sl none 2 (List.map row_Tree a0.Kids)]),.p (.agg [iv a1.Sym,.sl none 2 (List.map row_Tree a1.Kids)]),.p (.agg [iv a2.Relabel,iv a2.Remove,iv a2.Insert])] [] = some (.ret (.p (iv r)),[])):=by
 intro n
 induction n with
 | zero=>intro a0 a1 a2 r h; cases h
 | succ n ih =>
  intro a0 a1 a2 r h
  refine Sat.fn fun Q hQ=>?_
  rw [ref22_Between] at h
  rw [call26]
  conv=>arg 1; arg 7; unfold S22.c26 Try.f26; simp only [Option.getD_some]
  obtain ⟨v1,e_v1,h⟩:=ob h
  have e_v1c:=spec23 n a0 v1 e_v1
  obtain ⟨v2,e_v2,h⟩:=ob h
  have e_v2c:=spec23 n a1 v2 e_v2
  by_cases c1:(a0.Kids.length:Int) = (a1.Kids.length:Int)
  ·have h:=iteT h c1
   have c1b:((a0.Kids.length:Int) != (a1.Kids.length:Int)) = false:=bneF c1
   by_cases c2:a0.Sym = a1.Sym
   ·have h:=iteT h c2
    have c2b:(a0.Sym != a1.Sym) = false:=bneF c2
    simp only [go_sem,e_v1c,e_v2c,c1b,c2b]
    refine run_rangeL (c:=L26_0) (live:=[3,4,5,7,8,50,51]) (by simp only [go_sem]) (M:=fun i1 (s1:Int)=>[(3,.ptr 0 0),(4,.ptr 1 0),(5,.ptr 2 0),(7,.p (iv (w64 ((w64 (a2.Remove * v1)) + (w64 (a2.Insert * v2)))))),(8,.p (iv s1)),(50,.p (iv (a0.Kids.length:Int))),(51,.p (iv (i1:Int)))]) (Z:=fun i1 (s1:Int)=>[.cells [.p (iv a0.Sym),.p (.sl none 2 (List.map row_Tree a0.Kids))],.cells [.p (iv a1.Sym),.p (.sl none 2 (List.map row_Tree a1.Kids))],.cells [.p (iv a2.Relabel),.p (iv a2.Remove),.p (iv a2.Insert)]]) (N:=fun (s1:Int)=>⟨[(7,.p (iv (w64 ((w64 (a2.Remove * v1)) + (w64 (a2.Insert * v2)))))),(8,.p (iv s1))],[.cells [.p (iv a0.Sym),.p (.sl none 2 (List.map row_Tree a0.Kids))],.cells [.p (iv a1.Sym),.p (.sl none 2 (List.map row_Tree a1.Kids))],.cells [.p (iv a2.Relabel),.p (iv a2.Remove),.p (iv a2.Insert)]],[],none,false⟩) h rfl rfl (fun _ _=>rfl) ?_ ?_ ?_
    ·intro s1 h
     try dsimp only at h ⊢
     simp only [go_sem]
     injection h with h; subst h
     exact Sat.ok hQ
    ·intro K1 s1 hb1 he1
     try dsimp only
     conv=>arg 1; arg 7; unfold L26_0 loopAt S22.c26 Try.f26; simp only [loopIn,Option.getD_some,if_true]
     simp only [go_sem,he1]
     exact hb1
    ·intro K1 k1 i1 x1 s1 n1 hR1 hE1 hb1 hx1 hi1 hw1 ih1 h
     try dsimp only at h ⊢
     conv=>arg 1; arg 7; unfold L26_0 loopAt S22.c26 Try.f26; simp only [loopIn,Option.getD_some,if_true]
     obtain ⟨v3,e_v3,h⟩:=ob h
     obtain ⟨v4,e_v4,h⟩:=ob h
     have e_v4c:=ih x1 v3 a2 v4 e_v4
     simp only [go_sem,hx1,hi1,hw1,e_v3,e_v4c,hR1,hE1]
     exact ih1 (w64 (s1 + v4)) h
   ·have h:=iteF h c2
    have c2b:(a0.Sym != a1.Sym) = true:=bneT c2
    by_cases c3:a2.Relabel < 0
    ·have h:=iteT h c3
     simp only [go_sem,e_v1c,e_v2c,c1b,c2b,c3]
     injection h with h; subst h
     exact Sat.ok hQ
    ·have h:=iteF h c3
     simp only [go_sem,e_v1c,e_v2c,c1b,c2b,c3]
     refine run_rangeL (c:=L26_0) (live:=[3,4,5,7,8,50,51]) (by simp only [go_sem]) (M:=fun i2 (s2:Int)=>[(3,.ptr 0 0),(4,.ptr 1 0),(5,.ptr 2 0),(7,.p (iv (w64 ((w64 (a2.Remove * v1)) + (w64 (a2.Insert * v2)))))),(8,.p (iv s2)),(50,.p (iv (a0.Kids.length:Int))),(51,.p (iv (i2:Int)))]) (Z:=fun i2 (s2:Int)=>[.cells [.p (iv a0.Sym),.p (.sl none 2 (List.map row_Tree a0.Kids))],.cells [.p (iv a1.Sym),.p (.sl none 2 (List.map row_Tree a1.Kids))],.cells [.p (iv a2.Relabel),.p (iv a2.Remove),.p (iv a2.Insert)]]) (N:=fun (s2:Int)=>⟨[(7,.p (iv (w64 ((w64 (a2.Remove * v1)) + (w64 (a2.Insert * v2)))))),(8,.p (iv s2))],[.cells [.p (iv a0.Sym),.p (.sl none 2 (List.map row_Tree a0.Kids))],.cells [.p (iv a1.Sym),.p (.sl none 2 (List.map row_Tree a1.Kids))],.cells [.p (iv a2.Relabel),.p (iv a2.Remove),.p (iv a2.Insert)]],[],none,false⟩) h rfl rfl (fun _ _=>rfl) ?_ ?_ ?_
     ·intro s2 h
      try dsimp only at h ⊢
      simp only [go_sem]
      injection h with h; subst h
      exact Sat.ok hQ
     ·intro K2 s2 hb2 he2
      try dsimp only
      conv=>arg 1; arg 7; unfold L26_0 loopAt S22.c26 Try.f26; simp only [loopIn,Option.getD_some,if_true]
      simp only [go_sem,he2]
      exact hb2
     ·intro K2 k2 i2 x2 s2 n2 hR2 hE2 hb2 hx2 hi2 hw2 ih2 h
      try dsimp only at h ⊢
      conv=>arg 1; arg 7; unfold L26_0 loopAt S22.c26 Try.f26; simp only [loopIn,Option.getD_some,if_true]
      obtain ⟨v5,e_v5,h⟩:=ob h
      obtain ⟨v6,e_v6,h⟩:=ob h
      have e_v6c:=ih x2 v5 a2 v6 e_v6
      simp only [go_sem,hx2,hi2,hw2,e_v5,e_v6c,hR2,hE2]
      exact ih2 (w64 (s2 + v6)) h
  ·have h:=iteF h c1
   have c1b:((a0.Kids.length:Int) != (a1.Kids.length:Int)) = true:=bneT c1
   simp only [go_sem,e_v1c,e_v2c,c1b]
   injection h with h; subst h
   exact Sat.ok hQ
def ref22_Valid (a0:ref22_Weights):Option Bool :=
 if (-1)≤a0.Relabel then
  if a0.Relabel≤1000 then
   if 0≤a0.Remove then
    if a0.Remove≤1000 then
     if 0≤a0.Insert then
      some (decide (a0.Insert≤1000))
     else
      some false
    else
     some false
   else
    some false
  else
   some false
 else
  some false
theorem spec47 (a0:ref22_Weights) (r:Bool) (h:ref22_Valid a0 = some r) :
 call Try.prog T H (.fn 47) [.p (.agg [iv a0.Relabel,iv a0.Remove,iv a0.Insert])] [] = some (.ret (.p (bv r)),[]):=by
 refine Sat.fn fun Q hQ=>?_
 unfold ref22_Valid at h
 rw [call47]
 conv=>arg 1; arg 7; unfold S22.c47 Try.f47; simp only [Option.getD_some]
 by_cases c1:(-1)≤a0.Relabel
 ·have h:=iteT h c1
  by_cases c2:a0.Relabel≤1000
  ·have h:=iteT h c2
   by_cases c3:0≤a0.Remove
   ·have h:=iteT h c3
    by_cases c4:a0.Remove≤1000
    ·have h:=iteT h c4
     by_cases c5:0≤a0.Insert
     ·have h:=iteT h c5
      simp only [go_sem,c1,c2,c3,c4,c5]
      injection h with h; subst h
      exact Sat.ok hQ
     ·have h:=iteF h c5
      simp only [go_sem,c1,c2,c3,c4,c5]
      injection h with h; subst h
      exact Sat.ok hQ
    ·have h:=iteF h c4
     simp only [go_sem,c1,c2,c3,c4]
     injection h with h; subst h
     exact Sat.ok hQ
   ·have h:=iteF h c3
    simp only [go_sem,c1,c2,c3]
    injection h with h; subst h
    exact Sat.ok hQ
  ·have h:=iteF h c2
   simp only [go_sem,c1,c2]
   injection h with h; subst h
   exact Sat.ok hQ
 ·have h:=iteF h c1
  simp only [go_sem,c1]
  injection h with h; subst h
  exact Sat.ok hQ
end Go.AM.S22

namespace Go.AM.S22
open Go Go.Proofs Go.AM
set_option maxRecDepth 100000
set_option linter.unusedVariables false
set_option maxHeartbeats 4000000
structure repair_table where
 a:Automaton
 w:repair_Weights
 size:List Int
 cost:List (List Int)
 kids:List (List Int)
 tree:List Tree
def row_repair_table (x:repair_table):List PV:=[iv x.a.States,.sl none 1 (List.map rowI x.a.Final),.sl none 3 (List.map row_Rule x.a.Rules),iv x.w.Relabel,iv x.w.Remove,iv x.w.Insert,.sl none 1 (List.map rowI x.size),.sl none 1 (List.map (rowL 1 rowI) x.cost),.sl none 1 (List.map (rowL 1 rowI) x.kids),.sl none 2 (List.map row_Tree x.tree)]
theorem row_repair_table_eq (x:repair_table):row_repair_table x = [iv x.a.States,.sl none 1 (List.map rowI x.a.Final),.sl none 3 (List.map row_Rule x.a.Rules),iv x.w.Relabel,iv x.w.Remove,iv x.w.Insert,.sl none 1 (List.map rowI x.size),.sl none 1 (List.map (rowL 1 rowI) x.cost),.sl none 1 (List.map (rowL 1 rowI) x.kids),.sl none 2 (List.map row_Tree x.tree)]:=rfl
attribute [go_sem] row_repair_table_eq
def slices_Clone_q (a:List Int) (l o:Nat):Option (List Int):=if o + l≤a.length∧l≤1000000 then some ((a.drop o).take l) else none
theorem allRows_I:∀ l:List Int,allRows (List.map (rowA rowI) l) = some (List.map rowI l)
 | []=>rfl
 | x :: l=>by
  show (match allPure ((rowI x).map AV.p),allRows (List.map (rowA rowI) l) with | some l,some ls=>some (l :: ls) | _,_=>none) = _
  rw [allRows_I l]; rfl
theorem clone_nil:call Try.prog T H (.fn 97) [.p (.sl (some true) 1 [])] [] = some (.ret (.p (.sl none 1 [])),[]):=by
 refine Sat.fn fun Q hQ=>?_
 rw [call97]
 conv=>arg 1; arg 7; unfold S22.c97 Try.f97; simp only [Option.getD_some]
 simp only [go_sem]
 exact Sat.ok hQ
theorem spec97 (g:Nat) (a:List Int) (l o:Nat) (r:List Int) (h:slices_Clone_q a l o = some r):call Try.prog T H (.fn 97) [.ms 0 g 1 o l] [.arr g 1 (List.map (rowA rowI) a)] = some (.ret (.p (.sl none 1 (List.map rowI r))),[.arr g 1 (List.map (rowA rowI) a)]):=by
 unfold slices_Clone_q at h
 split at h
 ·rename_i hl
  injection h with h; subst h
  refine Sat.fn fun Q hQ=>?_
  rw [call97]
  conv=>arg 1; arg 7; unfold S22.c97 Try.f97; simp only [Option.getD_some]
  have h1:boundOk ((a.drop o).take l).length 8 = true:=by unfold boundOk; simp; omega
  simp only [go_sem,hl.1,allRows_I,h1]
  exact Sat.ok hQ
 ·cases h
def repair_table_news_wx (a0:repair_table) (a1:Int):Option Int :=
 (idx a0.size a1).bind fun v1 =>
 if v1 = 0 then
  some 2199023255552
 else
  if a0.w.Insert = 0 then
   some 0
  else
   if 1099511627776 < v1 then
    some 2199023255552
   else
    some (w64 (v1 * a0.w.Insert))
theorem spec98_wx (σ:List AObj) (p0:Nat) (hp0:p0 < σ.length) (a0:repair_table) (a1:Int) (r:Int) (h:repair_table_news_wx a0 a1 = some r) :
 call Try.prog T H (.fn 98) [.ptr p0 0,.p (iv a1)] (List.set σ p0 (.cells [.p (iv a0.a.States),.p (.sl none 1 (List.map rowI a0.a.Final)),.p (.sl none 3 (List.map row_Rule a0.a.Rules)),.p (iv a0.w.Relabel),.p (iv a0.w.Remove),.p (iv a0.w.Insert),.p (.sl none 1 (List.map rowI a0.size)),.own 1 (List.map (rowL 1 rowI) a0.cost),.own 1 (List.map (rowL 1 rowI) a0.kids),.own 2 (List.map row_Tree a0.tree)])) = some (.ret (.p (iv r)),(List.set σ p0 (.cells [.p (iv a0.a.States),.p (.sl none 1 (List.map rowI a0.a.Final)),.p (.sl none 3 (List.map row_Rule a0.a.Rules)),.p (iv a0.w.Relabel),.p (iv a0.w.Remove),.p (iv a0.w.Insert),.p (.sl none 1 (List.map rowI a0.size)),.own 1 (List.map (rowL 1 rowI) a0.cost),.own 1 (List.map (rowL 1 rowI) a0.kids),.own 2 (List.map row_Tree a0.tree)]))):=by
 refine Sat.fn fun Q hQ=>?_
 unfold repair_table_news_wx at h
 rw [call98]
 conv=>arg 1; arg 7; unfold S22.c98 Try.f98; simp only [Option.getD_some]
 obtain ⟨v1,e_v1,h⟩:=ob h
 obtain ⟨e_v1a,e_v1b⟩:=idx_some e_v1
 by_cases c1:v1 = 0
 ·have h:=iteT h c1
  have c1b:(v1 == 0) = true:=beqT c1
  simp only [go_sem,e_v1a,e_v1b,c1b,hp0,fun k=>Nat.lt_add_right k hp0,Nat.not_le_of_lt hp0,fun k=>Nat.not_le_of_lt (Nat.lt_add_right k hp0)]
  injection h with h; subst h
  exact Sat.ok hQ
 ·have h:=iteF h c1
  have c1b:(v1 == 0) = false:=beqF c1
  by_cases c2:a0.w.Insert = 0
  ·have h:=iteT h c2
   have c2b:(a0.w.Insert == 0) = true:=beqT c2
   simp only [go_sem,e_v1a,e_v1b,c1b,c2b,hp0,fun k=>Nat.lt_add_right k hp0,Nat.not_le_of_lt hp0,fun k=>Nat.not_le_of_lt (Nat.lt_add_right k hp0)]
   injection h with h; subst h
   exact Sat.ok hQ
  ·have h:=iteF h c2
   have c2b:(a0.w.Insert == 0) = false:=beqF c2
   by_cases c3:1099511627776 < v1
   ·have h:=iteT h c3
    simp only [go_sem,e_v1a,e_v1b,c1b,c2b,c3,hp0,fun k=>Nat.lt_add_right k hp0,Nat.not_le_of_lt hp0,fun k=>Nat.not_le_of_lt (Nat.lt_add_right k hp0)]
    injection h with h; subst h
    exact Sat.ok hQ
   ·have h:=iteF h c3
    simp only [go_sem,e_v1a,e_v1b,c1b,c2b,c3,hp0,fun k=>Nat.lt_add_right k hp0,Nat.not_le_of_lt hp0,fun k=>Nat.not_le_of_lt (Nat.lt_add_right k hp0)]
    injection h with h; subst h
    exact Sat.ok hQ
def repair_table_keep_wxx (a0:repair_table) (a1:Rule) (a2:Int):Option Int :=
 (idx a0.tree a2).bind fun v1 =>
 if a1.Sym = v1.Sym then
  (idx a0.kids a2).bind fun v2 =>
  if (a1.From.length:Int) = (v2.length:Int) then
   rangeL a1.From 0 (fun k1 i1 x1 (s1:Int) n1 =>
    (v2[i1]?).bind fun v3 =>
    (idx a0.cost v3).bind fun v4 =>
    (idx v4 x1).bind fun v5 =>
    (repair_least_int (w64 (s1 + v5)) 2199023255552).bind fun v6 =>
    n1 v6) fun s1 =>
   some s1
  else
   some 2199023255552
 else
  if a0.w.Relabel < 0 then
   some 2199023255552
  else
   (idx a0.kids a2).bind fun v7 =>
   if (a1.From.length:Int) = (v7.length:Int) then
    rangeL a1.From a0.w.Relabel (fun k2 i2 x2 (s2:Int) n2 =>
     (v7[i2]?).bind fun v8 =>
     (idx a0.cost v8).bind fun v9 =>
     (idx v9 x2).bind fun v10 =>
     (repair_least_int (w64 (s2 + v10)) 2199023255552).bind fun v11 =>
     n2 v11) fun s2 =>
    some s2
   else
    some 2199023255552
theorem spec83_wxx (σ:List AObj) (p0:Nat) (hp0:p0 < σ.length) (a0:repair_table) (a1:Rule) (a2:Int) (r:Int) (h:repair_table_keep_wxx a0 a1 a2 = some r) :
 call Try.prog T H (.fn 83) [.ptr p0 0,.p (.agg [iv a1.Sym,.sl none 1 (List.map rowI a1.From),iv a1.To]),.p (iv a2)] (List.set σ p0 (.cells [.p (iv a0.a.States),.p (.sl none 1 (List.map rowI a0.a.Final)),.p (.sl none 3 (List.map row_Rule a0.a.Rules)),.p (iv a0.w.Relabel),.p (iv a0.w.Remove),.p (iv a0.w.Insert),.p (.sl none 1 (List.map rowI a0.size)),.own 1 (List.map (rowL 1 rowI) a0.cost),.own 1 (List.map (rowL 1 rowI) a0.kids),.own 2 (List.map row_Tree a0.tree)])) = some (.ret (.p (iv r)),(List.set σ p0 (.cells [.p (iv a0.a.States),.p (.sl none 1 (List.map rowI a0.a.Final)),.p (.sl none 3 (List.map row_Rule a0.a.Rules)),.p (iv a0.w.Relabel),.p (iv a0.w.Remove),.p (iv a0.w.Insert),.p (.sl none 1 (List.map rowI a0.size)),.own 1 (List.map (rowL 1 rowI) a0.cost),.own 1 (List.map (rowL 1 rowI) a0.kids),.own 2 (List.map row_Tree a0.tree)]))):=by
 refine Sat.fn fun Q hQ=>?_
 unfold repair_table_keep_wxx at h
 rw [call83]
 conv=>arg 1; arg 7; unfold S22.c83 Try.f83; simp only [Option.getD_some]
 obtain ⟨v1,e_v1,h⟩:=ob h
 obtain ⟨e_v1a,e_v1b⟩:=idx_some e_v1
 by_cases c1:a1.Sym = v1.Sym
 ·have h:=iteT h c1
  have c1b:(a1.Sym != v1.Sym) = false:=bneF c1
  obtain ⟨v2,e_v2,h⟩:=ob h
  obtain ⟨e_v2a,e_v2b⟩:=idx_some e_v2
  by_cases c2:(a1.From.length:Int) = (v2.length:Int)
  ·have h:=iteT h c2
   have c2b:((a1.From.length:Int) != (v2.length:Int)) = false:=bneF c2
   simp only [go_sem,e_v1a,e_v1b,c1b,e_v2a,e_v2b,c2b,hp0,fun k=>Nat.lt_add_right k hp0,Nat.not_le_of_lt hp0,fun k=>Nat.not_le_of_lt (Nat.lt_add_right k hp0)]
   refine run_rangeL (c:=L83_0) (live:=[0,2,7,45,46,47]) (by simp only [go_sem]) (M:=fun i1 (s1:Int)=>[(0,.ptr p0 0),(2,.p (iv a2)),(7,.p (iv s1)),(45,.p (.sl none 1 (List.map rowI a1.From))),(46,.p (iv (a1.From.length:Int))),(47,.p (iv (i1:Int)))]) (Z:=fun i1 (s1:Int)=>((List.set σ p0 (.cells [.p (iv a0.a.States),.p (.sl none 1 (List.map rowI a0.a.Final)),.p (.sl none 3 (List.map row_Rule a0.a.Rules)),.p (iv a0.w.Relabel),.p (iv a0.w.Remove),.p (iv a0.w.Insert),.p (.sl none 1 (List.map rowI a0.size)),.own 1 (List.map (rowL 1 rowI) a0.cost),.own 1 (List.map (rowL 1 rowI) a0.kids),.own 2 (List.map row_Tree a0.tree)])) ++ [.cells [.p (iv a1.Sym),.p (.sl none 1 (List.map rowI a1.From)),.p (iv a1.To)]])) (N:=fun (s1:Int)=>⟨[(7,.p (iv s1))],((List.set σ p0 (.cells [.p (iv a0.a.States),.p (.sl none 1 (List.map rowI a0.a.Final)),.p (.sl none 3 (List.map row_Rule a0.a.Rules)),.p (iv a0.w.Relabel),.p (iv a0.w.Remove),.p (iv a0.w.Insert),.p (.sl none 1 (List.map rowI a0.size)),.own 1 (List.map (rowL 1 rowI) a0.cost),.own 1 (List.map (rowL 1 rowI) a0.kids),.own 2 (List.map row_Tree a0.tree)])) ++ [.cells [.p (iv a1.Sym),.p (.sl none 1 (List.map rowI a1.From)),.p (iv a1.To)]]),[],none,false⟩) h rfl rfl (fun _ _=>rfl) ?_ ?_ ?_
   ·intro s1 h
    try dsimp only at h ⊢
    simp only [go_sem,hp0,fun k=>Nat.lt_add_right k hp0,Nat.not_le_of_lt hp0,fun k=>Nat.not_le_of_lt (Nat.lt_add_right k hp0)]
    injection h with h; subst h
    exact Sat.ok hQ
   ·intro K1 s1 hb1 he1
    try dsimp only
    conv=>arg 1; arg 7; unfold L83_0 loopAt S22.c83 Try.f83; simp only [loopIn,Option.getD_some,if_true]
    simp only [go_sem,he1,hp0,fun k=>Nat.lt_add_right k hp0,Nat.not_le_of_lt hp0,fun k=>Nat.not_le_of_lt (Nat.lt_add_right k hp0)]
    exact hb1
   ·intro K1 k1 i1 x1 s1 n1 hR1 hE1 hb1 hx1 hi1 hw1 ih1 h
    try dsimp only at h ⊢
    conv=>arg 1; arg 7; unfold L83_0 loopAt S22.c83 Try.f83; simp only [loopIn,Option.getD_some,if_true]
    obtain ⟨v3,e_v3,h⟩:=ob h
    obtain ⟨v4,e_v4,h⟩:=ob h
    obtain ⟨e_v4a,e_v4b⟩:=idx_some e_v4
    obtain ⟨v5,e_v5,h⟩:=ob h
    obtain ⟨e_v5a,e_v5b⟩:=idx_some e_v5
    obtain ⟨v6,e_v6,h⟩:=ob h
    have e_v6c:call Try.prog T H (.fn 76) [.p (iv (w64 (s1 + v5))),.p (iv 2199023255552)] [] = some (.ret (.p (iv v6)),[]):=spec76 (w64 (s1 + v5)) 2199023255552 v6 e_v6
    simp only [go_sem,hx1,hi1,hw1,e_v2a,e_v2b,e_v3,e_v4a,e_v4b,e_v5a,e_v5b,e_v6c,hR1,hE1,hp0,fun k=>Nat.lt_add_right k hp0,Nat.not_le_of_lt hp0,fun k=>Nat.not_le_of_lt (Nat.lt_add_right k hp0)]
    exact ih1 v6 h
  ·have h:=iteF h c2
   have c2b:((a1.From.length:Int) != (v2.length:Int)) = true:=bneT c2
   simp only [go_sem,e_v1a,e_v1b,c1b,e_v2a,e_v2b,c2b,hp0,fun k=>Nat.lt_add_right k hp0,Nat.not_le_of_lt hp0,fun k=>Nat.not_le_of_lt (Nat.lt_add_right k hp0)]
   injection h with h; subst h
   exact Sat.ok hQ
 ·have h:=iteF h c1
  have c1b:(a1.Sym != v1.Sym) = true:=bneT c1
  by_cases c3:a0.w.Relabel < 0
  ·have h:=iteT h c3
   simp only [go_sem,e_v1a,e_v1b,c1b,c3,hp0,fun k=>Nat.lt_add_right k hp0,Nat.not_le_of_lt hp0,fun k=>Nat.not_le_of_lt (Nat.lt_add_right k hp0)]
   injection h with h; subst h
   exact Sat.ok hQ
  ·have h:=iteF h c3
   obtain ⟨v7,e_v7,h⟩:=ob h
   obtain ⟨e_v7a,e_v7b⟩:=idx_some e_v7
   by_cases c4:(a1.From.length:Int) = (v7.length:Int)
   ·have h:=iteT h c4
    have c4b:((a1.From.length:Int) != (v7.length:Int)) = false:=bneF c4
    simp only [go_sem,e_v1a,e_v1b,c1b,c3,e_v7a,e_v7b,c4b,hp0,fun k=>Nat.lt_add_right k hp0,Nat.not_le_of_lt hp0,fun k=>Nat.not_le_of_lt (Nat.lt_add_right k hp0)]
    refine run_rangeL (c:=L83_0) (live:=[0,2,7,45,46,47]) (by simp only [go_sem]) (M:=fun i2 (s2:Int)=>[(0,.ptr p0 0),(2,.p (iv a2)),(7,.p (iv s2)),(45,.p (.sl none 1 (List.map rowI a1.From))),(46,.p (iv (a1.From.length:Int))),(47,.p (iv (i2:Int)))]) (Z:=fun i2 (s2:Int)=>((List.set σ p0 (.cells [.p (iv a0.a.States),.p (.sl none 1 (List.map rowI a0.a.Final)),.p (.sl none 3 (List.map row_Rule a0.a.Rules)),.p (iv a0.w.Relabel),.p (iv a0.w.Remove),.p (iv a0.w.Insert),.p (.sl none 1 (List.map rowI a0.size)),.own 1 (List.map (rowL 1 rowI) a0.cost),.own 1 (List.map (rowL 1 rowI) a0.kids),.own 2 (List.map row_Tree a0.tree)])) ++ [.cells [.p (iv a1.Sym),.p (.sl none 1 (List.map rowI a1.From)),.p (iv a1.To)]])) (N:=fun (s2:Int)=>⟨[(7,.p (iv s2))],((List.set σ p0 (.cells [.p (iv a0.a.States),.p (.sl none 1 (List.map rowI a0.a.Final)),.p (.sl none 3 (List.map row_Rule a0.a.Rules)),.p (iv a0.w.Relabel),.p (iv a0.w.Remove),.p (iv a0.w.Insert),.p (.sl none 1 (List.map rowI a0.size)),.own 1 (List.map (rowL 1 rowI) a0.cost),.own 1 (List.map (rowL 1 rowI) a0.kids),.own 2 (List.map row_Tree a0.tree)])) ++ [.cells [.p (iv a1.Sym),.p (.sl none 1 (List.map rowI a1.From)),.p (iv a1.To)]]),[],none,false⟩) h rfl rfl (fun _ _=>rfl) ?_ ?_ ?_
    ·intro s2 h
     try dsimp only at h ⊢
     simp only [go_sem,hp0,fun k=>Nat.lt_add_right k hp0,Nat.not_le_of_lt hp0,fun k=>Nat.not_le_of_lt (Nat.lt_add_right k hp0)]
     injection h with h; subst h
     exact Sat.ok hQ
    ·intro K2 s2 hb2 he2
     try dsimp only
     conv=>arg 1; arg 7; unfold L83_0 loopAt S22.c83 Try.f83; simp only [loopIn,Option.getD_some,if_true]
     simp only [go_sem,he2,hp0,fun k=>Nat.lt_add_right k hp0,Nat.not_le_of_lt hp0,fun k=>Nat.not_le_of_lt (Nat.lt_add_right k hp0)]
     exact hb2
    ·intro K2 k2 i2 x2 s2 n2 hR2 hE2 hb2 hx2 hi2 hw2 ih2 h
     try dsimp only at h ⊢
     conv=>arg 1; arg 7; unfold L83_0 loopAt S22.c83 Try.f83; simp only [loopIn,Option.getD_some,if_true]
     obtain ⟨v8,e_v8,h⟩:=ob h
     obtain ⟨v9,e_v9,h⟩:=ob h
     obtain ⟨e_v9a,e_v9b⟩:=idx_some e_v9
     obtain ⟨v10,e_v10,h⟩:=ob h
     obtain ⟨e_v10a,e_v10b⟩:=idx_some e_v10
     obtain ⟨v11,e_v11,h⟩:=ob h
     have e_v11c:call Try.prog T H (.fn 76) [.p (iv (w64 (s2 + v10))),.p (iv 2199023255552)] [] = some (.ret (.p (iv v11)),[]):=spec76 (w64 (s2 + v10)) 2199023255552 v11 e_v11
     simp only [go_sem,hx2,hi2,hw2,e_v7a,e_v7b,e_v8,e_v9a,e_v9b,e_v10a,e_v10b,e_v11c,hR2,hE2,hp0,fun k=>Nat.lt_add_right k hp0,Nat.not_le_of_lt hp0,fun k=>Nat.not_le_of_lt (Nat.lt_add_right k hp0)]
     exact ih2 v11 h
   ·have h:=iteF h c4
    have c4b:((a1.From.length:Int) != (v7.length:Int)) = true:=bneT c4
    simp only [go_sem,e_v1a,e_v1b,c1b,c3,e_v7a,e_v7b,c4b,hp0,fun k=>Nat.lt_add_right k hp0,Nat.not_le_of_lt hp0,fun k=>Nat.not_le_of_lt (Nat.lt_add_right k hp0)]
    injection h with h; subst h
    exact Sat.ok hQ
end Go.AM.S22

namespace Go.AM.S22
namespace Tab
open Go Go.Proofs Go.AM
set_option maxRecDepth 100000
set_option linter.unusedVariables false
set_option maxHeartbeats 4000000
abbrev PS:=Option (Nat×List Int×Nat)
def pv:PS→AV
 | none=>.nms 6 1
 | some (g,_,n)=>.ms 6 g 1 0 n
def po:PS→AObj
 | none=>.dead
 | some (g,l,_)=>.arr g 1 (List.map (rowA rowI) l)
theorem pv_none:pv none = .nms 6 1:=rfl
theorem pv_some (g:Nat) (l:List Int) (n:Nat):pv (some (g,l,n)) = .ms 6 g 1 0 n:=rfl
attribute [go_sem] pv_none pv_some
def xc (tb:repair_table):List AV:=[.p (iv tb.a.States),.p (.sl none 1 (List.map rowI tb.a.Final)),.p (.sl none 3 (List.map row_Rule tb.a.Rules)),.p (iv tb.w.Relabel),.p (iv tb.w.Remove),.p (iv tb.w.Insert),.p (.sl none 1 (List.map rowI tb.size)),.own 1 (List.map (rowL 1 rowI) tb.cost),.own 1 (List.map (rowL 1 rowI) tb.kids),.own 2 (List.map row_Tree tb.tree)]
def yS (σ:List AObj) (s:PS×List AV):List AObj:=((σ.set 6 (po s.1)).set 7 (.cells [pv s.1])).set 4 (.cells s.2)
theorem yS_len (σ:List AObj) (s:PS×List AV):(yS σ s).length = σ.length:=by simp [yS]
theorem yS_get (σ:List AObj) (s:PS×List AV) {i:Nat} (h:i≠4∧i≠6∧i≠7):(yS σ s)[i]? = σ[i]?:=by
 unfold yS; rw [List.getElem?_set_ne (by omega),List.getElem?_set_ne (by omega),List.getElem?_set_ne (by omega)]
theorem yS_4 {σ:List AObj} (s:PS×List AV) (h:10≤σ.length):(yS σ s)[4]? = some (.cells s.2):=by
 unfold yS; rw [List.getElem?_set_self (by simp; omega)]
theorem yS_6 {σ:List AObj} (s:PS×List AV) (h:10≤σ.length):(yS σ s)[6]? = some (po s.1):=by
 unfold yS; rw [List.getElem?_set_ne (by decide),List.getElem?_set_ne (by decide),List.getElem?_set_self (by omega)]
theorem yS_7 {σ:List AObj} (s:PS×List AV) (h:10≤σ.length):(yS σ s)[7]? = some (.cells [pv s.1]):=by
 unfold yS; rw [List.getElem?_set_ne (by decide),List.getElem?_set_self (by simp; omega)]
theorem yS_set4 (σ:List AObj) (p:PS) (cs ds:List AV):(yS σ (p,cs)).set 4 (.cells ds) = yS σ (p,ds):=by
 unfold yS; rw [List.set_set]
theorem yS_set (σ:List AObj) (s p:PS) (cs:List AV):((yS σ (s,cs)).set 6 (po p)).set 7 (.cells [pv p]) = yS σ (p,cs):=by
 unfold yS
 rw [List.set_comm _ _ (by decide:4≠6),List.set_comm _ _ (by decide:4≠7),List.set_comm _ _ (by decide:7≠6),List.set_set,List.set_set]
theorem yS_app {σ:List AObj} (s:PS×List AV) (h:10≤σ.length) (l:List AObj):yS σ s ++ l = yS (σ ++ l) s:=by
 unfold yS
 rw [List.set_append_left _ _ (by omega),List.set_append_left _ _ (by simp; omega),List.set_append_left _ _ (by simp; omega)]
def tabRow0 (n:Nat) (a:Automaton) (w:repair_Weights) (tb:repair_table) (i:Int) (u:Tree):Option ((List Int×Nat)×repair_table) :=
 (app 32 tb.tree [u]).bind fun v1 =>
 (cutM 0 (w64 (0 - (u.Kids.length:Int)))).bind fun v2 =>
 (app 24 tb.kids [([]:List Int)]).bind fun v3 =>
 (appM 8 0 ([]:List Int) [i]).bind fun v4 =>
 (mkz 8 a.States a.States 0).bind fun v5 =>
 (tree_Size n u).bind fun v6 =>
 rangeI ((a.States).toNat:Int) v5 (fun k1 i1 (s1:(List Int)) n1 =>
  (repair_table_news_wx (repair_table.mk tb.a tb.w tb.size tb.cost v3 v1) (i1:Int)).bind fun v12 =>
  (repair_least_int (w64 ((w64 (w.Remove * v6)) + v12)) 2199023255552).bind fun v13 =>
  (idxM ((a.States).toNat) s1 (i1:Int)).bind fun v14 =>
  n1 (List.set s1 i1 v13)) fun s1 =>
 rangeL a.Rules s1 (fun k2 i2 x2 (s2:(List Int)) n2 =>
  (idxM ((a.States).toNat) s2 x2.To).bind fun v9 =>
  (repair_table_keep_wxx (repair_table.mk tb.a tb.w tb.size tb.cost v3 v1) x2 i).bind fun v10 =>
  (repair_least_int v9 v10).bind fun v11 =>
  n2 (List.set s2 ((x2.To).toNat) v11)) fun s2 =>
 (allM 0 ((a.States).toNat) s2).bind fun v7 =>
 (app 24 tb.cost [v7]).bind fun v8 =>
 some ((v4,1),(repair_table.mk tb.a tb.w tb.size v8 v3 v1))
theorem tabRow0_spec {E:Env} (hE5:get E 5 = .ptr 1 0) (hE7:get E 7 = .ptr 3 0) (hE12:get E 12 = .ptr 5 0) (hE13:get E 13 = .ptr 7 0) (hEl:∀ t,ltV 9 (get E t) = true) {σ:List AObj} (hl:10≤σ.length) (n:Nat) (a:Automaton) (w:repair_Weights) (tb:repair_table) (i:Int) (u:Tree) (o1:σ[1]? = some (.cells [.p (iv a.States),.p (.sl none 1 (List.map rowI a.Final)),.p (.sl none 3 (List.map row_Rule a.Rules))])) (o3:σ[3]? = some (.cells [.p (iv w.Relabel),.p (iv w.Remove),.p (iv w.Insert)])) (o5:σ[5]? = some (.cells [.ptr 4 0])) (r:(List Int×Nat)×repair_table) (h:tabRow0 n a w tb i u = some r) (K:Ex×S→Option (Out×List AObj)) (Q:Out×List AObj→Prop)
 (hK:∀ env loc,Sat (K (.normal,⟨env,yS σ (some (1,r.1.1,r.1.2),xc r.2) ++ loc,[],none,false⟩)) Q) :
 Sat (run Try.prog T H 81 σ.length 0 B81_0 ⟨(15,.ptr σ.length 0) :: (14,.p (iv i)) :: (38,.p (iv i)) :: (39,.p (.agg [iv u.Sym,.sl none 2 (List.map row_Tree u.Kids)])) :: E,(yS σ (none,xc tb)) ++ [.cells [.p (iv u.Sym),.p (.sl none 2 (List.map row_Tree u.Kids))]],[],none,false⟩ K) Q:=by
 unfold tabRow0 at h
 have yl:=fun s=>yS_len σ s
 have ga:∀ {s:PS×List AV} {l:List AObj} {i:Nat},i < 10→(yS σ s ++ l)[i]? = (yS σ s)[i]?:=fun h=>List.getElem?_append_left (by rw [yS_len]; omega)
 have b1:∀ s l,(yS σ s ++ l)[1]? = some (.cells [.p (iv a.States),.p (.sl none 1 (List.map rowI a.Final)),.p (.sl none 3 (List.map row_Rule a.Rules))]):=fun s l=>by rw [ga (by decide),yS_get _ _ (by decide),o1]
 have b3:∀ s l,(yS σ s ++ l)[3]? = some (.cells [.p (iv w.Relabel),.p (iv w.Remove),.p (iv w.Insert)]):=fun s l=>by rw [ga (by decide),yS_get _ _ (by decide),o3]
 have b5:∀ s l,(yS σ s ++ l)[5]? = some (.cells [.ptr 4 0]):=fun s l=>by rw [ga (by decide),yS_get _ _ (by decide),o5]
 have b4:∀ p cs l,(yS σ (p,cs) ++ l)[4]? = some (.cells cs):=fun p cs l=>by rw [ga (by decide),yS_4 _ hl]
 have f7:∀ cs k,(yS σ (none,cs) ++ k)[7]? = some (.cells [.nms 6 1]):=fun cs k=>by rw [ga (by decide),yS_7 _ hl]; rfl
 have fd:∀ cs k,(yS σ (none,cs) ++ k)[6]? = some .dead:=fun cs k=>by rw [ga (by decide),yS_6 _ hl]; rfl
 have f7s:∀ g o l cs k,(yS σ (some (g,o,l),cs) ++ k)[7]? = some (.cells [.ms 6 g 1 0 l]):=fun g o l cs k=>by rw [ga (by decide),yS_7 _ hl]; rfl
 have f6s:∀ g o l cs k,(yS σ (some (g,o,l),cs) ++ k)[6]? = some (.arr g 1 (List.map (rowA rowI) o)):=fun g o l cs k=>by rw [ga (by decide),yS_6 _ hl]; rfl
 have f67:∀ p cs k X,((yS σ (p,cs) ++ k).set 6 X)[7]? = some (.cells [pv p]):=fun p cs k X=>by rw [List.getElem?_set_ne (by decide),ga (by decide),yS_7 _ hl]
 have hx:∀ p cs k ds,(yS σ (p,cs) ++ k).set 4 (.cells ds) = yS σ (p,ds) ++ k:=fun p cs k ds=>by rw [List.set_append_left _ _ (by rw [yS_len]; omega),yS_set4]
 have hp:∀ p cs k g v m,((yS σ (p,cs) ++ k).set 6 (.arr g 1 (List.map (rowA rowI) v))).set 7 (.cells [.ms 6 g 1 0 m]) = yS σ (some (g,v,m),cs) ++ k:=fun p cs k g v m=>by rw [List.set_append_left _ _ (by rw [yS_len]; omega),List.set_append_left _ _ (by rw [List.length_set,yS_len]; omega)]; exact congrArg (· ++ k) (yS_set σ p (some (g,v,m)) cs)
 have g0:∀ s l,(yS σ s ++ l)[σ.length]? = l[0]?:=fun s l=>sA0 (yS_len σ s)
 have gk:∀ s l k,(yS σ s ++ l)[σ.length + k]? = l[k]?:=fun s l k=>sAK (yS_len σ s)
 have s0:∀ s l y,(yS σ s ++ l).set σ.length y = yS σ s ++ l.set 0 y:=fun s l y=>sS0 (yS_len σ s)
 have sk:∀ s l y k,(yS σ s ++ l).set (σ.length + k) y = yS σ s ++ l.set k y:=fun s l y k=>sSK (yS_len σ s)
 have t0:∀ s l,(yS σ s ++ l).take σ.length = yS σ s:=fun s l=>sT0 (yS_len σ s)
 have tk:∀ s l k,(yS σ s ++ l).take (σ.length + k) = yS σ s ++ l.take k:=fun s l k=>sTK (yS_len σ s)
 have tx:∀ s,(yS σ s).take σ.length = yS σ s:=fun s=>sTX (yS_len σ s)
 have lt:∀ k,1 < σ.length + k∧3 < σ.length + k∧4 < σ.length + k∧5 < σ.length + k∧6 < σ.length + k∧7 < σ.length + k:=fun k=>by omega
 have lE:∀ t k,ltV (σ.length + k) (get E t) = true:=fun t k=>ltV_mono (by omega) _ (hEl t)
 have lE0:∀ t,ltV σ.length (get E t) = true:=fun t=>ltV_mono (by omega) _ (hEl t)
 unfold xc
 conv=>arg 1; arg 7; unfold B81_0 rangeB S22.c81 Try.f81; simp only [rangeIn,Option.getD_some,if_true]
 obtain ⟨v1,e_v1,h⟩:=ob h
 have e_v1a:boundOk (tb.tree.length + 1) 32 = true:=bnd_of (by have:=(app_some e_v1).1; simpa using this) (by decide)
 have e_v1b:(List.map row_Tree tb.tree) ++ [[iv u.Sym,.sl none 2 (List.map row_Tree u.Kids)]] = List.map row_Tree v1:=by rw [(app_some e_v1).2]; simp [row_Tree_eq]
 obtain ⟨v2,e_v2,h⟩:=ob h
 obtain ⟨e_v2a,e_v2b,e_v2d⟩:=cutM_some e_v2
 have e_v2z:v2 = 0:=Nat.le_zero.1 e_v2b
 have e_v2w:=e_v2a
 have e_v2y:=e_v2d
 try simp only [w64] at e_v2w e_v2y
 obtain ⟨v3,e_v3,h⟩:=ob h
 have e_v3a:boundOk (tb.kids.length + 1) 24 = true:=bnd_of (by have:=(app_some e_v3).1; simpa using this) (by decide)
 have e_v3b:(List.map (rowL 1 rowI) tb.kids) ++ [[.sl none 1 []]] = List.map (rowL 1 rowI) v3:=by rw [(app_some e_v3).2]; simp [rowI,rowL]
 obtain ⟨v4,e_v4,h⟩:=ob h
 have e_v4a:=(appM_some e_v4).1
 have e_v4b:boundOk (1) 8 = true:=by decide
 have e_v4l:v4.length = 1:=by rw [← (appM_some e_v4).2.2]; rfl
 have e_v4e:(List.map (rowA rowI) v4).isEmpty = false:=by rw [← (appM_some e_v4).2.2]; rfl
 have e_v4c:[[AV.p (iv i)]] = List.map (rowA rowI) v4:=by rw [← (appM_some e_v4).2.2]; simp [rowA,rowI]
 obtain ⟨v5,e_v5,h⟩:=ob h
 obtain ⟨e_v51,e_v52,e_v53,e_v54⟩:=mkz_some e_v5
 have e_v5b:boundOk (a.States).toNat 8 = true:=bnd_of e_v53 (by decide)
 have e_v5r:List.replicate (a.States).toNat [AV.p (iv 0)] = List.map (rowA rowI) v5:=by rw [e_v54]; exact rep_map (by first | rfl | simp only [go_sem,List.map_nil])
 obtain ⟨v6,e_v6,h⟩:=ob h
 have e_v6c:=spec38 n u v6 e_v6
 simp only [go_sem,Int.natCast_zero,e_v1a,e_v1b,e_v2a,e_v2d,e_v2z,e_v2w,e_v2y,clone_nil,e_v3a,e_v3b,e_v4b,e_v4l,e_v4e,e_v4c,e_v51,e_v52,e_v5b,e_v5r,e_v6c,hE5,hE7,hE12,hE13,yl,b1,b3,b5,b4,f7,f7s,f6s,f67,fd,hx,hp,g0,gk,s0,sk,t0,tk,tx,lt,lE,lE0]
 refine run_rangeI (c:=L81_2) (live:=[5,7,12,13,14,17,18,84,85]) (by simp only [go_sem]) (M:=fun i1 (s1:(List Int))=>[(5,.ptr 1 0),(7,.ptr 3 0),(12,.ptr 5 0),(13,.ptr 7 0),(14,.p (iv i)),(17,.ms (σ.length + 1) 0 1 0 ((a.States).toNat)),(18,.p (iv (w64 (w.Remove * v6)))),(84,.p (iv ((a.States).toNat:Int))),(85,.p (iv (i1:Int)))]) (Z:=fun i1 (s1:(List Int))=>((yS σ (some (1,v4,1),[.p (iv tb.a.States),.p (.sl none 1 (List.map rowI tb.a.Final)),.p (.sl none 3 (List.map row_Rule tb.a.Rules)),.p (iv tb.w.Relabel),.p (iv tb.w.Remove),.p (iv tb.w.Insert),.p (.sl none 1 (List.map rowI tb.size)),.own 1 (List.map (rowL 1 rowI) tb.cost),.own 1 (List.map (rowL 1 rowI) v3),.own 2 (List.map row_Tree v1)])) ++ [.cells [.p (iv u.Sym),.p (.sl none 2 (List.map row_Tree u.Kids))],.arr 0 1 (List.map (rowA rowI) s1)])) (N:=fun (s1:(List Int))=>⟨[(5,.ptr 1 0),(7,.ptr 3 0),(12,.ptr 5 0),(13,.ptr 7 0),(14,.p (iv i)),(17,.ms (σ.length + 1) 0 1 0 ((a.States).toNat))],((yS σ (some (1,v4,1),[.p (iv tb.a.States),.p (.sl none 1 (List.map rowI tb.a.Final)),.p (.sl none 3 (List.map row_Rule tb.a.Rules)),.p (iv tb.w.Relabel),.p (iv tb.w.Remove),.p (iv tb.w.Insert),.p (.sl none 1 (List.map rowI tb.size)),.own 1 (List.map (rowL 1 rowI) tb.cost),.own 1 (List.map (rowL 1 rowI) v3),.own 2 (List.map row_Tree v1)])) ++ [.cells [.p (iv u.Sym),.p (.sl none 2 (List.map row_Tree u.Kids))],.arr 0 1 (List.map (rowA rowI) s1)]),[],none,false⟩) h (by first | rfl | (simp only [go_sem,hE5,hE7,hE12,hE13,yl,b1,b3,b5,b4,f7,f7s,f6s,f67,fd,hx,hp,g0,gk,s0,sk,t0,tk,tx,lt,lE,lE0]; done) | (simp only [go_sem,hE5,hE7,hE12,hE13,yl,b1,b3,b5,b4,f7,f7s,f6s,f67,fd,hx,hp,g0,gk,s0,sk,t0,tk,tx,lt,lE,lE0]; rfl)) (by first | rfl | (simp only [go_sem,hE5,hE7,hE12,hE13,yl,b1,b3,b5,b4,f7,f7s,f6s,f67,fd,hx,hp,g0,gk,s0,sk,t0,tk,tx,lt,lE,lE0]; done) | (simp only [go_sem,hE5,hE7,hE12,hE13,yl,b1,b3,b5,b4,f7,f7s,f6s,f67,fd,hx,hp,g0,gk,s0,sk,t0,tk,tx,lt,lE,lE0]; rfl)) (fun _ _=>rfl) ?_ ?_ ?_
 ·intro s1 h
  try dsimp only at h ⊢
  simp only [go_sem,hE5,hE7,hE12,hE13,yl,b1,b3,b5,b4,f7,f7s,f6s,f67,fd,hx,hp,g0,gk,s0,sk,t0,tk,tx,lt,lE,lE0]
  refine run_rangeL (c:=L81_4) (live:=[5,7,12,13,14,17,99,100,101]) (by simp only [go_sem]) (M:=fun i2 (s2:(List Int))=>[(5,.ptr 1 0),(7,.ptr 3 0),(12,.ptr 5 0),(13,.ptr 7 0),(14,.p (iv i)),(17,.ms (σ.length + 1) 0 1 0 ((a.States).toNat)),(99,.p (.sl none 3 (List.map row_Rule a.Rules))),(100,.p (iv (a.Rules.length:Int))),(101,.p (iv (i2:Int)))]) (Z:=fun i2 (s2:(List Int))=>((yS σ (some (1,v4,1),[.p (iv tb.a.States),.p (.sl none 1 (List.map rowI tb.a.Final)),.p (.sl none 3 (List.map row_Rule tb.a.Rules)),.p (iv tb.w.Relabel),.p (iv tb.w.Remove),.p (iv tb.w.Insert),.p (.sl none 1 (List.map rowI tb.size)),.own 1 (List.map (rowL 1 rowI) tb.cost),.own 1 (List.map (rowL 1 rowI) v3),.own 2 (List.map row_Tree v1)])) ++ [.cells [.p (iv u.Sym),.p (.sl none 2 (List.map row_Tree u.Kids))],.arr 0 1 (List.map (rowA rowI) s2)])) (N:=fun (s2:(List Int))=>⟨[(5,.ptr 1 0),(7,.ptr 3 0),(12,.ptr 5 0),(13,.ptr 7 0),(17,.ms (σ.length + 1) 0 1 0 ((a.States).toNat))],((yS σ (some (1,v4,1),[.p (iv tb.a.States),.p (.sl none 1 (List.map rowI tb.a.Final)),.p (.sl none 3 (List.map row_Rule tb.a.Rules)),.p (iv tb.w.Relabel),.p (iv tb.w.Remove),.p (iv tb.w.Insert),.p (.sl none 1 (List.map rowI tb.size)),.own 1 (List.map (rowL 1 rowI) tb.cost),.own 1 (List.map (rowL 1 rowI) v3),.own 2 (List.map row_Tree v1)])) ++ [.cells [.p (iv u.Sym),.p (.sl none 2 (List.map row_Tree u.Kids))],.arr 0 1 (List.map (rowA rowI) s2)]),[],none,false⟩) h (by first | rfl | (simp only [go_sem,hE5,hE7,hE12,hE13,yl,b1,b3,b5,b4,f7,f7s,f6s,f67,fd,hx,hp,g0,gk,s0,sk,t0,tk,tx,lt,lE,lE0]; done) | (simp only [go_sem,hE5,hE7,hE12,hE13,yl,b1,b3,b5,b4,f7,f7s,f6s,f67,fd,hx,hp,g0,gk,s0,sk,t0,tk,tx,lt,lE,lE0]; rfl)) (by first | rfl | (simp only [go_sem,hE5,hE7,hE12,hE13,yl,b1,b3,b5,b4,f7,f7s,f6s,f67,fd,hx,hp,g0,gk,s0,sk,t0,tk,tx,lt,lE,lE0]; done) | (simp only [go_sem,hE5,hE7,hE12,hE13,yl,b1,b3,b5,b4,f7,f7s,f6s,f67,fd,hx,hp,g0,gk,s0,sk,t0,tk,tx,lt,lE,lE0]; rfl)) (fun _ _=>rfl) ?_ ?_ ?_
  ·intro s2 h
   try dsimp only at h ⊢
   obtain ⟨v7,e_v7,h⟩:=ob h
   have e_v7a:=(allM_some e_v7).1
   have e_v7b:=(allM_some e_v7).2
   try simp only [Nat.zero_add] at e_v7a
   try simp only [List.drop_zero] at e_v7b
   obtain ⟨v8,e_v8,h⟩:=ob h
   have e_v8a:boundOk (tb.cost.length + 1) 24 = true:=bnd_of (by have:=(app_some e_v8).1; simpa using this) (by decide)
   have e_v8b:(List.map (rowL 1 rowI) tb.cost) ++ [[.sl none 1 (List.map rowI v7)]] = List.map (rowL 1 rowI) v8:=by rw [(app_some e_v8).2]; simp [rowI,rowL]
   simp only [go_sem,e_v7a,e_v7b,e_v8a,e_v8b,hE5,hE7,hE12,hE13,yl,b1,b3,b5,b4,f7,f7s,f6s,f67,fd,hx,hp,g0,gk,s0,sk,t0,tk,tx,lt,lE,lE0]
   injection h with h; subst h
   exact hK _ _
  ·intro K2 s2 hb2 he2
   try dsimp only
   conv=>arg 1; arg 7; unfold L81_4 loopAt S22.c81 Try.f81; simp only [loopIn,Option.getD_some,if_true]
   simp only [go_sem,he2,hE5,hE7,hE12,hE13,yl,b1,b3,b5,b4,f7,f7s,f6s,f67,fd,hx,hp,g0,gk,s0,sk,t0,tk,tx,lt,lE,lE0]
   exact hb2
  ·intro K2 k2 i2 x2 s2 n2 hR2 hE2 hb2 hx2 hi2 hw2 ih2 h
   try dsimp only at h ⊢
   conv=>arg 1; arg 7; unfold L81_4 loopAt S22.c81 Try.f81; simp only [loopIn,Option.getD_some,if_true]
   obtain ⟨v9,e_v9,h⟩:=ob h
   obtain ⟨e_v9a,e_v9b,e_v9d⟩:=idxM_some e_v9
   obtain ⟨v10,e_v10,h⟩:=ob h
   have e_v10c:call Try.prog T H (.fn 83) [.ptr 4 0,.p (.agg [iv x2.Sym,.sl none 1 (List.map rowI x2.From),iv x2.To]),.p (iv i)] ((yS σ (some (1,v4,1),[.p (iv tb.a.States),.p (.sl none 1 (List.map rowI tb.a.Final)),.p (.sl none 3 (List.map row_Rule tb.a.Rules)),.p (iv tb.w.Relabel),.p (iv tb.w.Remove),.p (iv tb.w.Insert),.p (.sl none 1 (List.map rowI tb.size)),.own 1 (List.map (rowL 1 rowI) tb.cost),.own 1 (List.map (rowL 1 rowI) v3),.own 2 (List.map row_Tree v1)])) ++ [.cells [.p (iv u.Sym),.p (.sl none 2 (List.map row_Tree u.Kids))],.arr 0 1 (List.map (rowA rowI) s2),.cells [.p (iv x2.Sym),.p (.sl none 1 (List.map rowI x2.From)),.p (iv x2.To)]]) = some (.ret (.p (iv v10)),((yS σ (some (1,v4,1),[.p (iv tb.a.States),.p (.sl none 1 (List.map rowI tb.a.Final)),.p (.sl none 3 (List.map row_Rule tb.a.Rules)),.p (iv tb.w.Relabel),.p (iv tb.w.Remove),.p (iv tb.w.Insert),.p (.sl none 1 (List.map rowI tb.size)),.own 1 (List.map (rowL 1 rowI) tb.cost),.own 1 (List.map (rowL 1 rowI) v3),.own 2 (List.map row_Tree v1)])) ++ [.cells [.p (iv u.Sym),.p (.sl none 2 (List.map row_Tree u.Kids))],.arr 0 1 (List.map (rowA rowI) s2),.cells [.p (iv x2.Sym),.p (.sl none 1 (List.map rowI x2.From)),.p (iv x2.To)]])):=by have q:=spec83_wxx ((yS σ (some (1,v4,1),[.p (iv tb.a.States),.p (.sl none 1 (List.map rowI tb.a.Final)),.p (.sl none 3 (List.map row_Rule tb.a.Rules)),.p (iv tb.w.Relabel),.p (iv tb.w.Remove),.p (iv tb.w.Insert),.p (.sl none 1 (List.map rowI tb.size)),.own 1 (List.map (rowL 1 rowI) tb.cost),.own 1 (List.map (rowL 1 rowI) v3),.own 2 (List.map row_Tree v1)])) ++ [.cells [.p (iv u.Sym),.p (.sl none 2 (List.map row_Tree u.Kids))],.arr 0 1 (List.map (rowA rowI) s2),.cells [.p (iv x2.Sym),.p (.sl none 1 (List.map rowI x2.From)),.p (iv x2.To)]]) 4 (by simp only [yl,List.length_append,List.length_set,List.length_cons,List.length_nil]; omega) (repair_table.mk tb.a tb.w tb.size tb.cost v3 v1) x2 i v10 e_v10; first | (simp only [go_sem,hE5,hE7,hE12,hE13,yl,b1,b3,b5,b4,f7,f7s,f6s,f67,fd,hx,hp,g0,gk,s0,sk,t0,tk,tx,lt,lE,lE0] at q ⊢; exact q) | exact q
   obtain ⟨v11,e_v11,h⟩:=ob h
   have e_v11c:=spec76 v9 v10 v11 e_v11
   have e_y1:List.set (List.map (rowA rowI) s2) ((x2.To).toNat) [.p (iv v11)] = List.map (rowA rowI) (List.set s2 ((x2.To).toNat) v11):=map_set' (by first | rfl | simp only [go_sem,List.map_cons,List.map_nil])
   simp only [go_sem,hx2,hi2,hw2,e_v9a,e_v9b,e_v9d,e_v10c,e_v11c,e_y1,hR2,hE2,hE5,hE7,hE12,hE13,yl,b1,b3,b5,b4,f7,f7s,f6s,f67,fd,hx,hp,g0,gk,s0,sk,t0,tk,tx,lt,lE,lE0]
   exact ih2 (List.set s2 ((x2.To).toNat) v11) h
 ·intro K1 i1 s1 hb1 he1
  try dsimp only
  conv=>arg 1; arg 7; unfold L81_2 loopAt S22.c81 Try.f81; simp only [loopIn,Option.getD_some,if_true]
  simp only [go_sem,he1,hE5,hE7,hE12,hE13,yl,b1,b3,b5,b4,f7,f7s,f6s,f67,fd,hx,hp,g0,gk,s0,sk,t0,tk,tx,lt,lE,lE0]
  exact hb1
 ·intro K1 k1 i1 s1 n1 hR1 hE1 hb1 hi1 hw1 ih1 h
  try dsimp only at h ⊢
  conv=>arg 1; arg 7; unfold L81_2 loopAt S22.c81 Try.f81; simp only [loopIn,Option.getD_some,if_true]
  obtain ⟨v12,e_v12,h⟩:=ob h
  have e_v12c:call Try.prog T H (.fn 98) [.ptr 4 0,.p (iv (i1:Int))] ((yS σ (some (1,v4,1),[.p (iv tb.a.States),.p (.sl none 1 (List.map rowI tb.a.Final)),.p (.sl none 3 (List.map row_Rule tb.a.Rules)),.p (iv tb.w.Relabel),.p (iv tb.w.Remove),.p (iv tb.w.Insert),.p (.sl none 1 (List.map rowI tb.size)),.own 1 (List.map (rowL 1 rowI) tb.cost),.own 1 (List.map (rowL 1 rowI) v3),.own 2 (List.map row_Tree v1)])) ++ [.cells [.p (iv u.Sym),.p (.sl none 2 (List.map row_Tree u.Kids))],.arr 0 1 (List.map (rowA rowI) s1)]) = some (.ret (.p (iv v12)),((yS σ (some (1,v4,1),[.p (iv tb.a.States),.p (.sl none 1 (List.map rowI tb.a.Final)),.p (.sl none 3 (List.map row_Rule tb.a.Rules)),.p (iv tb.w.Relabel),.p (iv tb.w.Remove),.p (iv tb.w.Insert),.p (.sl none 1 (List.map rowI tb.size)),.own 1 (List.map (rowL 1 rowI) tb.cost),.own 1 (List.map (rowL 1 rowI) v3),.own 2 (List.map row_Tree v1)])) ++ [.cells [.p (iv u.Sym),.p (.sl none 2 (List.map row_Tree u.Kids))],.arr 0 1 (List.map (rowA rowI) s1)])):=by have q:=spec98_wx ((yS σ (some (1,v4,1),[.p (iv tb.a.States),.p (.sl none 1 (List.map rowI tb.a.Final)),.p (.sl none 3 (List.map row_Rule tb.a.Rules)),.p (iv tb.w.Relabel),.p (iv tb.w.Remove),.p (iv tb.w.Insert),.p (.sl none 1 (List.map rowI tb.size)),.own 1 (List.map (rowL 1 rowI) tb.cost),.own 1 (List.map (rowL 1 rowI) v3),.own 2 (List.map row_Tree v1)])) ++ [.cells [.p (iv u.Sym),.p (.sl none 2 (List.map row_Tree u.Kids))],.arr 0 1 (List.map (rowA rowI) s1)]) 4 (by simp only [yl,List.length_append,List.length_set,List.length_cons,List.length_nil]; omega) (repair_table.mk tb.a tb.w tb.size tb.cost v3 v1) (i1:Int) v12 e_v12; first | (simp only [go_sem,hE5,hE7,hE12,hE13,yl,b1,b3,b5,b4,f7,f7s,f6s,f67,fd,hx,hp,g0,gk,s0,sk,t0,tk,tx,lt,lE,lE0] at q ⊢; exact q) | exact q
  obtain ⟨v13,e_v13,h⟩:=ob h
  have e_v13c:call Try.prog T H (.fn 76) [.p (iv (w64 ((w64 (w.Remove * v6)) + v12))),.p (iv 2199023255552)] [] = some (.ret (.p (iv v13)),[]):=spec76 (w64 ((w64 (w.Remove * v6)) + v12)) 2199023255552 v13 e_v13
  obtain ⟨v14,e_v14,h⟩:=ob h
  obtain ⟨e_v14a,e_v14b,e_v14d⟩:=idxM_some e_v14
  simp only [Int.toNat_natCast] at e_v14b
  simp only [Int.toNat_natCast] at e_v14d
  have e_y2:List.set (List.map (rowA rowI) s1) i1 [.p (iv v13)] = List.map (rowA rowI) (List.set s1 i1 v13):=map_set' (by first | rfl | simp only [go_sem,List.map_cons,List.map_nil])
  simp only [go_sem,hi1,hw1,e_v12c,e_v13c,e_v14b,e_v14d,e_y2,hR1,hE1,hE5,hE7,hE12,hE13,yl,b1,b3,b5,b4,f7,f7s,f6s,f67,fd,hx,hp,g0,gk,s0,sk,t0,tk,tx,lt,lE,lE0]
  exact ih1 (List.set s1 i1 v13) h
def tabRow (n:Nat) (a:Automaton) (w:repair_Weights) (tb:repair_table) (i:Int) (u:Tree) (o:List Int) (l:Nat):Option ((List Int×Nat)×repair_table) :=
 (app 32 tb.tree [u]).bind fun v1 =>
 (cutM l (w64 ((l:Int) - (u.Kids.length:Int)))).bind fun v2 =>
 (slices_Clone_q o (l - v2) v2).bind fun v3 =>
 (app 24 tb.kids [v3]).bind fun v4 =>
 (appM 8 v2 o [i]).bind fun v5 =>
 (mkz 8 a.States a.States 0).bind fun v6 =>
 (tree_Size n u).bind fun v7 =>
 rangeI ((a.States).toNat:Int) v6 (fun k1 i1 (s1:(List Int)) n1 =>
  (repair_table_news_wx (repair_table.mk tb.a tb.w tb.size tb.cost v4 v1) (i1:Int)).bind fun v13 =>
  (repair_least_int (w64 ((w64 (w.Remove * v7)) + v13)) 2199023255552).bind fun v14 =>
  (idxM ((a.States).toNat) s1 (i1:Int)).bind fun v15 =>
  n1 (List.set s1 i1 v14)) fun s1 =>
 rangeL a.Rules s1 (fun k2 i2 x2 (s2:(List Int)) n2 =>
  (idxM ((a.States).toNat) s2 x2.To).bind fun v10 =>
  (repair_table_keep_wxx (repair_table.mk tb.a tb.w tb.size tb.cost v4 v1) x2 i).bind fun v11 =>
  (repair_least_int v10 v11).bind fun v12 =>
  n2 (List.set s2 ((x2.To).toNat) v12)) fun s2 =>
 (allM 0 ((a.States).toNat) s2).bind fun v8 =>
 (app 24 tb.cost [v8]).bind fun v9 =>
 some ((v5,(v2 + 1)),(repair_table.mk tb.a tb.w tb.size v9 v4 v1))
theorem tabRow_spec {E:Env} (hE5:get E 5 = .ptr 1 0) (hE7:get E 7 = .ptr 3 0) (hE12:get E 12 = .ptr 5 0) (hE13:get E 13 = .ptr 7 0) (hEl:∀ t,ltV 9 (get E t) = true) {σ:List AObj} (hl:10≤σ.length) (n:Nat) (a:Automaton) (w:repair_Weights) (tb:repair_table) (i:Int) (u:Tree) (g:Nat) (o:List Int) (l:Nat) (o1:σ[1]? = some (.cells [.p (iv a.States),.p (.sl none 1 (List.map rowI a.Final)),.p (.sl none 3 (List.map row_Rule a.Rules))])) (o3:σ[3]? = some (.cells [.p (iv w.Relabel),.p (iv w.Remove),.p (iv w.Insert)])) (o5:σ[5]? = some (.cells [.ptr 4 0])) (r:(List Int×Nat)×repair_table) (h:tabRow n a w tb i u o l = some r) (K:Ex×S→Option (Out×List AObj)) (Q:Out×List AObj→Prop)
 (hK:∀ env loc,Sat (K (.normal,⟨env,yS σ (some ((g + 1),r.1.1,r.1.2),xc r.2) ++ loc,[],none,false⟩)) Q) :
 Sat (run Try.prog T H 81 σ.length 0 B81_0 ⟨(15,.ptr σ.length 0) :: (14,.p (iv i)) :: (38,.p (iv i)) :: (39,.p (.agg [iv u.Sym,.sl none 2 (List.map row_Tree u.Kids)])) :: E,(yS σ (some (g,o,l),xc tb)) ++ [.cells [.p (iv u.Sym),.p (.sl none 2 (List.map row_Tree u.Kids))]],[],none,false⟩ K) Q:=by
 unfold tabRow at h
 have yl:=fun s=>yS_len σ s
 have ga:∀ {s:PS×List AV} {l:List AObj} {i:Nat},i < 10→(yS σ s ++ l)[i]? = (yS σ s)[i]?:=fun h=>List.getElem?_append_left (by rw [yS_len]; omega)
 have b1:∀ s l,(yS σ s ++ l)[1]? = some (.cells [.p (iv a.States),.p (.sl none 1 (List.map rowI a.Final)),.p (.sl none 3 (List.map row_Rule a.Rules))]):=fun s l=>by rw [ga (by decide),yS_get _ _ (by decide),o1]
 have b3:∀ s l,(yS σ s ++ l)[3]? = some (.cells [.p (iv w.Relabel),.p (iv w.Remove),.p (iv w.Insert)]):=fun s l=>by rw [ga (by decide),yS_get _ _ (by decide),o3]
 have b5:∀ s l,(yS σ s ++ l)[5]? = some (.cells [.ptr 4 0]):=fun s l=>by rw [ga (by decide),yS_get _ _ (by decide),o5]
 have b4:∀ p cs l,(yS σ (p,cs) ++ l)[4]? = some (.cells cs):=fun p cs l=>by rw [ga (by decide),yS_4 _ hl]
 have f7:∀ cs k,(yS σ (none,cs) ++ k)[7]? = some (.cells [.nms 6 1]):=fun cs k=>by rw [ga (by decide),yS_7 _ hl]; rfl
 have fd:∀ cs k,(yS σ (none,cs) ++ k)[6]? = some .dead:=fun cs k=>by rw [ga (by decide),yS_6 _ hl]; rfl
 have f7s:∀ g o l cs k,(yS σ (some (g,o,l),cs) ++ k)[7]? = some (.cells [.ms 6 g 1 0 l]):=fun g o l cs k=>by rw [ga (by decide),yS_7 _ hl]; rfl
 have f6s:∀ g o l cs k,(yS σ (some (g,o,l),cs) ++ k)[6]? = some (.arr g 1 (List.map (rowA rowI) o)):=fun g o l cs k=>by rw [ga (by decide),yS_6 _ hl]; rfl
 have f67:∀ p cs k X,((yS σ (p,cs) ++ k).set 6 X)[7]? = some (.cells [pv p]):=fun p cs k X=>by rw [List.getElem?_set_ne (by decide),ga (by decide),yS_7 _ hl]
 have hx:∀ p cs k ds,(yS σ (p,cs) ++ k).set 4 (.cells ds) = yS σ (p,ds) ++ k:=fun p cs k ds=>by rw [List.set_append_left _ _ (by rw [yS_len]; omega),yS_set4]
 have hp:∀ p cs k g v m,((yS σ (p,cs) ++ k).set 6 (.arr g 1 (List.map (rowA rowI) v))).set 7 (.cells [.ms 6 g 1 0 m]) = yS σ (some (g,v,m),cs) ++ k:=fun p cs k g v m=>by rw [List.set_append_left _ _ (by rw [yS_len]; omega),List.set_append_left _ _ (by rw [List.length_set,yS_len]; omega)]; exact congrArg (· ++ k) (yS_set σ p (some (g,v,m)) cs)
 have g0:∀ s l,(yS σ s ++ l)[σ.length]? = l[0]?:=fun s l=>sA0 (yS_len σ s)
 have gk:∀ s l k,(yS σ s ++ l)[σ.length + k]? = l[k]?:=fun s l k=>sAK (yS_len σ s)
 have s0:∀ s l y,(yS σ s ++ l).set σ.length y = yS σ s ++ l.set 0 y:=fun s l y=>sS0 (yS_len σ s)
 have sk:∀ s l y k,(yS σ s ++ l).set (σ.length + k) y = yS σ s ++ l.set k y:=fun s l y k=>sSK (yS_len σ s)
 have t0:∀ s l,(yS σ s ++ l).take σ.length = yS σ s:=fun s l=>sT0 (yS_len σ s)
 have tk:∀ s l k,(yS σ s ++ l).take (σ.length + k) = yS σ s ++ l.take k:=fun s l k=>sTK (yS_len σ s)
 have tx:∀ s,(yS σ s).take σ.length = yS σ s:=fun s=>sTX (yS_len σ s)
 have lt:∀ k,1 < σ.length + k∧3 < σ.length + k∧4 < σ.length + k∧5 < σ.length + k∧6 < σ.length + k∧7 < σ.length + k:=fun k=>by omega
 have lE:∀ t k,ltV (σ.length + k) (get E t) = true:=fun t k=>ltV_mono (by omega) _ (hEl t)
 have lE0:∀ t,ltV σ.length (get E t) = true:=fun t=>ltV_mono (by omega) _ (hEl t)
 unfold xc
 conv=>arg 1; arg 7; unfold B81_0 rangeB S22.c81 Try.f81; simp only [rangeIn,Option.getD_some,if_true]
 obtain ⟨v1,e_v1,h⟩:=ob h
 have e_v1a:boundOk (tb.tree.length + 1) 32 = true:=bnd_of (by have:=(app_some e_v1).1; simpa using this) (by decide)
 have e_v1b:(List.map row_Tree tb.tree) ++ [[iv u.Sym,.sl none 2 (List.map row_Tree u.Kids)]] = List.map row_Tree v1:=by rw [(app_some e_v1).2]; simp [row_Tree_eq]
 obtain ⟨v2,e_v2,h⟩:=ob h
 obtain ⟨e_v2a,e_v2b,e_v2d⟩:=cutM_some e_v2
 have e_v2w:=e_v2a
 have e_v2y:=e_v2d
 try simp only [w64] at e_v2w e_v2y
 obtain ⟨v3,e_v3,h⟩:=ob h
 have e_v3c:call Try.prog T H (.fn 97) [.ms 0 g 1 v2 (l - v2)] [.arr g 1 (List.map (rowA rowI) o)] = some (.ret (.p (.sl none 1 (List.map rowI v3))),[.arr g 1 (List.map (rowA rowI) o)]):=spec97 g o (l - v2) v2 v3 e_v3
 obtain ⟨v4,e_v4,h⟩:=ob h
 have e_v4a:boundOk (tb.kids.length + 1) 24 = true:=bnd_of (by have:=(app_some e_v4).1; simpa using this) (by decide)
 have e_v4b:(List.map (rowL 1 rowI) tb.kids) ++ [[.sl none 1 (List.map rowI v3)]] = List.map (rowL 1 rowI) v4:=by rw [(app_some e_v4).2]; simp [rowI,rowL]
 obtain ⟨v5,e_v5,h⟩:=ob h
 have e_v5a:=(appM_some e_v5).1
 have e_v5b:boundOk (v2 + 1) 8 = true:=bnd_of (by have:=(appM_some e_v5).2.1; simpa using this) (by decide)
 have e_v5c:List.map (rowA rowI) (List.take v2 o) ++ [[AV.p (iv i)]] = List.map (rowA rowI) v5:=by rw [← (appM_some e_v5).2.2]; simp [rowA,rowI]
 obtain ⟨v6,e_v6,h⟩:=ob h
 obtain ⟨e_v61,e_v62,e_v63,e_v64⟩:=mkz_some e_v6
 have e_v6b:boundOk (a.States).toNat 8 = true:=bnd_of e_v63 (by decide)
 have e_v6r:List.replicate (a.States).toNat [AV.p (iv 0)] = List.map (rowA rowI) v6:=by rw [e_v64]; exact rep_map (by first | rfl | simp only [go_sem,List.map_nil])
 obtain ⟨v7,e_v7,h⟩:=ob h
 have e_v7c:=spec38 n u v7 e_v7
 simp only [go_sem,e_v1a,e_v1b,e_v2a,e_v2b,e_v2d,e_v2w,e_v2y,e_v3c,e_v4a,e_v4b,e_v5b,e_v5a,e_v5c,e_v61,e_v62,e_v6b,e_v6r,e_v7c,hE5,hE7,hE12,hE13,yl,b1,b3,b5,b4,f7,f7s,f6s,f67,fd,hx,hp,g0,gk,s0,sk,t0,tk,tx,lt,lE,lE0]
 refine run_rangeI (c:=L81_2) (live:=[5,7,12,13,14,17,18,84,85]) (by simp only [go_sem]) (M:=fun i1 (s1:(List Int))=>[(5,.ptr 1 0),(7,.ptr 3 0),(12,.ptr 5 0),(13,.ptr 7 0),(14,.p (iv i)),(17,.ms (σ.length + 1) 0 1 0 ((a.States).toNat)),(18,.p (iv (w64 (w.Remove * v7)))),(84,.p (iv ((a.States).toNat:Int))),(85,.p (iv (i1:Int)))]) (Z:=fun i1 (s1:(List Int))=>((yS σ (some ((g + 1),v5,(v2 + 1)),[.p (iv tb.a.States),.p (.sl none 1 (List.map rowI tb.a.Final)),.p (.sl none 3 (List.map row_Rule tb.a.Rules)),.p (iv tb.w.Relabel),.p (iv tb.w.Remove),.p (iv tb.w.Insert),.p (.sl none 1 (List.map rowI tb.size)),.own 1 (List.map (rowL 1 rowI) tb.cost),.own 1 (List.map (rowL 1 rowI) v4),.own 2 (List.map row_Tree v1)])) ++ [.cells [.p (iv u.Sym),.p (.sl none 2 (List.map row_Tree u.Kids))],.arr 0 1 (List.map (rowA rowI) s1)])) (N:=fun (s1:(List Int))=>⟨[(5,.ptr 1 0),(7,.ptr 3 0),(12,.ptr 5 0),(13,.ptr 7 0),(14,.p (iv i)),(17,.ms (σ.length + 1) 0 1 0 ((a.States).toNat))],((yS σ (some ((g + 1),v5,(v2 + 1)),[.p (iv tb.a.States),.p (.sl none 1 (List.map rowI tb.a.Final)),.p (.sl none 3 (List.map row_Rule tb.a.Rules)),.p (iv tb.w.Relabel),.p (iv tb.w.Remove),.p (iv tb.w.Insert),.p (.sl none 1 (List.map rowI tb.size)),.own 1 (List.map (rowL 1 rowI) tb.cost),.own 1 (List.map (rowL 1 rowI) v4),.own 2 (List.map row_Tree v1)])) ++ [.cells [.p (iv u.Sym),.p (.sl none 2 (List.map row_Tree u.Kids))],.arr 0 1 (List.map (rowA rowI) s1)]),[],none,false⟩) h (by first | rfl | (simp only [go_sem,hE5,hE7,hE12,hE13,yl,b1,b3,b5,b4,f7,f7s,f6s,f67,fd,hx,hp,g0,gk,s0,sk,t0,tk,tx,lt,lE,lE0]; done) | (simp only [go_sem,hE5,hE7,hE12,hE13,yl,b1,b3,b5,b4,f7,f7s,f6s,f67,fd,hx,hp,g0,gk,s0,sk,t0,tk,tx,lt,lE,lE0]; rfl)) (by first | rfl | (simp only [go_sem,hE5,hE7,hE12,hE13,yl,b1,b3,b5,b4,f7,f7s,f6s,f67,fd,hx,hp,g0,gk,s0,sk,t0,tk,tx,lt,lE,lE0]; done) | (simp only [go_sem,hE5,hE7,hE12,hE13,yl,b1,b3,b5,b4,f7,f7s,f6s,f67,fd,hx,hp,g0,gk,s0,sk,t0,tk,tx,lt,lE,lE0]; rfl)) (fun _ _=>rfl) ?_ ?_ ?_
 ·intro s1 h
  try dsimp only at h ⊢
  simp only [go_sem,hE5,hE7,hE12,hE13,yl,b1,b3,b5,b4,f7,f7s,f6s,f67,fd,hx,hp,g0,gk,s0,sk,t0,tk,tx,lt,lE,lE0]
  refine run_rangeL (c:=L81_4) (live:=[5,7,12,13,14,17,99,100,101]) (by simp only [go_sem]) (M:=fun i2 (s2:(List Int))=>[(5,.ptr 1 0),(7,.ptr 3 0),(12,.ptr 5 0),(13,.ptr 7 0),(14,.p (iv i)),(17,.ms (σ.length + 1) 0 1 0 ((a.States).toNat)),(99,.p (.sl none 3 (List.map row_Rule a.Rules))),(100,.p (iv (a.Rules.length:Int))),(101,.p (iv (i2:Int)))]) (Z:=fun i2 (s2:(List Int))=>((yS σ (some ((g + 1),v5,(v2 + 1)),[.p (iv tb.a.States),.p (.sl none 1 (List.map rowI tb.a.Final)),.p (.sl none 3 (List.map row_Rule tb.a.Rules)),.p (iv tb.w.Relabel),.p (iv tb.w.Remove),.p (iv tb.w.Insert),.p (.sl none 1 (List.map rowI tb.size)),.own 1 (List.map (rowL 1 rowI) tb.cost),.own 1 (List.map (rowL 1 rowI) v4),.own 2 (List.map row_Tree v1)])) ++ [.cells [.p (iv u.Sym),.p (.sl none 2 (List.map row_Tree u.Kids))],.arr 0 1 (List.map (rowA rowI) s2)])) (N:=fun (s2:(List Int))=>⟨[(5,.ptr 1 0),(7,.ptr 3 0),(12,.ptr 5 0),(13,.ptr 7 0),(17,.ms (σ.length + 1) 0 1 0 ((a.States).toNat))],((yS σ (some ((g + 1),v5,(v2 + 1)),[.p (iv tb.a.States),.p (.sl none 1 (List.map rowI tb.a.Final)),.p (.sl none 3 (List.map row_Rule tb.a.Rules)),.p (iv tb.w.Relabel),.p (iv tb.w.Remove),.p (iv tb.w.Insert),.p (.sl none 1 (List.map rowI tb.size)),.own 1 (List.map (rowL 1 rowI) tb.cost),.own 1 (List.map (rowL 1 rowI) v4),.own 2 (List.map row_Tree v1)])) ++ [.cells [.p (iv u.Sym),.p (.sl none 2 (List.map row_Tree u.Kids))],.arr 0 1 (List.map (rowA rowI) s2)]),[],none,false⟩) h (by first | rfl | (simp only [go_sem,hE5,hE7,hE12,hE13,yl,b1,b3,b5,b4,f7,f7s,f6s,f67,fd,hx,hp,g0,gk,s0,sk,t0,tk,tx,lt,lE,lE0]; done) | (simp only [go_sem,hE5,hE7,hE12,hE13,yl,b1,b3,b5,b4,f7,f7s,f6s,f67,fd,hx,hp,g0,gk,s0,sk,t0,tk,tx,lt,lE,lE0]; rfl)) (by first | rfl | (simp only [go_sem,hE5,hE7,hE12,hE13,yl,b1,b3,b5,b4,f7,f7s,f6s,f67,fd,hx,hp,g0,gk,s0,sk,t0,tk,tx,lt,lE,lE0]; done) | (simp only [go_sem,hE5,hE7,hE12,hE13,yl,b1,b3,b5,b4,f7,f7s,f6s,f67,fd,hx,hp,g0,gk,s0,sk,t0,tk,tx,lt,lE,lE0]; rfl)) (fun _ _=>rfl) ?_ ?_ ?_
  ·intro s2 h
   try dsimp only at h ⊢
   obtain ⟨v8,e_v8,h⟩:=ob h
   have e_v8a:=(allM_some e_v8).1
   have e_v8b:=(allM_some e_v8).2
   try simp only [Nat.zero_add] at e_v8a
   try simp only [List.drop_zero] at e_v8b
   obtain ⟨v9,e_v9,h⟩:=ob h
   have e_v9a:boundOk (tb.cost.length + 1) 24 = true:=bnd_of (by have:=(app_some e_v9).1; simpa using this) (by decide)
   have e_v9b:(List.map (rowL 1 rowI) tb.cost) ++ [[.sl none 1 (List.map rowI v8)]] = List.map (rowL 1 rowI) v9:=by rw [(app_some e_v9).2]; simp [rowI,rowL]
   simp only [go_sem,e_v8a,e_v8b,e_v9a,e_v9b,hE5,hE7,hE12,hE13,yl,b1,b3,b5,b4,f7,f7s,f6s,f67,fd,hx,hp,g0,gk,s0,sk,t0,tk,tx,lt,lE,lE0]
   injection h with h; subst h
   exact hK _ _
  ·intro K2 s2 hb2 he2
   try dsimp only
   conv=>arg 1; arg 7; unfold L81_4 loopAt S22.c81 Try.f81; simp only [loopIn,Option.getD_some,if_true]
   simp only [go_sem,he2,hE5,hE7,hE12,hE13,yl,b1,b3,b5,b4,f7,f7s,f6s,f67,fd,hx,hp,g0,gk,s0,sk,t0,tk,tx,lt,lE,lE0]
   exact hb2
  ·intro K2 k2 i2 x2 s2 n2 hR2 hE2 hb2 hx2 hi2 hw2 ih2 h
   try dsimp only at h ⊢
   conv=>arg 1; arg 7; unfold L81_4 loopAt S22.c81 Try.f81; simp only [loopIn,Option.getD_some,if_true]
   obtain ⟨v10,e_v10,h⟩:=ob h
   obtain ⟨e_v10a,e_v10b,e_v10d⟩:=idxM_some e_v10
   obtain ⟨v11,e_v11,h⟩:=ob h
   have e_v11c:call Try.prog T H (.fn 83) [.ptr 4 0,.p (.agg [iv x2.Sym,.sl none 1 (List.map rowI x2.From),iv x2.To]),.p (iv i)] ((yS σ (some ((g + 1),v5,(v2 + 1)),[.p (iv tb.a.States),.p (.sl none 1 (List.map rowI tb.a.Final)),.p (.sl none 3 (List.map row_Rule tb.a.Rules)),.p (iv tb.w.Relabel),.p (iv tb.w.Remove),.p (iv tb.w.Insert),.p (.sl none 1 (List.map rowI tb.size)),.own 1 (List.map (rowL 1 rowI) tb.cost),.own 1 (List.map (rowL 1 rowI) v4),.own 2 (List.map row_Tree v1)])) ++ [.cells [.p (iv u.Sym),.p (.sl none 2 (List.map row_Tree u.Kids))],.arr 0 1 (List.map (rowA rowI) s2),.cells [.p (iv x2.Sym),.p (.sl none 1 (List.map rowI x2.From)),.p (iv x2.To)]]) = some (.ret (.p (iv v11)),((yS σ (some ((g + 1),v5,(v2 + 1)),[.p (iv tb.a.States),.p (.sl none 1 (List.map rowI tb.a.Final)),.p (.sl none 3 (List.map row_Rule tb.a.Rules)),.p (iv tb.w.Relabel),.p (iv tb.w.Remove),.p (iv tb.w.Insert),.p (.sl none 1 (List.map rowI tb.size)),.own 1 (List.map (rowL 1 rowI) tb.cost),.own 1 (List.map (rowL 1 rowI) v4),.own 2 (List.map row_Tree v1)])) ++ [.cells [.p (iv u.Sym),.p (.sl none 2 (List.map row_Tree u.Kids))],.arr 0 1 (List.map (rowA rowI) s2),.cells [.p (iv x2.Sym),.p (.sl none 1 (List.map rowI x2.From)),.p (iv x2.To)]])):=by have q:=spec83_wxx ((yS σ (some ((g + 1),v5,(v2 + 1)),[.p (iv tb.a.States),.p (.sl none 1 (List.map rowI tb.a.Final)),.p (.sl none 3 (List.map row_Rule tb.a.Rules)),.p (iv tb.w.Relabel),.p (iv tb.w.Remove),.p (iv tb.w.Insert),.p (.sl none 1 (List.map rowI tb.size)),.own 1 (List.map (rowL 1 rowI) tb.cost),.own 1 (List.map (rowL 1 rowI) v4),.own 2 (List.map row_Tree v1)])) ++ [.cells [.p (iv u.Sym),.p (.sl none 2 (List.map row_Tree u.Kids))],.arr 0 1 (List.map (rowA rowI) s2),.cells [.p (iv x2.Sym),.p (.sl none 1 (List.map rowI x2.From)),.p (iv x2.To)]]) 4 (by simp only [yl,List.length_append,List.length_set,List.length_cons,List.length_nil]; omega) (repair_table.mk tb.a tb.w tb.size tb.cost v4 v1) x2 i v11 e_v11; first | (simp only [go_sem,hE5,hE7,hE12,hE13,yl,b1,b3,b5,b4,f7,f7s,f6s,f67,fd,hx,hp,g0,gk,s0,sk,t0,tk,tx,lt,lE,lE0] at q ⊢; exact q) | exact q
   obtain ⟨v12,e_v12,h⟩:=ob h
   have e_v12c:=spec76 v10 v11 v12 e_v12
   have e_y1:List.set (List.map (rowA rowI) s2) ((x2.To).toNat) [.p (iv v12)] = List.map (rowA rowI) (List.set s2 ((x2.To).toNat) v12):=map_set' (by first | rfl | simp only [go_sem,List.map_cons,List.map_nil])
   simp only [go_sem,hx2,hi2,hw2,e_v10a,e_v10b,e_v10d,e_v11c,e_v12c,e_y1,hR2,hE2,hE5,hE7,hE12,hE13,yl,b1,b3,b5,b4,f7,f7s,f6s,f67,fd,hx,hp,g0,gk,s0,sk,t0,tk,tx,lt,lE,lE0]
   exact ih2 (List.set s2 ((x2.To).toNat) v12) h
 ·intro K1 i1 s1 hb1 he1
  try dsimp only
  conv=>arg 1; arg 7; unfold L81_2 loopAt S22.c81 Try.f81; simp only [loopIn,Option.getD_some,if_true]
  simp only [go_sem,he1,hE5,hE7,hE12,hE13,yl,b1,b3,b5,b4,f7,f7s,f6s,f67,fd,hx,hp,g0,gk,s0,sk,t0,tk,tx,lt,lE,lE0]
  exact hb1
 ·intro K1 k1 i1 s1 n1 hR1 hE1 hb1 hi1 hw1 ih1 h
  try dsimp only at h ⊢
  conv=>arg 1; arg 7; unfold L81_2 loopAt S22.c81 Try.f81; simp only [loopIn,Option.getD_some,if_true]
  obtain ⟨v13,e_v13,h⟩:=ob h
  have e_v13c:call Try.prog T H (.fn 98) [.ptr 4 0,.p (iv (i1:Int))] ((yS σ (some ((g + 1),v5,(v2 + 1)),[.p (iv tb.a.States),.p (.sl none 1 (List.map rowI tb.a.Final)),.p (.sl none 3 (List.map row_Rule tb.a.Rules)),.p (iv tb.w.Relabel),.p (iv tb.w.Remove),.p (iv tb.w.Insert),.p (.sl none 1 (List.map rowI tb.size)),.own 1 (List.map (rowL 1 rowI) tb.cost),.own 1 (List.map (rowL 1 rowI) v4),.own 2 (List.map row_Tree v1)])) ++ [.cells [.p (iv u.Sym),.p (.sl none 2 (List.map row_Tree u.Kids))],.arr 0 1 (List.map (rowA rowI) s1)]) = some (.ret (.p (iv v13)),((yS σ (some ((g + 1),v5,(v2 + 1)),[.p (iv tb.a.States),.p (.sl none 1 (List.map rowI tb.a.Final)),.p (.sl none 3 (List.map row_Rule tb.a.Rules)),.p (iv tb.w.Relabel),.p (iv tb.w.Remove),.p (iv tb.w.Insert),.p (.sl none 1 (List.map rowI tb.size)),.own 1 (List.map (rowL 1 rowI) tb.cost),.own 1 (List.map (rowL 1 rowI) v4),.own 2 (List.map row_Tree v1)])) ++ [.cells [.p (iv u.Sym),.p (.sl none 2 (List.map row_Tree u.Kids))],.arr 0 1 (List.map (rowA rowI) s1)])):=by have q:=spec98_wx ((yS σ (some ((g + 1),v5,(v2 + 1)),[.p (iv tb.a.States),.p (.sl none 1 (List.map rowI tb.a.Final)),.p (.sl none 3 (List.map row_Rule tb.a.Rules)),.p (iv tb.w.Relabel),.p (iv tb.w.Remove),.p (iv tb.w.Insert),.p (.sl none 1 (List.map rowI tb.size)),.own 1 (List.map (rowL 1 rowI) tb.cost),.own 1 (List.map (rowL 1 rowI) v4),.own 2 (List.map row_Tree v1)])) ++ [.cells [.p (iv u.Sym),.p (.sl none 2 (List.map row_Tree u.Kids))],.arr 0 1 (List.map (rowA rowI) s1)]) 4 (by simp only [yl,List.length_append,List.length_set,List.length_cons,List.length_nil]; omega) (repair_table.mk tb.a tb.w tb.size tb.cost v4 v1) (i1:Int) v13 e_v13; first | (simp only [go_sem,hE5,hE7,hE12,hE13,yl,b1,b3,b5,b4,f7,f7s,f6s,f67,fd,hx,hp,g0,gk,s0,sk,t0,tk,tx,lt,lE,lE0] at q ⊢; exact q) | exact q
  obtain ⟨v14,e_v14,h⟩:=ob h
  have e_v14c:call Try.prog T H (.fn 76) [.p (iv (w64 ((w64 (w.Remove * v7)) + v13))),.p (iv 2199023255552)] [] = some (.ret (.p (iv v14)),[]):=spec76 (w64 ((w64 (w.Remove * v7)) + v13)) 2199023255552 v14 e_v14
  obtain ⟨v15,e_v15,h⟩:=ob h
  obtain ⟨e_v15a,e_v15b,e_v15d⟩:=idxM_some e_v15
  simp only [Int.toNat_natCast] at e_v15b
  simp only [Int.toNat_natCast] at e_v15d
  have e_y2:List.set (List.map (rowA rowI) s1) i1 [.p (iv v14)] = List.map (rowA rowI) (List.set s1 i1 v14):=map_set' (by first | rfl | simp only [go_sem,List.map_cons,List.map_nil])
  simp only [go_sem,hi1,hw1,e_v13c,e_v14c,e_v15b,e_v15d,e_y2,hR1,hE1,hE5,hE7,hE12,hE13,yl,b1,b3,b5,b4,f7,f7s,f6s,f67,fd,hx,hp,g0,gk,s0,sk,t0,tk,tx,lt,lE,lE0]
  exact ih1 (List.set s1 i1 v14) h
end Tab
end Go.AM.S22

namespace Go.AM.S22
set_option maxRecDepth 100000
set_option maxHeartbeats 4000000
set_option linter.unusedVariables false
open Go Go.Proofs Go.AM
namespace Tab
open Go Go.Proofs Go.AM
abbrev TS:=PS×repair_table
def stp (n:Nat) (a:Automaton) (w:repair_Weights) (i:Int) (u:Tree):TS→Option TS
 | (none,tb)=>(tabRow0 n a w tb i u).bind fun r=>some (some (1,r.1.1,r.1.2),r.2)
 | (some (g,o,l),tb)=>(tabRow n a w tb i u o l).bind fun r=>some (some (g + 1,r.1.1,r.1.2),r.2)
def zS (σ:List AObj) (s:TS):List AObj:=yS σ (s.1,xc s.2)
structure WF (E:Env) (a:Automaton) (w:repair_Weights) (σ:List AObj):Prop where
 len:13≤σ.length
 o1:σ[1]? = some (.cells [.p (iv a.States),.p (.sl none 1 (List.map rowI a.Final)),.p (.sl none 3 (List.map row_Rule a.Rules))])
 o3:σ[3]? = some (.cells [.p (iv w.Relabel),.p (iv w.Remove),.p (iv w.Insert)])
 o5:σ[5]? = some (.cells [.ptr 4 0])
 o9:σ[9]? = some (.loop 0 none 131 81 E [38,39] A81_0 B81_0)
 o10:σ[10]? = some (.cells [.yld 9])
 o12:σ[12]? = some (.cells [.fn 65 [.ptr 12 0,.ptr 11 0,.ptr 10 0]])
def wS (σ:List AObj) (s:TS×Int):List AObj:=zS (σ.set 11 (.cells [.p (iv s.2)])) s.1
theorem zS_len (σ:List AObj) (s:TS):(zS σ s).length = σ.length:=yS_len σ _
theorem wS_len (σ:List AObj) (s:TS×Int):(wS σ s).length = σ.length:=by unfold wS; rw [zS_len,List.length_set]
theorem wS_get (σ:List AObj) (s:TS×Int) {i:Nat} (h:i≠4∧i≠6∧i≠7∧i≠11):(wS σ s)[i]? = σ[i]?:=by
 unfold wS zS; rw [yS_get _ _ ⟨h.1,h.2.1,h.2.2.1⟩,List.getElem?_set_ne (by omega)]
theorem wS_11 {σ:List AObj} (s:TS×Int) (h:13≤σ.length):(wS σ s)[11]? = some (.cells [.p (iv s.2)]):=by
 unfold wS zS; rw [yS_get _ _ (by decide),List.getElem?_set_self (by omega)]
theorem wS_set11 (σ:List AObj) (s:TS×Int) (m:Int):(wS σ s).set 11 (.cells [.p (iv m)]) = wS σ (s.1,m):=by
 unfold wS zS yS
 simp only []
 rw [List.set_comm _ _ (by decide:4≠11),List.set_comm _ _ (by decide:7≠11),List.set_comm _ _ (by decide:6≠11),List.set_set]
theorem wS_app {σ:List AObj} (s:TS×Int) (h:13≤σ.length) (l:List AObj):wS σ s ++ l = wS (σ ++ l) s:=by
 unfold wS zS
 rw [yS_app _ (by simp; omega),List.set_append_left _ _ (by omega)]
theorem WF.app {E:Env} {a:Automaton} {w:repair_Weights} {σ:List AObj} (h:WF E a w σ) (l:List AObj):WF E a w (σ ++ l) where
 len:=by rw [List.length_append]; have:=h.len; omega
 o1:=by rw [List.getElem?_append_left (by have:=h.len; omega)]; exact h.o1
 o3:=by rw [List.getElem?_append_left (by have:=h.len; omega)]; exact h.o3
 o5:=by rw [List.getElem?_append_left (by have:=h.len; omega)]; exact h.o5
 o9:=by rw [List.getElem?_append_left (by have:=h.len; omega)]; exact h.o9
 o10:=by rw [List.getElem?_append_left (by have:=h.len; omega)]; exact h.o10
 o12:=by rw [List.getElem?_append_left (by have:=h.len; omega)]; exact h.o12
theorem set_back {α:Type} {l:List α} {i:Nat} {a:α} (h:l[i]? = some a):l.set i a = l:=by
 apply List.ext_getElem?
 intro j
 by_cases e:i = j
 ·subst e
  have:=(List.getElem?_eq_some_iff.mp h).1
  rw [List.getElem?_set_self this,h]
 ·rw [List.getElem?_set_ne e]
theorem yld_spec {E:Env} (hE5:get E 5 = .ptr 1 0) (hE7:get E 7 = .ptr 3 0) (hE12:get E 12 = .ptr 5 0) (hE13:get E 13 = .ptr 7 0) (hEl:∀ t,ltV 9 (get E t) = true) (n:Nat) (a:Automaton) (w:repair_Weights) {σ:List AObj} (wf:WF E a w σ) (u:Tree) (s:TS×Int) (p:TS) (i:Int) (h:stp n a w i u s.1 = some p) (l:List AObj) :
 call Try.prog T H (.yld 9) [.p (iv i),.p (.agg [iv u.Sym,.sl none 2 (List.map row_Tree u.Kids)])] (wS σ s ++ l) = some (.ret (.p (bv true)),wS σ (p,s.2) ++ l):=by
 refine Sat.fn fun Q hQ=>?_
 have hl:=wf.len
 have e1:∀ q:TS,wS σ (q,s.2) ++ l = zS (σ.set 11 (.cells [.p (iv s.2)]) ++ l) q:=fun q=>by unfold wS zS; rw [yS_app _ (by simp; omega)]
 have e1s:wS σ s ++ l = zS (σ.set 11 (.cells [.p (iv s.2)]) ++ l) s.1:=e1 s.1
 rw [e1s]
 rw [e1 p] at hQ
 have gg:∀ i,i≠11→i < 13→(σ.set 11 (.cells [.p (iv s.2)]) ++ l)[i]? = σ[i]?:=fun i h1 h2=>by rw [List.getElem?_append_left (by simp; omega),List.getElem?_set_ne (Ne.symm h1)]
 have r9:(σ.set 11 (.cells [.p (iv s.2)]) ++ l)[9]? = some (.loop 0 none 131 81 E [38,39] A81_0 B81_0):=by rw [gg _ (by decide) (by decide)]; exact wf.o9
 have r1:(σ.set 11 (.cells [.p (iv s.2)]) ++ l)[1]? = some (.cells [.p (iv a.States),.p (.sl none 1 (List.map rowI a.Final)),.p (.sl none 3 (List.map row_Rule a.Rules))]):=by rw [gg _ (by decide) (by decide)]; exact wf.o1
 have r3:(σ.set 11 (.cells [.p (iv s.2)]) ++ l)[3]? = some (.cells [.p (iv w.Relabel),.p (iv w.Remove),.p (iv w.Insert)]):=by rw [gg _ (by decide) (by decide)]; exact wf.o3
 have r5:(σ.set 11 (.cells [.p (iv s.2)]) ++ l)[5]? = some (.cells [.ptr 4 0]):=by rw [gg _ (by decide) (by decide)]; exact wf.o5
 have rl:10≤(σ.set 11 (.cells [.p (iv s.2)]) ++ l).length:=by simp; omega
 generalize σ.set 11 (.cells [.p (iv s.2)]) ++ l = ρ at r9 r1 r3 r5 rl hQ ⊢
 have y9:∀ q,(yS ρ q)[9]? = some (.loop 0 none 131 81 E [38,39] A81_0 B81_0):=fun q=>by rw [yS_get _ _ (by decide)]; exact r9
 have a9:∀ q k,(yS ρ q ++ k)[9]? = some (.loop 0 none 131 81 E [38,39] A81_0 B81_0):=fun q k=>by rw [List.getElem?_append_left (by rw [yS_len]; omega)]; exact y9 q
 have s9:∀ q k,(yS ρ q ++ k).set 9 (.loop 1 none 131 81 E [38,39] A81_0 B81_0) = yS (ρ.set 9 (.loop 1 none 131 81 E [38,39] A81_0 B81_0)) q ++ k:=fun q k=>by
  rw [List.set_append_left _ _ (by rw [yS_len]; omega)]
  unfold yS
  rw [List.set_comm _ _ (by decide:4≠9),List.set_comm _ _ (by decide:7≠9),List.set_comm _ _ (by decide:6≠9)]
 have b9:∀ q k,(yS (ρ.set 9 (.loop 1 none 131 81 E [38,39] A81_0 B81_0)) q ++ k)[9]? = some (.loop 1 none 131 81 E [38,39] A81_0 B81_0):=fun q k=>by
  rw [List.getElem?_append_left (by rw [yS_len,List.length_set]; omega),yS_get _ _ (by decide),List.getElem?_set_self (by omega)]
 have c9:∀ q k,(yS (ρ.set 9 (.loop 1 none 131 81 E [38,39] A81_0 B81_0)) q ++ k).set 9 (.loop 0 none 131 81 E [38,39] A81_0 B81_0) = yS ρ q ++ k:=fun q k=>by
  rw [List.set_append_left _ _ (by rw [yS_len,List.length_set]; omega)]
  unfold yS
  rw [List.set_comm _ _ (by decide:4≠9),List.set_comm _ _ (by decide:7≠9),List.set_comm _ _ (by decide:6≠9),List.set_set,set_back r9]
 have t9:∀ q k,(yS ρ q ++ k).take ρ.length = yS ρ q:=fun q k=>by
  rw [← yS_len ρ q,List.take_left']; rfl
 have g0:∀ s l,(yS ρ s ++ l)[ρ.length]? = l[0]?:=fun s l=>sA0 (yS_len ρ s)
 have s0:∀ s l y,(yS ρ s ++ l).set ρ.length y = yS ρ s ++ l.set 0 y:=fun s l y=>sS0 (yS_len ρ s)
 unfold zS
 rw [call_yld (h:=y9 _) (hok:=yo81_0) (hl:=rfl)]
 conv=>arg 1; arg 7; unfold A81_0 rangeA S22.c81 Try.f81; simp only [rangeIn,Option.getD_some,if_true]
 simp only [go_sem,asgK,setSt,Option.getD_none,yS_len,g0,s0,a9,s9]
 have lens:(ρ.set 9 (.loop 1 none 131 81 E [38,39] A81_0 B81_0)).length = ρ.length:=List.length_set ..
 have fin:∀ (q:TS) (env:Env) (loc:List AObj),p = q→Sat (yldK 9 ρ.length (.normal,⟨env,yS (ρ.set 9 (.loop 1 none 131 81 E [38,39] A81_0 B81_0)) (q.1,xc q.2) ++ loc,[],none,false⟩)) Q:=fun q env loc e=>by
  subst e
  rw [yldK_normal 9 ρ.length _ (setSt_eq (b9 _ loc))]
  simp only [Option.getD_some,c9,t9]
  exact Sat.ok hQ
 have o1':(ρ.set 9 (.loop 1 none 131 81 E [38,39] A81_0 B81_0))[1]? = some (.cells [.p (iv a.States),.p (.sl none 1 (List.map rowI a.Final)),.p (.sl none 3 (List.map row_Rule a.Rules))]):=by rw [List.getElem?_set_ne (by decide)]; exact r1
 have o3':(ρ.set 9 (.loop 1 none 131 81 E [38,39] A81_0 B81_0))[3]? = some (.cells [.p (iv w.Relabel),.p (iv w.Remove),.p (iv w.Insert)]):=by rw [List.getElem?_set_ne (by decide)]; exact r3
 have o5':(ρ.set 9 (.loop 1 none 131 81 E [38,39] A81_0 B81_0))[5]? = some (.cells [.ptr 4 0]):=by rw [List.getElem?_set_ne (by decide)]; exact r5
 rcases hs:s.1 with ⟨_ | ⟨g,o,m⟩,tb⟩
 ·rw [hs] at h
  unfold stp at h
  obtain ⟨r,e_r,h⟩:=ob h
  injection h with h
  have q:=tabRow0_spec hE5 hE7 hE12 hE13 hEl (σ:=ρ.set 9 (.loop 1 none 131 81 E [38,39] A81_0 B81_0)) (by rw [lens]; exact rl) n a w tb i u o1' o3' o5' r e_r (yldK 9 ρ.length) Q (fun env loc=>fin _ env loc h.symm)
  rw [lens] at q
  exact q
 ·rw [hs] at h
  unfold stp at h
  obtain ⟨r,e_r,h⟩:=ob h
  injection h with h
  have q:=tabRow_spec hE5 hE7 hE12 hE13 hEl (σ:=ρ.set 9 (.loop 1 none 131 81 E [38,39] A81_0 B81_0)) (by rw [lens]; exact rl) n a w tb i u g o m o1' o3' o5' r e_r (yldK 9 ρ.length) Q (fun env loc=>fin _ env loc h.symm)
  rw [lens] at q
  exact q
def walk (n:Nat) (a:Automaton) (w:repair_Weights):Nat→Tree→TS×Int→Option (TS×Int)
 | 0,_,_=>none
 | k + 1,t,s =>
  rangeL t.Kids s (fun _ _ x1 s1 n1=>(walk n a w k x1 s1).bind fun v=>n1 v) fun s1 =>
  (stp n a w (w64 (w64 (s1.2 + 1) - 1)) t s1.1).bind fun p=>some (p,w64 (s1.2 + 1))
theorem spec65 {E:Env} (hE5:get E 5 = .ptr 1 0) (hE7:get E 7 = .ptr 3 0) (hE12:get E 12 = .ptr 5 0) (hE13:get E 13 = .ptr 7 0) (hEl:∀ t,ltV 9 (get E t) = true) (n:Nat) (a:Automaton) (w:repair_Weights):∀ (k:Nat) (σ:List AObj) (wf:WF E a w σ) (t:Tree) (s r:TS×Int),walk n a w k t s = some r →
 call Try.prog T H (.fn 65) [.p (.agg [iv t.Sym,.sl none 2 (List.map row_Tree t.Kids)]),.ptr 12 0,.ptr 11 0,.ptr 10 0] (wS σ s) = some (.ret (.p (bv true)),wS σ r):=by
 intro k
 induction k with
 | zero=>intro σ wf t s r h; cases h
 | succ k ih =>
  intro σ wf t s r h
  refine Sat.fn fun Q hQ=>?_
  rw [walk] at h
  have hl:=wf.len
  have b11n:∀ s,(wS σ s)[11]? = some (.cells [.p (iv s.2)]):=fun s=>wS_11 _ hl
  have b11:∀ s l,(wS σ s ++ l)[11]? = some (.cells [.p (iv s.2)]):=fun s l=>by rw [List.getElem?_append_left (by rw [wS_len]; omega),wS_11 _ hl]
  have b10:∀ s l,(wS σ s ++ l)[10]? = some (.cells [.yld 9]):=fun s l=>by rw [List.getElem?_append_left (by rw [wS_len]; omega),wS_get _ _ (by decide),wf.o10]
  have b12:∀ s l,(wS σ s ++ l)[12]? = some (.cells [.fn 65 [.ptr 12 0,.ptr 11 0,.ptr 10 0]]):=fun s l=>by rw [List.getElem?_append_left (by rw [wS_len]; omega),wS_get _ _ (by decide),wf.o12]
  have bs11:∀ s l m,(wS σ s ++ l).set 11 (.cells [.p (iv m)]) = wS σ (s.1,m) ++ l:=fun s l m=>by rw [List.set_append_left _ _ (by rw [wS_len]; omega),wS_set11]
  have g0:∀ s l,(wS σ s ++ l)[σ.length]? = l[0]?:=fun s l=>sA0 (wS_len σ s)
  have gk:∀ s l k,(wS σ s ++ l)[σ.length + k]? = l[k]?:=fun s l k=>sAK (wS_len σ s)
  have s0:∀ s l y,(wS σ s ++ l).set σ.length y = wS σ s ++ l.set 0 y:=fun s l y=>sS0 (wS_len σ s)
  have sk:∀ s l y k,(wS σ s ++ l).set (σ.length + k) y = wS σ s ++ l.set k y:=fun s l y k=>sSK (wS_len σ s)
  have t0:∀ s l,(wS σ s ++ l).take σ.length = wS σ s:=fun s l=>sT0 (wS_len σ s)
  have tk:∀ s l k,(wS σ s ++ l).take (σ.length + k) = wS σ s ++ l.take k:=fun s l k=>sTK (wS_len σ s)
  have tx:∀ s,(wS σ s).take σ.length = wS σ s:=fun s=>sTX (wS_len σ s)
  have l12:∀ k,12 < σ.length + k∧11 < σ.length + k∧10 < σ.length + k:=fun k=>by omega
  rw [call65]
  conv=>arg 1; arg 7; unfold S22.c65 Try.f65; simp only [Option.getD_some]
  simp only [go_sem,wS_len,b11,b11n,b10,b12,bs11,g0,gk,s0,sk,t0,tk,tx]
  refine run_rangeL (c:=L65_0) (live:=[1,2,3,4,9,10,11]) (by simp only [go_sem]) (M:=fun i1 (s1:TS×Int)=>[(1,.ptr 12 0),(2,.ptr 11 0),(3,.ptr 10 0),(4,.ptr σ.length 0),(9,.p (.sl none 2 (List.map row_Tree t.Kids))),(10,.p (iv (t.Kids.length:Int))),(11,.p (iv (i1:Int)))]) (Z:=fun i1 s1=>wS σ s1 ++ [.cells [.p (iv t.Sym),.p (.sl none 2 (List.map row_Tree t.Kids))]]) (N:=fun s1=>⟨[(2,.ptr 11 0),(3,.ptr 10 0),(4,.ptr σ.length 0)],wS σ s1 ++ [.cells [.p (iv t.Sym),.p (.sl none 2 (List.map row_Tree t.Kids))]],[],none,false⟩) h rfl rfl (fun _ _=>rfl) ?_ ?_ ?_
  ·intro s1 h
   try dsimp only at h ⊢
   obtain ⟨p,e_p,h⟩:=ob h
   injection h with h; subst h
   have yy:∀ l,call Try.prog T H (.yld 9) [.p (iv (w64 (w64 (s1.2 + 1) - 1))),.p (.agg [iv t.Sym,.sl none 2 (List.map row_Tree t.Kids)])] (wS σ (s1.1,w64 (s1.2 + 1)) ++ l) = some (.ret (.p (bv true)),wS σ (p,w64 (s1.2 + 1)) ++ l):=fun l=>yld_spec hE5 hE7 hE12 hE13 hEl n a w wf t (s1.1,w64 (s1.2 + 1)) p _ e_p l
   simp only [go_sem,wS_len,b11,b11n,b10,b12,bs11,g0,gk,s0,sk,t0,tk,tx,yy]
   exact Sat.ok hQ
  ·intro K1 s1 hb1 he1
   try dsimp only
   conv=>arg 1; arg 7; unfold L65_0 loopAt S22.c65 Try.f65; simp only [loopIn,Option.getD_some,if_true]
   simp only [go_sem,he1,wS_len,b11,b11n,b10,b12,bs11,g0,gk,s0,sk,t0,tk,tx,l12]
   exact hb1
  ·intro K1 k1 i1 x1 s1 n1 hR1 hE1 hb1 hx1 hi1 hw1 ih1 h
   try dsimp only at h ⊢
   conv=>arg 1; arg 7; unfold L65_0 loopAt S22.c65 Try.f65; simp only [loopIn,Option.getD_some,if_true]
   obtain ⟨v2,e_v2,h⟩:=ob h
   have e_v2c:∀ l,call Try.prog T H (.fn 65) [.p (.agg [iv x1.Sym,.sl none 2 (List.map row_Tree x1.Kids)]),.ptr 12 0,.ptr 11 0,.ptr 10 0] (wS σ s1 ++ l) = some (.ret (.p (bv true)),wS σ v2 ++ l):=fun l=>by
    have q:=ih (σ ++ l) (wf.app l) x1 s1 v2 e_v2
    rw [← wS_app _ hl,← wS_app _ hl] at q
    exact q
   simp only [go_sem,hx1,hi1,hw1,e_v2c,hR1,hE1,wS_len,b11,b11n,b10,b12,bs11,g0,gk,s0,sk,t0,tk,tx,l12]
   exact ih1 v2 h
end Tab
theorem Sat.callrange {n:Nat} {K:Ex×S→Option (Out×List AObj)} {Q:Out×List AObj→Prop} {s:S} {d:Option Nat} {A:Option (Out×List AObj)} (h:Sat A (fun y=>Sat (rangeK n K (some (endCall s d y.2 y.1))) Q)) :
 Sat (rangeK n K (callR s d A)) Q:=by
 obtain ⟨⟨o,σ⟩,rfl,h2⟩:=h
 exact h2
end Go.AM.S22

namespace Go.AM.S22
open Go Go.Proofs Go.AM
set_option maxRecDepth 100000
def law22_awake (n:Nat):Option Bool:=some true
theorem aw9:callK Try.prog T H 400 (.fn 9) [] [] = some (.ret (.p (bv true)),[]):=by kernel_rfl
theorem spec9 (n:Nat) (r:Bool) (h:law22_awake n = some r):call Try.prog T H (.fn 9) [] [] = some (.ret (.p (bv r)),[]):=by
 injection h with h
 subst h
 exact call_le 400 _ _ _ _ aw9
end Go.AM.S22

namespace Go.AM.S22
open Go Go.Proofs Go.AM
set_option maxRecDepth 100000
set_option linter.unusedVariables false
set_option maxHeartbeats 4000000
def repair_tableOf (n:Nat) (a0:Alphabet) (a1:Automaton) (a2:Tree) (a3:repair_Weights):Option (repair_table×Int) :=
 (empty_Sizes a0 a1).bind fun v1 =>
 if v1.2 = 0 then
  (Tab.walk n a1 a3 n a2 ((none,(repair_table.mk a1 a3 v1.1 ([]:List (List Int)) ([]:List (List Int)) ([]:List Tree))),0)).bind fun v =>
  (v.1.1).bind fun w =>
  some (v.1.2,0)
 else
  none
theorem spec81 (n:Nat) (a0:Alphabet) (a1:Automaton) (a2:Tree) (a3:repair_Weights) (r:repair_table×Int) (h:repair_tableOf n a0 a1 a2 a3 = some r) :
 call Try.prog T H (.fn 81) [.p (.agg [.sl none 1 (List.map rowI a0.Ranks)]),.p (.agg [iv a1.States,.sl none 1 (List.map rowI a1.Final),.sl none 3 (List.map row_Rule a1.Rules)]),.p (.agg [iv a2.Sym,.sl none 2 (List.map row_Tree a2.Kids)]),.p (.agg [iv a3.Relabel,iv a3.Remove,iv a3.Insert])] [] = some (.ret (.p (.tup [.pp [iv r.1.a.States,.sl none 1 (List.map rowI r.1.a.Final),.sl none 3 (List.map row_Rule r.1.a.Rules),iv r.1.w.Relabel,iv r.1.w.Remove,iv r.1.w.Insert,.sl none 1 (List.map rowI r.1.size),.sl none 1 (List.map (rowL 1 rowI) r.1.cost),.sl none 1 (List.map (rowL 1 rowI) r.1.kids),.sl none 2 (List.map row_Tree r.1.tree)],iv r.2])),[]):=by
 refine Sat.fn fun Q hQ=>?_
 unfold repair_tableOf at h
 rw [call81,cf81]
 conv=>arg 1; arg 7; unfold S22.c81 Try.f81; simp only [Option.getD_some,foldR,if_true]
 obtain ⟨v1,e_v1,h⟩:=ob h
 have e_v1c:=spec37 a0 a1 v1 e_v1
 by_cases c1:v1.2 = 0
 ·have h:=iteT h c1
  have c1b:(v1.2 != 0) = false:=bneF c1
  simp only [go_sem,e_v1c,c1b]
  refine Sat.callc ?_
  rw [call30]
  conv=>arg 1; arg 7; unfold S22.c30 Try.f30; simp only [Option.getD_some]
  simp only [go_sem]
  refine Sat.ok ?_
  obtain ⟨v,e_v,h⟩:=ob h
  obtain ⟨w,e_w,h⟩:=ob h
  simp only [go_sem,e_v1c,c1b]
  have q:∀ E c0 c2 c8,get E 5 = .ptr 1 0→get E 7 = .ptr 3 0→get E 12 = .ptr 5 0→get E 13 = .ptr 7 0→ltVis 9 E = true→call Try.prog T H (.fn 65) [.p (.agg [iv a2.Sym,.sl none 2 (List.map row_Tree a2.Kids)]),.ptr 12 0,.ptr 11 0,.ptr 10 0] [c0,.cells [.p (iv a1.States),.p (.sl none 1 (List.map rowI a1.Final)),.p (.sl none 3 (List.map row_Rule a1.Rules))],c2,.cells [.p (iv a3.Relabel),.p (iv a3.Remove),.p (iv a3.Insert)],.cells [.p (iv a1.States),.p (.sl none 1 (List.map rowI a1.Final)),.p (.sl none 3 (List.map row_Rule a1.Rules)),.p (iv a3.Relabel),.p (iv a3.Remove),.p (iv a3.Insert),.p (.sl none 1 (List.map rowI v1.1)),.own 1 [],.own 1 [],.own 2 []],.cells [.ptr 4 0],.dead,.cells [.nms 6 1],c8,.loop 0 none 131 81 E [38,39] A81_0 B81_0,.cells [.yld 9],.cells [.p (iv 0)],.cells [.fn 65 [.ptr 12 0,.ptr 11 0,.ptr 10 0]]] = some (.ret (.p (bv true)),[c0,.cells [.p (iv a1.States),.p (.sl none 1 (List.map rowI a1.Final)),.p (.sl none 3 (List.map row_Rule a1.Rules))],c2,.cells [.p (iv a3.Relabel),.p (iv a3.Remove),.p (iv a3.Insert)],.cells [.p (iv v.1.2.a.States),.p (.sl none 1 (List.map rowI v.1.2.a.Final)),.p (.sl none 3 (List.map row_Rule v.1.2.a.Rules)),.p (iv v.1.2.w.Relabel),.p (iv v.1.2.w.Remove),.p (iv v.1.2.w.Insert),.p (.sl none 1 (List.map rowI v.1.2.size)),.own 1 (List.map (rowL 1 rowI) v.1.2.cost),.own 1 (List.map (rowL 1 rowI) v.1.2.kids),.own 2 (List.map row_Tree v.1.2.tree)],.cells [.ptr 4 0],.arr w.1 1 (List.map (rowA rowI) w.2.1),.cells [.ms 6 w.1 1 0 w.2.2],c8,.loop 0 none 131 81 E [38,39] A81_0 B81_0,.cells [.yld 9],.cells [.p (iv v.2)],.cells [.fn 65 [.ptr 12 0,.ptr 11 0,.ptr 10 0]]]):=fun E c0 c2 c8 h5 h7 h12 h13 hE=>by
   have q:=Tab.spec65 h5 h7 h12 h13 (ltVis_iff.1 hE) n a1 a3 n [c0,.cells [.p (iv a1.States),.p (.sl none 1 (List.map rowI a1.Final)),.p (.sl none 3 (List.map row_Rule a1.Rules))],c2,.cells [.p (iv a3.Relabel),.p (iv a3.Remove),.p (iv a3.Insert)],.cells [.p (iv a1.States),.p (.sl none 1 (List.map rowI a1.Final)),.p (.sl none 3 (List.map row_Rule a1.Rules)),.p (iv a3.Relabel),.p (iv a3.Remove),.p (iv a3.Insert),.p (.sl none 1 (List.map rowI v1.1)),.own 1 [],.own 1 [],.own 2 []],.cells [.ptr 4 0],.dead,.cells [.nms 6 1],c8,.loop 0 none 131 81 E [38,39] A81_0 B81_0,.cells [.yld 9],.cells [.p (iv 0)],.cells [.fn 65 [.ptr 12 0,.ptr 11 0,.ptr 10 0]]] ⟨by simp,rfl,rfl,rfl,rfl,rfl,rfl⟩ a2 ((none,(repair_table.mk a1 a3 v1.1 ([]:List (List Int)) ([]:List (List Int)) ([]:List Tree))),0) v e_v
   have e1:Tab.wS [c0,.cells [.p (iv a1.States),.p (.sl none 1 (List.map rowI a1.Final)),.p (.sl none 3 (List.map row_Rule a1.Rules))],c2,.cells [.p (iv a3.Relabel),.p (iv a3.Remove),.p (iv a3.Insert)],.cells [.p (iv a1.States),.p (.sl none 1 (List.map rowI a1.Final)),.p (.sl none 3 (List.map row_Rule a1.Rules)),.p (iv a3.Relabel),.p (iv a3.Remove),.p (iv a3.Insert),.p (.sl none 1 (List.map rowI v1.1)),.own 1 [],.own 1 [],.own 2 []],.cells [.ptr 4 0],.dead,.cells [.nms 6 1],c8,.loop 0 none 131 81 E [38,39] A81_0 B81_0,.cells [.yld 9],.cells [.p (iv 0)],.cells [.fn 65 [.ptr 12 0,.ptr 11 0,.ptr 10 0]]] v = [c0,.cells [.p (iv a1.States),.p (.sl none 1 (List.map rowI a1.Final)),.p (.sl none 3 (List.map row_Rule a1.Rules))],c2,.cells [.p (iv a3.Relabel),.p (iv a3.Remove),.p (iv a3.Insert)],.cells [.p (iv v.1.2.a.States),.p (.sl none 1 (List.map rowI v.1.2.a.Final)),.p (.sl none 3 (List.map row_Rule v.1.2.a.Rules)),.p (iv v.1.2.w.Relabel),.p (iv v.1.2.w.Remove),.p (iv v.1.2.w.Insert),.p (.sl none 1 (List.map rowI v.1.2.size)),.own 1 (List.map (rowL 1 rowI) v.1.2.cost),.own 1 (List.map (rowL 1 rowI) v.1.2.kids),.own 2 (List.map row_Tree v.1.2.tree)],.cells [.ptr 4 0],.arr w.1 1 (List.map (rowA rowI) w.2.1),.cells [.ms 6 w.1 1 0 w.2.2],c8,.loop 0 none 131 81 E [38,39] A81_0 B81_0,.cells [.yld 9],.cells [.p (iv v.2)],.cells [.fn 65 [.ptr 12 0,.ptr 11 0,.ptr 10 0]]]:=by unfold Tab.wS Tab.zS Tab.yS; rw [e_w]; rfl
   rw [e1] at q; exact q
  refine Sat.callrange ?_
  rw [call64]
  conv=>arg 1; arg 7; unfold S22.c64 Try.f64; simp only [Option.getD_some]
  simp only [go_sem,q,ltVis,List.all_cons,List.all_nil]
  refine Sat.ok ?_
  try simp only [go_sem,rangeK_ok,atLoop_some,pendK_none]
  try simp only [go_sem,e_v1c,c1b]
  injection h with h; subst h
  exact Sat.ok hQ
 ·have h:=iteF h c1
  have c1b:(v1.2 != 0) = true:=bneT c1
  cases h
def repair_table_best_p (a0:repair_table):Option (Int×Int) :=
 rangeL a0.a.Final ((-1),0) (fun k1 i1 x1 (s1:Int×Int) n1 =>
  (idx a0.size x1).bind fun v1 =>
  if 0 < v1 then
   if s1.1 < 0 then
    (idx a0.cost (w64 ((a0.cost.length:Int) - 1))).bind fun v2 =>
    (idx v2 x1).bind fun v3 =>
    n1 (x1,v3)
   else
    (idx a0.cost (w64 ((a0.cost.length:Int) - 1))).bind fun v4 =>
    (idx v4 x1).bind fun v5 =>
    if v5 < s1.2 then
     n1 (x1,v5)
    else
     n1 (s1.1,s1.2)
  else
   n1 (s1.1,s1.2)) fun s1 =>
 some (s1.1,s1.2)
theorem spec82_p (σ:List AObj) (a0:repair_table) (r:Int×Int) (h:repair_table_best_p a0 = some r) :
 call Try.prog T H (.fn 82) [.p (.pp [iv a0.a.States,.sl none 1 (List.map rowI a0.a.Final),.sl none 3 (List.map row_Rule a0.a.Rules),iv a0.w.Relabel,iv a0.w.Remove,iv a0.w.Insert,.sl none 1 (List.map rowI a0.size),.sl none 1 (List.map (rowL 1 rowI) a0.cost),.sl none 1 (List.map (rowL 1 rowI) a0.kids),.sl none 2 (List.map row_Tree a0.tree)])] σ = some (.ret (.p (.tup [iv r.1,iv r.2])),σ):=by
 refine Sat.fn fun Q hQ=>?_
 unfold repair_table_best_p at h
 rw [call82]
 conv=>arg 1; arg 7; unfold S22.c82 Try.f82; simp only [Option.getD_some]
 simp only [go_sem]
 refine run_rangeL (c:=L82_0) (live:=[0,4,5,12,13,14]) (by simp only [go_sem]) (M:=fun i1 (s1:Int×Int)=>[(0,.p (.pp [iv a0.a.States,.sl none 1 (List.map rowI a0.a.Final),.sl none 3 (List.map row_Rule a0.a.Rules),iv a0.w.Relabel,iv a0.w.Remove,iv a0.w.Insert,.sl none 1 (List.map rowI a0.size),.sl none 1 (List.map (rowL 1 rowI) a0.cost),.sl none 1 (List.map (rowL 1 rowI) a0.kids),.sl none 2 (List.map row_Tree a0.tree)])),(4,.p (iv s1.1)),(5,.p (iv s1.2)),(12,.p (.sl none 1 (List.map rowI a0.a.Final))),(13,.p (iv (a0.a.Final.length:Int))),(14,.p (iv (i1:Int)))]) (Z:=fun i1 (s1:Int×Int)=>σ) (N:=fun (s1:Int×Int)=>⟨[(4,.p (iv s1.1)),(5,.p (iv s1.2))],σ,[],none,false⟩) h rfl rfl (fun _ _=>rfl) ?_ ?_ ?_
 ·intro s1 h
  try dsimp only at h ⊢
  simp only [go_sem]
  injection h with h; subst h
  exact Sat.ok hQ
 ·intro K1 s1 hb1 he1
  try dsimp only
  conv=>arg 1; arg 7; unfold L82_0 loopAt S22.c82 Try.f82; simp only [loopIn,Option.getD_some,if_true]
  simp only [go_sem,he1]
  exact hb1
 ·intro K1 k1 i1 x1 s1 n1 hR1 hE1 hb1 hx1 hi1 hw1 ih1 h
  try dsimp only at h ⊢
  conv=>arg 1; arg 7; unfold L82_0 loopAt S22.c82 Try.f82; simp only [loopIn,Option.getD_some,if_true]
  obtain ⟨v1,e_v1,h⟩:=ob h
  obtain ⟨e_v1a,e_v1b⟩:=idx_some e_v1
  by_cases c1:0 < v1
  ·have h:=iteT h c1
   by_cases c2:s1.1 < 0
   ·have h:=iteT h c2
    obtain ⟨v2,e_v2,h⟩:=ob h
    obtain ⟨e_v2a,e_v2b⟩:=idx_some e_v2
    obtain ⟨v3,e_v3,h⟩:=ob h
    obtain ⟨e_v3a,e_v3b⟩:=idx_some e_v3
    simp only [go_sem,hx1,hi1,hw1,e_v1a,e_v1b,c1,c2,e_v2a,e_v2b,e_v3a,e_v3b,hR1,hE1]
    exact ih1 (x1,v3) h
   ·have h:=iteF h c2
    obtain ⟨v4,e_v4,h⟩:=ob h
    obtain ⟨e_v4a,e_v4b⟩:=idx_some e_v4
    obtain ⟨v5,e_v5,h⟩:=ob h
    obtain ⟨e_v5a,e_v5b⟩:=idx_some e_v5
    by_cases c3:v5 < s1.2
    ·have h:=iteT h c3
     simp only [go_sem,hx1,hi1,hw1,e_v1a,e_v1b,c1,c2,e_v4a,e_v4b,e_v5a,e_v5b,c3,hR1,hE1]
     exact ih1 (x1,v5) h
    ·have h:=iteF h c3
     simp only [go_sem,hx1,hi1,hw1,e_v1a,e_v1b,c1,c2,e_v4a,e_v4b,e_v5a,e_v5b,c3,hR1,hE1]
     exact ih1 (s1.1,s1.2) h
  ·have h:=iteF h c1
   simp only [go_sem,hx1,hi1,hw1,e_v1a,e_v1b,c1,hR1,hE1]
   exact ih1 (s1.1,s1.2) h
def repair_checked (n:Nat) (a0:Alphabet) (a1:Automaton) (a2:Tree) (a3:repair_Weights):Option ((Option repair_table)×Int×Int×Int) :=
 (auto_Valid a0 a1).bind fun v1 =>
 if v1 = true then
  (tree_Valid n a0 a2).bind fun v2 =>
  if v2 = true then
   (repair_fits a3).bind fun v3 =>
   if v3 = true then
    (repair_tableOf n a0 a1 a2 a3).bind fun v4 =>
    if v4.2 = 0 then
     (repair_table_best_p v4.1).bind fun v5 =>
     if v5.1 < 0 then
      some ((none:Option repair_table),0,0,5)
     else
      if 1099511627776 < v5.2 then
       some ((none:Option repair_table),0,0,3)
      else
       some ((some v4.1),v5.1,v5.2,0)
    else
     some ((none:Option repair_table),0,0,v4.2)
   else
    some ((none:Option repair_table),0,0,6)
  else
   some ((none:Option repair_table),0,0,1)
 else
  some ((none:Option repair_table),0,0,1)
theorem spec52 (n:Nat) (a0:Alphabet) (a1:Automaton) (a2:Tree) (a3:repair_Weights) (r:(Option repair_table)×Int×Int×Int) (h:repair_checked n a0 a1 a2 a3 = some r) :
 call Try.prog T H (.fn 52) [.p (.agg [.sl none 1 (List.map rowI a0.Ranks)]),.p (.agg [iv a1.States,.sl none 1 (List.map rowI a1.Final),.sl none 3 (List.map row_Rule a1.Rules)]),.p (.agg [iv a2.Sym,.sl none 2 (List.map row_Tree a2.Kids)]),.p (.agg [iv a3.Relabel,iv a3.Remove,iv a3.Insert])] [] = some (.ret (.p (.tup [oP (fun (x:repair_table)=>[iv x.a.States,.sl none 1 (List.map rowI x.a.Final),.sl none 3 (List.map row_Rule x.a.Rules),iv x.w.Relabel,iv x.w.Remove,iv x.w.Insert,.sl none 1 (List.map rowI x.size),.sl none 1 (List.map (rowL 1 rowI) x.cost),.sl none 1 (List.map (rowL 1 rowI) x.kids),.sl none 2 (List.map row_Tree x.tree)]) r.1,iv r.2.1,iv r.2.2.1,iv r.2.2.2])),[]):=by
 refine Sat.fn fun Q hQ=>?_
 unfold repair_checked at h
 rw [call52]
 conv=>arg 1; arg 7; unfold S22.c52 Try.f52; simp only [Option.getD_some]
 obtain ⟨v1,e_v1,h⟩:=ob h
 have e_v1c:=spec28 a0 a1 v1 e_v1
 by_cases c1:v1 = true
 ·have h:=iteT h c1
  obtain ⟨v2,e_v2,h⟩:=ob h
  have e_v2c:=spec29 n a0 a2 v2 e_v2
  by_cases c2:v2 = true
  ·have h:=iteT h c2
   obtain ⟨v3,e_v3,h⟩:=ob h
   have e_v3c:=spec45 a3 v3 e_v3
   by_cases c3:v3 = true
   ·have h:=iteT h c3
    obtain ⟨v4,e_v4,h⟩:=ob h
    have e_v4c:=spec81 n a0 a1 a2 a3 v4 e_v4
    by_cases c4:v4.2 = 0
    ·have h:=iteT h c4
     have c4b:(v4.2 != 0) = false:=bneF c4
     obtain ⟨v5,e_v5,h⟩:=ob h
     have e_v5c:call Try.prog T H (.fn 82) [.p (.pp [iv v4.1.a.States,.sl none 1 (List.map rowI v4.1.a.Final),.sl none 3 (List.map row_Rule v4.1.a.Rules),iv v4.1.w.Relabel,iv v4.1.w.Remove,iv v4.1.w.Insert,.sl none 1 (List.map rowI v4.1.size),.sl none 1 (List.map (rowL 1 rowI) v4.1.cost),.sl none 1 (List.map (rowL 1 rowI) v4.1.kids),.sl none 2 (List.map row_Tree v4.1.tree)])] [.cells [.p (.sl none 1 (List.map rowI a0.Ranks))],.cells [.p (iv a1.States),.p (.sl none 1 (List.map rowI a1.Final)),.p (.sl none 3 (List.map row_Rule a1.Rules))],.cells [.p (iv a2.Sym),.p (.sl none 2 (List.map row_Tree a2.Kids))],.cells [.p (iv a3.Relabel),.p (iv a3.Remove),.p (iv a3.Insert)]] = some (.ret (.p (.tup [iv v5.1,iv v5.2])),[.cells [.p (.sl none 1 (List.map rowI a0.Ranks))],.cells [.p (iv a1.States),.p (.sl none 1 (List.map rowI a1.Final)),.p (.sl none 3 (List.map row_Rule a1.Rules))],.cells [.p (iv a2.Sym),.p (.sl none 2 (List.map row_Tree a2.Kids))],.cells [.p (iv a3.Relabel),.p (iv a3.Remove),.p (iv a3.Insert)]]):=by have q:=spec82_p [.cells [.p (.sl none 1 (List.map rowI a0.Ranks))],.cells [.p (iv a1.States),.p (.sl none 1 (List.map rowI a1.Final)),.p (.sl none 3 (List.map row_Rule a1.Rules))],.cells [.p (iv a2.Sym),.p (.sl none 2 (List.map row_Tree a2.Kids))],.cells [.p (iv a3.Relabel),.p (iv a3.Remove),.p (iv a3.Insert)]] v4.1 v5 e_v5; first | (simp only [go_sem] at q ⊢; exact q) | exact q
     by_cases c5:v5.1 < 0
     ·have h:=iteT h c5
      simp only [go_sem,e_v1c,c1,e_v2c,c2,e_v3c,c3,e_v4c,c4b,e_v5c,c5]
      injection h with h; subst h
      exact Sat.ok hQ
     ·have h:=iteF h c5
      by_cases c6:1099511627776 < v5.2
      ·have h:=iteT h c6
       simp only [go_sem,e_v1c,c1,e_v2c,c2,e_v3c,c3,e_v4c,c4b,e_v5c,c5,c6]
       injection h with h; subst h
       exact Sat.ok hQ
      ·have h:=iteF h c6
       simp only [go_sem,e_v1c,c1,e_v2c,c2,e_v3c,c3,e_v4c,c4b,e_v5c,c5,c6]
       injection h with h; subst h
       exact Sat.ok hQ
    ·have h:=iteF h c4
     have c4b:(v4.2 != 0) = true:=bneT c4
     simp only [go_sem,e_v1c,c1,e_v2c,c2,e_v3c,c3,e_v4c,c4b]
     injection h with h; subst h
     exact Sat.ok hQ
   ·have h:=iteF h c3
    have c3:=eq_false_of_ne_true c3
    simp only [go_sem,e_v1c,c1,e_v2c,c2,e_v3c,c3]
    injection h with h; subst h
    exact Sat.ok hQ
  ·have h:=iteF h c2
   have c2:=eq_false_of_ne_true c2
   simp only [go_sem,e_v1c,c1,e_v2c,c2]
   injection h with h; subst h
   exact Sat.ok hQ
 ·have h:=iteF h c1
  have c1:=eq_false_of_ne_true c1
  simp only [go_sem,e_v1c,c1]
  injection h with h; subst h
  exact Sat.ok hQ
def repair_Cost (n:Nat) (a0:Alphabet) (a1:Automaton) (a2:Tree) (a3:repair_Weights):Option (Int×Int) :=
 (repair_checked n a0 a1 a2 a3).bind fun v1 =>
 some (v1.2.2.1,v1.2.2.2)
theorem spec20 (n:Nat) (a0:Alphabet) (a1:Automaton) (a2:Tree) (a3:repair_Weights) (r:Int×Int) (h:repair_Cost n a0 a1 a2 a3 = some r) :
 call Try.prog T H (.fn 20) [.p (.agg [.sl none 1 (List.map rowI a0.Ranks)]),.p (.agg [iv a1.States,.sl none 1 (List.map rowI a1.Final),.sl none 3 (List.map row_Rule a1.Rules)]),.p (.agg [iv a2.Sym,.sl none 2 (List.map row_Tree a2.Kids)]),.p (.agg [iv a3.Relabel,iv a3.Remove,iv a3.Insert])] [] = some (.ret (.p (.tup [iv r.1,iv r.2])),[]):=by
 refine Sat.fn fun Q hQ=>?_
 unfold repair_Cost at h
 rw [call20]
 conv=>arg 1; arg 7; unfold S22.c20 Try.f20; simp only [Option.getD_some]
 obtain ⟨v1,e_v1,h⟩:=ob h
 have e_v1c:=spec52 n a0 a1 a2 a3 v1 e_v1
 simp only [go_sem,e_v1c]
 injection h with h; subst h
 exact Sat.ok hQ
end Go.AM.S22

