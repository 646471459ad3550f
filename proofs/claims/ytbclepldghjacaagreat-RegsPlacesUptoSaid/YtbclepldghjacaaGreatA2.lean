/- Symbolic runs: regions, code, functions. -/
import Derived.Test.YtbclepldghjacaaGreatA1
import Derived.Lib.AppendZeros
import Derived.RangeFuncIn
import Derived.RangeFuncRecord
import Derived.RangeFuncLeaves
import Derived.OrdersIn
set_option linter.unusedVariables false
set_option linter.unusedSimpArgs false
namespace Go.Ab

def appendZA (P:Program) (id:RId) (ver:Nat) (t tn:TypeId) (x y:PV):A:=match sliceOf P t with
 | some e=>match P.underlying tn with
  | some (.int _)=>match zeroL P e with
   | some z => .vc (z.length=P.cellsOf e∧0<z.length∧z.all dryCell=true) <| match x with
    | .nils=>match y with
     | .int _ n => .vc (0<n∧n.toNat*P.bytesOf e≤140737488355328∧n.toNat≤140737488355328) (.wr id (some ⟨ver,.own z.length n.toNat fun _ o=>z.getD o .undef⟩) (.ret (.ref id ver [] z.length 0 n.toNat)))
     | _ => .fail
    | _ => .fail
   | none => .fail
  | _ => .fail
 | none => .fail

theorem Real.appendZ {P:Program} {w:World} {B:Blocks} {hp:List (RId × Root)} {V:Nat→Prop} {ver:Nat} (hr:HR w B (lkH hp) V) (hver:¬ V ver) (id:RId) (hid:id.1≠0) (t tn ty:TypeId) {x y:PV} {vx vy:Value}
  (hx:VR w B (lkH hp) V x vx) (hy:VR w B (lkH hp) V y vy):Real P w B hp V ver (Builtin.append_ #[t,tn] ty #[vx,vy]) (appendZA P id ver t tn x y):=by
 intro K hK
 unfold appendZA at hK
 split at hK
 ·rename_i e he
  have hu:=sliceOf_some he
  split at hK
  ·rename_i kn hkn
   split at hK
   ·rename_i z hz
    obtain ⟨⟨hzl,h0,hdry⟩,hK⟩:=hK
    obtain ⟨zv,e1,e2,e3⟩:=zeroL_some hz w
    have hi:(P.info? e).isSome:=by unfold zeroL at hz;cases hh:P.info? e <;> simp_all
    obtain ⟨i,hi'⟩:=Option.isSome_iff_exists.1 hi
    have hbytes:P.bytesOf e=i.bytes:=by simp [Program.bytesOf,hi']
    have hsize:i.size=z.length:=by rw [hzl];simp [Program.cellsOf,hi']
    obtain ⟨zz,hzz,hzzl⟩:∃ zz,i.zero=some zz∧zz.cells.toList.map cv=z:=by
     unfold zeroL at hz
     rw [hi'] at hz
     simp only [Option.bind_some,Option.map_eq_some_iff] at hz
     obtain ⟨zz,h1,h2⟩:=hz
     exact ⟨zz,h1,h2⟩
    have hzzs:zz.cells.size=z.length:=by rw [← hzzl];simp
    have hL:∀ w B V,LR w B (lkH hp) V z zz.cells:=fun w B V=>⟨hzzs.symm,fun j hj=>by
     rw [← hzzl]
     have:j<zz.cells.size:=by omega
     simp [List.getD_eq_getElem?_getD,Array.getD_eq_getD_getElem?,this]
     exact VR.cv _⟩
    have hzone:OneCells zz.cells:=oneCells_of (hL w B V) fun c hc=>dryCell_one (List.all_eq_true.1 hdry c hc)
    split at hK
    ·cases hx
     split at hK
     ·rename_i k nn
      obtain ⟨⟨hp0,hb1,hb2⟩,hk⟩:=hK
      cases hy
      obtain ⟨m,rfl⟩:∃ m:Nat,nn=m:=⟨nn.toNat,by omega⟩
      simp only [Int.toNat_natCast] at hb1 hb2 hk
      have hm:0<m:=by omega
      obtain ⟨hrd,hmd⟩:=hr.drew
      have hrun:=Lib.run_append_nil_zeros (P:=P) w t tn ty e i zz k kn hu hkn hi' hzz m hm (by omega) (by omega) (by rw [← hbytes];omega)
      generalize hval:(fun j=>zz.cells.getD (j % z.length) Go.undef)=val at *
      have hzc:Builtin.zeroCells zz.cells m=((List.range (m*z.length)).map val).toArray:=by
       apply Array.ext'
       simp only [Builtin.zeroCells,hzzs]
       apply List.ext_getElem?
       intro j
       simp only [Array.getElem?_toList,Array.getElem?_map,List.getElem?_map,Array.getElem?_range]
       by_cases hj:j<m*z.length
       ·rw [List.getElem?_range hj,if_pos hj,← hval]
        have:j % z.length<zz.cells.size:=by rw [hzzs];exact Nat.mod_lt _ h0
        simp [this]
       ·rw [if_neg hj,List.getElem?_eq_none (by simpa using hj)]
        rfl
      have hvone:∀ v∈(List.range (m*z.length)).map val,v.oneCell'=true:=fun v hv=>by
       obtain ⟨j,hj,rfl⟩:=List.mem_map.1 hv
       rw [← hval]
       exact hzone _ (by rw [hzzs];exact Nat.mod_lt _ h0)
      rw [hzc] at hrun
      have hge:=grownCap_ge w m 0 e
      obtain ⟨q1,q2,q3⟩:=grown_cells (olds:=[]) (news:=(List.range (m*z.length)).map val) (z:=zz.cells) (sz:=z.length) (n:=0) (m:=m) (cap:=grownCap w m 0 e) hzzs (by simp) (by simp) (by omega)
      simp only [Nat.zero_add,List.nil_append,Nat.zero_mul] at q1 q2 q3
      have hone:OneCells (((List.range (m*z.length)).map val).toArray++Builtin.zeroCells zz.cells (grownCap w m 0 e - m)):=oneCells_grown hvone hzone (by omega)
      have hf:Fresh w.drew B (lkH hp) V z.length m (.own z.length m fun _ o=>z.getD o .undef) (fun _ _=>none) (((List.range (m*z.length)).map val).toArray++Builtin.zeroCells zz.cells (grownCap w m 0 e - m)):=by
       refine ⟨fun i o hi ho _=>?_,(fun i o r _ _ h=>by cases h),(fun _ _ _ _ _ _ _ _ _ h=>by cases h),hone⟩
       have hj:i*z.length+o<m*z.length:=by have:=mul_lt_le (s:=z.length) hi;omega
       rw [q3 _ hj,getD_rangeMap _ _ _ hj,← hval]
       simp only
       rw [show (i*z.length+o) % z.length=o by rw [Nat.mul_comm,Nat.mul_add_mod,Nat.mod_eq_of_lt ho]]
       exact (hL w.drew B V).val o ho
      obtain ⟨g1,g2⟩:=newRoot (hp':=setH hp id (some ⟨ver,.own z.length m fun _ o=>z.getD o .undef⟩)) hrd hver id hid (q:=true) rfl e hf (.inl rfl) (by omega) (by
       simp only [if_true]
       rw [q1]
       exact Nat.mul_le_mul_right _ hge) (fun r=>by rw [lookH_setH];simp)
      refine ⟨_,_,_,_,_,hrun,hk,.ref (.inr rfl) (fun rt h _=>?_),g1,hmd.trans g2⟩
      rw [lookH_setH,if_pos rfl] at h
      cases h
      exact ⟨m,at_nil.2 rfl,Nat.zero_le _,Nat.le_refl _,.inl ⟨w.heap.size,⟨w.heap.size,0,none⟩,grownCap w m 0 e,e,(((List.range (m*z.length)).map val).toArray++Builtin.zeroCells zz.cells (grownCap w m 0 e - m)).size,by simp [movedB,heap_drew],rfl,by omega,fun _=>by simp,by
       have hnew:=heap_alloc_new w.drew (.cells (((List.range (m*z.length)).map val).toArray++Builtin.zeroCells zz.cells (grownCap w m 0 e - m)) e)
       rw [heap_drew] at hnew
       simp only [World.shape?,hnew],by rw [q1];simp⟩⟩
     ·exact hK.elim
    ·exact hK.elim
   ·exact hK.elim
  ·exact hK.elim
 ·exact hK.elim
end Go.Ab
namespace Go.Ab
open Classical

theorem Regrow.hr' {w w' B B' H H' V ver} {r:RId} {x:Option Nat} {rt:Root} {sz n n':Nat} {f f':Nat→Nat→PV} {v:Value} (g:Regrow w w' B B' H H' r x ⟨ver,.own sz n' f'⟩) (hr:HR w B H V) (hver:¬ V ver) (hH:H r=some rt)
  (hnode:rt.node = .own sz n f) (hd:∀ i o p s,at? (.own sz n f) ((i,o)::p) s→at? (.own sz n' f') ((i,o)::p) s) (ht:TR w' B' H' (ors V ver) r [] (.own sz n' f') v):HR w' B' H' (ors V ver):=by
 have hm:=g.mono hr hver rfl hH
 have hlt:∀ r p b,B r p=some b→b<w.heap.size:=fun r p b h=>(hr.dom r p b h).1
 have hne:∀ r' p b,¬ (r'=r∧p=[])→B r' p=some b→x≠some b:=by
  intro r' p b h1 h2 e
  rcases g.old with h|⟨nb,h,h3⟩
  ·exact h1 (hr.inj _ _ _ _ _ h2 (h▸e))
  ·rw [h] at e;cases e;have:=hlt _ _ _ h2;omega
 refine ⟨fun j rt2 h=>?_,fun j rt2 h=>?_,fun r' p b h=>?_,fun j rt2 h=>?_,fun r1 p1 r2 p2 b h1 h2=>?_⟩
 ·rw [g.roots] at h
  split at h
  ·rename_i e;subst e;cases h;exact .own ht
  ·rename_i hj
   exact (hr.root j rt2 h).mono hm (fun t s _=>⟨by rw [g.blk,if_neg (fun e=>hj e.1)],fun b hb=>g.heap b (hlt _ _ _ hb) (hne j t b (fun e=>hj e.1) hb)⟩)
 ·rw [g.roots] at h
  split at h
  ·cases h;exact .inr rfl
  ·exact .inl (hr.ver j rt2 h)
 ·rw [g.blk] at h
  split at h
  ·rename_i e
   obtain ⟨rfl,rfl⟩:=e
   exact ⟨g.lt b h,.inr ⟨⟨ver,.own sz n' f'⟩,(true,sz,n'),by rw [g.roots,if_pos rfl],at_nil.2 rfl⟩⟩
  ·rename_i hrp
   obtain ⟨h1,h2⟩:=hr.dom r' p b h
   refine ⟨Nat.lt_of_lt_of_le h1 g.size,h2.imp id fun ⟨rt2,s,h3,h4⟩=>?_⟩
   by_cases e:r'=r
   ·subst e
    rw [hH] at h3
    cases h3
    refine ⟨_,s,by rw [g.roots,if_pos rfl],?_⟩
    rw [hnode] at h4
    cases p with
    | nil=>exact absurd ⟨rfl,rfl⟩ hrp
    | cons y p =>
     obtain ⟨i,o⟩:=y
     exact hd i o p s h4
   ·exact ⟨rt2,s,by rw [g.roots,if_neg e];exact h3,h4⟩
 ·rw [g.roots] at h
  split at h
  ·rename_i e;rw [e];exact hr.lev r rt hH
  ·exact hr.lev j rt2 h
 ·rw [g.blk] at h1 h2
  split at h1
  ·rename_i e1
   split at h2
   ·rename_i e2;exact ⟨e1.1.trans e2.1.symm,e1.2.trans e2.2.symm⟩
   ·rename_i e2;exact absurd h1 (hne _ _ _ e2 h2)
  ·rename_i e1
   split at h2
   ·exact absurd h2 (hne _ _ _ e1 h1)
   ·exact hr.inj _ _ _ _ _ h1 h2

theorem grow_fin' {w w':World} {B B':Blocks} {hp:List (RId × Root)} {V:Nat→Prop} {ver:Nat} {r:RId} {rt:Root} {sz NN n m:Nat} {f c:Nat→Nat→PV} {xb:Option Nat} (hr:HR w B (lkH hp) V) (hver:¬ V ver) (hH:lkH hp r=some rt) (hnode:rt.node = .own sz NN f) (hd:∀ i o p s,at? (.own sz NN f) ((i,o)::p) s→at? (.own sz (n+m) fun i o=>if i<n then f i o else c (i - n) o) ((i,o)::p) s)
  (g:Regrow w w' B B' (lkH hp) (lkH (setH hp r (some ⟨ver,.own sz (n+m) fun i o=>if i<n then f i o else c (i - n) o⟩))) r xb ⟨ver,.own sz (n+m) fun i o=>if i<n then f i o else c (i - n) o⟩) {b cap:Nat} {cs cs':Array Value} {e:TypeId}
  (hx:xb=some b) (hold:∀ i o,i<n→o<sz→TR w B (lkH hp) V r [(i,o)] (f i o) (cs.getD (i*sz+o) Go.undef)) (hh:w'.heap[b]?=some (.cells cs' e (0,0))) (hcap:cap*sz≤cs'.size) (hone:OneCells cs') (hle:n+m≤cap) (hmax:n+m≤140737488355328)
  (h1:∀ i o,i<n→o<sz→cs'.getD (i*sz+o) Go.undef=cs.getD (i*sz+o) Go.undef) (h2:∀ i o,i<m→o<sz→VR w B (lkH hp) V (c i o) (cs'.getD ((n+i)*sz+o) Go.undef)) {Ad:Addr} (hAd:0<cap→Ad=⟨b,0,none⟩) :
  HR w' B' (lkH (setH hp r (some ⟨ver,.own sz (n+m) fun i o=>if i<n then f i o else c (i - n) o⟩))) (ors V ver) ∧
  Mono w B (lkH hp) V w' B' (lkH (setH hp r (some ⟨ver,.own sz (n+m) fun i o=>if i<n then f i o else c (i - n) o⟩))) (ors V ver) ∧
  VR w' B' (lkH (setH hp r (some ⟨ver,.own sz (n+m) fun i o=>if i<n then f i o else c (i - n) o⟩))) (ors V ver) (.ref r ver [] sz 0 (n+m)) (.slice (some Ad) (n+m) cap):=by
 have hm:=g.mono hr hver rfl hH
 have hBr:B' r []=some b:=by rw [g.blk,if_pos ⟨rfl,rfl⟩,hx]
 have hne:∀ i o t k,B r ((i,o)::t)=some k→xb≠some k:=by
  intro i o t k h1 e
  rcases g.old with h|⟨nb,h,h3⟩
  ·have:=(hr.inj _ _ _ _ _ h1 (h▸e)).2;cases this
  ·rw [h] at e;cases e;have:=(hr.dom _ _ _ h1).1;omega
 have htr:TR w' B' (lkH (setH hp r (some ⟨ver,.own sz (n+m) fun i o=>if i<n then f i o else c (i - n) o⟩))) (ors V ver) r [] (.own sz (n+m) fun i o=>if i<n then f i o else c (i - n) o) (.slice (some Ad) (n+m) cap):=by
  refine .own hAd hBr hh ⟨hcap,hone⟩ hle hmax fun i o hi ho=>?_
  by_cases h:i<n
  ·simp only [h,if_true]
   rw [h1 i o h ho]
   refine (hold i o h ho).mono hm fun t s _=>⟨?_,fun k hk=>g.heap k (hr.dom _ _ _ hk).1 (hne _ _ _ _ hk)⟩
   show B' r ((i,o)::t)=B r ((i,o)::t)
   rw [g.blk,if_neg (fun e=>by cases e.2)]
  ·simp only [h,if_false]
   have:=h2 (i - n) o (by omega) ho
   rw [show n+(i - n)=i by omega] at this
   exact .leaf (this.mono hm)
 refine ⟨g.hr' hr hver hH hnode hd htr,hm,.ref (.inr rfl) fun rt2 h _=>?_⟩
 rw [lookH_setH,if_pos rfl] at h
 cases h
 refine ⟨n+m,at_nil.2 rfl,Nat.zero_le _,Nat.le_refl _,.inl ⟨b,Ad,cap,e,cs'.size,hBr,rfl,by omega,fun h=>by rw [hAd h];simp,?_,by simpa using hcap⟩⟩
 simp [World.shape?,hh]


def lenK (y:PV) (k:Nat→A):A:=match y with
 | .ref _ _ _ _ lo hi=>k (hi - lo)
 | .frz _ n _=>k n
 | .fcl _ n _=>k n
 | _=>k 0
theorem lenK_wp {y:PV} {k:Nat→A} {hp:List (RId × Root)} {K:PV→List (RId × Root)→Prop} (h:(lenK y k).wp hp K):∃ m,(k m).wp hp K:=by
 unfold lenK at h
 split at h <;> exact ⟨_,h⟩

def overA (P:Program) (ver:Nat) (t:TypeId) (r:RId) (v sz hi:Nat) (y:PV):A :=
 match sliceOf P t with
 | some e=>match zeroL P e with
  | some z => .vc (z.length=P.cellsOf e∧0<z.length∧z.all dryCell=true∧sz=z.length) <| .rd r fun
   | some rt=>match rt.node with
    | .own sz'' n f => .vc (rt.ver=v∧sz''=z.length∧hi<n∧∀ i,i<n→hi≤i→∀ o,o<sz''→shapeOf (f i o)=none) (srcA z.length y fun m c => .vc ((hi+m)*P.bytesOf e≤140737488355328∧hi+m≤140737488355328∧0<m)
      (.wr r (some ⟨ver,.own z.length (hi+m) fun i o=>if i<hi then f i o else c (i - hi) o⟩) (.ret (.ref r ver [] z.length 0 (hi+m)))))
    | _ => .fail
   | none => .fail
  | none => .fail
 | none => .fail

theorem Real.over {P:Program} {w:World} {B:Blocks} {hp:List (RId × Root)} {V:Nat→Prop} {ver:Nat} (hr:HR w B (lkH hp) V) (hver:¬ V ver) (t ty:TypeId) {r:RId} {v sz hi0:Nat} {y:PV} {vx vy:Value}
  (hx:VR w B (lkH hp) V (.ref r v [] sz 0 hi0) vx) (hy:VR w B (lkH hp) V y vy):Real P w B hp V ver (Builtin.append_ #[t,t] ty #[vx,vy]) (overA P ver t r v sz hi0 y):=by
 intro K hK
 unfold overA at hK
 split at hK
 ·rename_i e he
  split at hK
  ·rename_i z hz
   obtain ⟨⟨hzl,h0,hdry,rfl⟩,hK⟩:=hK
   have hu:=sliceOf_some he
   obtain ⟨zv,e1,e2,e3⟩:=zeroL_some hz w
   have hi:(P.info? e).isSome:=by unfold zeroL at hz;cases hh:P.info? e <;> simp_all
   obtain ⟨i,hi'⟩:=Option.isSome_iff_exists.1 hi
   have hbytes:P.bytesOf e=i.bytes:=by simp [Program.bytesOf,hi']
   have hsize:i.size=z.length:=by rw [hzl];simp [Program.cellsOf,hi']
   obtain ⟨zz,hzz,hzzl⟩:∃ zz,i.zero=some zz∧zz.cells.toList.map cv=z:=by
    unfold zeroL at hz
    rw [hi'] at hz
    simp only [Option.bind_some,Option.map_eq_some_iff] at hz
    obtain ⟨zz,h1,h2⟩:=hz
    exact ⟨zz,h1,h2⟩
   have hzzs:zz.cells.size=z.length:=by rw [← hzzl];simp
   have hzone:OneCells zz.cells:=by
    have hL:LR w B (lkH hp) V z zz.cells:=⟨hzzs.symm,fun j hj=>by
     rw [← hzzl]
     have:j<zz.cells.size:=by omega
     simp [List.getD_eq_getElem?_getD,Array.getD_eq_getD_getElem?,this]
     exact VR.cv _⟩
    exact oneCells_of hL fun c hc=>dryCell_one (List.all_eq_true.1 hdry c hc)
   simp only [A.wp] at hK
   cases hH:lkH hp r with
   | none=>rw [hH] at hK;exact hK.elim
   | some rt =>
    rw [hH] at hK
    simp only at hK
    split at hK
    ·rename_i sz'' n f hnode
     obtain ⟨⟨hvr,rfl,hin,hsh0⟩,hK⟩:=hK
     obtain ⟨m,c,val,hk,hsrc,hval⟩:=srcA_wp hr hu h0 hy hK
     obtain ⟨⟨hb1,hb2,hm⟩,hk⟩:=hk
     have hsrc':Src P i.size t vy m ((List.range (m*z.length)).map val) w:=by rw [hsize];exact hsrc
     cases hx with
     | ref hv hx =>
     obtain ⟨n',hat,_,hle,hx⟩:=hx rt hH hvr
     have hnn:n'=n:=by
      have:=hat.2
      rw [hnode] at this
      simp [getAt,shapeOf] at this
      exact this.symm
     subst hnn
     have hroot:=(hr.root r rt hH).node [] hat
     rw [hnode] at hroot
     have hlkr:∀ j,lkH (setH hp r (some ⟨ver,.own z.length (hi0+m) fun i o=>if i<hi0 then f i o else c (i - hi0) o⟩)) j=if j=r then some ⟨ver,.own z.length (hi0+m) fun i o=>if i<hi0 then f i o else c (i - hi0) o⟩ else lkH hp j:=fun j=>lookH_setH ..
     have hrid:r.1≠0:=hr.lev r rt hH
     have hd:∀ i o p s,at? (.own z.length n' f) ((i,o)::p) s→at? (.own z.length (hi0+m) fun i o=>if i<hi0 then f i o else c (i - hi0) o) ((i,o)::p) s:=by
      rintro i o p s ⟨⟨h1,h2,h3⟩,h4⟩
      by_cases hlt:i<hi0
      ·refine ⟨⟨by omega,h2,by simp only [if_pos hlt];exact h3⟩,?_⟩
       simp only [getAt,if_pos hlt] at h4 ⊢
       exact h4
      ·exfalso
       have h5:=hsh0 i h1 (by omega) o h2
       simp only [getAt] at h4
       cases p with
       | nil=>simp only [getAt] at h4;rw [h5] at h4;cases h4
       | cons y p =>
        obtain ⟨a,b⟩:=y
        generalize f i o=q at h3 h4 h5
        cases q <;> first|(simp [getAt,shapeOf] at h4;done)|(simp [shapeOf] at h5)
     have grow:∀ (base:Option Addr) (cap:Nat) (cs:Array Value),vx = .slice base hi0 cap→cap<hi0+m→(Builtin.firstCells i.size hi0 (.slice base hi0 cap)).run P w.drew = .ok ((List.range (hi0*z.length)).map fun j=>cs.getD j Go.undef).toArray w.drew →
       (∀ j,j<hi0*z.length→(cs.getD j Go.undef).oneCell'=true)→(∀ i o,i<hi0→o<z.length→TR w B (lkH hp) V r [(i,o)] (f i o) (cs.getD (i*z.length+o) Go.undef)) →
       ∃ v w' B' hp' x',(Builtin.append_ #[t,t] ty #[vx,vy]).run P w = .ok v w'∧K x' hp'∧VR w' B' (lkH hp') (ors V ver) x' v∧HR w' B' (lkH hp') (ors V ver)∧Mono w B (lkH hp) V w' B' (lkH hp') (ors V ver):=by
      rintro base cap cs rfl hg hold holdone htr
      have hrun:=run_append_grow_src w t t ty e i zz hu hi' hzz base hi0 cap _ hold vy m _ hsrc' hg (by omega) (growslice_fits hg (by rw [← hbytes];exact hb1))
      have hge:=grownCap_ge w (hi0+m) cap e
      obtain ⟨q1,q2,q3⟩:=grown_cells (olds:=(List.range (hi0*z.length)).map fun j=>cs.getD j Go.undef) (news:=(List.range (m*z.length)).map val) (z:=zz.cells) (sz:=z.length) (n:=hi0) (m:=m) (cap:=grownCap w (hi0+m) cap e) hzzs (by simp) (by simp) hge
      generalize hcells:(((List.range (hi0*z.length)).map fun j=>cs.getD j Go.undef)++(List.range (m*z.length)).map val).toArray++Builtin.zeroCells zz.cells (grownCap w (hi0+m) cap e - (hi0+m))=cells at hrun q1 q2 q3
      have hone:OneCells cells:=by
       rw [← hcells]
       refine oneCells_grown (fun u hu=>?_) hzone (by omega)
       rcases List.mem_append.1 hu with h|h
       ·obtain ⟨j,hj,rfl⟩:=List.mem_map.1 h
        exact holdone j (List.mem_range.1 hj)
       ·exact hsrc.one u h
      obtain ⟨hrd,hmd⟩:=hr.drew
      have hlt:∀ i o,i<hi0→o<z.length→i*z.length+o<hi0*z.length:=fun i o hi ho=>by have:=mul_lt_le (s:=z.length) hi;omega
      have g:Regrow w (w.drew.alloc (.cells cells e)) B (fun r' p=>if r'=r∧p=[] then some w.heap.size else B r' p) (lkH hp) (lkH (setH hp r (some ⟨ver,.own z.length (hi0+m) fun i o=>if i<hi0 then f i o else c (i - hi0) o⟩))) r (some w.heap.size) ⟨ver,.own z.length (hi0+m) fun i o=>if i<hi0 then f i o else c (i - hi0) o⟩:=by
       refine ⟨fun _ _=>rfl,.inr ⟨_,rfl,Nat.le_refl _⟩,fun b h=>?_,hlkr,?_,fun k hk _=>heap_alloc_lt w.drew _ hk,fun k s hs=>?_,rfl,rfl,rfl⟩
       ·cases h;simp [heap_drew]
       ·simp [heap_drew]
       ·have hk:k<w.heap.size:=shape_lt hs
        simp only [World.shape?] at hs ⊢
        rw [heap_alloc_lt w.drew _ hk]
        exact hs
      have hnew:(w.drew.alloc (.cells cells e)).heap[w.heap.size]?=some (.cells cells e (0,0)):=heap_alloc_new w.drew _
      obtain ⟨k1,k2,k3⟩:=grow_fin' hr hver hH hnode hd g (b:=w.heap.size) (cap:=grownCap w (hi0+m) cap e) (cs:=cs) (cs':=cells) (e:=e) rfl htr hnew (by rw [q1];exact Nat.le_refl _) hone hge hb2
       (fun i o hi ho=>by rw [q2 _ (hlt i o hi ho),getD_rangeMap _ _ _ (hlt i o hi ho)])
       (fun i o hi ho=>by
        have hj:i*z.length+o<m*z.length:=by have:=mul_lt_le (s:=z.length) hi;omega
        rw [show (hi0+i)*z.length+o=hi0*z.length+(i*z.length+o) by rw [Nat.add_mul];omega,q3 _ hj,getD_rangeMap _ _ _ hj]
        exact hval i o hi ho) (Ad:=⟨w.heap.size,0,none⟩) (fun _=>rfl)
      exact ⟨_,_,_,_,_,hrun,hk,k3,k1,k2⟩
     rcases hx with ⟨b,A,cap,e',mm,hB,rfl,hcap,hA,hsh,hle'⟩|⟨hB,⟨A0,rfl⟩,h00⟩
     ·simp only [Nat.sub_zero] at *
      rcases hroot.out with ⟨hBn,_⟩|⟨b',cs,e2,hB',hh,⟨hsz,hone⟩,htr⟩
      ·rw [hB] at hBn;cases hBn
      ·obtain rfl:b'=b:=by rw [hB] at hB';exact (Option.some.inj hB').symm
       have hmm:mm=cs.size:=by simp [World.shape?,hh] at hsh;exact hsh.2.symm
       have hcs:cap*z.length≤cs.size:=by rw [← hmm];simpa using hle'
       have htr':∀ i o,i<hi0→o<z.length→TR w B (lkH hp) V r [(i,o)] (f i o) (cs.getD (i*z.length+o) Go.undef):=fun i o hi ho=>by simpa [getAt,cellAt] using (htr i o (by omega) ho).1
       have hncs:hi0*z.length≤cs.size:=Nat.le_trans (Nat.mul_le_mul_right _ (by omega)) hcs
       by_cases hroom:hi0+m≤cap
       ·-- there is room
        have gB:∀ w':World,w.heap.size≤w'.heap.size→(∀ k,k≠b'→w'.heap[k]?=w.heap[k]?)→(∀ k s,w.shape? k=some s→w'.shape? k=some s)→w'.os=w.os→w'.tape=w.tape→w'.output=w.output →
          Regrow w w' B B (lkH hp) (lkH (setH hp r (some ⟨ver,.own z.length (hi0+m) fun i o=>if i<hi0 then f i o else c (i - hi0) o⟩))) r (some b') ⟨ver,.own z.length (hi0+m) fun i o=>if i<hi0 then f i o else c (i - hi0) o⟩:=by
         intro w' j1 j2 j3 j4 j5 j6
         refine ⟨fun r' p=>?_,.inl hB.symm,fun b h=>?_,hlkr,j1,fun k _ hne=>j2 k (fun e=>hne (by rw [e])),j3,j4,j5,j6⟩
         ·split
          ·rename_i e;obtain ⟨rfl,rfl⟩:=e;exact hB
          ·rfl
         ·cases h;exact Nat.lt_of_lt_of_le (hr.dom _ _ _ hB).1 j1
        ·obtain rfl:=hA (by omega)
         simp only [Nat.zero_mul] at *
         have hfit:hi0*z.length+((List.range (m*z.length)).map val).length≤cs.size:=by
          have:=Nat.mul_le_mul_right z.length hroom
          rw [Nat.add_mul] at this
          simp
          omega
         obtain ⟨cs',s1,s2,s3,s4,s5,s6,s7,s8⟩:=setCells_facts ((List.range (m*z.length)).map val) (hi0*z.length) w cs hh hfit
         have hrun:=run_append_room_src w t t ty e i hu hi' b' 0 hi0 cap vy m _ hsrc' hroom (fun j hj=>by
          rw [hsize]
          have:hi0*z.length+j<cs.size:=by omega
          simp [World.cell?,hh,this]) (fun j hj=>by
          simp [World.frozen?,hh])
         rw [hsize,Nat.zero_add] at hrun
         have hlt:∀ i o,i<hi0→o<z.length→i*z.length+o<hi0*z.length:=fun i o hi ho=>by have:=mul_lt_le (s:=z.length) hi;omega
         obtain ⟨k1,k2,k3⟩:=grow_fin' hr hver hH hnode hd (gB _ (by rw [s4];exact Nat.le_refl _) s5 (fun k s hs=>by
           by_cases hk:k=b'
           ·subst hk
            simp only [World.shape?,hh] at hs
            simp only [World.shape?,s1,s2]
            exact hs
           ·simp only [World.shape?,s5 k hk];exact hs) s6 s7 s8) (b:=b') (cap:=cap) (cs:=cs) (cs':=cs') (e:=e2) rfl htr' s1 (by rw [s2];exact hcs) (fun j hj=>by
           rw [s3]
           by_cases h:hi0*z.length≤j∧j<hi0*z.length+((List.range (m*z.length)).map val).length
           ·rw [if_pos h]
            refine hsrc.one _ ?_
            simp [List.getD_eq_getElem?_getD]
            have:j - hi0*z.length<m*z.length:=by simp at h;omega
            simp [this]
            exact ⟨_,this,rfl⟩
           ·rw [if_neg h];exact hone j (by rw [← s2];exact hj)) hroom hb2
          (fun i o hi ho=>by rw [s3,if_neg (by have:=hlt i o hi ho;omega)])
          (fun i o hi ho=>by
           have hj:i*z.length+o<m*z.length:=by have:=mul_lt_le (s:=z.length) hi;omega
           rw [s3,show (hi0+i)*z.length+o=hi0*z.length+(i*z.length+o) by rw [Nat.add_mul];omega,if_pos (by simp;omega),Nat.add_sub_cancel_left,getD_rangeMap _ _ _ hj]
           exact hval i o hi ho) (Ad:=⟨b',0,none⟩) (fun _=>rfl)
         exact ⟨_,_,_,_,_,hrun,hk,k3,k1,k2⟩
       ·refine grow (some A) cap cs rfl (by omega) ?_ (fun j hj=>hone j (by omega)) htr'
        rw [hsize]
        refine run_firstCells_some w.drew z.length hi0 A hi0 cap _ (by simp) (fun j u hu=>?_)
        simp only [List.getElem?_map] at hu
        have hj:j<hi0*z.length:=by
         rcases Nat.lt_or_ge j (hi0*z.length) with h1|h1
         ·exact h1
         ·rw [List.getElem?_eq_none (by simpa using h1)] at hu;cases hu
        rw [List.getElem?_range hj] at hu
        simp only [Option.map_some,Option.some.injEq] at hu
        subst hu
        have hn0:0<hi0:=by
         rcases Nat.eq_zero_or_pos hi0 with h|h
         ·subst h;omega
         ·exact h
        rw [hA (by omega),add_plain]
        have:j<cs.size:=by omega
        simp [World.cell?,heap_drew,hh,this,Array.getD_eq_getD_getElem?]
     ·exfalso
      rcases hroot.out with ⟨_,hn0⟩|⟨b',cs,e2,hB',_⟩
      ·omega
      ·rw [hB] at hB';cases hB'
    ·exact hK.elim
  ·exact hK.elim
 ·exact hK.elim

def appendU (P:Program) (id:RId) (ver:Nat) (t:TypeId) (x y:PV):A:=match x with
 | .ref r v [] sz 0 hi => .rd r fun
  | some rt=>match shapeOf rt.node with
   | some (_,_,n) => .ifD (0=0∧hi=n) (appendA P id ver t (.ref r v [] sz 0 hi) y) (lenK y fun m => .ifD (n<hi+m) (overA P ver t r v sz hi y) (inPlaceA P t r v [] sz 0 hi y))
   | none => .fail
  | none => .fail
 | x=>appendT P id ver t x y

theorem Real.appendU {P:Program} {w:World} {B:Blocks} {hp:List (RId × Root)} {V:Nat→Prop} {ver:Nat} (hr:HR w B (lkH hp) V) (hver:¬ V ver) (id:RId) (hid:id.1≠0) (t ty:TypeId) {x y:PV} {vx vy:Value}
  (hx:VR w B (lkH hp) V x vx) (hy:VR w B (lkH hp) V y vy):Real P w B hp V ver (Builtin.append_ #[t,t] ty #[vx,vy]) (Ab.appendU P id ver t x y):=by
 intro K hK
 unfold Ab.appendU at hK
 split at hK
 ·rename_i r v sz hi
  simp only [A.wp] at hK
  cases hH:lkH hp r with
  | none=>rw [hH] at hK;exact hK.elim
  | some rt =>
   rw [hH] at hK
   simp only at hK
   split at hK
   ·rw [A.ifD_wp] at hK
    split at hK
    ·exact Real.append hr hver id hid t ty hx hy K hK
    ·obtain ⟨m,hK⟩:=lenK_wp hK
     rw [A.ifD_wp] at hK
     split at hK
     ·exact Real.over hr hver t ty hx hy K hK
     ·exact Real.inPlace hr t ty hx hy K hK
   ·exact hK.elim
 ·exact Real.appendT hr hver id hid t ty hx hy K hK
end Go.Ab
namespace Go.Ab
open Classical

def opnd (tm:List (Nat × PV)) (x:Operand) (k:PV→A):A:=match ev tm x with
 | .whn g (.whn g' v) => .vc (g=true∧g'=true) (k v)
 | .whn g v => .vc (g=true) (k v)
 | v=>k v

def opnds (tm:List (Nat × PV)):List Operand→(List PV→A)→A
 | [],k=>k []
 | x::l,k=>opnd tm x fun v=>opnds tm l fun vs=>k (v::vs)

def parts (tm:List (Nat × PV)):List (Nat × Operand)→(List (Nat × PV)→A)→A
 | [],k=>k []
 | (i,x)::l,k=>opnd tm x fun v=>parts tm l fun vs=>k ((i,v)::vs)

def opndO (tm:List (Nat × PV)) (x:Option Operand) (k:Option PV→A):A:=match x with
 | none=>k none
 | some x=>opnd tm x fun v=>k (some v)

def builtinA (P:Program) (id:RId) (ver:Nat) (tm:List (Nat × PV)) (b:Builtin) (args:List Operand) (types:List TypeId):A:=match b,args,types with
 | .len,[x],[t]=>opnd tm x fun v=>lenT P t v
 | .cap,[x],[t]=>opnd tm x fun v=>capA P t v
 | .append,[x,y],[t,t']=>if t=t' then opnd tm x fun v=>opnd tm y fun u=>appendU P id ver t v u else opnd tm x fun v=>opnd tm y fun u=>appendZA P id ver t t' v u
 | .max,[x,y],_=>opnd tm x fun v=>opnd tm y fun u=>maxA v u
 | .min,[x,y],_=>opnd tm x fun v=>opnd tm y fun u=>minA v u
 | .clear,[x],[t]=>opnd tm x fun v=>clearA P t v
 | .copy,[x,y],[t,t']=>if t=t' then opnd tm x fun v=>opnd tm y fun u=>copyA P t v u else .fail
 | _,_,_ => .fail

def opB (P:Program) (id:RId) (ver:Nat) (tm:List (Nat × PV)) (o:Op):A :=
 match o with
 | .move x => .ret (ev tm x)
 | .assign x => .ret (ev tm x)
 | .pick c a b=>opnd tm c fun c=>pickA c (ev tm a) (ev tm b)
 | .alloc t=>allocA P id ver t
 | .box _ x=>opnd tm x fun v=>boxA id ver v
 | .build t ps=>parts tm ps.toList fun l=>buildA P t l
 | .buildSlice t n ps=>parts tm ps.toList fun l=>buildSliceA P id ver t n l
 | .load t a=>opnd tm a fun v=>loadA P t v
 | .store t a x=>opnd tm a fun v=>opnd tm x fun u=>storeA P t v u
 | .nilCheck x=>opnd tm x fun v=>nilCheckA v
 | .binOp op t x y _=>opnd tm x fun v=>opnd tm y fun u=>binT P t op v u
 | .unOp op _ x=>opnd tm x fun v=>unA op v
 | .makeFunc fn first captured=>opnds tm first.toList fun l=>opnds tm captured.toList fun l' => .ret (.func fn l l')
 | .makeSlice t l c=>opnd tm l fun v=>opnd tm c fun u=>makeSliceA P id ver t v u
 | .fieldAddr t x f=>opnd tm x fun v=>fieldAddrA P t f v
 | .indexAddr t x i=>opnd tm x fun v=>opnd tm i fun u=>indexAddrA P t v u
 | .extract x i=>opnd tm x fun v=>extractA i v
 | .call { callee := .builtin b,args,argTypes }=>builtinA P id ver tm b args.toList argTypes.toList
 | .slice t x lo hi mx=>opnd tm x fun v=>opndO tm lo fun l=>opndO tm hi fun h=>opndO tm mx fun m=>sliceA P t v l h m
 | .convert s d x=>opnd tm x fun v=>convA P s d v
 | .field t x f=>opnd tm x fun v=>fieldA P t f v
 | .index t x y=>opnd tm x fun v=>opnd tm y fun u=>indexA P t v u
 | .lookup t x y ok=>opnd tm x fun v=>opnd tm y fun u=>lookupA P t ok v u
 | .mapUpdate t m k x=>opnd tm m fun v=>opnd tm k fun u=>opnd tm x fun y=>mapUpdateA P t v u y
 | .makeMap t r=>opndO tm r fun v=>makeMapA P id ver t v
 | .range t x=>opnd tm x fun v=>rangeA P id ver t v
 | .next x str=>opnd tm x fun v=>nextA str v
 | .entry x=>opnd tm x fun v=>entryA v
 | _ => .fail

def opA (P:Program) (lv ver:Nat) (tm:List (Nat × PV)) (o:Oper):A:=opB P (lv,o.dst.getD 0) ver tm o.op

def Real' (P:Program) (w:World) (B:Blocks) (hp:List (RId × Root)) (V:Nat→Prop) (ver:Nat) (m:Sem Next) (a:A):Prop :=
 ∀ K,a.wp hp K→∃ nx v w' B' hp' x,m.run P w = .ok nx w'∧(nx = .value v∨nx = .skip∧v=Go.undef)∧K x hp'∧VR w' B' (lkH hp') (ors V ver) x v∧HR w' B' (lkH hp') (ors V ver) ∧
  Mono w B (lkH hp) V w' B' (lkH hp') (ors V ver)

theorem Real.value {P w B hp V ver} {m:Sem Value} {a:A} (h:Real P w B hp V ver m a):Real' P w B hp V ver (do pure (.value (← m))) a:=by
 intro K hK
 obtain ⟨v,w',B',hp',x,e,h1,h2,h3,h4⟩:=h K hK
 exact ⟨.value v,v,w',B',hp',x,by simp [e],.inl rfl,h1,h2,h3,h4⟩

theorem Real'.opnd {P w B hp V ver} {nt:FS} {tm:List (Nat × PV)} {a:Act} {m:Sem Next} (ht:TmR w B (lkH hp) V nt tm a) (x:Operand) {k:PV→A}
  (h:∀ v,VR w B (lkH hp) V v (a.eval x)→Real' P w B hp V ver m (k v)):Real' P w B hp V ver m (Ab.opnd tm x k):=by
 intro K hK
 unfold Ab.opnd at hK
 have he:=ht.ev x
 split at hK
 ·rename_i g g' v e
  rw [e] at he
  obtain ⟨⟨hg,hg'⟩,hk⟩:=hK
  cases he with
  | whn he _ =>
   cases he hg with
   | whn he' _=>exact h v (he' hg') K hk
 ·rename_i g v _ e
  rw [e] at he
  obtain ⟨hg,hk⟩:=hK
  cases he with
  | whn he _=>exact h v (he hg) K hk
 ·exact h _ he K hK

theorem Real'.opndO {P w B hp V ver} {nt:FS} {tm:List (Nat × PV)} {a:Act} {m:Sem Next} (ht:TmR w B (lkH hp) V nt tm a) (x:Option Operand) {k:Option PV→A}
  (h:∀ v,OV w B (lkH hp) V v (x.map a.eval)→Real' P w B hp V ver m (k v)):Real' P w B hp V ver m (Ab.opndO tm x k):=by
 cases x with
 | none=>exact h none trivial
 | some x=>exact .opnd ht x fun v hv=>h (some v) hv

theorem Real'.opnds {P w B hp V ver} {nt:FS} {tm:List (Nat × PV)} {a:Act} {m:Sem Next} (ht:TmR w B (lkH hp) V nt tm a) (xs:List Operand) {k:List PV→A}
  (h:∀ vs,vs.length=xs.length→(∀ i,i<vs.length→VR w B (lkH hp) V (vs.getD i .undef) (a.eval (xs.getD i (.tmp 0))))→Real' P w B hp V ver m (k vs)):Real' P w B hp V ver m (Ab.opnds tm xs k):=by
 induction xs generalizing k with
 | nil=>exact h [] rfl (fun i hi=>by simp at hi)
 | cons x xs ih =>
  refine .opnd ht x (fun v hv=>ih (fun vs hl hvs=>h (v::vs) (by simp [hl]) (fun i hi=>?_)))
  cases i with
  | zero=>simpa using hv
  | succ i=>simpa using hvs i (by simpa using hi)

theorem Real'.parts {P w B hp V ver} {nt:FS} {tm:List (Nat × PV)} {a:Act} {m:Sem Next} (ht:TmR w B (lkH hp) V nt tm a) (xs:List (Nat × Operand)) {k:List (Nat × PV)→A}
  (h:∀ vs,vs.length=xs.length→(∀ i,i<vs.length→(vs.getD i default).1=((xs.map fun (y:Nat × Operand)=>(y.1,a.eval y.2)).getD i default).1∧VR w B (lkH hp) V (vs.getD i default).2 ((xs.map fun (y:Nat × Operand)=>(y.1,a.eval y.2)).getD i default).2) →
   Real' P w B hp V ver m (k vs)):Real' P w B hp V ver m (Ab.parts tm xs k):=by
 induction xs generalizing k with
 | nil=>exact h [] rfl (fun i hi=>by simp at hi)
 | cons x xs ih =>
  obtain ⟨j,x⟩:=x
  refine .opnd ht x (fun v hv=>ih (fun vs hl hvs=>h ((j,v)::vs) (by simp [hl]) (fun i hi=>?_)))
  cases i with
  | zero=>exact ⟨by simp,by simpa using hv⟩
  | succ i=>simpa using hvs i (by simpa using hi)

theorem Real.nilCheck {P w B hp V ver} (hr:HR w B (lkH hp) V) {ρ:Operand→Value} {x:Operand} {v:PV} {o:Oper} (ho:o.op = .nilCheck x) (hv:VR w B (lkH hp) V v (ρ x)) :
  Real' P w B hp V ver (execOp ρ o) (nilCheckA v):=by
 intro K hK
 have fin:∀ u:PV,K u hp→VR w B (lkH hp) V u (ρ x)→(execOp ρ o).run P w = .ok (.value (ρ x)) w→∃ nx v w' B' hp' x',(execOp ρ o).run P w = .ok nx w'∧(nx = .value v∨nx = .skip∧v=Go.undef)∧K x' hp' ∧
   VR w' B' (lkH hp') (ors V ver) x' v∧HR w' B' (lkH hp') (ors V ver)∧Mono w B (lkH hp) V w' B' (lkH hp') (ors V ver) :=
  fun u hk hu e=>⟨_,_,w,B,hp,u,e,.inl rfl,hk,hu.mono (Mono.more ..),hr.more ver,Mono.more ..⟩
 unfold nilCheckA at hK
 split at hK
 ·refine fin _ hK hv ?_
  cases hx:ρ x <;> rw [hx] at hv <;> first|(cases hv;done)|skip
  cases hv
  simp [execOp,ho,hx]
 ·rename_i r ver' p i o'
  simp only [A.wp] at hK
  cases hH:lkH hp r with
  | none=>rw [hH] at hK;exact hK.elim
  | some rt =>
   rw [hH] at hK
   have hv':=hv
   cases hv with
   | ptr _ h =>
    obtain ⟨_,_,_,b,_,_,_,_,e⟩:=h rt hH hK.1
    exact fin _ hK.2 hv' (by simp [execOp,ho,e])
 ·have hv':=hv
  cases hx:ρ x <;> rw [hx] at hv <;> first|(cases hv;done)|skip
  cases hv
  exact fin _ hK hv' (by simp [execOp,ho,hx])
 ·have hv':=hv
  cases hx:ρ x <;> rw [hx] at hv <;> first|(cases hv;done)|skip
  cases hv
  exact fin _ hK hv' (by simp [execOp,ho,hx])
 ·exact hK.elim

theorem opA_real {P w B hp V ver} {lv:Nat} {nt:FS} {tm:List (Nat × PV)} {a:Act} (hlv:lv≠0) (hr:HR w B (lkH hp) V) (hver:¬ V ver) (ht:TmR w B (lkH hp) V nt tm a) (o:Oper) :
  Real' P w B hp V ver (execOp a.eval o) (opA P lv ver tm o):=by
 unfold opA opB
 split
 ·rename_i x ho
  intro K hK
  exact ⟨_,_,w,B,hp,_,by simp [execOp,ho],.inl rfl,hK,(ht.ev x).mono (Mono.more ..),hr.more ver,Mono.more ..⟩
 ·rename_i x ho
  intro K hK
  exact ⟨_,_,w,B,hp,_,by simp [execOp,ho],.inl rfl,hK,(ht.ev x).mono (Mono.more ..),hr.more ver,Mono.more ..⟩
 ·rename_i c x y ho
  refine .opnd ht c (fun v hv=>?_)
  have:=(Real.pick (P:=P) (ver:=ver) hr hv (ht.ev x) (ht.ev y)).value
  simpa [execOp,ho] using this
 ·rename_i t ho
  have:=(Real.alloc (P:=P) hr hver (lv,o.dst.getD 0) hlv t).value
  simpa [execOp,ho] using this
 ·rename_i t x ho
  refine .opnd ht x (fun v hv=>?_)
  have:=(Real.box (P:=P) hr hver (lv,o.dst.getD 0) hlv t hv).value
  simpa [execOp,ho] using this
 ·rename_i t ps ho
  refine .parts ht _ (fun vs hl hvs=>?_)
  have:=(Real.build (P:=P) (ver:=ver) hr t (vs:=ps.map fun (y:Nat × Operand)=>(y.1,a.eval y.2)) (by simpa using hl) (by simpa using hvs)).value
  simpa [execOp,ho] using this
 ·rename_i t n ps ho
  refine .parts ht _ (fun vs hl hvs=>?_)
  have:=(Real.buildSlice (P:=P) hr hver (lv,o.dst.getD 0) hlv t n (vs:=ps.map fun (y:Nat × Operand)=>(y.1,a.eval y.2)) (by simpa using hl) (by simpa using hvs)).value
  simpa [execOp,ho] using this
 ·rename_i t x ho
  refine .opnd ht x (fun v hv=>?_)
  have:=(Real.load (P:=P) (ver:=ver) hr t hv).value
  simpa [execOp,ho] using this
 ·rename_i t x y ho
  refine .opnd ht x (fun v hv => .opnd ht y (fun u hu=>?_))
  intro K hK
  obtain ⟨v',w',B',hp',x',e,h1,h2,h3,h4⟩:=Real.store (P:=P) (ver:=ver) hr t hv hu K hK
  have:(Instr.storeAt t (a.eval x) (a.eval y)).run P w = .ok () w'∧v'=Go.undef:=by
   simp only [Sem.run_bind,Sem.run_pure] at e
   cases hs:(Instr.storeAt t (a.eval x) (a.eval y)).run P w with
   | ok u w2=>rw [hs] at e;simp at e;exact ⟨by rw [e.2],e.1.symm⟩
   | halt _ _=>rw [hs] at e;simp at e
  exact ⟨.skip,v',w',B',hp',x',by simp [execOp,ho,this.1],.inr ⟨rfl,this.2⟩,h1,h2,h3,h4⟩
 ·rename_i x ho
  exact .opnd ht x (fun v hv=>Real.nilCheck hr ho hv)
 ·rename_i op t x y t' ho
  refine .opnd ht x (fun v hv => .opnd ht y (fun u hu=>?_))
  have:=(Real.binT (P:=P) (ver:=ver) hr op t x y hv hu).value
  simpa [execOp,ho] using this
 ·rename_i op t x ho
  refine .opnd ht x (fun v hv=>?_)
  have:=(Real.un (P:=P) (ver:=ver) hr op hv).value
  simpa [execOp,ho] using this
 ·rename_i fn first captured ho
  refine .opnds ht _ (fun vs hl hvs => .opnds ht _ (fun us hl' hus=>?_))
  intro K hK
  refine ⟨.value (.func fn (first.map a.eval) (captured.map a.eval)),_,w,B,hp,_,by simp [execOp,ho,Instr.makeFunc],.inl rfl,hK,?_,hr.more ver,Mono.more ..⟩
  refine VR.mono (Mono.more ..) (.func (by simpa using hl) (by simpa using hl') (fun i hi=>?_) (fun i hi=>?_))
  ·have:=hvs i hi
   have hi':i<first.size:=by rw [hl] at hi;simpa using hi
   simpa [List.getD_eq_getElem?_getD,Array.getD_eq_getD_getElem?,hi'] using this
  ·have:=hus i hi
   have hi':i<captured.size:=by rw [hl'] at hi;simpa using hi
   simpa [List.getD_eq_getElem?_getD,Array.getD_eq_getD_getElem?,hi'] using this
 ·rename_i t x y ho
  refine .opnd ht x (fun v hv => .opnd ht y (fun u hu=>?_))
  have:=(Real.makeSlice (P:=P) hr hver (lv,o.dst.getD 0) hlv t hv hu).value
  simpa [execOp,ho] using this
 ·rename_i t x f ho
  refine .opnd ht x (fun v hv=>?_)
  have:=(Real.fieldAddr (P:=P) (ver:=ver) hr t f hv).value
  simpa [execOp,ho] using this
 ·rename_i t x y ho
  refine .opnd ht x (fun v hv => .opnd ht y (fun u hu=>?_))
  have:=(Real.indexAddr (P:=P) (ver:=ver) hr t hv hu).value
  simpa [execOp,ho] using this
 ·rename_i x i ho
  refine .opnd ht x (fun v hv=>?_)
  have:=(Real.extract (P:=P) (ver:=ver) hr i hv).value
  simpa [execOp,ho] using this
 ·rename_i b args argTypes ho
  unfold builtinA
  split
  ·rename_i x t hx htt
   refine .opnd ht x (fun v hv=>?_)
   have:=(Real.lenT (P:=P) (ver:=ver) hr t o.type hv).value
   have h1:args=#[x]:=by apply Array.ext';simpa using hx
   have h2:argTypes=#[t]:=by apply Array.ext';simpa using htt
   simpa [execOp,ho,resolve,invoke,builtin,h1,h2] using this
  ·rename_i x t hx htt
   refine .opnd ht x (fun v hv=>?_)
   have:=(Real.cap (P:=P) (ver:=ver) hr t o.type hv).value
   have h1:args=#[x]:=by apply Array.ext';simpa using hx
   have h2:argTypes=#[t]:=by apply Array.ext';simpa using htt
   simpa [execOp,ho,resolve,invoke,builtin,h1,h2] using this
  ·rename_i x y t t' hx htt
   split
   ·rename_i e
    subst e
    refine .opnd ht x (fun v hv => .opnd ht y (fun u hu=>?_))
    have:=(Real.appendU (P:=P) hr hver (lv,o.dst.getD 0) hlv t o.type hv hu).value
    have h1:args=#[x,y]:=by apply Array.ext';simpa using hx
    have h2:argTypes=#[t,t]:=by apply Array.ext';simpa using htt
    simpa [execOp,ho,resolve,invoke,builtin,h1,h2] using this
   ·refine .opnd ht x (fun v hv => .opnd ht y (fun u hu=>?_))
    have:=(Real.appendZ (P:=P) hr hver (lv,o.dst.getD 0) hlv t t' o.type hv hu).value
    have h1:args=#[x,y]:=by apply Array.ext';simpa using hx
    have h2:argTypes=#[t,t']:=by apply Array.ext';simpa using htt
    simpa [execOp,ho,resolve,invoke,builtin,h1,h2] using this
  ·rename_i x y hx
   refine .opnd ht x (fun v hv => .opnd ht y (fun u hu=>?_))
   have:=(Real.max (P:=P) (ver:=ver) hr argTypes o.type hv hu).value
   have h1:args=#[x,y]:=by apply Array.ext';simpa using hx
   simpa [execOp,ho,resolve,invoke,builtin,h1] using this
  ·rename_i x y hx
   refine .opnd ht x (fun v hv => .opnd ht y (fun u hu=>?_))
   have:=(Real.min (P:=P) (ver:=ver) hr argTypes o.type hv hu).value
   have h1:args=#[x,y]:=by apply Array.ext';simpa using hx
   simpa [execOp,ho,resolve,invoke,builtin,h1] using this
  ·rename_i x t hx htt
   refine .opnd ht x (fun v hv=>?_)
   have:=(Real.clear (P:=P) (ver:=ver) hr t o.type hv).value
   have h1:args=#[x]:=by apply Array.ext';simpa using hx
   have h2:argTypes=#[t]:=by apply Array.ext';simpa using htt
   simpa [execOp,ho,resolve,invoke,builtin,h1,h2] using this
  ·rename_i x y t t' hx htt
   split
   ·rename_i e
    subst e
    refine .opnd ht x (fun v hv => .opnd ht y (fun u hu=>?_))
    have:=(Real.copy (P:=P) (ver:=ver) hr t o.type hv hu).value
    have h1:args=#[x,y]:=by apply Array.ext';simpa using hx
    have h2:argTypes=#[t,t]:=by apply Array.ext';simpa using htt
    simpa [execOp,ho,resolve,invoke,builtin,h1,h2] using this
   ·intro K hK;exact hK.elim
  ·intro K hK;exact hK.elim
 ·rename_i t x lo hi mx ho
  refine .opnd ht x (fun v hv => .opndO ht lo (fun l hl => .opndO ht hi (fun h hh => .opndO ht mx (fun m hm=>?_))))
  have:=(Real.slice (P:=P) (ver:=ver) hr t hv hl hh hm).value
  simpa [execOp,ho] using this
 ·rename_i s d x ho
  refine .opnd ht x (fun v hv=>?_)
  have:=(Real.conv (P:=P) (ver:=ver) hr s d hv).value
  simpa [execOp,ho] using this
 ·rename_i t x f ho
  refine .opnd ht x (fun v hv=>?_)
  have:=(Real.field (P:=P) (ver:=ver) hr t f hv).value
  simpa [execOp,ho] using this
 ·rename_i t x y ho
  refine .opnd ht x (fun v hv => .opnd ht y (fun u hu=>?_))
  have:=(Real.index (P:=P) (ver:=ver) hr t hv hu).value
  simpa [execOp,ho] using this
 ·rename_i t x y ok ho
  refine .opnd ht x (fun v hv => .opnd ht y (fun u hu=>?_))
  have:=(Real.lookup (P:=P) (ver:=ver) hr t ok hv hu).value
  simpa [execOp,ho] using this
 ·rename_i t m k x ho
  refine .opnd ht m (fun v hv => .opnd ht k (fun u hu => .opnd ht x (fun y hy=>?_)))
  intro K hK
  obtain ⟨v',w',B',hp',x',e,h1,h2,h3,h4⟩:=Real.mapUpdate (P:=P) (ver:=ver) hr t hv hu hy K hK
  have:(Instr.mapUpdate t (a.eval m) (a.eval k) (a.eval x)).run P w = .ok () w'∧v'=Go.undef:=by
   simp only [Sem.run_bind,Sem.run_pure] at e
   cases hs:(Instr.mapUpdate t (a.eval m) (a.eval k) (a.eval x)).run P w with
   | ok u w2=>rw [hs] at e;simp at e;exact ⟨by rw [e.2],e.1.symm⟩
   | halt _ _=>rw [hs] at e;simp at e
  exact ⟨.skip,v',w',B',hp',x',by simp [execOp,ho,this.1],.inr ⟨rfl,this.2⟩,h1,h2,h3,h4⟩
 ·rename_i t r ho
  refine .opndO ht r (fun v hv=>?_)
  have:=(Real.makeMap (P:=P) hr hver (lv,o.dst.getD 0) hlv t hv).value
  simpa [execOp,ho] using this
 ·rename_i t x ho
  refine .opnd ht x (fun v hv=>?_)
  have:=(Real.range (P:=P) hr hver (lv,o.dst.getD 0) hlv t hv).value
  simpa [execOp,ho] using this
 ·rename_i x str ho
  refine .opnd ht x (fun v hv=>?_)
  have:=(Real.next (P:=P) (ver:=ver) hr str o.type hv).value
  simpa [execOp,ho] using this
 ·rename_i x ho
  refine .opnd ht x (fun v hv=>?_)
  have:=(Real.entry (P:=P) (ver:=ver) hr hv).value
  simpa [execOp,ho] using this
 ·intro K hK;exact hK.elim
end Go.Ab
namespace Go.Ab
open Classical

def leafy:PV→Prop
 | .int .. | .bool _ | .str _ | .nilp | .nilf | .nilm | .nili | .nils | .ref .. | .ptr .. | .sref .. | .undef=>True
 | .own _ n f=>∀ i o,i<n→leafy (f i o)
 | _=>False

def leafyL:PV→Prop
 | .agg l=>∀ c∈l,leafy c
 | .tup l=>∀ c∈l,leafy c
 | x=>leafy x

def plainArg:PV→Prop
 | .int .. | .bool _ | .str _ | .nilp | .nilf | .nilm | .nili | .nils | .frz .. | .fptr .. | .fcl .. | .fmap ..=>True
 | _=>False
def plainArgL:PV→Prop
 | .agg l=>∀ c∈l,plainArg c
 | .func _ l l'=>(∀ c∈l,plainArg c)∧∀ c∈l',plainArg c
 | x=>plainArg x

noncomputable def callerB (S:Nat→Prop):Blocks:=fun r p=>if r=(0,0) then match p with
 | [(b,0)]=>if S b then some b else none
 | _=>none
 else none

theorem callerB_some {S:Nat→Prop} {r:RId} {p:Path} {b:Nat} (h:callerB S r p=some b):S b∧r=(0,0)∧p=[(b,0)]:=by
 unfold callerB at h
 split at h
 ·rename_i hr
  split at h
  ·split at h
   ·cases h;exact ⟨by assumption,hr,rfl⟩
   ·cases h
  ·cases h
 ·cases h

theorem callerB_at {S:Nat→Prop} {b:Nat} (h:S b):callerB S (0,0) [(b,0)]=some b:=by simp [callerB,h]

theorem callerB_HR {w:World} {S:Nat→Prop} (hS:∀ b,S b→b<w.heap.size):HR w (callerB S) H0 V0 where
 root r rt h:=by cases h
 ver r rt h:=by cases h
 dom r p b h:=by
  obtain ⟨h1,rfl,rfl⟩:=callerB_some h
  exact ⟨hS b h1,.inl rfl⟩
 lev r rt h:=by cases h
 inj r p r' p' b h h':=by
  obtain ⟨_,rfl,rfl⟩:=callerB_some h
  obtain ⟨_,rfl,rfl⟩:=callerB_some h'
  exact ⟨rfl,rfl⟩

theorem VR.conv {w:World} {B B':Blocks} {H:Roots} {V:Nat→Prop} {x:PV} {v:Value} (h:VR w B H V x v) (hH:H=H0) (hV:V=V0) (hb:∀ b,b<w.heap.size→free B b→free B' b):VR w B' H0 V0 x v:=by
 induction h with
 | undef v=>exact .undef v
 | int k n=>exact .int k n
 | bool b=>exact .bool b
 | str s=>exact .str s
 | nilp=>exact .nilp
 | nilf=>exact .nilf
 | nilm=>exact .nilm
 | nili=>exact .nili
 | nils=>exact .nils
 | agg hl _ ih=>exact .agg hl (fun i hi=>ih i hi hH hV)
 | tup hl _ ih=>exact .tup hl (fun i hi=>ih i hi hH hV)
 | whn _ h' ih=>exact .whn (fun hg=>ih hg hH hV) h'
 | frz hn hmx hA _ ih =>
  refine .frz hn hmx (fun h0=>?_) (fun i o hi ho=>ih i o hi ho rfl rfl)
  obtain ⟨b,off,e,hf,hlt,hc⟩:=hA h0
  exact ⟨b,off,e,hb b hlt hf,hlt,hc⟩
 | fptr ho hf hlt hc _ ih=>exact .fptr ho (hb _ hlt hf) hlt hc (fun j hj=>ih j hj rfl rfl)
 | ref hv h=>subst hV;exact hv.elim
 | ptr hv h=>subst hV;exact hv.elim
 | func hl hl' _ _ ih ih'=>exact .func hl hl' (fun i hi=>ih i hi hH hV) (fun i hi=>ih' i hi hH hV)
 | iface _ ih=>exact .iface (ih hH hV)
 | fcl hmx hA _ ih =>
  refine .fcl hmx (fun h0=>?_) (fun i o hi ho=>ih i o hi ho rfl rfl)
  obtain ⟨b,off,e,hf,hlt,hc⟩:=hA h0
  exact ⟨b,off,e,hb b hlt hf,hlt,hc⟩
 | sref hv h=>subst hV;exact hv.elim
 | fmap hf hh hn _ _ ihk ihv=>exact .fmap (hb _ (lt_of_get hh) hf) hh hn (fun i hi=>ihk i hi rfl rfl) (fun i hi=>ihv i hi rfl rfl)

theorem VR.leafy {w w':World} {B B':Blocks} {x:PV} {v:Value} (h:VR w B H0 V0 x v) (hl:Ab.leafy x):VR w' B' H0 V0 x v:=by
 cases h <;> first|(constructor;done)|exact hl.elim|skip
 ·rename_i hv _;exact hv.elim
 ·rename_i hv _;exact hv.elim
 ·rename_i hv _;exact hv.elim

theorem VR.leafyL {w w':World} {B B':Blocks} {x:PV} {v:Value} (h:VR w B H0 V0 x v) (hl:Ab.leafyL x):VR w' B' H0 V0 x v:=by
 cases h with
 | @agg _ _ l cs hs h=>exact .agg hs (fun i hi=>(h i hi).leafy (hl _ (by simp [List.getD_eq_getElem?_getD,hi,List.getElem_mem])))
 | @tup _ _ l cs hs h=>exact .tup hs (fun i hi=>(h i hi).leafy (hl _ (by simp [List.getD_eq_getElem?_getD,hi,List.getElem_mem])))
 | whn _ _=>exact hl.elim
 | frz _ _ _ _=>exact hl.elim
 | fptr _ _ _ _ _=>exact hl.elim
 | func _ _ _ _=>exact hl.elim
 | iface _=>exact hl.elim
 | fcl _ _ _=>exact hl.elim
 | fmap _ _ _ _ _=>exact hl.elim
 | sref hv _=>exact hv.elim
 | ref hv _=>exact hv.elim
 | ptr hv _=>exact hv.elim
 | undef=>exact .undef _
 | int=>exact .int _ _
 | bool=>exact .bool _
 | str=>exact .str _
 | nilp=>exact .nilp
 | nilf=>exact .nilf
 | nilm=>exact .nilm
 | nili=>exact .nili
 | nils=>exact .nils

theorem VR.plain {w:World} {B:Blocks} {H:Roots} {V:Nat→Prop} {x:PV} {v:Value} (h:VR w B H V x v) (hp:plainArg x):VR w B H0 V0 x v:=by
 cases h <;> first|(constructor;done)|exact hp.elim|skip
 ·rename_i h1 h2 h3 h4;exact .frz h1 h2 h3 h4
 ·rename_i h1 h2 h3 h4 h5;exact .fptr h1 h2 h3 h4 h5
 ·rename_i h1 h2 h3;exact .fcl h1 h2 h3
 ·rename_i h1 h2 h3 h4 h5;exact .fmap h1 h2 h3 h4 h5

theorem VR.plainL {w:World} {B:Blocks} {H:Roots} {V:Nat→Prop} {x:PV} {v:Value} (h:VR w B H V x v) (hp:plainArgL x):VR w B H0 V0 x v:=by
 cases h with
 | @agg _ _ l cs hs h=>exact .agg hs (fun i hi=>(h i hi).plain (hp _ (by simp [List.getD_eq_getElem?_getD,hi,List.getElem_mem])))
 | @func _ _ fn l l' cs cs' hs hs' h h'=>exact .func hs hs' (fun i hi=>(h i hi).plain (hp.1 _ (by simp [List.getD_eq_getElem?_getD,hi,List.getElem_mem]))) (fun i hi=>(h' i hi).plain (hp.2 _ (by simp [List.getD_eq_getElem?_getD,hi,List.getElem_mem])))
 | tup _ _=>exact hp.elim
 | whn _ _=>exact hp.elim
 | frz h1 h2 h3 h4=>exact .frz h1 h2 h3 h4
 | fptr h1 h2 h3 h4 h5=>exact .fptr h1 h2 h3 h4 h5
 | iface _=>exact hp.elim
 | fcl h1 h2 h3=>exact .fcl h1 h2 h3
 | fmap h1 h2 h3 h4 h5=>exact .fmap h1 h2 h3 h4 h5
 | sref _ _=>exact hp.elim
 | ref _ _=>exact hp.elim
 | ptr _ _=>exact hp.elim
 | undef=>exact .undef _
 | int=>exact .int _ _
 | bool=>exact .bool _
 | str=>exact .str _
 | nilp=>exact .nilp
 | nilf=>exact .nilf
 | nilm=>exact .nilm
 | nili=>exact .nili
 | nils=>exact .nils

theorem VR.swap {w:World} {B B':Blocks} {H:Roots} {V:Nat→Prop} {x:PV} {v:Value} (h:VR w B H V x v) (hl:Ab.leafy x) (hB:∀ r rt,H r=some rt→∀ p,B' r p=B r p):VR w B' H V x v:=by
 cases h <;> first|(constructor;done)|exact hl.elim|skip
 ·rename_i hv h
  refine .ref hv (fun rt hr he=>?_)
  obtain ⟨n,h1,h2,h3,h4⟩:=h rt hr he
  rw [← hB _ rt hr] at h4
  exact ⟨n,h1,h2,h3,h4⟩
 ·rename_i hv h
  refine .ptr hv (fun rt hr he=>?_)
  obtain ⟨q,sz,n,b,h1,h2,h3,h4,h5⟩:=h rt hr he
  rw [← hB _ rt hr] at h4
  exact ⟨q,sz,n,b,h1,h2,h3,h4,h5⟩
 ·rename_i hv h
  refine .sref hv (fun rt hr he=>?_)
  obtain ⟨b,h1,h2,h3⟩:=h rt hr he
  rw [← hB _ rt hr] at h2
  exact ⟨b,h1,h2,h3⟩

theorem VR.swapL {w:World} {B B':Blocks} {H:Roots} {V:Nat→Prop} {x:PV} {v:Value} (h:VR w B H V x v) (hl:Ab.leafyL x) (hB:∀ r rt,H r=some rt→∀ p,B' r p=B r p):VR w B' H V x v:=by
 by_cases ha:∃ l,x = .agg l∨x = .tup l
 ·obtain ⟨l,rfl|rfl⟩:=ha
  ·cases h with
   | agg hs h=>exact .agg hs (fun i hi=>(h i hi).swap (hl _ (by simp [List.getD_eq_getElem?_getD,hi,List.getElem_mem])) hB)
  ·cases h with
   | tup hs h=>exact .tup hs (fun i hi=>(h i hi).swap (hl _ (by simp [List.getD_eq_getElem?_getD,hi,List.getElem_mem])) hB)
 ·refine h.swap ?_ hB
  cases x <;> first|exact hl|(exfalso;exact ha ⟨_,.inl rfl⟩)|(exfalso;exact ha ⟨_,.inr rfl⟩)

theorem TR.swap {w:World} {B B':Blocks} {H:Roots} {V:Nat→Prop} {r:RId} {p:Path} {x:PV} {v:Value} (h:TR w B H V r p x v) (hl:Ab.leafy x) (hB:∀ r rt,H r=some rt→∀ p,B' r p=B r p) (hr:∀ p,B' r p=B r p):TR w B' H V r p x v:=by
 induction h with
 | leaf h=>exact .leaf (h.swap hl hB)
 | own hA hB' hh hc hn hm _ ih=>exact .own hA ((hr _).trans hB') hh hc hn hm (fun i o hi ho=>ih i o hi ho (hl i o hi))
 | nil hB'=>exact .nil ((hr _).trans hB')

def YieldA (P:Program) (r:RId) (v:Nat) (args:List PV) (hp:List (RId × Root)) (nv:Nat) (Post:PV→List (RId × Root)→Nat→Prop):Prop :=
 ∃ rt li c,lkH hp r=some rt∧rt.ver=v∧rt.node = .oloop li c∧li.st = .ready∧args.length=li.params.size ∧
  ∀ (w:World) (B:Blocks) (cs:Array Value) (l:Nat) (tmps:Array Value) (d:Nat) (fn:FuncId) (ro:Option Nat),HR w B (lkH hp) (·<nv)→LR w B (lkH hp) (·<nv) args cs→B r []=some l →
   w.heap[l]?=some (.loop { state:=li.st,pending:=li.pend,fn:=fn,tmps:=tmps,params:=li.params,assign:=li.assign,body:=li.body,defers:=d }) →
   (∀ t,VR w B (lkH hp) (·<nv) (c t) (tmps.getD t Go.undef))→tmps.size=li.nt →
   RoundIn { Fence.wide with round:=ro } 0 P l fn ((li.params.zip cs).foldl (fun tmps (t,a)=>tmps.setIfInBounds t a) tmps) li.assign li.body w fun e w' =>
    ∃ v B' res hp' nv',e = .returned v∧Post res hp' nv'∧VR w' B' (lkH hp') (·<nv') res v∧HR w' B' (lkH hp') (·<nv')∧Mono w B (lkH hp) (·<nv) w' B' (lkH hp') (·<nv')

theorem roundIn_mono {F:Fence} {n:Nat} {P:Program} {l:Nat} {f:FuncId} {tmps:Array Value} {assign body:Code} {w:World} {R R':Ending→World→Prop} (h:RoundIn F n P l f tmps assign body w R) (hR:∀ e w',R e w'→R' e w'):RoundIn F n P l f tmps assign body w R' :=
 ⟨h.1,fun c cs hr=>by obtain ⟨e,w',h1,h2⟩:=h.2 c cs hr;exact ⟨e,w',hR e w' h1,h2⟩⟩

inductive CallWp (P:Program) (id:RId) (ver:Nat) (f:FuncId) (args:List PV) (hp:List (RId × Root)) (nv:Nat) (K:PV→List (RId × Root)→Nat→Prop):Prop
 | frozen (res:PV) (h:CallsF P f args res) (hpl:∀ c∈args,plainArgL c) (k:K res hp nv)
 | plain (res:PV) (h:CallsF P f (args.map (view 9 hp)) res) (hr:leafyL res) (k:K res hp nv)
 | own (node:PV) (res:RId→Nat→PV) (h:CallsO P f args node res) (hpl:∀ c∈args,plainArgL c) (k:K (res id ver) (setH hp id (some ⟨ver,node⟩)) nv)
 | ownPlain (sz n:Nat) (g:Nat→Nat→PV) (res:RId→Nat→PV) (h:CallsO P f (args.map (view 9 hp)) (.own sz n g) res) (hr:leafyL (res id ver)) (hg:∀ i o,i<n→leafy (g i o)) (k:K (res id ver) (setH hp id (some ⟨ver,.own sz n g⟩)) nv)
 | on (Post:PV→List (RId × Root)→Nat→Prop) (h:CallsA P f args hp nv Post) (k:∀ res hp' nv',Post res hp' nv'→K res hp' nv')

theorem LR.map {w w':World} {B B':Blocks} {H H':Roots} {V V':Nat→Prop} {l:List PV} {cs:Array Value} (h:LR w B H V l cs) {g:PV→PV} (hg:∀ x v,x∈l→VR w B H V x v→VR w' B' H' V' (g x) v):LR w' B' H' V' (l.map g) cs :=
 ⟨by simpa using h.len,fun i hi=>by simp at hi;rw [getD_map _ _ _ hi];exact hg _ _ (by simp [List.getD_eq_getElem?_getD,hi,List.getElem_mem]) (h.val i hi)⟩

theorem LR.turn {w w':World} {B B':Blocks} {H H':Roots} {V V':Nat→Prop} {l:List PV} {cs:Array Value} (h:LR w B H V l cs) (hg:∀ x v,x∈l→VR w B H V x v→VR w' B' H' V' x v):LR w' B' H' V' l cs :=
 ⟨h.len,fun i hi=>hg _ _ (by simp [List.getD_eq_getElem?_getD,hi,List.getElem_mem]) (h.val i hi)⟩

theorem caller_mono {w w':World} {B Bc B':Blocks} {H H':Roots} {V V':Nat→Prop} (hr:HR w B H V) {Hc:Roots} {Vc:Nat→Prop} (hm:Mono w Bc H0 V0 w' B' Hc Vc)
  (hB:∀ b,b<w.heap.size→w'.heap[b]?=w.heap[b]?) (hV:∀ n,V n→V' n) (hH:∀ r rt,H' r=some rt→¬ V rt.ver∨H r=some rt) (B2:Blocks) (hB2:∀ r p,r.1=0→B2 r p=B r p)
  (hB3:∀ r rt,H' r=some rt→V rt.ver→∀ p,B2 r p=B r p) (hB4:∀ r p b,B2 r p=some b→w.heap.size≤b∨B r p=some b):Mono w B H V w' B2 H' V' where
 size:=hm.size
 free b hb hf:=⟨fun r p h=>by
  rcases hB4 r p b h with h1|h1
  ·omega
  ·exact hf r p h1,hB b hb⟩
 foreign r p b h0 h:=⟨(hB2 r p h0).trans h,hB b (hr.dom _ _ _ h).1⟩
 fresh r p b h:=(hB4 r p b h).imp id (fun h=>⟨r,p,h⟩)
 shape:=hm.shape
 vers:=hV
 root r rt h:=by
  by_cases hv:V rt.ver
  ·rcases hH r rt h with h1|h1
   ·exact absurd hv h1
   ·exact .inr ⟨rt,h1,rfl,fun p s hp=>⟨hp,hB3 r rt h hv p⟩⟩
  ·exact .inl hv
 os:=hm.os
 tape:=hm.tape
 output:=hm.output

theorem untouched {w w':World} {S:Nat→Prop} {B':Blocks} {Hc:Roots} {Vc:Nat→Prop} (hm:Mono w (callerB S) H0 V0 w' B' Hc Vc) (b:Nat) (hb:b<w.heap.size):w'.heap[b]?=w.heap[b]?:=by
 by_cases hS:S b
 ·exact (hm.foreign (0,0) _ b rfl (callerB_at hS)).2
 ·exact (hm.free b hb (fun r p h=>hS (callerB_some h).1)).2

theorem CallWp.sound {P:Program} {id:RId} {ver:Nat} {f:FuncId} {args:List PV} {hp:List (RId × Root)} {nv:Nat} {K:PV→List (RId × Root)→Nat→Prop} (hid:id.1≠0)
  (hcall:CallWp P id ver f args hp nv K) {w:World} {B:Blocks} {cs:Array Value} (hv1:nv≤ver) {top:Nat} (htop:ver<top)
  (hr:HR w B (lkH hp) (·<nv)) (ha:LR w B (lkH hp) (·<nv) args cs) :
  Enters P f∧Calls P f cs w fun e w'=>∃ v B' res hp' nv',e = .returned v∧K res hp' nv'∧VR w' B' (lkH hp') (·<max top nv') res v∧HR w' B' (lkH hp') (·<max top nv') ∧
   Mono w B (lkH hp) (·<nv) w' B' (lkH hp') (·<max top nv'):=by
 have hVup:∀ nv' n,nv≤nv'→n<nv→n<max top nv':=fun nv' n h h'=>by omega
 have hF:∀ (S:Nat→Prop),(∀ b,S b→b<w.heap.size)→∀ (az:List PV) (res:PV),CallsF P f az res→LR w (callerB S) H0 V0 az cs→(∀ w' B' v,Mono w (callerB S) H0 V0 w' B' H0 V0→VR w' B' H0 V0 res v→VR w' B H0 V0 res v)→K res hp nv →
   Enters P f∧Calls P f cs w fun e w'=>∃ v B' res hp' nv',e = .returned v∧K res hp' nv'∧VR w' B' (lkH hp') (·<max top nv') res v∧HR w' B' (lkH hp') (·<max top nv') ∧
    Mono w B (lkH hp) (·<nv) w' B' (lkH hp') (·<max top nv'):=by
  intro S hS az res hc hargs hback hk
  refine ⟨hc.1,(hc.2 w (callerB S) cs (callerB_HR hS) hargs).mono fun e w' he=>?_⟩
  obtain ⟨v,B',rfl,hv,hm⟩:=he
  have hm':Mono w B (lkH hp) (·<nv) w' B (lkH hp) (·<max top nv) :=
   caller_mono hr hm (fun b hb=>untouched hm b hb) (fun n hn=>by omega) (fun r rt h => .inr h) B (fun _ _ _=>rfl) (fun _ _ _ _ _=>rfl) (fun r p b h => .inr h)
  refine ⟨v,B,res,hp,nv,rfl,hk,(hback w' B' v hm hv).lift (fun _ _ _ h=>h),⟨fun r rt h=>(hr.root r rt h).mono hm' (fun t s ht=>⟨rfl,fun b hb=>untouched hm b (hr.dom _ _ _ hb).1⟩),fun r rt h=>by have:=hr.ver r rt h;omega,fun r p b h=>?_,hr.lev,hr.inj⟩,hm'⟩
  obtain ⟨h1,h2⟩:=hr.dom r p b h
  exact ⟨Nat.lt_of_lt_of_le h1 hm.size,h2⟩
 have hO:∀ (S:Nat→Prop),(∀ b,S b→b<w.heap.size)→∀ (az:List PV) (node:PV) (res:RId→Nat→PV),CallsO P f az node res→LR w (callerB S) H0 V0 az cs →
   (∀ w' B' B2 v,Mono w (callerB S) H0 V0 w' B' (one id ⟨ver,node⟩) (·=ver)→HR w' B' (one id ⟨ver,node⟩) (·=ver)→(∀ p,B2 id p=B' id p)→(∀ r p b,r≠id→B2 r p=some b→B r p=some b) →
    (VR w' B' (one id ⟨ver,node⟩) (·=ver) (res id ver) v→VR w' B2 (one id ⟨ver,node⟩) (·=ver) (res id ver) v)∧(RootOK w' B' (one id ⟨ver,node⟩) (·=ver) id node→RootOK w' B2 (one id ⟨ver,node⟩) (·=ver) id node)) →
   K (res id ver) (setH hp id (some ⟨ver,node⟩)) nv →
   Enters P f∧Calls P f cs w fun e w'=>∃ v B' res hp' nv',e = .returned v∧K res hp' nv'∧VR w' B' (lkH hp') (·<max top nv') res v∧HR w' B' (lkH hp') (·<max top nv') ∧
    Mono w B (lkH hp) (·<nv) w' B' (lkH hp') (·<max top nv'):=by
  intro S hS az node res hc hargs hback hk
  refine ⟨hc.1,(hc.2 w (callerB S) cs id ver hid (callerB_HR hS) hargs).mono fun e w' he=>?_⟩
  obtain ⟨v,B',rfl,hv,hr',hm⟩:=he
  let B2:Blocks:=fun r p=>if r=id then B' r p else B r p
  have hB2id:∀ p,B2 id p=B' id p:=fun p=>by simp [B2]
  have hB2ne:∀ r p,r≠id→B2 r p=B r p:=fun r p h=>by simp [B2,h]
  have hnew:∀ p b,B' id p=some b→w.heap.size≤b:=by
   intro p b h
   rcases hm.fresh id p b h with h1|⟨r0,p0,h1⟩
   ·exact h1
   ·obtain ⟨_,rfl,rfl⟩:=callerB_some h1
    have h2:=(hm.foreign _ _ _ rfl h1).1
    exact absurd (congrArg Prod.fst (hr'.inj _ _ _ _ _ h h2).1) hid
  have hlook:∀ r,lkH (setH hp id (some ⟨ver,node⟩)) r=if r=id then some ⟨ver,node⟩ else lkH hp r:=fun r=>lookH_setH ..
  have hm':Mono w B (lkH hp) (·<nv) w' B2 (lkH (setH hp id (some ⟨ver,node⟩))) (·<max top nv):=by
   refine caller_mono hr hm (fun b hb=>untouched hm b hb) (fun n hn=>by omega) (fun r rt h=>?_) B2 (fun r p h0=>hB2ne r p (fun e=>hid (e▸h0))) (fun r rt h hv p=>?_) (fun r p b h=>?_)
   ·rw [hlook] at h
    split at h
    ·cases h;exact .inl (by show ¬ ver<nv;omega)
    ·exact .inr h
   ·rw [hlook] at h
    split at h
    ·cases h;exact absurd hv (by show ¬ ver<nv;omega)
    ·rename_i hne;exact hB2ne r p hne
   ·by_cases hri:r=id
    ·subst hri;rw [hB2id] at h;exact .inl (hnew p b h)
    ·rw [hB2ne r p hri] at h;exact .inr h
  have hup:Mono w' B2 (one id ⟨ver,node⟩) (·=ver) w' B2 (lkH (setH hp id (some ⟨ver,node⟩))) (·<max top nv) :=
   ⟨Nat.le_refl _,fun _ _ h=>⟨h,rfl⟩,fun _ _ _ _ h=>⟨h,rfl⟩,fun r p _ h => .inr ⟨r,p,h⟩,fun _ _ h=>h,fun n hn=>by have hn':n=ver:=hn;show n<max top nv;omega,fun r rt h=>by
    rw [hlook] at h
    split at h
    ·rename_i e0
     exact .inr ⟨rt,by simp [one,e0,h],rfl,fun _ _ h=>⟨h,rfl⟩⟩
    ·refine .inl (fun he=>?_)
     have h5:rt.ver<nv:=hr.ver r rt h
     have h6:rt.ver=ver:=he
     omega,rfl,rfl,rfl⟩
  obtain ⟨hb1,hb2⟩:=hback w' B' B2 v hm hr' hB2id (fun r p b hne h=>by rw [hB2ne r p hne] at h;exact h)
  refine ⟨v,B2,res id ver,_,nv,rfl,hk,(hb1 hv).mono hup,⟨fun r rt h=>?_,fun r rt h=>?_,fun r p b h=>?_,fun r rt h=>?_,fun r p r' p' b h h'=>?_⟩,hm'⟩
  ·rw [hlook] at h
   split at h
   ·rename_i e0
    subst e0
    obtain rfl:(⟨ver,node⟩:Root)=rt:=Option.some.inj h
    exact (hb2 (hr'.root r ⟨ver,node⟩ (by simp [one]))).mono hup (fun t s ht=>⟨rfl,fun _ _=>rfl⟩)
   ·rename_i hne
    exact (hr.root r rt h).mono hm' (fun t s ht=>⟨hB2ne r t hne,fun b hb=>untouched hm b (hr.dom _ _ _ hb).1⟩)
  ·rw [hlook] at h
   split at h
   ·cases h;show ver<max top nv;omega
   ·have:=hr.ver r rt h;simp at this ⊢;omega
  ·by_cases hri:r=id
   ·subst hri
    rw [hB2id] at h
    obtain ⟨h1,h2⟩:=hr'.dom _ _ _ h
    obtain ⟨rt,s,h3,h4⟩:=h2.resolve_left hid
    simp [one] at h3
    subst h3
    exact ⟨h1,.inr ⟨_,s,by rw [hlook,if_pos rfl],h4⟩⟩
   ·rw [hB2ne r p hri] at h
    obtain ⟨h1,h2⟩:=hr.dom _ _ _ h
    refine ⟨Nat.lt_of_lt_of_le h1 hm.size,h2.imp (fun h=>h) (fun ⟨rt,s,h3,h4⟩=>⟨rt,s,by rw [hlook,if_neg hri];exact h3,h4⟩)⟩
  ·rw [hlook] at h
   split at h
   ·rename_i e0;rw [e0];exact hid
   ·exact hr.lev r rt h
  ·by_cases hri:r=id
   ·subst hri
    rw [hB2id] at h
    by_cases hri':r'=r
    ·subst hri'
     rw [hB2id] at h'
     exact hr'.inj _ _ _ _ _ h h'
    ·rw [hB2ne r' p' hri'] at h'
     have h5:=hnew p b h
     have h6:=(hr.dom _ _ _ h').1
     omega
   ·rw [hB2ne r p hri] at h
    by_cases hri':r'=id
    ·subst hri'
     rw [hB2id] at h'
     have h5:=hnew p' b h'
     have h6:=(hr.dom _ _ _ h).1
     omega
    ·rw [hB2ne r' p' hri'] at h'
     exact hr.inj _ _ _ _ _ h h'
 have hall:∀ b,(∃ r p,B r p=some b)→b<w.heap.size:=fun b ⟨r,p,h⟩=>(hr.dom r p b h).1
 have hfreeAll:∀ b,free B b→free (callerB fun b=>∃ r p,B r p=some b) b:=fun b hf r p h=>by
  obtain ⟨⟨r0,p0,h1⟩,_,_⟩:=callerB_some h
  exact hf r0 p0 h1
 have hfreeNone:∀ b,free (callerB fun _=>False) b:=fun b r p h=>(callerB_some h).1
 cases hcall with
 | frozen res hc hpl hk =>
  refine hF (fun b=>∃ r p,B r p=some b) hall args res hc (ha.turn fun x v hx hv=>(hv.plainL (hpl x hx)).conv rfl rfl (fun b _ hf=>hfreeAll b hf)) (fun w' B' v hm hv=>hv.conv rfl rfl (fun b _ hf r p h=>?_)) hk
  exact hf _ _ (hm.foreign (0,0) _ b rfl (callerB_at ⟨r,p,h⟩)).1
 | plain res hc hl hk =>
  exact hF (fun _=>False) (fun _ h=>h.elim) _ res hc (ha.map fun x v _ hv=>(VR.view hr (fun b _ _=>hfreeNone b) (fun _ _ b _ _=>hfreeNone b) 9).1 x v hv) (fun w' B' v hm hv=>hv.leafyL hl) hk
 | own node res hc hpl hk =>
  refine hO (fun b=>∃ r p,B r p=some b) hall args node res hc (ha.turn fun x v hx hv=>(hv.plainL (hpl x hx)).conv rfl rfl (fun b _ hf=>hfreeAll b hf)) (fun w' B' B2 v hm hr' h1 h2=>?_) hk
  have hfr:∀ b,free B' b→free B2 b:=by
   intro b hf r p h
   by_cases hri:r=id
   ·subst hri;rw [h1] at h;exact hf _ _ h
   ·exact hf _ _ (hm.foreign (0,0) _ b rfl (callerB_at ⟨r,p,h2 r p b hri h⟩)).1
  have ht:Turn w' B' (one id ⟨ver,node⟩) (·=ver) w' B2 (one id ⟨ver,node⟩) (·=ver) :=
   ⟨Nat.le_refl _,fun b _ hf=>⟨hfr b hf,.inl rfl⟩,fun _ _ h=>h,fun _ h=>h,fun r rt h => .inr ⟨rt,h,rfl,fun p s hp=>⟨hp,by
    simp only [one] at h
    split at h
    ·rename_i e0;rw [e0];exact h1 p
    ·cases h⟩⟩⟩
  exact ⟨fun h=>h.turn ht,fun h=>h.turn ht (fun t s _=>⟨h1 t,fun _ _=>rfl⟩)⟩
 | ownPlain sz n g res hc hl hg hk =>
  refine hO (fun _=>False) (fun _ h=>h.elim) _ (.own sz n g) res hc (ha.map fun x v _ hv=>(VR.view hr (fun b _ _=>hfreeNone b) (fun _ _ b _ _=>hfreeNone b) 9).1 x v hv) (fun w' B' B2 v hm hr' h1 h2=>?_) hk
  have hB:∀ r rt,one id ⟨ver,.own sz n g⟩ r=some rt→∀ p,B2 r p=B' r p:=by
   intro r rt h p
   simp only [one] at h
   split at h
   ·rename_i e0;rw [e0];exact h1 p
   ·cases h
  refine ⟨fun h=>h.swapL hl hB,fun h=>?_⟩
  cases h with
  | own h=>exact .own (h.swap hg hB h1)
 | on Post hc hk =>
  refine ⟨hc.1,(hc.2 w B cs hr ha).mono fun e w' he=>?_⟩
  obtain ⟨v,B',res,hp',nv',rfl,hpost,hv,hr',hm⟩:=he
  have hup:Mono w' B' (lkH hp') (·<nv') w' B' (lkH hp') (·<max top nv') :=
   ⟨Nat.le_refl _,fun _ _ h=>⟨h,rfl⟩,fun _ _ _ _ h=>⟨h,rfl⟩,fun r p _ h => .inr ⟨r,p,h⟩,fun _ _ h=>h,fun n hn=>by omega,fun r rt h => .inr ⟨rt,h,rfl,fun _ _ h=>⟨h,rfl⟩⟩,rfl,rfl,rfl⟩
  exact ⟨v,B',res,hp',nv',rfl,hk _ _ _ hpost,hv.mono hup,⟨fun r rt h=>(hr'.root r rt h).mono hup (fun _ _ _=>⟨rfl,fun _ _=>rfl⟩),fun r rt h=>by have:=hr'.ver r rt h;simp at this ⊢;omega,hr'.dom,hr'.lev,hr'.inj⟩,hm.trans hup⟩
end Go.Ab
namespace Go.Ab
open Classical

def changes:Op→Bool
 | .alloc _ | .box .. | .buildSlice .. | .makeSlice .. | .store .. | .call _ | .mapUpdate .. | .makeMap .. | .insert .. | .mapEntry .. | .entryStore .. | .range .. | .next ..=>true
 | _=>false

def noT (P:Program) (o:Oper):PV:=match o.op with
 | .call _=>match P.underlying o.type with
  | some .bool => .whn false (.bool false)
  | some (.int k) => .whn false (.int k 0)
  | _ => .undef
 | _ => .undef
theorem noT_cases (P:Program) (o:Oper):noT P o = .undef∨∃ v,noT P o = .whn false v:=by
 unfold noT
 split
 ·split
  ·exact .inr ⟨_,rfl⟩
  ·exact .inr ⟨_,rfl⟩
  ·exact .inl rfl
 ·exact .inl rfl
theorem noT_VR {w:World} {B:Blocks} {H:Roots} {V:Nat→Prop} (P:Program) (o:Oper):VR w B H V (noT P o) Go.undef:=by
 rcases noT_cases P o with h|⟨v,h⟩ <;> rw [h]
 ·exact .undef _
 ·exact .whn (fun e=>by cases e) fun _=>rfl

def guardC (ops:List Oper) (tm:List (Nat × PV)) (g:Option (Nat × Bool)):Option Bool:=match g with
 | none=>some true
 | some (j,want)=>match (ops[j]?).bind (·.dst) with
  | some d=>match lk tm d with
   | .bool b=>some (b == want)
   | .whn g (.bool b)=>some (g&&(b == want))
   | .whn g (.whn g' (.bool b))=>some (g&&(g'&&(b == want)))
   | _=>none
  | none=>none

def A.gwp (c:Bool):A→List (RId × Root)→(PV→Prop)→Prop
 | .ret x,_,K=>K x
 | @A.vc p _ k,h,K=>(c=true→p)∧A.gwp c k h K
 | .hyp p k,h,K=>(c=true→p)→A.gwp c k h K
 | .rd r k,h,K=>A.gwp c (k (lkH h r)) h K
 | .wr ..,_,_=>False
 | .any k,h,K=>∀ b,A.gwp c (k b) h K
 | @A.dec p d k,h,K=>A.gwp c (k (@decide p d)) h K
 | .opt o k,h,K=>A.gwp c (k o) h K
 | .all ..,_,_=>False
 | .fail,_,_=>False

theorem A.gwp_true {a:A} {h:List (RId × Root)} {K:PV→Prop} (hg:a.gwp true h K):a.wp h fun x h'=>h'=h∧K x:=by
 induction a generalizing h with
 | ret x=>exact ⟨rfl,hg⟩
 | vc p k ih=>exact ⟨hg.1 rfl,ih hg.2⟩
 | hyp p k ih=>exact fun hp=>ih (hg fun _=>hp)
 | rd r k ih=>exact ih _ hg
 | wr r x k ih=>exact hg.elim
 | any k ih=>exact fun b=>ih b (hg b)
 | dec p k ih=>exact ih _ hg
 | opt o k ih=>exact ih _ hg
 | all p k ih=>exact hg.elim
 | fail=>exact hg.elim

theorem A.gwp_false {a:A} {h:List (RId × Root)} {K:PV→Prop} (hg:a.gwp false h K):∃ x,K x:=by
 induction a generalizing h with
 | ret x=>exact ⟨x,hg⟩
 | vc p k ih=>exact ih hg.2
 | hyp p k ih=>exact ih (hg fun h=>by cases h)
 | rd r k ih=>exact ih _ hg
 | wr r x k ih=>exact hg.elim
 | any k ih=>exact ih true (hg true)
 | dec p k ih=>exact ih _ hg
 | opt o k ih=>exact ih _ hg
 | all p k ih=>exact hg.elim
 | fail=>exact hg.elim

def evC (tm:List (Nat × PV)) (x:Operand):PV:=match ev tm x with
 | .whn true v=>v
 | v=>v
theorem TmR.evC {w:World} {B:Blocks} {H:Roots} {V:Nat→Prop} {nt:FS} {tm:List (Nat × PV)} {a:Act} (h:TmR w B H V nt tm a) (x:Operand):VR w B H V (evC tm x) (a.eval x):=by
 have:=h.ev x
 unfold Ab.evC
 split
 ·rename_i v hv
  rw [hv] at this
  cases this with
  | whn h1 _=>exact h1 rfl
 ·exact this

def callee (tm:List (Nat × PV)) (o:Op) (k:FuncId→List PV→Prop):Prop:=match o with
 | .call { callee := .value f,args,.. }=>match evC tm f with
  | .func (.func g) first caps=>match vals tm args.toList with
   | some az=>k g (first++az++caps)
   | none=>False
  | _=>False
 | _=>False
where
 vals (tm:List (Nat × PV)):List Operand→Option (List PV)
  | []=>some []
  | x::l=>match vals tm l with
   | none=>none
   | some vs=>match ev tm x with
    | .whn true v=>some (v::vs)
    | .whn false _=>none
    | v=>some (v::vs)

def yieldO (tm:List (Nat × PV)):Op→Option (RId × Nat × List PV)
 | .call { callee := .value f,args,.. }=>match evC tm f with
  | .sref .loop r v=>match callee.vals tm args.toList with
   | some az=>some (r,v,az)
   | none=>none
  | _=>none
 | _=>none

def isCall:Op→Bool
 | .call { callee := .value _,.. }=>true
 | _=>false

def putT (tm:List (Nat × PV)) (d:Option Tmp) (x:PV):List (Nat × PV):=match d with
 | some d=>(d,x)::tm
 | none=>tm

def dstOK (nt:Nat) (d:Option Tmp):Bool:=match d with
 | some d=>decide (d<nt)
 | none=>true

def stepWp (P:Program) (lv:Nat) (all:List Oper) (o:Oper) (N:List (Nat × PV)→List (RId × Root)→Nat→Prop) (tm:List (Nat × PV)) (hp:List (RId × Root)) (nv:Nat):Prop :=
 if isCall o.op then match guardC all tm o.guard with
  | some c=>(c=true→match yieldO tm o.op with
    | some (r,v,az)=>YieldA P r v az hp nv fun x hp' nv'=>N (putT tm o.dst x) hp' (max (nv+1) nv')
    | none=>callee tm o.op fun f args=>CallWp P (lv,o.dst.getD 0) nv f args hp nv fun x hp' nv'=>N (putT tm o.dst x) hp' (max (nv+1) nv')) ∧
   (c=false→N (putT tm o.dst (noT P o)) hp (nv+1))
  | none=>False
 else match o.guard with
  | none=>(opA P lv nv tm o).wp hp fun x hp'=>N (putT tm o.dst x) hp' (nv+1)
  | some g=>match guardC all tm (some g) with
   | some c=>if changes o.op then (c=true→(opA P lv nv tm o).wp hp fun x hp'=>N (putT tm o.dst x) hp' (nv+1))∧(c=false→N (putT tm o.dst (noT P o)) hp (nv+1))
    else (opA P lv nv tm o).gwp c hp fun x=>N (putT tm o.dst (.whn c x)) hp (nv+1)
   | none=>False

/-! ### Soundness -/
def Wd (ro:Option Nat):Fence:={ Fence.wide with round:=ro }

theorem callsIn_Wd {ro:Option Nat} {n:Nat} {P:Program} {f:FuncId} {args:Array Value} {w:World} {R:Ending→World→Prop} (h:Calls P f args w R):CallsIn (Wd ro) n P f args w R:=by
 cases ro with
 | none=>exact callsIn_wide.2 h
 | some l =>
  have h2:CallsIn Fence.wide n P f args w R:=callsIn_wide.2 h
  exact h2

theorem LR.append {w B H V} {l m:List PV} {cs ds:Array Value} (h:LR w B H V l cs) (k:LR w B H V m ds):LR w B H V (l++m) (cs++ds):=by
 refine ⟨by simp [h.len,k.len],fun i hi=>?_⟩
 simp only [List.length_append] at hi
 simp only [List.getD_eq_getElem?_getD,Array.getD_eq_getD_getElem?]
 by_cases h1:i<l.length
 ·rw [List.getElem?_append_left h1,Array.getElem?_append_left (by rw [← h.len];exact h1)]
  have:=h.val i h1
  simpa [List.getD_eq_getElem?_getD,Array.getD_eq_getD_getElem?] using this
 ·rw [List.getElem?_append_right (by omega),Array.getElem?_append_right (by rw [← h.len];omega),← h.len]
  have:=k.val (i - l.length) (by omega)
  simpa [List.getD_eq_getElem?_getD,Array.getD_eq_getD_getElem?] using this

theorem vals_LR {w B H V nt} {tm:List (Nat × PV)} {a:Act} (ht:TmR w B H V nt tm a):∀ (l:List Operand) (az:List PV),callee.vals tm l=some az→LR w B H V az (l.toArray.map a.eval):=by
 intro l
 induction l with
 | nil=>intro az h;simp [callee.vals] at h;subst h;exact ⟨by simp,fun i hi=>by simp at hi⟩
 | cons x l ih =>
  intro az h
  simp only [callee.vals] at h
  split at h
  ·cases h
  ·rename_i vs hvs
   obtain ⟨h1,h2⟩:=ih _ hvs
   have fin:∀ v,VR w B H V v (a.eval x)→LR w B H V (v::vs) ((x::l).toArray.map a.eval):=by
    intro v hv
    refine ⟨by simp at h1;simp [h1],fun i hi=>?_⟩
    cases i with
    | zero=>simpa using hv
    | succ i =>
     have:=h2 i (by simpa using hi)
     simpa [List.getD_eq_getElem?_getD,Array.getD_eq_getD_getElem?] using this
   have he:=ht.ev x
   split at h
   ·rename_i v hx
    cases h
    rw [hx] at he
    cases he with
    | whn he _=>exact fin v (he rfl)
   ·cases h
   ·cases h
    exact fin _ he

theorem TmR.putT {w B H V nt} {tm:List (Nat × PV)} {a:Act} (h:TmR w B H V nt tm a) {d:Option Tmp} (hd:dstOK nt d=true) {x:PV} {v:Value} (hv:VR w B H V x v):TmR w B H V nt (Ab.putT tm d x) (a.put d v):=by
 cases d with
 | none=>exact h
 | some d=>exact h.put (by simpa [dstOK] using hd) hv

theorem guard_sound {w B H V nt} {tm:List (Nat × PV)} {a:Act} (ht:TmR w B H V nt tm a) (ops:Array Oper) (o:Oper) {c:Bool} (h:guardC ops.toList tm o.guard=some c):Region.wanted o (yielded ops a.tmps)=c:=by
 unfold guardC at h
 have hw:∀ j want,o.guard=some (j,want)→Region.wanted o (yielded ops a.tmps)=(yielded ops a.tmps j == some want):=fun j want hg=>by simp [Region.wanted,hg]
 split at h
 ·rename_i hg
  cases h
  simp [Region.wanted,hg]
 ·rename_i j want hg
  rw [hw j want hg]
  split at h
  ·rename_i d hd
   have hd':(ops[j]?).bind (·.dst)=some d:=by rw [← hd];simp
   have hv:=ht.val d
   have key:∀ b:Bool,a.tmps.getD d Go.undef = .bool b→yielded ops a.tmps j=some b:=by
    intro b hb
    simp only [yielded,hd',Option.bind_some]
    rw [Array.getD_eq_getD_getElem?] at hb
    cases ht':a.tmps[d]? with
    | none=>rw [ht'] at hb;simp [Go.undef] at hb
    | some x=>rw [ht'] at hb;simp at hb;rw [hb]
   have key2:a.tmps.getD d Go.undef=Go.undef→yielded ops a.tmps j=none:=by
    intro hb
    simp only [yielded,hd',Option.bind_some]
    rw [Array.getD_eq_getD_getElem?] at hb
    cases ht':a.tmps[d]? with
    | none=>rfl
    | some x=>rw [ht'] at hb;simp at hb;rw [hb];rfl
   split at h
   ·rename_i b hb
    cases h
    rw [hb] at hv
    cases hx:a.tmps.getD d Go.undef <;> rw [hx] at hv <;> cases hv
    rw [key _ hx]
    simp
   ·rename_i g b hb
    cases h
    rw [hb] at hv
    generalize hx:a.tmps.getD d Go.undef=x at hv
    cases hv with
    | whn h1 h2 =>
     cases g with
     | true =>
      have:=h1 rfl
      cases this
      rw [key _ hx]
      simp
     | false =>
      have:=h2 rfl
      subst this
      rw [key2 hx]
      simp
   ·rename_i g g' b hb
    cases h
    rw [hb] at hv
    generalize hx:a.tmps.getD d Go.undef=x at hv
    cases hv with
    | whn h1 h2 =>
     cases g with
     | true =>
      have:=h1 rfl
      cases this with
      | whn h3 h4 =>
      cases g' with
      | true =>
       have:=h3 rfl
       cases this
       rw [key _ hx]
       simp
      | false =>
       have:=h4 rfl
       subst this
       rw [key2 hx]
       simp
     | false =>
      have:=h2 rfl
      subst this
      rw [key2 hx]
      simp
   ·cases h
  ·cases h

theorem ors_up {nv n:Nat} (h:ors (·<nv) nv n):n<nv+1:=by
 rcases h with h|h
 ·exact Nat.lt_succ_of_lt h
 ·omega

theorem Mono.up {w B H V w' B' H' V' V''} (h:Mono w B H V w' B' H' V') (hV:∀ n,V' n→V'' n):Mono w B H V w' B' H' V'' :=
 ⟨h.size,h.free,h.foreign,h.fresh,h.shape,fun n hn=>hV n (h.vers n hn),h.root,h.os,h.tape,h.output⟩
theorem VR.up {w:World} {B:Blocks} {H:Roots} {V V'':Nat→Prop} {x:PV} {v:Value} (h:VR w B H V x v) (hV:∀ n,V n→V'' n):VR w B H V'' x v :=
 h.turn ⟨Nat.le_refl _,fun _ _ h=>⟨h,.inl rfl⟩,fun _ _ h=>h,hV,fun r rt h => .inr ⟨rt,h,rfl,fun _ _ h=>⟨h,rfl⟩⟩⟩
theorem HR.up {w:World} {B:Blocks} {H:Roots} {V V'':Nat→Prop} (h:HR w B H V) (hV:∀ n,V n→V'' n):HR w B H V'' :=
 ⟨fun r rt hr=>(h.root r rt hr).turn ⟨Nat.le_refl _,fun _ _ h=>⟨h,.inl rfl⟩,fun _ _ h=>h,hV,fun r rt h => .inr ⟨rt,h,rfl,fun _ _ h=>⟨h,rfl⟩⟩⟩ (fun _ _ _=>⟨rfl,fun _ _=>rfl⟩),fun r rt hr=>hV _ (h.ver r rt hr),h.dom,h.lev,h.inj⟩

theorem oneOpK {P:Program} {lv:Nat} {nt:FS} {ro:Option Nat} {ops:Array Oper} {N:List (Nat × PV)→List (RId × Root)→Nat→Prop} {Q:Exit→Act→World→Prop} (hlv:lv≠0)
  {w0:World} {B0:Blocks} {hp0:List (RId × Root)} {nv0:Nat} {rest:Act→World→Prop} {i:Nat} {o:Oper} (hio:ops[i]?=some o) (hdo:dstOK nt o.dst=true)
  (hN:∀ tm hp nv B w a,N tm hp nv→TmR w B (lkH hp) (·<nv) nt tm a→HR w B (lkH hp) (·<nv)→Mono w0 B0 (lkH hp0) (·<nv0) w B (lkH hp) (·<nv)→rest a w)
  (tm:List (Nat × PV)) (hp:List (RId × Root)) (nv:Nat) (B:Blocks) (w:World) (a:Act) (h:stepWp P lv ops.toList o N tm hp nv) (ht:TmR w B (lkH hp) (·<nv) nt tm a) (hr:HR w B (lkH hp) (·<nv))
  (hm:Mono w0 B0 (lkH hp0) (·<nv0) w B (lkH hp) (·<nv)):wpOpIn (Wd ro) 0 P ops Q i rest a w:=by
 simp only [wpOpIn,hio]
 have value:∀ (nx:Next) (v:Value) (w':World) (B':Blocks) (hp':List (RId × Root)) (x:PV) (nv':Nat),(o.semAt ro a.eval).run P w = .ok nx w'→(nx = .value v∨nx = .skip∧v=Go.undef) →
   N (putT tm o.dst x) hp' nv'→VR w' B' (lkH hp') (·<nv') x v→HR w' B' (lkH hp') (·<nv')→Mono w B (lkH hp) (·<nv) w' B' (lkH hp') (·<nv') →
   Oper.wpIn (Wd ro) 0 P o a w rest Q:=by
  intro nx v w' B' hp' x nv' he hnx hk hv hr' hm'
  refine ⟨fun _ _=>trivial,?_⟩
  show o.uponIn (Wd ro) 0 P a _ Q ((o.semAt ro a.eval).run P w)
  rw [he]
  have:=hN _ _ _ B' w' _ hk ((ht.mono hm').putT hdo hv) hr' (hm.trans hm')
  rcases hnx with rfl|⟨rfl,rfl⟩
  ·exact this
  ·exact this
 have passV:∀ u,(∀ w B (H:Roots) (V:Nat→Prop),VR w B H V u Go.undef)→N (putT tm o.dst u) hp (nv+1)→rest (a.put o.dst Go.undef) w:=by
  intro u hu hk
  have hup:∀ n,n<nv→n<nv+1:=fun n h=>Nat.lt_succ_of_lt h
  have hmu:=(Mono.refl w B (lkH hp) (·<nv)).up hup
  exact hN _ _ _ B w _ hk ((ht.mono hmu).putT hdo (hu _ _ _ _)) (hr.up hup) (hm.trans hmu)
 have pass:N (putT tm o.dst .undef) hp (nv+1)→rest (a.put o.dst Go.undef) w:=passV _ fun _ _ _ _ => .undef _
 have passN:N (putT tm o.dst (noT P o)) hp (nv+1)→rest (a.put o.dst Go.undef) w:=passV _ fun _ _ _ _=>noT_VR _ _
 have call:∀ (hc:isCall o.op=true),(callee tm o.op fun f args=>CallWp P (lv,o.dst.getD 0) nv f args hp nv fun x hp' nv'=>N (putT tm o.dst x) hp' (max (nv+1) nv')) →
   Oper.wpIn (Wd ro) 0 P o a w rest Q:=by
  intro hc hcall
  refine ⟨fun _ _=>trivial,?_⟩
  show o.uponIn (Wd ro) 0 P a _ Q ((o.semAt ro a.eval).run P w)
  unfold callee at hcall
  split at hcall
  ·rename_i f args _ hop
   have hev:=ht.evC f
   split at hcall
   ·rename_i g first caps hfe
    rw [hfe] at hev
    split at hcall
    ·rename_i az has
     generalize hfv:a.eval f=fv at hev
     cases hev with
     | @func _ _ _ _ _ cs1 cs2 hl hl' h1 h2 =>
      have hargs:LR w B (lkH hp) (·<nv) (first++az++caps) (cs1++args.map a.eval++cs2):=by
       refine LR.append (LR.append ⟨hl,h1⟩ ?_) ⟨hl',h2⟩
       simpa using vals_LR ht args.toList az has
      obtain ⟨hen,hcalls⟩:=hcall.sound (top:=nv+1) (id:=(lv,o.dst.getD 0)) hlv (Nat.le_refl _) (by omega) hr hargs
      have he:(o.semAt ro a.eval).run P w = .ok (.enter g (cs1++args.map a.eval++cs2)) w:=by
       rw [Oper.semAt_eq _ _ _ (by rw [hop];intro c h;cases h)]
       simp [execOp,hop,resolve,hfv,Deferred.ofValue,invoke,hen _ w]
      rw [he,Oper.uponIn_enter]
      refine ⟨fun h=>by simp [Wd,Fence.wide] at h,callsIn_Wd (hcalls.mono fun e w' he=>?_)⟩
      obtain ⟨v,B',res,hp',nv',rfl,hk,hv,hr',hm'⟩:=he
      exact hN _ _ _ B' w' _ hk ((ht.mono hm').putT hdo hv) hr' (hm.trans hm')
    ·exact hcall.elim
   ·exact hcall.elim
  ·exact hcall.elim
 have round:∀ (hc:isCall o.op=true) r v az,yieldO tm o.op=some (r,v,az)→(YieldA P r v az hp nv fun x hp' nv'=>N (putT tm o.dst x) hp' (max (nv+1) nv')) →
   Oper.wpIn (Wd ro) 0 P o a w rest Q:=by
  intro hc r v az hy hya
  refine ⟨fun _ _=>trivial,?_⟩
  show o.uponIn (Wd ro) 0 P a _ Q ((o.semAt ro a.eval).run P w)
  unfold yieldO at hy
  split at hy
  ·rename_i f args _ hop
   have hev:=ht.evC f
   split at hy
   ·rename_i r0 v0 hfe
    rw [hfe] at hev
    split at hy
    ·rename_i as0 has
     cases hy
     obtain ⟨rt,li,c,hH,hv,hn,hst,hal,hround⟩:=hya
     generalize hfv:a.eval f=fv at hev
     cases hev with
     | sref _ h1 =>
     obtain ⟨l,_,hB,rfl⟩:=h1 rt hH hv
     have hroot:=hr.root r rt hH
     rw [hn] at hroot
     cases hroot with
     | @oloop _ _ l' d tmps fn hB' hh hsz hval =>
     rw [hB] at hB'
     cases hB'
     have hargs:=vals_LR ht args.toList az has
     have hcs:(args.map a.eval).size=li.params.size:=by
      have:=hargs.len
      simp at this
      rw [← hal,this]
      simp
     have he:(o.semAt ro a.eval).run P w = .ok (.round l fn ((li.params.zip (args.map a.eval)).foldl (fun tmps (t,a)=>tmps.setIfInBounds t a) tmps) li.assign li.body) w:=by
      rw [Oper.semAt_eq _ _ _ (by rw [hop];intro c h;cases h)]
      have hy:=run_yield (P:=P) (w:=w) (l:=l) (args:=args.map a.eval) hh hcs
      simp [execOp,hop,resolve,hfv,SK.val,Deferred.ofValue,invoke,hy]
     rw [he,Oper.uponIn_round]
     refine ⟨fun h=>by simp [Wd,Fence.wide] at h,?_⟩
     have h2:=hround w B (args.map a.eval) l tmps d fn ro hr (by simpa using hargs) hB hh hval hsz
     refine roundIn_mono h2 fun e w' he=>?_
     obtain ⟨v,B',res,hp',nv',rfl,hk,hv,hr',hm'⟩:=he
     have hup:Mono w' B' (lkH hp') (·<nv') w' B' (lkH hp') (·<max (nv+1) nv'):=(Mono.refl ..).up fun n hn=>by omega
     exact hN _ _ _ B' w' _ hk ((ht.mono (hm'.trans hup)).putT hdo (hv.mono hup)) ⟨fun r rt h=>(hr'.root r rt h).mono hup (fun _ _ _=>⟨rfl,fun _ _=>rfl⟩),fun r rt h=>by have:=hr'.ver r rt h;simp at this ⊢;omega,hr'.dom,hr'.lev,hr'.inj⟩ (hm.trans (hm'.trans hup))
    ·cases hy
   ·cases hy
  ·cases hy
 have other:(opA P lv nv tm o).wp hp (fun x hp'=>N (putT tm o.dst x) hp' (nv+1))→Oper.wpIn (Wd ro) 0 P o a w rest Q:=by
  intro ho
  have hnd:∀ c,o.op ≠ .defer c:=fun c hc=>by
   unfold opA opB at ho
   rw [hc] at ho
   exact ho
  obtain ⟨nx,v,w',B',hp',x,he,hnx,hk,hv,hr',hm'⟩:=opA_real (P:=P) (ver:=nv) hlv hr (by omega) ht o _ ho
  exact value nx v w' B' hp' x (nv+1) (by rw [Oper.semAt_eq _ _ _ hnd];exact he) hnx hk (hv.up fun _=>ors_up) (hr'.up fun _=>ors_up) (hm'.up fun _=>ors_up)
 unfold stepWp at h
 split at h
 ·rename_i hc
  cases hg:guardC ops.toList tm o.guard with
  | none=>rw [hg] at h;exact h.elim
  | some c =>
   rw [hg] at h
   simp only at h
   have hw:=guard_sound ht ops o (c:=c) hg
   rw [hw]
   cases c with
   | true =>
    simp only [if_true]
    have h1:=h.1 rfl
    cases hy:yieldO tm o.op with
    | none=>rw [hy] at h1;exact call hc h1
    | some x=>obtain ⟨r,v,az⟩:=x;rw [hy] at h1;exact round hc r v az hy h1
   | false=>simp only [Bool.false_eq_true,if_false];exact ⟨fun _ _=>trivial,passN (h.2 rfl)⟩
 ·rename_i hc
  cases hg:o.guard with
  | none =>
   have hw:Region.wanted o (yielded ops a.tmps)=true:=by simp [Region.wanted,hg]
   rw [if_pos hw]
   simp only [hg] at h
   exact other h
  | some g =>
   simp only [hg] at h
   split at h
   ·rename_i c hgc
    have hw:=guard_sound ht ops o (c:=c) (by rw [hg];exact hgc)
    rw [hw]
    split at h
    ·cases c with
     | true=>simp only [if_true];exact other (h.1 rfl)
     | false=>simp only [Bool.false_eq_true,if_false];exact ⟨fun _ _=>trivial,passN (h.2 rfl)⟩
    ·cases c with
     | true =>
      simp only [if_true]
      have h1:=A.gwp_true h
      have hnd:∀ c,o.op ≠ .defer c:=fun c hc=>by
       unfold opA opB at h1
       rw [hc] at h1
       exact h1
      obtain ⟨nx,v,w',B',hp',x,he,hnx,⟨rfl,hk⟩,hv,hr',hm'⟩:=opA_real (P:=P) (ver:=nv) hlv hr (by omega) ht o _ h1
      exact value nx v w' B' hp' (.whn true x) (nv+1) (by rw [Oper.semAt_eq _ _ _ hnd];exact he) hnx hk (.whn (fun _=>hv.up fun _=>ors_up) (fun h=>by cases h)) (hr'.up fun _=>ors_up) (hm'.up fun _=>ors_up)
     | false =>
      simp only [Bool.false_eq_true,if_false]
      obtain ⟨x,hk⟩:=A.gwp_false h
      have hup:∀ n,n<nv→n<nv+1:=fun n h=>Nat.lt_succ_of_lt h
      have hmu:=(Mono.refl w B (lkH hp) (·<nv)).up hup
      exact ⟨fun _ _=>trivial,hN _ _ _ B w _ hk ((ht.mono hmu).putT hdo (.whn (fun h=>by cases h) (fun _=>rfl))) (hr.up hup) (hm.trans hmu)⟩
   ·exact h.elim


def wpOpsK (F:Fence) (n:Nat) (P:Program) (ops:Array Oper) (Q:Exit→Act→World→Prop) (K:Act→World→Prop):List Nat→Act→World→Prop
 | []=>K
 | i::l=>wpOpIn F n P ops Q i (wpOpsK F n P ops Q K l)
theorem wpOpsK_ops {F:Fence} {n:Nat} {P:Program} {ops:Array Oper} {Q:Exit→Act→World→Prop}:∀ (l:List Nat),wpOpsK F n P ops Q (Q .normal) l=wpOpsIn F n P ops Q l:=by
 intro l
 induction l with
 | nil=>rfl
 | cons i l ih =>
  funext a w
  show wpOpIn F n P ops Q i (wpOpsK F n P ops Q (Q .normal) l) a w=_
  rw [ih,wpOpsIn_cons]

theorem oneOp_sound {P:Program} {lv:Nat} {nt:FS} {ro:Option Nat} {ops:Array Oper} {N:List (Nat × PV)→List (RId × Root)→Nat→Prop} {Q:Exit→Act→World→Prop} (hlv:lv≠0)
  {w0:World} {B0:Blocks} {hp0:List (RId × Root)} {nv0:Nat} {rest:List Nat} {i:Nat} {o:Oper} (hio:ops[i]?=some o) (hdo:dstOK nt o.dst=true)
  (hN:∀ tm hp nv B w a,N tm hp nv→TmR w B (lkH hp) (·<nv) nt tm a→HR w B (lkH hp) (·<nv)→Mono w0 B0 (lkH hp0) (·<nv0) w B (lkH hp) (·<nv)→wpOpsIn (Wd ro) 0 P ops Q rest a w)
  (tm:List (Nat × PV)) (hp:List (RId × Root)) (nv:Nat) (B:Blocks) (w:World) (a:Act) (h:stepWp P lv ops.toList o N tm hp nv) (ht:TmR w B (lkH hp) (·<nv) nt tm a) (hr:HR w B (lkH hp) (·<nv))
  (hm:Mono w0 B0 (lkH hp0) (·<nv0) w B (lkH hp) (·<nv)):wpOpsIn (Wd ro) 0 P ops Q (i::rest) a w:=by
 rw [wpOpsIn_cons]
 exact oneOpK hlv hio hdo hN tm hp nv B w a h ht hr hm

theorem ops_at {ops:Array Oper} {i:Nat} {o:Oper} {os:List Oper} (hi:ops.toList.drop i=o::os):ops[i]?=some o∧ops.toList.drop (i+1)=os∧o∈ops.toList:=by
 have h1:ops.toList[i]?=some o:=by
  have:=congrArg (fun l=>l[0]?) hi
  simpa using this
 exact ⟨by simpa using h1,by have:=congrArg List.tail hi;simpa using this,List.mem_of_getElem? h1⟩

end Go.Ab
namespace Go.Ab
open Classical

abbrev Tm:=List (Nat × PV)
abbrev Hp:=List (RId × Root)
abbrev Post:=Exit→Tm→Hp→Nat→Prop

structure SR (nt:FS) (tm:Tm) (hp:Hp) (nv:Nat) (w:World) (B:Blocks) (a:Act):Prop where
 tm:TmR w B (lkH hp) (·<nv) nt tm a
 hp:HR w B (lkH hp) (·<nv)

structure Ev (P:Program) (lv:Nat) (nt:FS) (ro:Option Nat) (c:Code) (tm:Tm) (hp:Hp) (nv:Nat) (Q:Post):Prop where
 out:∀ (w:World) (B:Blocks) (a:Act),SR nt tm hp nv w B a →
  c.wpIn (Wd ro) 0 P (fun e a' w'=>∃ tm' hp' nv' B',Q e tm' hp' nv'∧SR nt tm' hp' nv' w' B' a'∧Mono w B (lkH hp) (·<nv) w' B' (lkH hp') (·<nv')) a w

section
variable {P:Program} {lv:Nat} {nt:FS} {ro:Option Nat} {tm:Tm} {hp:Hp} {nv:Nat} {Q:Post}

theorem Ev.mono {c:Code} {Q':Post} (h:Ev P lv nt ro c tm hp nv Q) (hq:∀ e tm hp nv,Q e tm hp nv→Q' e tm hp nv):Ev P lv nt ro c tm hp nv Q' :=
 ⟨fun w B a hs=>wpIn_mono (h.out w B a hs) fun e a' w' ⟨tm',hp',nv',B',h1,h2,h3⟩=>⟨tm',hp',nv',B',hq _ _ _ _ h1,h2,h3⟩⟩

theorem Ev.skip (h:Q .normal tm hp nv):Ev P lv nt ro .skip tm hp nv Q:=⟨fun w B a hs=>wpIn_skip ⟨tm,hp,nv,B,h,hs,Mono.refl ..⟩⟩
theorem Ev.label {l:Nat} (h:Q .normal tm hp nv):Ev P lv nt ro (.label l) tm hp nv Q:=⟨fun w B a hs=>wpIn_label ⟨tm,hp,nv,B,h,hs,Mono.refl ..⟩⟩
theorem Ev.exit {i:Nat} (h:Q (.exit i) tm hp nv):Ev P lv nt ro (.exit i) tm hp nv Q:=⟨fun w B a hs=>wpIn_exit ⟨tm,hp,nv,B,h,hs,Mono.refl ..⟩⟩
theorem Ev.goto {i:Nat} (h:Q (.goto i) tm hp nv):Ev P lv nt ro (.goto i) tm hp nv Q:=⟨fun w B a hs=>wpIn_goto ⟨tm,hp,nv,B,h,hs,Mono.refl ..⟩⟩
theorem Ev.ret (h:Q .ret tm hp nv):Ev P lv nt ro .ret tm hp nv Q:=⟨fun w B a hs=>wpIn_ret ⟨tm,hp,nv,B,h,hs,Mono.refl ..⟩⟩

def thenQ (next:Tm→Hp→Nat→Prop) (Q:Post):Post
 | .normal,tm,hp,nv=>next tm hp nv
 | e,tm,hp,nv=>Q e tm hp nv

theorem Ev.seq {x y:Code} (h:Ev P lv nt ro x tm hp nv (thenQ (fun tm hp nv=>Ev P lv nt ro y tm hp nv Q) Q)):Ev P lv nt ro (.seq x y) tm hp nv Q:=by
 refine ⟨fun w B a hs=>wpIn_seq (wpIn_mono (h.out w B a hs) ?_)⟩
 rintro e a' w' ⟨tm',hp',nv',B',h1,h2,h3⟩
 cases e with
 | normal=>exact wpIn_mono (h1.out w' B' a' h2) fun e a2 w2 ⟨tm2,hp2,nv2,B2,k1,k2,k3⟩=>⟨tm2,hp2,nv2,B2,k1,k2,h3.trans k3⟩
 | _=>exact ⟨tm',hp',nv',B',h1,h2,h3⟩

theorem Ev.cond {c:Operand} {x y:Code} {b:Bool} (hc:ev tm c = .bool b) (h1:b=true→Ev P lv nt ro x tm hp nv Q) (h2:b=false→Ev P lv nt ro y tm hp nv Q):Ev P lv nt ro (.cond c x y) tm hp nv Q:=by
 refine ⟨fun w B a hs=>?_⟩
 have hv:=hs.tm.ev c
 rw [hc] at hv
 generalize hx:a.eval c=v at hv
 cases hv
 cases b with
 | true=>exact wpIn_cond hx ((h1 rfl).out w B a hs)
 | false=>exact wpIn_cond hx ((h2 rfl).out w B a hs)

def blockQ (id:Nat) (Q:Post):Post
 | .exit i,tm,hp,nv=>if i=id then Q .normal tm hp nv else Q (.exit i) tm hp nv
 | e,tm,hp,nv=>Q e tm hp nv

theorem Ev.block {id:Nat} {c:Code} (h:Ev P lv nt ro c tm hp nv (blockQ id Q)):Ev P lv nt ro (.block id c) tm hp nv Q:=by
 refine ⟨fun w B a hs=>wpIn_block (wpIn_mono (h.out w B a hs) ?_)⟩
 rintro e a' w' ⟨tm',hp',nv',B',h1,h2,h3⟩
 cases e with
 | exit i =>
  simp only [Exit.inBlock,blockQ] at h1 ⊢
  split
  ·rename_i e;rw [if_pos e] at h1;exact ⟨tm',hp',nv',B',h1,h2,h3⟩
  ·rename_i e;rw [if_neg e] at h1;exact ⟨tm',hp',nv',B',h1,h2,h3⟩
 | _=>exact ⟨tm',hp',nv',B',h1,h2,h3⟩
end

/-! ### Knowing less -/
inductive NEq:PV→PV→Prop
 | refl (v:PV):NEq v v
 | undef {v:PV} (h:shapeOf v=none):NEq v .undef
 | own {sz n:Nat} {f g:Nat→Nat→PV} (h:∀ i o,i<n→o<sz→NEq (f i o) (g i o)):NEq (.own sz n f) (.own sz n g)
 | obox {sz:Nat} {f g:Nat→PV} (h:∀ o,o<sz→NEq (f o) (g o)):NEq (.obox sz f) (.obox sz g)
 | frz {sz n:Nat} {f g:Nat→Nat→PV} (h:∀ i o,i<n→o<sz→NEq (f i o) (g i o)):NEq (.frz sz n f) (.frz sz n g)
 | fptr {sz o:Nat} {f g:Nat→PV} (h:∀ o,o<sz→NEq (f o) (g o)):NEq (.fptr sz f o) (.fptr sz g o)
 | agg {l m:List PV} (hl:l.length=m.length) (h:∀ i,i<l.length→NEq (l.getD i .undef) (m.getD i .undef)):NEq (.agg l) (.agg m)
 | tup {l m:List PV} (hl:l.length=m.length) (h:∀ i,i<l.length→NEq (l.getD i .undef) (m.getD i .undef)):NEq (.tup l) (.tup m)
 | nils {sz:Nat} {f:Nat→Nat→PV}:NEq .nils (.frz sz 0 f)
 | fcl {sz n:Nat} {f g:Nat→Nat→PV} (h:∀ i o,i<n→o<sz→NEq (f i o) (g i o)):NEq (.fcl sz n f) (.fcl sz n g)
 | clip {sz n:Nat} {f g:Nat→Nat→PV} (h:∀ i o,i<n→o<sz→NEq (f i o) (g i o)):NEq (.fcl sz n f) (.frz sz n g)
 | func {fn:Fn} {l m l' m':List PV} (hl:l.length=m.length) (hl':l'.length=m'.length) (h:∀ i,i<l.length→NEq (l.getD i .undef) (m.getD i .undef)) (h':∀ i,i<l'.length→NEq (l'.getD i .undef) (m'.getD i .undef)):NEq (.func fn l l') (.func fn m m')
 | iface {t:TypeId} {x y:PV} (h:NEq x y):NEq (.iface t x) (.iface t y)

theorem NEq.at {v v':PV} (h:NEq v v'):∀ p s,at? v' p s↔at? v p s:=by
 induction h with
 | refl v=>exact fun _ _=>Iff.rfl
 | undef h=>exact fun p s=>⟨fun k=>absurd k (at_leaf rfl p s),fun k=>absurd k (at_leaf h p s)⟩
 | @own sz n f g _ ih =>
  intro p s
  cases p with
  | nil=>rw [at_nil,at_nil];rfl
  | cons y p =>
   obtain ⟨i,o⟩:=y
   rw [at_cons,at_cons]
   simp only [shapeOf,cellAt,Option.some.injEq,Prod.mk.injEq,true_and]
   constructor
   ·rintro ⟨sz',n',⟨rfl,rfl⟩,h1,h2,h3⟩;exact ⟨_,_,⟨rfl,rfl⟩,h1,h2,(ih i o h1 h2 p s).1 h3⟩
   ·rintro ⟨sz',n',⟨rfl,rfl⟩,h1,h2,h3⟩;exact ⟨_,_,⟨rfl,rfl⟩,h1,h2,(ih i o h1 h2 p s).2 h3⟩
 | obox _ _ =>
  intro p s
  cases p with
  | nil=>rw [at_nil,at_nil];rfl
  | cons y p=>exact ⟨fun h=>h.1.elim,fun h=>h.1.elim⟩
 | _=>exact fun p s=>⟨fun k=>absurd k (at_leaf rfl p s),fun k=>absurd k (at_leaf rfl p s)⟩

theorem VR.less {w:World} {B:Blocks} {v v':PV} (hn:NEq v v'):∀ {H:Roots} {V:Nat→Prop} {x:Value},VR w B H V v x→VR w B H V v' x:=by
 induction hn with
 | refl v=>exact fun h=>h
 | undef _=>exact fun _ => .undef _
 | own _ _=>intro H V x h;cases h
 | obox _ _=>intro H V x h;cases h
 | frz _ ih =>
  intro H V x h
  cases h with
  | frz h1 h2 h3 h4=>exact .frz h1 h2 h3 (fun i o hi ho=>ih i o hi ho (h4 i o hi ho))
 | fptr _ ih =>
  intro H V x h
  cases h with
  | fptr h1 h2 h3 h4 h5=>exact .fptr h1 h2 h3 h4 (fun j hj=>ih j hj (h5 j hj))
 | agg hl _ ih =>
  intro H V x h
  cases h with
  | agg h1 h2=>exact .agg (hl.symm.trans h1) (fun i hi=>ih i (by omega) (h2 i (by omega)))
 | tup hl _ ih =>
  intro H V x h
  cases h with
  | tup h1 h2=>exact .tup (hl.symm.trans h1) (fun i hi=>ih i (by omega) (h2 i (by omega)))
 | fcl _ ih =>
  intro H V x h
  cases h with
  | fcl h1 h2 h3=>exact .fcl h1 h2 (fun i o hi ho=>ih i o hi ho (h3 i o hi ho))
 | clip _ ih =>
  intro H V x h
  cases h with
  | fcl h1 h2 h3=>exact .frz (Nat.le_refl _) h1 h2 (fun i o hi ho=>ih i o hi ho (h3 i o hi ho))
 | func hl hl' _ _ ih ih' =>
  intro H V x h
  cases h with
  | func h1 h2 h3 h4=>exact .func (hl.symm.trans h1) (hl'.symm.trans h2) (fun i hi=>ih i (by omega) (h3 i (by omega))) (fun i hi=>ih' i (by omega) (h4 i (by omega)))
 | iface _ ih =>
  intro H V x h
  cases h with
  | iface h=>exact .iface (ih h)
 | nils =>
  intro H V x h
  cases h
  exact .frz (g:=fun _ _=>Go.undef) (Nat.le_refl _) (by omega) (fun h=>by omega) (fun i o hi=>by omega)

theorem TR.less {w:World} {B:Blocks} {H:Roots} {V:Nat→Prop} {r:RId} {v v':PV} (hn:NEq v v'):∀ {p:Path} {x:Value},TR w B H V r p v x→TR w B H V r p v' x:=by
 induction hn with
 | own _ ih =>
  intro p x h
  cases h with
  | leaf h=>cases h
  | own h1 h2 h3 h4 h5 h6 h7=>exact .own h1 h2 h3 h4 h5 h6 (fun i o hi ho=>ih i o hi ho (h7 i o hi ho))
  | nil h=>exact .nil h
 | obox _ _=>intro p x h;cases h with|leaf h=>cases h
 | refl=>exact fun h=>h
 | undef hs =>
  intro p x h
  cases h with
  | leaf h=>exact .leaf (.undef _)
  | own=>simp [shapeOf] at hs
  | nil=>simp [shapeOf] at hs
 | frz h _=>intro p x h';cases h' with|leaf h'=>exact .leaf (h'.less (.frz h))
 | fptr h _=>intro p x h';cases h' with|leaf h'=>exact .leaf (h'.less (.fptr h))
 | agg hl h _=>intro p x h';cases h' with|leaf h'=>exact .leaf (h'.less (.agg hl h))
 | tup hl h _=>intro p x h';cases h' with|leaf h'=>exact .leaf (h'.less (.tup hl h))
 | nils=>intro p x h';cases h' with|leaf h'=>exact .leaf (h'.less .nils)
 | fcl h _=>intro p x h';cases h' with|leaf h'=>exact .leaf (h'.less (.fcl h))
 | clip h _=>intro p x h';cases h' with|leaf h'=>exact .leaf (h'.less (.clip h))
 | func hl hl' h h2 _ _=>intro p x h';cases h' with|leaf h'=>exact .leaf (h'.less (.func hl hl' h h2))
 | iface h _=>intro p x h';cases h' with|leaf h'=>exact .leaf (h'.less (.iface h))

theorem RootOK.less {w:World} {B:Blocks} {H:Roots} {V:Nat→Prop} {r:RId} {v v':PV} (hn:NEq v v') (h:RootOK w B H V r v):RootOK w B H V r v':=by
 cases h with
 | own h =>
  cases hn with
  | refl=>exact .own h
  | undef hs=>simp [shapeOf] at hs
  | own hc=>exact .own (h.less (.own hc))
 | obox h1 h2 h3 h4 =>
  cases hn with
  | refl=>exact .obox h1 h2 h3 h4
  | undef hs=>simp [shapeOf] at hs
  | obox hc=>exact .obox h1 h2 h3 (fun o ho=>(h4 o ho).less (hc o ho))
 | omap h1 h2 h3 h4 h5 h6 h7 =>
  cases hn with
  | refl=>exact .omap h1 h2 h3 h4 h5 h6 h7
  | undef hs=>simp [shapeOf] at hs
 | oiter h1 h2 h3 =>
  cases hn with
  | refl=>exact .oiter h1 h2 h3
  | undef hs=>simp [shapeOf] at hs
 | oloop h1 h2 h3 h4 =>
  cases hn with
  | refl=>exact .oloop h1 h2 h3 h4
  | undef hs=>simp [shapeOf] at hs

structure Le (tm:Tm) (hp:Hp) (nv:Nat) (tm':Tm) (hp':Hp) (nv':Nat):Prop where
 tm:∀ t,lk tm' t = .undef∨NEq (lk tm t) (lk tm' t)
 hp:∀ r rt',lkH hp' r=some rt'→∃ rt,lkH hp r=some rt∧rt.ver=rt'.ver∧NEq rt.node rt'.node
 nv:nv≤nv'

theorem Le.refl (tm:Tm) (hp:Hp) (nv:Nat):Le tm hp nv tm hp nv:=⟨fun _ => .inr (.refl _),fun r rt h=>⟨rt,h,rfl,.refl _⟩,Nat.le_refl _⟩

noncomputable def keepB (hp':Hp) (B:Blocks):Blocks:=fun r p=>if r.1=0∨(lkH hp' r).isSome then B r p else none

theorem Le.sound {nt:FS} {tm tm':Tm} {hp hp':Hp} {nv nv':Nat} (h:Le tm hp nv tm' hp' nv') {w:World} {B:Blocks} {a:Act} (hs:SR nt tm hp nv w B a) :
  SR nt tm' hp' nv' w (keepB hp' B) a∧Mono w B (lkH hp) (·<nv) w (keepB hp' B) (lkH hp') (·<nv'):=by
 have hkeep:∀ r rt',lkH hp' r=some rt'→∀ p,keepB hp' B r p=B r p:=fun r rt' hr p=>by simp [keepB,hr]
 have hsub:∀ r p b,keepB hp' B r p=some b→B r p=some b:=fun r p b h=>by
  unfold keepB at h
  split at h
  ·exact h
  ·cases h
 have hm:Mono w B (lkH hp) (·<nv) w (keepB hp' B) (lkH hp') (·<nv'):=by
  refine ⟨Nat.le_refl _,fun b _ hf=>⟨fun r p h=>hf r p (hsub r p b h),rfl⟩,fun r p b h0 hb=>⟨by simp [keepB,h0,hb],rfl⟩,fun r p b hb => .inr ⟨r,p,hsub r p b hb⟩,fun _ _ h=>h,fun n hn=>Nat.lt_of_lt_of_le hn h.nv,fun r rt' hr=>?_,rfl,rfl,rfl⟩
  obtain ⟨rt,h1,h2,h3⟩:=h.hp r rt' hr
  exact .inr ⟨rt,h1,h2,fun p s hp=>⟨(h3.at p s).2 hp,hkeep r rt' hr p⟩⟩
 refine ⟨⟨⟨fun t=>?_,hs.tm.size,hs.tm.defers.mono hm⟩,⟨fun r rt' hr=>?_,fun r rt' hr=>?_,fun r p b hb=>?_,fun r rt' hr=>?_,fun r p r' p' b h1 h2=>hs.hp.inj r p r' p' b (hsub _ _ _ h1) (hsub _ _ _ h2)⟩⟩,hm⟩
 ·rcases h.tm t with h1|h1
  ·rw [h1];exact .undef _
  ·exact ((hs.tm.val t).mono hm).less h1
 ·obtain ⟨rt,h1,h2,h3⟩:=h.hp r rt' hr
  exact ((hs.hp.root r rt h1).mono hm (fun t s _=>⟨hkeep r rt' hr t,fun _ _=>rfl⟩)).less h3
 ·obtain ⟨rt,h1,h2,h3⟩:=h.hp r rt' hr
  rw [← h2]
  exact Nat.lt_of_lt_of_le (hs.hp.ver r rt h1) h.nv
 ·obtain ⟨h1,h2⟩:=hs.hp.dom r p b (hsub r p b hb)
  refine ⟨h1,?_⟩
  by_cases h0:r.1=0
  ·exact .inl h0
  ·obtain ⟨rt,s,h3,h4⟩:=h2.resolve_left h0
   cases hr:lkH hp' r with
   | none=>simp [keepB,h0,hr] at hb
   | some rt' =>
    obtain ⟨rt2,k1,k2,k3⟩:=h.hp r rt' hr
    rw [h3] at k1
    cases k1
    exact .inr ⟨rt',s,rfl,(k3.at p s).2 h4⟩
 ·obtain ⟨rt,h1,_⟩:=h.hp r rt' hr
  exact hs.hp.lev r rt h1

def LeTm (tm:Tm):Tm→Prop
 | []=>True
 | (k,v)::l=>NEq (lk tm k) v∧LeTm tm l
def LeHp (hp:Hp):Hp→Prop
 | []=>True
 | (r,x)::l=>(match lkH hp r with|some rt=>rt.ver=x.ver∧NEq rt.node x.node|none=>False)∧LeHp hp l

theorem Le.of {tm tm':Tm} {hp hp':Hp} {nv:Nat} (h1:LeTm tm tm') (h2:LeHp hp hp'):Le tm hp nv tm' hp' nv where
 tm:=by
  induction tm' with
  | nil=>intro t;exact .inl rfl
  | cons x l ih =>
   obtain ⟨k,v⟩:=x
   intro t
   simp only [lk]
   split
   ·rename_i e;subst e;exact .inr h1.1
   ·exact ih h1.2 t
 hp:=by
  induction hp' with
  | nil=>intro r rt h;simp [lkH] at h
  | cons x l ih =>
   obtain ⟨k,v⟩:=x
   intro r rt h
   simp only [lkH] at h
   split at h
   ·rename_i e
    subst e
    cases h
    have:=h2.1
    cases hl:lkH hp r with
    | none=>simp [hl] at this
    | some rt0=>simp only [hl] at this;exact ⟨rt0,rfl,this.1,this.2⟩
   ·exact ih h2.2 r rt h
 nv:=Nat.le_refl _

theorem NEq.int {k:IntKind} {a b:Int} (h:a=b):NEq (.int k a) (.int k b):=h ▸ .refl _
theorem NEq.bool {a b:Bool} (h:a=b):NEq (.bool a) (.bool b):=h ▸ .refl _
theorem NEq.of_eq {a b:PV} (h:a=b):NEq a b:=h ▸ .refl _

theorem wrapI {n:Int} (h : -9223372036854775808≤n∧n≤9223372036854775807):IntKind.i64.wrap n=n:=by
 simp [IntKind.wrap,IntKind.bits,IntKind.signed]
 omega

section
variable {P:Program} {lv:Nat} {nt:FS} {ro:Option Nat} {tm:Tm} {hp:Hp} {nv:Nat} {Q:Post}

theorem Ev.less {c:Code} {tm':Tm} {hp':Hp} {nv':Nat} (hl:Le tm hp nv tm' hp' nv') (h:Ev P lv nt ro c tm' hp' nv' Q):Ev P lv nt ro c tm hp nv Q:=by
 refine ⟨fun w B a hs=>?_⟩
 obtain ⟨h1,h2⟩:=hl.sound hs
 exact wpIn_mono (h.out w _ a h1) fun e a' w' ⟨tm2,hp2,nv2,B2,k1,k2,k3⟩=>⟨tm2,hp2,nv2,B2,k1,k2,h2.trans k3⟩

theorem exists_least {p:Nat→Prop} (h:∃ n,p n):∃ n,p n∧∀ m,p m→n≤m:=by
 obtain ⟨n,hn⟩:=h
 induction n using Nat.strongRecOn with
 | _ n ih =>
  by_cases h:∃ m,m<n∧p m
  ·obtain ⟨m,h1,h2⟩:=h;exact ih m h1 h2
  ·exact ⟨n,hn,fun m hm=>Nat.le_of_not_lt fun hlt=>h ⟨m,hlt,hm⟩⟩

noncomputable def least (p:Nat→Prop):Nat:=if h:∃ n,p n then (exists_least h).choose else 0
theorem least_spec {p:Nat→Prop} (h:∃ n,p n):p (least p):=by unfold least;rw [dif_pos h];exact (exists_least h).choose_spec.1
theorem least_le {p:Nat→Prop} {n:Nat} (h:p n):least p≤n:=by unfold least;rw [dif_pos ⟨n,h⟩];exact (exists_least ⟨n,h⟩).choose_spec.2 n h

theorem stepR_scope {b:Frame} {a:Act} {k:List Item} {cs:List Frame} {w:World} {c:Code}:step P (lone (b.atR a (.code (.scope c)::k)) cs w) = .next (lone (b.atR a (.code c :: .inScope c::k)) cs w) :=
 step_lone_go (by simp [stepG,stepG.exec,Frame.atR])
theorem stepR_inScope {b:Frame} {a:Act} {k:List Item} {cs:List Frame} {w:World} {c:Code}:step P (lone (b.atR a (.inScope c::k)) cs w) = .next (lone (b.atR a k) cs w) :=
 step_lone_go (by simp [stepG,stepG.exec,Frame.atR])

theorem Ev.loop {c:Code} {ι:Type} (tmS:ι→Tm) (hpS:ι→Hp) (μ:ι→Nat) (i0:ι) (h0:Le tm hp nv (tmS i0) (hpS i0) nv)
  (hr:∀ i nv,Ev P lv nt ro c (tmS i) (hpS i) nv (thenQ (fun tm hp nv=>∃ j,Le tm hp nv (tmS j) (hpS j) nv∧μ j<μ i) Q)):Ev P lv nt ro (.loop c) tm hp nv Q:=by
 refine ⟨fun w B a hs=>?_⟩
 obtain ⟨g1,g2⟩:=h0.sound hs
 let at_:Act→World→Nat→Prop:=fun a' w' n=>∃ i nv' B',SR nt (tmS i) (hpS i) nv' w' B' a'∧Mono w B (lkH hp) (·<nv) w' B' (lkH (hpS i)) (·<nv')∧μ i=n
 refine wpIn_loop (fun a' w'=>∃ n,at_ a' w' n) (fun a' w'=>least (at_ a' w')) ⟨_,i0,nv,_,g1,g2,rfl⟩ ?_
 intro a1 w1 hI
 obtain ⟨i,nv1,B1,h1,h2,h3⟩:=least_spec hI
 refine wpIn_mono ((hr i nv1).out w1 B1 a1 h1) ?_
 rintro e a2 w2 ⟨tm2,hp2,nv2,B2,k1,k2,k3⟩
 cases e with
 | normal =>
  obtain ⟨j,hj,hlt⟩:=k1
  obtain ⟨g1,g2⟩:=Le.sound hj k2
  have hat:at_ a2 w2 (μ j):=⟨j,nv2,_,g1,(h2.trans k3).trans g2,rfl⟩
  exact ⟨⟨_,hat⟩,Nat.lt_of_le_of_lt (least_le hat) (h3▸hlt)⟩
 | _=>exact ⟨tm2,hp2,nv2,B2,k1,k2,h2.trans k3⟩

theorem Ev.scope {c rest:Code} {ι:Type} (l:Nat) (hf:findLabel c l=some rest) (tmS:ι→Tm) (hpS:ι→Hp) (μ:ι→Nat)
  (first:Ev P lv nt ro c tm hp nv fun e tm hp nv=>match e with | .goto l'=>l'=l∧∃ j,Le tm hp nv (tmS j) (hpS j) nv|e=>Q e tm hp nv)
  (pass:∀ i nv,Ev P lv nt ro rest (tmS i) (hpS i) nv fun e tm hp nv=>match e with | .goto l'=>l'=l∧∃ j,Le tm hp nv (tmS j) (hpS j) nv∧μ j<μ i|e=>Q e tm hp nv) :
  Ev P lv nt ro (.scope c) tm hp nv Q:=by
 refine ⟨fun w B a hs b k cs hro hb hroom=>?_⟩
 have hg:gotoIn l (.inScope c::k)=some (.code rest :: .inScope c::k):=by simp [gotoIn,hf]
 have room:∀ n,(Wd ro).room n:=fun n _ h=>by simp [Wd,Fence.wide] at h
 have hfn:∀ f,(Wd ro).fn f:=fun _=>trivial
 have post:∀ (e:Exit) (tm1:Tm) (hp1:Hp) (nv1:Nat) (w1:World) (B1:Blocks) (a1:Act),True:=fun _ _ _ _ _ _ _=>trivial
 have out:∀ (m:Machine) (e:Exit) (a':Act) (w':World),(∀ t,e ≠ .goto t)→ArrivesIn (Machine.fenced P (Wd ro)) P m b (.inScope c::k) cs e a' w'→ArrivesIn (Machine.fenced P (Wd ro)) P m b k cs e a' w':=by
  intro m e a' w' hne harr
  cases e with
  | normal=>exact harr.trans (.one (fenced_calm (n:=0) hb (room _) rfl) (stepR_inScope (b:=b)))
  | exit id=>exact ⟨fun k' hk=>harr.1 k' (by simp [exitTo,hk]),fun hr hk=>harr.2 hr (by simp [exitTo,hk])⟩
  | goto t=>exact absurd rfl (hne t)
  | ret=>exact harr
  | panic ch=>exact harr
  | outgrown=>exact harr
 have key:∀ n i nv1 w1 B1 a1,μ i=n→SR nt (tmS i) (hpS i) nv1 w1 B1 a1→Mono w B (lkH hp) (·<nv) w1 B1 (lkH (hpS i)) (·<nv1) →
   ∃ e a' w',(∃ tm' hp' nv' B',Q e tm' hp' nv'∧SR nt tm' hp' nv' w' B' a'∧Mono w B (lkH hp) (·<nv) w' B' (lkH hp') (·<nv')) ∧
    ArrivesIn (Machine.fenced P (Wd ro)) P (lone (b.atR a1 (.code rest :: .inScope c::k)) cs w1) b k cs e a' w':=by
  intro n
  induction n using Nat.strongRecOn with
  | _ n ih =>
   intro i nv1 w1 B1 a1 hn hs1 hm1
   obtain ⟨e,a2,w2,⟨tm2,hp2,nv2,B2,hq,hs2,hm2⟩,harr⟩:=(pass i nv1).out w1 B1 a1 hs1 b (.inScope c::k) cs hro (hfn _) (room _)
   cases e with
   | goto t =>
    obtain ⟨rfl,j,hj,hlt⟩:=hq
    obtain ⟨g1,g2⟩:=hj.sound hs2
    obtain ⟨e3,a3,w3,h3,harr3⟩:=ih (μ j) (by omega) j nv2 w2 _ a2 rfl g1 ((hm1.trans hm2).trans g2)
    exact ⟨e3,a3,w3,h3,.of_steps (harr.1 _ hg) harr3⟩
   | _=>exact ⟨_,a2,w2,⟨tm2,hp2,nv2,B2,hq,hs2,hm1.trans hm2⟩,out _ _ _ _ (by simp) harr⟩
 obtain ⟨e,a2,w2,⟨tm2,hp2,nv2,B2,hq,hs2,hm2⟩,harr⟩:=first.out w B a hs b (.inScope c::k) cs hro (hfn _) (room _)
 have hstep:StepsIn (Machine.fenced P (Wd ro)) P (lone (b.atR a (.code (.scope c)::k)) cs w) (lone (b.atR a (.code c :: .inScope c::k)) cs w) := .one (fenced_calm (n:=0) hb (room _) rfl) (stepR_scope (b:=b))
 cases e with
 | goto t =>
  obtain ⟨rfl,j,hj⟩:=hq
  obtain ⟨g1,g2⟩:=hj.sound hs2
  obtain ⟨e3,a3,w3,h3,harr3⟩:=key (μ j) j nv2 w2 _ a2 rfl g1 (hm2.trans g2)
  exact ⟨e3,a3,w3,h3,.of_steps (hstep.trans (harr.1 _ hg)) harr3⟩
 | _=>exact ⟨_,a2,w2,⟨tm2,hp2,nv2,B2,hq,hs2,hm2⟩,.of_steps hstep (out _ _ _ _ (by simp) harr)⟩
end
end Go.Ab
namespace Go.Ab
open Classical

def params:Nat→List PV→Tm
 | _,[]=>[]
 | i,x::l=>(i,x)::params (i+1) l

theorem lk_params (l:List PV):∀ (k t:Nat),lk (params k l) t=if k≤t∧t<k+l.length then l.getD (t - k) .undef else .undef:=by
 induction l with
 | nil=>intro k t;simp [params,lk]
 | cons x l ih =>
  intro k t
  simp only [params,lk,ih,List.length_cons]
  by_cases h:t=k
  ·subst h;simp
  ·rw [if_neg h]
   by_cases h2:k+1≤t∧t<k+1+l.length
   ·rw [if_pos h2,if_pos (by omega)]
    obtain ⟨d,hd⟩:∃ d,t - k=d+1:=⟨t - k - 1,by omega⟩
    rw [hd,show t - (k+1)=d by omega]
    rfl
   ·rw [if_neg h2,if_neg (by omega)]

def A.bind:A→(PV→A)→A
 | .ret x,f=>f x
 | @A.vc p d k,f=>@A.vc p d (k.bind f)
 | .hyp p k,f => .hyp p (k.bind f)
 | .rd r k,f => .rd r fun x=>(k x).bind f
 | .wr r x k,f => .wr r x (k.bind f)
 | .any k,f => .any fun b=>(k b).bind f
 | @A.dec p d k,f=>@A.dec p d fun b=>(k b).bind f
 | .opt o k,f => .opt o fun b=>(k b).bind f
 | .all p k,f => .all p fun b=>(k b).bind f
 | .fail,_ => .fail

theorem A.wp_bind (a:A) (f:PV→A) (h:Hp) (K:PV→Hp→Prop):(a.bind f).wp h K↔a.wp h fun x h'=>(f x).wp h' K:=by
 induction a generalizing h with
 | ret x=>exact Iff.rfl
 | vc p k ih=>simp only [A.bind,A.wp,ih]
 | hyp p k ih=>simp only [A.bind,A.wp,ih]
 | rd r k ih=>simp only [A.bind,A.wp,ih]
 | wr r x k ih=>simp only [A.bind,A.wp,ih]
 | any k ih=>simp only [A.bind,A.wp,ih]
 | dec p k ih=>simp only [A.bind,A.wp,ih]
 | opt o k ih=>simp only [A.bind,A.wp,ih]
 | all p k ih=>simp only [A.bind,A.wp,ih]
 | fail=>exact Iff.rfl

def resA (P:Program) (tm:Tm):List ResultVar→(List PV→A)→A
 | [],k=>k []
 | .tmp t::l,k=>opnd tm (.tmp t) fun v=>resA P tm l fun vs=>k (v::vs)
 | .cell a t::l,k=>opnd tm (.tmp a) fun p=>(loadA P t p).bind fun v=>resA P tm l fun vs=>k (v::vs)

def resultsA (P:Program) (tm:Tm) (l:List ResultVar):A:=resA P tm l fun vs=>match vs with
 | [v] => .ret v
 | vs => .ret (.tup vs)

def resSem (tmps:Array Value):ResultVar→Sem Value
 | .tmp t=>pure (tmps.getD t Go.undef)
 | .cell b t=>do loadVar t (← asAddr (tmps.getD b Go.undef))

theorem results_eq (fn:Func) (tmps:Array Value):results fn tmps=(do
 let vs ← fn.results.mapM (resSem tmps)
 pure (if h:vs.size=1 then vs[0] else .tuple vs)):=rfl

theorem resA_real {P:Program} {nt:FS} {w:World} {B:Blocks} {tm:Tm} {hp:Hp} {V:Nat→Prop} {a:Act} (hr:HR w B (lkH hp) V) (ht:TmR w B (lkH hp) V nt tm a) {K:PV→Hp→Prop} :
  ∀ (l:List ResultVar) {k:List PV→A},(resA P tm l k).wp hp K →
   ∃ vs cs,(l.mapM (resSem a.tmps)).run P w = .ok cs w∧LR w B (lkH hp) V vs cs.toArray∧(k vs).wp hp K:=by
 intro l
 induction l with
 | nil=>intro k h;exact ⟨[],[],by simp,⟨by simp,fun i hi=>by simp at hi⟩,h⟩
 | cons r l ih =>
  intro k h
  have cons:∀ (v:PV) (x:Value) (vs:List PV) (cs:List Value),VR w B (lkH hp) V v x→LR w B (lkH hp) V vs cs.toArray→LR w B (lkH hp) V (v::vs) (x::cs).toArray:=by
   intro v x vs cs hv hl
   refine ⟨by have:=hl.len;simp at this;simp [this],fun i hi=>?_⟩
   cases i with
   | zero=>simpa using hv
   | succ i =>
    have:=hl.val i (by simpa using hi)
    simpa [List.getD_eq_getElem?_getD,Array.getD_eq_getD_getElem?] using this
  have hop:∀ (t:Nat) {k':PV→A},(opnd tm (.tmp t) k').wp hp K→∃ v,VR w B (lkH hp) V v (a.tmps.getD t Go.undef)∧(k' v).wp hp K:=by
   intro t k' h
   unfold opnd at h
   have he:=ht.ev (.tmp t)
   split at h
   ·rename_i g g' v e
    rw [e] at he
    obtain ⟨⟨hg,hg'⟩,hk⟩:=h
    cases he with
    | whn he _ =>
     cases he hg with
     | whn he' _=>exact ⟨v,he' hg',hk⟩
   ·rename_i g v _ e
    rw [e] at he
    obtain ⟨hg,hk⟩:=h
    cases he with
    | whn he _=>exact ⟨v,he hg,hk⟩
   ·exact ⟨_,he,h⟩
  cases r with
  | tmp t =>
   obtain ⟨v,hv,h⟩:=hop t h
   obtain ⟨vs,cs,h1,h2,h3⟩:=ih h
   refine ⟨v::vs,_::cs,?_,cons _ _ _ _ hv h2,h3⟩
   rw [List.mapM_cons]
   simp only [Sem.run_bind,resSem,Sem.run_pure,Result.andThen_ok,h1]
  | cell b t =>
   obtain ⟨p,hp',h⟩:=hop b h
   rw [A.wp_bind] at h
   obtain ⟨v,x,h1,h2,h3⟩:=load_pure hr t hp' _ h
   obtain ⟨vs,cs,g1,g2,g3⟩:=ih h2
   refine ⟨x::vs,v::cs,?_,cons _ _ _ _ h3 g2,g3⟩
   have hlv:(do loadVar t (← asAddr (a.tmps.getD b Go.undef)):Sem Value).run P w = .ok v w:=by
    simp only [Instr.loadAt] at h1
    cases hx:a.tmps.getD b Go.undef <;> rw [hx] at h1 <;> simp [Instr.sureAddr] at h1
    rename_i o
    cases o with
    | none=>simp [Instr.sureAddr] at h1
    | some ad=>simpa [asAddr,Instr.sureAddr] using h1
   rw [List.mapM_cons]
   simp only [Sem.run_bind,resSem] at hlv ⊢
   rw [hlv]
   simp only [Result.andThen_ok,g1,Sem.run_pure]

theorem results_real {P:Program} {fn:Func} {nt:FS} {w:World} {B:Blocks} {tm:Tm} {hp:Hp} {V:Nat→Prop} {a:Act} (hr:HR w B (lkH hp) V) (ht:TmR w B (lkH hp) V nt tm a) {K:PV→Hp→Prop}
  (h:(resultsA P tm fn.results.toList).wp hp K):∃ v x,(results fn a.tmps).run P w = .ok v w∧K x hp∧VR w B (lkH hp) V x v:=by
 obtain ⟨vs,cs,h1,h2,h3⟩:=resA_real hr ht _ h
 have hrun:(results fn a.tmps).run P w = .ok (if h:cs.toArray.size=1 then cs.toArray[0] else .tuple cs.toArray) w:=by
  rw [results_eq]
  simp only [Sem.run_bind]
  have:(fn.results.mapM (resSem a.tmps)).run P w = .ok cs.toArray w:=by
   rw [Array.mapM_eq_mapM_toList]
   simp only [Sem.run_map]
   rw [h1]
   rfl
  rw [this]
  rfl
 split at h3
 ·rename_i v
  have hl:cs.toArray.size=1:=by rw [← h2.len];rfl
  rw [dif_pos hl] at hrun
  refine ⟨_,v,hrun,h3,?_⟩
  have:=h2.val 0 (by simp)
  simpa [Array.getD_eq_getD_getElem?,hl] using this
 ·rename_i hne
  have hl:cs.toArray.size≠1:=by
   intro hl
   rw [← h2.len] at hl
   match vs,hl with
   | [v],_=>exact hne v rfl
  rw [dif_neg hl] at hrun
  exact ⟨_,_,hrun,h3,.tup h2.len h2.val⟩

def bodyQ (P:Program) (rs:List ResultVar) (R:PV→Hp→Nat→Prop):Post
 | .normal,tm,hp,nv | .ret,tm,hp,nv=>(resultsA P tm rs).wp hp fun x hp'=>R x hp' nv
 | _,_,_,_=>False

theorem start_tm {nt:FS} {w:World} {B:Blocks} {H:Roots} {V:Nat→Prop} {args:List PV} {cs:Array Value} (ha:LR w B H V args cs) (hn:args.length≤nt) (hlo:nt.lo≤w.heap.size) :
  TmR w B H V nt (params 0 args) { tmps:=cs++Array.replicate (nt - cs.size) Go.undef,defers:=[] } where
 val t:=by
  rw [lk_params]
  by_cases h:0≤t∧t<0+args.length
  ·rw [if_pos h]
   have hlt:t<cs.size:=by rw [← ha.len];omega
   have:=ha.val t (by omega)
   simpa [Array.getD_eq_getD_getElem?,Array.getElem?_append,hlt] using this
  ·rw [if_neg h];exact .undef _
 size:=by have:=ha.len;simp;omega
 defers := .nil hlo

/-! ### The marks are taken -/
open Go.ChangeMaps (setBlock)
def takeB (w:World) (bs:List Nat):World:=bs.foldl (fun w b=>setBlock w b (.deferred none)) w

theorem takeB_size (w:World) (bs:List Nat):(takeB w bs).heap.size=w.heap.size:=by
 induction bs generalizing w with
 | nil=>rfl
 | cons b bs ih=>exact (ih (setBlock w b (.deferred none))).trans (by simp [setBlock])

theorem takeB_ne {bs:List Nat} {k:Nat}:∀ {w:World},k ∉ bs→(takeB w bs).heap[k]?=w.heap[k]?:=by
 induction bs with
 | nil=>intro w _;rfl
 | cons b bs ih =>
  intro w h
  simp only [List.mem_cons,not_or] at h
  exact (ih h.2).trans (setBlock_ne _ h.1)

theorem takeB_eq (w:World) (bs:List Nat):(takeB w bs).os=w.os∧(takeB w bs).tape=w.tape∧(takeB w bs).output=w.output:=by
 induction bs generalizing w with
 | nil=>exact ⟨rfl,rfl,rfl⟩
 | cons b bs ih=>exact ih (setBlock w b (.deferred none))

theorem leaves_marks {F:Fence} {n:Nat} {P:Program} {fn:Func} {tmps:Array Value} {R:Ending→World→Prop}:∀ (bs:List Nat) (w:World),bs.Nodup→(∀ b∈bs,w.heap[b]?=some (.deferred (some []))) →
  (∃ v,(results fn tmps).run P (takeB w bs) = .ok v (takeB w bs)∧R (.returned v) (takeB w bs))→LeavesInM F n P fn tmps R (bs.map fun b=>⟨.collected b,#[]⟩) .returning w:=by
 intro bs
 induction bs with
 | nil=>intro w _ _ h;exact h
 | cons b bs ih =>
  intro w hnd hb h
  rw [List.nodup_cons] at hnd
  refine ⟨by simp,.inl ⟨b,setBlock w b (.deferred none),rfl,?_,ih _ hnd.2 (fun c hc=>?_) h⟩⟩
  ·have h1:=hb b (by simp)
   have hg:(getObj b).run P w = .ok (.deferred (some [])) w:=by simp only [getObj,Sem.run,h1]
   have hs:(setObj b (.deferred none)).run P w = .ok () (setBlock w b (.deferred none)):=by simp only [setObj,Sem.run,h1,setBlock]
   simp [Instr.takeDeferred,hg,hs]
  ·rw [setBlock_ne _ (fun e:c=b=>hnd.1 (e▸hc))]
   exact hb c (by simp [hc])

theorem take_turn {w0 w:World} {B0 B:Blocks} {H0' H:Roots} {V0' V:Nat→Prop} {bs:List Nat} (hr:HR w B H V) (hm:Mono w0 B0 H0' V0' w B H V) (hb:∀ b∈bs,w0.heap.size≤b∧free B b∧w.heap[b]?=some (.deferred (some []))) :
  Turn w B H V (takeB w bs) B H V∧HR (takeB w bs) B H V∧Mono w0 B0 H0' V0' (takeB w bs) B H V:=by
 have hshape:∀ b s,w.shape? b=some s→(takeB w bs).shape? b=some s:=fun b s hs=>by
  by_cases h:b∈bs
  ·simp only [World.shape?,(hb b h).2.2] at hs
   cases hs
  ·simp only [World.shape?] at hs ⊢
   rw [takeB_ne h]
   exact hs
 have ht:Turn w B H V (takeB w bs) B H V:=by
  refine ⟨by rw [takeB_size];exact Nat.le_refl _,fun b hlt hf=>⟨hf,?_⟩,hshape,fun _ h=>h,fun r rt h => .inr ⟨rt,h,rfl,fun _ _ h=>⟨h,rfl⟩⟩⟩
  by_cases h:b∈bs
  ·exact .inr ⟨_,(hb b h).2.2⟩
  ·exact .inl (takeB_ne h)
 have hown:∀ r p b,B r p=some b→(takeB w bs).heap[b]?=w.heap[b]?:=fun r p b h=>takeB_ne fun hm=>(hb b hm).2.1 r p h
 refine ⟨ht,⟨fun r rt h=>(hr.root r rt h).turn ht (fun t s _=>⟨rfl,fun b h=>hown _ _ _ h⟩),hr.ver,fun r p b h=>?_,hr.lev,hr.inj⟩,?_⟩
 ·obtain ⟨h1,h2⟩:=hr.dom r p b h
  exact ⟨by rw [takeB_size];exact h1,h2⟩
 ·refine ⟨by rw [takeB_size];exact hm.size,fun b hlt hf=>?_,fun r p b h0 h=>?_,hm.fresh,fun b s hs=>hshape b s (hm.shape b s hs),hm.vers,hm.root,?_,?_,?_⟩
  ·obtain ⟨h1,h2⟩:=hm.free b hlt hf
   exact ⟨h1,(takeB_ne fun hx=>by have:=(hb b hx).1;omega).trans h2⟩
  ·obtain ⟨h1,h2⟩:=hm.foreign r p b h0 h
   exact ⟨h1,(hown _ _ _ h1).trans h2⟩
  ·exact (takeB_eq w bs).1.trans hm.os
  ·exact (takeB_eq w bs).2.1.trans hm.tape
  ·exact (takeB_eq w bs).2.2.trans hm.output

theorem body_calls {P:Program} {f:FuncId} {fn:Func} {c:Code} {lv nt:Nat} {rs:Array ResultVar} {hp:Hp} {nv:Nat} {args:List PV} {R:PV→Hp→Nat→Prop} (hf:P.funcs[f]?=some fn) (hb:fn.body=some c) (hnt:fn.ntmps=nt) (hrs:fn.results=rs) (hn:args.length≤nt)
  (h:∀ lo,Ev P lv ⟨nt,lo⟩ none c (params 0 args) hp nv (bodyQ P rs.toList R)) {w:World} {B:Blocks} {cs:Array Value} (hr:HR w B (lkH hp) (·<nv)) (ha:LR w B (lkH hp) (·<nv) args cs) :
  Calls P f cs w fun e w'=>∃ v x hp' nv' B',e = .returned v∧R x hp' nv'∧VR w' B' (lkH hp') (·<nv') x v∧HR w' B' (lkH hp') (·<nv')∧Mono w B (lkH hp) (·<nv) w' B' (lkH hp') (·<nv'):=by
 subst hnt hrs
 refine callsIn_wide.1 (callsIn_of_wp_marks (n:=0) hf hb trivial (wpIn_mono ((h w.heap.size).out w B _ ⟨start_tm (nt:=⟨fn.ntmps,w.heap.size⟩) ha hn (Nat.le_refl _),hr⟩) ?_))
 rintro e a' w' ⟨tm',hp',nv',B',h1,h2,h3⟩
 have fin:(resultsA P tm' fn.results.toList).wp hp' (fun x hp''=>R x hp'' nv')→LeavesInM Fence.wide 0 P fn a'.tmps (fun e w'=>∃ v x hp' nv' B',e = .returned v∧R x hp' nv'∧VR w' B' (lkH hp') (·<nv') x v∧HR w' B' (lkH hp') (·<nv')∧Mono w B (lkH hp) (·<nv) w' B' (lkH hp') (·<nv')) a'.defers .returning w':=by
  intro hk
  obtain ⟨_,bs,e1,e2,e3⟩:=h2.tm.defers
  obtain ⟨ht,hr',hm'⟩:=take_turn h2.hp h3 e3
  have ht2:TmR (takeB w' bs) B' (lkH hp') (·<nv') ⟨fn.ntmps,0⟩ tm' { tmps:=a'.tmps,defers:=[] }:=⟨fun t=>(h2.tm.val t).turn ht,h2.tm.size,.nil (Nat.zero_le _)⟩
  obtain ⟨v,x,g1,g2,g3⟩:=results_real hr' ht2 hk
  rw [e1]
  exact leaves_marks bs w' e2 (fun b hb=>(e3 b hb).2.2) ⟨v,g1,v,x,hp',nv',B',rfl,g2,g3,hr',hm'⟩
 cases e with
 | normal=>exact fin h1
 | ret=>exact fin h1
 | _=>exact h1.elim

noncomputable def base0 (B:Blocks):Blocks:=fun r p=>if r.1=0 then B r p else none

theorem callsF_of {P:Program} {f:FuncId} {fn:Func} {c:Code} {nt:Nat} {rs:Array ResultVar} {args:List PV} {res:PV} (he:Enters P f) (hf:P.funcs[f]?=some fn) (hb:fn.body=some c) (hnt:fn.ntmps=nt) (hrs:fn.results=rs) (hn:args.length≤nt)
  (h:∀ lo,Ev P 1 ⟨nt,lo⟩ none c (params 0 args) [] 0 (bodyQ P rs.toList fun x hp nv=>NEq (view 9 hp x) res)):CallsF P f args res:=by
 refine ⟨he,fun w B cs hr ha=>?_⟩
 have hr':HR w B (lkH []) (·<0):=⟨fun r rt h=>(by simp [lkH] at h),fun r rt h=>(by simp [lkH] at h),fun r p b h=>by
  obtain ⟨h1,h2⟩:=hr.dom r p b h
  exact ⟨h1,h2.imp (fun h=>h) (fun ⟨rt,s,h,_⟩=>by cases h)⟩,fun r rt h=>(by simp [lkH] at h),hr.inj⟩
 have ha':LR w B (lkH []) (·<0) args cs:=ha.turn fun x v _ hv=>hv.lift (fun _ _ _ h=>h)
 refine (body_calls hf hb hnt hrs hn h hr' ha').mono fun e w' he=>?_
 obtain ⟨v,x,hp',nv',B',rfl,hx,hv,hr2,hm⟩:=he
 have hsub:∀ r p b,base0 B' r p=some b→B' r p=some b∧r.1=0:=fun r p b h=>by
  unfold base0 at h
  split at h
  ·exact ⟨h,by assumption⟩
  ·cases h
 refine ⟨v,base0 B',rfl,?_,⟨hm.size,fun b hb hfr=>⟨fun r p h=>(hm.free b hb hfr).1 r p (hsub r p b h).1,(hm.free b hb hfr).2⟩,fun r p b h0 h=>⟨by simp [base0,h0,(hm.foreign r p b h0 h).1],(hm.foreign r p b h0 h).2⟩,
  fun r p b h=>hm.fresh r p b (hsub r p b h).1,hm.shape,fun _ h=>h,fun r rt h=>(by simp [H0] at h),hm.os,hm.tape,hm.output⟩⟩
 exact ((VR.view hr2 (Bc:=base0 B') (fun b _ hfr r p h=>hfr r p (hsub r p b h).1) (fun r p b h0 h r' p' h'=>h0 ((hr2.inj _ _ _ _ _ h (hsub _ _ _ h').1).1▸(hsub _ _ _ h').2)) 9).1 x v hv).less hx

theorem callsA_of {P:Program} {f:FuncId} {fn:Func} {c:Code} {lv nt:Nat} {rs:Array ResultVar} {hp:Hp} {nv:Nat} {args:List PV} {R:PV→Hp→Nat→Prop} (he:Enters P f) (hf:P.funcs[f]?=some fn) (hb:fn.body=some c) (hnt:fn.ntmps=nt) (hrs:fn.results=rs) (hn:args.length≤nt)
  (h:∀ lo,Ev P lv ⟨nt,lo⟩ none c (params 0 args) hp nv (bodyQ P rs.toList fun x hp' nv'=>∃ tm2 hp2,R (lk tm2 0) hp2 nv'∧Le [(0,x)] hp' nv' tm2 hp2 nv')):CallsA P f args hp nv R:=by
 refine ⟨he,fun w B cs hr ha=>?_⟩
 refine (body_calls hf hb hnt hrs hn h hr ha).mono fun e w' he=>?_
 obtain ⟨v,x,hp',nv',B',rfl,⟨tm2,hp2,hR,hle⟩,hv,hr2,hm⟩:=he
 have hs:SR ⟨1,0⟩ [(0,x)] hp' nv' w' B' { tmps:=#[v],defers:=[] }:=⟨⟨fun t=>by
  simp only [lk]
  split
  ·rename_i h0;subst h0;simpa using hv
  ·exact .undef _,rfl,.nil (Nat.zero_le _)⟩,hr2⟩
 obtain ⟨g1,g2⟩:=hle.sound hs
 have:=g1.tm.val 0
 exact ⟨v,_,lk tm2 0,hp2,nv',rfl,hR,by simpa using this,g1.hp,hm.trans g2⟩
end Go.Ab
namespace Go.Ab
open Classical

def A.ok (fb ow:RId→Prop):A→Roots→PV→Roots→Prop
 | .ret x,H,v,H'=>v=x∧H'=H
 | @A.vc p _ k,H,v,H'=>p∧A.ok fb ow k H v H'
 | .hyp _ k,H,v,H'=>A.ok fb ow k H v H'
 | .rd r k,H,v,H'=>¬ fb r∧A.ok fb ow (k (H r)) H v H'
 | .wr r x k,H,v,H'=>ow r∧A.ok fb ow k (fun j=>if j=r then x else H j) v H'
 | .any _,_,_,_=>False
 | @A.dec p d k,H,v,H'=>A.ok fb ow (k (@decide p d)) H v H'
 | .opt o k,H,v,H'=>A.ok fb ow (k o) H v H'
 | .all ..,_,_,_=>False
 | .fail,_,_,_=>False

theorem A.ok_wp {fb ow:RId→Prop} {a:A} {hp:Hp} {v:PV} {H':Roots} (h:a.ok fb ow (lkH hp) v H') {K:PV→Hp→Prop} (hk:∀ hp',lkH hp'=H'→K v hp'):a.wp hp K:=by
 induction a generalizing hp with
 | ret x=>obtain ⟨rfl,rfl⟩:=h;exact hk hp rfl
 | vc p k ih=>exact ⟨h.1,ih h.2⟩
 | hyp p k ih=>exact fun _=>ih h
 | rd r k ih=>exact ih _ h.2
 | wr r x k ih =>
  refine ih (hp:=setH hp r x) ?_
  have:(lkH (setH hp r x))=fun j=>if j=r then x else lkH hp j:=funext fun j=>lookH_setH hp r j x
  rw [this]
  exact h.2
 | any k ih=>exact h.elim
 | dec p k ih=>exact ih _ h
 | opt o k ih=>exact ih _ h
 | all p k ih=>exact h.elim
 | fail=>exact h.elim

def Chg (ow:RId→Prop) (H H1 H' H1':Roots):Prop :=
 (∀ r,¬ ow r→H1 r=H r∧H1' r=H' r)∧∀ r,ow r→(H1 r=H r∧H1' r=H' r)∨H1 r=H1' r

theorem A.ok_frame {fb ow:RId→Prop} {a:A} {H H1:Roots} {v:PV} (h:a.ok fb ow H v H1) {H':Roots} (hag:∀ r,¬ fb r→H r=H' r) :
  ∃ H1',a.ok fb ow H' v H1'∧Chg ow H H1 H' H1':=by
 induction a generalizing H H' with
 | ret x=>obtain ⟨rfl,rfl⟩:=h;exact ⟨H',⟨rfl,rfl⟩,fun r _=>⟨rfl,rfl⟩,fun r _ => .inl ⟨rfl,rfl⟩⟩
 | vc p k ih=>obtain ⟨H1',h1,h2⟩:=ih h.2 hag;exact ⟨H1',⟨h.1,h1⟩,h2⟩
 | hyp p k ih=>exact ih h hag
 | rd r k ih =>
  obtain ⟨h1,h2⟩:=h
  obtain ⟨H1',h3,h4⟩:=ih _ h2 hag
  exact ⟨H1',⟨h1,by rw [← hag r h1];exact h3⟩,h4⟩
 | wr r x k ih =>
  obtain ⟨h1,h2⟩:=h
  obtain ⟨H1',h3,h4⟩:=ih h2 (H':=fun j=>if j=r then x else H' j) (fun j hj=>by simp only [hag j hj])
  refine ⟨H1',⟨h1,h3⟩,fun j hj=>?_,fun j hj=>?_⟩
  ·have hne:j≠r:=fun e=>hj (e▸h1)
   have:=h4.1 j hj
   simpa [hne] using this
  ·rcases h4.2 j hj with h5|h5
   ·by_cases e:j=r
    ·subst e;simp only [if_true] at h5;exact .inr (h5.1.trans h5.2.symm)
    ·simp only [e,if_false] at h5;exact .inl h5
   ·exact .inr h5
 | any k ih=>exact h.elim
 | dec p k ih=>exact ih _ h hag
 | opt o k ih=>exact ih _ h hag
 | all p k ih=>exact h.elim
 | fail=>exact h.elim

def A.pure:A→Prop
 | .ret _=>True
 | @A.vc _ _ k=>A.pure k
 | .hyp _ k=>A.pure k
 | .rd ..=>False
 | .wr ..=>False
 | .any _=>False
 | @A.dec _ _ k=>∀ b,A.pure (k b)
 | .opt _ k=>∀ o,A.pure (k o)
 | .all ..=>False
 | .fail=>True

theorem A.ok_pure {fb ow:RId→Prop} {a:A} (hp:a.pure) {H H1:Roots} {v:PV} (h:a.ok fb ow H v H1):H1=H∧∀ fb' ow' H',a.ok fb' ow' H' v H':=by
 induction a with
 | ret x=>obtain ⟨rfl,rfl⟩:=h;exact ⟨rfl,fun _ _ _=>⟨rfl,rfl⟩⟩
 | vc p k ih=>obtain ⟨h1,h2⟩:=ih hp h.2;exact ⟨h1,fun fb' ow' H'=>⟨h.1,h2 fb' ow' H'⟩⟩
 | hyp p k ih=>exact ih hp h
 | rd r k ih=>exact hp.elim
 | wr r x k ih=>exact hp.elim
 | any k ih=>exact h.elim
 | dec p k ih=>exact ih _ (hp _) h
 | opt o k ih=>exact ih _ (hp _) h
 | all p k ih=>exact h.elim
 | fail=>exact h.elim

def Shp (H H':Roots):Prop:=∀ r,match H r,H' r with
 | none,none=>True
 | some a,some b=>a.ver=b.ver∧∀ p,shapeOf (getAt a.node p)=shapeOf (getAt b.node p)
 | _,_=>False

theorem Shp.refl (H:Roots):Shp H H:=fun r=>by cases H r <;> simp
theorem Shp.symm {H H':Roots} (h:Shp H H'):Shp H' H:=fun r=>by
 have:=h r
 cases h1:H r <;> cases h2:H' r <;> simp_all

def A.shp (a:A):Prop:=∀ fb ow H v H1,a.ok fb ow H v H1→H1=H∧∀ H',Shp H H'→a.ok fb ow H' v H'

theorem A.pure.shp {a:A} (h:a.pure):a.shp:=fun _ _ _ _ _ h1=>⟨(A.ok_pure h h1).1,fun H' _=>(A.ok_pure h h1).2 _ _ H'⟩

def A.mild (a:A):Prop:=∀ fb ow H v H1,a.ok fb ow H v H1→Shp H H1

/-! ### The operations' kinds -/
def kindOf:Op→Nat
 | .move _ | .assign _ | .pick .. | .unOp .. | .extract .. | .makeFunc .. | .convert .. | .field .. | .index ..=>0
 | .binOp op ..=>if isEq op then 1 else 0
 | .indexAddr .. | .fieldAddr .. | .nilCheck _ | .slice ..=>1
 | .store ..=>3
 | _=>2

def makes:Op→Bool
 | .alloc _ | .box .. | .buildSlice .. | .makeSlice .. | .call _ | .makeMap ..=>true
 | _=>false

theorem opnd_pure {tm:Tm} {x:Operand} {k:PV→A} (h:∀ v,(k v).pure):(opnd tm x k).pure:=by
 unfold opnd;split
 ·exact h _
 ·exact h _
 ·exact h _
theorem opnds_pure {tm:Tm} {l:List Operand} {k:List PV→A} (h:∀ v,(k v).pure):(opnds tm l k).pure:=by
 induction l generalizing k with
 | nil=>exact h _
 | cons x l ih=>exact opnd_pure fun v=>ih fun vs=>h _
theorem opnd_shp {tm:Tm} {x:Operand} {k:PV→A} (h:∀ v,(k v).shp):(opnd tm x k).shp:=by
 unfold opnd;split
 ·rename_i g g' v _
  exact fun fb ow H v' H1 hk=>⟨(h v fb ow H v' H1 hk.2).1,fun H' hs=>⟨hk.1,(h v fb ow H v' H1 hk.2).2 H' hs⟩⟩
 ·rename_i g v _ _
  exact fun fb ow H v' H1 hk=>⟨(h v fb ow H v' H1 hk.2).1,fun H' hs=>⟨hk.1,(h v fb ow H v' H1 hk.2).2 H' hs⟩⟩
 ·exact h _

theorem binA_pure (op:BinOp) (x y:PV):(binA op x y).pure:=by
 unfold binA
 split <;> (try split) <;> simp [A.pure]
theorem unA_pure (op:UnOp) (x:PV):(unA op x).pure:=by
 unfold unA
 repeat' split
 all_goals first|trivial|simp [A.pure]
theorem pickA_pure (c x y:PV):(pickA c x y).pure:=by
 unfold pickA pickA0
 repeat' split
 all_goals simp [A.pure]
theorem extractA_pure (i:Nat) (x:PV):(extractA i x).pure:=by
 unfold extractA
 split <;> simp [A.pure]

theorem rd_shp {r:RId} {k:Option Root→A} (h:∀ o,(k o).shp) (hk:∀ fb ow (a b:Root),a.ver=b.ver→(∀ p,shapeOf (getAt a.node p)=shapeOf (getAt b.node p))→∀ H v H1,(k (some a)).ok fb ow H v H1→(k (some b)).ok fb ow H v H1):(A.rd r k).shp:=by
 intro fb ow H v H1 ⟨h1,h2⟩
 obtain ⟨h3,h4⟩:=h _ fb ow H v H1 h2
 refine ⟨h3,fun H' hs=>⟨h1,?_⟩⟩
 have h5:=h4 H' hs
 have h6:=hs r
 cases ha:H r with
 | none =>
  cases hb:H' r with
  | none=>rw [ha] at h5;exact h5
  | some b=>simp [ha,hb] at h6
 | some a =>
  cases hb:H' r with
  | none=>simp [ha,hb] at h6
  | some b =>
   simp only [ha,hb] at h6
   rw [ha] at h5
   exact hk fb ow a b h6.1 h6.2 _ _ _ h5

theorem indexAddrA_shp (P:Program) (t:TypeId) (x y:PV):(indexAddrA P t x y).shp:=by
 unfold indexAddrA
 split
 ·split
  ·exact A.pure.shp (by simp [A.pure])
  ·exact A.pure.shp (by simp [A.pure])
 ·split
  ·refine rd_shp (fun o=>?_) (fun fb ow a b h1 h2 H v H1 h=>?_)
   ·cases o <;> exact A.pure.shp (by simp [A.pure])
   ·simp only [A.ok] at h ⊢;rw [← h1];exact h
  ·exact A.pure.shp (by simp [A.pure])
 ·split
  ·exact A.pure.shp (by simp [A.pure])
  ·exact A.pure.shp (by simp [A.pure])
 ·split
  ·refine rd_shp (fun o=>?_) (fun fb ow a b h1 h2 H v H1 h=>?_)
   ·cases o
    ·exact A.pure.shp (by simp [A.pure])
    ·refine A.pure.shp ?_
     simp only [A.pure]
     split <;> simp [A.pure]
   ·simp only [A.ok] at h ⊢;rw [← h1,← h2];exact h
  ·exact A.pure.shp (by simp [A.pure])
 ·exact A.pure.shp (by simp [A.pure])

theorem fieldAddrA_shp (P:Program) (t:TypeId) (f:Nat) (x:PV):(fieldAddrA P t f x).shp:=by
 unfold fieldAddrA
 split
 ·split
  ·exact A.pure.shp (by simp [A.pure])
  ·exact A.pure.shp (by simp [A.pure])
 ·split
  ·refine rd_shp (fun o=>?_) (fun fb ow a b h1 h2 H v H1 h=>?_)
   ·cases o
    ·exact A.pure.shp (by simp [A.pure])
    ·refine A.pure.shp ?_
     simp only [A.pure]
     split <;> simp [A.pure]
   ·simp only [A.ok] at h ⊢;rw [← h1,← h2];exact h
  ·exact A.pure.shp (by simp [A.pure])
 ·exact A.pure.shp (by simp [A.pure])

theorem nilCheckA_shp (x:PV):(nilCheckA x).shp:=by
 unfold nilCheckA
 split
 ·exact A.pure.shp (by simp [A.pure])
 ·refine rd_shp (fun o=>?_) (fun fb ow a b h1 h2 H v H1 h=>?_)
  ·cases o <;> exact A.pure.shp (by simp [A.pure])
  ·simp only [A.ok] at h ⊢;rw [← h1];exact h
 ·exact A.pure.shp (by simp [A.pure])
 ·exact A.pure.shp (by simp [A.pure])
 ·exact A.pure.shp (by simp [A.pure])

theorem opndO_shp {tm:Tm} {x:Option Operand} {k:Option PV→A} (h:∀ v,(k v).shp):(opndO tm x k).shp:=by
 cases x with
 | none=>exact h none
 | some x=>exact opnd_shp fun v=>h _

theorem sliceA0_shp (P:Program) (t:TypeId) (x:PV) (l h m:Option PV):(sliceA0 P t x l h m).shp:=by
 unfold sliceA0
 split
 ·split
  ·exact A.pure.shp (by cases m <;> simp [A.pure])
  ·exact A.pure.shp (by simp [A.pure])
 ·split
  ·exact A.pure.shp (by cases m <;> cases h <;> simp [A.pure])
  ·exact A.pure.shp (by simp [A.pure])
 ·split
  ·exact A.pure.shp (by simp [A.pure])
  ·exact A.pure.shp (by simp [A.pure])
 ·split
  ·refine rd_shp (fun o=>?_) (fun fb ow a b h1 h2 H v H1 h=>?_)
   ·cases o
    ·exact A.pure.shp (by simp [A.pure])
    ·refine A.pure.shp ?_
     simp only [A.pure]
     split
     ·split
      ·split
       ·simp [A.pure]
       ·simp [A.pure]
      ·simp [A.pure]
     ·simp [A.pure]
   ·simp only [A.ok] at h ⊢;rw [← h1,← h2];exact h
  ·exact A.pure.shp (by simp [A.pure])
 ·exact A.pure.shp (by simp [A.pure])

theorem sliceA_shp (P:Program) (t:TypeId) (x:PV) (l h m:Option PV):(sliceA P t x l h m).shp :=
 fun fb ow H v H1 hk=>⟨(sliceA0_shp P t x l h m fb ow H v H1 hk.2).1,fun H' hs=>⟨hk.1,(sliceA0_shp P t x l h m fb ow H v H1 hk.2).2 H' hs⟩⟩

theorem eqFin_pure (op:BinOp) (b:Bool):(eqFin op b).pure:=by
 unfold eqFin;split <;> trivial
theorem nilE_shp (op:BinOp) (p:Prop) [Decidable p]:(nilE op p).shp:=by
 intro fb ow H v H1 h
 unfold nilE at h ⊢
 simp only [A.ok] at h ⊢
 by_cases hp:p
 ·simp only [hp,decide_true] at h ⊢
  exact ((eqFin_pure op false).shp) fb ow H v H1 h
 ·simp only [hp,decide_false] at h
  exact h.elim
theorem eqA_shp (P:Program) (t:TypeId) (op:BinOp) (x y:PV):(eqA P t op x y).shp:=by
 unfold eqA
 split
 ·exact (eqFin_pure _ _).shp
 ·exact (eqFin_pure _ _).shp
 ·exact nilE_shp _ _
 ·exact nilE_shp _ _
 ·refine rd_shp (fun o=>?_) (fun fb ow a b h1 h2 H v H1 h=>?_)
  ·cases o with
   | none=>exact A.pure.shp trivial
   | some rt =>
    exact fun fb ow H v H1 h=>⟨(nilE_shp _ _ fb ow H v H1 h.2).1,fun H' hs=>⟨h.1,(nilE_shp _ _ fb ow H v H1 h.2).2 H' hs⟩⟩
  ·simp only [A.ok] at h ⊢;rw [← h1];exact h
 ·exact (eqFin_pure _ _).shp
 ·exact (eqFin_pure _ _).shp
 ·refine rd_shp (fun o=>?_) (fun fb ow a b h1 h2 H v H1 h=>?_)
  ·cases o with
   | none=>exact A.pure.shp trivial
   | some rt=>exact A.pure.shp (eqFin_pure _ _)
  ·simp only [A.ok] at h ⊢;rw [← h1];exact h
 ·exact (eqFin_pure _ _).shp
 ·exact (eqFin_pure _ _).shp
 ·exact A.pure.shp trivial
theorem binT_shp (P:Program) (t:TypeId) (op:BinOp) (x y:PV):(binT P t op x y).shp:=by
 unfold binT
 split
 ·unfold eqT
  split
  ·exact (binA_pure _ _ _).shp
  ·exact (binA_pure _ _ _).shp
  ·split
   ·split
    ·exact (eqFin_pure _ _).shp
    ·exact A.pure.shp trivial
   ·exact A.pure.shp trivial
  ·exact eqA_shp _ _ _ _ _
 ·exact (binA_pure _ _ _).shp
theorem binT_pure {P:Program} {t:TypeId} {op:BinOp} (h:isEq op=false) (x y:PV):(binT P t op x y).pure:=by
 unfold binT
 rw [h]
 exact binA_pure _ _ _

theorem convA_pure (P:Program) (s d:TypeId) (x:PV):(convA P s d x).pure:=by
 unfold convA;split <;> trivial

theorem fieldA_pure (P:Program) (t:TypeId) (f:Nat) (x:PV):(fieldA P t f x).pure:=by
 unfold fieldA
 split
 ·simp only [A.pure];split <;> trivial
 ·trivial
theorem indexA_pure (P:Program) (t:TypeId) (x y:PV):(indexA P t x y).pure:=by
 unfold indexA
 split
 ·split
  ·simp only [A.pure];split <;> trivial
  ·trivial
 ·split
  ·split
   ·split <;> trivial
   ·trivial
  ·trivial
 ·trivial

theorem kind0 {P lv ver tm} {o:Oper} (h:kindOf o.op=0):(opA P lv ver tm o).pure:=by
 unfold opA opB
 split <;> rename_i ho <;> first
  | (rw [ho] at h;simp only [kindOf] at h;split at h <;> cases h;done)
  | (rw [ho] at h;simp [kindOf] at h;done)
  | exact trivial
  | exact opnd_pure fun _=>pickA_pure _ _ _
  | exact opnd_pure fun _=>opnd_pure fun _=>binT_pure (by rw [ho] at h;simp only [kindOf] at h;split at h <;> simp_all) _ _
  | exact opnd_pure fun _=>unA_pure _ _
  | exact opnds_pure fun _=>opnds_pure fun _=>trivial
  | exact opnd_pure fun _=>extractA_pure _ _
  | exact opnd_pure fun _=>convA_pure _ _ _ _
  | exact opnd_pure fun _=>fieldA_pure _ _ _ _
  | exact opnd_pure fun _=>opnd_pure fun _=>indexA_pure _ _ _ _
  | skip

theorem kind1 {P lv ver tm} {o:Oper} (h:kindOf o.op=1):(opA P lv ver tm o).shp:=by
 unfold opA opB
 split <;> rename_i ho <;> first
  | (rw [ho] at h;simp only [kindOf] at h;split at h <;> cases h;done)
  | (rw [ho] at h;simp [kindOf] at h;done)
  | exact opnd_shp fun _=>opnd_shp fun _=>indexAddrA_shp _ _ _ _
  | exact opnd_shp fun _=>fieldAddrA_shp _ _ _ _
  | exact opnd_shp fun _=>nilCheckA_shp _
  | exact opnd_shp fun _=>opnd_shp fun _=>binT_shp _ _ _ _ _
  | exact opnd_shp fun _=>opndO_shp fun _=>opndO_shp fun _=>opndO_shp fun _=>sliceA_shp _ _ _ _ _ _
  | exact A.pure.shp trivial

theorem leaf_getAt {v:PV} (h:shapeOf v=none) (q:Path):shapeOf (getAt v q)=none:=by
 cases q with
 | nil=>cases v <;> simpa [getAt] using h
 | cons x q=>cases v <;> simp_all [getAt,shapeOf]

theorem updAt_shape (g:PV→PV) (v:PV) (p:Path) (hg:∀ q,shapeOf (getAt (g (getAt v p)) q)=shapeOf (getAt (getAt v p) q)):∀ q,shapeOf (getAt (updAt g v p) q)=shapeOf (getAt v q):=by
 induction p generalizing v with
 | nil =>
  have e:getAt v []=v:=by cases v <;> rfl
  have e2:updAt g v []=g v:=by cases v <;> rfl
  rw [e] at hg
  rw [e2]
  exact hg
 | cons x p ih =>
  obtain ⟨i,o⟩:=x
  cases v with
  | own sz n f =>
   intro q
   cases q with
   | nil=>simp [updAt,getAt,shapeOf]
   | cons y q =>
    obtain ⟨a,b⟩:=y
    simp only [updAt,getAt]
    split
    ·rename_i e;obtain ⟨rfl,rfl⟩:=e;exact ih (f a b) hg q
    ·rfl
  | _=>intro q;simp [updAt]

theorem setCells_shape {v:PV} {i o:Nat} {l:List PV} (hv:(∃ sz c,v = .obox sz c)∨∃ sz n f,v = .own sz n f∧(∀ j,j<l.length→shapeOf (f i (o+j))=none)) (hl:∀ c∈l,shapeOf c=none) :
  ∀ q,shapeOf (getAt (setCells i o l v) q)=shapeOf (getAt v q):=by
 rcases hv with ⟨sz,c,rfl⟩|⟨sz,n,f,rfl,hf⟩
 ·intro q;cases q <;> simp [setCells,getAt,shapeOf]
 ·intro q
  cases q with
  | nil=>simp [setCells,getAt,shapeOf]
  | cons y q =>
   obtain ⟨a,b⟩:=y
   simp only [setCells,getAt]
   split
   ·rename_i e
    obtain ⟨rfl,h1,h2⟩:=e
    have h3:=hf (b - o) (by omega)
    rw [show o+(b - o)=b by omega] at h3
    rw [leaf_getAt h3 q]
    refine leaf_getAt (hl _ ?_) q
    simp [List.getD_eq_getElem?_getD,show b - o<l.length by omega,List.getElem_mem]
   ·rfl

theorem isCell_leaf {v:PV} (h:isCell v=true):shapeOf v=none:=by cases v <;> simp_all [isCell,shapeOf]

theorem shp_write {H:Roots} {r:RId} {rt:Root} (hH:H r=some rt) {node:PV} (h:∀ q,shapeOf (getAt node q)=shapeOf (getAt rt.node q)):Shp H (fun j=>if j=r then some ⟨rt.ver,node⟩ else H j):=by
 intro j
 by_cases e:j=r
 ·subst e;rw [hH];simp only [if_true];exact ⟨trivial,fun p=>(h p).symm⟩
 ·simp only [e,if_false];cases H j <;> simp

theorem standA_mild {l:List PV} {k:A} (h:k.mild):(standA l k).mild:=by
 induction l with
 | nil=>exact h
 | cons x l ih =>
  unfold standA
  split <;> first|exact ih|skip
  all_goals
   intro fb ow H v H1 ⟨h1,h2⟩
   cases hH:H _ with
   | none=>rw [hH] at h2;exact h2.elim
   | some rt=>rw [hH] at h2;exact ih _ _ _ _ _ h2.2

theorem storeA_mild (P:Program) (t:TypeId) (x y:PV):(storeA P t x y).mild:=by
 unfold storeA
 split
 ·rename_i x0 r ver p i o
  split
  ·rename_i l hl
   intro fb ow H v H1 ⟨h1,h2⟩
   have hleaf:∀ c∈l,shapeOf c=none:=fun c hc=>isCell_leaf (List.all_eq_true.1 h1.1 c hc)
   refine standA_mild (k:=_) (fun fb ow H v H1 h2=>?_) fb ow H v H1 h2
   obtain ⟨_,h2⟩:=h2
   cases hH:H r with
   | none=>rw [hH] at h2;exact h2.elim
   | some rt =>
    rw [hH] at h2
    obtain ⟨_,h2⟩:=h2
    split at h2
    ·rename_i sz c hg
     obtain ⟨_,_,rfl,rfl⟩:=h2
     exact shp_write hH (updAt_shape _ _ _ (setCells_shape (.inl ⟨sz,c,hg⟩) hleaf))
    ·rename_i sz n f hg
     obtain ⟨h3,_,rfl,rfl⟩:=h2
     exact shp_write hH (updAt_shape _ _ _ (setCells_shape (.inr ⟨sz,n,f,hg,h3.2⟩) hleaf))
    ·exact h2.elim
  ·exact fun fb ow H v H1 h=>h.elim
 ·exact fun fb ow H v H1 h=>h.elim

theorem opnd_mild {tm:Tm} {x:Operand} {k:PV→A} (h:∀ v,(k v).mild):(opnd tm x k).mild:=by
 unfold opnd;split
 ·rename_i g g' v _
  exact fun fb ow H v' H1 hk=>h v fb ow H v' H1 hk.2
 ·rename_i g v _ _
  exact fun fb ow H v' H1 hk=>h v fb ow H v' H1 hk.2
 ·exact h _

theorem kind3 {P lv ver tm} {o:Oper} (h:kindOf o.op=3):(opA P lv ver tm o).mild:=by
 unfold opA opB
 split <;> rename_i ho <;> first
  | (rw [ho] at h;simp only [kindOf] at h;split at h <;> cases h;done)
  | (rw [ho] at h;simp [kindOf] at h;done)
  | exact opnd_mild fun _=>opnd_mild fun _=>storeA_mild _ _ _ _
  | exact fun fb ow H v H1 h=>h.elim
end Go.Ab
namespace Go.Ab
open Classical

def calleeO (tm:Tm):Op→Option (FuncId × List PV)
 | .call { callee := .value f,args,.. }=>match evC tm f with
  | .func (.func g) first caps=>(callee.vals tm args.toList).map fun az=>(g,first++az++caps)
  | _=>none
 | _=>none

theorem callee_iff {tm:Tm} {o:Op} {k:FuncId→List PV→Prop}:callee tm o k↔∃ f az,calleeO tm o=some (f,az)∧k f az:=by
 unfold callee calleeO
 split
 ·split
  ·rename_i f args _ _ g first caps he
   cases hv:callee.vals tm args.toList with
   | none=>simp [he,hv]
   | some az =>
    simp only [he,hv,Option.map_some,Option.some.injEq,Prod.mk.injEq]
    exact ⟨fun h=>⟨_,_,⟨rfl,rfl⟩,h⟩,fun ⟨_,_,⟨h1,h2⟩,h⟩=>by subst h1 h2;exact h⟩
  ·simp
 ·simp

inductive QCall (P:Program) (id:RId) (ver:Nat) (fb:RId→Prop) (f:FuncId) (args:List PV) (H:Roots):PV→Roots→Prop
 | frozen (res:PV) (h:CallsF P f args res) (hpl:∀ c∈args,plainArgL c):QCall P id ver fb f args H res H
 | plain (res:PV) (hp:Hp) (hH:lkH hp=H) (hfb:∀ r,¬ fb r) (h:CallsF P f (args.map (view 9 hp)) res) (hr:leafyL res):QCall P id ver fb f args H res H
 | own (node:PV) (res:RId→Nat→PV) (h:CallsO P f args node res) (hpl:∀ c∈args,plainArgL c):QCall P id ver fb f args H (res id ver) (fun j=>if j=id then some ⟨ver,node⟩ else H j)
 | ownPlain (sz n:Nat) (g:Nat→Nat→PV) (res:RId→Nat→PV) (hp:Hp) (hH:lkH hp=H) (hfb:∀ r,¬ fb r) (h:CallsO P f (args.map (view 9 hp)) (.own sz n g) res) (hr:leafyL (res id ver)) (hg:∀ i o,i<n→leafy (g i o)) :
   QCall P id ver fb f args H (res id ver) (fun j=>if j=id then some ⟨ver,.own sz n g⟩ else H j)

def StepT (P:Program) (lv ver:Nat) (fb ow:RId→Prop) (tm:Tm) (o:Oper) (H:Roots) (v:PV) (H':Roots):Prop :=
 if isCall o.op then ow (lv,o.dst.getD 0)∧∃ f az,calleeO tm o.op=some (f,az)∧QCall P (lv,o.dst.getD 0) ver fb f az H v H' else (opA P lv ver tm o).ok fb ow H v H'

def fbOf (lv:Nat) (l:List Nat):RId→Prop:=fun r=>r∈l.map fun d=>(lv,d)
abbrev Fl:=List Nat × (Bool × List Nat)
def wrOf (fl:Fl) (o:Oper):List Nat:=match makes o.op with
 | true=>o.dst.getD 0::fl.2.2
 | false=>fl.2.2
def kind3w (ws:List Nat) (o:Op):Bool:=match ws with
 | []=>Nat.beq (kindOf o) 3
 | _::_=>false
def owOf (lv:Nat) (fl:Fl) (o:Oper):RId→Prop:=fun r=>fl.2.1=true∨kind3w fl.2.2 o.op=true∨r∈(wrOf fl o).map fun d=>(lv,d)

def StepC (P:Program) (lv ver:Nat) (fl:Fl) (tm:Tm) (o:Oper) (H:Roots) (u:PV) (H':Roots) (c gd:Bool):Bool→Prop
 | true=>(c=true→StepT P lv ver (fbOf lv fl.1) (owOf lv fl o) tm o H u H')∧(c=false→(u = .undef∨u=noT P o)∧H'=H)
 | false=>∃ v,(c=true→StepT P lv ver (fbOf lv fl.1) (owOf lv fl o) tm o H v H')∧(c=false→H'=H)∧u=(if gd then .whn c v else v)

def Step (P:Program) (lv:Nat) (all:List Oper) (ver:Nat) (fl:Fl) (tm:Tm) (o:Oper) (H:Roots) (u:PV) (H':Roots):Prop :=
 ∃ c,guardC all tm o.guard=some c∧StepC P lv ver fl tm o H u H' c o.guard.isSome (changes o.op)

def usesT (all:List Oper) (o:Oper):List Nat:=(o.op.operands.toList.filterMap fun | .tmp t=>some t|_=>none) ++
 (match o.guard with|some (j,_)=>(match (all[j]?).bind (·.dst) with|some d=>[d]|none=>[])|none=>[])

def agT (l:List Nat) (tm tm':Tm):Prop:=∀ t∈l,lk tm t=lk tm' t

theorem ev_ag {tm tm':Tm} {x:Operand} (h:∀ t,x = .tmp t→lk tm t=lk tm' t):ev tm x=ev tm' x:=by
 unfold ev
 cases x <;> first|rfl|exact h _ rfl

theorem ag_ops {all:List Oper} {o:Oper} {tm tm':Tm} (h:agT (usesT all o) tm tm'):∀ x∈o.op.operands,ev tm x=ev tm' x:=fun x hx=>ev_ag fun t ht=>h t (by
 subst ht
 exact List.mem_append_left _ (List.mem_filterMap.2 ⟨.tmp t,by simpa using hx,rfl⟩))

theorem guardC_ag {all:List Oper} {o:Oper} {tm tm':Tm} (h:agT (usesT all o) tm tm'):guardC all tm o.guard=guardC all tm' o.guard:=by
 unfold guardC
 split
 ·rfl
 ·rename_i j want hg
  split
  ·rename_i d hd
   rw [h d (List.mem_append_right _ (by simp [hg,hd]))]
  ·rfl

theorem opnd_ag {tm tm':Tm} {x:Operand} {k k':PV→A} (h:ev tm x=ev tm' x) (hk:k=k'):opnd tm x k=opnd tm' x k':=by
 unfold opnd;rw [h,hk]
theorem opnds_ag {tm tm':Tm} {l:List Operand} {k k':List PV→A} (h:∀ x∈l,ev tm x=ev tm' x) (hk:k=k'):opnds tm l k=opnds tm' l k':=by
 subst hk
 induction l generalizing k with
 | nil=>rfl
 | cons x l ih=>exact opnd_ag (h x (by simp)) (funext fun v=>ih (fun y hy=>h y (by simp [hy])))
theorem parts_ag {tm tm':Tm} {l:List (Nat × Operand)} {k:List (Nat × PV)→A} (h:∀ x∈l,ev tm x.2=ev tm' x.2):parts tm l k=parts tm' l k:=by
 induction l generalizing k with
 | nil=>rfl
 | cons x l ih=>exact opnd_ag (h x (by simp)) (funext fun v=>ih (fun y hy=>h y (by simp [hy])))
theorem vals_ag {tm tm':Tm} {l:List Operand} (h:∀ x∈l,ev tm x=ev tm' x):callee.vals tm l=callee.vals tm' l:=by
 induction l with
 | nil=>rfl
 | cons x l ih=>simp only [callee.vals,h x (by simp),ih (fun y hy=>h y (by simp [hy]))]

theorem opA_ag {P lv ver} {o:Oper} {tm tm':Tm} (h:∀ x∈o.op.operands,ev tm x=ev tm' x):opA P lv ver tm o=opA P lv ver tm' o:=by
 obtain ⟨dst,op,ty,pos,af,gd⟩:=o
 cases op
 case move x=>simp only [opA,opB];rw [h x (by simp [Op.operands])]
 case assign x=>simp only [opA,opB];rw [h x (by simp [Op.operands])]
 case pick c a b=>simp only [opA,opB,opnd];rw [h c (by simp [Op.operands]),h a (by simp [Op.operands]),h b (by simp [Op.operands])]
 case box t x=>simp only [opA,opB,opnd];rw [h x (by simp [Op.operands])]
 case build t ps=>exact parts_ag fun x hx=>h _ (by simp [Op.operands];exact ⟨x.1,by simpa using hx⟩)
 case buildSlice t n ps=>exact parts_ag fun x hx=>h _ (by simp [Op.operands];exact ⟨x.1,by simpa using hx⟩)
 case load t x=>simp only [opA,opB,opnd];rw [h x (by simp [Op.operands])]
 case store t x y=>simp only [opA,opB,opnd];rw [h x (by simp [Op.operands]),h y (by simp [Op.operands])]
 case nilCheck x=>simp only [opA,opB,opnd];rw [h x (by simp [Op.operands])]
 case binOp op t x y t'=>simp only [opA,opB,opnd];rw [h x (by simp [Op.operands]),h y (by simp [Op.operands])]
 case unOp op t x=>simp only [opA,opB,opnd];rw [h x (by simp [Op.operands])]
 case makeFunc fn first captured =>
  exact opnds_ag (fun x hx=>h _ (by simp [Op.operands];exact .inl (by simpa using hx))) (funext fun v=>opnds_ag (fun x hx=>h _ (by simp [Op.operands];exact .inr (by simpa using hx))) rfl)
 case makeSlice t x y=>simp only [opA,opB,opnd];rw [h x (by simp [Op.operands]),h y (by simp [Op.operands])]
 case fieldAddr t x f=>simp only [opA,opB,opnd];rw [h x (by simp [Op.operands])]
 case indexAddr t x y=>simp only [opA,opB,opnd];rw [h x (by simp [Op.operands]),h y (by simp [Op.operands])]
 case extract x i=>simp only [opA,opB,opnd];rw [h x (by simp [Op.operands])]
 case convert s d x=>simp only [opA,opB,opnd];rw [h x (by simp [Op.operands])]
 case field t x f=>simp only [opA,opB,opnd];rw [h x (by simp [Op.operands])]
 case index t x y=>simp only [opA,opB,opnd];rw [h x (by simp [Op.operands]),h y (by simp [Op.operands])]
 case slice t x lo hi mx =>
  have hO:∀ (y:Option Operand) (k k':Option PV→A),(∀ z,y=some z→ev tm z=ev tm' z)→k=k'→opndO tm y k=opndO tm' y k':=by
   rintro y k _ hy rfl
   cases y with
   | none=>rfl
   | some z=>exact opnd_ag (hy z rfl) rfl
  exact opnd_ag (h x (by simp [Op.operands])) (funext fun v=>hO lo _ _ (fun z hz=>h z (by simp [Op.operands,hz])) (funext fun l=>hO hi _ _ (fun z hz=>h z (by simp [Op.operands,hz])) (funext fun hh=>hO mx _ _ (fun z hz=>h z (by simp [Op.operands,hz])) rfl)))
 case lookup t x y ok=>simp only [opA,opB,opnd];rw [h x (by simp [Op.operands]),h y (by simp [Op.operands])]
 case mapUpdate t m k x=>simp only [opA,opB,opnd];rw [h m (by simp [Op.operands]),h k (by simp [Op.operands]),h x (by simp [Op.operands])]
 case range t x=>simp only [opA,opB,opnd];rw [h x (by simp [Op.operands])]
 case next x str=>simp only [opA,opB,opnd];rw [h x (by simp [Op.operands])]
 case entry x=>simp only [opA,opB,opnd];rw [h x (by simp [Op.operands])]
 case makeMap t r =>
  cases r with
  | none=>rfl
  | some z=>exact opnd_ag (h z (by simp [Op.operands])) rfl
 case call c =>
  obtain ⟨cal,args,at_⟩:=c
  cases cal
  case builtin b =>
   have hx:∀ x∈args.toList,ev tm x=ev tm' x:=fun x hx=>h x (by simp [Op.operands,Call.operands];simpa using hx)
   simp only [opA,opB]
   generalize args.toList=l at hx
   generalize at_.toList=l'
   unfold builtinA
   split
   ·rename_i x t;exact opnd_ag (hx x (by simp)) rfl
   ·rename_i x t;exact opnd_ag (hx x (by simp)) rfl
   ·rename_i x y t t'
    simp only [opnd]
    rw [hx x (by simp),hx y (by simp)]
   ·rename_i x y
    simp only [opnd]
    rw [hx x (by simp),hx y (by simp)]
   ·rename_i x y
    simp only [opnd]
    rw [hx x (by simp),hx y (by simp)]
   ·rename_i x t;exact opnd_ag (hx x (by simp)) rfl
   ·rename_i x y t t'
    simp only [opnd]
    rw [hx x (by simp),hx y (by simp)]
   ·rfl
  all_goals rfl
 all_goals rfl

theorem calleeO_ag {o:Op} {tm tm':Tm} (h:∀ x∈o.operands,ev tm x=ev tm' x):calleeO tm o=calleeO tm' o:=by
 unfold calleeO evC
 split
 ·rename_i f args _
  simp only [Op.operands,Call.operands] at h
  rw [h f (by simp),vals_ag (l:=args.toList) (tm':=tm') (fun x hx=>h x (by simp at hx ⊢;exact .inr hx))]
 ·rfl

theorem StepT.ag {P lv ver fb ow} {o:Oper} {tm tm':Tm} (h:∀ x∈o.op.operands,ev tm x=ev tm' x) {H H':Roots} {u:PV} (hs:StepT P lv ver fb ow tm o H u H'):StepT P lv ver fb ow tm' o H u H':=by
 unfold StepT at *
 rw [← opA_ag h,← calleeO_ag h]
 exact hs

theorem StepC.imp {P lv ver fl} {tm tm':Tm} {o:Oper} {H H' H1 H1':Roots} {u:PV} {c gd chg:Bool} (h:StepC P lv ver fl tm o H u H' c gd chg)
  (ht:∀ v,StepT P lv ver (fbOf lv fl.1) (owOf lv fl o) tm o H v H'→StepT P lv ver (fbOf lv fl.1) (owOf lv fl o) tm' o H1 v H1') (he:c=false→H'=H→H1'=H1):StepC P lv ver fl tm' o H1 u H1' c gd chg:=by
 cases chg with
 | true=>exact ⟨fun e=>ht _ (h.1 e),fun e=>⟨(h.2 e).1,he e (h.2 e).2⟩⟩
 | false=>obtain ⟨v,h1,h2,h3⟩:=h;exact ⟨v,fun e=>ht _ (h1 e),fun e=>he e (h2 e),h3⟩

theorem Step.ag {P lv all ver fl} {o:Oper} {tm tm':Tm} (h:agT (usesT all o) tm tm') {H H':Roots} {u:PV} (hs:Step P lv all ver fl tm o H u H'):Step P lv all ver fl tm' o H u H':=by
 obtain ⟨c,h1,h2⟩:=hs
 exact ⟨c,(guardC_ag h).symm.trans h1,h2.imp (fun v hv=>hv.ag (ag_ops h)) fun _ e=>e⟩

/-! ### Frames -/
theorem view_congr {hp hp':Hp} (h:lkH hp=lkH hp') (k:Nat) (x:PV):view k hp x=view k hp' x:=by
 induction k generalizing x with
 | zero=>rfl
 | succ k ih =>
  have e:view k hp=view k hp':=funext ih
  unfold view
  rw [h,e]

theorem StepT.frame {P lv ver} {fb ow:RId→Prop} {tm:Tm} {o:Oper} {H H1:Roots} {v:PV} (h:StepT P lv ver fb ow tm o H v H1) {H':Roots} (hp':∃ hp,lkH hp=H') (hag:∀ r,¬ fb r→H r=H' r) :
  ∃ H1',StepT P lv ver fb ow tm o H' v H1'∧Chg ow H H1 H' H1':=by
 unfold StepT at *
 split
 ·rename_i hc
  rw [if_pos hc] at h
  obtain ⟨how,f,az,h1,h2⟩:=h
  have new:∀ node,Chg ow H (fun j=>if j=(lv,o.dst.getD 0) then some ⟨ver,node⟩ else H j) H' (fun j=>if j=(lv,o.dst.getD 0) then some ⟨ver,node⟩ else H' j):=by
   refine fun node=>⟨fun r hr=>?_,fun r hr=>?_⟩
   ·have:r≠(lv,o.dst.getD 0):=fun e=>hr (e▸how)
    simp [this]
   ·by_cases e:r=(lv,o.dst.getD 0)
    ·simp [e]
    ·simp [e]
  have same:Chg ow H H H' H':=⟨fun _ _=>⟨rfl,rfl⟩,fun _ _ => .inl ⟨rfl,rfl⟩⟩
  cases h2 with
  | frozen _ h hpl=>exact ⟨H',⟨how,f,az,h1,.frozen _ h hpl⟩,same⟩
  | plain _ hp hH hfb h hr =>
   have e:H=H':=funext fun r=>hag r (hfb r)
   exact ⟨H',⟨how,f,az,h1,.plain _ hp (hH.trans e) hfb h hr⟩,same⟩
  | own node res h hpl=>exact ⟨_,⟨how,f,az,h1,.own node res h hpl⟩,new _⟩
  | ownPlain sz n g res hp hH hfb h hr hg =>
   have e:H=H':=funext fun r=>hag r (hfb r)
   exact ⟨_,⟨how,f,az,h1,.ownPlain sz n g res hp (hH.trans e) hfb h hr hg⟩,new _⟩
 ·rename_i hc
  rw [if_neg hc] at h
  exact A.ok_frame h hag

theorem Step.frame {P lv all ver fl} {tm:Tm} {o:Oper} {H H1:Roots} {u:PV} (h:Step P lv all ver fl tm o H u H1) {H':Roots} (hp':∃ hp,lkH hp=H') (hag:∀ r,¬ fbOf lv fl.1 r→H r=H' r) :
  ∃ H1',Step P lv all ver fl tm o H' u H1'∧Chg (owOf lv fl o) H H1 H' H1':=by
 have same:Chg (owOf lv fl o) H H H' H':=⟨fun _ _=>⟨rfl,rfl⟩,fun _ _ => .inl ⟨rfl,rfl⟩⟩
 obtain ⟨c,hg,h⟩:=h
 suffices ∃ H1',StepC P lv ver fl tm o H' u H1' c o.guard.isSome (changes o.op)∧Chg (owOf lv fl o) H H1 H' H1' by
  obtain ⟨H1',h1,h2⟩:=this
  exact ⟨H1',⟨c,hg,h1⟩,h2⟩
 generalize changes o.op=chg at h ⊢
 cases chg with
 | true =>
  cases c with
  | true =>
   obtain ⟨H1',h1,h2⟩:=(h.1 rfl).frame hp' hag
   exact ⟨H1',⟨fun _=>h1,(fun e=>by cases e)⟩,h2⟩
  | false =>
   obtain ⟨hu,rfl⟩:=h.2 rfl
   exact ⟨H',⟨(fun e=>by cases e),fun _=>⟨hu,rfl⟩⟩,same⟩
 | false =>
  obtain ⟨v,h1,h2,h3⟩:=h
  cases c with
  | true =>
   obtain ⟨H1',h1,h4⟩:=(h1 rfl).frame hp' hag
   exact ⟨H1',⟨v,fun _=>h1,(fun e=>by cases e),h3⟩,h4⟩
  | false =>
   obtain rfl:=h2 rfl
   exact ⟨H',⟨v,(fun e=>by cases e),fun _=>rfl,h3⟩,same⟩

theorem kind_nocall {o:Op} (h:kindOf o≠2):isCall o=false:=by
 unfold isCall
 split
 ·simp [kindOf] at h
 ·rfl

theorem Step.lift {P lv all ver fl} {tm:Tm} {o:Oper} {H H1:Roots} {u:PV} (h:Step P lv all ver fl tm o H u H1) (hk:kindOf o.op≠2) {R:Roots→Roots→Prop} (hrefl:R H H)
  (hR:∀ v,(opA P lv ver tm o).ok (fbOf lv fl.1) (owOf lv fl o) H v H1→R H H1):R H H1:=by
 obtain ⟨c,hg,h⟩:=h
 have ht:∀ v,StepT P lv ver (fbOf lv fl.1) (owOf lv fl o) tm o H v H1→R H H1:=fun v hv=>by
  unfold StepT at hv
  rw [if_neg (by simp [kind_nocall hk])] at hv
  exact hR _ hv
 generalize changes o.op=chg at h
 cases chg with
 | true =>
  cases c with
  | true=>exact ht _ (h.1 rfl)
  | false=>rw [(h.2 rfl).2];exact hrefl
 | false =>
  obtain ⟨v,h1,h2,h3⟩:=h
  cases c with
  | true=>exact ht _ (h1 rfl)
  | false=>rw [h2 rfl];exact hrefl

theorem Step.move {P lv all ver fl} {tm:Tm} {o:Oper} {H H':Roots} {u:PV} (h:Step P lv all ver fl tm o H u H) (hk:kindOf o.op≠2)
  (hR:∀ v,(opA P lv ver tm o).ok (fbOf lv fl.1) (owOf lv fl o) H v H→(opA P lv ver tm o).ok (fbOf lv fl.1) (owOf lv fl o) H' v H'):Step P lv all ver fl tm o H' u H':=by
 obtain ⟨c,hg,h⟩:=h
 refine ⟨c,hg,h.imp (fun v hv=>?_) fun _ _=>rfl⟩
 unfold StepT at *
 rw [if_neg (by simp [kind_nocall hk])] at *
 exact hR _ hv

theorem Step.k0 {P lv all ver fl} {tm:Tm} {o:Oper} {H H1:Roots} {u:PV} (h:Step P lv all ver fl tm o H u H1) (hk:kindOf o.op=0):H1=H∧∀ H',Step P lv all ver fl tm o H' u H':=by
 have e:H1=H:=h.lift (R:=fun a b=>b=a) (by omega) rfl (fun v hv=>(A.ok_pure (kind0 hk) hv).1)
 subst e
 exact ⟨rfl,fun H'=>h.move (by omega) fun v hv=>(A.ok_pure (kind0 hk) hv).2 _ _ H'⟩

theorem Step.k1 {P lv all ver fl} {tm:Tm} {o:Oper} {H H1:Roots} {u:PV} (h:Step P lv all ver fl tm o H u H1) (hk:kindOf o.op=1):H1=H∧∀ H',Shp H H'→Step P lv all ver fl tm o H' u H':=by
 have e:H1=H:=h.lift (R:=fun a b=>b=a) (by omega) rfl (fun v hv=>(kind1 hk _ _ _ _ _ hv).1)
 subst e
 exact ⟨rfl,fun H' hs=>h.move (by omega) fun v hv=>(kind1 hk _ _ _ _ _ hv).2 H' hs⟩

theorem Step.k3 {P lv all ver fl} {tm:Tm} {o:Oper} {H H1:Roots} {u:PV} (h:Step P lv all ver fl tm o H u H1) (hk:kindOf o.op=3):Shp H H1 :=
 h.lift (R:=Shp) (by omega) (Shp.refl _) (fun v hv=>kind3 hk _ _ _ _ _ hv)

def kindF (fl:Fl) (o:Oper):Nat:=if fl.2.1 then 4 else match kindOf o.op,fl.2.2 with
 | 3,_::_=>2
 | k,_=>k

def makesOK (fi:Fl) (fx:Fl) (x:Oper):Bool:=(wrOf fx x).all fi.1.contains
def apartOK (fx:Fl) (x:Oper) (fi:Fl) (i:Oper):Bool:=(wrOf fx x).all fun d=>!(wrOf fi i).contains d

def pairOK (all : List Oper) (x : Oper) (fx : Fl) (i : Oper) (fi : Fl) : Bool :=
  (match x.dst with | some d => !(usesT all i).contains d | none => true) && (match i.dst with | some d => !(usesT all x).contains d | none => true) &&
  (match x.dst, i.dst with | some d, some e => d != e | _, _ => true) &&
  (match kindF fx x, kindF fi i with
   | 0, _ => true
   | _, 0 => true
   | 1, 3 => true
   | 3, 1 => true
   | 1, 1 => makesOK fi fx x && makesOK fx fi i && apartOK fx x fi i
   | 1, 2 => makesOK fi fx x && makesOK fx fi i && apartOK fx x fi i
   | 2, 1 => makesOK fi fx x && makesOK fx fi i && apartOK fx x fi i
   | 2, 2 => makesOK fi fx x && makesOK fx fi i && apartOK fx x fi i
   | _, _ => false)

theorem lk_putT (tm:Tm) (d:Option Tmp) (u:PV) (t:Nat):lk (putT tm d u) t=if d=some t then u else lk tm t:=by
 cases d with
 | none=>simp [putT]
 | some d =>
  by_cases h:t=d
  ·subst h;simp [putT,lk]
  ·simp [putT,lk,h];intro e;exact absurd e.symm h

theorem swapH {P lv all vx vi fx fi} {tm : Tm} {x i : Oper} {H H1 H2 : Roots} {u w : PV} (hH : ∃ hp, lkH hp = H) (hpr : pairOK all x fx i fi = true) (h1 : Step P lv all vx fx tm x H u H1) (h2 : Step P lv all vi fi tm i H1 w H2)
    (hl1 : ∀ H', (∃ hp, lkH hp = H') → ∀ ver fl o v H1', Step P lv all ver fl tm o H' v H1' → ∃ hp, lkH hp = H1') :
    ∃ H1', Step P lv all vi fi tm i H w H1' ∧ Step P lv all vx fx tm x H1' u H2 := by
  simp only [pairOK, Bool.and_eq_true] at hpr
  obtain ⟨_, hpr⟩ := hpr
  have flag : ∀ {fl : Fl} {o : Oper} {k : Nat}, kindF fl o = k → k ≠ 4 → k ≠ 2 → fl.2.1 = false ∧ kindOf o.op = k := by
    intro fl o k h hk hk2
    unfold kindF at h
    cases hf : fl.2.1 <;> simp [hf] at h
    · refine ⟨rfl, ?_⟩
      split at h
      · exact absurd h.symm hk2
      · exact h
    · exact absurd h.symm hk
  have flag2 : ∀ {fl : Fl} {o : Oper} {k : Nat}, kindF fl o = k → (k = 1 ∨ k = 2) → fl.2.1 = false ∧ kind3w fl.2.2 o.op = false := by
    intro fl o k h hk
    unfold kindF at h
    cases hf : fl.2.1 <;> simp [hf] at h
    · refine ⟨rfl, ?_⟩
      cases hw : fl.2.2 with
      | cons d l => rfl
      | nil =>
        rw [hw] at h
        show Nat.beq (kindOf o.op) 3 = false
        cases hb : Nat.beq (kindOf o.op) 3 with
        | false => rfl
        | true =>
          have h3 := Nat.eq_of_beq_eq_true hb
          rw [h3] at h
          simp at h
          omega
    · omega
  have gen : fx.2.1 = false → fi.2.1 = false → kind3w fx.2.2 x.op = false → kind3w fi.2.2 i.op = false → (makesOK fi fx x && makesOK fx fi i && apartOK fx x fi i) = true →
      ∃ H1', Step P lv all vi fi tm i H w H1' ∧ Step P lv all vx fx tm x H1' u H2 := by
    intro e1 e2 e3 e4 hm
    simp only [Bool.and_eq_true, makesOK, apartOK, List.all_eq_true, Bool.not_eq_true', List.contains_eq_mem, decide_eq_true_eq, decide_eq_false_iff_not] at hm
    obtain ⟨⟨m1, m2⟩, m3⟩ := hm
    have owx : ∀ r, owOf lv fx x r → fbOf lv fi.1 r ∧ ¬ owOf lv fi i r := by
      intro r hr
      rcases hr with h | h | h
      · rw [e1] at h; cases h
      · rw [e3] at h; cases h
      · obtain ⟨d, hd, rfl⟩ := List.mem_map.1 h
        refine ⟨List.mem_map.2 ⟨d, m1 d hd, rfl⟩, fun hi => ?_⟩
        rcases hi with h' | h' | h'
        · rw [e2] at h'; cases h'
        · rw [e4] at h'; cases h'
        · obtain ⟨d', hd', e⟩ := List.mem_map.1 h'
          have e := (Prod.mk.inj e).2
          subst e
          exact m3 _ hd hd'
    have owi : ∀ r, owOf lv fi i r → fbOf lv fx.1 r ∧ ¬ owOf lv fx x r := by
      intro r hr
      refine ⟨?_, fun hx => (owx r hx).2 hr⟩
      rcases hr with h | h | h
      · rw [e2] at h; cases h
      · rw [e4] at h; cases h
      · obtain ⟨d, hd, rfl⟩ := List.mem_map.1 h
        exact List.mem_map.2 ⟨d, m2 d hd, rfl⟩
    have c0 := h1.frame (H' := H) hH (fun _ _ => rfl)
    obtain ⟨_, _, c0⟩ := c0
    have a1 : ∀ r, ¬ fbOf lv fi.1 r → H1 r = H r := fun r hr => (c0.1 r (fun ho => hr (owx r ho).1)).1
    obtain ⟨H1', s1, c1⟩ := h2.frame (H' := H) hH a1
    have a2 : ∀ r, ¬ fbOf lv fx.1 r → H r = H1' r := fun r hr => ((c1.1 r (fun ho => hr (owi r ho).1)).2).symm
    obtain ⟨H2', s2, c2⟩ := h1.frame (H' := H1') (hl1 H hH _ _ _ _ _ s1) a2
    refine ⟨H1', s1, ?_⟩
    have : H2' = H2 := funext fun r => by
      by_cases hx : owOf lv fx x r
      · have hi := (owx r hx).2
        obtain ⟨g1, g2⟩ := c1.1 r hi
        rcases c2.2 r hx with ⟨g3, g4⟩ | g3
        · rw [g4, g2, g1, g3]
        · rw [g1, ← g3]
      · obtain ⟨g1, g2⟩ := c2.1 r hx
        by_cases hi : owOf lv fi i r
        · rcases c1.2 r hi with ⟨g3, g4⟩ | g3
          · rw [g2, g4, g3, g1]
          · rw [g2, g3]
        · obtain ⟨g3, g4⟩ := c1.1 r hi
          rw [g2, g4, g3, g1]
    rw [← this]
    exact s2
  have ne3 : ∀ {k : Nat}, (k = 1 ∨ k = 2) → k ≠ 3 := fun h => by omega
  split at hpr
  · rename_i hk
    obtain ⟨_, hk⟩ := flag hk (by omega) (by omega)
    obtain ⟨rfl, h3⟩ := h1.k0 hk
    exact ⟨H2, h2, h3 _⟩
  · rename_i hk _
    obtain ⟨_, hk⟩ := flag hk (by omega) (by omega)
    obtain ⟨rfl, h3⟩ := h2.k0 hk
    exact ⟨H, h3 _, h1⟩
  · rename_i hk hk'
    obtain ⟨_, hk⟩ := flag hk (by omega) (by omega)
    obtain ⟨_, hk'⟩ := flag hk' (by omega) (by omega)
    obtain ⟨rfl, h3⟩ := h1.k1 hk
    exact ⟨H2, h2, h3 _ (h2.k3 hk')⟩
  · rename_i hk hk'
    obtain ⟨_, hk⟩ := flag hk (by omega) (by omega)
    obtain ⟨_, hk'⟩ := flag hk' (by omega) (by omega)
    obtain ⟨rfl, h3⟩ := h2.k1 hk'
    exact ⟨H, h3 _ (h1.k3 hk).symm, h1⟩
  all_goals first
    | (rename_i hk hk'
       obtain ⟨f1, hk⟩ := flag2 hk (by omega)
       obtain ⟨f2, hk'⟩ := flag2 hk' (by omega)
       exact gen f1 f2 hk hk' hpr)
    | cases hpr
end Go.Ab
namespace Go.Ab
open Classical

theorem QCall.sound {P:Program} {id:RId} {ver:Nat} {fb:RId→Prop} {f:FuncId} {args:List PV} {hp:Hp} {u:PV} {H':Roots} (hid:id.1≠0)
  (hcall:QCall P id ver fb f args (lkH hp) u H') {w:World} {B:Blocks} {cs:Array Value} {V V':Nat→Prop} (hv1:¬ V ver) (hv2:V' ver) (hVV:∀ n,V n→V' n)
  (hr:HR w B (lkH hp) V) (ha:LR w B (lkH hp) V args cs) :
  Enters P f∧Calls P f cs w fun e w'=>∃ v B',e = .returned v∧VR w' B' H' V' u v∧HR w' B' H' V'∧Mono w B (lkH hp) V w' B' H' V':=by
 have hF:∀ (S:Nat→Prop),(∀ b,S b→b<w.heap.size)→∀ (az:List PV) (res:PV),CallsF P f az res→LR w (callerB S) H0 V0 az cs→(∀ w' B' v,Mono w (callerB S) H0 V0 w' B' H0 V0→VR w' B' H0 V0 res v→VR w' B H0 V0 res v) →
   Enters P f∧Calls P f cs w fun e w'=>∃ v B',e = .returned v∧VR w' B' (lkH hp) V' res v∧HR w' B' (lkH hp) V'∧Mono w B (lkH hp) V w' B' (lkH hp) V':=by
  intro S hS az res hc hargs hback
  refine ⟨hc.1,(hc.2 w (callerB S) cs (callerB_HR hS) hargs).mono fun e w' he=>?_⟩
  obtain ⟨v,B',rfl,hv,hm⟩:=he
  have hm':Mono w B (lkH hp) V w' B (lkH hp) V' :=
   caller_mono hr hm (fun b hb=>untouched hm b hb) hVV (fun r rt h => .inr h) B (fun _ _ _=>rfl) (fun _ _ _ _ _=>rfl) (fun r p b h => .inr h)
  refine ⟨v,B,rfl,(hback w' B' v hm hv).lift (fun _ _ _ h=>h),⟨fun r rt h=>(hr.root r rt h).mono hm' (fun t s ht=>⟨rfl,fun b hb=>untouched hm b (hr.dom _ _ _ hb).1⟩),fun r rt h=>hVV _ (hr.ver r rt h),fun r p b h=>?_,hr.lev,hr.inj⟩,hm'⟩
  obtain ⟨h1,h2⟩:=hr.dom r p b h
  exact ⟨Nat.lt_of_lt_of_le h1 hm.size,h2⟩
 have hO:∀ (S:Nat→Prop),(∀ b,S b→b<w.heap.size)→∀ (az:List PV) (node:PV) (res:RId→Nat→PV),CallsO P f az node res→LR w (callerB S) H0 V0 az cs →
   (∀ w' B' B2 v,Mono w (callerB S) H0 V0 w' B' (one id ⟨ver,node⟩) (·=ver)→HR w' B' (one id ⟨ver,node⟩) (·=ver)→(∀ p,B2 id p=B' id p)→(∀ r p b,r≠id→B2 r p=some b→B r p=some b) →
    (VR w' B' (one id ⟨ver,node⟩) (·=ver) (res id ver) v→VR w' B2 (one id ⟨ver,node⟩) (·=ver) (res id ver) v)∧(RootOK w' B' (one id ⟨ver,node⟩) (·=ver) id node→RootOK w' B2 (one id ⟨ver,node⟩) (·=ver) id node)) →
   Enters P f∧Calls P f cs w fun e w'=>∃ v B',e = .returned v∧VR w' B' (lkH (setH hp id (some ⟨ver,node⟩))) V' (res id ver) v∧HR w' B' (lkH (setH hp id (some ⟨ver,node⟩))) V' ∧
    Mono w B (lkH hp) V w' B' (lkH (setH hp id (some ⟨ver,node⟩))) V':=by
  intro S hS az node res hc hargs hback
  refine ⟨hc.1,(hc.2 w (callerB S) cs id ver hid (callerB_HR hS) hargs).mono fun e w' he=>?_⟩
  obtain ⟨v,B',rfl,hv,hr',hm⟩:=he
  let B2:Blocks:=fun r p=>if r=id then B' r p else B r p
  have hB2id:∀ p,B2 id p=B' id p:=fun p=>by simp [B2]
  have hB2ne:∀ r p,r≠id→B2 r p=B r p:=fun r p h=>by simp [B2,h]
  have hnew:∀ p b,B' id p=some b→w.heap.size≤b:=by
   intro p b h
   rcases hm.fresh id p b h with h1|⟨r0,p0,h1⟩
   ·exact h1
   ·obtain ⟨_,rfl,rfl⟩:=callerB_some h1
    have h2:=(hm.foreign _ _ _ rfl h1).1
    exact absurd (congrArg Prod.fst (hr'.inj _ _ _ _ _ h h2).1) hid
  have hlook:∀ r,lkH (setH hp id (some ⟨ver,node⟩)) r=if r=id then some ⟨ver,node⟩ else lkH hp r:=fun r=>lookH_setH ..
  have hm':Mono w B (lkH hp) V w' B2 (lkH (setH hp id (some ⟨ver,node⟩))) V':=by
   refine caller_mono hr hm (fun b hb=>untouched hm b hb) hVV (fun r rt h=>?_) B2 (fun r p h0=>hB2ne r p (fun e=>hid (e▸h0))) (fun r rt h hv p=>?_) (fun r p b h=>?_)
   ·rw [hlook] at h
    split at h
    ·cases h;exact .inl hv1
    ·exact .inr h
   ·rw [hlook] at h
    split at h
    ·cases h;exact absurd hv hv1
    ·rename_i hne;exact hB2ne r p hne
   ·by_cases hri:r=id
    ·subst hri;rw [hB2id] at h;exact .inl (hnew p b h)
    ·rw [hB2ne r p hri] at h;exact .inr h
  have hup:Mono w' B2 (one id ⟨ver,node⟩) (·=ver) w' B2 (lkH (setH hp id (some ⟨ver,node⟩))) V' :=
   ⟨Nat.le_refl _,fun _ _ h=>⟨h,rfl⟩,fun _ _ _ _ h=>⟨h,rfl⟩,fun r p _ h => .inr ⟨r,p,h⟩,fun _ _ h=>h,fun n hn=>by have hn':n=ver:=hn;rw [hn'];exact hv2,fun r rt h=>by
    rw [hlook] at h
    split at h
    ·rename_i e0
     exact .inr ⟨rt,by simp [one,e0,h],rfl,fun _ _ h=>⟨h,rfl⟩⟩
    ·refine .inl (fun he=>?_)
     have h5:=hr.ver r rt h
     have h6:rt.ver=ver:=he
     rw [h6] at h5
     exact hv1 h5,rfl,rfl,rfl⟩
  obtain ⟨hb1,hb2⟩:=hback w' B' B2 v hm hr' hB2id (fun r p b hne h=>by rw [hB2ne r p hne] at h;exact h)
  refine ⟨v,B2,rfl,(hb1 hv).mono hup,⟨fun r rt h=>?_,fun r rt h=>?_,fun r p b h=>?_,fun r rt h=>?_,fun r p r' p' b h h'=>?_⟩,hm'⟩
  ·rw [hlook] at h
   split at h
   ·rename_i e0
    subst e0
    obtain rfl:(⟨ver,node⟩:Root)=rt:=Option.some.inj h
    exact (hb2 (hr'.root r ⟨ver,node⟩ (by simp [one]))).mono hup (fun t s ht=>⟨rfl,fun _ _=>rfl⟩)
   ·rename_i hne
    exact (hr.root r rt h).mono hm' (fun t s ht=>⟨hB2ne r t hne,fun b hb=>untouched hm b (hr.dom _ _ _ hb).1⟩)
  ·rw [hlook] at h
   split at h
   ·cases h;exact hv2
   ·exact hVV _ (hr.ver r rt h)
  ·by_cases hri:r=id
   ·subst hri
    rw [hB2id] at h
    obtain ⟨h1,h2⟩:=hr'.dom _ _ _ h
    obtain ⟨rt,s,h3,h4⟩:=h2.resolve_left hid
    simp [one] at h3
    subst h3
    exact ⟨h1,.inr ⟨_,s,by rw [hlook,if_pos rfl],h4⟩⟩
   ·rw [hB2ne r p hri] at h
    obtain ⟨h1,h2⟩:=hr.dom _ _ _ h
    refine ⟨Nat.lt_of_lt_of_le h1 hm.size,h2.imp (fun h=>h) (fun ⟨rt,s,h3,h4⟩=>⟨rt,s,by rw [hlook,if_neg hri];exact h3,h4⟩)⟩
  ·rw [hlook] at h
   split at h
   ·rename_i e0;rw [e0];exact hid
   ·exact hr.lev r rt h
  ·by_cases hri:r=id
   ·subst hri
    rw [hB2id] at h
    by_cases hri':r'=r
    ·subst hri'
     rw [hB2id] at h'
     exact hr'.inj _ _ _ _ _ h h'
    ·rw [hB2ne r' p' hri'] at h'
     have h5:=hnew p b h
     have h6:=(hr.dom _ _ _ h').1
     omega
   ·rw [hB2ne r p hri] at h
    by_cases hri':r'=id
    ·subst hri'
     rw [hB2id] at h'
     have h5:=hnew p' b h'
     have h6:=(hr.dom _ _ _ h).1
     omega
    ·rw [hB2ne r' p' hri'] at h'
     exact hr.inj _ _ _ _ _ h h'
 have hall:∀ b,(∃ r p,B r p=some b)→b<w.heap.size:=fun b ⟨r,p,h⟩=>(hr.dom r p b h).1
 have hfreeAll:∀ b,free B b→free (callerB fun b=>∃ r p,B r p=some b) b:=fun b hf r p h=>by
  obtain ⟨⟨r0,p0,h1⟩,_,_⟩:=callerB_some h
  exact hf r0 p0 h1
 have hfreeNone:∀ b,free (callerB fun _=>False) b:=fun b r p h=>(callerB_some h).1
 have hset:∀ x,lkH (setH hp id (some x))=fun j=>if j=id then some x else lkH hp j:=fun x=>funext fun j=>lookH_setH hp id j (some x)
 cases hcall with
 | frozen _ hc hpl =>
  refine hF (fun b=>∃ r p,B r p=some b) hall args _ hc (ha.turn fun x v hx hv=>(hv.plainL (hpl x hx)).conv rfl rfl (fun b _ hf=>hfreeAll b hf)) (fun w' B' v hm hv=>hv.conv rfl rfl (fun b _ hf r p h=>?_))
  exact hf _ _ (hm.foreign (0,0) _ b rfl (callerB_at ⟨r,p,h⟩)).1
 | plain _ hp2 hH hfb hc hl =>
  have hmap:args.map (view 9 hp2)=args.map (view 9 hp):=List.map_congr_left fun x _=>view_congr hH 9 x
  rw [hmap] at hc
  exact hF (fun _=>False) (fun _ h=>h.elim) _ _ hc (ha.map fun x v _ hv=>(VR.view hr (fun b _ _=>hfreeNone b) (fun _ _ b _ _=>hfreeNone b) 9).1 x v hv) (fun w' B' v hm hv=>hv.leafyL hl)
 | own node res hc hpl =>
  rw [← hset]
  refine hO (fun b=>∃ r p,B r p=some b) hall args node res hc (ha.turn fun x v hx hv=>(hv.plainL (hpl x hx)).conv rfl rfl (fun b _ hf=>hfreeAll b hf)) (fun w' B' B2 v hm hr' h1 h2=>?_)
  have hfr:∀ b,free B' b→free B2 b:=by
   intro b hf r p h
   by_cases hri:r=id
   ·subst hri;rw [h1] at h;exact hf _ _ h
   ·exact hf _ _ (hm.foreign (0,0) _ b rfl (callerB_at ⟨r,p,h2 r p b hri h⟩)).1
  have ht:Turn w' B' (one id ⟨ver,node⟩) (·=ver) w' B2 (one id ⟨ver,node⟩) (·=ver) :=
   ⟨Nat.le_refl _,fun b _ hf=>⟨hfr b hf,.inl rfl⟩,fun _ _ h=>h,fun _ h=>h,fun r rt h => .inr ⟨rt,h,rfl,fun p s hp=>⟨hp,by
    simp only [one] at h
    split at h
    ·rename_i e0;rw [e0];exact h1 p
    ·cases h⟩⟩⟩
  exact ⟨fun h=>h.turn ht,fun h=>h.turn ht (fun t s _=>⟨h1 t,fun _ _=>rfl⟩)⟩
 | ownPlain sz n g res hp2 hH hfb hc hl hg =>
  have hmap:args.map (view 9 hp2)=args.map (view 9 hp):=List.map_congr_left fun x _=>view_congr hH 9 x
  rw [hmap] at hc
  rw [← hset]
  refine hO (fun _=>False) (fun _ h=>h.elim) _ (.own sz n g) res hc (ha.map fun x v _ hv=>(VR.view hr (fun b _ _=>hfreeNone b) (fun _ _ b _ _=>hfreeNone b) 9).1 x v hv) (fun w' B' B2 v hm hr' h1 h2=>?_)
  have hB:∀ r rt,one id ⟨ver,.own sz n g⟩ r=some rt→∀ p,B2 r p=B' r p:=by
   intro r rt h p
   simp only [one] at h
   split at h
   ·rename_i e0;rw [e0];exact h1 p
   ·cases h
  refine ⟨fun h=>h.swapL hl hB,fun h=>?_⟩
  cases h with
  | own h=>exact .own (h.swap hg hB h1)

def Run (P:Program) (lv:Nat) (all:List Oper) (fls:List Fl) (nv:Nat):List Nat→Tm→Roots→Tm→Roots→Prop
 | [],tm,H,tm',H'=>tm'=tm∧H'=H
 | i::l,tm,H,tm',H'=>∃ o fl u H1,all[i]?=some o∧fls[i]?=some fl∧Step P lv all (nv+i) fl tm o H u H1∧Run P lv all fls nv l (putT tm o.dst u) H1 tm' H'

def Teq (tm tm':Tm):Prop:=∀ t,lk tm t=lk tm' t
theorem Teq.put {tm tm':Tm} (h:Teq tm tm') (d:Option Tmp) (u:PV):Teq (putT tm d u) (putT tm' d u):=fun t=>by rw [lk_putT,lk_putT,h t]

theorem Run.teq {P lv all fls nv} {l:List Nat} {tm tm1 tm':Tm} {H H':Roots} (h:Run P lv all fls nv l tm H tm' H') (ht:Teq tm tm1):∃ tm1',Run P lv all fls nv l tm1 H tm1' H'∧Teq tm' tm1':=by
 induction l generalizing tm tm1 H with
 | nil=>obtain ⟨rfl,rfl⟩:=h;exact ⟨tm1,⟨rfl,rfl⟩,ht⟩
 | cons i l ih =>
  obtain ⟨o,fl,u,H1,h1,h2,h3,h4⟩:=h
  obtain ⟨tm1',h5,h6⟩:=ih h4 (ht.put o.dst u)
  exact ⟨tm1',⟨o,fl,u,H1,h1,h2,h3.ag (fun t _=>ht t),h5⟩,h6⟩

theorem A.ok_list {fb ow} {a:A} {hp:Hp} {v:PV} {H':Roots} (h:a.ok fb ow (lkH hp) v H'):∃ hp',lkH hp'=H':=by
 induction a generalizing hp with
 | ret x=>obtain ⟨rfl,rfl⟩:=h;exact ⟨hp,rfl⟩
 | vc p k ih=>exact ih h.2
 | hyp p k ih=>exact ih h
 | rd r k ih=>exact ih _ h.2
 | wr r x k ih =>
  refine ih (hp:=setH hp r x) ?_
  have:(lkH (setH hp r x))=fun j=>if j=r then x else lkH hp j:=funext fun j=>lookH_setH hp r j x
  rw [this]
  exact h.2
 | any k ih=>exact h.elim
 | dec p k ih=>exact ih _ h
 | opt o k ih=>exact ih _ h
 | all p k ih=>exact h.elim
 | fail=>exact h.elim

theorem Step.list {P lv all ver fl} {tm:Tm} {o:Oper} {H H':Roots} {u:PV} (h:Step P lv all ver fl tm o H u H') (hH:∃ hp,lkH hp=H):∃ hp,lkH hp=H':=by
 obtain ⟨hp,rfl⟩:=hH
 obtain ⟨c,_,h⟩:=h
 have key:∀ v,StepT P lv ver (fbOf lv fl.1) (owOf lv fl o) tm o (lkH hp) v H'→∃ hp,lkH hp=H':=by
  intro v hv
  unfold StepT at hv
  split at hv
  ·obtain ⟨_,f,az,_,h⟩:=hv
   cases h with
   | frozen=>exact ⟨hp,rfl⟩
   | plain=>exact ⟨hp,rfl⟩
   | own node res _ _=>exact ⟨setH hp (lv,o.dst.getD 0) (some ⟨ver,node⟩),funext fun j=>lookH_setH ..⟩
   | ownPlain sz n g res _ _ _ _ _ _=>exact ⟨setH hp (lv,o.dst.getD 0) (some ⟨ver,.own sz n g⟩),funext fun j=>lookH_setH ..⟩
  ·exact A.ok_list hv
 generalize changes o.op=chg at h
 cases chg with
 | true =>
  cases c with
  | true=>exact key _ (h.1 rfl)
  | false=>exact ⟨hp,(h.2 rfl).2.symm⟩
 | false =>
  obtain ⟨v,h1,h2,_⟩:=h
  cases c with
  | true=>exact key _ (h1 rfl)
  | false=>exact ⟨hp,(h2 rfl).symm⟩

theorem Run.first {P lv all fls nv} {l1 l2:List Nat} {i:Nat} {oi:Oper} {fi:Fl} (hoi:all[i]?=some oi) (hfi:fls[i]?=some fi)
  (hc:∀ x∈l1,∀ ox fx,all[x]?=some ox→fls[x]?=some fx→pairOK all ox fx oi fi=true) {tm tm':Tm} {H H':Roots} (hH:∃ hp,lkH hp=H) (h:Run P lv all fls nv (l1++i::l2) tm H tm' H') :
  ∃ u H1,Step P lv all (nv+i) fi tm oi H u H1∧∃ tm'',Run P lv all fls nv (l1++l2) (putT tm oi.dst u) H1 tm'' H'∧Teq tm' tm'':=by
 induction l1 generalizing tm H with
 | nil =>
  obtain ⟨o,fl,u,H1,h1,h2,h3,h4⟩:=h
  rw [hoi] at h1;rw [hfi] at h2
  cases h1;cases h2
  exact ⟨u,H1,h3,tm',h4,fun _=>rfl⟩
 | cons x l1 ih =>
  obtain ⟨ox,fx,ux,Hx,h1,h2,h3,h4⟩:=h
  obtain ⟨u,H1,h5,tm'',h6,h7⟩:=ih (fun y hy=>hc y (by simp [hy])) (h3.list hH) h4
  have hpr:=hc x (by simp) ox fx h1 h2
  have hpr':=hpr
  simp only [pairOK,Bool.and_eq_true] at hpr'
  obtain ⟨⟨⟨p1,p2⟩,p3⟩,_⟩:=hpr'
  have ag1:agT (usesT all oi) (putT tm ox.dst ux) tm:=fun t ht=>by
   rw [lk_putT]
   split
   ·rename_i e;rw [e] at p1;simp at p1;exact absurd ht p1
   ·rfl
  have ag2:agT (usesT all ox) tm (putT tm oi.dst u):=fun t ht=>by
   rw [lk_putT]
   split
   ·rename_i e;rw [e] at p2;simp at p2;exact absurd ht p2
   ·rfl
  obtain ⟨H1',s1,s2⟩:=swapH hH hpr h3 (h5.ag ag1) (fun H' hH' ver fl o v H1' hs=>hs.list hH')
  have hte:Teq (putT (putT tm ox.dst ux) oi.dst u) (putT (putT tm oi.dst u) ox.dst ux):=fun t=>by
   simp only [lk_putT]
   by_cases e1:oi.dst=some t
   ·by_cases e2:ox.dst=some t
    ·rw [e1,e2] at p3;simp at p3
    ·simp [e1,e2]
   ·simp [e1]
  obtain ⟨tm3,h8,h9⟩:=h6.teq hte
  exact ⟨u,H1',s1,tm3,⟨ox,fx,ux,H1,h1,h2,s2.ag ag2,h8⟩,fun t=>(h7 t).trans (h9 t)⟩

/-! ### The check -/
def preds (o:Oper):List Nat:=(o.after.toList.filter fun e=>Region.binds .any e).map (·.on)

def masksGo:List Oper→List Nat→List Nat
 | [],ms=>ms
 | o::os,ms=>masksGo os (ms++[(preds o).foldl (fun m p=>m ||| (1 <<< p) ||| ms.getD p 0) 0])

def drawOK (all:List Oper) (fls:List Fl) (ms:List Nat):Bool :=
 all.length == fls.length&&(List.range all.length).all fun i=>match all[i]?,fls[i]? with
  | some o,some fl=>(preds o).all (fun p=>decide (p<i))&&(List.range i).all fun x =>
   if (ms.getD i 0).testBit x then (preds o).any fun p=>p == x||(decide (x<p)&&(ms.getD p 0).testBit x)
   else match all[x]?,fls[x]? with
    | some ox,some fx=>pairOK all ox fx o fl
    | _,_=>false
  | _,_=>false

theorem drawOK_at {all:List Oper} {fls:List Fl} {ms:List Nat} (h:drawOK all fls ms=true) {i:Nat} {o:Oper} (hi:all[i]?=some o) :
  ∃ fl,fls[i]?=some fl∧(∀ p∈preds o,p<i)∧∀ x<i,((∃ p∈preds o,p=x∨x<p∧(ms.getD p 0).testBit x=true)∨(ms.getD i 0).testBit x=false∧∃ ox fx,all[x]?=some ox∧fls[x]?=some fx∧pairOK all ox fx o fl=true):=by
 unfold drawOK at h
 rw [Bool.and_eq_true] at h
 have hlt:i<all.length:=(List.getElem?_eq_some_iff.1 hi).1
 have h2:=List.all_eq_true.1 h.2 i (List.mem_range.2 hlt)
 rw [hi] at h2
 cases hf:fls[i]? with
 | none=>rw [hf] at h2;cases h2
 | some fl =>
  rw [hf] at h2
  simp only [Bool.and_eq_true] at h2
  obtain ⟨h3,h4⟩:=h2
  refine ⟨fl,rfl,fun p hp=>by simpa using List.all_eq_true.1 h3 p hp,fun x hx=>?_⟩
  have h5:=List.all_eq_true.1 h4 x (List.mem_range.2 hx)
  split at h5
  ·obtain ⟨p,hp,h6⟩:=List.any_eq_true.1 h5
   exact .inl ⟨p,hp,by simpa using h6⟩
  ·rename_i hb
   split at h5
   ·rename_i ox fx h6 h7
    exact .inr ⟨by simpa using hb,ox,fx,h6,h7,h5⟩
   ·cases h5
end Go.Ab
namespace Go.Ab
open Classical

theorem step_sound {P:Program} {lv:Nat} {nt:FS} {ro:Option Nat} {ops:Array Oper} {Q:Exit→Act→World→Prop} (hlv:lv≠0) {i ver:Nat} {o:Oper} {fl:Fl} {tm:Tm} {hp:Hp} {u:PV} {H1:Roots} {V:Nat→Prop} {w:World} {B:Blocks} {a:Act}
  (hio:ops[i]?=some o) (hdo:dstOK nt o.dst=true) (hver:¬ V ver) (hs:Step P lv ops.toList ver fl tm o (lkH hp) u H1) (ht:TmR w B (lkH hp) V nt tm a) (hr:HR w B (lkH hp) V) {K:Act→World→Prop}
  (hK:∀ w' B' hp' a',lkH hp'=H1→TmR w' B' (lkH hp') (ors V ver) nt (putT tm o.dst u) a'→HR w' B' (lkH hp') (ors V ver)→Mono w B (lkH hp) V w' B' (lkH hp') (ors V ver)→K a' w') :
  wpOpIn (Wd ro) 0 P ops Q i K a w:=by
 obtain ⟨c,hg,h⟩:=hs
 have hw:=guard_sound ht ops o hg
 simp only [wpOpIn,hio,hw]
 have hab:∀ f,o.about P w a.eval=some f→(Wd ro).fn f:=fun _ _=>trivial
 have value:∀ (nx:Next) (v:Value) (w':World) (B':Blocks) (hp':Hp),(o.semAt ro a.eval).run P w = .ok nx w'→(nx = .value v∨nx = .skip∧v=Go.undef) →
   lkH hp'=H1→VR w' B' (lkH hp') (ors V ver) u v→HR w' B' (lkH hp') (ors V ver)→Mono w B (lkH hp) V w' B' (lkH hp') (ors V ver)→Oper.wpIn (Wd ro) 0 P o a w K Q:=by
  intro nx v w' B' hp' he hnx hh hv hr' hm'
  refine ⟨fun _ _=>trivial,?_⟩
  show o.uponIn (Wd ro) 0 P a K Q ((o.semAt ro a.eval).run P w)
  rw [he]
  have:=hK w' B' hp' _ hh ((ht.mono hm').putT hdo hv) hr' hm'
  rcases hnx with rfl|⟨rfl,rfl⟩
  ·exact this
  ·exact this
 have stepT:∀ x,StepT P lv ver (fbOf lv fl.1) (owOf lv fl o) tm o (lkH hp) x H1→(∀ w B H V v,VR w B H V x v→VR w B H V u v)→Oper.wpIn (Wd ro) 0 P o a w K Q:=by
  intro x hx hxu
  unfold StepT at hx
  split at hx
  ·rename_i hc
   obtain ⟨_,f,az,h1,h2⟩:=hx
   have hc2:callee tm o.op fun f' az'=>f'=f∧az'=az:=callee_iff.2 ⟨f,az,h1,rfl,rfl⟩
   refine ⟨fun _ _=>trivial,?_⟩
   show o.uponIn (Wd ro) 0 P a K Q ((o.semAt ro a.eval).run P w)
   unfold callee at hc2
   split at hc2
   ·rename_i fo args _ hop
    have hev:=ht.evC fo
    split at hc2
    ·rename_i g first caps hfe
     rw [hfe] at hev
     split at hc2
     ·rename_i az' has
      obtain ⟨rfl,rfl⟩:=hc2
      generalize hfv:a.eval fo=fv at hev
      cases hev with
      | @func _ _ _ _ _ cs1 cs2 hl hl' g1 g2 =>
       have hargs:LR w B (lkH hp) V (first++az'++caps) (cs1++args.map a.eval++cs2):=by
        refine LR.append (LR.append ⟨hl,g1⟩ ?_) ⟨hl',g2⟩
        simpa using vals_LR ht args.toList az' has
       obtain ⟨hen,hcalls⟩:=h2.sound (V':=ors V ver) hlv hver (.inr rfl) (fun _ h => .inl h) hr hargs
       have he:(o.semAt ro a.eval).run P w = .ok (.enter g (cs1++args.map a.eval++cs2)) w:=by
        rw [Oper.semAt_eq _ _ _ (by rw [hop];intro c h;cases h)]
        simp [execOp,hop,resolve,hfv,Deferred.ofValue,invoke,hen _ w]
       rw [he,Oper.uponIn_enter]
       refine ⟨fun h=>by simp [Wd,Fence.wide] at h,callsIn_Wd (hcalls.mono fun e w' he=>?_)⟩
       obtain ⟨v,B',rfl,hv,hr',hm'⟩:=he
       have hlist:∃ hp',lkH hp'=H1:=by
        cases h2 with
        | frozen=>exact ⟨hp,rfl⟩
        | plain=>exact ⟨hp,rfl⟩
        | own node res _ _=>exact ⟨setH hp (lv,o.dst.getD 0) (some ⟨ver,node⟩),funext fun j=>lookH_setH ..⟩
        | ownPlain sz n g res _ _ _ _ _ _=>exact ⟨setH hp (lv,o.dst.getD 0) (some ⟨ver,.own sz n g⟩),funext fun j=>lookH_setH ..⟩
       obtain ⟨hp',rfl⟩:=hlist
       exact hK w' B' hp' _ rfl ((ht.mono hm').putT hdo (hxu _ _ _ _ _ hv)) hr' hm'
     ·exact hc2.elim
    ·exact hc2.elim
   ·exact hc2.elim
  ·have hok:(opA P lv ver tm o).wp hp fun v hp'=>v=x∧lkH hp'=H1:=A.ok_wp hx fun hp' h=>⟨rfl,h⟩
   have hnd:∀ c,o.op ≠ .defer c:=fun c hc=>by
    unfold opA opB at hok
    rw [hc] at hok
    exact hok
   obtain ⟨nx,v,w',B',hp',x',he,hnx,⟨rfl,hh⟩,hv,hr',hm'⟩:=opA_real (P:=P) (ver:=ver) hlv hr hver ht o _ hok
   exact value nx v w' B' hp' (by rw [Oper.semAt_eq _ _ _ hnd];exact he) hnx hh (hxu _ _ _ _ _ hv) hr' hm'
 have pass:u = .undef∨(∃ v,u = .whn false v)→H1=lkH hp→K (a.put o.dst Go.undef) w:=by
  intro hu hh
  have hmu:Mono w B (lkH hp) V w B (lkH hp) (ors V ver):=Mono.more ..
  refine hK w B hp _ hh.symm ((ht.mono hmu).putT hdo ?_) (hr.more ver) hmu
  rcases hu with rfl|⟨v,rfl⟩
  ·exact .undef _
  ·exact .whn (fun e=>by cases e) (fun _=>rfl)
 generalize hchg:changes o.op=chg at h
 cases chg with
 | true =>
  cases c with
  | true=>simp only [if_true];exact stepT u (h.1 rfl) (fun _ _ _ _ _ h=>h)
  | false=>simp only [Bool.false_eq_true,if_false];exact ⟨hab,pass ((h.2 rfl).1.elim .inl fun e=>by rw [e];exact noT_cases P o) (h.2 rfl).2⟩
 | false =>
  obtain ⟨v,h1,h2,h3⟩:=h
  cases c with
  | true =>
   simp only [if_true]
   refine stepT v (h1 rfl) (fun w B H V x hx=>?_)
   rw [h3]
   split
   ·exact .whn (fun _=>hx) (fun e=>by cases e)
   ·exact hx
  | false =>
   simp only [Bool.false_eq_true,if_false]
   refine ⟨hab,pass (.inr ⟨v,?_⟩) (h2 rfl)⟩
   rw [h3]
   cases hgd:o.guard with
   | none=>simp [guardC,hgd] at hg
   | some _=>rfl

def Vl (nv:Nat) (listed:Array Bool):Nat→Prop:=fun v=>v<nv∨∃ j,listed.getD j false=true∧v=nv+j

def rem (n:Nat) (listed:Array Bool):List Nat:=(List.range n).filter fun j=>!listed.getD j true

theorem getD_agree {l:Array Bool} {j:Nat} (h:j<l.size):l.getD j true=l.getD j false:=by simp [Array.getD,h]

theorem set_getD {l:Array Bool} {i j:Nat} (hi:i<l.size):(l.setIfInBounds i true).getD j false=(if j=i then true else l.getD j false):=by
 by_cases e:j=i
 ·subst e;simp [hi]
 ·rw [getD_set_ne _ (fun h=>e h.symm),if_neg e]

theorem rem_split {n:Nat} {listed:Array Bool} {i:Nat} (hi:i<n) (hl:listed.getD i true=false):∃ l1 l2,rem n listed=l1++i::l2∧(∀ x∈l1,x<i∧listed.getD x true=false)∧rem n (listed.setIfInBounds i true)=l1++l2:=by
 have hsz:i<listed.size:=by
  rcases Nat.lt_or_ge i listed.size with h|h
  ·exact h
  ·simp [Array.getElem?_eq_none h] at hl
 have hr:List.range n=List.range i++i::List.range' (i+1) (n - i - 1):=by
  have h1:n=i+(1+(n - i - 1)):=by omega
  conv=>lhs;rw [h1]
  rw [List.range_eq_range',List.range_eq_range',← List.range'_append_1,Nat.zero_add,Nat.add_comm 1,List.range'_succ]
 refine ⟨(List.range i).filter fun j=>!listed.getD j true,(List.range' (i+1) (n - i - 1)).filter fun j=>!listed.getD j true,?_,fun x hx=>?_,?_⟩
 ·unfold rem;rw [hr,List.filter_append,List.filter_cons,hl];rfl
 ·obtain ⟨h1,h2⟩:=List.mem_filter.1 hx
  exact ⟨List.mem_range.1 h1,by simpa using h2⟩
 ·unfold rem
  rw [hr,List.filter_append,List.filter_cons]
  have e1:(listed.setIfInBounds i true).getD i true=true:=by simp [hsz]
  rw [e1]
  congr 1
  ·refine List.filter_congr fun x hx=>?_
   have:i≠x:=fun e=>by have:=List.mem_range.1 hx;omega
   rw [getD_set_ne _ this]
  ·refine List.filter_congr fun x hx=>?_
   have:i≠x:=fun e=>by have:=(List.mem_range'_1.1 hx).1;omega
   rw [getD_set_ne _ this]

theorem mem_preds {o:Oper} {p:Nat}:p∈preds o↔∃ e∈o.after,Region.binds .any e=true∧e.on=p:=by
 unfold preds
 simp only [List.mem_map,List.mem_filter,Array.mem_toList_iff]
 exact ⟨fun ⟨e,⟨h1,h2⟩,h3⟩=>⟨e,h1,h2,h3⟩,fun ⟨e,h1,h2,h3⟩=>⟨e,⟨h1,h2⟩,h3⟩⟩

def cutB (ms:List Nat) (e:Nat):Bool:=(ms.drop e).all fun m=>Nat.beq (m % 2 ^ e) (2 ^ e - 1)
theorem cutB_bits {ms:List Nat} {e:Nat} (h:cutB ms e=true) {i x:Nat} (hi:e≤i) (hlt:i<ms.length) (hx:x<e):(ms.getD i 0).testBit x=true:=by
 have hm:ms.getD i 0∈ms.drop e:=by
  rw [List.getD_eq_getElem?_getD,List.getElem?_eq_getElem hlt]
  exact List.mem_iff_getElem.2 ⟨i - e,by simp;omega,by simp [show e+(i - e)=i by omega]⟩
 have h1:=Nat.eq_of_beq_eq_true (List.all_eq_true.1 h _ hm)
 have h2:(ms.getD i 0 % 2 ^ e).testBit x=true:=by
  rw [h1,Nat.testBit_two_pow_sub_one]
  simpa using hx
 rw [Nat.testBit_mod_two_pow] at h2
 simp at h2
 exact h2.2

def AnyAt (ro:Option Nat) (P:Program) (ops:Array Oper) (Q:Exit→Act→World→Prop) (s:Nat) (a:Act) (w:World):Prop :=
 ∀ listed:Array Bool,listed.size=ops.size→(∀ j,listed.getD j false=true↔j<s)→wpAnyIn (Wd ro) 0 P .any ops Q (ops.size - s) listed a w

theorem any_seg {P:Program} {lv nv nv0:Nat} {nt:FS} {ro:Option Nat} {ops:Array Oper} {fls:List Fl} {ms:List Nat} {Q:Exit→Act→World→Prop} (hlv:lv≠0) (hd:∀ o∈ops.toList,dstOK nt o.dst=true)
  (hck:drawOK ops.toList fls ms=true) {e:Nat} (hcut:∀ i x,e≤i→i<ops.size→x<e→(ms.getD i 0).testBit x=true) (hsz:e≤ops.size) {w0:World} {B0:Blocks} {hp0:Hp} {tmF:Tm} {HF:Roots}
  (hQ:∀ tm hp w B a,Teq tmF tm→lkH hp=HF→TmR w B (lkH hp) (·<nv+e) nt tm a→HR w B (lkH hp) (·<nv+e)→Mono w0 B0 (lkH hp0) (·<nv0) w B (lkH hp) (·<nv+e)→AnyAt ro P ops Q e a w) :
  ∀ (fuel:Nat) (listed:Array Bool),listed.size=ops.size→(∀ j,e≤j→listed.getD j false=false)→(rem e listed).length=fuel →
   (∀ i,listed.getD i false=true→∀ x,x<i→(ms.getD i 0).testBit x=true→listed.getD x false=true) →
   ∀ tm tm' hp w B a,Run P lv ops.toList fls nv (rem e listed) tm (lkH hp) tm' HF→Teq tmF tm'→TmR w B (lkH hp) (Vl nv listed) nt tm a→HR w B (lkH hp) (Vl nv listed) →
    Mono w0 B0 (lkH hp0) (·<nv0) w B (lkH hp) (Vl nv listed)→wpAnyIn (Wd ro) 0 P .any ops Q (fuel+(ops.size - e)) listed a w:=by
 intro fuel
 have hready:∀ (listed:Array Bool),listed.size=ops.size→(∀ j,e≤j→listed.getD j false=false)→rem e listed≠[]→Region.ready .any ops listed≠[]:=by
  intro listed hsz' hhi hne hre
  cases hrem:rem e listed with
  | nil=>exact hne hrem
  | cons i rest =>
   have hi:i∈rem e listed:=by rw [hrem];simp
   obtain ⟨h1,h2⟩:=List.mem_filter.1 hi
   have hlte:=List.mem_range.1 h1
   have hlt:i<ops.size:=by omega
   obtain ⟨l1,l2,h3,h4,_⟩:=rem_split hlte (by simpa using h2:listed.getD i true=false)
   have hl1:l1=[]:=by
    cases l1 with
    | nil=>rfl
    | cons x l1 =>
     rw [hrem] at h3
     obtain ⟨rfl,_⟩:=List.cons.inj h3
     have:=(h4 i (by simp)).1
     omega
   have hsmall:∀ x<i,listed.getD x false=true:=by
    intro x hx
    cases hb:listed.getD x true with
    | true=>rw [← getD_agree (by omega)];exact hb
    | false =>
     obtain ⟨l1',l2',h5,h6,_⟩:=rem_split (show x<e by omega) hb
     have hl1':l1'=[]∨∃ r,l1'=i::r:=by
      cases l1' with
      | nil=>exact .inl rfl
      | cons y l1'=>rw [hrem] at h5;obtain ⟨rfl,_⟩:=List.cons.inj h5;exact .inr ⟨_,rfl⟩
     rcases hl1' with rfl|⟨r,rfl⟩
     ·rw [hrem] at h5;obtain ⟨rfl,_⟩:=List.cons.inj h5;omega
     ·have:=(h6 i (by simp)).1;omega
   obtain ⟨o,ho⟩:∃ o,ops[i]?=some o:=⟨ops[i],by simp [hlt]⟩
   obtain ⟨fl,_,hp,_⟩:=drawOK_at hck (i:=i) (o:=o) (by simpa using ho)
   have:i∈Region.ready .any ops listed:=mem_ready.2 ⟨by simpa using h2,o,ho,fun e he hb=>hsmall _ (hp _ (mem_preds.2 ⟨e,he,hb,rfl⟩))⟩
   rw [hre] at this
   cases this
 induction fuel with
 | zero =>
  intro listed hsz' hhi hlen hdc tm tm' hp w B a hrun hte ht hr hm
  have hrem:=List.eq_nil_of_length_eq_zero hlen
  rw [hrem] at hrun
  obtain ⟨rfl,rfl⟩:=hrun
  have hV:∀ v,Vl nv listed v→v<nv+e:=by
   rintro v (h|⟨j,h1,rfl⟩)
   ·omega
   ·rcases Nat.lt_or_ge j e with h|h
    ·omega
    ·rw [hhi j h] at h1;cases h1
  have hup:Mono w B (lkH hp) (Vl nv listed) w B (lkH hp) (·<nv+e):=(Mono.refl ..).up hV
  rw [Nat.zero_add]
  refine hQ _ hp w B a hte rfl (ht.mono hup) (hr.up hV) (hm.trans hup) listed hsz' fun j=>⟨fun h=>?_,fun h=>?_⟩
  ·rcases Nat.lt_or_ge j e with h'|h'
   ·exact h'
   ·rw [hhi j h'] at h;cases h
  ·cases hb:listed.getD j true with
   | true=>rw [← getD_agree (by omega)];exact hb
   | false =>
    have:j∈rem e listed:=List.mem_filter.2 ⟨List.mem_range.2 h,by rw [hb];rfl⟩
    rw [hrem] at this
    cases this
 | succ fuel ih =>
  intro listed hsz' hhi hlen hdc tm tm' hp w B a hrun hte ht hr hm
  have hne:rem e listed≠[]:=fun h=>by rw [h] at hlen;cases hlen
  rw [Nat.succ_add]
  refine ⟨fun hre=>absurd hre (hready listed hsz' hhi hne),fun i hi=>?_⟩
  obtain ⟨h1,o,ho,hpre⟩:=mem_ready.1 hi
  have hlt:=(Array.getElem?_eq_some_iff.1 ho).1
  obtain ⟨fl,hfl,hpl,hpair⟩:=drawOK_at hck (i:=i) (o:=o) (by simpa using ho)
  have hpred:∀ p∈preds o,listed.getD p false=true:=fun p hp=>by
   obtain ⟨e,he,hb,rfl⟩:=mem_preds.1 hp
   exact hpre e he hb
  have hbits:∀ x,x<i→(ms.getD i 0).testBit x=true→listed.getD x false=true:=fun x hx hb=>by
   rcases hpair x hx with ⟨p,hp,h6⟩|⟨h6,_⟩
   ·rcases h6 with rfl|⟨h6,h7⟩
    ·exact hpred p hp
    ·exact hdc p (hpred p hp) x h6 h7
   ·rw [h6] at hb;cases hb
  have hie:i<e:=by
   rcases Nat.lt_or_ge i e with h|h
   ·exact h
   ·exfalso
    cases hrem:rem e listed with
    | nil=>exact hne hrem
    | cons x rest =>
     have hx:x∈rem e listed:=by rw [hrem];simp
     obtain ⟨g1,g2⟩:=List.mem_filter.1 hx
     have hxe:=List.mem_range.1 g1
     have:=hbits x (by omega) (hcut i x h hlt hxe)
     rw [← getD_agree (by omega)] at this
     rw [this] at g2
     cases g2
  obtain ⟨l1,l2,h3,h4,h5⟩:=rem_split hie h1
  rw [h3] at hrun
  obtain ⟨u,H1,hs,tm'',hrun',hte'⟩:=Run.first (l1:=l1) (l2:=l2) (oi:=o) (fi:=fl) (by simpa using ho) hfl (fun x hx ox fx hox hfx=>by
   obtain ⟨hxi,hxl⟩:=h4 x hx
   have hxf:listed.getD x false=false:=by rw [← getD_agree (by omega)];exact hxl
   rcases hpair x hxi with ⟨p,hp,h6⟩|⟨_,ox',fx',h6,h7,h8⟩
   ·exfalso
    rcases h6 with rfl|⟨h6,h7⟩
    ·rw [hpred p hp] at hxf;cases hxf
    ·rw [hdc p (hpred p hp) x h6 h7] at hxf;cases hxf
   ·rw [hox] at h6;rw [hfx] at h7
    cases h6;cases h7
    exact h8) ⟨hp,rfl⟩ hrun
  have hver:¬ Vl nv listed (nv+i):=by
   rintro (h|⟨j,h6,h7⟩)
   ·omega
   ·obtain rfl:j=i:=by omega
    rw [getD_agree (by omega),h6] at h1
    cases h1
  refine step_sound (fl:=fl) hlv ho (hd o (by simpa using List.mem_of_getElem? (show ops.toList[i]?=some o by simpa using ho))) hver hs ht hr (fun w' B' hp' a' hh ht' hr' hm'=>?_)
  have hV:∀ v,ors (Vl nv listed) (nv+i) v→Vl nv (listed.setIfInBounds i true) v:=by
   rintro v ((h|⟨j,h6,rfl⟩)|rfl)
   ·exact .inl h
   ·exact .inr ⟨j,getD_set_true h6,rfl⟩
   ·exact .inr ⟨i,by rw [set_getD (by omega),if_pos rfl],rfl⟩
  have hup:Mono w' B' (lkH hp') (ors (Vl nv listed) (nv+i)) w' B' (lkH hp') (Vl nv (listed.setIfInBounds i true)):=(Mono.refl ..).up hV
  subst hh
  refine ih (listed.setIfInBounds i true) (by simpa using hsz') (fun j hj=>?_) ?_ ?_ _ tm'' hp' w' B' a' (by rw [h5];exact hrun') (fun t=>(hte t).trans (hte' t)) (ht'.mono hup) (hr'.up hV) (hm.trans (hm'.trans hup))
  ·rw [set_getD (by omega),if_neg (by omega)];exact hhi j hj
  ·rw [h5]
   rw [h3] at hlen
   simp only [List.length_append,List.length_cons] at hlen ⊢
   omega
  ·intro j hj x hx hb
   rw [set_getD (by omega)] at hj ⊢
   split
   ·rfl
   ·split at hj
    ·rename_i e
     subst e
     exact hbits x hx hb
    ·exact hdc j hj x hx hb

theorem any_one {P:Program} {ro:Option Nat} {ops:Array Oper} {fls:List Fl} {ms:List Nat} {Q:Exit→Act→World→Prop} (hck:drawOK ops.toList fls ms=true) {s:Nat} (hcut:∀ i x,s+1≤i→i<ops.size→x<s+1→(ms.getD i 0).testBit x=true) (hs:s<ops.size)
  {a:Act} {w:World} (h:wpOpIn (Wd ro) 0 P ops Q s (AnyAt ro P ops Q (s+1)) a w):AnyAt ro P ops Q s a w:=by
 intro listed hsz hl
 rw [show ops.size - s=(ops.size - (s+1))+1 by omega]
 obtain ⟨o,ho⟩:∃ o,ops[s]?=some o:=⟨ops[s],by simp [hs]⟩
 obtain ⟨fl,_,hp,_⟩:=drawOK_at hck (i:=s) (o:=o) (by simpa using ho)
 have hfs:listed.getD s false=false:=by
  cases hb:listed.getD s false with
  | false=>rfl
  | true=>have:=(hl s).1 hb;omega
 have hin:s∈Region.ready .any ops listed:=mem_ready.2 ⟨by rw [getD_agree (by omega)];exact hfs,o,ho,fun e he hb=>(hl _).2 (hp _ (mem_preds.2 ⟨e,he,hb,rfl⟩))⟩
 refine ⟨fun hre=>(by rw [hre] at hin;cases hin),fun i hi=>?_⟩
 obtain ⟨h1,oi,hoi,hpre⟩:=mem_ready.1 hi
 have hlt:=(Array.getElem?_eq_some_iff.1 hoi).1
 have his:i=s:=by
  have hnl:¬ i<s:=fun h=>by
   have:=(hl i).2 h
   rw [← getD_agree (by omega)] at this
   rw [this] at h1
   cases h1
  rcases Nat.lt_or_ge s i with h|h
  ·exfalso
   obtain ⟨fi,_,hpl,hpair⟩:=drawOK_at hck (i:=i) (o:=oi) (by simpa using hoi)
   have hb:=hcut i s h hlt (Nat.lt_succ_self s)
   rcases hpair s h with ⟨p,hp,h6⟩|⟨h6,_⟩
   ·obtain ⟨e,he,hbb,rfl⟩:=mem_preds.1 hp
    have hpl2:=(hl _).1 (hpre e he hbb)
    rcases h6 with h6|⟨h6,_⟩ <;> omega
   ·rw [h6] at hb;cases hb
  ·omega
 subst his
 refine wpOpIn_mono (fun a w hk=>?_) h
 refine hk _ (by simpa using hsz) fun j=>?_
 rw [set_getD (by omega)]
 split
 ·rename_i e;subst e;simp
 ·rename_i e
  rw [hl]
  omega

end Go.Ab
namespace Go.Ab
open Classical

def A.wpD (fb ow:RId→Prop):A→Hp→(PV→Hp→Prop)→Prop
 | .ret x,h,K=>K x h
 | @A.vc p _ k,h,K=>p∧A.wpD fb ow k h K
 | .hyp _ k,h,K=>A.wpD fb ow k h K
 | .rd r k,h,K=>¬ fb r∧A.wpD fb ow (k (lkH h r)) h K
 | .wr r x k,h,K=>ow r∧A.wpD fb ow k (setH h r x) K
 | .any _,_,_=>False
 | @A.dec p d k,h,K=>A.wpD fb ow (k (@decide p d)) h K
 | .opt o k,h,K=>A.wpD fb ow (k o) h K
 | .all ..,_,_=>False
 | .fail,_,_=>False

theorem A.wpD_ok {fb ow} {a:A} {hp:Hp} {K:PV→Hp→Prop} (h:a.wpD fb ow hp K):∃ v hp',a.ok fb ow (lkH hp) v (lkH hp')∧K v hp':=by
 induction a generalizing hp with
 | ret x=>exact ⟨x,hp,⟨rfl,rfl⟩,h⟩
 | vc p k ih=>obtain ⟨v,hp',h1,h2⟩:=ih h.2;exact ⟨v,hp',⟨h.1,h1⟩,h2⟩
 | hyp p k ih=>exact ih h
 | rd r k ih=>obtain ⟨v,hp',h1,h2⟩:=ih _ h.2;exact ⟨v,hp',⟨h.1,h1⟩,h2⟩
 | wr r x k ih =>
  obtain ⟨v,hp',h1,h2⟩:=ih h.2
  have:(lkH (setH hp r x))=fun j=>if j=r then x else lkH hp j:=funext fun j=>lookH_setH hp r j x
  rw [this] at h1
  exact ⟨v,hp',⟨h.1,h1⟩,h2⟩
 | any k ih=>exact h.elim
 | dec p k ih=>exact ih _ h
 | opt o k ih=>exact ih _ h
 | all p k ih=>exact h.elim
 | fail=>exact h.elim

def A.gwpD (c:Bool) (fb:RId→Prop):A→Hp→(PV→Prop)→Prop
 | .ret x,_,K=>K x
 | @A.vc p _ k,h,K=>(c=true→p)∧A.gwpD c fb k h K
 | .hyp _ k,h,K=>A.gwpD c fb k h K
 | .rd r k,h,K=>(c=true→¬ fb r)∧A.gwpD c fb (k (lkH h r)) h K
 | .wr ..,_,_=>False
 | .any _,_,_=>False
 | @A.dec p d k,h,K=>A.gwpD c fb (k (@decide p d)) h K
 | .opt o k,h,K=>A.gwpD c fb (k o) h K
 | .all ..,_,_=>False
 | .fail,_,_=>False

theorem A.gwpD_ok {c:Bool} {fb ow} {a:A} {hp:Hp} {K:PV→Prop} (h:a.gwpD c fb hp K):∃ v,(c=true→a.ok fb ow (lkH hp) v (lkH hp))∧K v:=by
 induction a with
 | ret x=>exact ⟨x,fun _=>⟨rfl,rfl⟩,h⟩
 | vc p k ih=>obtain ⟨v,h1,h2⟩:=ih h.2;exact ⟨v,fun e=>⟨h.1 e,h1 e⟩,h2⟩
 | hyp p k ih=>exact ih h
 | rd r k ih=>obtain ⟨v,h1,h2⟩:=ih _ h.2;exact ⟨v,fun e=>⟨h.1 e,h1 e⟩,h2⟩
 | wr r x k ih=>exact h.elim
 | any k ih=>exact h.elim
 | dec p k ih=>exact ih _ h
 | opt o k ih=>exact ih _ h
 | all p k ih=>exact h.elim
 | fail=>exact h.elim

inductive QWp (P:Program) (id:RId) (ver:Nat) (fb:RId→Prop) (f:FuncId) (args:List PV) (hp:Hp) (K:PV→Hp→Prop):Prop
 | frozen (res:PV) (h:CallsF P f args res) (hpl:∀ c∈args,plainArgL c) (k:K res hp)
 | plain (res:PV) (hfb:∀ r,¬ fb r) (h:CallsF P f (args.map (view 9 hp)) res) (hr:leafyL res) (k:K res hp)
 | own (node:PV) (res:RId→Nat→PV) (h:CallsO P f args node res) (hpl:∀ c∈args,plainArgL c) (k:K (res id ver) (setH hp id (some ⟨ver,node⟩)))
 | ownPlain (sz n:Nat) (g:Nat→Nat→PV) (res:RId→Nat→PV) (hfb:∀ r,¬ fb r) (h:CallsO P f (args.map (view 9 hp)) (.own sz n g) res) (hr:leafyL (res id ver)) (hg:∀ i o,i<n→leafy (g i o)) (k:K (res id ver) (setH hp id (some ⟨ver,.own sz n g⟩)))

theorem QWp.ok {P id ver fb f args hp K} (h:QWp P id ver fb f args hp K):∃ v hp',QCall P id ver fb f args (lkH hp) v (lkH hp')∧K v hp':=by
 have hset:∀ x,lkH (setH hp id (some x))=fun j=>if j=id then some x else lkH hp j:=fun x=>funext fun j=>lookH_setH hp id j (some x)
 cases h with
 | frozen res h hpl k=>exact ⟨res,hp,.frozen res h hpl,k⟩
 | plain res hfb h hr k=>exact ⟨res,hp,.plain res hp rfl hfb h hr,k⟩
 | own node res h hpl k=>exact ⟨_,_,by rw [hset];exact .own node res h hpl,k⟩
 | ownPlain sz n g res hfb h hr hg k=>exact ⟨_,_,by rw [hset];exact .ownPlain sz n g res hp rfl hfb h hr hg,k⟩

def opsD (P:Program) (lv:Nat) (all:List Oper) (K:Tm→Hp→Nat→Prop):List Oper→List Fl→Tm→Hp→Nat→Prop
 | [],_,tm,hp,nv=>K tm hp nv
 | o::os,fls,tm,hp,nv=>match guardC all tm o.guard with
  | none=>False
  | some c=>if isCall o.op then
    (c=true→owOf lv (fls.headD default) o (lv,o.dst.getD 0)∧callee tm o.op fun f args=>QWp P (lv,o.dst.getD 0) nv (fbOf lv (fls.headD default).1) f args hp fun x hp'=>opsD P lv all K os fls.tail (putT tm o.dst x) hp' (nv+1)) ∧
    (c=false→opsD P lv all K os fls.tail (putT tm o.dst (noT P o)) hp (nv+1))
   else if changes o.op then
    (c=true→(opA P lv nv tm o).wpD (fbOf lv (fls.headD default).1) (owOf lv (fls.headD default) o) hp fun x hp'=>opsD P lv all K os fls.tail (putT tm o.dst x) hp' (nv+1)) ∧
    (c=false→opsD P lv all K os fls.tail (putT tm o.dst (noT P o)) hp (nv+1))
   else (opA P lv nv tm o).gwpD c (fbOf lv (fls.headD default).1) hp fun x=>opsD P lv all K os fls.tail (putT tm o.dst (if o.guard.isSome then .whn c x else x)) hp (nv+1)

theorem changes_call {o:Op} (h:isCall o=true):changes o=true:=by
 unfold isCall at h
 split at h
 ·rfl
 ·cases h

theorem opsD_run {P lv nv} {all:List Oper} {fls:List Fl} {K:Tm→Hp→Nat→Prop} (hlen:all.length=fls.length):∀ (os:List Oper) (i:Nat),(∃ tl,all.drop i=os++tl)→∀ tm hp,opsD P lv all K os (fls.drop i) tm hp (nv+i) →
  ∃ tm' hp',Run P lv all fls nv (List.range' i os.length) tm (lkH hp) tm' (lkH hp')∧K tm' hp' (nv+(i+os.length)):=by
 intro os
 induction os with
 | nil=>intro i _ tm hp h;exact ⟨tm,hp,⟨rfl,rfl⟩,h⟩
 | cons o os ih =>
  intro i ⟨tl,hi⟩ tm hp h
  have hio:all[i]?=some o:=by
   have:=congrArg (fun l=>l[0]?) hi
   simpa using this
  have hlt:i<all.length:=(List.getElem?_eq_some_iff.1 hio).1
  have hos:∃ tl,all.drop (i+1)=os++tl:=by
   have:=congrArg List.tail hi
   exact ⟨tl,by simpa using this⟩
  obtain ⟨fl,hfl⟩:∃ fl,fls[i]?=some fl:=⟨fls[i]'(by omega),by simp [show i<fls.length by omega]⟩
  have hfd:fls.drop i=fl::fls.drop (i+1):=by
   rw [List.drop_eq_getElem_cons (by omega)]
   congr 1
   have:=List.getElem?_eq_some_iff.1 hfl
   exact this.2
  have key:∀ (u:PV) (hp1:Hp),Step P lv all (nv+i) fl tm o (lkH hp) u (lkH hp1)→opsD P lv all K os (fls.drop (i+1)) (putT tm o.dst u) hp1 (nv+i+1) →
    ∃ tm' hp',Run P lv all fls nv (List.range' i (o::os).length) tm (lkH hp) tm' (lkH hp')∧K tm' hp' (nv+(i+(o::os).length)):=by
   intro u hp1 hs hk
   obtain ⟨tm',hp',h1,h2⟩:=ih (i+1) hos _ hp1 (by rw [← Nat.add_assoc];exact hk)
   refine ⟨tm',hp',?_,?_⟩
   ·rw [List.length_cons,List.range'_succ]
    exact ⟨o,fl,u,lkH hp1,hio,hfl,hs,h1⟩
   ·rw [List.length_cons,show i+(os.length+1)=i+1+os.length by omega];exact h2
  rw [hfd] at h
  simp only [opsD,List.headD_cons,List.tail_cons] at h
  cases hg:guardC all tm o.guard with
  | none=>rw [hg] at h;exact h.elim
  | some c =>
   rw [hg] at h
   simp only at h
   have skip:changes o.op=true→c=false→opsD P lv all K os (fls.drop (i+1)) (putT tm o.dst (noT P o)) hp (nv+i+1) →
     ∃ tm' hp',Run P lv all fls nv (List.range' i (o::os).length) tm (lkH hp) tm' (lkH hp')∧K tm' hp' (nv+(i+(o::os).length)):=by
    rintro hch rfl hk
    refine key (noT P o) hp ⟨false,hg,?_⟩ hk
    rw [hch]
    exact ⟨(fun e=>by cases e),fun _=>⟨.inr rfl,rfl⟩⟩
   have doit:changes o.op=true→c=true→∀ u hp1,StepT P lv (nv+i) (fbOf lv fl.1) (owOf lv fl o) tm o (lkH hp) u (lkH hp1)→opsD P lv all K os (fls.drop (i+1)) (putT tm o.dst u) hp1 (nv+i+1) →
     ∃ tm' hp',Run P lv all fls nv (List.range' i (o::os).length) tm (lkH hp) tm' (lkH hp')∧K tm' hp' (nv+(i+(o::os).length)):=by
    rintro hch rfl u hp1 hs hk
    refine key u hp1 ⟨true,hg,?_⟩ hk
    rw [hch]
    exact ⟨fun _=>hs,(fun e=>by cases e)⟩
   split at h
   ·rename_i hc
    cases c with
    | true =>
     obtain ⟨how,h1⟩:=h.1 rfl
     obtain ⟨f,az,h2,h3⟩:=callee_iff.1 h1
     obtain ⟨v,hp1,h4,h5⟩:=h3.ok
     refine doit (changes_call hc) rfl v hp1 ?_ h5
     unfold StepT
     rw [if_pos hc]
     exact ⟨how,f,az,h2,h4⟩
    | false=>exact skip (changes_call hc) rfl (h.2 rfl)
   ·rename_i hc
    split at h
    ·rename_i hch
     cases c with
     | true =>
      obtain ⟨v,hp1,h1,h2⟩:=A.wpD_ok (h.1 rfl)
      refine doit hch rfl v hp1 ?_ h2
      unfold StepT
      rw [if_neg hc]
      exact h1
     | false=>exact skip hch rfl (h.2 rfl)
    ·rename_i hch
     obtain ⟨v,h1,h2⟩:=A.gwpD_ok (ow:=owOf lv fl o) h
     refine key _ hp ⟨c,hg,?_⟩ h2
     rw [show changes o.op=false by simpa using hch]
     refine ⟨v,fun e=>?_,fun _=>rfl,rfl⟩
     unfold StepT
     rw [if_neg hc]
     exact h1 e

def cutsOK (ms:List Nat) (n:Nat):Nat→List Nat→Bool
 | s,[]=>Nat.beq s n
 | s,k::ks=>cutB ms (s+k)&&cutsOK ms n (s+k) ks

theorem masksGo_length:∀ (os:List Oper) (ms:List Nat),(masksGo os ms).length=ms.length+os.length:=by
 intro os
 induction os with
 | nil=>intro ms;simp [masksGo]
 | cons o os ih=>intro ms;simp only [masksGo,ih,List.length_append,List.length_cons,List.length_nil];omega

end Go.Ab
namespace Go.Ab

/-! ### Tables -/
inductive Tr (α:Type):Type
 | nil
 | node (l:Tr α) (x:Option α) (r:Tr α)

namespace Tr
variable {α:Type}

def get:Tr α→Nat→Option α
 | nil,_=>none
 | node l x r,n=>match n with
  | 0=>x
  | m+1=>match Nat.mod m 2 with
   | 0=>l.get (Nat.div m 2)
   | _+1=>r.get (Nat.div m 2)

theorem get_succ (l:Tr α) (x:Option α) (r:Tr α) (m:Nat):(node l x r).get (m+1)=if m % 2=0 then l.get (m / 2) else r.get (m / 2):=by
 show (match m % 2 with|0=>l.get (m / 2)|_+1=>r.get (m / 2))=_
 cases h:m % 2 <;> simp

def setK {β:Type}:Nat→Tr α→Nat→Option α→(Tr α→β)→β
 | 0,t,_,_,k=>k t
 | f+1,t,n,v,k=>match t with
  | nil=>match n with
   | 0=>k (node nil v nil)
   | m+1=>match Nat.mod m 2 with
    | 0=>setK f nil (Nat.div m 2) v (fun l=>k (node l none nil))
    | _+1=>setK f nil (Nat.div m 2) v (fun r=>k (node nil none r))
  | node l x r=>match n with
   | 0=>k (node l v r)
   | m+1=>match Nat.mod m 2 with
    | 0=>setK f l (Nat.div m 2) v (fun l=>k (node l x r))
    | _+1=>setK f r (Nat.div m 2) v (fun r=>k (node l x r))

theorem setK_nil {β:Type} (f:Nat) (m:Nat) (v:Option α) (k:Tr α→β):setK (f+1) nil (m+1) v k=if m % 2=0 then setK f nil (m / 2) v (fun l=>k (node l none nil)) else setK f nil (m / 2) v (fun r=>k (node nil none r)):=by
 show (match m % 2 with|0=>setK f nil (m / 2) v (fun l=>k (node l none nil))|_+1=>setK f nil (m / 2) v (fun r=>k (node nil none r)))=_
 cases h:m % 2 <;> simp
theorem setK_node {β:Type} (f:Nat) (l:Tr α) (x:Option α) (r:Tr α) (m:Nat) (v:Option α) (k:Tr α→β):setK (f+1) (node l x r) (m+1) v k=if m % 2=0 then setK f l (m / 2) v (fun l=>k (node l x r)) else setK f r (m / 2) v (fun r=>k (node l x r)):=by
 show (match m % 2 with|0=>setK f l (m / 2) v (fun l=>k (node l x r))|_+1=>setK f r (m / 2) v (fun r=>k (node l x r)))=_
 cases h:m % 2 <;> simp

theorem get_nil (n:Nat):(nil:Tr α).get n=none:=by cases n <;> rfl

theorem setK_spec {β:Type}:∀ (f:Nat) (t:Tr α) (n:Nat) (v:Option α) (k:Tr α→β),n+1<2 ^ f→∃ t',setK f t n v k=k t'∧∀ j,t'.get j=if j=n then v else t.get j:=by
 intro f
 induction f with
 | zero=>intro t n v k h;simp at h
 | succ f ih =>
  intro t n v k h
  cases n with
  | zero =>
   cases t with
   | nil=>refine ⟨_,rfl,fun j=>?_⟩;cases j <;> first|rfl|simp [get_succ,get_nil]
   | node l x r=>refine ⟨_,rfl,fun j=>?_⟩;cases j <;> first|rfl|simp [get_succ]
  | succ m =>
   have hlt:m / 2+1<2 ^ f:=by
    have:2 ^ (f+1)=2*2 ^ f:=by rw [Nat.pow_succ];omega
    omega
   have hj:∀ j,j≠m→j % 2=m % 2→j / 2≠m / 2:=fun j h1 h2 h3=>by omega
   cases t with
   | nil =>
    by_cases h2:m % 2=0
    ·obtain ⟨t',h3,h4⟩:=ih nil (m / 2) v (fun l=>k (node l none nil)) hlt
     refine ⟨_,by simp only [setK_nil,setK_node,h2,if_true];exact h3,fun j=>?_⟩
     cases j with
     | zero=>simp [get]
     | succ j =>
      simp only [get_succ,h4,get_nil,Nat.add_right_cancel_iff]
      by_cases hjm:j=m
      ·subst hjm;simp [h2]
      ·by_cases h5:j % 2=0
       ·simp [hjm,h5,hj j hjm (by omega)]
       ·simp [hjm,h5]
    ·obtain ⟨t',h3,h4⟩:=ih nil (m / 2) v (fun r=>k (node nil none r)) hlt
     refine ⟨_,by simp only [setK_nil,setK_node,h2,if_false];exact h3,fun j=>?_⟩
     cases j with
     | zero=>simp [get]
     | succ j =>
      simp only [get_succ,h4,get_nil,Nat.add_right_cancel_iff]
      by_cases hjm:j=m
      ·subst hjm;simp [h2]
      ·by_cases h5:j % 2=0
       ·simp [hjm,h5]
       ·simp [hjm,h5,hj j hjm (by omega)]
   | node l x r =>
    by_cases h2:m % 2=0
    ·obtain ⟨t',h3,h4⟩:=ih l (m / 2) v (fun l=>k (node l x r)) hlt
     refine ⟨_,by simp only [setK_nil,setK_node,h2,if_true];exact h3,fun j=>?_⟩
     cases j with
     | zero=>simp [get]
     | succ j =>
      simp only [get_succ,h4,Nat.add_right_cancel_iff]
      by_cases hjm:j=m
      ·subst hjm;simp [h2]
      ·by_cases h5:j % 2=0
       ·simp [hjm,h5,hj j hjm (by omega)]
       ·simp [hjm,h5]
    ·obtain ⟨t',h3,h4⟩:=ih r (m / 2) v (fun r=>k (node l x r)) hlt
     refine ⟨_,by simp only [setK_nil,setK_node,h2,if_false];exact h3,fun j=>?_⟩
     cases j with
     | zero=>simp [get]
     | succ j =>
      simp only [get_succ,h4,Nat.add_right_cancel_iff]
      by_cases hjm:j=m
      ·subst hjm;simp [h2]
      ·by_cases h5:j % 2=0
       ·simp [hjm,h5]
       ·simp [hjm,h5,hj j hjm (by omega)]
end Tr

/-! ### Numbers made whole before they go on -/
def natK {β:Type} (n:Nat) (k:Nat→β):β:=match n with
 | 0=>k 0
 | m+1=>k (m+1)
theorem natK_eq {β:Type} (n:Nat) (k:Nat→β):natK n k=k n:=by cases n <;> rfl
def intK {β:Type} (n:Int) (k:Int→β):β:=match n with
 | .ofNat m=>natK m fun m=>k (.ofNat m)
 | .negSucc m=>natK m fun m=>k (.negSucc m)
theorem intK_eq {β:Type} (n:Int) (k:Int→β):intK n k=k n:=by cases n <;> simp [intK,natK_eq]
def boolK {β:Type} (b:Bool) (k:Bool→β):β:=match b with
 | true=>k true
 | false=>k false
theorem boolK_eq {β:Type} (b:Bool) (k:Bool→β):boolK b k=k b:=by cases b <;> rfl
def pvK {β:Type} (x:PV) (k:PV→β):β:=match x with
 | .int ik n=>intK n fun n=>k (.int ik n)
 | .bool b=>boolK b fun b=>k (.bool b)
 | x=>k x
theorem pvK_eq {β:Type} (x:PV) (k:PV→β):pvK x k=k x:=by cases x <;> simp [pvK,intK_eq,boolK_eq]

abbrev TT:=Tr PV
abbrev HT:=Tr (List (Nat × Root))

def bits:Nat:=40
def TT.val (T:TT) (t:Nat):PV:=(T.get t).getD .undef
def asc:List (Nat × Root)→Nat→Option Root
 | [],_=>none
 | (d,rt)::l,j=>match Nat.beq d j with
  | true=>some rt
  | false=>asc l j

def ascK {β:Type}:List (Nat × Root)→Nat→Option Root→(List (Nat × Root)→β)→β
 | [],d,x,k=>match x with
  | some rt=>k [(d,rt)]
  | none=>k []
 | (d',rt')::l,d,x,k=>match Nat.beq d' d with
  | true=>ascK l d x k
  | false=>ascK l d x fun l=>k ((d',rt')::l)

theorem beq_ne {a b:Nat} (h:a≠b):Nat.beq a b=false:=by
 cases hb:Nat.beq a b with
 | false=>rfl
 | true=>exact absurd (Nat.eq_of_beq_eq_true hb) h

theorem ascK_spec {β:Type}:∀ (l:List (Nat × Root)) (d:Nat) (x:Option Root) (k:List (Nat × Root)→β),∃ l',ascK l d x k=k l'∧∀ j,asc l' j=if j=d then x else asc l j:=by
 intro l
 induction l with
 | nil =>
  intro d x k
  cases x with
  | none=>exact ⟨[],rfl,fun j=>by simp [asc]⟩
  | some rt =>
   refine ⟨[(d,rt)],rfl,fun j=>?_⟩
   by_cases h:j=d
   ·subst h;simp [asc]
   ·have:Nat.beq d j=false:=beq_ne fun e=>h e.symm
    simp [asc,this,h]
 | cons y l ih =>
  obtain ⟨d',rt'⟩:=y
  intro d x k
  cases hb:Nat.beq d' d with
  | true =>
   obtain ⟨l',h1,h2⟩:=ih d x k
   refine ⟨l',by simp only [ascK,hb];exact h1,fun j=>?_⟩
   rw [h2]
   split
   ·rfl
   ·rename_i hj
    have e:=Nat.eq_of_beq_eq_true hb
    have:Nat.beq d' j=false:=beq_ne fun e'=>hj (e'.symm.trans e)
    simp [asc,this]
  | false =>
   obtain ⟨l',h1,h2⟩:=ih d x (fun l=>k ((d',rt')::l))
   refine ⟨(d',rt')::l',by simp only [ascK,hb];exact h1,fun j=>?_⟩
   have hne:d'≠d:=fun e=>by subst e;simp at hb
   simp only [asc,h2]
   cases hb':Nat.beq d' j with
   | true =>
    have e:=Nat.eq_of_beq_eq_true hb'
    have hjd:j≠d:=fun e'=>hne (e.trans e')
    simp [hjd]
   | false=>rfl

def HT.roots (H:HT):Roots:=fun r=>match H.get r.1 with
 | some l=>asc l r.2
 | none=>none

def HT.putK {β:Type} (H:HT) (r:RId) (x:Option Root) (k:HT→β):β:=match H.get r.1 with
 | some l=>ascK l r.2 x fun l=>H.setK bits r.1 (some l) k
 | none=>ascK [] r.2 x fun l=>H.setK bits r.1 (some l) k

theorem HT.putK_spec {β:Type} (H:HT) (r:RId) (x:Option Root) (k:HT→β) (hlt:r.1<1000000000):∃ H':HT,H.putK r x k=k H'∧H'.roots=fun j=>if j=r then x else H.roots j:=by
 have key:∀ l,(∀ j,asc l j=match H.get r.1 with|some l=>asc l j|none=>none)→∃ H':HT,(ascK l r.2 x fun l=>H.setK bits r.1 (some l) k)=k H'∧H'.roots=fun j=>if j=r then x else H.roots j:=by
  intro l hl
  obtain ⟨l',h1,h2⟩:=ascK_spec l r.2 x (fun l=>H.setK bits r.1 (some l) k)
  obtain ⟨H',h3,h4⟩:=Tr.setK_spec bits H r.1 (some l') k (by unfold bits;omega)
  refine ⟨H',h1.trans h3,funext fun j=>?_⟩
  simp only [HT.roots,h4]
  by_cases e1:j.1=r.1
  ·rw [if_pos e1]
   simp only [h2]
   by_cases e2:j.2=r.2
   ·rw [if_pos e2,if_pos (Prod.ext e1 e2)]
   ·rw [if_neg e2,if_neg (fun e=>e2 (by rw [e])),hl,e1]
  ·rw [if_neg e1,if_neg (fun e=>e1 (by rw [e]))]
 unfold HT.putK
 cases hg:H.get r.1 with
 | none=>exact key [] (fun j=>by simp [hg,asc])
 | some l=>exact key l (fun j=>by simp [hg])

def A.run {β:Type}:A→HT→(PV→HT→Option β)→Option β
 | .ret x,H,k=>pvK x fun x=>k x H
 | @A.vc p d a,H,k=>match d with
  | isTrue _=>a.run H k
  | isFalse _=>none
 | .hyp _ a,H,k=>a.run H k
 | .rd r a,H,k=>(a (H.roots r)).run H k
 | .wr r x a,H,k=>match Nat.blt r.1 1000000000 with
  | false=>none
  | true=>H.putK r x fun H=>a.run H k
 | .any _,_,_=>none
 | @A.dec p d a,H,k=>match d with
  | isTrue _=>(a true).run H k
  | isFalse _=>(a false).run H k
 | .opt o a,H,k=>(a o).run H k
 | .all l a,H,k=>match l with
  | [i]=>(a i).run H k
  | _=>none
 | .fail,_,_=>none

theorem A.run_ok {β:Type} {a:A} {H:HT} {k:PV→HT→Option β} {y:β} (h:a.run H k=some y) :
  ∃ v H',k v H'=some y∧∀ hp,lkH hp=H.roots→∃ hp',lkH hp'=H'.roots∧∀ K:PV→Hp→Prop,K v hp'→a.wp hp K:=by
 induction a generalizing H with
 | ret x=>simp only [A.run,pvK_eq] at h;exact ⟨x,H,h,fun hp hh=>⟨hp,hh,fun K hk=>hk⟩⟩
 | @vc p d a ih =>
  simp only [A.run] at h
  split at h
  ·rename_i _ hp
   obtain ⟨v,H',h1,h2⟩:=ih h
   refine ⟨v,H',h1,fun hp' hh=>?_⟩
   obtain ⟨hp2,h3,h4⟩:=h2 hp' hh
   exact ⟨hp2,h3,fun K hk=>⟨hp,h4 K hk⟩⟩
  ·cases h
 | hyp p a ih =>
  obtain ⟨v,H',h1,h2⟩:=ih h
  refine ⟨v,H',h1,fun hp' hh=>?_⟩
  obtain ⟨hp2,h3,h4⟩:=h2 hp' hh
  exact ⟨hp2,h3,fun K hk _=>h4 K hk⟩
 | rd r a ih =>
  obtain ⟨v,H',h1,h2⟩:=ih _ h
  refine ⟨v,H',h1,fun hp' hh=>?_⟩
  obtain ⟨hp2,h3,h4⟩:=h2 hp' hh
  exact ⟨hp2,h3,fun K hk=>by show A.wp (a (lkH hp' r)) hp' K;rw [hh];exact h4 K hk⟩
 | wr r x a ih =>
  simp only [A.run] at h
  split at h
  ·cases h
  ·rename_i hlt
   have hlt':r.1<1000000000:=by simpa [Nat.blt_eq] using hlt
   obtain ⟨H1,e1,e2⟩:=HT.putK_spec H r x (fun H=>a.run H k) hlt'
   rw [e1] at h
   obtain ⟨v,H',h1,h2⟩:=ih h
   refine ⟨v,H',h1,fun hp hh=>?_⟩
   obtain ⟨hp2,h3,h4⟩:=h2 (setH hp r x) (by
    rw [e2]
    funext j
    rw [lookH_setH,hh])
   exact ⟨hp2,h3,fun K hk=>h4 K hk⟩
 | any k ih=>cases h
 | @dec p d a ih =>
  simp only [A.run] at h
  split at h
  ·rename_i _ hp
   obtain ⟨v,H',h1,h2⟩:=ih _ h
   refine ⟨v,H',h1,fun hp' hh=>?_⟩
   obtain ⟨hp2,h3,h4⟩:=h2 hp' hh
   exact ⟨hp2,h3,fun K hk=>by simp only [A.wp,hp,decide_true];exact h4 K hk⟩
  ·rename_i _ hp
   obtain ⟨v,H',h1,h2⟩:=ih _ h
   refine ⟨v,H',h1,fun hp' hh=>?_⟩
   obtain ⟨hp2,h3,h4⟩:=h2 hp' hh
   exact ⟨hp2,h3,fun K hk=>by simp only [A.wp,hp,decide_false];exact h4 K hk⟩
 | opt o a ih=>exact ih _ h
 | all l a ih =>
  rcases l with _|⟨i,_|⟨j,l⟩⟩
  ·cases h
  ·obtain ⟨v,H',h1,h2⟩:=ih i (H:=H) h
   refine ⟨v,H',h1,fun hp' hh=>?_⟩
   obtain ⟨hp2,h3,h4⟩:=h2 hp' hh
   exact ⟨hp2,h3,fun K hk j hj=>by simp only [List.mem_singleton] at hj;subst hj;exact h4 K hk⟩
  ·cases h
 | fail=>cases h
end Go.Ab
namespace Go.Ab

def small (T:TT):List Operand→Tm
 | []=>[]
 | .tmp t::l=>(t,T.val t)::small T l
 | _::l=>small T l

def evX (T:TT):Operand→PV
 | .tmp t=>T.val t
 | x=>ev [] x

def guardX (all:List Oper) (T:TT):Option (Nat × Bool)→Option Bool
 | none=>some true
 | some (j,want)=>match (all[j]?).bind (·.dst) with
  | some d=>match T.val d with
   | .bool b=>some (b == want)
   | .whn true (.bool b)=>some (b == want)
   | .whn false (.bool _)=>some false
   | .whn true (.whn true (.bool b))=>some (b == want)
   | .whn false (.whn _ (.bool _))=>some false
   | .whn true (.whn false (.bool _))=>some false
   | _=>none
  | none=>none

def putX {β:Type} (T:TT) (d:Option Tmp) (x:PV) (k:TT→β):β:=match d with
 | some d=>T.setK bits d (some x) k
 | none=>k T

/-! The operations,each by itself: what is unfolded stays small -/
abbrev KOp:=Program→RId→Nat→Tm→A
def kFail:KOp:=fun _ _ _ _ => .fail
def kMove (x:Operand):KOp:=fun _ _ _ tm => .ret (ev tm x)
def kPick (c a b:Operand):KOp:=fun _ _ _ tm=>opnd tm c fun c=>pickA c (ev tm a) (ev tm b)
def kAlloc (t:TypeId):KOp:=fun P id ver _=>allocA P id ver t
def kBox (x:Operand):KOp:=fun _ id ver tm=>opnd tm x fun v=>boxA id ver v
def kBuild (t:TypeId) (ps:Array (Nat × Operand)):KOp:=fun P _ _ tm=>parts tm ps.toList fun l=>buildA P t l
def kBuildSlice (t:TypeId) (n:Nat) (ps:Array (Nat × Operand)):KOp:=fun P id ver tm=>parts tm ps.toList fun l=>buildSliceA P id ver t n l
def kLoad (t:TypeId) (a:Operand):KOp:=fun P _ _ tm=>opnd tm a fun v=>loadA P t v
def kStore (t:TypeId) (a x:Operand):KOp:=fun P _ _ tm=>opnd tm a fun v=>opnd tm x fun u=>storeA P t v u
def kNil (x:Operand):KOp:=fun _ _ _ tm=>opnd tm x fun v=>nilCheckA v
def kBin (op:BinOp) (t:TypeId) (x y:Operand):KOp:=fun P _ _ tm=>opnd tm x fun v=>opnd tm y fun u=>binT P t op v u
def kUn (op:UnOp) (x:Operand):KOp:=fun _ _ _ tm=>opnd tm x fun v=>unA op v
def kFunc (fn:Fn) (first captured:Array Operand):KOp:=fun _ _ _ tm=>opnds tm first.toList fun l=>opnds tm captured.toList fun l' => .ret (.func fn l l')
def kMakeSlice (t:TypeId) (l c:Operand):KOp:=fun P id ver tm=>opnd tm l fun v=>opnd tm c fun u=>makeSliceA P id ver t v u
def kFieldAddr (t:TypeId) (x:Operand) (f:Nat):KOp:=fun P _ _ tm=>opnd tm x fun v=>fieldAddrA P t f v
def kIndexAddr (t:TypeId) (x i:Operand):KOp:=fun P _ _ tm=>opnd tm x fun v=>opnd tm i fun u=>indexAddrA P t v u
def kExtract (x:Operand) (i:Nat):KOp:=fun _ _ _ tm=>opnd tm x fun v=>extractA i v
def kSlice (t:TypeId) (x:Operand) (lo hi mx:Option Operand):KOp:=fun P _ _ tm=>opnd tm x fun v=>opndO tm lo fun l=>opndO tm hi fun h=>opndO tm mx fun m=>sliceA P t v l h m
def kConv (s d:TypeId) (x:Operand):KOp:=fun P _ _ tm=>opnd tm x fun v=>convA P s d v
def kField (t:TypeId) (x:Operand) (f:Nat):KOp:=fun P _ _ tm=>opnd tm x fun v=>fieldA P t f v
def kIndex (t:TypeId) (x y:Operand):KOp:=fun P _ _ tm=>opnd tm x fun v=>opnd tm y fun u=>indexA P t v u
def kLookup (t:TypeId) (x y:Operand) (ok:Bool):KOp:=fun P _ _ tm=>opnd tm x fun v=>opnd tm y fun u=>lookupA P t ok v u
def kMapUpdate (t:TypeId) (m k x:Operand):KOp:=fun P _ _ tm=>opnd tm m fun v=>opnd tm k fun u=>opnd tm x fun y=>mapUpdateA P t v u y
def kMakeMap (t:TypeId) (r:Option Operand):KOp:=fun P id ver tm=>opndO tm r fun v=>makeMapA P id ver t v
def kRange (t:TypeId) (x:Operand):KOp:=fun P id ver tm=>opnd tm x fun v=>rangeA P id ver t v
def kNext (x:Operand) (str:Bool):KOp:=fun _ _ _ tm=>opnd tm x fun v=>nextA str v
def kEntry (x:Operand):KOp:=fun _ _ _ tm=>opnd tm x fun v=>entryA v
def kLen (args:List Operand) (types:List TypeId):KOp:=fun P id ver tm=>match args with
 | [x]=>match types with
  | [t]=>opnd tm x fun v=>lenT P t v
  | _ => .fail
 | _ => .fail
def kCap (args:List Operand) (types:List TypeId):KOp:=fun P id ver tm=>match args with
 | [x]=>match types with
  | [t]=>opnd tm x fun v=>capA P t v
  | _ => .fail
 | _ => .fail
def kAppend (args:List Operand) (types:List TypeId):KOp:=fun P id ver tm=>match args with
 | [x,y]=>match types with
  | [t,t']=>if t=t' then opnd tm x fun v=>opnd tm y fun u=>appendU P id ver t v u else opnd tm x fun v=>opnd tm y fun u=>appendZA P id ver t t' v u
  | _ => .fail
 | _ => .fail
def kMax (args:List Operand) (types:List TypeId):KOp:=fun P id ver tm=>match args with
 | [x,y]=>opnd tm x fun v=>opnd tm y fun u=>maxA v u
 | _ => .fail
def kMin (args:List Operand) (types:List TypeId):KOp:=fun P id ver tm=>match args with
 | [x,y]=>opnd tm x fun v=>opnd tm y fun u=>minA v u
 | _ => .fail
def kClear (args:List Operand) (types:List TypeId):KOp:=fun P id ver tm=>match args with
 | [x]=>match types with
  | [t]=>opnd tm x fun v=>clearA P t v
  | _ => .fail
 | _ => .fail
def kCopy (args:List Operand) (types:List TypeId):KOp:=fun P id ver tm=>match args with
 | [x,y]=>match types with
  | [t,t']=>if t=t' then opnd tm x fun v=>opnd tm y fun u=>copyA P t v u else .fail
  | _ => .fail
 | _ => .fail
def kBuiltin (b:Builtin) (args:List Operand) (types:List TypeId):KOp:=match b with
 | .len=>kLen args types
 | .cap=>kCap args types
 | .append=>kAppend args types
 | .max=>kMax args types
 | .min=>kMin args types
 | .clear=>kClear args types
 | .copy=>kCopy args types
 | _=>kFail
def kCall (c:Call):KOp:=match c with
 | { callee := .builtin b,args,argTypes }=>kBuiltin b args.toList argTypes.toList
 | _=>kFail
def opK (o:Op):KOp:=match o with
 | .move x=>kMove x
 | .assign x=>kMove x
 | .pick c a b=>kPick c a b
 | .alloc t=>kAlloc t
 | .box _ x=>kBox x
 | .build t ps=>kBuild t ps
 | .buildSlice t n ps=>kBuildSlice t n ps
 | .load t a=>kLoad t a
 | .store t a x=>kStore t a x
 | .nilCheck x=>kNil x
 | .binOp op t x y _=>kBin op t x y
 | .unOp op _ x=>kUn op x
 | .makeFunc fn first captured=>kFunc fn first captured
 | .makeSlice t l c=>kMakeSlice t l c
 | .fieldAddr t x f=>kFieldAddr t x f
 | .indexAddr t x i=>kIndexAddr t x i
 | .extract x i=>kExtract x i
 | .call c=>kCall c
 | .slice t x lo hi mx=>kSlice t x lo hi mx
 | .convert s d x=>kConv s d x
 | .field t x f=>kField t x f
 | .index t x y=>kIndex t x y
 | .lookup t x y ok=>kLookup t x y ok
 | .mapUpdate t m k x=>kMapUpdate t m k x
 | .makeMap t r=>kMakeMap t r
 | .range t x=>kRange t x
 | .next x str=>kNext x str
 | .entry x=>kEntry x
 | _=>kFail
theorem kBuiltin_eq (P:Program) (id:RId) (ver:Nat) (tm:Tm) (b:Builtin) (args:List Operand) (types:List TypeId):kBuiltin b args types P id ver tm=builtinA P id ver tm b args types:=by
 unfold kBuiltin
 split <;> first
  | (unfold builtinA;rcases args with _|⟨x,_|⟨y,_|⟨z,args⟩⟩⟩ <;> rcases types with _|⟨t,_|⟨t',_|⟨t2,types⟩⟩⟩ <;> rfl)
  | (unfold builtinA kFail;split <;> first|rfl|(rename_i h1 h2 h3 h4 h5 h6 h7;simp_all;done))
theorem opK_eq (P:Program) (id:RId) (ver:Nat) (tm:Tm) (o:Op):opK o P id ver tm=opB P id ver tm o:=by
 cases o with
 | call c =>
  obtain ⟨cal,args,at_⟩:=c
  cases cal with
  | builtin b=>exact kBuiltin_eq ..
  | _=>rfl
 | _=>rfl
def opAK (P:Program) (lv ver:Nat) (tm:Tm) (o:Oper):A:=opK o.op P (lv,o.dst.getD 0) ver tm
theorem opAK_eq (P:Program) (lv ver:Nat) (tm:Tm) (o:Oper):opAK P lv ver tm o=opA P lv ver tm o:=opK_eq ..

abbrev CallX (β:Type):=FuncId→List PV→HT→Nat→(PV→HT→Nat→Option β)→Option β
abbrev YieldX (β:Type):=RId→Nat→List PV→HT→Nat→(PV→HT→Nat→Option β)→Option β

def opsX {β:Type} (P:Program) (call:CallX β) (yl:YieldX β) (all:List Oper):List Oper→TT→HT→Nat→(TT→HT→Nat→Option β)→Option β
 | [],T,H,nv,k=>k T H nv
 | o::os,T,H,nv,k=>match guardX all T o.guard with
  | none=>none
  | some false=>putX T o.dst (.whn false (.bool false)) fun T=>natK (nv+1) fun nv=>opsX P call yl all os T H nv k
  | some true=>match isCall o.op with
   | true=>match calleeO (small T o.op.operands.toList) o.op with
    | some (f,az)=>call f az H nv fun x H nv'=>putX T o.dst x fun T=>natK (nv'+1) fun nv=>opsX P call yl all os T H nv k
    | none=>match yieldO (small T o.op.operands.toList) o.op with
     | some (r,v,az)=>yl r v az H nv fun x H nv'=>putX T o.dst x fun T=>natK (nv'+1) fun nv=>opsX P call yl all os T H nv k
     | none=>none
   | false=>(opAK P (nv+1) nv (small T o.op.operands.toList) o).run H fun x H=>putX T o.dst x fun T=>natK (nv+1) fun nv=>opsX P call yl all os T H nv k

/-! Drawn regions: in the text's order,each operation looking only at what its place in the order lets it -/
def unord (ms:List Nat) (x i:Nat):Bool:=!((ms.getD i 0).testBit x)&&!((ms.getD x 0).testBit i)&&!(Nat.beq x i)
def strongOf:Op→Bool
 | .call { callee := .builtin .append,.. } | .call { callee := .builtin .copy,.. } | .call { callee := .builtin .clear,.. } | .mapUpdate .. | .range .. | .next ..=>true
 | _=>false
def traceW (all:List Oper):Nat→Nat→Option (List Nat)
 | 0,_=>none
 | n+1,t=>match all.find? (fun o=>match o.dst with|some d=>Nat.beq d t|none=>false) with
  | some o=>match o.op with
   | .move (.tmp s) | .assign (.tmp s)=>traceW all n s
   | .buildSlice .. | .makeSlice ..=>some [t]
   | .build _ ps=>some (ps.toList.flatMap fun x=>match x.2 with
    | .tmp s=>(traceW all n s).getD []
    | _=>[])
   | .call c=>match c.callee with
    | .builtin .append=>match c.args.toList with
     | .tmp s::_=>(traceW all n s).map (t::·)
     | _=>none
    | _=>some [t]
   | _=>none
  | none=>none
def traceP (all:List Oper):Nat→Nat→Option Nat
 | 0,_=>none
 | n+1,t=>match all.find? (fun o=>match o.dst with|some d=>Nat.beq d t|none=>false) with
  | some o=>match o.op with
   | .alloc _ | .box ..=>some t
   | .fieldAddr _ (.tmp s) _=>traceP all n s
   | _=>none
  | none=>none
def wideOf (all:List Oper) (o:Oper):Bool × List Nat:=match strongOf o.op with
 | true=>match o.op with
  | .call c=>match c.callee with
   | .builtin .append=>match c.args.toList with
    | .tmp s::_=>match traceW all 20 s with
     | some l=>(false,l)
     | none=>(true,[])
    | _=>(true,[])
   | _=>(true,[])
  | _=>(true,[])
 | false=>match o.op with
  | .buildSlice _ _ ps=>(false,ps.toList.flatMap fun x=>match x.2 with
   | .tmp s=>(traceW all 20 s).getD []
   | _=>[])
  | .store _ (.tmp s) _=>match traceP all 20 s with
   | some d=>(false,[d])
   | none=>(false,[])
  | _=>(false,[])
def flagsOf (all:List Oper) (ms:List Nat):List Fl:=all.zipIdx.map fun (o,i)=>((all.zipIdx.filter fun (_,x)=>unord ms x i).flatMap fun (o,_)=>wrOf ([],wideOf all o) o,wideOf all o)

def A.runD {β:Type} (lv:Nat) (fb:List Nat) (w:Bool) (ws:List Nat):A→HT→(PV→HT→Option β)→Option β
 | .ret x,H,k=>pvK x fun x=>k x H
 | @A.vc p dp a,H,k=>match dp with
  | isTrue _=>a.runD lv fb w ws H k
  | isFalse _=>none
 | .hyp _ a,H,k=>a.runD lv fb w ws H k
 | .rd r a,H,k=>match Nat.beq r.1 lv&&fb.contains r.2 with
  | true=>none
  | false=>(a (H.roots r)).runD lv fb w ws H k
 | .wr r x a,H,k=>match w||(Nat.beq r.1 lv&&ws.contains r.2) with
  | false=>none
  | true=>match Nat.blt r.1 1000000000 with
   | false=>none
   | true=>H.putK r x fun H=>a.runD lv fb w ws H k
 | .any _,_,_=>none
 | @A.dec p dp a,H,k=>match dp with
  | isTrue _=>(a true).runD lv fb w ws H k
  | isFalse _=>(a false).runD lv fb w ws H k
 | .opt o a,H,k=>(a o).runD lv fb w ws H k
 | .all ..,_,_=>none
 | .fail,_,_=>none

def viewR:Nat→Roots→PV→PV
 | 0,_,_ => .undef
 | k+1,hp,x=>match x with
  | .ref r ver p sz lo hi=>match hp r with
   | some rt=>if rt.ver=ver then match getAt rt.node p with
    | .own _ _ f => .frz sz (hi - lo) fun i o=>viewR k hp (f (lo+i) o)
    | _ => .undef
    else .undef
   | none => .undef
  | .ptr r ver p i o=>match hp r with
   | some rt=>if rt.ver=ver then match getAt rt.node p with
    | .own sz _ f => .fptr sz (fun j=>viewR k hp (f i j)) o
    | .obox sz c => .fptr sz (fun j=>viewR k hp (c j)) o
    | _ => .undef
    else .undef
   | none => .undef
  | .own sz n f => .frz sz n fun i o=>viewR k hp (f i o)
  | .obox _ _ => .undef
  | .agg l => .agg (l.map (viewR k hp))
  | .tup l => .tup (l.map (viewR k hp))
  | .func fn l l' => .func fn (l.map (viewR k hp)) (l'.map (viewR k hp))
  | .iface t v => .iface t (viewR k hp v)
  | .whn g v => .whn g (viewR k hp v)
  | .sref q r ver=>match q,hp r with
   | .map,some rt=>if rt.ver=ver then match rt.node with
    | .omap es _ _ => .fmap (es.map fun e=>(viewR k hp e.1,viewR k hp e.2))
    | _ => .undef
    else .undef
   | _,_ => .undef
  | x=>x

theorem viewR_eq (k:Nat) (hp:Hp) (x:PV):viewR k (lkH hp) x=view k hp x:=by
 induction k generalizing x with
 | zero=>rfl
 | succ k ih =>
  have e:viewR k (lkH hp)=view k hp:=funext ih
  unfold viewR view
  rw [e]
  rfl

def leafB:PV→Bool
 | .int .. | .bool _ | .str _ | .nilp | .nilf | .nilm | .nili | .nils=>true
 | _=>false
def leafLB:PV→Bool
 | .tup l=>l.all leafB
 | .agg l=>l.all leafB
 | x=>leafB x
def plainB:PV→Bool
 | .int .. | .bool _ | .str _ | .nilp | .nilf | .nilm | .nili | .nils | .frz .. | .fptr .. | .fcl .. | .fmap ..=>true
 | _=>false
def plainLB:PV→Bool
 | .agg l=>l.all plainB
 | .func _ l l'=>l.all plainB&&l'.all plainB
 | x=>plainB x

def ownX {β:Type} (x:PV) (H:HT) (k:Nat→Nat→(Nat→Nat→PV)→Option β):Option β:=match x with
 | .ref r v p sz lo hi=>match p with
  | []=>match H.roots r with
   | some ⟨v',node⟩=>match node with
    | .own sz' n g=>match Nat.beq v' v&&Nat.beq sz' sz&&Nat.beq hi n&&Nat.beq lo 0&&(List.range n).all fun i=>(List.range sz).all fun o=>leafB (g i o) with
     | true=>k sz' n fun i o=>match Nat.blt o sz' with
      | true=>g i o
      | false => .undef
     | false=>none
    | _=>none
   | none=>none
  | _=>none
 | _=>none

def quietX {β:Type} (call:CallX β) (fb:List Nat) (id:RId) (ver:Nat) (f:FuncId) (az:List PV) (H:HT) (k:PV→HT→Option β):Option β :=
 match az.all plainLB with
 | true=>call f az .nil 0 fun x H1 _=>match leafLB x with
  | true=>k x H
  | false=>k (viewR 9 H1.roots x) H
 | false=>match fb with
  | []=>call f (az.map (viewR 9 H.roots)) .nil 0 fun x H1 _=>match leafLB x with
   | true=>k x H
   | false=>ownX x H1 fun sz n g=>match Nat.blt id.1 1000000000 with
    | true=>H.putK id (some ⟨ver,.own sz n g⟩) fun H=>k (.ref id ver [] sz 0 n) H
    | false=>none
  | _=>none

def drawX {β:Type} (P:Program) (call:CallX β) (lv:Nat) (all:List Oper):List Oper→List Fl→TT→HT→Nat→(TT→HT→Nat→Option β)→Option β
 | [],_,T,H,nv,k=>k T H nv
 | o::os,fls,T,H,nv,k=>match guardX all T o.guard with
  | none=>none
  | some false=>putX T o.dst (match changes o.op with|true => .undef|false => .whn false (.bool false)) fun T=>natK (nv+1) fun nv=>drawX P call lv all os fls.tail T H nv k
  | some true=>match isCall o.op with
   | true=>match calleeO (small T o.op.operands.toList) o.op with
    | some (f,az)=>quietX call (fls.headD default).1 (lv,o.dst.getD 0) nv f az H fun x H=>putX T o.dst x fun T=>natK (nv+1) fun nv=>drawX P call lv all os fls.tail T H nv k
    | none=>none
   | false=>(opAK P lv nv (small T o.op.operands.toList) o).runD lv (fls.headD default).1 ((fls.headD default).2.1||kind3w (fls.headD default).2.2 o.op) (wrOf (fls.headD default) o) H fun x H =>
     putX T o.dst (match changes o.op,o.guard with|false,some _ => .whn true x|_,_=>x) fun T=>natK (nv+1) fun nv=>drawX P call lv all os fls.tail T H nv k

def okCode (nt:Nat):Code→Bool
 | .region _ ops _=>(ops.toList.all fun o=>dstOK nt o.dst)&&ops.toList.all fun o=>(usesT ops.toList o).all fun t=>Nat.blt t nt
 | .seq x y=>okCode nt x&&okCode nt y
 | .cond _ x y=>okCode nt x&&okCode nt y
 | .block _ c=>okCode nt c
 | .loop c=>okCode nt c
 | .scope c=>okCode nt c
 | .rangeFunc _ _ x y=>okCode nt x&&okCode nt y
 | _=>true

def lensGo (ms:List Nat):Nat→Nat→Nat→List Nat
 | 0,_,_=>[]
 | r+1,e,last=>match cutB ms e with
  | true=>(e - last)::lensGo ms r (e+1) e
  | false=>lensGo ms r (e+1) last
def lensOf (ms:List Nat) (n:Nat):List Nat:=lensGo ms n 1 0
def regionOK (ops:List Oper):Bool:=match drawOK ops (flagsOf ops (masksGo ops [])) (masksGo ops []) with
 | true=>cutsOK (masksGo ops []) ops.length 0 (lensOf (masksGo ops []) ops.length)
 | false=>false

def segX {β:Type} (P:Program) (call:CallX β) (yl:YieldX β) (lv:Nat) (all:List Oper):Nat→List Nat→List Oper→List Fl→TT→HT→Nat→(TT→HT→Nat→Option β)→Option β
 | _,[],_,_,T,H,nv,k=>k T H nv
 | s,n::ns,os,fls,T,H,nv,k=>match n with
  | 1=>match os with
   | o::os=>opsX P call yl all [o] T H nv fun T H nv=>segX P call yl lv all (s+1) ns os fls.tail T H nv k
   | []=>none
  | n=>natK (nv+s) fun nv=>drawX P call lv all (os.take n) fls T H nv fun T H nv=>segX P call yl lv all (s+n) ns (os.drop n) (fls.drop n) T H nv k

def pendX {β:Type} (pend:Option Code) (k:Exit→Option β):Option β:=match pend with
 | none=>k .normal
 | some c=>match c with
  | .ret=>k .ret
  | .exit i=>k (.exit i)
  | .goto t=>k (.goto t)
  | _=>none

def loopX {β:Type} (H:HT) (r:RId) (v:Nat) (k:LoopState→Option Code→Nat→Array Tmp→Code→Code→(Nat→PV)→Option β):Option β:=match H.roots r with
 | some ⟨v',node⟩=>match Nat.beq v' v with
  | true=>match node with
   | .oloop ⟨st,pend,nt,ps,asg,body⟩ c=>k st pend nt ps asg body c
   | _=>none
  | false=>none
 | none=>none

def putLX {β:Type} (H:HT) (r:RId) (v:Nat) (st:LoopState) (pend:Option Code) (nt:Nat) (ps:Array Tmp) (asg body:Code) (c:Nat→PV) (k:HT→Option β):Option β :=
 match Nat.blt r.1 1000000000 with
 | true=>H.putK r (some ⟨v,.oloop ⟨st,pend,nt,ps,asg,body⟩ c⟩) k
 | false=>none

def codeX {β:Type} (P:Program) (call:CallX β) (yl:YieldX β) (rg:Bool) (nt:Nat):Nat→Option Code→Code→TT→HT→Nat→(Exit→TT→HT→Nat→Option β)→Option β
 | 0,_,_,_,_,_,_=>none
 | n+1,some s,c,T,H,nv,k=>codeX P call yl rg nt n none c T H nv fun e T H nv=>match e with
  | .goto l=>match findLabel s l with
   | some rest=>codeX P call yl rg nt n (some s) rest T H nv k
   | none=>none
  | e=>k e T H nv
 | n+1,none,c,T,H,nv,k=>match c with
  | .skip=>k .normal T H nv
  | .label _=>k .normal T H nv
  | .exit i=>k (.exit i) T H nv
  | .goto i=>k (.goto i) T H nv
  | .ret=>k .ret T H nv
  | .region _ ops false=>opsX P call yl ops.toList ops.toList T H nv fun T H nv=>k .normal T H nv
  | .region _ ops true=>match regionOK ops.toList with
   | true=>natK (nv+1) fun lv=>segX P call yl lv ops.toList 0 (lensOf (masksGo ops.toList []) ops.toList.length) ops.toList (flagsOf ops.toList (masksGo ops.toList [])) T H nv fun T H nv=>k .normal T H nv
   | false=>none
  | .seq x y=>codeX P call yl rg nt n none x T H nv fun e T H nv=>match e with
   | .normal=>codeX P call yl rg nt n none y T H nv k
   | e=>k e T H nv
  | .cond c x y=>match evX T c with
   | .bool true=>codeX P call yl rg nt n none x T H nv k
   | .bool false=>codeX P call yl rg nt n none y T H nv k
   | _=>none
  | .block id b=>codeX P call yl rg nt n none b T H nv fun e T H nv=>match e with
   | .exit i=>match Nat.beq i id with
    | true=>k .normal T H nv
    | false=>k (.exit i) T H nv
   | e=>k e T H nv
  | .loop b=>codeX P call yl rg nt n none b T H nv fun e T H nv=>match e with
   | .normal=>codeX P call yl rg nt n none (.loop b) T H nv k
   | e=>k e T H nv
  | .scope b=>codeX P call yl rg nt n (some b) b T H nv k
  | .rangeFunc g ps asg body=>match rg with
   | true=>match evX T g with
    | .func (.func f) first caps=>natK (nv+1) fun lv=>putLX H (lv,999999) nv .ready none nt ps asg body (TT.val T) fun H =>
      call f (first++[.sref .loop (lv,999999) nv]++caps) H lv fun _ H nv'=>loopX H (lv,999999) nv fun st pend nt' ps' asg' body' c=>match st with
       | .busy=>none
       | _=>putLX H (lv,999999) nv .exhausted pend nt' ps' asg' body' c fun H=>pendX pend fun e=>k e T H nv'
    | _=>none
   | false=>none
  | _=>none

def tabX {β:Type}:Nat→(Nat→PV)→TT→(TT→β)→β
 | 0,_,T,k=>k T
 | n+1,c,T,k=>pvK (c n) fun x=>T.setK bits n (some x) fun T=>tabX n c T k

def setX {β:Type}:List Tmp→List PV→TT→(TT→β)→β
 | p::ps,x::xs,T,k=>T.setK bits p (some x) fun T=>setX ps xs T k
 | _,_,T,k=>k T

def endX {β:Type} (r:RId) (v:Nat) (st:LoopState) (pend:Option Code) (b:Bool) (H:HT) (nv:Nat) (k:PV→HT→Nat→Option β):Option β :=
 loopX H r v fun _ _ nt ps asg body c=>putLX H r v st pend nt ps asg body c fun H=>k (.bool b) H nv

def roundX {β:Type} (P:Program) (call:CallX β) (yl:YieldX β) (fuel:Nat):YieldX β:=fun r v az H nv k=>loopX H r v fun st _ nt ps asg body c=>match st with
 | .ready=>match Nat.beq az.length ps.size&&Nat.blt nt 1000000&&okCode nt asg&&okCode nt body&&ps.toList.all fun p=>Nat.blt p nt with
  | true=>tabX nt c .nil fun T=>setX ps.toList az T fun T=>codeX P call yl false nt fuel none asg T H nv fun e T H nv=>match e with
   | .normal=>loopX H r v fun st pend nt' ps asg body' c=>match st with
    | .ready=>putLX H r v .busy pend nt' ps asg body' c fun H=>codeX P call yl false nt fuel none body T H nv fun e _ H nv=>match e with
     | .normal=>endX r v .ready none true H nv k
     | .ret=>endX r v .done (some .ret) false H nv k
     | .exit i=>endX r v .done (some (.exit i)) false H nv k
     | .goto t=>endX r v .done (some (.goto t)) false H nv k
     | _=>none
    | _=>none
   | _=>none
  | false=>none
 | _=>none

def yieldsX {β:Type} (P:Program) (call:CallX β):Nat→YieldX β
 | 0=>fun _ _ _ _ _ _=>none
 | m+1=>roundX P call (yieldsX P call m) 1000000

def paramsX {β:Type}:Nat→List PV→TT→(TT→β)→β
 | _,[],T,k=>k T
 | i,x::l,T,k=>T.setK bits i (some x) fun T=>paramsX (i+1) l T k

def resOps (fn:Func):List Operand:=fn.results.toList.map fun
 | .tmp t => .tmp t
 | .cell a _ => .tmp a

def funW {β:Type} (ov:CallX β→CallX β) (P:Program):Nat→CallX β
 | 0,_,_,_,_,_=>none
 | n+1,f,args,H,nv,k=>match P.funcs[f]? with
  | some fn=>match fn.body with
   | some c=>match Nat.ble args.length fn.ntmps with
    | true=>paramsX 0 args .nil fun T=>codeX P (ov (funW ov P n)) (yieldsX P (ov (funW ov P n)) 10) true fn.ntmps 1000000 none c T H nv fun e T H nv=>match e with
     | .normal=>(resultsA P (small T (resOps fn)) fn.results.toList).run H fun x H=>k x H nv
     | .ret=>(resultsA P (small T (resOps fn)) fn.results.toList).run H fun x H=>k x H nv
     | _=>none
    | false=>none
   | none=>none
  | none=>none
def funX {β:Type} (P:Program):Nat→CallX β:=funW (fun c=>c) P
end Go.Ab
namespace Go.Ab
open Classical

/-! ### Made whole -/
def fz (x:PV) (k:PV→Prop):Prop:=match x with
 | .undef=>k .undef | .int ik n=>k (.int ik n) | .bool b=>k (.bool b) | .str s=>k (.str s) | .nilp=>k .nilp | .nilf=>k .nilf | .nilm=>k .nilm | .nili=>k .nili | .nils=>k .nils
 | .agg l=>k (.agg l) | .tup l=>k (.tup l) | .whn g v=>k (.whn g v) | .frz sz n f=>k (.frz sz n f) | .fptr sz c o=>k (.fptr sz c o) | .own sz n f=>k (.own sz n f)
 | .obox sz c=>k (.obox sz c) | .ref r v p sz lo hi=>k (.ref r v p sz lo hi) | .ptr r v p i o=>k (.ptr r v p i o) | .func fn l l'=>k (.func fn l l') | .iface t v=>k (.iface t v)
 | .fcl sz n f=>k (.fcl sz n f) | .sref q r v=>k (.sref q r v) | .fmap es=>k (.fmap es) | .omap es bs cl=>k (.omap es bs cl) | .oiter m s e l=>k (.oiter m s e l) | .oloop i c=>k (.oloop i c)
theorem fz_eq (x:PV) (k:PV→Prop):fz x k=k x:=by cases x <;> rfl

def nz (n:Nat) (k:Nat→Prop):Prop:=match n with
 | 0=>k 0
 | m+1=>k (m+1)
theorem nz_eq (n:Nat) (k:Nat→Prop):nz n k=k n:=by cases n <;> rfl

def nodeZ (x:PV) (k:PV→Prop):Prop:=match x with
 | .own sz n f=>∃ y,NEq (.own sz n f) y∧shapeOf y=some (true,sz,n)∧k y
 | .obox sz c=>k (.obox sz c)
 | .omap es bs cl=>∃ y,.omap es bs cl=y∧k y
 | .oiter m s e l=>∃ y,.oiter m s e l=y∧k y
 | .oloop i c=>k (.oloop i c)
 | _=>False

/-! ### Roots: what is known one by one,and the rest -/
def lkS:Hp→RId→Option Root
 | [],_=>none
 | ((a,b),v)::l,(c,d)=>match Nat.beq a c with
  | true=>match Nat.beq b d with
   | true=>some v
   | false=>lkS l (c,d)
  | false=>lkS l (c,d)

theorem lkS_eq (l:Hp) (r:RId):lkS l r=lkH l r:=by
 induction l with
 | nil=>rfl
 | cons x l ih =>
  obtain ⟨⟨a,b⟩,v⟩:=x
  obtain ⟨c,d⟩:=r
  simp only [lkS,lkH]
  cases h1:Nat.beq a c with
  | true =>
   have e1:=Nat.eq_of_beq_eq_true h1
   cases h2:Nat.beq b d with
   | true=>have e2:=Nat.eq_of_beq_eq_true h2;subst e1 e2;simp
   | false =>
    have e2:b≠d:=fun e=>by subst e;simp at h2
    simp only [ih]
    rw [if_neg (by intro e;exact e2 (congrArg Prod.snd e).symm)]
  | false =>
   have e1:a≠c:=fun e=>by subst e;simp at h1
   simp only [ih]
   rw [if_neg (by intro e;exact e1 (congrArg Prod.fst e).symm)]

def delS:Hp→RId→(Hp→Prop)→Prop
 | [],_,k=>k []
 | ((a,b),v)::l,(c,d),k=>match Nat.beq a c with
  | true=>match Nat.beq b d with
   | true=>delS l (c,d) k
   | false=>delS l (c,d) fun l=>k (((a,b),v)::l)
  | false=>delS l (c,d) fun l=>k (((a,b),v)::l)

theorem delS_spec:∀ (l:Hp) (r:RId) (k:Hp→Prop),∃ l',delS l r k=k l'∧∀ j,lkH l' j=if j=r then none else lkH l j:=by
 intro l
 induction l with
 | nil=>intro r k;exact ⟨[],rfl,fun j=>by simp [lkH]⟩
 | cons x l ih =>
  obtain ⟨⟨a,b⟩,v⟩:=x
  intro r k
  obtain ⟨c,d⟩:=r
  have other:(a,b)≠(c,d)→delS (((a,b),v)::l) (c,d) k=delS l (c,d) (fun l=>k (((a,b),v)::l))→∃ l',delS (((a,b),v)::l) (c,d) k=k l'∧∀ j,lkH l' j=if j=(c,d) then none else lkH (((a,b),v)::l) j:=by
   intro hne he
   obtain ⟨l',h1,h2⟩:=ih (c,d) (fun l=>k (((a,b),v)::l))
   refine ⟨_,he.trans h1,fun j=>?_⟩
   simp only [lkH,h2]
   by_cases hj:j=(c,d)
   ·subst hj;rw [if_neg (Ne.symm hne)];simp
   ·simp [hj]
  cases h1:Nat.beq a c with
  | true =>
   have e1:=Nat.eq_of_beq_eq_true h1
   cases h2:Nat.beq b d with
   | true =>
    have e2:=Nat.eq_of_beq_eq_true h2
    subst e1 e2
    obtain ⟨l',h3,h4⟩:=ih (a,b) k
    refine ⟨l',by simp only [delS,h1,h2];exact h3,fun j=>?_⟩
    rw [h4]
    simp only [lkH]
    split <;> rfl
   | false=>exact other (fun e=>by cases e;simp at h2) (by simp only [delS,h1,h2])
  | false=>exact other (fun e=>by cases e;simp at h1) (by simp only [delS,h1])

def Rep (S L hp:Hp):Prop:=∀ r,lkH hp r=match lkS L r with|some x=>some x|none=>lkH S r

theorem Rep.mk' (S L:Hp):Rep S L (L++S):=by
 intro r
 rw [lkS_eq]
 induction L with
 | nil=>rfl
 | cons x l ih =>
  obtain ⟨k,v⟩:=x
  simp only [List.cons_append,lkH]
  by_cases h:r=k
  ·rw [if_pos h,if_pos h]
  ·rw [if_neg h,if_neg h];exact ih

theorem Rep.put {S L hp:Hp} (h:Rep S L hp) {r:RId} {x:Root} {L':Hp} (hL:∀ j,lkH L' j=if j=r then none else lkH L j):Rep S ((r,x)::L') (setH hp r (some x)):=by
 intro j
 rw [lookH_setH,lkS_eq]
 simp only [lkH]
 by_cases hj:j=r
 ·rw [if_pos hj,if_pos hj]
 ·rw [if_neg hj,if_neg hj,hL,if_neg hj,h j,lkS_eq]

theorem Rep.del {S L hp:Hp} (h:Rep S L hp) {r:RId} {L':Hp} (hr:lkH S r=none) (hL:∀ j,lkH L' j=if j=r then none else lkH L j):Rep S L' (setH hp r none):=by
 intro j
 rw [lookH_setH,lkS_eq,hL]
 by_cases hj:j=r
 ·subst hj;rw [if_pos rfl,if_pos rfl];simp [hr]
 ·rw [if_neg hj,if_neg hj,h j,lkS_eq]

def retOf:A→Option PV
 | .ret x=>some x
 | _=>none
theorem retOf_some {a:A} {x:PV} (h:retOf a=some x):a = .ret x:=by
 cases a <;> first|(cases h;rfl)|cases h

def A.wpS (S:Hp):A→Hp→(PV→Hp→Prop)→Prop
 | .ret x,L,K=>fz x fun x=>K x L
 | @A.vc p _ k,L,K=>p∧A.wpS S k L K
 | .hyp p k,L,K=>p→A.wpS S k L K
 | .rd r k,L,K=>match lkS L r with
  | some x=>A.wpS S (k (some x)) L K
  | none=>A.wpS S (k (lkH S r)) L K
 | .wr (lv,d) (some ⟨v,x⟩) k,L,K=>nz d fun d=>fz x fun x=>match retOf k with
  | some y=>nodeZ x fun x=>delS L (lv,d) fun L=>fz y fun y=>K y (((lv,d),⟨v,x⟩)::L)
  | none=>delS L (lv,d) fun L=>A.wpS S k (((lv,d),⟨v,x⟩)::L) K
 | .wr (lv,d) none k,L,K=>nz d fun d=>lkH S (lv,d)=none∧delS L (lv,d) fun L=>A.wpS S k L K
 | .any k,L,K=>∀ b,A.wpS S (k b) L K
 | @A.dec p _ k,L,K=>(p→A.wpS S (k true) L K)∧(¬ p→A.wpS S (k false) L K)
 | .opt o k,L,K=>∀ o',o=o'→A.wpS S (k o') L K
 | .all p k,L,K=>∀ i,i∈p→A.wpS S (k i) L K
 | .fail,_,_=>False

def A.rwpS (S:Hp):A→Hp→(PV→Prop)→Prop
 | .ret x,_,K=>fz x K
 | @A.vc p _ k,L,K=>p∧A.rwpS S k L K
 | .hyp p k,L,K=>p→A.rwpS S k L K
 | .rd r k,L,K=>match lkS L r with
  | some x=>A.rwpS S (k (some x)) L K
  | none=>A.rwpS S (k (lkH S r)) L K
 | .wr ..,_,_=>False
 | .any k,L,K=>∀ b,A.rwpS S (k b) L K
 | @A.dec p _ k,L,K=>(p→A.rwpS S (k true) L K)∧(¬ p→A.rwpS S (k false) L K)
 | .opt o k,L,K=>∀ o',o=o'→A.rwpS S (k o') L K
 | .all p k,L,K=>∀ i,i∈p→A.rwpS S (k i) L K
 | .fail,_,_=>False

def A.gwpS (c:Bool) (S:Hp):A→Hp→(PV→Prop)→Prop
 | .ret x,_,K=>fz x K
 | @A.vc p _ k,L,K=>(c=true→p)∧A.gwpS c S k L K
 | .hyp p k,L,K=>(c=true→p)→A.gwpS c S k L K
 | .rd r k,L,K=>match lkS L r with
  | some x=>A.gwpS c S (k (some x)) L K
  | none=>A.gwpS c S (k (lkH S r)) L K
 | .wr ..,_,_=>False
 | .any k,L,K=>∀ b,A.gwpS c S (k b) L K
 | @A.dec p _ k,L,K=>(p→A.gwpS c S (k true) L K)∧(¬ p→A.gwpS c S (k false) L K)
 | .opt o k,L,K=>∀ o',o=o'→A.gwpS c S (k o') L K
 | .all ..,_,_=>False
 | .fail,_,_=>False

theorem lkS_rep {S L hp:Hp} (h:Rep S L hp) {α:Sort _} (r:RId) (k:Option Root→α):(match lkS L r with|some x=>k (some x)|none=>k (lkH S r))=k (lkH hp r):=by
 rw [h r]
 cases lkS L r <;> rfl

def LeH (hp hp':Hp):Prop:=∀ r rt',lkH hp' r=some rt'→∃ rt,lkH hp r=some rt∧rt.ver=rt'.ver∧NEq rt.node rt'.node
theorem LeH.refl (hp:Hp):LeH hp hp:=fun _ rt h=>⟨rt,h,rfl,.refl _⟩

theorem A.rwpS_wp {S:Hp} {a:A}:∀ {L hp:Hp} {K:PV→Prop},Rep S L hp→a.rwpS S L K→a.wp hp fun x hp'=>hp'=hp∧K x:=by
 induction a with
 | ret x=>intro L hp K _ h;exact ⟨rfl,by rwa [A.rwpS,fz_eq] at h⟩
 | vc p k ih=>intro L hp K hr h;exact ⟨h.1,ih hr h.2⟩
 | hyp p k ih=>intro L hp K hr h;exact fun hp=>ih hr (h hp)
 | rd r k ih =>
  intro L hp K hr h
  simp only [A.rwpS] at h
  rw [lkS_rep hr r (fun x=>A.rwpS S (k x) L K)] at h
  exact ih _ hr h
 | wr r x k ih=>intro L hp K hr h;exact h.elim
 | any k ih=>intro L hp K hr h;exact fun b=>ih b hr (h b)
 | @dec p d k ih =>
  intro L hp K hr h
  by_cases hp':p
  ·have e:decide p=true:=by simpa using hp'
   show A.wp (k (decide p)) _ _
   rw [e];exact ih _ hr (h.1 hp')
  ·have e:decide p=false:=by simpa using hp'
   show A.wp (k (decide p)) _ _
   rw [e];exact ih _ hr (h.2 hp')
 | opt o k ih=>intro L hp K hr h;exact ih _ hr (h o rfl)
 | all p k ih=>intro L hp K hr h;exact fun i hi=>ih i hr (h i hi)
 | fail=>intro L hp K hr h;exact h.elim

theorem A.gwpS_gwp {S:Hp} {c:Bool} {a:A}:∀ {L hp:Hp} {K:PV→Prop},Rep S L hp→a.gwpS c S L K→a.gwp c hp K:=by
 induction a with
 | ret x=>intro L hp K _ h;rwa [A.gwpS,fz_eq] at h
 | vc p k ih=>intro L hp K hr h;exact ⟨h.1,ih hr h.2⟩
 | hyp p k ih=>intro L hp K hr h;exact fun hp=>ih hr (h hp)
 | rd r k ih =>
  intro L hp K hr h
  simp only [A.gwpS] at h
  rw [lkS_rep hr r (fun x=>A.gwpS c S (k x) L K)] at h
  exact ih _ hr h
 | wr r x k ih=>intro L hp K hr h;exact h.elim
 | any k ih=>intro L hp K hr h;exact fun b=>ih b hr (h b)
 | @dec p d k ih =>
  intro L hp K hr h
  by_cases hp':p
  ·have e:decide p=true:=by simpa using hp'
   show A.gwp c (k (decide p)) _ _
   rw [e];exact ih _ hr (h.1 hp')
  ·have e:decide p=false:=by simpa using hp'
   show A.gwp c (k (decide p)) _ _
   rw [e];exact ih _ hr (h.2 hp')
 | opt o k ih=>intro L hp K hr h;exact ih _ hr (h o rfl)
 | all p k ih=>intro L hp K hr h;exact h.elim
 | fail=>intro L hp K hr h;exact h.elim

theorem A.wpS_wp {S:Hp} {a:A}:∀ {L hp:Hp} {K:PV→Hp→Prop},Rep S L hp→a.wpS S L K→a.wp hp fun x hp'=>∃ L' hp2,Rep S L' hp2∧LeH hp' hp2∧K x L':=by
 induction a with
 | ret x=>intro L hp K hr h;exact ⟨L,hp,hr,.refl _,by rwa [A.wpS,fz_eq] at h⟩
 | vc p k ih=>intro L hp K hr h;exact ⟨h.1,ih hr h.2⟩
 | hyp p k ih=>intro L hp K hr h;exact fun hp=>ih hr (h hp)
 | rd r k ih =>
  intro L hp K hr h
  simp only [A.wpS] at h
  rw [lkS_rep hr r (fun x=>A.wpS S (k x) L K)] at h
  exact ih _ hr h
 | wr r x k ih =>
  intro L hp K hr h
  obtain ⟨lv,d⟩:=r
  cases x with
  | none =>
   simp only [A.wpS,nz_eq] at h
   obtain ⟨h1,h2⟩:=h
   obtain ⟨L',e1,e2⟩:=delS_spec L (lv,d) (fun L=>A.wpS S k L K)
   rw [e1] at h2
   exact ih (hr.del h1 e2) h2
  | some rt =>
   obtain ⟨v,x⟩:=rt
   simp only [A.wpS,nz_eq,fz_eq] at h
   split at h
   ·rename_i y hy
    obtain rfl:=retOf_some hy
    unfold nodeZ at h
    split at h
    ·rename_i sz n f
     obtain ⟨z,hz,_,h⟩:=h
     obtain ⟨L',e1,e2⟩:=delS_spec L (lv,d) (fun L=>K y (((lv,d),⟨v,z⟩)::L))
     rw [e1] at h
     refine ⟨_,_,hr.put e2,fun r rt' hrt=>?_,h⟩
     rw [lookH_setH] at hrt ⊢
     by_cases hj:r=(lv,d)
     ·rw [if_pos hj] at hrt ⊢
      cases hrt
      exact ⟨_,rfl,rfl,hz⟩
     ·rw [if_neg hj] at hrt ⊢
      exact ⟨rt',hrt,rfl,.refl _⟩
    ·rename_i sz c
     obtain ⟨L',e1,e2⟩:=delS_spec L (lv,d) (fun L=>K y (((lv,d),⟨v,.obox sz c⟩)::L))
     rw [e1] at h
     exact ⟨_,_,hr.put e2,.refl _,h⟩
    ·rename_i es bs cl
     obtain ⟨z,rfl,h⟩:=h
     obtain ⟨L',e1,e2⟩:=delS_spec L (lv,d) (fun L=>K y (((lv,d),⟨v,.omap es bs cl⟩)::L))
     rw [e1] at h
     exact ⟨_,_,hr.put e2,.refl _,h⟩
    ·rename_i m s e l
     obtain ⟨z,rfl,h⟩:=h
     obtain ⟨L',e1,e2⟩:=delS_spec L (lv,d) (fun L=>K y (((lv,d),⟨v,.oiter m s e l⟩)::L))
     rw [e1] at h
     exact ⟨_,_,hr.put e2,.refl _,h⟩
    ·rename_i i c
     obtain ⟨L',e1,e2⟩:=delS_spec L (lv,d) (fun L=>K y (((lv,d),⟨v,.oloop i c⟩)::L))
     rw [e1] at h
     exact ⟨_,_,hr.put e2,.refl _,h⟩
    ·exact h.elim
   ·obtain ⟨L',e1,e2⟩:=delS_spec L (lv,d) (fun L=>A.wpS S k (((lv,d),⟨v,x⟩)::L) K)
    rw [e1] at h
    exact ih (hr.put e2) h
 | any k ih=>intro L hp K hr h;exact fun b=>ih b hr (h b)
 | @dec p d k ih =>
  intro L hp K hr h
  by_cases hp':p
  ·have e:decide p=true:=by simpa using hp'
   show A.wp (k (decide p)) _ _
   rw [e];exact ih _ hr (h.1 hp')
  ·have e:decide p=false:=by simpa using hp'
   show A.wp (k (decide p)) _ _
   rw [e];exact ih _ hr (h.2 hp')
 | opt o k ih=>intro L hp K hr h;exact ih _ hr (h o rfl)
 | all p k ih=>intro L hp K hr h;exact fun i hi=>ih i hr (h i hi)
 | fail=>intro L hp K hr h;exact h.elim

/-! ### Calls -/
def LeL (l m:List PV):Prop:=l.length=m.length∧∀ i,i<l.length→NEq (l.getD i .undef) (m.getD i .undef)
theorem LeL.refl (l:List PV):LeL l l:=⟨rfl,fun _ _ => .refl _⟩
theorem LeL.nil:LeL [] [] := .refl _
theorem LeL.cons {x y:PV} {l m:List PV} (h:NEq x y) (k:LeL l m):LeL (x::l) (y::m) :=
 ⟨by simp [k.1],fun i hi=>by cases i with|zero=>exact h|succ i=>exact k.2 i (by simpa using hi)⟩

theorem LR.less {w:World} {B:Blocks} {H:Roots} {V:Nat→Prop} {l m:List PV} {cs:Array Value} (h:LR w B H V l cs) (k:LeL l m):LR w B H V m cs :=
 ⟨k.1.symm.trans h.len,fun i hi=>(h.val i (by rw [k.1];exact hi)).less (k.2 i (by rw [k.1];exact hi))⟩

theorem CallsF.less {P:Program} {f:FuncId} {l m:List PV} {res:PV} (h:CallsF P f m res) (k:LeL l m):CallsF P f l res :=
 ⟨h.1,fun w B cs hr ha=>h.2 w B cs hr (ha.less k)⟩
theorem CallsO.less {P:Program} {f:FuncId} {l m:List PV} {node:PV} {res:RId→Nat→PV} (h:CallsO P f m node res) (k:LeL l m):CallsO P f l node res :=
 ⟨h.1,fun w B cs id ver hid hr ha=>h.2 w B cs id ver hid hr (ha.less k)⟩

theorem view_congrS {hp hp':Hp} (h:lkH hp=lkH hp'):∀ (k:Nat) (x:PV),view k hp x=view k hp' x:=by
 intro k
 induction k with
 | zero=>intro x;rfl
 | succ k ih =>
  intro x
  have e:view k hp=view k hp':=funext ih
  unfold view
  rw [h,e]

def appZ (k:List PV→Prop):List PV→(List PV→List PV)→List PV→Prop
 | [],f,m=>k (f m)
 | x::l,f,m=>appZ k l (fun r=>f (x::r)) m
theorem appZ_eq (k:List PV→Prop):∀ (l:List PV) (f:List PV→List PV) (m:List PV),appZ k l f m=k (f (l++m)):=by
 intro l
 induction l with
 | nil=>intro f m;rfl
 | cons x l ih=>intro f m;simp only [appZ,ih,List.cons_append]

inductive CallS (P:Program) (S:Hp) (id:RId) (ver:Nat) (f:FuncId) (args:List PV) (L:Hp) (nv:Nat) (K:PV→Hp→Nat→Prop):Prop
 | frozen (res:PV) (h:CallsF P f args res) (hpl:∀ c∈args,plainArgL c) (k:fz res fun res=>K res L nv)
 | plain (args':List PV) (res:PV) (h:CallsF P f args' res) (ha:LeL (args.map (view 9 (L++S))) args') (hr:leafyL res) (k:fz res fun res=>K res L nv)
 | own (node:PV) (res:RId→Nat→PV) (h:CallsO P f args node res) (hpl:∀ c∈args,plainArgL c) (k:delS L id fun L=>fz (res id ver) fun x=>K x ((id,⟨ver,node⟩)::L) nv)
 | ownPlain (args':List PV) (sz n:Nat) (g:Nat→Nat→PV) (res:RId→Nat→PV) (h:CallsO P f args' (.own sz n g) res) (ha:LeL (args.map (view 9 (L++S))) args') (hr:leafyL (res id ver)) (hg:∀ i o,i<n→leafy (g i o))
   (k:delS L id fun L=>fz (res id ver) fun x=>K x ((id,⟨ver,.own sz n g⟩)::L) nv)
 | on (Post:PV→Hp→Nat→Prop) (h:CallsA P f args (L++S) nv Post) (k:∀ res hp' nv',Post res hp' nv'→∃ L',Rep S L' hp'∧fz res fun res=>K res L' nv')

theorem Rep.eq {S L hp:Hp} (h:Rep S L hp):lkH hp=lkH (L++S):=funext fun r=>(h r).trans (Rep.mk' S L r).symm

structure YieldS (P:Program) (S:Hp) (r:RId) (v:Nat) (args:List PV) (L:Hp) (nv:Nat) (K:PV→Hp→Nat→Prop):Prop where
 out:YieldA P r v args (L++S) nv fun res hp' nv'=>∃ L',Rep S L' hp'∧fz res fun res=>K res L' nv'

theorem YieldA.mono {P r v args hp nv} {K K':PV→Hp→Nat→Prop} (h:YieldA P r v args hp nv K) (hk:∀ x hp nv,K x hp nv→K' x hp nv):YieldA P r v args hp nv K':=by
 obtain ⟨rt,li,c,h1,h2,h3,h4,h5,h6⟩:=h
 refine ⟨rt,li,c,h1,h2,h3,h4,h5,fun w B cs l tmps d fn ro a1 a2 a3 a4 a5 a6=>roundIn_mono (h6 w B cs l tmps d fn ro a1 a2 a3 a4 a5 a6) fun e w' he=>?_⟩
 obtain ⟨v,B',res,hp',nv',g1,g2,g3⟩:=he
 exact ⟨v,B',res,hp',nv',g1,hk _ _ _ g2,g3⟩

theorem YieldS.wp {P S r v args L nv K hp} (hr:Rep S L hp) (h:YieldS P S r v args L nv K):YieldA P r v args hp nv fun x hp' nv'=>∃ L',Rep S L' hp'∧K x L' nv':=by
 have h1:=h.out
 unfold YieldA at h1
 rw [← hr.eq] at h1
 exact YieldA.mono h1 fun x hp' nv' ⟨L',g1,g2⟩=>⟨L',g1,by rwa [fz_eq] at g2⟩

theorem CallS.wp {P S id ver f args L nv K hp} (hr:Rep S L hp) (h:CallS P S id ver f args L nv K):CallWp P id ver f args hp nv fun x hp' nv'=>∃ L',Rep S L' hp'∧K x L' nv':=by
 have hv:args.map (view 9 (L++S))=args.map (view 9 hp):=by
  congr 1
  exact funext fun x=>(view_congrS hr.eq 9 x).symm
 cases h with
 | frozen res h hpl k=>exact .frozen res h hpl ⟨L,hr,by rwa [fz_eq] at k⟩
 | plain args' res h ha hl k=>exact .plain res (hv▸h.less ha) hl ⟨L,hr,by rwa [fz_eq] at k⟩
 | own node res h hpl k =>
  obtain ⟨L',e1,e2⟩:=delS_spec L id (fun L=>fz (res id ver) fun x=>K x ((id,⟨ver,node⟩)::L) nv)
  rw [e1,fz_eq] at k
  exact .own node res h hpl ⟨_,hr.put e2,k⟩
 | ownPlain args' sz n g res h ha hl hg k =>
  obtain ⟨L',e1,e2⟩:=delS_spec L id (fun L=>fz (res id ver) fun x=>K x ((id,⟨ver,.own sz n g⟩)::L) nv)
  rw [e1,fz_eq] at k
  exact .ownPlain sz n g res (hv▸h.less ha) hl hg ⟨_,hr.put e2,k⟩
 | on Post h k =>
  refine .on Post ⟨h.1,?_⟩ (fun res hp' nv' hp=>by obtain ⟨L',h1,h2⟩:=k res hp' nv' hp;exact ⟨L',h1,by rwa [fz_eq] at h2⟩)
  have h2:=h.2
  rw [← hr.eq] at h2
  exact h2
end Go.Ab
namespace Go.Ab
open Classical

def putZ (tm:Tm) (d:Option Tmp) (x:PV) (k:Tm→Prop):Prop:=match d with
 | some d=>k ((d,x)::tm)
 | none=>k tm
theorem putZ_eq (tm:Tm) (d:Option Tmp) (x:PV) (k:Tm→Prop):putZ tm d x k=k (putT tm d x):=by cases d <;> rfl

def opZ (P:Program) (lv ver:Nat) (tm:Tm) (o:Oper) (k:A→Prop):Prop:=match o.dst with
 | some d=>k (opB P (lv,d) ver tm o.op)
 | none=>k (opB P (lv,0) ver tm o.op)
theorem opZ_eq (P:Program) (lv ver:Nat) (tm:Tm) (o:Oper) (k:A→Prop):opZ P lv ver tm o k=k (opA P lv ver tm o):=by
 unfold opZ opA
 cases o.dst <;> rfl

def idZ (lv:Nat) (d:Option Tmp) (k:RId→Prop):Prop:=match d with
 | some d=>k (lv,d)
 | none=>k (lv,0)
theorem idZ_eq (lv:Nat) (d:Option Tmp) (k:RId→Prop):idZ lv d k=k (lv,d.getD 0):=by cases d <;> rfl

def callZ (tm:Tm) (o:Op) (k:FuncId→List PV→Prop):Prop:=callee tm o fun f az=>appZ (k f) az id []
theorem callZ_eq (tm:Tm) (o:Op) (k:FuncId→List PV→Prop):callZ tm o k=callee tm o k:=by
 unfold callZ
 congr 1
 funext f az
 rw [appZ_eq]
 simp

def opsS (P:Program) (lv:Nat) (all:List Oper) (S:Hp) (K:Tm→Hp→Nat→Prop):List Oper→Tm→Hp→Nat→Prop
 | [],tm,L,nv=>K tm L nv
 | o::os,tm,L,nv=>match isCall o.op with
  | true=>match o.guard with
   | none=>match yieldO tm o.op with
    | some (r,v,az)=>YieldS P S r v az L nv fun x L nv'=>putZ tm o.dst x fun tm=>opsS P lv all S K os tm L (max (nv+1) nv')
    | none=>callZ tm o.op fun f args=>idZ lv o.dst fun id=>CallS P S id nv f args L nv fun x L nv'=>putZ tm o.dst x fun tm=>opsS P lv all S K os tm L (max (nv+1) nv')
   | some g=>match guardC all tm (some g) with
    | some c=>(c=true→match yieldO tm o.op with
      | some (r,v,az)=>YieldS P S r v az L nv fun x L nv'=>putZ tm o.dst x fun tm=>opsS P lv all S K os tm L (max (nv+1) nv')
      | none=>callZ tm o.op fun f args=>idZ lv o.dst fun id=>CallS P S id nv f args L nv fun x L nv'=>putZ tm o.dst x fun tm=>opsS P lv all S K os tm L (max (nv+1) nv')) ∧
     (c=false→putZ tm o.dst (noT P o) fun tm=>opsS P lv all S K os tm L (nv+1))
    | none=>False
  | false=>match o.guard with
   | none=>opZ P lv nv tm o fun a=>a.wpS S L fun x L=>putZ tm o.dst x fun tm=>opsS P lv all S K os tm L (nv+1)
   | some g=>match guardC all tm (some g) with
    | some c=>match changes o.op with
     | true=>(c=true→opZ P lv nv tm o fun a=>a.wpS S L fun x L=>putZ tm o.dst x fun tm=>opsS P lv all S K os tm L (nv+1))∧(c=false→putZ tm o.dst (noT P o) fun tm=>opsS P lv all S K os tm L (nv+1))
     | false=>opZ P lv nv tm o fun a=>a.gwpS c S L fun x=>putZ tm o.dst (.whn c x) fun tm=>opsS P lv all S K os tm L (nv+1)
    | none=>False

theorem Le.ofH {hp hp':Hp} (h:LeH hp hp') (tm:Tm) (nv:Nat):Le tm hp nv tm hp' nv:=⟨fun _ => .inr (.refl _),h,Nat.le_refl _⟩

theorem opsS_step {P:Program} {lv:Nat} {all:List Oper} {S:Hp} {K:Tm→Hp→Nat→Prop} {o:Oper} {os:List Oper} {tm:Tm} {L hp:Hp} {nv:Nat} (hr:Rep S L hp) (h:opsS P lv all S K (o::os) tm L nv) :
  stepWp P lv all o (fun tm hp nv=>∃ L hp2,Rep S L hp2∧LeH hp hp2∧opsS P lv all S K os tm L nv) tm hp nv:=by
 unfold opsS at h
 unfold stepWp
 have call:(callZ tm o.op fun f args=>idZ lv o.dst fun id=>CallS P S id nv f args L nv fun x L nv'=>putZ tm o.dst x fun tm=>opsS P lv all S K os tm L (max (nv+1) nv')) →
   callee tm o.op fun f args=>CallWp P (lv,o.dst.getD 0) nv f args hp nv fun x hp' nv'=>∃ L hp2,Rep S L hp2∧LeH hp' hp2∧opsS P lv all S K os (putT tm o.dst x) L (max (nv+1) nv'):=by
  intro h
  rw [callZ_eq] at h
  obtain ⟨f,az,h1,h2⟩:=callee_iff.1 h
  refine callee_iff.2 ⟨f,az,h1,?_⟩
  rw [idZ_eq] at h2
  have h3:=CallS.wp hr h2
  have conv:(fun (x:PV) (hp':Hp) (nv':Nat)=>∃ L',Rep S L' hp'∧putZ tm o.dst x fun tm=>opsS P lv all S K os tm L' (max (nv+1) nv')) =
    fun x hp' nv'=>∃ L',Rep S L' hp'∧opsS P lv all S K os (putT tm o.dst x) L' (max (nv+1) nv'):=by
   funext x hp' nv'
   simp only [putZ_eq]
  rw [conv] at h3
  have fin:∀ (x:PV) (hp':Hp) (nv':Nat),(∃ L',Rep S L' hp'∧opsS P lv all S K os (putT tm o.dst x) L' (max (nv+1) nv'))→∃ L hp2,Rep S L hp2∧LeH hp' hp2∧opsS P lv all S K os (putT tm o.dst x) L (max (nv+1) nv') :=
   fun x hp' nv' ⟨L',g1,g2⟩=>⟨L',hp',g1,.refl _,g2⟩
  cases h3 with
  | frozen res h hpl k=>exact .frozen res h hpl (fin _ _ _ k)
  | plain res h hl k=>exact .plain res h hl (fin _ _ _ k)
  | own node res h hpl k=>exact .own node res h hpl (fin _ _ _ k)
  | ownPlain sz n g res h hl hg k=>exact .ownPlain sz n g res h hl hg (fin _ _ _ k)
  | on Post h k=>exact .on Post h (fun res hp' nv' hp=>fin _ _ _ (k _ _ _ hp))
 have any:(match yieldO tm o.op with
    | some (r,v,az)=>YieldS P S r v az L nv fun x L nv'=>putZ tm o.dst x fun tm=>opsS P lv all S K os tm L (max (nv+1) nv')
    | none=>callZ tm o.op fun f args=>idZ lv o.dst fun id=>CallS P S id nv f args L nv fun x L nv'=>putZ tm o.dst x fun tm=>opsS P lv all S K os tm L (max (nv+1) nv')) →
   match yieldO tm o.op with
    | some (r,v,az)=>YieldA P r v az hp nv fun x hp' nv'=>∃ L hp2,Rep S L hp2∧LeH hp' hp2∧opsS P lv all S K os (putT tm o.dst x) L (max (nv+1) nv')
    | none=>callee tm o.op fun f args=>CallWp P (lv,o.dst.getD 0) nv f args hp nv fun x hp' nv'=>∃ L hp2,Rep S L hp2∧LeH hp' hp2∧opsS P lv all S K os (putT tm o.dst x) L (max (nv+1) nv'):=by
  intro h
  cases hy:yieldO tm o.op with
  | none=>rw [hy] at h;exact call h
  | some x =>
   obtain ⟨r,v,az⟩:=x
   rw [hy] at h
   exact YieldA.mono (YieldS.wp hr h) fun x hp' nv' ⟨L',g1,g2⟩=>⟨L',hp',g1,.refl _,by rwa [putZ_eq] at g2⟩
 have other:(opZ P lv nv tm o fun a=>a.wpS S L fun x L=>putZ tm o.dst x fun tm=>opsS P lv all S K os tm L (nv+1)) →
   (opA P lv nv tm o).wp hp fun x hp'=>∃ L hp2,Rep S L hp2∧LeH hp' hp2∧opsS P lv all S K os (putT tm o.dst x) L (nv+1):=by
  intro h
  rw [opZ_eq] at h
  have:=A.wpS_wp hr h
  simpa only [putZ_eq] using this
 cases hc:isCall o.op with
 | true =>
  rw [hc] at h
  simp only [if_true]
  cases hg:o.guard with
  | none =>
   rw [hg] at h
   exact ⟨fun _=>any h,fun e=>by cases e⟩
  | some g =>
   rw [hg] at h
   simp only at h ⊢
   cases hgc:guardC all tm (some g) with
   | none=>rw [hgc] at h;exact h
   | some c =>
    rw [hgc] at h
    simp only at h ⊢
    refine ⟨fun e=>any (h.1 e),fun e=>⟨L,hp,hr,.refl _,?_⟩⟩
    have:=h.2 e
    rwa [putZ_eq] at this
 | false =>
  rw [hc] at h
  simp only [Bool.false_eq_true,if_false]
  cases hg:o.guard with
  | none=>rw [hg] at h;exact other h
  | some g =>
   rw [hg] at h
   simp only at h ⊢
   cases hgc:guardC all tm (some g) with
   | none=>rw [hgc] at h;exact h
   | some c =>
    rw [hgc] at h
    simp only at h ⊢
    cases hch:changes o.op with
    | true =>
     rw [hch] at h
     simp only [if_true]
     refine ⟨fun e=>other (h.1 e),fun e=>⟨L,hp,hr,.refl _,?_⟩⟩
     have:=h.2 e
     rwa [putZ_eq] at this
    | false =>
     rw [hch] at h
     simp only [Bool.false_eq_true,if_false]
     simp only [opZ_eq] at h
     have h1:=A.gwpS_gwp hr h
     simp only [putZ_eq] at h1
     refine A.gwp_mono' h1 (fun x hx=>⟨L,hp,hr,.refl _,hx⟩)
where
 A.gwp_mono' {c:Bool} {a:A} {hp:Hp} {K K':PV→Prop} (h:a.gwp c hp K) (hk:∀ x,K x→K' x):a.gwp c hp K':=by
  induction a with
  | ret x=>exact hk _ h
  | vc p k ih=>exact ⟨h.1,ih h.2⟩
  | hyp p k ih=>exact fun hp=>ih (h hp)
  | rd r k ih=>exact ih _ h
  | wr r x k ih=>exact h.elim
  | any k ih=>exact fun b=>ih b (h b)
  | dec p k ih=>exact ih _ h
  | opt o k ih=>exact ih _ h
  | all p k ih=>exact h.elim
  | fail=>exact h.elim

theorem opsS_sound {P:Program} {lv:Nat} {nt:FS} {ro:Option Nat} {ops:Array Oper} {S:Hp} {K:Tm→Hp→Nat→Prop} {Q:Exit→Act→World→Prop} (hlv:lv≠0)
  (hd:∀ o∈ops.toList,dstOK nt o.dst=true) {w0:World} {B0:Blocks} {hp0:Hp} {nv0:Nat}
  (hQ:∀ tm L hp nv B w a,K tm L nv→Rep S L hp→TmR w B (lkH hp) (·<nv) nt tm a→HR w B (lkH hp) (·<nv)→Mono w0 B0 (lkH hp0) (·<nv0) w B (lkH hp) (·<nv)→Q .normal a w) :
  ∀ (l:List Oper) (i:Nat),ops.toList.drop i=l→∀ tm L hp nv B w a,opsS P lv ops.toList S K l tm L nv→Rep S L hp→TmR w B (lkH hp) (·<nv) nt tm a→HR w B (lkH hp) (·<nv) →
   Mono w0 B0 (lkH hp0) (·<nv0) w B (lkH hp) (·<nv)→wpOpsIn (Wd ro) 0 P ops Q (List.range' i l.length) a w:=by
 intro l
 induction l with
 | nil=>intro i hi tm L hp nv B w a h hrep ht hr hm;exact hQ _ _ _ _ _ _ _ h hrep ht hr hm
 | cons o os ih =>
  intro i hi tm L hp nv B w a h hrep ht hr hm
  obtain ⟨hio,hos,hmem⟩:=ops_at hi
  rw [List.length_cons,List.range'_succ]
  refine oneOp_sound hlv hio (hd o hmem) (fun tm hp nv B w a hN ht hr hm=>?_) tm hp nv B w a (opsS_step hrep h) ht hr hm
  obtain ⟨L',hp2,hrep2,hle,hN⟩:=hN
  obtain ⟨g1,g2⟩:=(Le.ofH hle tm nv).sound ⟨ht,hr⟩
  exact ih (i+1) hos tm L' hp2 nv _ w a hN hrep2 g1.tm g1.hp (hm.trans g2)

/-! ### Drawn regions -/
def fbB (lv:Nat):List Nat→RId→Bool
 | [],_=>false
 | d::l,(a,b)=>match Nat.beq lv a with
  | true=>match Nat.beq d b with
   | true=>true
   | false=>fbB lv l (a,b)
  | false=>false

theorem fbB_no {lv:Nat} {l:List Nat} {r:RId} (h:fbB lv l r=false):¬ fbOf lv l r:=by
 obtain ⟨a,b⟩:=r
 induction l with
 | nil=>simp [fbOf]
 | cons d l ih =>
  simp only [fbB] at h
  intro hm
  simp only [fbOf,List.map_cons,List.mem_cons] at hm
  cases h1:Nat.beq lv a with
  | true =>
   rw [h1] at h
   simp only at h
   cases h2:Nat.beq d b with
   | true=>rw [h2] at h;cases h
   | false =>
    rw [h2] at h
    rcases hm with hm|hm
    ·cases hm;simp at h2
    ·exact ih h hm
  | false =>
   have:a≠lv:=fun e=>by subst e;simp at h1
   rcases hm with hm|hm
   ·cases hm;exact this rfl
   ·obtain ⟨_,_,hm⟩:=List.mem_map.1 hm
    cases hm;exact this rfl

def memB:List Nat→Nat→Bool
 | [],_=>false
 | d::l,e=>match Nat.beq d e with
  | true=>true
  | false=>memB l e
theorem memB_iff {l:List Nat} {e:Nat} (h:memB l e=true):e∈l:=by
 induction l with
 | nil=>cases h
 | cons d l ih =>
  simp only [memB] at h
  split at h
  ·rename_i hb;rw [Nat.eq_of_beq_eq_true hb];simp
  ·exact List.mem_cons_of_mem _ (ih h)
def owB (w:Bool) (lv:Nat) (ws:List Nat) (r:RId):Bool:=match w with
 | true=>true
 | false=>match Nat.beq r.1 lv with
  | true=>memB ws r.2
  | false=>false

def A.wpDS (S:Hp) (lv:Nat) (fb:List Nat) (w:Bool) (ws:List Nat):A→Hp→(PV→Hp→Prop)→Prop
 | .ret x,L,K=>fz x fun x=>K x L
 | @A.vc p _ k,L,K=>p∧A.wpDS S lv fb w ws k L K
 | .hyp _ k,L,K=>A.wpDS S lv fb w ws k L K
 | .rd r k,L,K=>match fbB lv fb r with
  | true=>False
  | false=>match lkS L r with
   | some x=>A.wpDS S lv fb w ws (k (some x)) L K
   | none=>A.wpDS S lv fb w ws (k (lkH S r)) L K
 | .wr (a,d) x k,L,K=>nz d fun d=>match owB w lv ws (a,d) with
  | true=>match x with
   | some ⟨v,x⟩=>fz x fun x=>delS L (a,d) fun L=>A.wpDS S lv fb w ws k (((a,d),⟨v,x⟩)::L) K
   | none=>lkH S (a,d)=none∧delS L (a,d) fun L=>A.wpDS S lv fb w ws k L K
  | false=>False
 | .any _,_,_=>False
 | @A.dec p _ k,L,K=>(p→A.wpDS S lv fb w ws (k true) L K)∧(¬ p→A.wpDS S lv fb w ws (k false) L K)
 | .opt o k,L,K=>∀ o',o=o'→A.wpDS S lv fb w ws (k o') L K
 | .all ..,_,_=>False
 | .fail,_,_=>False

def A.gwpDS (c:Bool) (S:Hp) (lv:Nat) (fb:List Nat):A→Hp→(PV→Prop)→Prop
 | .ret x,_,K=>fz x K
 | @A.vc p _ k,L,K=>(c=true→p)∧A.gwpDS c S lv fb k L K
 | .hyp _ k,L,K=>A.gwpDS c S lv fb k L K
 | .rd r k,L,K=>match fbB lv fb r with
  | true=>False
  | false=>match lkS L r with
   | some x=>A.gwpDS c S lv fb (k (some x)) L K
   | none=>A.gwpDS c S lv fb (k (lkH S r)) L K
 | .wr ..,_,_=>False
 | .any _,_,_=>False
 | @A.dec p _ k,L,K=>(p→A.gwpDS c S lv fb (k true) L K)∧(¬ p→A.gwpDS c S lv fb (k false) L K)
 | .opt o k,L,K=>∀ o',o=o'→A.gwpDS c S lv fb (k o') L K
 | .all ..,_,_=>False
 | .fail,_,_=>False

theorem A.wpDS_wp {S:Hp} {lv:Nat} {fb:List Nat} {w:Bool} {ws:List Nat} {ow:RId→Prop} (how:∀ r,owB w lv ws r=true→ow r) {a:A}:∀ {L hp:Hp} {K:PV→Hp→Prop},Rep S L hp→a.wpDS S lv fb w ws L K →
  a.wpD (fbOf lv fb) ow hp fun x hp'=>∃ L',Rep S L' hp'∧K x L':=by
 induction a with
 | ret x=>intro L hp K hr h;exact ⟨L,hr,by rwa [A.wpDS,fz_eq] at h⟩
 | vc p k ih=>intro L hp K hr h;exact ⟨h.1,ih hr h.2⟩
 | hyp p k ih=>intro L hp K hr h;exact ih (K:=K) hr h
 | rd r k ih =>
  intro L hp K hr h
  simp only [A.wpDS] at h
  cases hf:fbB lv fb r with
  | true=>rw [hf] at h;exact h.elim
  | false =>
   rw [hf] at h
   simp only at h
   refine ⟨fbB_no hf,ih _ hr ?_⟩
   rw [hr r]
   cases hl:lkS L r <;> rw [hl] at h <;> exact h
 | wr r x k ih =>
  intro L hp K hr h
  obtain ⟨a,d⟩:=r
  simp only [A.wpDS,nz_eq] at h
  cases ho:owB w lv ws (a,d) with
  | false=>rw [ho] at h;exact h.elim
  | true =>
   rw [ho] at h
   refine ⟨how _ ho,?_⟩
   cases x with
   | none =>
    simp only at h
    obtain ⟨h1,h2⟩:=h
    obtain ⟨L',e1,e2⟩:=delS_spec L (a,d) (fun L=>A.wpDS S lv fb w ws k L K)
    rw [e1] at h2
    exact ih (hr.del h1 e2) h2
   | some rt =>
    obtain ⟨v,x⟩:=rt
    simp only [fz_eq] at h
    obtain ⟨L',e1,e2⟩:=delS_spec L (a,d) (fun L=>A.wpDS S lv fb w ws k (((a,d),⟨v,x⟩)::L) K)
    rw [e1] at h
    exact ih (hr.put e2) h
 | any k ih=>intro L hp K hr h;exact h.elim
 | @dec p d k ih =>
  intro L hp K hr h
  by_cases hp':p
  ·have e:decide p=true:=by simpa using hp'
   show A.wpD (fbOf lv fb) ow (k (decide p)) _ _
   rw [e];exact ih _ (K:=K) hr (h.1 hp')
  ·have e:decide p=false:=by simpa using hp'
   show A.wpD (fbOf lv fb) ow (k (decide p)) _ _
   rw [e];exact ih _ (K:=K) hr (h.2 hp')
 | opt o k ih=>intro L hp K hr h;exact ih _ (K:=K) hr (h o rfl)
 | all p k ih=>intro L hp K hr h;exact h.elim
 | fail=>intro L hp K hr h;exact h.elim

theorem A.gwpDS_gwp {c:Bool} {S:Hp} {lv:Nat} {fb:List Nat} {a:A}:∀ {L hp:Hp} {K:PV→Prop},Rep S L hp→a.gwpDS c S lv fb L K→a.gwpD c (fbOf lv fb) hp K:=by
 induction a with
 | ret x=>intro L hp K hr h;rwa [A.gwpDS,fz_eq] at h
 | vc p k ih=>intro L hp K hr h;exact ⟨h.1,ih hr h.2⟩
 | hyp p k ih=>intro L hp K hr h;exact ih (K:=K) hr h
 | rd r k ih =>
  intro L hp K hr h
  simp only [A.gwpDS] at h
  cases hf:fbB lv fb r with
  | true=>rw [hf] at h;exact h.elim
  | false =>
   rw [hf] at h
   simp only at h
   refine ⟨fun _=>fbB_no hf,ih _ hr ?_⟩
   rw [hr r]
   cases hl:lkS L r <;> rw [hl] at h <;> exact h
 | wr r x k ih=>intro L hp K hr h;exact h.elim
 | any k ih=>intro L hp K hr h;exact h.elim
 | @dec p d k ih =>
  intro L hp K hr h
  by_cases hp':p
  ·have e:decide p=true:=by simpa using hp'
   show A.gwpD c (fbOf lv fb) (k (decide p)) _ _
   rw [e];exact ih _ (K:=K) hr (h.1 hp')
  ·have e:decide p=false:=by simpa using hp'
   show A.gwpD c (fbOf lv fb) (k (decide p)) _ _
   rw [e];exact ih _ (K:=K) hr (h.2 hp')
 | opt o k ih=>intro L hp K hr h;exact ih _ (K:=K) hr (h o rfl)
 | all p k ih=>intro L hp K hr h;exact h.elim
 | fail=>intro L hp K hr h;exact h.elim

theorem A.wpDS_gwp {S:Hp} {lv:Nat} {fb:List Nat} {a:A}:∀ {L hp:Hp} {K:PV→Hp→Prop},Rep S L hp→a.wpDS S lv fb false [] L K→a.gwpD true (fbOf lv fb) hp fun x=>K x L:=by
 induction a with
 | ret x=>intro L hp K hr h;rwa [A.wpDS,fz_eq] at h
 | vc p k ih=>intro L hp K hr h;exact ⟨fun _=>h.1,ih hr h.2⟩
 | hyp p k ih=>intro L hp K hr h;exact ih (K:=K) hr h
 | rd r k ih =>
  intro L hp K hr h
  simp only [A.wpDS] at h
  cases hf:fbB lv fb r with
  | true=>rw [hf] at h;exact h.elim
  | false =>
   rw [hf] at h
   simp only at h
   refine ⟨fun _=>fbB_no hf,ih _ (K:=K) hr ?_⟩
   rw [hr r]
   cases hl:lkS L r <;> rw [hl] at h <;> exact h
 | wr r x k ih =>
  intro L hp K hr h;obtain ⟨a,e⟩:=r;simp only [A.wpDS,nz_eq] at h
  have:owB false lv [] (a,e)=false:=by unfold owB;simp only [memB];split <;> rfl
  rw [this] at h;exact h.elim
 | any k ih=>intro L hp K hr h;exact h.elim
 | @dec p d k ih =>
  intro L hp K hr h
  by_cases hp':p
  ·have e:decide p=true:=by simpa using hp'
   show A.gwpD true (fbOf lv fb) (k (decide p)) _ _
   rw [e];exact ih _ (K:=K) hr (h.1 hp')
  ·have e:decide p=false:=by simpa using hp'
   show A.gwpD true (fbOf lv fb) (k (decide p)) _ _
   rw [e];exact ih _ (K:=K) hr (h.2 hp')
 | opt o k ih=>intro L hp K hr h;exact ih _ (K:=K) hr (h o rfl)
 | all p k ih=>intro L hp K hr h;exact h.elim
 | fail=>intro L hp K hr h;exact h.elim

inductive QS (P:Program) (S:Hp) (id:RId) (ver:Nat) (fb:List Nat) (f:FuncId) (args:List PV) (L:Hp) (K:PV→Hp→Prop):Prop
 | frozen (res:PV) (h:CallsF P f args res) (hpl:∀ c∈args,plainArgL c) (k:fz res fun res=>K res L)
 | plain (args':List PV) (res:PV) (hfb:fb=[]) (h:CallsF P f args' res) (ha:LeL (args.map (view 9 (L++S))) args') (hr:leafyL res) (k:fz res fun res=>K res L)
 | own (node:PV) (res:RId→Nat→PV) (h:CallsO P f args node res) (hpl:∀ c∈args,plainArgL c) (k:delS L id fun L=>fz (res id ver) fun x=>K x ((id,⟨ver,node⟩)::L))
 | ownPlain (args':List PV) (sz n:Nat) (g:Nat→Nat→PV) (res:RId→Nat→PV) (hfb:fb=[]) (h:CallsO P f args' (.own sz n g) res) (ha:LeL (args.map (view 9 (L++S))) args') (hr:leafyL (res id ver)) (hg:∀ i o,i<n→leafy (g i o))
   (k:delS L id fun L=>fz (res id ver) fun x=>K x ((id,⟨ver,.own sz n g⟩)::L))

theorem QS.wp {P S id ver lv fb f args L K hp} (hr:Rep S L hp) (h:QS P S id ver fb f args L K):QWp P id ver (fbOf lv fb) f args hp fun x hp'=>∃ L',Rep S L' hp'∧K x L':=by
 have hv:args.map (view 9 (L++S))=args.map (view 9 hp):=by
  congr 1
  exact funext fun x=>(view_congrS hr.eq 9 x).symm
 have hno:fb=[]→∀ r,¬ fbOf lv fb r:=fun e r h=>by subst e;simp [fbOf] at h
 cases h with
 | frozen res h hpl k=>exact .frozen res h hpl ⟨L,hr,by rwa [fz_eq] at k⟩
 | plain args' res hfb h ha hl k=>exact .plain res (hno hfb) (hv▸h.less ha) hl ⟨L,hr,by rwa [fz_eq] at k⟩
 | own node res h hpl k =>
  obtain ⟨L',e1,e2⟩:=delS_spec L id (fun L=>fz (res id ver) fun x=>K x ((id,⟨ver,node⟩)::L))
  rw [e1,fz_eq] at k
  exact .own node res h hpl ⟨_,hr.put e2,k⟩
 | ownPlain args' sz n g res hfb h ha hl hg k =>
  obtain ⟨L',e1,e2⟩:=delS_spec L id (fun L=>fz (res id ver) fun x=>K x ((id,⟨ver,.own sz n g⟩)::L))
  rw [e1,fz_eq] at k
  exact .ownPlain sz n g res (hno hfb) (hv▸h.less ha) hl hg ⟨_,hr.put e2,k⟩

def wideB (b:Bool) (ws:List Nat) (o:Op):Bool:=match b with
 | true=>true
 | false=>kind3w ws o

def drawS (P:Program) (lv:Nat) (all:List Oper) (S:Hp) (K:Tm→Hp→Nat→Prop):List Oper→List Fl→Tm→Hp→Nat→Prop
 | [],_,tm,L,nv=>K tm L nv
 | _::_,[],_,_,_=>False
 | o::os,(fb,st)::fls,tm,L,nv=>match guardC all tm o.guard with
  | none=>False
  | some c=>match isCall o.op with
   | true=>(c=true→callZ tm o.op fun f args=>idZ lv o.dst fun id=>QS P S id nv fb f args L fun x L=>putZ tm o.dst x fun tm=>drawS P lv all S K os fls tm L (nv+1)) ∧
    (c=false→putZ tm o.dst (noT P o) fun tm=>drawS P lv all S K os fls tm L (nv+1))
   | false=>match changes o.op with
    | true=>match o.guard with
     | none=>opZ P lv nv tm o fun a=>a.wpDS S lv fb (wideB st.1 st.2 o.op) (wrOf (fb,st) o) L fun x L=>putZ tm o.dst x fun tm=>drawS P lv all S K os fls tm L (nv+1)
     | some _=>(c=true→opZ P lv nv tm o fun a=>a.wpDS S lv fb (wideB st.1 st.2 o.op) (wrOf (fb,st) o) L fun x L=>putZ tm o.dst x fun tm=>drawS P lv all S K os fls tm L (nv+1)) ∧
      (c=false→putZ tm o.dst (noT P o) fun tm=>drawS P lv all S K os fls tm L (nv+1))
    | false=>match o.guard with
     | none=>opZ P lv nv tm o fun a=>a.wpDS S lv fb false [] L fun x L=>putZ tm o.dst x fun tm=>drawS P lv all S K os fls tm L (nv+1)
     | some _=>opZ P lv nv tm o fun a=>a.gwpDS c S lv fb L fun x=>putZ tm o.dst (.whn c x) fun tm=>drawS P lv all S K os fls tm L (nv+1)
theorem drawS_ops {P:Program} {lv:Nat} {all:List Oper} {S:Hp} {K:Tm→Hp→Nat→Prop}:∀ (os:List Oper) (fls:List Fl) (tm:Tm) (L hp:Hp) (nv:Nat),Rep S L hp→drawS P lv all S K os fls tm L nv →
  opsD P lv all (fun tm hp nv=>∃ L,Rep S L hp∧K tm L nv) os fls tm hp nv:=by
 intro os
 induction os with
 | nil=>intro fls tm L hp nv hr h;exact ⟨L,hr,h⟩
 | cons o os ih =>
  intro fls tm L hp nv hr h
  cases fls with
  | nil=>exact h.elim
  | cons fl fls =>
   obtain ⟨fb,st⟩:=fl
   unfold drawS at h
   unfold opsD
   cases hg:guardC all tm o.guard with
   | none=>rw [hg] at h;exact h.elim
   | some c =>
    rw [hg] at h
    simp only [List.headD_cons,List.tail_cons] at h ⊢
    have how:∀ r,owB (wideB st.1 st.2 o.op) lv (wrOf (fb,st) o) r=true→owOf lv (fb,st) o r:=by
     rintro ⟨a,d⟩ hr
     unfold owB at hr
     split at hr
     ·rename_i hw
      unfold wideB at hw
      split at hw
      ·exact .inl (by assumption)
      ·exact .inr (.inl hw)
     ·split at hr
      ·rename_i h1
       exact .inr (.inr (List.mem_map.2 ⟨d,memB_iff hr,Prod.ext (Nat.eq_of_beq_eq_true h1).symm rfl⟩))
      ·cases hr
    have pass:(c=false→putZ tm o.dst (noT P o) fun tm=>drawS P lv all S K os fls tm L (nv+1))→c=false→opsD P lv all (fun tm hp nv=>∃ L,Rep S L hp∧K tm L nv) os fls (putT tm o.dst (noT P o)) hp (nv+1):=by
     intro h e
     have:=h e
     rw [putZ_eq] at this
     exact ih _ _ _ _ _ hr this
    have other:(opZ P lv nv tm o fun a=>a.wpDS S lv fb (wideB st.1 st.2 o.op) (wrOf (fb,st) o) L fun x L=>putZ tm o.dst x fun tm=>drawS P lv all S K os fls tm L (nv+1)) →
      (opA P lv nv tm o).wpD (fbOf lv fb) (owOf lv (fb,st) o) hp fun x hp'=>opsD P lv all (fun tm hp nv=>∃ L,Rep S L hp∧K tm L nv) os fls (putT tm o.dst x) hp' (nv+1):=by
     intro h
     rw [opZ_eq] at h
     have h1:=A.wpDS_wp how hr h
     simp only [putZ_eq] at h1
     exact wpD_mono h1 fun x hp' ⟨L',g1,g2⟩=>ih _ _ _ _ _ g1 g2
    cases hc:isCall o.op with
    | true =>
     rw [hc] at h
     simp only [if_true] at h ⊢
     refine ⟨fun e=>⟨?_,?_⟩,pass h.2⟩
     ·refine how _ ?_
      have hm:makes o.op=true:=by
       cases ho:o.op <;> rw [ho] at hc <;> first|rfl|cases hc
      unfold owB wrOf
      rw [hm]
      cases wideB st.1 st.2 o.op <;> simp [memB]
     ·have h1:=h.1 e
      rw [callZ_eq] at h1
      obtain ⟨f,az,h2,h3⟩:=callee_iff.1 h1
      refine callee_iff.2 ⟨f,az,h2,?_⟩
      rw [idZ_eq] at h3
      have h4:=QS.wp (lv:=lv) hr h3
      simp only [putZ_eq] at h4
      exact QWp_mono h4 fun x hp' ⟨L',g1,g2⟩=>ih _ _ _ _ _ g1 g2
    | false =>
     rw [hc] at h
     simp only [Bool.false_eq_true,if_false] at h ⊢
     cases hch:changes o.op with
     | true =>
      rw [hch] at h
      simp only [if_true]
      cases hgd:o.guard with
      | none =>
       rw [hgd] at h
       have hc1:c=true:=by rw [hgd] at hg;simp [guardC] at hg;exact hg
       subst hc1
       exact ⟨fun _=>other h,(fun e=>by cases e)⟩
      | some g=>rw [hgd] at h;exact ⟨fun e=>other (h.1 e),pass h.2⟩
     | false =>
      rw [hch] at h
      simp only [Bool.false_eq_true,if_false]
      cases hgd:o.guard with
      | none =>
       rw [hgd] at h
       have hc1:c=true:=by rw [hgd] at hg;simp [guardC] at hg;exact hg
       subst hc1
       simp only at h
       rw [opZ_eq] at h
       have h1:=A.wpDS_gwp hr h
       simp only [putZ_eq] at h1
       exact gwpD_mono h1 fun x hx=>ih _ _ _ _ _ hr hx
      | some g =>
       rw [hgd] at h
       simp only at h
       rw [opZ_eq] at h
       have h1:=A.gwpDS_gwp hr h
       simp only [putZ_eq] at h1
       exact gwpD_mono h1 fun x hx=>ih _ _ _ _ _ hr hx
where
 wpD_mono {fb ow:RId→Prop} {a:A} {hp:Hp} {K K':PV→Hp→Prop} (h:a.wpD fb ow hp K) (hk:∀ x hp,K x hp→K' x hp):a.wpD fb ow hp K':=by
  induction a generalizing hp with
  | ret x=>exact hk _ _ h
  | vc p k ih=>exact ⟨h.1,ih h.2⟩
  | hyp p k ih=>exact ih h
  | rd r k ih=>exact ⟨h.1,ih _ h.2⟩
  | wr r x k ih=>exact ⟨h.1,ih h.2⟩
  | any k ih=>exact h.elim
  | dec p k ih=>exact ih _ h
  | opt o k ih=>exact ih _ h
  | all p k ih=>exact h.elim
  | fail=>exact h.elim
 gwpD_mono {c:Bool} {fb:RId→Prop} {a:A} {hp:Hp} {K K':PV→Prop} (h:a.gwpD c fb hp K) (hk:∀ x,K x→K' x):a.gwpD c fb hp K':=by
  induction a with
  | ret x=>exact hk _ h
  | vc p k ih=>exact ⟨h.1,ih h.2⟩
  | hyp p k ih=>exact ih h
  | rd r k ih=>exact ⟨h.1,ih _ h.2⟩
  | wr r x k ih=>exact h.elim
  | any k ih=>exact h.elim
  | dec p k ih=>exact ih _ h
  | opt o k ih=>exact ih _ h
  | all p k ih=>exact h.elim
  | fail=>exact h.elim
 QWp_mono {id:RId} {ver:Nat} {fb:RId→Prop} {f:FuncId} {args:List PV} {hp:Hp} {K K':PV→Hp→Prop} (h:QWp P id ver fb f args hp K) (hk:∀ x hp,K x hp→K' x hp):QWp P id ver fb f args hp K':=by
  cases h with
  | frozen res h hpl k=>exact .frozen res h hpl (hk _ _ k)
  | plain res hfb h hl k=>exact .plain res hfb h hl (hk _ _ k)
  | own node res h hpl k=>exact .own node res h hpl (hk _ _ k)
  | ownPlain sz n g res hfb h hl hg k=>exact .ownPlain sz n g res hfb h hl hg (hk _ _ k)

def segS (P:Program) (lv:Nat) (all:List Oper) (S:Hp) (K:Tm→Hp→Nat→Prop):Nat→List Nat→List Oper→List Fl→Tm→Hp→Nat→Prop
 | _,[],_,_,tm,L,nv=>K tm L nv
 | s,n::ns,os,fls,tm,L,nv=>match n with
  | 1=>match os with
   | o::os=>opsS P lv all S (segS P lv all S K (s+1) ns os fls.tail) [o] tm L nv
   | []=>False
  | n=>drawS P lv all S (segS P lv all S K (s+n) ns (os.drop n) (fls.drop n)) (os.take n) fls tm L (nv+s)

theorem segS_sound {P:Program} {lv nv0:Nat} {nt:FS} {ro:Option Nat} {ops:Array Oper} {fls:List Fl} {S:Hp} {K:Tm→Hp→Nat→Prop} {Q:Exit→Act→World→Prop} (hlv:lv≠0) (hd:∀ o∈ops.toList,dstOK nt o.dst=true)
  (hck:drawOK ops.toList fls (masksGo ops.toList [])=true) {w0:World} {B0:Blocks} {hp0:Hp}
  (hQ:∀ tm L hp nv w B a,K tm L nv→Rep S L hp→TmR w B (lkH hp) (·<nv) nt tm a→HR w B (lkH hp) (·<nv)→Mono w0 B0 (lkH hp0) (·<nv0) w B (lkH hp) (·<nv)→Q .normal a w) :
  ∀ (ks:List Nat) (s:Nat),s≤ops.size→cutsOK (masksGo ops.toList []) ops.size s ks=true→(∀ i x,s≤i→i<ops.size→x<s→((masksGo ops.toList []).getD i 0).testBit x=true)→∀ tm L hp nv w B a,segS P lv ops.toList S K s ks (ops.toList.drop s) (fls.drop s) tm L nv →
   Rep S L hp→TmR w B (lkH hp) (·<nv) nt tm a→HR w B (lkH hp) (·<nv)→Mono w0 B0 (lkH hp0) (·<nv0) w B (lkH hp) (·<nv)→AnyAt ro P ops Q s a w:=by
 have hlen:ops.toList.length=fls.length:=by
  unfold drawOK at hck
  rw [Bool.and_eq_true] at hck
  exact eq_of_beq hck.1
 have hml:(masksGo ops.toList []).length=ops.size:=by rw [masksGo_length];simp
 intro ks
 induction ks with
 | nil =>
  intro s hs hc hcut tm L hp nv w B a h hrep ht hr hm listed hsz hl
  obtain rfl:s=ops.size:=Nat.eq_of_beq_eq_true hc
  rw [Nat.sub_self]
  have hre:Region.ready .any ops listed=[]:=by
   cases hre:Region.ready .any ops listed with
   | nil=>rfl
   | cons i l =>
    obtain ⟨h1,o,ho,_⟩:=mem_ready.1 (show i∈Region.ready .any ops listed by rw [hre];simp)
    have hlt:=(Array.getElem?_eq_some_iff.1 ho).1
    have:=(hl i).2 hlt
    rw [← getD_agree (by omega)] at this
    rw [this] at h1
    cases h1
  exact ⟨hre,hQ _ _ _ _ _ _ _ h hrep ht hr hm⟩
 | cons k ks ih =>
  intro s hs hc hcut tm L hp nv w B a h hrep ht hr hm
  simp only [cutsOK,Bool.and_eq_true] at hc
  obtain ⟨hc1,hc2⟩:=hc
  have hle:∀ (ks:List Nat) (s:Nat),cutsOK (masksGo ops.toList []) ops.size s ks=true→s≤ops.size:=by
   intro ks
   induction ks with
   | nil=>intro s h;exact Nat.le_of_eq (Nat.eq_of_beq_eq_true h)
   | cons k ks ih=>intro s h;simp only [cutsOK,Bool.and_eq_true] at h;have:=ih _ h.2;omega
  have hsk:=hle _ _ hc2
  have hcut2:∀ i x,s+k≤i→i<ops.size→x<s+k→((masksGo ops.toList []).getD i 0).testBit x=true:=fun i x h1 h2 h3=>cutB_bits hc1 h1 (by omega) h3
  unfold segS at h
  split at h
  ·split at h
   ·rename_i o os hos
    have hio:ops[s]?=some o:=by
     have:=congrArg (fun l=>l[0]?) hos
     simpa using this
    have hos2:ops.toList.drop (s+1)=os:=by
     have:=congrArg List.tail hos
     simpa using this
    have hmem:o∈ops.toList:=List.mem_of_getElem? (show ops.toList[s]?=some o by simpa using hio)
    refine any_one hck hcut2 (by omega) (oneOpK hlv hio (hd o hmem) (fun tm hp nv B w a hN ht hr hm=>?_) tm hp nv B w a (opsS_step hrep h) ht hr hm)
    obtain ⟨L',hp2,hrep2,hle2,hN⟩:=hN
    obtain ⟨g1,g2⟩:=(Le.ofH hle2 tm nv).sound ⟨ht,hr⟩
    simp only [opsS] at hN
    exact ih (s+1) hsk hc2 hcut2 tm L' hp2 nv w _ a (by rw [hos2];simpa using hN) hrep2 g1.tm g1.hp (hm.trans g2)
   ·exact h.elim
  ·have h':=drawS_ops _ _ _ _ _ _ hrep h
   obtain ⟨tm',hp',hrun,L',hrep',hk⟩:=opsD_run (nv:=nv) hlen (ops.toList.drop s |>.take k) s ⟨(ops.toList.drop s).drop k,by rw [List.take_append_drop]⟩ tm hp h'
   have htl:((ops.toList.drop s).take k).length=k:=by simp;omega
   rw [htl] at hrun hk
   intro listed hsz hl
   have hrem:rem (s+k) listed=List.range' s k:=by
    unfold rem
    rw [List.range_eq_range',← List.range'_append_1,List.filter_append]
    have e1:(List.range' 0 s).filter (fun j=>!listed.getD j true)=[]:=List.filter_eq_nil_iff.2 fun x hx=>by
     have hx:=(List.mem_range'_1.1 hx).2
     have:=(hl x).2 (by omega)
     rw [getD_agree (by omega),this];simp
    have e2:(List.range' (0+s) k).filter (fun j=>!listed.getD j true)=List.range' (0+s) k:=List.filter_eq_self.2 fun x hx=>by
     have hx:=List.mem_range'_1.1 hx
     have:listed.getD x false=false:=by
      cases hb:listed.getD x false with
      | false=>rfl
      | true=>have:=(hl x).1 hb;omega
     rw [getD_agree (by omega),this];rfl
    rw [e1,e2];simp
   have hV:∀ v,v<nv→Vl nv listed v:=fun v h => .inl h
   have hup:Mono w B (lkH hp) (·<nv) w B (lkH hp) (Vl nv listed):=(Mono.refl ..).up hV
   have:=any_seg (ro:=ro) (Q:=Q) (nv:=nv) (nv0:=nv0) hlv hd hck hcut2 hsk (w0:=w0) (B0:=B0) (hp0:=hp0) (tmF:=tm') (HF:=lkH hp') (fun tm2 hp2 w2 B2 a2 hte hh ht2 hr2 hm2=>by
    rw [hh] at ht2 hr2 hm2
    refine ih (s+k) hsk hc2 hcut2 tm' L' hp' (nv+(s+k)) w2 B2 a2 ?_ hrep' ⟨fun t=>by rw [hte t];exact ht2.val t,ht2.size,ht2.defers⟩ hr2 hm2
    rw [List.drop_drop,List.drop_drop] at hk
    exact hk) k listed hsz (fun j hj=>by
     cases hb:listed.getD j false with
     | false=>rfl
     | true=>have:=(hl j).1 hb;omega) (by rw [hrem];simp) (fun i hi x hx _=>(hl x).2 (by have:=(hl i).1 hi;omega)) tm tm' hp w B a (by rw [hrem];exact hrun) (fun _=>rfl) (ht.mono hup) (hr.up hV) (hm.trans hup)
   rwa [show k+(ops.size - (s+k))=ops.size - s by omega] at this

/-! ### Code -/
def natsZ:List Nat→(List Nat→Prop)→Prop
 | [],k=>k []
 | n::l,k=>nz n fun n=>natsZ l fun l=>k (n::l)
theorem natsZ_eq:∀ (l:List Nat) (k:List Nat→Prop),natsZ l k=k l
 | [],k=>rfl
 | n::l,k=>by rw [natsZ,nz_eq,natsZ_eq l]
def bz:Bool→(Bool→Prop)→Prop
 | true,k=>k true
 | false,k=>k false
theorem bz_eq (b:Bool) (k:Bool→Prop):bz b k=k b:=by cases b <;> rfl
def flsZ:List Fl→(List Fl→Prop)→Prop
 | [],k=>k []
 | (fb,(w,ws))::l,k=>natsZ fb fun fb=>bz w fun w=>natsZ ws fun ws=>flsZ l fun l=>k ((fb,(w,ws))::l)
theorem flsZ_eq:∀ (l:List Fl) (k:List Fl→Prop),flsZ l k=k l
 | [],k=>rfl
 | (fb,(w,ws))::l,k=>by rw [flsZ,natsZ_eq,bz_eq,natsZ_eq,flsZ_eq l]

def liftQ (S:Hp) (Q:Post):Post:=fun e tm hp nv=>∃ L,Rep S L hp∧Q e tm L nv

def condS (b:Bool) (x y:Prop):Prop:=(b=true→x)∧(b=false→y)

def nrmQ (Q:Post):Tm→Hp→Nat→Prop:=fun tm L nv=>Q .normal tm L nv
def seqQ (k:Tm→Hp→Nat→Post→Prop) (Q:Post):Post:=fun e tm L nv=>match e with
 | .normal=>k tm L nv Q
 | e=>Q e tm L nv
def blkQ (id:Nat) (Q:Post):Post:=fun e tm L nv=>match e with
 | .exit i=>match Nat.beq i id with
  | true=>Q .normal tm L nv
  | false=>Q (.exit i) tm L nv
 | e=>Q e tm L nv

def codeS (P:Program) (lv:Nat) (nt:FS) (ro:Option Nat) (S:Hp):Code→Tm→Hp→Nat→Post→Prop
 | .skip,tm,L,nv,Q=>Q .normal tm L nv
 | .label _,tm,L,nv,Q=>Q .normal tm L nv
 | .exit i,tm,L,nv,Q=>Q (.exit i) tm L nv
 | .goto i,tm,L,nv,Q=>Q (.goto i) tm L nv
 | .ret,tm,L,nv,Q=>Q .ret tm L nv
 | .region _ ops false,tm,L,nv,Q=>opsS P lv ops.toList S (nrmQ Q) ops.toList tm L nv
 | .region _ ops true,tm,L,nv,Q=>match regionOK ops.toList with
  | true=>natsZ (lensOf (masksGo ops.toList []) ops.toList.length) fun ks=>flsZ (flagsOf ops.toList (masksGo ops.toList [])) fun fls=>segS P lv ops.toList S (nrmQ Q) 0 ks ops.toList fls tm L nv
  | false=>∃ fls ks,drawOK ops.toList fls (masksGo ops.toList [])=true∧cutsOK (masksGo ops.toList []) ops.toList.length 0 ks=true∧segS P lv ops.toList S (nrmQ Q) 0 ks ops.toList fls tm L nv
 | .seq x y,tm,L,nv,Q=>codeS P lv nt ro S x tm L nv (seqQ (codeS P lv nt ro S y) Q)
 | .cond c x y,tm,L,nv,Q=>match ev tm c with
  | .bool b=>condS b (codeS P lv nt ro S x tm L nv Q) (codeS P lv nt ro S y tm L nv Q)
  | _=>False
 | .block id b,tm,L,nv,Q=>codeS P lv nt ro S b tm L nv (blkQ id Q)
 | c,tm,L,nv,Q=>Ev P lv nt ro c tm (L++S) nv (liftQ S Q)

def okS (nt:Nat):Code→Bool
 | .region _ ops _=>ops.toList.all fun o=>dstOK nt o.dst
 | .seq x y=>okS nt x&&okS nt y
 | .cond _ x y=>okS nt x&&okS nt y
 | .block _ c=>okS nt c
 | .loop c=>okS nt c
 | .scope c=>okS nt c
 | .rangeFunc _ _ x y=>okS nt x&&okS nt y
 | _=>true

theorem Ev.rep {P:Program} {lv:Nat} {nt:FS} {ro:Option Nat} {c:Code} {tm:Tm} {hp hp':Hp} {nv:Nat} {Q:Post} (h:Ev P lv nt ro c tm hp nv Q) (e:lkH hp'=lkH hp):Ev P lv nt ro c tm hp' nv Q:=by
 refine .less (tm':=tm) (hp':=hp) (nv':=nv) ⟨fun _ => .inr (.refl _),fun r rt hr=>⟨rt,by rw [e];exact hr,rfl,.refl _⟩,Nat.le_refl _⟩ h

theorem codeS_sound {P:Program} {lv:Nat} {nt:FS} {ro:Option Nat} {S:Hp} (hmx:P.follows .mixedOrders=true) (hlv:lv≠0):∀ (c:Code),okS nt c=true→∀ (tm:Tm) (L hp:Hp) (nv:Nat) (Q:Post),Rep S L hp →
  codeS P lv nt ro S c tm L nv Q→Ev P lv nt ro c tm hp nv (liftQ S Q):=by
 intro c
 induction c with
 | skip=>intro _ tm L hp nv Q hr h;exact .skip ⟨L,hr,h⟩
 | label l=>intro _ tm L hp nv Q hr h;exact .label ⟨L,hr,h⟩
 | exit i=>intro _ tm L hp nv Q hr h;exact .exit ⟨L,hr,h⟩
 | goto i=>intro _ tm L hp nv Q hr h;exact .goto ⟨L,hr,h⟩
 | ret=>intro _ tm L hp nv Q hr h;exact .ret ⟨L,hr,h⟩
 | region id ops d =>
  intro hok tm L hp nv Q hr h
  simp only [okS] at hok
  cases d with
  | false =>
   refine ⟨fun w B a hs=>wpIn_region ?_⟩
   have:=opsS_sound (ro:=ro) (Q:=fun e a' w'=>∃ tm' hp' nv' B',liftQ S Q e tm' hp' nv'∧SR nt tm' hp' nv' w' B' a'∧Mono w B (lkH hp) (·<nv) w' B' (lkH hp') (·<nv')) hlv
    (fun o ho=>List.all_eq_true.1 hok o ho) (w0:=w) (B0:=B) (hp0:=hp) (nv0:=nv) (fun tm' L' hp' nv' B' w' a' k0 k1 k2 k3 k4=>⟨tm',hp',nv',B',⟨L',k1,k0⟩,⟨k2,k3⟩,k4⟩) ops.toList 0 (by simp) tm L hp nv B w a h hr hs.tm hs.hp (Mono.refl ..)
   rw [List.range_eq_range']
   simpa using this
  | true =>
   have h':∃ fls ks,drawOK ops.toList fls (masksGo ops.toList [])=true∧cutsOK (masksGo ops.toList []) ops.toList.length 0 ks=true∧segS P lv ops.toList S (fun tm L nv=>Q .normal tm L nv) 0 ks ops.toList fls tm L nv:=by
    unfold codeS at h
    cases hreg:regionOK ops.toList with
    | false=>rw [hreg] at h;exact h
    | true =>
     rw [hreg] at h
     simp only [natsZ_eq,flsZ_eq] at h
     unfold regionOK at hreg
     split at hreg
     ·rename_i hck;exact ⟨_,_,hck,hreg,h⟩
     ·cases hreg
   obtain ⟨fls,ks,hck,hok2,h⟩:=h'
   refine ⟨fun w B a hs=>wpIn_region_any hmx ?_⟩
   have hm0:Mono w B (lkH hp) (·<nv) { w with drawn:=w.drawn+1 } B (lkH hp) (·<nv) :=
    ⟨Nat.le_refl _,fun _ _ h=>⟨h,rfl⟩,fun _ _ _ _ h=>⟨h,rfl⟩,fun r p _ h => .inr ⟨r,p,h⟩,fun _ _ h=>h,fun _ h=>h,fun _ rt h => .inr ⟨rt,h,rfl,fun _ _ h=>⟨h,rfl⟩⟩,rfl,rfl,rfl⟩
   have hr0:HR { w with drawn:=w.drawn+1 } B (lkH hp) (·<nv) :=
    ⟨fun r rt h=>(hs.hp.root r rt h).mono hm0 (fun _ _ _=>⟨rfl,fun _ _=>rfl⟩),hs.hp.ver,hs.hp.dom,hs.hp.lev,hs.hp.inj⟩
   have hno:∀ j,(Array.replicate ops.size false).getD j false=false:=fun j=>by
    by_cases h:j<ops.size <;> simp [Array.getD,h]
   exact segS_sound (ro:=ro) (nv0:=nv) (Q:=fun e a' w'=>∃ tm' hp' nv' B',liftQ S Q e tm' hp' nv'∧SR nt tm' hp' nv' w' B' a'∧Mono w B (lkH hp) (·<nv) w' B' (lkH hp') (·<nv')) hlv
    (fun o ho=>List.all_eq_true.1 hok o ho) hck (w0:=w) (B0:=B) (hp0:=hp) (fun tm' L' hp' nv' w' B' a' hk hrep ht hr hm=>⟨tm',hp',nv',B',⟨L',hrep,hk⟩,⟨ht,hr⟩,hm⟩) _ 0 (Nat.zero_le _) (by rw [← Array.length_toList];exact hok2)
    (fun i x _ _ hx=>absurd hx (Nat.not_lt_zero _)) tm L hp nv { w with drawn:=w.drawn+1 } B a h hr (hs.tm.mono hm0) hr0 hm0 (Array.replicate ops.size false) (by simp) (fun j=>by rw [hno];simp)
 | seq x y ihx ihy =>
  intro hok tm L hp nv Q hr h
  simp only [okS,Bool.and_eq_true] at hok
  refine .seq ((ihx hok.1 tm L hp nv _ hr h).mono fun e tm hp nv hq=>?_)
  obtain ⟨L',h1,h2⟩:=hq
  cases e with
  | normal=>exact ihy hok.2 _ _ _ _ _ h1 h2
  | _=>exact ⟨L',h1,h2⟩
 | cond c x y ihx ihy =>
  intro hok tm L hp nv Q hr h
  simp only [okS,Bool.and_eq_true] at hok
  simp only [codeS] at h
  split at h
  ·rename_i b hb
   exact .cond hb (fun e=>ihx hok.1 _ _ _ _ _ hr (h.1 e)) (fun e=>ihy hok.2 _ _ _ _ _ hr (h.2 e))
  ·exact h.elim
 | block id c ih =>
  intro hok tm L hp nv Q hr h
  refine .block ((ih hok tm L hp nv _ hr h).mono fun e tm hp nv hq=>?_)
  obtain ⟨L',h1,h2⟩:=hq
  cases e with
  | exit i =>
   simp only [blockQ,blkQ] at h2 ⊢
   cases hb:Nat.beq i id with
   | true=>rw [hb] at h2;rw [if_pos (Nat.eq_of_beq_eq_true hb)];exact ⟨L',h1,h2⟩
   | false=>rw [hb] at h2;rw [if_neg (fun e=>by subst e;simp at hb)];exact ⟨L',h1,h2⟩
  | _=>exact ⟨L',h1,h2⟩
 | loop c _=>intro _ tm L hp nv Q hr h;exact Ev.rep h hr.eq
 | scope c _=>intro _ tm L hp nv Q hr h;exact Ev.rep h hr.eq
 | rangeFunc f ps x y _ _=>intro _ tm L hp nv Q hr h;exact Ev.rep h hr.eq
 | refuse s=>intro _ tm L hp nv Q hr h;exact Ev.rep h hr.eq
end Go.Ab
