/- copy. -/
import Derived.CallsIn
import Derived.OrdersIn
import Derived.WalkKit
import Derived.Deep.AppendSrc
import Derived.ChangeKeysEq
import Derived.Maps.RangeRun
set_option linter.unusedVariables false
set_option linter.unusedSimpArgs false
namespace Go.Ab

abbrev Path:=List (Nat × Nat)
abbrev RId:=Nat × Nat

structure LI where
 st:LoopState
 pend:Option Code
 nt:Nat
 params:Array Tmp
 assign:Code
 body:Code

inductive SK where
 | map|loop|iter
 deriving DecidableEq

def SK.val (k:SK) (b:Nat):Value:=match k with
 | .map => .map (some b)
 | .loop => .func (.yield b) #[] #[]
 | .iter => .pointer (some ⟨b,0,none⟩)

inductive PV:Type
 | undef
 | int (k:IntKind) (n:Int)
 | bool (b:Bool)
 | str (s:ByteArray)
 | nilp|nilf|nilm|nili|nils
 | agg (l:List PV)
 | tup (l:List PV)
 | whn (g:Bool) (v:PV)
 | frz (sz n:Nat) (f:Nat→Nat→PV)
 | fptr (sz:Nat) (c:Nat→PV) (o:Nat)
 | own (sz n:Nat) (f:Nat→Nat→PV)
 | obox (sz:Nat) (c:Nat→PV)
 | ref (r:RId) (ver:Nat) (p:Path) (sz lo hi:Nat)
 | ptr (r:RId) (ver:Nat) (p:Path) (i o:Nat)
 | func (fn:Fn) (first captured:List PV)
 | iface (t:TypeId) (v:PV)
 | fcl (sz n:Nat) (f:Nat→Nat→PV)
 | sref (k:SK) (r:RId) (ver:Nat)
 | fmap (es:List (PV × PV))
 | omap (es:List (PV × PV)) (bs:List Nat) (clock:Nat)
 | oiter (m:PV) (since:Nat) (seen:List Nat) (last:Nat)
 | oloop (i:LI) (c:Nat→PV)

instance:Inhabited PV:=⟨.undef⟩

structure Root where
 ver:Nat
 node:PV

def getAt:PV→Path→PV
 | v,[]=>v
 | .own _ _ f,(i,o)::p=>getAt (f i o) p
 | _,_::_ => .undef

def okPath:PV→Path→Prop
 | _,[]=>True
 | .own sz n f,(i,o)::p=>i<n∧o<sz∧okPath (f i o) p
 | _,_::_=>False

def shapeOf:PV→Option (Bool × Nat × Nat)
 | .own sz n _=>some (true,sz,n)
 | .obox sz _=>some (false,sz,1)
 | .omap ..=>some (false,0,1)
 | .oiter ..=>some (false,0,1)
 | .oloop ..=>some (false,0,1)
 | _=>none

def spec:PV→Bool
 | .omap .. | .oiter .. | .oloop ..=>true
 | _=>false

theorem spec_shape {v:PV} {sz n:Nat} (h:shapeOf v=some (true,sz,n)):spec v=false:=by
 cases v <;> simp_all [shapeOf,spec]

def at? (v:PV) (p:Path) (s:Bool × Nat × Nat):Prop:=okPath v p∧shapeOf (getAt v p)=some s

abbrev Blocks:=RId→Path→Option Nat
abbrev Roots:=RId→Option Root

def free (B:Blocks) (b:Nat):Prop:=∀ r p,B r p≠some b

def RefOK (w : World) (B : Blocks) (r : RId) (node : PV) (p : Path) (sz lo hi : Nat) (v : Value) : Prop :=
  ∃ n, at? node p (true, sz, n) ∧ lo ≤ hi ∧ hi ≤ n ∧
    ((∃ b A cap e m, B r p = some b ∧ v = .slice (some A) (hi - lo) cap ∧ n ≤ lo + cap ∧ (0 < cap → A = ⟨b, lo * sz, none⟩) ∧ w.shape? b = some (e, m) ∧ (lo + cap) * sz ≤ m) ∨
     (B r p = none ∧ (∃ A, v = .slice A 0 0) ∧ hi = 0))

def PtrOK (B:Blocks) (r:RId) (node:PV) (p:Path) (i o:Nat) (v:Value):Prop :=
 ∃ q sz n b,at? node p (q,sz,n)∧i<n∧o≤sz∧B r p=some b∧v = .pointer (some ⟨b,i*sz+o,none⟩)

def H0:Roots:=fun _=>none
def V0:Nat→Prop:=fun _=>False

inductive VR (w:World) (B:Blocks):Roots→(Nat→Prop)→PV→Value→Prop
 | undef {H:Roots} {V:Nat→Prop} (v:Value):VR w B H V .undef v
 | int {H:Roots} {V:Nat→Prop} (k:IntKind) (n:Int):VR w B H V (.int k n) (.int k n)
 | bool {H:Roots} {V:Nat→Prop} (b:Bool):VR w B H V (.bool b) (.bool b)
 | str {H:Roots} {V:Nat→Prop} (s:ByteArray):VR w B H V (.str s) (.string s)
 | nilp {H:Roots} {V:Nat→Prop}:VR w B H V .nilp (.pointer none)
 | nilf {H:Roots} {V:Nat→Prop}:VR w B H V .nilf .nilFunc
 | nilm {H:Roots} {V:Nat→Prop}:VR w B H V .nilm (.map none)
 | nili {H:Roots} {V:Nat→Prop}:VR w B H V .nili .nilIface
 | nils {H:Roots} {V:Nat→Prop}:VR w B H V .nils (.slice none 0 0)
 | agg {H:Roots} {V:Nat→Prop} {l:List PV} {cs:Array Value} (hl:l.length=cs.size) (h:∀ i,i<l.length→VR w B H V (l.getD i .undef) (cs.getD i Go.undef)):VR w B H V (.agg l) (.agg cs)
 | tup {H:Roots} {V:Nat→Prop} {l:List PV} {cs:Array Value} (hl:l.length=cs.size) (h:∀ i,i<l.length→VR w B H V (l.getD i .undef) (cs.getD i Go.undef)):VR w B H V (.tup l) (.tuple cs)
 | whn {H:Roots} {V:Nat→Prop} {g:Bool} {v:PV} {x:Value} (h:g=true→VR w B H V v x) (h':g=false→x=Go.undef):VR w B H V (.whn g v) x
 | frz {H:Roots} {V:Nat→Prop} {sz n:Nat} {f:Nat→Nat→PV} {A:Option Addr} {cap:Nat} {g:Nat→Nat→Value} (hn:n≤cap) (hm:n≤140737488355328)
   (hA:0<n→∃ b off,A=some ⟨b,off,none⟩∧free B b∧b<w.heap.size∧∀ i o,i<n→o<sz→w.cell? ⟨b,off+(i*sz+o),none⟩=some (g i o))
   (hg:∀ i o,i<n→o<sz→VR w B H0 V0 (f i o) (g i o)):VR w B H V (.frz sz n f) (.slice A n cap)
 | fptr {H:Roots} {V:Nat→Prop} {sz o b off:Nat} {c:Nat→PV} {g:Nat→Value} (ho:o≤sz) (hf:free B b) (hb:b<w.heap.size)
   (hc:∀ j,j<sz→w.cell? ⟨b,off+j,none⟩=some (g j)) (hg:∀ j,j<sz→VR w B H0 V0 (c j) (g j)):VR w B H V (.fptr sz c o) (.pointer (some ⟨b,off+o,none⟩))
 | ref {H:Roots} {V:Nat→Prop} {r:RId} {ver:Nat} {p:Path} {sz lo hi:Nat} {v:Value} (hv:V ver) (h:∀ rt,H r=some rt→rt.ver=ver→RefOK w B r rt.node p sz lo hi v):VR w B H V (.ref r ver p sz lo hi) v
 | ptr {H:Roots} {V:Nat→Prop} {r:RId} {ver:Nat} {p:Path} {i o:Nat} {v:Value} (hv:V ver) (h:∀ rt,H r=some rt→rt.ver=ver→PtrOK B r rt.node p i o v):VR w B H V (.ptr r ver p i o) v
 | func {H:Roots} {V:Nat→Prop} {fn:Fn} {l l':List PV} {cs cs':Array Value} (hl:l.length=cs.size) (hl':l'.length=cs'.size)
   (h:∀ i,i<l.length→VR w B H V (l.getD i .undef) (cs.getD i Go.undef)) (h':∀ i,i<l'.length→VR w B H V (l'.getD i .undef) (cs'.getD i Go.undef)):VR w B H V (.func fn l l') (.func fn cs cs')
 | iface {H:Roots} {V:Nat→Prop} {t:TypeId} {v:PV} {x:Value} (h:VR w B H V v x):VR w B H V (.iface t v) (.iface t x)
 | fcl {H:Roots} {V:Nat→Prop} {sz n:Nat} {f:Nat→Nat→PV} {A:Option Addr} {g:Nat→Nat→Value} (hm:n≤140737488355328)
   (hA:0<n→∃ b off,A=some ⟨b,off,none⟩∧free B b∧b<w.heap.size∧∀ i o,i<n→o<sz→w.cell? ⟨b,off+(i*sz+o),none⟩=some (g i o))
   (hg:∀ i o,i<n→o<sz→VR w B H0 V0 (f i o) (g i o)):VR w B H V (.fcl sz n f) (.slice A n n)
 | sref {H:Roots} {V:Nat→Prop} {k:SK} {r:RId} {ver:Nat} {v:Value} (hv:V ver) (h:∀ rt,H r=some rt→rt.ver=ver→∃ b,at? rt.node [] (false,0,1)∧B r []=some b∧v=k.val b):VR w B H V (.sref k r ver) v
 | fmap {H:Roots} {V:Nat→Prop} {es:List (PV × PV)} {b clock:Nat} {cs:Array MapEntry} (hf:free B b) (hh:w.heap[b]?=some (.map cs clock)) (hn:cs.size=es.length)
   (hk:∀ i,i<es.length→VR w B H0 V0 (es.getD i (.undef,.undef)).1 (cs.getD i default).key) (hv:∀ i,i<es.length→VR w B H0 V0 (es.getD i (.undef,.undef)).2 (cs.getD i default).val):VR w B H V (.fmap es) (.map (some b))

def OneCells (cs:Array Value):Prop:=∀ i,i<cs.size→(cs.getD i Go.undef).oneCell'=true

inductive TR (w:World) (B:Blocks) (H:Roots) (V:Nat→Prop) (r:RId):Path→PV→Value→Prop
 | leaf {p:Path} {v:PV} {x:Value} (h:VR w B H V v x):TR w B H V r p v x
 | own {p:Path} {sz n cap b:Nat} {Ad:Addr} {f:Nat→Nat→PV} {cs:Array Value} {e:TypeId} (hA:0<cap→Ad=⟨b,0,none⟩) (hB:B r p=some b) (hh:w.heap[b]?=some (.cells cs e (0,0)))
   (hc:cap*sz≤cs.size∧OneCells cs) (hn:n≤cap) (hm:n≤140737488355328) (h:∀ i o,i<n→o<sz→TR w B H V r (p++[(i,o)]) (f i o) (cs.getD (i*sz+o) Go.undef)) :
   TR w B H V r p (.own sz n f) (.slice (some Ad) n cap)
 | nil {p:Path} {sz:Nat} {f:Nat→Nat→PV} {A:Option Addr} (hB:B r p=none):TR w B H V r p (.own sz 0 f) (.slice A 0 0)

inductive RootOK (w:World) (B:Blocks) (H:Roots) (V:Nat→Prop) (r:RId):PV→Prop
 | own {sz n:Nat} {f:Nat→Nat→PV} {v:Value} (h:TR w B H V r [] (.own sz n f) v):RootOK w B H V r (.own sz n f)
 | obox {sz b:Nat} {c:Nat→PV} {cs:Array Value} {e:TypeId} (hB:B r []=some b) (hh:w.heap[b]?=some (.cells cs e (0,0))) (hs:cs.size=sz∧OneCells cs)
   (h:∀ o,o<sz→VR w B H V (c o) (cs.getD o Go.undef)):RootOK w B H V r (.obox sz c)
 | omap {es:List (PV × PV)} {bs:List Nat} {b clock:Nat} {cs:Array MapEntry} (hB:B r []=some b) (hh:w.heap[b]?=some (.map cs clock)) (hn:cs.size=es.length) (hbs:bs=cs.toList.map (·.born)) (hcl:bs.Nodup∧∀ x∈bs,x<clock)
   (hk:∀ i,i<es.length→VR w B H V (es.getD i (.undef,.undef)).1 (cs.getD i default).key) (hv:∀ i,i<es.length→VR w B H V (es.getD i (.undef,.undef)).2 (cs.getD i default).val):RootOK w B H V r (.omap es bs clock)
 | oiter {m:PV} {since last b:Nat} {seen:List Nat} {om:Option Nat} (hB:B r []=some b) (hh:w.heap[b]?=some (.mapIter om since seen.toArray last)) (hm:VR w B H V m (.map om)):RootOK w B H V r (.oiter m since seen last)
 | oloop {i:LI} {c:Nat→PV} {b d:Nat} {tmps:Array Value} {fn:FuncId} (hB:B r []=some b)
   (hh:w.heap[b]?=some (.loop { state:=i.st,pending:=i.pend,fn:=fn,tmps:=tmps,params:=i.params,assign:=i.assign,body:=i.body,defers:=d })) (hn:tmps.size=i.nt) (h:∀ t,VR w B H V (c t) (tmps.getD t Go.undef)):RootOK w B H V r (.oloop i c)

structure HR (w:World) (B:Blocks) (H:Roots) (V:Nat→Prop):Prop where
 root:∀ r rt,H r=some rt→RootOK w B H V r rt.node
 ver:∀ r rt,H r=some rt→V rt.ver
 dom:∀ r p b,B r p=some b→b<w.heap.size∧(r.1=0∨∃ rt s,H r=some rt∧at? rt.node p s)
 lev:∀ r rt,H r=some rt→r.1≠0
 inj:∀ r p r' p' b,B r p=some b→B r' p'=some b→r=r'∧p=p'

def Compat (r:RId) (B B':Blocks) (v v':PV):Prop:=∀ p s,at? v p s→at? v' p s∧B' r p=B r p

structure Mono (w:World) (B:Blocks) (H:Roots) (V:Nat→Prop) (w':World) (B':Blocks) (H':Roots) (V':Nat→Prop):Prop where
 size:w.heap.size≤w'.heap.size
 free:∀ b,b<w.heap.size→free B b→free B' b∧w'.heap[b]?=w.heap[b]?
 foreign:∀ r p b,r.1=0→B r p=some b→B' r p=some b∧w'.heap[b]?=w.heap[b]?
 fresh:∀ r p b,B' r p=some b→w.heap.size≤b∨∃ r0 p0,B r0 p0=some b
 shape:∀ b s,w.shape? b=some s→w'.shape? b=some s
 vers:∀ n,V n→V' n
 root:∀ r rt',H' r=some rt'→¬ V rt'.ver∨∃ rt,H r=some rt∧rt.ver=rt'.ver∧Compat r B B' rt.node rt'.node
 os:w'.os=w.os
 tape:w'.tape=w.tape
 output:w'.output=w.output

structure Turn (w:World) (B:Blocks) (H:Roots) (V:Nat→Prop) (w':World) (B':Blocks) (H':Roots) (V':Nat→Prop):Prop where
 size:w.heap.size≤w'.heap.size
 free:∀ b,b<w.heap.size→free B b→free B' b∧(w'.heap[b]?=w.heap[b]?∨∃ c,w.heap[b]?=some (.deferred c))
 shape:∀ b s,w.shape? b=some s→w'.shape? b=some s
 vers:∀ n,V n→V' n
 root:∀ r rt',H' r=some rt'→¬ V rt'.ver∨∃ rt,H r=some rt∧rt.ver=rt'.ver∧Compat r B B' rt.node rt'.node

theorem Mono.refl (w:World) (B:Blocks) (H:Roots) (V:Nat→Prop):Mono w B H V w B H V :=
 ⟨Nat.le_refl _,fun _ _ h=>⟨h,rfl⟩,fun _ _ _ _ h=>⟨h,rfl⟩,fun r p _ h => .inr ⟨r,p,h⟩,fun _ _ h=>h,fun _ h=>h,fun _ rt h => .inr ⟨rt,h,rfl,fun _ _ h=>⟨h,rfl⟩⟩,rfl,rfl,rfl⟩

theorem Mono.trans {w B H V w1 B1 H1 V1 w2 B2 H2 V2} (h:Mono w B H V w1 B1 H1 V1) (k:Mono w1 B1 H1 V1 w2 B2 H2 V2):Mono w B H V w2 B2 H2 V2 where
 size:=Nat.le_trans h.size k.size
 free b hb hf:=by
  obtain ⟨f1,e1⟩:=h.free b hb hf
  obtain ⟨f2,e2⟩:=k.free b (Nat.lt_of_lt_of_le hb h.size) f1
  exact ⟨f2,e2.trans e1⟩
 foreign r p b h0 hb:=by
  obtain ⟨b1,e1⟩:=h.foreign r p b h0 hb
  obtain ⟨b2,e2⟩:=k.foreign r p b h0 b1
  exact ⟨b2,e2.trans e1⟩
 fresh r p b hb:=by
  rcases k.fresh r p b hb with h1|⟨r0,p0,h1⟩
  ·exact .inl (Nat.le_trans h.size h1)
  ·exact h.fresh r0 p0 b h1
 shape b s hs:=k.shape b s (h.shape b s hs)
 vers n hn:=k.vers n (h.vers n hn)
 root r rt' hr:=by
  rcases k.root r rt' hr with h1|⟨rt,h1,h2,h3⟩
  ·exact .inl fun hv=>h1 (h.vers _ hv)
  ·rcases h.root r rt h1 with g1|⟨rt0,g1,g2,g3⟩
   ·exact .inl (h2▸g1)
   ·refine .inr ⟨rt0,g1,g2.trans h2,fun p s hp=>?_⟩
    obtain ⟨a1,a2⟩:=g3 p s hp
    obtain ⟨b1,b2⟩:=h3 p s a1
    exact ⟨b1,b2.trans a2⟩
 os:=k.os.trans h.os
 tape:=k.tape.trans h.tape
 output:=k.output.trans h.output

theorem cell?_congr {w w':World} {b off:Nat} (h:w'.heap[b]?=w.heap[b]?):w'.cell? ⟨b,off,none⟩=w.cell? ⟨b,off,none⟩:=by
 simp only [World.cell?]
 rw [h]

theorem cell_turn {w w':World} {b off:Nat} {x:Value} (h:w'.heap[b]?=w.heap[b]?∨∃ c,w.heap[b]?=some (.deferred c)) (hc:w.cell? ⟨b,off,none⟩=some x):w'.cell? ⟨b,off,none⟩=some x:=by
 rcases h with h|⟨c,h⟩
 ·rw [cell?_congr h];exact hc
 ·simp only [World.cell?,h] at hc;cases hc

theorem Turn.bare {w B H V w' B' H' V'} (h:Turn w B H V w' B' H' V'):Turn w B H0 V0 w' B' H0 V0 :=
 ⟨h.size,h.free,h.shape,(fun _ h=>h),(fun r rt hr=>by simp [H0] at hr)⟩

theorem lt_of_get {w:World} {b:Nat} {o:Obj} (h:w.heap[b]?=some o):b<w.heap.size:=by
 rcases Nat.lt_or_ge b w.heap.size with h1|h1
 ·exact h1
 ·rw [Array.getElem?_eq_none h1] at h;cases h

theorem VR.turn' {w B w' B'} {H:Roots} {V:Nat→Prop} {v:PV} {x:Value} (h:VR w B H V v x):∀ {H' V'},Turn w B H V w' B' H' V'→VR w' B' H' V' v x:=by
 induction h with
 | undef v=>intro _ _ _;exact .undef v
 | int k n=>intro _ _ _;exact .int k n
 | bool b=>intro _ _ _;exact .bool b
 | str s=>intro _ _ _;exact .str s
 | nilp=>intro _ _ _;exact .nilp
 | nilf=>intro _ _ _;exact .nilf
 | nilm=>intro _ _ _;exact .nilm
 | nili=>intro _ _ _;exact .nili
 | nils=>intro _ _ _;exact .nils
 | agg hl _ ih=>intro _ _ hm;exact .agg hl (fun i hi=>ih i hi hm)
 | tup hl _ ih=>intro _ _ hm;exact .tup hl (fun i hi=>ih i hi hm)
 | whn _ h' ih=>intro _ _ hm;exact .whn (fun hg=>ih hg hm) h'
 | frz hn hmx hA _ ih =>
  intro _ _ hm
  refine .frz hn hmx (fun h0=>?_) (fun i o hi ho=>ih i o hi ho hm.bare)
  obtain ⟨b,off,e,hf,hb,hc⟩:=hA h0
  obtain ⟨hf',he⟩:=hm.free b hb hf
  exact ⟨b,off,e,hf',Nat.lt_of_lt_of_le hb hm.size,fun i o hi ho=>cell_turn he (hc i o hi ho)⟩
 | fptr ho hf hb hc _ ih =>
  intro _ _ hm
  obtain ⟨hf',he⟩:=hm.free _ hb hf
  exact .fptr ho hf' (Nat.lt_of_lt_of_le hb hm.size) (fun j hj=>cell_turn he (hc j hj)) (fun j hj=>ih j hj hm.bare)
 | ref hv h =>
  intro _ _ hm
  refine .ref (hm.vers _ hv) (fun rt' hr he=>?_)
  rcases hm.root _ rt' hr with h1|⟨rt,h1,h2,h3⟩
  ·exact absurd (he▸hv) h1
  ·obtain ⟨n,ha,hlo,hhi,hx⟩:=h rt h1 (h2.trans he)
   obtain ⟨a1,a2⟩:=h3 _ _ ha
   refine ⟨n,a1,hlo,hhi,?_⟩
   rcases hx with ⟨b,A,cap,e,m,hb,hv',hc,hA,hs,hle⟩|⟨hb,hv',h0⟩
   ·exact .inl ⟨b,A,cap,e,m,a2.trans hb,hv',hc,hA,hm.shape _ _ hs,hle⟩
   ·exact .inr ⟨a2.trans hb,hv',h0⟩
 | ptr hv h =>
  intro _ _ hm
  refine .ptr (hm.vers _ hv) (fun rt' hr he=>?_)
  rcases hm.root _ rt' hr with h1|⟨rt,h1,h2,h3⟩
  ·exact absurd (he▸hv) h1
  ·obtain ⟨q,sz,n,b,ha,hi,ho,hb,hv'⟩:=h rt h1 (h2.trans he)
   obtain ⟨a1,a2⟩:=h3 _ _ ha
   exact ⟨q,sz,n,b,a1,hi,ho,a2.trans hb,hv'⟩
 | func hl hl' _ _ ih ih'=>intro _ _ hm;exact .func hl hl' (fun i hi=>ih i hi hm) (fun i hi=>ih' i hi hm)
 | iface _ ih=>intro _ _ hm;exact .iface (ih hm)
 | fcl hmx hA _ ih =>
  intro _ _ hm
  refine .fcl hmx (fun h0=>?_) (fun i o hi ho=>ih i o hi ho hm.bare)
  obtain ⟨b,off,e,hf,hb,hc⟩:=hA h0
  obtain ⟨hf',he⟩:=hm.free b hb hf
  exact ⟨b,off,e,hf',Nat.lt_of_lt_of_le hb hm.size,fun i o hi ho=>cell_turn he (hc i o hi ho)⟩
 | sref hv h =>
  intro _ _ hm
  refine .sref (hm.vers _ hv) (fun rt' hr he=>?_)
  rcases hm.root _ rt' hr with h1|⟨rt,h1,h2,h3⟩
  ·exact absurd (he▸hv) h1
  ·obtain ⟨b,ha,hb,hv'⟩:=h rt h1 (h2.trans he)
   obtain ⟨a1,a2⟩:=h3 _ _ ha
   exact ⟨b,a1,a2.trans hb,hv'⟩
 | fmap hf hh hn _ _ ihk ihv =>
  intro _ _ hm
  obtain ⟨hf',he⟩:=hm.free _ (lt_of_get hh) hf
  exact .fmap hf' (by
   rcases he with he|⟨c,he⟩
   ·exact he.trans hh
   ·rw [hh] at he;cases he) hn (fun i hi=>ihk i hi hm.bare) (fun i hi=>ihv i hi hm.bare)

theorem VR.turn {w B H V w' B' H' V'} (hm:Turn w B H V w' B' H' V') {v:PV} {x:Value} (h:VR w B H V v x):VR w' B' H' V' v x:=h.turn' hm

theorem VR.lift {w:World} {B:Blocks} {v:PV} {x:Value} (h:VR w B H0 V0 v x) {H:Roots} {V:Nat→Prop} (hH:∀ r rt,H r=some rt→¬ V0 rt.ver):VR w B H V v x :=
 h.turn ⟨Nat.le_refl _,fun _ _ h=>⟨h,.inl rfl⟩,fun _ _ h=>h,fun _ h=>h.elim,fun r rt h => .inl (hH r rt h)⟩

theorem TR.turn {w B H V w' B' H' V' r r'} (hm:Turn w B H V w' B' H' V') {p q:Path} {v:PV} {x:Value} (h:TR w B H V r p v x)
  (hb:∀ t s,at? v t s→B' r' (q++t)=B r (p++t)∧∀ b,B r (p++t)=some b→w'.heap[b]?=w.heap[b]?):TR w' B' H' V' r' q v x:=by
 induction h generalizing q with
 | leaf h=>exact .leaf (h.turn hm)
 | @own p sz n cap b Ad f cs e hAd hB hh hc hn hmx h ih =>
  obtain ⟨e1,e2⟩:=hb [] (true,sz,n) ⟨trivial,rfl⟩
  simp only [List.append_nil] at e1 e2
  refine .own hAd (e1.trans hB) ((e2 b hB).trans hh) hc hn hmx (fun i o hi ho=>ih i o hi ho (fun t s hs=>?_))
  have:=hb ((i,o)::t) s ⟨⟨hi,ho,hs.1⟩,hs.2⟩
  simpa using this
 | @nil p sz f A hB =>
  obtain ⟨e1,_⟩:=hb [] (true,sz,0) ⟨trivial,rfl⟩
  simp only [List.append_nil] at e1
  exact .nil (e1.trans hB)

theorem RootOK.turn {w B H V w' B' H' V' r r'} (hm:Turn w B H V w' B' H' V') {v:PV} (h:RootOK w B H V r v)
  (hb:∀ t s,at? v t s→B' r' t=B r t∧∀ b,B r t=some b→w'.heap[b]?=w.heap[b]?):RootOK w' B' H' V' r' v:=by
 cases h with
 | own h=>exact .own (h.turn hm (p:=[]) (q:=[]) (fun t s hs=>by simpa using hb t s hs))
 | @obox sz b c cs e hB hh hs h =>
  obtain ⟨e1,e2⟩:=hb [] (false,sz,1) ⟨trivial,rfl⟩
  exact .obox (e1.trans hB) ((e2 b hB).trans hh) hs (fun o ho=>(h o ho).turn hm)
 | @omap es bs b clock cs hB hh hn hbs hcl hk hv =>
  obtain ⟨e1,e2⟩:=hb [] (false,0,1) ⟨trivial,rfl⟩
  exact .omap (e1.trans hB) ((e2 b hB).trans hh) hn hbs hcl (fun i hi=>(hk i hi).turn hm) (fun i hi=>(hv i hi).turn hm)
 | @oiter m since last b seen om hB hh hv =>
  obtain ⟨e1,e2⟩:=hb [] (false,0,1) ⟨trivial,rfl⟩
  exact .oiter (e1.trans hB) ((e2 b hB).trans hh) (hv.turn hm)
 | @oloop i c b d tmps fn hB hh hn h =>
  obtain ⟨e1,e2⟩:=hb [] (false,0,1) ⟨trivial,rfl⟩
  exact .oloop (e1.trans hB) ((e2 b hB).trans hh) hn (fun t=>(h t).turn hm)
/-! Behind a whole step -/
theorem Mono.turn {w B H V w' B' H' V'} (h:Mono w B H V w' B' H' V'):Turn w B H V w' B' H' V':=⟨h.size,fun b hb hf=>⟨(h.free b hb hf).1,.inl (h.free b hb hf).2⟩,h.shape,h.vers,h.root⟩
theorem VR.mono {w B H V w' B' H' V'} (hm:Mono w B H V w' B' H' V') {v:PV} {x:Value} (h:VR w B H V v x):VR w' B' H' V' v x:=h.turn hm.turn
theorem TR.mono {w B H V w' B' H' V' r r'} (hm:Mono w B H V w' B' H' V') {p q:Path} {v:PV} {x:Value} (h:TR w B H V r p v x)
  (hb:∀ t s,at? v t s→B' r' (q++t)=B r (p++t)∧∀ b,B r (p++t)=some b→w'.heap[b]?=w.heap[b]?):TR w' B' H' V' r' q v x:=h.turn hm.turn hb
theorem RootOK.mono {w B H V w' B' H' V' r r'} (hm:Mono w B H V w' B' H' V') {v:PV} (h:RootOK w B H V r v)
  (hb:∀ t s,at? v t s→B' r' t=B r t∧∀ b,B r t=some b→w'.heap[b]?=w.heap[b]?):RootOK w' B' H' V' r' v:=h.turn hm.turn hb
end Go.Ab
namespace Go.Ab

structure St where
 nt:Nat
 tm:List (Nat × PV)
 hp:List (RId × Root)
 nv:Nat

def lk:List (Nat × PV)→Nat→PV
 | [],_ => .undef
 | (k,v)::l,j=>if j=k then v else lk l j

def lkH:List (RId × Root)→Roots
 | [],_=>none
 | (k,v)::l,j=>if j=k then some v else lkH l j

def setH (h:List (RId × Root)) (r:RId):Option Root→List (RId × Root)
 | some x=>(r,x)::delH h r
 | none=>delH h r
where
 delH:List (RId × Root)→RId→List (RId × Root)
 | [],_=>[]
 | (k,v)::l,j=>if j=k then delH l j else (k,v)::delH l j

theorem lookH_delH (h:List (RId × Root)) (r j:RId):lkH (setH.delH h r) j=if j=r then none else lkH h j:=by
 induction h with
 | nil=>simp [setH.delH,lkH]
 | cons x l ih =>
  obtain ⟨k,v⟩:=x
  by_cases hk:r=k
  ·subst hk
   simp only [setH.delH,if_true,ih,lkH]
   split <;> rfl
  ·simp only [setH.delH,hk,if_false,lkH,ih]
   by_cases hj:j=k
   ·subst hj
    simp [Ne.symm hk]
   ·simp [hj]

theorem lookH_setH (h:List (RId × Root)) (r j:RId) (x:Option Root):lkH (setH h r x) j=if j=r then x else lkH h j:=by
 cases x with
 | none=>simp [setH,lookH_delH]
 | some y =>
  simp only [setH,lkH,lookH_delH]
  split <;> rfl

inductive A:Type
 | ret (x:PV)
 | vc (p:Prop) [d:Decidable p] (k:A)
 | hyp (p:Prop) (k:A)
 | rd (r:RId) (k:Option Root→A)
 | wr (r:RId) (x:Option Root) (k:A)
 | any (k:Bool→A)
 | dec (p:Prop) [d:Decidable p] (k:Bool→A)
 | opt (o:Option PV) (k:Option PV→A)
 | all (l:List Nat) (k:Nat→A)
 | fail

def A.wp:A→List (RId × Root)→(PV→List (RId × Root)→Prop)→Prop
 | .ret x,h,K=>K x h
 | @A.vc p _ k,h,K=>p∧A.wp k h K
 | .hyp p k,h,K=>p→A.wp k h K
 | .rd r k,h,K=>A.wp (k (lkH h r)) h K
 | .wr r x k,h,K=>A.wp k (setH h r x) K
 | .any k,h,K=>∀ b,A.wp (k b) h K
 | @A.dec p d k,h,K=>A.wp (k (@decide p d)) h K
 | .opt o k,h,K=>A.wp (k o) h K
 | .all l k,h,K=>∀ i,i∈l→A.wp (k i) h K
 | .fail,_,_=>False

def A.ifD (p:Prop) [Decidable p] (a b:A):A := .dec p fun c=>match c with
 | true=>a
 | false=>b
theorem A.ifD_wp {p:Prop} [Decidable p] {a b:A} {h:List (RId × Root)} {K:PV→List (RId × Root)→Prop}:(A.ifD p a b).wp h K=if p then a.wp h K else b.wp h K:=by
 unfold A.ifD
 simp only [A.wp]
 by_cases hp:p <;> simp [hp]

def ors (V:Nat→Prop) (ver:Nat):Nat→Prop:=fun n=>V n∨n=ver

def Real (P:Program) (w:World) (B:Blocks) (hp:List (RId × Root)) (V:Nat→Prop) (ver:Nat) (m:Sem Value) (a:A):Prop :=
 ∀ K,a.wp hp K→∃ v w' B' hp' x,m.run P w = .ok v w'∧K x hp'∧VR w' B' (lkH hp') (ors V ver) x v∧HR w' B' (lkH hp') (ors V ver) ∧
  Mono w B (lkH hp) V w' B' (lkH hp') (ors V ver)

theorem Mono.more (w:World) (B:Blocks) (H:Roots) (V:Nat→Prop) (ver:Nat):Mono w B H V w B H (ors V ver) :=
 ⟨Nat.le_refl _,fun _ _ h=>⟨h,rfl⟩,fun _ _ _ _ h=>⟨h,rfl⟩,fun r p _ h => .inr ⟨r,p,h⟩,fun _ _ h=>h,fun _ h => .inl h,fun _ rt h => .inr ⟨rt,h,rfl,fun _ _ h=>⟨h,rfl⟩⟩,rfl,rfl,rfl⟩

theorem HR.more {w:World} {B:Blocks} {H:Roots} {V:Nat→Prop} (h:HR w B H V) (ver:Nat):HR w B H (ors V ver) where
 root r rt hr:=(h.root r rt hr).mono (Mono.more w B H V ver) (fun _ _ _=>⟨rfl,fun _ _=>rfl⟩)
 ver r rt hr := .inl (h.ver r rt hr)
 dom:=h.dom
 lev:=h.lev
 inj:=h.inj

theorem Real.of_pure {P:Program} {w:World} {B:Blocks} {hp:List (RId × Root)} {V:Nat→Prop} {ver:Nat} {m:Sem Value} {a:A} (hr:HR w B (lkH hp) V)
  (h:∀ K,a.wp hp K→∃ v x,m.run P w = .ok v w∧K x hp∧VR w B (lkH hp) V x v):Real P w B hp V ver m a:=by
 intro K hK
 obtain ⟨v,x,e,k,hv⟩:=h K hK
 exact ⟨v,w,B,hp,x,e,k,hv.mono (Mono.more ..),hr.more ver,Mono.more ..⟩

/-! ### Operands -/
def cv:Value→PV
 | .int k n => .int k n
 | .bool b => .bool b
 | .string s => .str s
 | .pointer none => .nilp
 | .nilFunc => .nilf
 | .map none => .nilm
 | .nilIface => .nili
 | .slice none 0 0 => .nils
 | _ => .undef

theorem VR.cv {w:World} {B:Blocks} {H:Roots} {V:Nat→Prop} (v:Value):VR w B H V (Ab.cv v) v:=by
 unfold Ab.cv
 split <;> constructor

def ev (tm:List (Nat × PV)):Operand→PV
 | .tmp t=>lk tm t
 | .const v=>cv v
 | .global _ => .undef
 | .func f => .func (.func f) [] []

structure FS where
 n:Nat
 lo:Nat
instance:Coe FS Nat:=⟨FS.n⟩

def Marks (w:World) (B:Blocks) (lo:Nat) (ds:List Deferred):Prop:=lo≤w.heap.size∧∃ bs:List Nat,ds=bs.map (fun b=>⟨.collected b,#[]⟩)∧bs.Nodup∧∀ b∈bs,lo≤b∧free B b∧w.heap[b]?=some (.deferred (some []))

theorem Marks.nil {w:World} {B:Blocks} {lo:Nat} (h:lo≤w.heap.size):Marks w B lo []:=⟨h,[],rfl,List.nodup_nil,fun b h=>by simp at h⟩
theorem Marks.mono {w B H V w' B' H' V'} (hm:Mono w B H V w' B' H' V') {lo:Nat} {ds:List Deferred} (h:Marks w B lo ds):Marks w' B' lo ds:=by
 obtain ⟨h0,bs,h1,h2,h3⟩:=h
 refine ⟨Nat.le_trans h0 hm.size,bs,h1,h2,fun b hb=>?_⟩
 obtain ⟨g1,g2,g3⟩:=h3 b hb
 obtain ⟨k1,k2⟩:=hm.free b (lt_of_get g3) g2
 exact ⟨g1,k1,k2.trans g3⟩

structure TmR (w:World) (B:Blocks) (H:Roots) (V:Nat→Prop) (nt:FS) (tm:List (Nat × PV)) (a:Act):Prop where
 val:∀ t,VR w B H V (lk tm t) (a.tmps.getD t undef)
 size:a.tmps.size=nt.n
 defers:Marks w B nt.lo a.defers

theorem TmR.ev {w:World} {B:Blocks} {H:Roots} {V:Nat→Prop} {nt:FS} {tm:List (Nat × PV)} {a:Act} (h:TmR w B H V nt tm a) (x:Operand) :
  VR w B H V (Ab.ev tm x) (a.eval x):=by
 cases x with
 | tmp t=>exact h.val t
 | const v=>exact .cv v
 | global g=>exact .undef _
 | func f=>exact .func (l:=[]) (l':=[]) rfl rfl (fun i hi=>absurd hi (by simp)) (fun i hi=>absurd hi (by simp))

theorem TmR.mono {w B H V w' B' H' V' nt tm a} (hm:Mono w B H V w' B' H' V') (h:TmR w B H V nt tm a):TmR w' B' H' V' nt tm a :=
 ⟨fun t=>(h.val t).mono hm,h.size,h.defers.mono hm⟩

theorem TmR.put {w:World} {B:Blocks} {H:Roots} {V:Nat→Prop} {nt:FS} {tm:List (Nat × PV)} {a:Act} (h:TmR w B H V nt tm a) {d:Nat} (hd:d<nt) {x:PV} {v:Value}
  (hv:VR w B H V x v):TmR w B H V nt ((d,x)::tm) (a.put (some d) v) where
 val t:=by
  simp only [lk,Act.put,Array.getD_eq_getD_getElem?,Array.getElem?_setIfInBounds]
  by_cases ht:t=d
  ·subst ht
   have:t<a.tmps.size:=by have:=h.size;omega
   simp [this,hv]
  ·have:=h.val t
   simp only [Array.getD_eq_getD_getElem?] at this
   simp [ht,Ne.symm ht,this]
 size:=by simp [Act.put,h.size]
 defers:=h.defers

/-! ### Numbers -/
def binA (op:BinOp):PV→PV→A
 | .int k a,.int k' b=>match op with
  | .shl => .vc (0≤b) (.ret (.int k (k.wrap (a*2 ^ (min b.toNat k.bits)))))
  | .shr => .vc (0≤b) (.ret (.int k (a.fdiv (2 ^ (min b.toNat k.bits)))))
  | .add => .vc (k=k') (.ret (.int k (k.wrap (a+b))))
  | .sub => .vc (k=k') (.ret (.int k (k.wrap (a - b))))
  | .mul => .vc (k=k') (.ret (.int k (k.wrap (a*b))))
  | .quo => .vc (k=k'∧b≠0) (.ret (.int k (k.wrap (a.tdiv b))))
  | .rem => .vc (k=k'∧b≠0) (.ret (.int k (a.tmod b)))
  | .and => .vc (k=k') (.ret (.int k (k.wrap (BitVec.ofInt k.bits a &&& BitVec.ofInt k.bits b).toNat)))
  | .or => .vc (k=k') (.ret (.int k (k.wrap (BitVec.ofInt k.bits a ||| BitVec.ofInt k.bits b).toNat)))
  | .xor => .vc (k=k') (.ret (.int k (k.wrap (BitVec.ofInt k.bits a ^^^ BitVec.ofInt k.bits b).toNat)))
  | .andNot => .vc (k=k') (.ret (.int k (k.wrap (BitVec.ofInt k.bits a &&& ~~~BitVec.ofInt k.bits b).toNat)))
  | .eql => .vc (k=k') (.ret (.bool (a == b)))
  | .neq => .vc (k=k') (.ret (.bool (a != b)))
  | .lss => .vc (k=k') (.ret (.bool (decide (a<b))))
  | .leq => .vc (k=k') (.ret (.bool (decide (a≤b))))
  | .gtr => .vc (k=k') (.ret (.bool (decide (a>b))))
  | .geq => .vc (k=k') (.ret (.bool (decide (a≥b))))
 | .str a,.str b=>match op with
  | .add => .vc (a.size+b.size≤140737488355328) (.ret (.str (a++b)))
  | .eql => .ret (.bool (a.toList == b.toList))
  | .neq => .ret (.bool !(a.toList == b.toList))
  | .lss => .ret (.bool (Op.bytesLess a.toList b.toList))
  | .leq => .ret (.bool (Op.bytesLess a.toList b.toList||a.toList == b.toList))
  | .gtr => .ret (.bool !(Op.bytesLess a.toList b.toList||a.toList == b.toList))
  | .geq => .ret (.bool !(Op.bytesLess a.toList b.toList))
  | _ => .fail
 | _,_ => .fail

section
variable {P:Program} {w:World} {B:Blocks} {hp:List (RId × Root)} {V:Nat→Prop} {K:PV→List (RId × Root)→Prop} {m:Sem Value}
theorem fin_int {k:IntKind} {n:Int} (hk:K (.int k n) hp) (h:m.run P w = .ok (.int k n) w):∃ v x,m.run P w = .ok v w∧K x hp∧VR w B (lkH hp) V x v:=⟨_,_,h,hk,.int _ _⟩
theorem fin_bool {b:Bool} (hk:K (.bool b) hp) (h:m.run P w = .ok (.bool b) w):∃ v x,m.run P w = .ok v w∧K x hp∧VR w B (lkH hp) V x v:=⟨_,_,h,hk,.bool _⟩
theorem fin_str {b:ByteArray} (hk:K (.str b) hp) (h:m.run P w = .ok (.string b) w):∃ v x,m.run P w = .ok v w∧K x hp∧VR w B (lkH hp) V x v:=⟨_,_,h,hk,.str _⟩
end

theorem Real.bin {P:Program} {w:World} {B:Blocks} {hp:List (RId × Root)} {V:Nat→Prop} {ver:Nat} (hr:HR w B (lkH hp) V) (op:BinOp) (t:TypeId) (ox oy:Operand) {x y:PV} {vx vy:Value}
  (hx:VR w B (lkH hp) V x vx) (hy:VR w B (lkH hp) V y vy):Real P w B hp V ver (do eqGuard op t ox oy vx vy;binOp op t vx vy) (binA op x y):=by
 refine .of_pure hr fun K hK=>?_
 unfold binA at hK
 split at hK
 ·rename_i k a k' b
  cases hx
  cases hy
  have hg:(eqGuard op t ox oy (.int k a) (.int k' b)).run P w = .ok () w:=by unfold eqGuard;split <;> rfl
  have key:∀ K0:Prop,(K0→∃ v x,(binOp op t (.int k a) (.int k' b)).run P w = .ok v w∧K x hp∧VR w B (lkH hp) V x v)→K0 →
    ∃ v x,(do eqGuard op t ox oy (.int k a) (.int k' b);binOp op t (.int k a) (.int k' b):Sem Value).run P w = .ok v w∧K x hp∧VR w B (lkH hp) V x v:=by
   intro K0 h h0
   simp only [Sem.run_bind,hg,Result.andThen_ok]
   exact h h0
  refine key _ (fun hK=>?_) hK
  cases op <;> simp only [A.wp] at hK <;> obtain ⟨h1,h2⟩:=hK
  case shl=>exact fin_int h2 (by simp [binOp,Op.shift,show ¬ b<0 by omega])
  case shr=>exact fin_int h2 (by simp [binOp,Op.shift,show ¬ b<0 by omega])
  case quo=>obtain ⟨rfl,h1⟩:=h1;exact fin_int h2 (by simp [binOp,Op.intDiv,h1])
  case rem=>obtain ⟨rfl,h1⟩:=h1;exact fin_int h2 (by simp [binOp,Op.intDiv,h1])
  all_goals
   subst h1
   first
    | exact fin_int h2 (by simp [binOp,Op.intArith,Op.intBits])
    | exact fin_bool h2 (by simp [binOp,Op.intCmp])
 ·rename_i a b
  cases hx
  cases hy
  have hg:(eqGuard op t ox oy (.string a) (.string b)).run P w = .ok () w:=by unfold eqGuard;split <;> rfl
  have key:∀ K0:Prop,(K0→∃ v x,(binOp op t (.string a) (.string b)).run P w = .ok v w∧K x hp∧VR w B (lkH hp) V x v)→K0 →
    ∃ v x,(do eqGuard op t ox oy (.string a) (.string b);binOp op t (.string a) (.string b):Sem Value).run P w = .ok v w∧K x hp∧VR w B (lkH hp) V x v:=by
   intro K0 h h0
   simp only [Sem.run_bind,hg,Result.andThen_ok]
   exact h h0
  refine key _ (fun hK=>?_) hK
  cases op <;> simp only [A.wp] at hK
  case add =>
   obtain ⟨h1,h2⟩:=hK
   have:¬ ((a.size+b.size:Nat):Int)>IntKind.i64.max:=by simp only [IntKind.max,IntKind.signed,IntKind.bits];omega
   exact fin_str h2 (by simp only [binOp,Op.stringOp,this,if_false,Sem.run_pure])
  all_goals first|exact fin_bool hK (by simp [binOp,Op.stringOp])|exact hK.elim
 ·exact hK.elim

def unA (op:UnOp):PV→A
 | .bool b=>match op with
  | .not => .ret (.bool !b)
  | _ => .fail
 | .int k a=>match op with
  | .neg => .ret (.int k (k.wrap (0 - a)))
  | .xor => .ret (.int k (k.wrap (BitVec.ofInt k.bits (if k.signed then -1 else k.max) ^^^ BitVec.ofInt k.bits a).toNat))
  | _ => .fail
 | _ => .fail

theorem Real.un {P:Program} {w:World} {B:Blocks} {hp:List (RId × Root)} {V:Nat→Prop} {ver:Nat} (hr:HR w B (lkH hp) V) (op:UnOp) {x:PV} {vx:Value}
  (hx:VR w B (lkH hp) V x vx):Real P w B hp V ver (Op.unary op vx) (unA op x):=by
 refine .of_pure hr fun K hK=>?_
 unfold unA at hK
 split at hK
 ·cases hx
  split at hK
  ·exact ⟨_,_,rfl,hK,.bool _⟩
  ·exact hK.elim
 ·cases hx
  split at hK
  ·exact ⟨_,_,rfl,hK,.int _ _⟩
  ·exact ⟨_,_,rfl,hK,.int _ _⟩
  ·exact hK.elim
 ·exact hK.elim
end Go.Ab
namespace Go.Ab

theorem getAt_append (v:PV) (p q:Path):getAt v (p++q)=getAt (getAt v p) q:=by
 induction p generalizing v with
 | nil=>cases v <;> rfl
 | cons x p ih =>
  obtain ⟨i,o⟩:=x
  cases v <;> simp only [List.cons_append,getAt,ih] <;> (cases q <;> rfl)

theorem okPath_append (v:PV) (p q:Path):okPath v (p++q)↔okPath v p∧okPath (getAt v p) q:=by
 induction p generalizing v with
 | nil=>cases v <;> simp [okPath,getAt]
 | cons x p ih =>
  obtain ⟨i,o⟩:=x
  cases v <;> simp only [List.cons_append,getAt,okPath,ih,and_assoc,false_and]

def cellAt:PV→Nat→Nat→PV
 | .own _ _ f,i,o=>f i o
 | .obox _ c,_,o=>c o
 | _,_,_ => .undef

theorem cellAt_eq {v:PV} {sz n:Nat} (h:shapeOf v=some (true,sz,n)) (i o:Nat):cellAt v i o=getAt v [(i,o)]:=by
 cases v <;> simp_all [shapeOf,cellAt,getAt]

theorem okPath_one {v:PV} {sz n:Nat} (h:shapeOf v=some (true,sz,n)) {i o:Nat} (hi:i<n) (ho:o<sz):okPath v [(i,o)]:=by
 cases v <;> simp_all [shapeOf,okPath]

structure NodeMem (w:World) (B:Blocks) (H:Roots) (V:Nat→Prop) (r:RId) (p:Path) (v:PV) (q:Bool) (sz n:Nat):Prop where
 mk ::
 (out:(B r p=none∧n=0)∨∃ b cs e,B r p=some b∧w.heap[b]?=some (.cells cs e (0,0))∧(n*sz≤cs.size∧OneCells cs) ∧
  ∀ i o,i<n→o<sz→TR w B H V r (p++[(i,o)]) (cellAt v i o) (cs.getD (i*sz+o) Go.undef)∧(q=true∨shapeOf (cellAt v i o)=none))

theorem VR.noShape {w B H V} {v:PV} {x:Value} (h:VR w B H V v x):shapeOf v=none:=by
 cases h <;> rfl

theorem TR.node {w B H V r} {p:Path} {v:PV} {x:Value} (h:TR w B H V r p v x) (q:Path) {q':Bool} {sz n:Nat} (hq:at? v q (q',sz,n)) :
  NodeMem w B H V r (p++q) (getAt v q) q' sz n:=by
 induction h generalizing q with
 | @leaf p v x h =>
  exfalso
  obtain ⟨h1,h2⟩:=hq
  cases q with
  | nil=>cases h <;> simp [getAt,shapeOf] at h2
  | cons y q=>cases h <;> simp [okPath] at h1
 | @own p sz' n' cap b Ad f cs e hAd hB hh hc hn hm h ih =>
  cases q with
  | nil =>
   obtain ⟨_,h2⟩:=hq
   simp only [getAt,shapeOf,Option.some.injEq,Prod.mk.injEq] at h2
   obtain ⟨rfl,rfl,rfl⟩:=h2
   refine ⟨.inr ⟨b,cs,e,by simpa using hB,hh,⟨Nat.le_trans (Nat.mul_le_mul_right _ hn) hc.1,hc.2⟩,fun i o hi ho=>⟨?_,.inl rfl⟩⟩⟩
   simpa [getAt,cellAt] using h i o hi ho
  | cons y q =>
   obtain ⟨i,o⟩:=y
   obtain ⟨⟨hi,ho,h1⟩,h2⟩:=hq
   have:=ih i o hi ho q ⟨h1,h2⟩
   simpa [getAt] using this
 | @nil p sz' f A hB =>
  cases q with
  | nil =>
   obtain ⟨_,h2⟩:=hq
   simp only [getAt,shapeOf,Option.some.injEq,Prod.mk.injEq] at h2
   obtain ⟨_,rfl,rfl⟩:=h2
   exact ⟨.inl ⟨by simpa using hB,rfl⟩⟩
  | cons y q =>
   obtain ⟨i,o⟩:=y
   obtain ⟨⟨hi,_⟩,_⟩:=hq
   omega

theorem RootOK.nodeS {w B H V r} {v:PV} (h:RootOK w B H V r v) (q:Path) {q':Bool} {sz n:Nat} (hq:at? v q (q',sz,n)) (hns:spec (getAt v q)=false):NodeMem w B H V r q (getAt v q) q' sz n:=by
 cases h with
 | own h=>simpa using h.node q hq
 | @obox sz' b c cs e hB hh hs h =>
  have hs1:=hs.1
  cases q with
  | nil =>
   obtain ⟨_,h2⟩:=hq
   simp only [getAt,shapeOf,Option.some.injEq,Prod.mk.injEq] at h2
   obtain ⟨_,rfl,rfl⟩:=h2
   refine ⟨.inr ⟨b,cs,e,hB,hh,⟨by omega,hs.2⟩,fun i o hi ho=>?_⟩⟩
   obtain rfl:i=0:=by omega
   exact ⟨.leaf (by simpa [getAt,cellAt] using h o ho),.inr (by simpa [getAt,cellAt] using (h o ho).noShape)⟩
  | cons y q=>exact hq.1.elim
 | omap=>cases q with|nil=>cases hns|cons y q=>exact hq.1.elim
 | oiter=>cases q with|nil=>cases hns|cons y q=>exact hq.1.elim
 | oloop=>cases q with|nil=>cases hns|cons y q=>exact hq.1.elim

theorem RootOK.node {w B H V r} {v:PV} (h:RootOK w B H V r v) (q:Path) {sz n:Nat} (hq:at? v q (true,sz,n)):NodeMem w B H V r q (getAt v q) true sz n:=h.nodeS q hq (spec_shape hq.2)

def cellV (r:RId) (ver:Nat) (p:Path) (i o:Nat):PV→PV
 | .own sz n _ => .ref r ver (p++[(i,o)]) sz 0 n
 | x=>x

theorem TR.cellV {w B H V r ver} {rt:Root} (hr:HR w B H V) (hH:H r=some rt) (hv:rt.ver=ver) {p:Path} {i o:Nat} {c:PV} {x:Value} {s:Bool × Nat × Nat}
  (hs:at? rt.node p s) (hi:i<s.2.2) (ho:o<s.2.1) (hc:cellAt (getAt rt.node p) i o=c) (hq:s.1=true∨shapeOf c=none) (h:TR w B H V r (p++[(i,o)]) c x):VR w B H V (Ab.cellV r ver p i o c) x:=by
 obtain ⟨q,sz0,n0⟩:=s
 have hpath:q=true→okPath rt.node (p++[(i,o)]):=fun hq=>by
  subst hq
  exact (okPath_append ..).2 ⟨hs.1,okPath_one hs.2 hi ho⟩
 have hget:q=true→getAt rt.node (p++[(i,o)])=c:=fun hq=>by
  subst hq
  rw [getAt_append,← cellAt_eq hs.2,hc]
 cases h with
 | leaf h=>cases h <;> first|(constructor;done)|(constructor <;> assumption)
 | @own _ sz n cap b Ad f cs e hAd hB hh hcap hn hm h =>
  have hq':q=true:=hq.resolve_right (by simp [shapeOf])
  have hat:at? rt.node (p++[(i,o)]) (true,sz,n):=⟨hpath hq',by rw [hget hq'];rfl⟩
  refine .ref (hv▸hr.ver r rt hH) (fun rt' h' _=>?_)
  obtain rfl:rt'=rt:=by rw [hH] at h';exact (Option.some.inj h').symm
  refine ⟨n,hat,Nat.zero_le _,Nat.le_refl _,.inl ⟨b,_,cap,e,cs.size,hB,rfl,by simpa using hn,fun hc0=>by simp [hAd hc0],?_,by simpa using hcap.1⟩⟩
  simp [World.shape?,hh]
 | @nil _ sz f A hB =>
  have hq':q=true:=hq.resolve_right (by simp [shapeOf])
  have hat:at? rt.node (p++[(i,o)]) (true,sz,0):=⟨hpath hq',by rw [hget hq'];rfl⟩
  refine .ref (hv▸hr.ver r rt hH) (fun rt' h' _=>?_)
  obtain rfl:rt'=rt:=by rw [hH] at h';exact (Option.some.inj h').symm
  exact ⟨0,hat,Nat.le_refl _,Nat.le_refl _,.inr ⟨hB,⟨A,rfl⟩,rfl⟩⟩

def isAggT (P:Program) (t:TypeId):Bool:=match P.underlying t with|some (.struct _)|some (.array _ _)=>true|_=>false

def mkV (P:Program) (t:TypeId) (c:Nat→PV) (o:Nat):PV :=
 if isAggT P t then .agg ((List.range (P.cellsOf t)).map fun j=>c (o+j)) else c o

def loadA (P:Program) (t:TypeId):PV→A
 | .fptr sz c o => .vc (P.underlying t≠none∧(P.info? t).isSome∧o+P.cellsOf t≤sz∧0<P.cellsOf t) (.ret (mkV P t c o))
 | .ptr r ver p i o => .rd r fun
  | some rt => .vc (rt.ver=ver) <| match getAt rt.node p with
   | .own sz _ f => .vc (P.underlying t≠none∧(P.info? t).isSome∧o+P.cellsOf t≤sz∧0<P.cellsOf t) (.ret (mkV P t (fun j=>cellV r ver p i j (f i j)) o))
   | .obox sz c => .vc (P.underlying t≠none∧(P.info? t).isSome∧o+P.cellsOf t≤sz∧0<P.cellsOf t) (.ret (mkV P t (fun j=>cellV r ver p i j (c j)) o))
   | _ => .fail
  | none => .fail
 | _ => .fail

theorem run_underlying' {P:Program} {t:TypeId} {d:TypeDesc} (h:P.underlying t=some d) (w:World):(underlying t).run P w = .ok d w:=by
 simp [underlying,h]

theorem run_isAgg' {P:Program} {t:TypeId} (h:P.underlying t≠none) (w:World):(isAgg t).run P w = .ok (isAggT P t) w:=by
 cases hd:P.underlying t with
 | none=>exact absurd hd h
 | some d =>
  simp only [isAgg,Sem.run_bind,run_underlying' hd,Result.andThen_ok,isAggT,hd]
  cases d <;> rfl

theorem run_typeInfo' {P:Program} {t:TypeId} {i:TypeInfo} (h:P.info? t=some i) (w:World):(typeInfo t).run P w = .ok i w:=by
 simp [typeInfo,h]

theorem run_sizeOf' {P:Program} {t:TypeId} (h:(P.info? t).isSome) (w:World):(sizeOf t).run P w = .ok (P.cellsOf t) w:=by
 obtain ⟨i,hi⟩:=Option.isSome_iff_exists.1 h
 simp [sizeOf,typeInfo,hi,Program.cellsOf]

theorem add_plain (b off n:Nat):(⟨b,off,none⟩:Addr).add n=⟨b,off+n,none⟩:=by
 unfold Addr.add
 split
 ·subst_vars;rfl
 ·rfl

theorem run_loadVar' {P:Program} {t:TypeId} {w:World} {b off:Nat} {g:Nat→Value} {c:Nat→PV} {o:Nat} {B:Blocks} {H:Roots} {V:Nat→Prop} (hu:P.underlying t≠none) (hi:(P.info? t).isSome)
  (h0:0<P.cellsOf t) (hc:∀ j,j<P.cellsOf t→w.cell? ⟨b,off+j,none⟩=some (g j)) (hv:∀ j,j<P.cellsOf t→VR w B H V (c (o+j)) (g j)) :
  ∃ v,(loadVar t ⟨b,off,none⟩).run P w = .ok v w∧VR w B H V (mkV P t c o) v:=by
 unfold loadVar mkV
 simp only [Sem.run_bind,run_isAgg' hu,Result.andThen_ok]
 cases isAggT P t with
 | true =>
  simp only [if_true,Sem.run_bind,run_sizeOf' hi,Result.andThen_ok]
  rw [run_loadCells w _ _ g (fun j hj=>by rw [add_plain];exact hc j hj)]
  refine ⟨_,rfl,.agg (by simp) (fun i hi=>?_)⟩
  simp only [List.length_map,List.length_range] at hi
  simpa [List.getD,hi] using hv i hi
 | false =>
  simp only [Bool.false_eq_true,if_false,run_load]
  have:=hc 0 h0
  simp only [Nat.add_zero] at this
  rw [this]
  exact ⟨_,rfl,by simpa using hv 0 h0⟩

theorem load_pure {P:Program} {w:World} {B:Blocks} {hp:List (RId × Root)} {V:Nat→Prop} (hr:HR w B (lkH hp) V) (t:TypeId) {x:PV} {vx:Value}
  (hx:VR w B (lkH hp) V x vx) (K:PV→List (RId × Root)→Prop) (hK:(loadA P t x).wp hp K):∃ v x',(Instr.loadAt t vx).run P w = .ok v w∧K x' hp∧VR w B (lkH hp) V x' v:=by
 unfold loadA at hK
 split at hK
 ·rename_i sz c o
  cases hx with
  | @fptr _ _ _ _ b off _ g ho hf hb hc hg =>
  obtain ⟨⟨hu,hi,hle,h0⟩,hk⟩:=hK
  obtain ⟨v,e,hv⟩:=run_loadVar' (c:=c) (o:=o) (b:=b) (off:=off+o) (g:=fun j=>g (o+j)) hu hi h0
   (fun j hj=>by rw [Nat.add_assoc];exact hc _ (by omega)) (fun j hj=>(hg _ (by omega)).lift (fun _ _ _ h=>h))
  exact ⟨v,_,by simpa [Instr.loadAt,Instr.sureAddr] using e,hk,hv⟩
 ·rename_i r ver' p i o
  cases hx with
  | ptr hver h =>
  simp only [A.wp] at hK
  cases hH:lkH hp r with
  | none=>rw [hH] at hK;exact hK.elim
  | some rt =>
   rw [hH] at hK
   obtain ⟨hv,hK⟩:=hK
   obtain ⟨q,sz,n,b,hat,hin,ho,hB,rfl⟩:=h rt hH hv
   have hnode:=(hr.root r rt hH).nodeS p hat (by revert hK;cases getAt rt.node p <;> simp [spec,A.wp])
   rcases hnode.out with ⟨hBn,_⟩|⟨b',cs,e,hB',hh,hsz,htr⟩
   ·rw [hB] at hBn;cases hBn
   ·obtain rfl:b'=b:=by rw [hB] at hB';exact (Option.some.inj hB').symm
    have fin:∀ (c:Nat→PV),(∀ j,j<sz→c j=cellV r ver' p i j (cellAt (getAt rt.node p) i j))→P.underlying t≠none→(P.info? t).isSome→o+P.cellsOf t≤sz→0<P.cellsOf t →
      ∃ v,(Instr.loadAt t (.pointer (some ⟨b',i*sz+o,none⟩))).run P w = .ok v w∧VR w B (lkH hp) V (mkV P t c o) v:=by
     intro c hcc hu hi hle h0
     have hlt:∀ j,j<P.cellsOf t→i*sz+o+j<cs.size:=fun j hj=>by
      have:i*sz+sz≤n*sz:=by rw [← Nat.succ_mul];exact Nat.mul_le_mul_right _ hin
      omega
     obtain ⟨v,e1,hv1⟩:=run_loadVar' (P:=P) (t:=t) (w:=w) (B:=B) (H:=lkH hp) (V:=V) (c:=c) (o:=o) (b:=b') (off:=i*sz+o) (g:=fun j=>cs.getD (i*sz+o+j) Go.undef) hu hi h0
      (fun j hj=>by
       simp only [World.cell?,hh]
       simp [Array.getD,hlt j hj])
      (fun j hj=>by
       rw [hcc _ (by omega),Nat.add_assoc]
       obtain ⟨g1,g2⟩:=htr i (o+j) hin (by omega)
       exact g1.cellV hr hH hv hat hin (show o+j<sz by omega) rfl g2)
     exact ⟨v,by simpa [Instr.loadAt,Instr.sureAddr] using e1,hv1⟩
    have hsh:=hat.2
    split at hK
    ·rename_i sz' n' f hg
     rw [hg] at hsh
     simp only [shapeOf,Option.some.injEq,Prod.mk.injEq] at hsh
     obtain ⟨_,rfl,rfl⟩:=hsh
     obtain ⟨⟨hu,hi,hle,h0⟩,hk⟩:=hK
     obtain ⟨v,e1,hv1⟩:=fin (fun j=>cellV r ver' p i j (f i j)) (fun j _=>by rw [hg];rfl) hu hi hle h0
     exact ⟨v,_,e1,hk,hv1⟩
    ·rename_i sz' c hg
     rw [hg] at hsh
     simp only [shapeOf,Option.some.injEq,Prod.mk.injEq] at hsh
     obtain ⟨_,rfl,rfl⟩:=hsh
     obtain ⟨⟨hu,hi,hle,h0⟩,hk⟩:=hK
     obtain ⟨v,e1,hv1⟩:=fin (fun j=>cellV r ver' p i j (c j)) (fun j _=>by rw [hg];rfl) hu hi hle h0
     exact ⟨v,_,e1,hk,hv1⟩
    ·exact hK.elim
 ·exact hK.elim

theorem Real.load {P:Program} {w:World} {B:Blocks} {hp:List (RId × Root)} {V:Nat→Prop} {ver:Nat} (hr:HR w B (lkH hp) V) (t:TypeId) {x:PV} {vx:Value}
  (hx:VR w B (lkH hp) V x vx):Real P w B hp V ver (Instr.loadAt t vx) (loadA P t x) := .of_pure hr fun K hK=>load_pure hr t hx K hK
end Go.Ab
namespace Go.Ab

def arrOf (P:Program) (t:TypeId):Option (Nat × TypeId):=match P.underlying t with|some (.array n e)=>some (n,e)|_=>none
def sliceOf (P:Program) (t:TypeId):Option TypeId:=match P.underlying t with|some (.slice e)=>some e|_=>none
def fieldOf (P:Program) (t:TypeId) (f:Nat):Option (TypeId × Nat) :=
 match P.underlying t with|some (.struct fs)=>(fs[f]?).map fun x=>(x.type,x.offset)|_=>none

theorem arrOf_some {P:Program} {t:TypeId} {n:Nat} {e:TypeId} (h:arrOf P t=some (n,e)):P.underlying t=some (.array n e):=by
 unfold arrOf at h;split at h <;> simp_all
theorem sliceOf_some {P:Program} {t:TypeId} {e:TypeId} (h:sliceOf P t=some e):P.underlying t=some (.slice e):=by
 unfold sliceOf at h;split at h <;> simp_all
theorem fieldOf_some {P:Program} {t:TypeId} {f:Nat} {ft:TypeId} {off:Nat} (h:fieldOf P t f=some (ft,off)) :
  ∃ fs fd,P.underlying t=some (.struct fs)∧fs[f]?=some fd∧fd.type=ft∧fd.offset=off:=by
 unfold fieldOf at h
 split at h
 ·rename_i fs hu
  cases hf:fs[f]? with
  | none=>simp [hf] at h
  | some fd=>simp [hf] at h;exact ⟨fs,fd,hu,hf,h.1,h.2⟩
 ·cases h

def indexAddrA (P:Program) (t:TypeId):PV→PV→A
 | .frz sz n f,.int _ j=>match sliceOf P t with
  | some e => .vc (P.cellsOf e=sz∧(P.info? e).isSome∧0≤j∧j<n) (.ret (.fptr sz (f j.toNat) 0))
  | none => .fail
 | .ref r v p sz lo hi,.int _ j=>match sliceOf P t with
  | some e => .rd r fun
   | some rt => .vc (rt.ver=v∧P.cellsOf e=sz∧(P.info? e).isSome∧0≤j∧j<(hi:Int) - (lo:Int)) (.ret (.ptr r v p (lo+j.toNat) 0))
   | none => .fail
  | none => .fail
 | .fptr sz c o,.int _ j=>match arrOf P t with
  | some (n,e) => .vc ((P.info? e).isSome∧0≤j∧j<n∧o+n*P.cellsOf e≤sz) (.ret (.fptr sz c (o+j.toNat*P.cellsOf e)))
  | none => .fail
 | .ptr r v p i o,.int _ j=>match arrOf P t with
  | some (n,e) => .rd r fun
   | some rt => .vc (rt.ver=v) <| match shapeOf (getAt rt.node p) with
    | some (_,sz,_) => .vc ((P.info? e).isSome∧0≤j∧j<n∧o+n*P.cellsOf e≤sz) (.ret (.ptr r v p i (o+j.toNat*P.cellsOf e)))
    | none => .fail
   | none => .fail
  | none => .fail
 | _,_ => .fail

theorem run_indexAt_slice {P:Program} {t e:TypeId} (hu:P.underlying t=some (.slice e)) (hi:(P.info? e).isSome) (w:World) (b off n cap:Nat) (k:IntKind) (j:Int) (h0:0≤j) (h1:j<n) :
  (Instr.indexAt t (.slice (some ⟨b,off,none⟩) n cap) (.int k j)).run P w = .ok (.pointer (some ⟨b,off+j.toNat*P.cellsOf e,none⟩)) w:=by
 simp [Instr.indexAt,asIntOf,run_underlying' hu,run_sizeOf' hi,h0,h1,add_plain]

theorem run_indexAt_array {P:Program} {t e:TypeId} {n:Nat} (hu:P.underlying t=some (.array n e)) (hi:(P.info? e).isSome) (w:World) (b off:Nat) (k:IntKind) (j:Int) (h0:0≤j) (h1:j<n) :
  (Instr.indexAt t (.pointer (some ⟨b,off,none⟩)) (.int k j)).run P w = .ok (.pointer (some ⟨b,off+j.toNat*P.cellsOf e,none⟩)) w:=by
 simp [Instr.indexAt,asIntOf,run_underlying' hu,run_sizeOf' hi,h0,h1,add_plain,Instr.sureAddr]

theorem mul_lt_le {j n s:Nat} (h:j<n):j*s+s≤n*s:=by
 rw [← Nat.succ_mul];exact Nat.mul_le_mul_right _ h

theorem Real.indexAddr {P:Program} {w:World} {B:Blocks} {hp:List (RId × Root)} {V:Nat→Prop} {ver:Nat} (hr:HR w B (lkH hp) V) (t:TypeId) {x y:PV} {vx vy:Value}
  (hx:VR w B (lkH hp) V x vx) (hy:VR w B (lkH hp) V y vy):Real P w B hp V ver (Instr.indexAt t vx vy) (indexAddrA P t x y):=by
 refine .of_pure hr fun K hK=>?_
 unfold indexAddrA at hK
 split at hK
 ·rename_i sz n f k j
  cases hy
  cases hx with
  | @frz _ _ _ _ _ A cap g hn hm hA hg =>
  split at hK
  ·rename_i e he
   obtain ⟨⟨rfl,hi,h0,h1⟩,hk⟩:=hK
   obtain ⟨b,off,rfl,hf,hb,hc⟩:=hA (by omega)
   have hj:j.toNat<n:=by omega
   refine ⟨_,_,run_indexAt_slice (sliceOf_some he) hi w b off n cap k j h0 h1,hk,?_⟩
   exact .fptr (o:=0) (off:=off+j.toNat*P.cellsOf e) (g:=fun o=>g j.toNat o) (Nat.zero_le _) hf hb (fun o ho=>by rw [Nat.add_assoc];exact hc _ _ hj ho) (fun o ho=>hg _ _ hj ho)
  ·exact hK.elim
 ·rename_i r v p sz lo hi k j
  cases hy
  cases hx with
  | ref hv h =>
  split at hK
  ·rename_i e he
   simp only [A.wp] at hK
   cases hH:lkH hp r with
   | none=>rw [hH] at hK;exact hK.elim
   | some rt =>
    rw [hH] at hK
    obtain ⟨⟨hver,rfl,hi',h0,h1⟩,hk⟩:=hK
    obtain ⟨n,hat,hlo,hhi,hx⟩:=h rt hH hver
    rcases hx with ⟨b,A,cap,e',m,hB,rfl,hcap,hA,hsh,hle⟩|⟨hB,⟨A0,rfl⟩,h00⟩
    ·obtain rfl:=hA (by omega)
     refine ⟨_,_,run_indexAt_slice (sliceOf_some he) hi' w b (lo*P.cellsOf e) _ cap k j h0 (by omega),hk,?_⟩
     refine .ptr hv (fun rt' h' hv'=>?_)
     obtain rfl:rt'=rt:=by rw [hH] at h';exact (Option.some.inj h').symm
     exact ⟨true,_,n,b,hat,by omega,Nat.zero_le _,hB,by rw [Nat.add_zero,Nat.add_mul]⟩
    ·omega
  ·exact hK.elim
 ·rename_i sz c o k j
  cases hy
  cases hx with
  | @fptr _ _ _ _ b off _ g ho hf hb hc hg =>
  split at hK
  ·rename_i n e he
   obtain ⟨⟨hi,h0,h1,hle⟩,hk⟩:=hK
   refine ⟨_,_,run_indexAt_array (arrOf_some he) hi w b (off+o) k j h0 h1,hk,?_⟩
   rw [Nat.add_assoc]
   refine .fptr (g:=g) ?_ hf hb hc hg
   have:=mul_lt_le (s:=P.cellsOf e) (show j.toNat<n by omega)
   omega
  ·exact hK.elim
 ·rename_i r v p i o k j
  cases hy
  cases hx with
  | ptr hver h =>
  split at hK
  ·rename_i n e he
   simp only [A.wp] at hK
   cases hH:lkH hp r with
   | none=>rw [hH] at hK;exact hK.elim
   | some rt =>
    rw [hH] at hK
    obtain ⟨hv,hK⟩:=hK
    obtain ⟨q,sz,n',b,hat,hin,ho,hB,rfl⟩:=h rt hH hv
    rw [hat.2] at hK
    obtain ⟨⟨hi,h0,h1,hle⟩,hk⟩:=hK
    refine ⟨_,_,run_indexAt_array (arrOf_some he) hi w b (i*sz+o) k j h0 h1,hk,?_⟩
    refine .ptr hver (fun rt' h' hv'=>?_)
    obtain rfl:rt'=rt:=by rw [hH] at h';exact (Option.some.inj h').symm
    have:=mul_lt_le (s:=P.cellsOf e) (show j.toNat<n by omega)
    exact ⟨q,sz,n',b,hat,hin,by omega,hB,by rw [Nat.add_assoc]⟩
  ·exact hK.elim
 ·exact hK.elim

def fieldAddrA (P:Program) (t:TypeId) (f:Nat):PV→A
 | .fptr sz c o=>match fieldOf P t f with
  | some (ft,off) => .vc ((P.info? ft).isSome∧0<P.cellsOf ft∧o+off≤sz) (.ret (.fptr sz c (o+off)))
  | none => .fail
 | .ptr r v p i o=>match fieldOf P t f with
  | some (ft,off) => .rd r fun
   | some rt => .vc (rt.ver=v) <| match shapeOf (getAt rt.node p) with
    | some (_,sz,_) => .vc ((P.info? ft).isSome∧0<P.cellsOf ft∧o+off≤sz) (.ret (.ptr r v p i (o+off)))
    | none => .fail
   | none => .fail
  | none => .fail
 | _ => .fail

theorem run_fieldAt' {P:Program} {t ft:TypeId} {f off0:Nat} (h:fieldOf P t f=some (ft,off0)) (hi:(P.info? ft).isSome) (h0:0<P.cellsOf ft) (w:World) (b off:Nat) :
  (Instr.fieldAt t (.pointer (some ⟨b,off,none⟩)) f).run P w = .ok (.pointer (some ⟨b,off+off0,none⟩)) w:=by
 obtain ⟨fs,fd,hu,hf,rfl,rfl⟩:=fieldOf_some h
 simp [Instr.fieldAt,run_underlying' hu,hf,Instr.sureAddr,fieldPlace,run_sizeOf' hi,show P.cellsOf fd.type≠0 by omega,add_plain]

theorem Real.fieldAddr {P:Program} {w:World} {B:Blocks} {hp:List (RId × Root)} {V:Nat→Prop} {ver:Nat} (hr:HR w B (lkH hp) V) (t:TypeId) (f:Nat) {x:PV} {vx:Value}
  (hx:VR w B (lkH hp) V x vx):Real P w B hp V ver (Instr.fieldAt t vx f) (fieldAddrA P t f x):=by
 refine .of_pure hr fun K hK=>?_
 unfold fieldAddrA at hK
 split at hK
 ·rename_i sz c o
  cases hx with
  | @fptr _ _ _ _ b off _ g ho hf hb hc hg =>
  split at hK
  ·rename_i ft off0 he
   obtain ⟨⟨hi,h0,hle⟩,hk⟩:=hK
   refine ⟨_,_,run_fieldAt' he hi h0 w b (off+o),hk,?_⟩
   rw [Nat.add_assoc]
   exact .fptr (g:=g) hle hf hb hc hg
  ·exact hK.elim
 ·rename_i r v p i o
  cases hx with
  | ptr hver h =>
  split at hK
  ·rename_i ft off0 he
   simp only [A.wp] at hK
   cases hH:lkH hp r with
   | none=>rw [hH] at hK;exact hK.elim
   | some rt =>
    rw [hH] at hK
    obtain ⟨hv,hK⟩:=hK
    obtain ⟨q,sz,n',b,hat,hin,ho,hB,rfl⟩:=h rt hH hv
    rw [hat.2] at hK
    obtain ⟨⟨hi,h0,hle⟩,hk⟩:=hK
    refine ⟨_,_,run_fieldAt' he hi h0 w b (i*sz+o),hk,?_⟩
    refine .ptr hver (fun rt' h' hv'=>?_)
    obtain rfl:rt'=rt:=by rw [hH] at h';exact (Option.some.inj h').symm
    exact ⟨q,sz,n',b,hat,hin,hle,hB,by rw [Nat.add_assoc]⟩
  ·exact hK.elim
 ·exact hK.elim

/-! ### nilCheck,extract,pick,moves -/
def nilCheckA:PV→A
 | .fptr sz c o => .ret (.fptr sz c o)
 | .ptr r v p i o => .rd r fun
  | some rt => .vc (rt.ver=v) (.ret (.ptr r v p i o))
  | none => .fail
 | .func (.func f) l l' => .ret (.func (.func f) l l')
 | .func (.yield f) l l' => .ret (.func (.yield f) l l')
 | _ => .fail

def extractA (i:Nat):PV→A
 | .tup l => .vc (i<l.length) (.ret (l.getD i .undef))
 | _ => .fail

theorem Real.extract {P:Program} {w:World} {B:Blocks} {hp:List (RId × Root)} {V:Nat→Prop} {ver:Nat} (hr:HR w B (lkH hp) V) (i:Nat) {x:PV} {vx:Value}
  (hx:VR w B (lkH hp) V x vx):Real P w B hp V ver (Instr.extract vx i) (extractA i x):=by
 refine .of_pure hr fun K hK=>?_
 unfold extractA at hK
 split at hK
 ·rename_i l
  cases hx with
  | @tup _ _ _ cs hl h =>
  obtain ⟨hi,hk⟩:=hK
  have hi':i<cs.size:=by omega
  refine ⟨_,_,?_,hk,h i hi⟩
  simp [Instr.extract,hi',Array.getD]
 ·exact hK.elim

def strip:PV→Bool × PV
 | .whn g v=>(g,v)
 | v=>(true,v)

theorem VR.strip {w B H V} {x:PV} {v:Value} (h:VR w B H V x v) (hg:(Ab.strip x).1=true):VR w B H V (Ab.strip x).2 v:=by
 unfold Ab.strip at *
 split
 ·cases h with
  | whn h _=>exact h hg
 ·exact h

def pickV (c:Bool):PV→PV→Option PV
 | .bool a,.bool b=>some (.bool (bif c then a else b))
 | .int k a,.int k' b=>if k=k' then some (.int k (bif c then a else b)) else none
 | _,_=>none

def pickA0:PV→PV→PV→A
 | .bool c,a,b=>match pickV c (strip a).2 (strip b).2 with
  | some x => .vc ((c=true→(strip a).1=true)∧(c=false→(strip b).1=true)) (.ret x)
  | none => .fail
 | _,_,_ => .fail

theorem Real.pick0 {P:Program} {w:World} {B:Blocks} {hp:List (RId × Root)} {V:Nat→Prop} {ver:Nat} (hr:HR w B (lkH hp) V) {c a b:PV} {vc va vb:Value}
  (hc:VR w B (lkH hp) V c vc) (ha:VR w B (lkH hp) V a va) (hb:VR w B (lkH hp) V b vb):Real P w B hp V ver (do pure (if ← asBool vc then va else vb)) (pickA0 c a b):=by
 refine .of_pure hr fun K hK=>?_
 unfold pickA0 at hK
 split at hK
 ·rename_i c
  cases hc
  split at hK
  ·rename_i x hx
   obtain ⟨⟨h1,h2⟩,hk⟩:=hK
   have ha':=fun h=>ha.strip (h1 h)
   have hb':=fun h=>hb.strip (h2 h)
   unfold pickV at hx
   split at hx
   ·rename_i e1 e2
    rw [e1] at ha'
    rw [e2] at hb'
    cases c
    ·have:=hb' rfl
     cases this
     cases hx
     exact ⟨_,_,by simp [asBool],hk,.bool _⟩
    ·have:=ha' rfl
     cases this
     cases hx
     exact ⟨_,_,by simp [asBool],hk,.bool _⟩
   ·rename_i e1 e2
    rw [e1] at ha'
    rw [e2] at hb'
    split at hx
    ·rename_i hkk
     subst hkk
     cases c
     ·have:=hb' rfl
      cases this
      cases hx
      exact ⟨_,_,by simp [asBool],hk,.int _ _⟩
     ·have:=ha' rfl
      cases this
      cases hx
      exact ⟨_,_,by simp [asBool],hk,.int _ _⟩
    ·cases hx
   ·cases hx
  ·exact hK.elim
 ·exact hK.elim

/-! ### Lengths -/
def pickA (c a b:PV):A:=match b with
 | .undef=>match c with
  | .bool c => .vc (c=true∧(strip a).1=true) (.ret (strip a).2)
  | _ => .fail
 | _=>match a with
  | .undef=>match c with
   | .bool c => .vc (c=false∧(strip b).1=true) (.ret (strip b).2)
   | _ => .fail
  | _=>pickA0 c a b
theorem Real.pick {P:Program} {w:World} {B:Blocks} {hp:List (RId × Root)} {V:Nat→Prop} {ver:Nat} (hr:HR w B (lkH hp) V) {c a b:PV} {vc va vb:Value}
  (hc:VR w B (lkH hp) V c vc) (ha:VR w B (lkH hp) V a va) (hb:VR w B (lkH hp) V b vb):Real P w B hp V ver (do pure (if ← asBool vc then va else vb)) (pickA c a b):=by
 unfold pickA
 split
 ·refine .of_pure hr fun K hK=>?_
  split at hK
  ·cases hc
   obtain ⟨⟨rfl,h⟩,hk⟩:=hK
   exact ⟨_,_,by simp [asBool],hk,ha.strip h⟩
  ·exact hK.elim
 ·split
  ·refine .of_pure hr fun K hK=>?_
   split at hK
   ·cases hc
    obtain ⟨⟨rfl,h⟩,hk⟩:=hK
    exact ⟨_,_,by simp [asBool],hk,hb.strip h⟩
   ·exact hK.elim
  ·exact .pick0 hr hc ha hb

def lenA (P:Program) (t:TypeId):PV→A
 | .frz _ n _=>match sliceOf P t with
  | some _ => .hyp (n≤140737488355328) (.ret (.int .i64 n))
  | none => .fail
 | .nils=>match sliceOf P t with
  | some _ => .ret (.int .i64 0)
  | none => .fail
 | .ref r v _ _ lo hi=>match sliceOf P t with
  | some _ => .rd r fun
   | some rt => .vc (rt.ver=v) (.ret (.int .i64 ((hi:Int) - (lo:Int))))
   | none => .fail
  | none => .fail
 | .str s=>match P.underlying t with
  | some .string => .ret (.int .i64 s.size)
  | _ => .fail
 | _ => .fail

theorem Real.len {P:Program} {w:World} {B:Blocks} {hp:List (RId × Root)} {V:Nat→Prop} {ver:Nat} (hr:HR w B (lkH hp) V) (t rt0:TypeId) {x:PV} {vx:Value}
  (hx:VR w B (lkH hp) V x vx):Real P w B hp V ver (Builtin.len_ #[t] rt0 #[vx]) (lenA P t x):=by
 refine .of_pure hr fun K hK=>?_
 unfold lenA at hK
 split at hK
 ·cases hx with
  | frz hn hm hA hg =>
  split at hK
  ·rename_i e he
   exact ⟨_,_,by simp [Builtin.len_,run_underlying' (sliceOf_some he),goInt],hK hm,.int _ _⟩
  ·exact hK.elim
 ·cases hx
  split at hK
  ·rename_i e he
   exact ⟨_,_,by simp [Builtin.len_,run_underlying' (sliceOf_some he),goInt],hK,.int _ _⟩
  ·exact hK.elim
 ·rename_i r v p sz lo hi
  cases hx with
  | ref hv h =>
  split at hK
  ·rename_i e he
   simp only [A.wp] at hK
   cases hH:lkH hp r with
   | none=>rw [hH] at hK;exact hK.elim
   | some rt =>
    rw [hH] at hK
    obtain ⟨hver,hk⟩:=hK
    obtain ⟨n,hat,hlo,hhi,hx⟩:=h rt hH hver
    rcases hx with ⟨b,A,cap,e',m,hB,rfl,hcap,hA,hsh,hle⟩|⟨hB,⟨A0,rfl⟩,h00⟩
    ·refine ⟨_,_,?_,hk,.int _ _⟩
     have:((hi - lo:Nat):Int)=(hi:Int) - (lo:Int):=by omega
     simp [Builtin.len_,run_underlying' (sliceOf_some he),goInt,this]
    ·refine ⟨_,_,?_,hk,.int _ _⟩
     have:(hi:Int) - (lo:Int)=0:=by omega
     simp [Builtin.len_,run_underlying' (sliceOf_some he),goInt,this]
  ·exact hK.elim
 ·cases hx
  split at hK
  ·rename_i hu
   exact ⟨_,_,by simp [Builtin.len_,run_underlying' hu,goInt],hK,.int _ _⟩
  ·exact hK.elim
 ·exact hK.elim
end Go.Ab
namespace Go.Ab
open Classical

noncomputable def movedB (B:Blocks) (id:RId) (b:Nat) (sz n:Nat) (src:Nat→Nat→Option RId):Blocks:=fun r p =>
 if r=id then match p with
  | []=>some b
  | (i,o)::t=>if i<n∧o<sz then (src i o).bind fun r'=>B r' t else none
 else if ∃ i o,i<n∧o<sz∧src i o=some r then none
 else B r p

structure Fresh (w:World) (B:Blocks) (H:Roots) (V:Nat→Prop) (sz n:Nat) (node:PV) (src:Nat→Nat→Option RId) (cs:Array Value):Prop where
 leaf:∀ i o,i<n→o<sz→src i o=none→VR w B H V (cellAt node i o) (cs.getD (i*sz+o) Go.undef)
 moved:∀ i o r,i<n→o<sz→src i o=some r→∃ rt,H r=some rt∧rt.node=cellAt node i o∧TR w B H V r [] rt.node (cs.getD (i*sz+o) Go.undef)
 inj:∀ i o i' o' r,i<n→o<sz→i'<n→o'<sz→src i o=some r→src i' o'=some r→i=i'∧o=o'
 one:OneCells cs

theorem heap_alloc_lt (w:World) (o:Obj) {b:Nat} (h:b<w.heap.size):(w.alloc o).heap[b]?=w.heap[b]?:=by
 show (w.heap.push o)[b]?=_
 rw [Array.getElem?_push,if_neg (by omega)]

theorem heap_alloc_new (w:World) (o:Obj):(w.alloc o).heap[w.heap.size]?=some o:=by
 show (w.heap.push o)[w.heap.size]?=_
 simp

theorem shape_lt {w:World} {b:Nat} {s:TypeId × Nat} (h:w.shape? b=some s):b<w.heap.size:=by
 unfold World.shape? at h
 cases hb:w.heap[b]? with
 | none=>rw [hb] at h;cases h
 | some x=>exact (Array.getElem?_eq_some_iff.1 hb).1

theorem newRoot {w:World} {B:Blocks} {hp hp':List (RId × Root)} {V:Nat→Prop} {ver:Nat} (hr:HR w B (lkH hp) V) (hver:¬ V ver) (id:RId) (hid:id.1≠0) {q:Bool} {sz n:Nat} {node:PV}
  (hsh:shapeOf node=some (q,sz,n)) {src:Nat→Nat→Option RId} {cs:Array Value} (e:TypeId) (hf:Fresh w B (lkH hp) V sz n node src cs)
  (hq:q=true∨∀ i o,src i o=none) (hn:n≤140737488355328) (hsz:if q=true then n*sz≤cs.size else cs.size=sz)
  (hH:∀ r,lkH hp' r=if r=id then some ⟨ver,node⟩ else if ∃ i o,i<n∧o<sz∧src i o=some r then none else lkH hp r) (hns:spec node=false:=by rfl) :
  HR (w.alloc (.cells cs e)) (movedB B id w.heap.size sz n src) (lkH hp') (ors V ver) ∧
  Mono w B (lkH hp) V (w.alloc (.cells cs e)) (movedB B id w.heap.size sz n src) (lkH hp') (ors V ver):=by
 have hlt:∀ r p b,B r p=some b→b<w.heap.size:=fun r p b h=>(hr.dom r p b h).1
 have hm:Mono w B (lkH hp) V (w.alloc (.cells cs e)) (movedB B id w.heap.size sz n src) (lkH hp') (ors V ver):=by
  refine ⟨by simp,fun b hb hfr=>⟨fun r p=>?_,heap_alloc_lt _ _ hb⟩,fun r p b h0 hb=>⟨?_,heap_alloc_lt _ _ (hlt _ _ _ hb)⟩,fun r p b hb=>?_,fun b s hs=>?_,fun _ h => .inl h,fun r rt' h=>?_,rfl,rfl,rfl⟩
  ·unfold movedB
   split
   ·split
    ·simp;omega
    ·split
     ·rename_i i o t _
      cases hs:src i o with
      | none=>simp
      | some r'=>simpa using hfr r' t
     ·simp
   ·split
    ·simp
    ·exact hfr r p
  ·unfold movedB
   rw [if_neg (fun e0:r=id=>hid (e0▸h0)),if_neg]
   ·exact hb
   ·rintro ⟨i,o,hi,ho,hs⟩
    obtain ⟨rt,h1,_⟩:=hf.moved i o r hi ho hs
    exact hr.lev r rt h1 h0
  ·unfold movedB at hb
   split at hb
   ·split at hb
    ·cases hb;exact .inl (Nat.le_refl _)
    ·split at hb
     ·rename_i i o t _
      cases hs:src i o with
      | none=>simp [hs] at hb
      | some r'=>exact .inr ⟨r',t,by simpa [hs] using hb⟩
     ·cases hb
   ·split at hb
    ·cases hb
    ·exact .inr ⟨r,p,hb⟩
  ·have hb:=shape_lt hs
   simp only [World.shape?] at hs ⊢
   rw [heap_alloc_lt _ _ hb]
   exact hs
  ·rw [hH] at h
   split at h
   ·cases h
    exact .inl hver
   ·rename_i hne
    split at h
    ·cases h
    ·rename_i hnm
     refine .inr ⟨rt',h,rfl,fun p s hp=>⟨hp,?_⟩⟩
     unfold movedB
     rw [if_neg hne,if_neg hnm]
 refine ⟨⟨fun r rt h=>?_,fun r rt h=>?_,fun r p b h=>?_,fun r rt h=>?_,fun r p r' p' b h h'=>?_⟩,hm⟩
 ·rw [hH] at h
  split at h
  ·rename_i hid
   subst hid
   cases h
   have hB0:movedB B r w.heap.size sz n src r []=some w.heap.size:=by simp [movedB]
   have hcell:∀ i o,i<n→o<sz→TR (w.alloc (.cells cs e)) (movedB B r w.heap.size sz n src) (lkH hp') (ors V ver) r [(i,o)] (cellAt node i o) (cs.getD (i*sz+o) Go.undef):=by
    intro i o hi ho
    cases hs:src i o with
    | none=>exact .leaf ((hf.leaf i o hi ho hs).mono hm)
    | some r' =>
     obtain ⟨rt,h1,h2,h3⟩:=hf.moved i o r' hi ho hs
     rw [← h2]
     refine h3.mono hm (fun t s ht=>⟨?_,fun b hb=>heap_alloc_lt _ _ (hlt _ _ _ hb)⟩)
     simp [movedB,hi,ho,hs]
   cases node with
   | own sz' n' f =>
    simp only [shapeOf,Option.some.injEq,Prod.mk.injEq] at hsh
    obtain ⟨rfl,rfl,rfl⟩:=hsh
    exact .own (.own (cap:=n') (Ad:=⟨w.heap.size,0,none⟩) (fun _=>rfl) hB0 (heap_alloc_new ..) ⟨by simpa using hsz,hf.one⟩ (Nat.le_refl _) hn (fun i o hi ho=>by simpa [cellAt] using hcell i o hi ho))
   | obox sz' c =>
    simp only [shapeOf,Option.some.injEq,Prod.mk.injEq] at hsh
    obtain ⟨rfl,rfl,rfl⟩:=hsh
    exact .obox hB0 (heap_alloc_new ..) ⟨by simpa using hsz,hf.one⟩ (fun o ho=>by
     have:=(hf.leaf 0 o (by omega) ho (hq.resolve_left (by simp) 0 o)).mono hm
     simpa [cellAt] using this)
   | _=>simp_all [shapeOf,spec]
  ·rename_i hne
   split at h
   ·cases h
   ·rename_i hnm
    refine (hr.root r rt h).mono hm (fun t s ht=>⟨?_,fun b hb=>heap_alloc_lt _ _ (hlt _ _ _ hb)⟩)
    unfold movedB
    rw [if_neg hne,if_neg hnm]
 ·rw [hH] at h
  split at h
  ·cases h;exact .inr rfl
  ·split at h
   ·cases h
   ·exact .inl (hr.ver r rt h)
 ·unfold movedB at h
  split at h
  ·rename_i hid
   subst hid
   split at h
   ·cases h
    exact ⟨by simp,.inr ⟨⟨ver,node⟩,_,by rw [hH];simp,by cases node <;> simp [okPath],by cases node <;> simpa [getAt] using hsh⟩⟩
   ·rename_i i o t
    split at h
    ·rename_i hio
     cases hs:src i o with
     | none=>simp [hs] at h
     | some r' =>
      simp only [hs,Option.bind_some] at h
      obtain ⟨rt',g1,g2,_⟩:=hf.moved i o r' hio.1 hio.2 hs
      obtain ⟨h1,h23⟩:=hr.dom _ _ _ h
      obtain ⟨rt,s,h2,h3⟩:=h23.resolve_left (hr.lev _ _ g1)
      obtain rfl:rt'=rt:=by rw [g1] at h2;exact Option.some.inj h2
      refine ⟨by simp;omega,.inr ⟨⟨ver,node⟩,s,by rw [hH];simp,?_⟩⟩
      obtain rfl:q=true:=hq.resolve_right (fun hq=>by rw [hq] at hs;cases hs)
      rw [g2,cellAt_eq hsh] at h3
      have:=(okPath_append node [(i,o)] t).2 ⟨okPath_one hsh hio.1 hio.2,h3.1⟩
      have g:=getAt_append node [(i,o)] t
      refine ⟨by simpa using this,?_⟩
      rw [show (i,o)::t=[(i,o)]++t from rfl,g]
      exact h3.2
    ·cases h
  ·rename_i hne
   split at h
   ·cases h
   ·rename_i hnm
    obtain ⟨h1,h0|⟨rt,s,h2,h3⟩⟩:=hr.dom _ _ _ h
    ·exact ⟨by simp;omega,.inl h0⟩
    ·exact ⟨by simp;omega,.inr ⟨rt,s,by rw [hH,if_neg hne,if_neg hnm];exact h2,h3⟩⟩
 ·rw [hH] at h
  split at h
  ·rename_i e0;rw [e0];exact hid
  ·split at h
   ·cases h
   ·exact hr.lev r rt h
 ·-- no block is had twice
  have key:∀ r p,movedB B id w.heap.size sz n src r p=some b →
    (r=id∧p=[]∧b=w.heap.size)∨(∃ i o t r0,r=id∧p=(i,o)::t∧i<n∧o<sz∧src i o=some r0∧B r0 t=some b) ∨
    (r≠id∧(¬ ∃ i o,i<n∧o<sz∧src i o=some r)∧B r p=some b):=by
   intro r p h
   unfold movedB at h
   split at h
   ·rename_i hid
    split at h
    ·cases h;exact .inl ⟨hid,rfl,rfl⟩
    ·rename_i i o t
     split at h
     ·rename_i hio
      cases hs:src i o with
      | none=>simp [hs] at h
      | some r0=>exact .inr (.inl ⟨i,o,t,r0,hid,rfl,hio.1,hio.2,hs,by simpa [hs] using h⟩)
     ·cases h
   ·rename_i hne
    split at h
    ·cases h
    ·rename_i hnm
     exact .inr (.inr ⟨hne,hnm,h⟩)
  rcases key r p h with ⟨rfl,rfl,rfl⟩|⟨i,o,t,r0,rfl,rfl,hi,ho,hs,hb⟩|⟨hne,hnm,hb⟩
  ·rcases key r' p' h' with ⟨rfl,rfl,_⟩|⟨i,o,t,r0,rfl,rfl,hi,ho,hs,hb⟩|⟨hne,hnm,hb⟩
   ·exact ⟨rfl,rfl⟩
   ·have:=hlt _ _ _ hb;omega
   ·have:=hlt _ _ _ hb;omega
  ·rcases key r' p' h' with ⟨rfl,rfl,rfl⟩|⟨i',o',t',r0',rfl,rfl,hi',ho',hs',hb'⟩|⟨hne,hnm,hb'⟩
   ·have:=hlt _ _ _ hb;omega
   ·obtain ⟨rfl,rfl⟩:=hr.inj _ _ _ _ _ hb hb'
    obtain ⟨rfl,rfl⟩:=hf.inj _ _ _ _ _ hi ho hi' ho' hs hs'
    exact ⟨rfl,rfl⟩
   ·obtain ⟨rfl,rfl⟩:=hr.inj _ _ _ _ _ hb hb'
    exact absurd ⟨i,o,hi,ho,hs⟩ hnm
  ·rcases key r' p' h' with ⟨rfl,rfl,rfl⟩|⟨i',o',t',r0',rfl,rfl,hi',ho',hs',hb'⟩|⟨hne',hnm',hb'⟩
   ·have:=hlt _ _ _ hb;omega
   ·obtain ⟨rfl,rfl⟩:=hr.inj _ _ _ _ _ hb hb'
    exact absurd ⟨i',o',hi',ho',hs'⟩ hnm
   ·exact hr.inj _ _ _ _ _ hb hb'
end Go.Ab
namespace Go.Ab
open Classical

def isCell:PV→Bool
 | .int .. | .bool _ | .str _ | .nilp | .nilf | .nilm | .nili | .nils | .frz .. | .fptr .. | .ref .. | .ptr .. | .func .. | .iface .. | .fcl .. | .sref .. | .fmap ..=>true
 | _=>false

def cellsL:PV→Option (List PV)
 | .agg l=>some l
 | v=>if isCell v then some [v] else none

structure LR (w:World) (B:Blocks) (H:Roots) (V:Nat→Prop) (l:List PV) (cs:Array Value):Prop where
 len:l.length=cs.size
 val:∀ i,i<l.length→VR w B H V (l.getD i .undef) (cs.getD i Go.undef)

def stands (H:Roots):PV→Prop
 | .ref r ver _ _ _ _ | .ptr r ver _ _ _ | .sref _ r ver=>∃ rt,H r=some rt∧rt.ver=ver
 | _=>True

theorem VR.oneCell {w B H V} {v:PV} {x:Value} (h:VR w B H V v x) (hc:isCell v=true) (hs:stands H v):x.oneCell'=true∧x.cells=#[x]:=by
 cases h <;> first|exact ⟨rfl,rfl⟩|(simp [isCell] at hc;done)|skip
 case ref r ver p sz lo hi hv h =>
  obtain ⟨rt,h1,h2⟩:=hs
  obtain ⟨n,_,_,_,hx⟩:=h rt h1 h2
  rcases hx with ⟨_,A,cap,_,_,_,rfl,_⟩|⟨_,⟨A0,rfl⟩,_⟩ <;> exact ⟨rfl,rfl⟩
 case ptr r ver p i o hv h =>
  obtain ⟨rt,h1,h2⟩:=hs
  obtain ⟨_,_,_,_,_,_,_,_,rfl⟩:=h rt h1 h2
  exact ⟨rfl,rfl⟩
 case sref k r ver hv h =>
  obtain ⟨rt,h1,h2⟩:=hs
  obtain ⟨_,_,_,rfl⟩:=h rt h1 h2
  cases k <;> exact ⟨rfl,rfl⟩

theorem VR.cellsL {w B H V} {v:PV} {x:Value} {l:List PV} (h:VR w B H V v x) (hl:Ab.cellsL v=some l) (hs:stands H v):LR w B H V l x.cells:=by
 unfold Ab.cellsL at hl
 split at hl
 ·cases hl
  cases h with
  | agg hl h=>exact ⟨hl,h⟩
 ·split at hl
  ·rename_i hc
   cases hl
   obtain ⟨_,e⟩:=h.oneCell hc hs
   rw [e]
   refine ⟨rfl,fun i hi=>?_⟩
   simp at hi
   subst hi
   simpa using h
  ·cases hl

def zeroL (P:Program) (t:TypeId):Option (List PV):=((P.info? t).bind (·.zero)).map fun v=>v.cells.toList.map cv

theorem zeroL_some {P:Program} {t:TypeId} {l:List PV} (h:zeroL P t=some l) (w:World):∃ v,(zeroValue t).run P w = .ok v w∧v.cells.size=l.length ∧
  ∀ B H V,LR w B H V l v.cells:=by
 unfold zeroL at h
 cases hi:P.info? t with
 | none=>simp [hi] at h
 | some i =>
  cases hz:i.zero with
  | none=>simp [hi,hz] at h
  | some v =>
   simp only [hi,Option.bind_some,hz,Option.map_some,Option.some.injEq] at h
   subst h
   refine ⟨v,by simp [zeroValue,typeInfo,hi,hz],by simp,fun B H V=>⟨by simp,fun i hi=>?_⟩⟩
   simp only [List.length_map,Array.length_toList] at hi
   simp only [List.getD,List.getElem?_map,Array.getElem?_toList,Array.getD_eq_getD_getElem?]
   rw [Array.getElem?_eq_getElem hi]
   exact .cv _

def rowL (l:List PV):Nat→PV:=fun o=>l.getD o .undef

theorem newVar_real {P:Program} {w:World} {B:Blocks} {hp:List (RId × Root)} {V:Nat→Prop} {ver:Nat} (hr:HR w B (lkH hp) V) (hver:¬ V ver) (id:RId) (hid:id.1≠0) {l:List PV} {cs:Array Value} (hl:LR w B (lkH hp) V l cs) (hone:OneCells cs) (e:TypeId) :
  ∃ B',HR (w.alloc (.cells cs e)) B' (lkH (setH hp id (some ⟨ver,.obox l.length (rowL l)⟩))) (ors V ver) ∧
   Mono w B (lkH hp) V (w.alloc (.cells cs e)) B' (lkH (setH hp id (some ⟨ver,.obox l.length (rowL l)⟩))) (ors V ver) ∧
   VR (w.alloc (.cells cs e)) B' (lkH (setH hp id (some ⟨ver,.obox l.length (rowL l)⟩))) (ors V ver) (.ptr id ver [] 0 0) (.pointer (some ⟨w.heap.size,0,none⟩)):=by
 have hf:Fresh w B (lkH hp) V l.length 1 (.obox l.length (rowL l)) (fun _ _=>none) cs:=by
  refine ⟨fun i o hi ho _=>?_,(fun i o r _ _ h=>by cases h),(fun _ _ _ _ _ _ _ _ _ h=>by cases h),hone⟩
  obtain rfl:i=0:=by omega
  simpa [cellAt,rowL] using hl.val o ho
 obtain ⟨h1,h2⟩:=newRoot (hp':=setH hp id (some ⟨ver,.obox l.length (rowL l)⟩)) hr hver id hid (q:=false) (sz:=l.length) (n:=1) (node := .obox l.length (rowL l)) rfl e hf (.inr fun _ _=>rfl) (by omega) (by simpa using hl.len.symm) (fun r=>by rw [lookH_setH];simp)
 refine ⟨_,h1,h2,.ptr (.inr rfl) (fun rt h _=>?_)⟩
 rw [lookH_setH,if_pos rfl] at h
 cases h
 exact ⟨false,l.length,1,w.heap.size,⟨trivial,rfl⟩,by omega,Nat.zero_le _,by simp [movedB],by simp⟩

theorem oneCells_of {w B H V} {l:List PV} {cs:Array Value} (hl:LR w B H V l cs) (hc:∀ c∈l,isCell c=true∧stands H c):OneCells cs:=by
 intro i hi
 have h:=hl.val i (by rw [hl.len];exact hi)
 have hm:l.getD i .undef∈l:=by
  have:i<l.length:=by rw [hl.len];exact hi
  simp [List.getD_eq_getElem?_getD,this,List.getElem_mem]
 exact (h.oneCell (hc _ hm).1 (hc _ hm).2).1

def dryCell:PV→Bool
 | .int .. | .bool _ | .str _ | .nilp | .nilf | .nilm | .nili | .nils | .frz .. | .fptr .. | .func .. | .iface ..=>true
 | _=>false
theorem dryCell_one {H:Roots} {c:PV} (h:dryCell c=true):isCell c=true∧stands H c:=by
 cases c <;> simp_all [dryCell,isCell,stands]

def allocA (P:Program) (id:RId) (ver:Nat) (t:TypeId):A :=
 match zeroL P t with
 | some l => .vc (l.all dryCell=true) (.wr id (some ⟨ver,.obox l.length (rowL l)⟩) (.ret (.ptr id ver [] 0 0)))
 | none => .fail

theorem Real.alloc {P:Program} {w:World} {B:Blocks} {hp:List (RId × Root)} {V:Nat→Prop} {ver:Nat} (hr:HR w B (lkH hp) V) (hver:¬ V ver) (id:RId) (hid:id.1≠0) (t:TypeId) :
  Real P w B hp V ver (Instr.alloc t true (.tuple #[])) (allocA P id ver t):=by
 intro K hK
 unfold allocA at hK
 split at hK
 ·rename_i l hz
  obtain ⟨v,e1,e2,e3⟩:=zeroL_some hz w
  obtain ⟨hd,hK⟩:=hK
  obtain ⟨B',h1,h2,h3⟩:=newVar_real (P:=P) hr hver id hid (e3 B (lkH hp) V) (oneCells_of (e3 B (lkH hp) V) fun c hc=>dryCell_one (List.all_eq_true.1 hd c hc)) t
  refine ⟨_,w.alloc (.cells v.cells t),B',_,_,?_,hK,h3,h1,h2⟩
  simp [Instr.alloc,e1,newVar,newRow]
 ·exact hK.elim


def standA:List PV→A→A
 | [],k=>k
 | c::l,k=>match c with
  | .ref r v _ _ _ _ => .rd r fun
   | some rt => .vc (rt.ver=v) (standA l k)
   | none => .fail
  | .ptr r v _ _ _ => .rd r fun
   | some rt => .vc (rt.ver=v) (standA l k)
   | none => .fail
  | .sref _ r v => .rd r fun
   | some rt => .vc (rt.ver=v) (standA l k)
   | none => .fail
  | _=>standA l k

theorem standA_wp {l:List PV} {k:A} {hp:List (RId × Root)} {K:PV→List (RId × Root)→Prop} (h:(standA l k).wp hp K):(∀ c∈l,stands (lkH hp) c)∧k.wp hp K:=by
 induction l with
 | nil=>exact ⟨by simp,h⟩
 | cons c l ih =>
  unfold standA at h
  split at h
  ·rename_i r v p sz lo hi
   simp only [A.wp] at h
   cases hH:lkH hp r with
   | none=>rw [hH] at h;exact h.elim
   | some rt =>
    rw [hH] at h
    obtain ⟨h1,h2⟩:=ih h.2
    exact ⟨by simp;exact ⟨⟨rt,hH,h.1⟩,h1⟩,h2⟩
  ·rename_i r v p i o
   simp only [A.wp] at h
   cases hH:lkH hp r with
   | none=>rw [hH] at h;exact h.elim
   | some rt =>
    rw [hH] at h
    obtain ⟨h1,h2⟩:=ih h.2
    exact ⟨by simp;exact ⟨⟨rt,hH,h.1⟩,h1⟩,h2⟩
  ·rename_i k0 r v
   simp only [A.wp] at h
   cases hH:lkH hp r with
   | none=>rw [hH] at h;exact h.elim
   | some rt =>
    rw [hH] at h
    obtain ⟨h1,h2⟩:=ih h.2
    exact ⟨by simp;exact ⟨⟨rt,hH,h.1⟩,h1⟩,h2⟩
  ·rename_i hr hp' hq'
   obtain ⟨h1,h2⟩:=ih h
   refine ⟨?_,h2⟩
   simp only [List.mem_cons,forall_eq_or_imp]
   refine ⟨?_,h1⟩
   unfold stands
   split
   ·exact absurd rfl (hr _ _ _ _ _ _)
   ·exact absurd rfl (hp' _ _ _ _ _)
   ·exact absurd rfl (hq' _ _ _)
   ·trivial

def boxA (id:RId) (ver:Nat):PV→A
 | .agg l => .vc (l.all isCell=true) (standA l (.wr id (some ⟨ver,.obox l.length (rowL l)⟩) (.ret (.ptr id ver [] 0 0))))
 | .ref r v p sz lo hi => .rd r fun
  | some rt => .vc (rt.ver=v) (.wr id (some ⟨ver,.obox 1 (rowL [.ref r v p sz lo hi])⟩) (.ret (.ptr id ver [] 0 0)))
  | none => .fail
 | .ptr r v p i o => .rd r fun
  | some rt => .vc (rt.ver=v) (.wr id (some ⟨ver,.obox 1 (rowL [.ptr r v p i o])⟩) (.ret (.ptr id ver [] 0 0)))
  | none => .fail
 | .sref k r v => .rd r fun
  | some rt => .vc (rt.ver=v) (.wr id (some ⟨ver,.obox 1 (rowL [.sref k r v])⟩) (.ret (.ptr id ver [] 0 0)))
  | none => .fail
 | v=>if isCell v then .wr id (some ⟨ver,.obox 1 (rowL [v])⟩) (.ret (.ptr id ver [] 0 0)) else .fail

theorem Real.box {P:Program} {w:World} {B:Blocks} {hp:List (RId × Root)} {V:Nat→Prop} {ver:Nat} (hr:HR w B (lkH hp) V) (hver:¬ V ver) (id:RId) (hid:id.1≠0) (t:TypeId) {x:PV} {vx:Value}
  (hx:VR w B (lkH hp) V x vx):Real P w B hp V ver (Instr.box t vx) (boxA id ver x):=by
 have fin:∀ (l:List PV),Ab.cellsL x=some l→stands (lkH hp) x→(∀ c∈l,isCell c=true∧stands (lkH hp) c)→∀ K:PV→List (RId × Root)→Prop,K (.ptr id ver [] 0 0) (setH hp id (some ⟨ver,.obox l.length (rowL l)⟩)) →
   ∃ v w' B' hp' x',(Instr.box t vx).run P w = .ok v w'∧K x' hp'∧VR w' B' (lkH hp') (ors V ver) x' v∧HR w' B' (lkH hp') (ors V ver)∧Mono w B (lkH hp) V w' B' (lkH hp') (ors V ver):=by
  intro l hl hs hcs K hK
  obtain ⟨B',h1,h2,h3⟩:=newVar_real (P:=P) hr hver id hid (hx.cellsL hl hs) (oneCells_of (hx.cellsL hl hs) hcs) t
  refine ⟨_,w.alloc (.cells vx.cells t),B',_,_,?_,hK,h3,h1,h2⟩
  simp [Instr.box,newVar,newRow]
 intro K hK
 unfold boxA at hK
 split at hK
 ·obtain ⟨hc,hK⟩:=hK
  obtain ⟨hs,hK⟩:=standA_wp hK
  exact fin _ rfl trivial (fun c hm=>⟨List.all_eq_true.1 hc c hm,hs c hm⟩) K hK
 ·rename_i r v p sz lo hi
  simp only [A.wp] at hK
  cases hH:lkH hp r with
  | none=>rw [hH] at hK;exact hK.elim
  | some rt =>
   rw [hH] at hK
   exact fin _ rfl ⟨rt,hH,hK.1⟩ (fun c hm=>by simp only [List.mem_singleton] at hm;subst hm;exact ⟨rfl,rt,hH,hK.1⟩) K hK.2
 ·rename_i r v p i o
  simp only [A.wp] at hK
  cases hH:lkH hp r with
  | none=>rw [hH] at hK;exact hK.elim
  | some rt =>
   rw [hH] at hK
   exact fin _ rfl ⟨rt,hH,hK.1⟩ (fun c hm=>by simp only [List.mem_singleton] at hm;subst hm;exact ⟨rfl,rt,hH,hK.1⟩) K hK.2
 ·rename_i k0 r v
  simp only [A.wp] at hK
  cases hH:lkH hp r with
  | none=>rw [hH] at hK;exact hK.elim
  | some rt =>
   rw [hH] at hK
   exact fin _ rfl ⟨rt,hH,hK.1⟩ (fun c hm=>by simp only [List.mem_singleton] at hm;subst hm;exact ⟨rfl,rt,hH,hK.1⟩) K hK.2
 ·rename_i v h1 h2 h3 h4
  split at hK
  ·rename_i hc
   have hst:stands (lkH hp) x:=by
    unfold stands
    split
    ·rename_i e;exact absurd rfl (h2 _ _ _ _ _ _)
    ·rename_i e;exact absurd rfl (h3 _ _ _ _ _)
    ·rename_i e;exact absurd rfl (h4 _ _ _)
    ·trivial
   refine fin [x] ?_ hst (fun c hm=>by simp only [List.mem_singleton] at hm;subst hm;exact ⟨hc,hst⟩) K hK
   ·unfold Ab.cellsL
    split
    ·simp [isCell] at hc
    ·simp [hc]
  ·exact hK.elim
end Go.Ab
namespace Go.Ab
open Classical

def absorbA:List PV→(List PV→A)→A
 | [],k=>k []
 | c::l,k=>match c with
  | .ref r v [] sz 0 hi => .rd r fun
   | some rt=>match rt.node with
    | .own sz' n f => .vc (rt.ver=v∧sz'=sz∧n=hi) (.wr r none (absorbA l fun l'=>k (.own sz' n f::l')))
    | _ => .fail
   | none => .fail
  | .ref r v p sz lo hi => .rd r fun
   | some rt => .vc (rt.ver=v) (absorbA l fun l'=>k (.ref r v p sz lo hi::l'))
   | none => .fail
  | .ptr r v p i o => .rd r fun
   | some rt => .vc (rt.ver=v) (absorbA l fun l'=>k (.ptr r v p i o::l'))
   | none => .fail
  | .sref q r v => .rd r fun
   | some rt => .vc (rt.ver=v) (absorbA l fun l'=>k (.sref q r v::l'))
   | none => .fail
  | .undef | .agg _ | .tup _ | .whn .. | .own .. | .obox .. | .omap .. | .oiter .. | .oloop .. => .fail
  | c=>absorbA l fun l'=>k (c::l')

inductive Absorbed:(hp:List (RId × Root))→List PV→List PV→List (Option RId)→List (RId × Root)→Prop
 | nil (hp:List (RId × Root)):Absorbed hp [] [] [] hp
 | keep {hp hp':List (RId × Root)} {c:PV} {l l':List PV} {m:List (Option RId)} (hc:isCell c=true) (hs:stands (lkH hp) c) (h:Absorbed hp l l' m hp'):Absorbed hp (c::l) (c::l') (none::m) hp'
 | move {hp hp':List (RId × Root)} {l l':List PV} {m:List (Option RId)} {r:RId} {sz n:Nat} {f:Nat→Nat→PV} {rt:Root} (hH:lkH hp r=some rt) (hn:rt.node = .own sz n f)
   (h:Absorbed (setH hp r none) l l' m hp'):Absorbed hp (.ref r rt.ver [] sz 0 n::l) (.own sz n f::l') (some r::m) hp'

theorem absorbA_wp {l : List PV} {k : List PV → A} {hp : List (RId × Root)} {K : PV → List (RId × Root) → Prop} (h : (absorbA l k).wp hp K) :
    ∃ l' m hp', Absorbed hp l l' m hp' ∧ (k l').wp hp' K := by
  induction l generalizing k hp with
  | nil => exact ⟨[], [], hp, .nil hp, h⟩
  | cons c l ih =>
    unfold absorbA at h
    split at h
    · rename_i r v sz hi
      simp only [A.wp] at h
      cases hH : lkH hp r with
      | none => rw [hH] at h; exact h.elim
      | some rt =>
        rw [hH] at h
        simp only at h
        split at h
        · rename_i sz' n f hn
          obtain ⟨⟨rfl, rfl, rfl⟩, h⟩ := h
          obtain ⟨l', m, hp', h1, h2⟩ := ih h
          exact ⟨_, _, hp', .move hH hn h1, h2⟩
        · exact h.elim
    · rename_i r v p sz lo hi _
      simp only [A.wp] at h
      cases hH : lkH hp r with
      | none => rw [hH] at h; exact h.elim
      | some rt =>
        rw [hH] at h
        obtain ⟨hv, h⟩ := h
        obtain ⟨l', m, hp', h1, h2⟩ := ih h
        exact ⟨_, _, hp', .keep rfl ⟨rt, hH, hv⟩ h1, h2⟩
    · rename_i r v p i o
      simp only [A.wp] at h
      cases hH : lkH hp r with
      | none => rw [hH] at h; exact h.elim
      | some rt =>
        rw [hH] at h
        obtain ⟨hv, h⟩ := h
        obtain ⟨l', m, hp', h1, h2⟩ := ih h
        exact ⟨_, _, hp', .keep rfl ⟨rt, hH, hv⟩ h1, h2⟩
    · rename_i q r v
      simp only [A.wp] at h
      cases hH : lkH hp r with
      | none => rw [hH] at h; exact h.elim
      | some rt =>
        rw [hH] at h
        obtain ⟨hv, h⟩ := h
        obtain ⟨l', m, hp', h1, h2⟩ := ih h
        exact ⟨_, _, hp', .keep rfl ⟨rt, hH, hv⟩ h1, h2⟩
    all_goals first
      | exact h.elim
      | (obtain ⟨l', m, hp', h1, h2⟩ := ih h
         refine ⟨_, _, hp', .keep ?_ ?_ h1, h2⟩
         · cases c <;> first | rfl | (exfalso; simp_all; done) | (exfalso; exact (‹∀ (m : PV) (s : Nat) (e : List Nat) (l : Nat), PV.oiter _ _ _ _ = PV.oiter m s e l → False› _ _ _ _ rfl))
         · unfold stands
           split
           · rename_i hr hp hq _ _ _ _ _ _ _ _ _
             exact absurd rfl (hr _ _ _ _ _ _)
           · rename_i hr hp hq _ _ _ _ _ _ _ _ _
             exact absurd rfl (hp _ _ _ _ _)
           · rename_i hr hp hq _ _ _ _ _ _ _ _ _
             exact absurd rfl (hq _ _ _)
           · trivial)

theorem Absorbed.len {hp l l' m hp'} (h:Absorbed hp l l' m hp'):l'.length=l.length∧m.length=l.length:=by
 induction h with
 | nil=>exact ⟨rfl,rfl⟩
 | keep _ _ _ ih=>simp [ih.1,ih.2]
 | move _ _ _ ih=>simp [ih.1,ih.2]

theorem Absorbed.heap {hp l l' m hp'} (h:Absorbed hp l l' m hp'):∀ r,lkH hp' r=if some r∈m then none else lkH hp r:=by
 induction h with
 | nil=>intro r;simp
 | keep _ _ _ ih=>intro r;rw [ih r];simp
 | @move hp hp' l l' m r0 sz n f rt hH hn h ih =>
  intro r
  rw [ih r,lookH_setH]
  by_cases h1:some r∈m
  ·simp [h1]
  ·by_cases h2:r=r0
   ·simp [h2]
   ·simp [h1,h2]

theorem Absorbed.nodup {hp hp':List (RId × Root)} {l l':List PV} {m:List (Option RId)} (h:Absorbed hp l l' m hp'):∀ (i j:Nat) (r:RId),m[i]?=some (some r)→m[j]?=some (some r)→i=j:=by
 have key:∀ {hp hp':List (RId × Root)} {l l':List PV} {m:List (Option RId)},Absorbed hp l l' m hp'→∀ r,lkH hp r=none→some r ∉ m:=by
  intro hp hp' l l' m h
  induction h with
  | nil=>simp
  | keep _ _ _ ih=>intro r hr;simp [ih r hr]
  | @move hp hp' l l' m r0 sz n f rt hH hn h ih =>
   intro r hr
   have hne:r≠r0:=fun e=>by subst e;rw [hH] at hr;cases hr
   simp only [List.mem_cons,Option.some.injEq,hne,false_or]
   exact ih r (by rw [lookH_setH,if_neg hne];exact hr)
 induction h with
 | nil=>intro i j r h;simp at h
 | keep _ _ _ ih =>
  intro i j r h1 h2
  cases i <;> cases j <;> simp at h1 h2 ⊢
  exact ih _ _ _ h1 h2
 | @move hp hp' l l' m r0 sz n f rt hH hn h ih =>
  intro i j r h1 h2
  have hn0:=key h r0 (by rw [lookH_setH,if_pos rfl])
  cases i <;> cases j <;> simp at h1 h2 ⊢
  ·subst h1;exact absurd (List.mem_of_getElem? h2) hn0
  ·subst h2;exact absurd (List.mem_of_getElem? h1) hn0
  ·exact ih _ _ _ h1 h2

theorem Absorbed.at {hp l l' m hp'} (h : Absorbed hp l l' m hp') : ∀ i, i < l.length →
    (m[i]? = some none ∧ l'.getD i .undef = l.getD i .undef ∧ isCell (l.getD i .undef) = true ∧ stands (lkH hp) (l.getD i .undef)) ∨
    ∃ r rt sz n f, m[i]? = some (some r) ∧ lkH hp r = some rt ∧ rt.node = .own sz n f ∧ l.getD i .undef = .ref r rt.ver [] sz 0 n ∧ l'.getD i .undef = .own sz n f := by
  induction h with
  | nil => intro i hi; simp at hi
  | keep hc hs h ih =>
    intro i hi
    cases i with
    | zero => exact .inl ⟨rfl, rfl, hc, hs⟩
    | succ i => simpa using ih i (by simpa using hi)
  | @move hp hp' l l' m r0 sz n f rt hH hn h ih =>
    intro i hi
    cases i with
    | zero => exact .inr ⟨r0, rt, sz, n, f, rfl, hH, hn, rfl, rfl⟩
    | succ i =>
      rcases ih i (by simpa using hi) with ⟨h1, h2, h3, h4⟩ | ⟨r, rt', sz', n', f', h1, h2, h3, h4, h5⟩
      · refine .inl ⟨by simpa using h1, by simpa using h2, by simpa using h3, ?_⟩
        have h5 : stands (lkH hp) (l.getD i .undef) := by
          have key : ∀ c, stands (lkH (setH hp r0 none)) c → stands (lkH hp) c := by
            intro c hc
            cases c <;> first | trivial | (obtain ⟨rt', h6, h7⟩ := hc
                                           rw [lookH_setH] at h6
                                           split at h6
                                           · cases h6
                                           · exact ⟨rt', h6, h7⟩)
          exact key _ h4
        simpa using h5
      · refine .inr ⟨r, rt', sz', n', f', by simpa using h1, ?_, h3, by simpa using h4, by simpa using h5⟩
        rw [lookH_setH] at h2
        split at h2
        · cases h2
        · exact h2

theorem Absorbed.one {hp l l' m hp'} (h:Absorbed hp l l' m hp') {w B V} {cs:Array Value} (hl:LR w B (lkH hp) V l cs):OneCells cs:=by
 refine oneCells_of hl fun c hc=>?_
 obtain ⟨i,hi,rfl⟩:=List.getElem_of_mem hc
 have e:l.getD i .undef=l[i]:=by simp [List.getD_eq_getElem?_getD,hi]
 rcases h.at i hi with ⟨_,_,h3,h4⟩|⟨r,rt,sz,n,f,_,h2,_,h4,_⟩
 ·rw [e] at h3 h4;exact ⟨h3,h4⟩
 ·rw [e] at h4;rw [h4];exact ⟨rfl,rt,h2,rfl⟩

theorem whole {w B H V r} {rt:Root} {sz n:Nat} {f:Nat→Nat→PV} {x:Value} (hr:HR w B H V) (hH:H r=some rt) (hn:rt.node = .own sz n f) (hx:VR w B H V (.ref r rt.ver [] sz 0 n) x) :
  TR w B H V r [] rt.node x:=by
 cases hx with
 | ref hv h =>
  obtain ⟨n',hat,_,hle,hx⟩:=h rt hH rfl
  have hnn:n'=n:=by
   have:=hat.2
   rw [hn] at this
   simp [getAt,shapeOf] at this
   exact this.symm
  subst hnn
  have hroot:=hr.root r rt hH
  have hm:n'≤140737488355328:=by
   rw [hn] at hroot
   cases hroot with
   | own h=>cases h with
    | leaf h=>cases h
    | own _ _ _ _ _ hm _=>exact hm
    | nil=>exact Nat.zero_le _
  have hnode:=hroot.node [] hat
  rw [hn] at hnode ⊢
  rcases hx with ⟨b,A,cap,e,m,hB,rfl,hcap,hA,hsh,hle'⟩|⟨hB,⟨A0,rfl⟩,h0⟩
  ·rcases hnode.out with ⟨hB',_⟩|⟨b',cs,e',hB',hh,⟨hsz,hone⟩,htr⟩
   ·rw [hB] at hB';cases hB'
   ·obtain rfl:b'=b:=by rw [hB] at hB';exact (Option.some.inj hB').symm
    have hmm:m=cs.size:=by simp [World.shape?,hh] at hsh;exact hsh.2.symm
    subst hmm
    refine .own (cap:=cap) (fun h=>by simpa using hA h) hB hh ⟨by simpa using hle',hone⟩ (by simpa using hcap) hm (fun i o hi ho=>?_)
    simpa [getAt,cellAt] using (htr i o hi ho).1
  ·subst h0
   exact .nil hB

theorem newRow_real {w:World} {B:Blocks} {hp hp':List (RId × Root)} {V:Nat→Prop} {ver:Nat} (hr:HR w B (lkH hp) V) (hver:¬ V ver) (id:RId) (hid:id.1≠0) {l l':List PV} {m:List (Option RId)} {cs:Array Value}
  (hl:LR w B (lkH hp) V l cs) (ha:Absorbed hp l l' m hp') (e:TypeId) (sz n:Nat) (hsz:n*sz=l.length) (hn:n≤140737488355328) (hsz0:0<sz∨n=0) (more:Array Value) (cap:Nat) (hcap:cap*sz≤(cs++more).size) (hncap:n≤cap) (hone:OneCells (cs++more)) :
  ∃ B',HR (w.alloc (.cells (cs++more) e)) B' (lkH (setH hp' id (some ⟨ver,.own sz n (fun i o=>l'.getD (i*sz+o) .undef)⟩))) (ors V ver) ∧
   Mono w B (lkH hp) V (w.alloc (.cells (cs++more) e)) B' (lkH (setH hp' id (some ⟨ver,.own sz n (fun i o=>l'.getD (i*sz+o) .undef)⟩))) (ors V ver) ∧
   VR (w.alloc (.cells (cs++more) e)) B' (lkH (setH hp' id (some ⟨ver,.own sz n (fun i o=>l'.getD (i*sz+o) .undef)⟩))) (ors V ver) (.ref id ver [] sz 0 n) (.slice (some ⟨w.heap.size,0,none⟩) n cap):=by
 have hlt:∀ i o,i<n→o<sz→i*sz+o<l.length:=fun i o hi ho=>by
  have:=mul_lt_le (s:=sz) hi
  omega
 have hget:∀ j,j<l.length→(cs++more).getD j Go.undef=cs.getD j Go.undef:=fun j hj=>by
  have:=hl.len
  simp only [Array.getD_eq_getD_getElem?]
  rw [Array.getElem?_append_left (by omega)]
 have uniq:∀ i o i' o',i<n→o<sz→i'<n→o'<sz→i*sz+o=i'*sz+o'→i=i'∧o=o':=by
  intro i o i' o' _ ho _ ho' h
  have h1:(i*sz+o) / sz=i:=by rw [Nat.mul_comm,Nat.mul_add_div (by omega),Nat.div_eq_of_lt ho];omega
  have h2:(i'*sz+o') / sz=i':=by rw [Nat.mul_comm,Nat.mul_add_div (by omega),Nat.div_eq_of_lt ho'];omega
  have:i=i':=by rw [← h1,← h2,h]
  subst this
  exact ⟨rfl,by omega⟩
 have hf:Fresh w B (lkH hp) V sz n (.own sz n (fun i o=>l'.getD (i*sz+o) .undef)) (fun i o=>(m[i*sz+o]?).join) (cs++more):=by
  refine ⟨fun i o hi ho hs=>?_,fun i o r hi ho hs=>?_,fun i o i' o' r hi ho hi' ho' hs hs'=>?_,hone⟩
  ·have hj:=hlt i o hi ho
   rw [hget _ hj]
   rcases ha.at _ hj with ⟨h1,h2,h3,_⟩|⟨r,rt,sz',n',f,h1,_⟩
   ·simp only [cellAt,h2]
    exact hl.val _ hj
   ·simp [h1] at hs
  ·have hj:=hlt i o hi ho
   rw [hget _ hj]
   rcases ha.at _ hj with ⟨h1,h2,h3,_⟩|⟨r',rt,sz',n',f,h1,h2,h3,h4,h5⟩
   ·simp [h1] at hs
   ·simp only [h1,Option.join_some,Option.some.injEq] at hs
    subst hs
    refine ⟨rt,h2,by simp only [cellAt,h5,h3],?_⟩
    have:=hl.val _ hj
    rw [h4] at this
    exact whole hr h2 h3 this
  ·have h1:m[i*sz+o]?=some (some r):=by cases hh:m[i*sz+o]? <;> simp_all
   have h2:m[i'*sz+o']?=some (some r):=by cases hh:m[i'*sz+o']? <;> simp_all
   exact uniq i o i' o' hi ho hi' ho' (ha.nodup _ _ _ h1 h2)
 have hcs:n*sz≤(cs++more).size:=by have:=hl.len;simp;omega
 obtain ⟨h1,h2⟩:=newRoot (hp':=setH hp' id (some ⟨ver,.own sz n (fun i o=>l'.getD (i*sz+o) .undef)⟩)) hr hver id hid (q:=true) (sz:=sz) (n:=n) rfl e hf (.inl rfl) hn (by simpa using hcs) (fun r=>by
  rw [lookH_setH]
  split
  ·rfl
  ·rw [ha.heap r]
   by_cases hm:some r∈m
   ·obtain ⟨j,hj⟩:=List.getElem?_of_mem hm
    have hjl:j<l.length:=by rw [← ha.len.2];exact (List.getElem?_eq_some_iff.1 hj).1
    rw [if_pos hm,if_pos]
    rcases hsz0 with h0|h0
    ·refine ⟨j / sz,j % sz,?_,Nat.mod_lt _ h0,?_⟩
     ·rw [Nat.div_lt_iff_lt_mul h0];omega
     ·have:j / sz*sz+j % sz=j:=by rw [Nat.mul_comm];exact Nat.div_add_mod j sz
      simp [this,hj]
    ·subst h0;omega
   ·rw [if_neg hm,if_neg]
    rintro ⟨i,o,hi,ho,hs⟩
    apply hm
    cases hh:m[i*sz+o]? with
    | none=>simp [hh] at hs
    | some x=>simp [hh] at hs;subst hs;exact List.mem_of_getElem? hh)
 refine ⟨_,h1,h2,.ref (.inr rfl) (fun rt h _=>?_)⟩
 rw [lookH_setH,if_pos rfl] at h
 cases h
 refine ⟨n,⟨trivial,rfl⟩,Nat.zero_le _,Nat.le_refl _,.inl ⟨w.heap.size,_,cap,e,(cs++more).size,by simp [movedB],rfl,by simpa using hncap,fun _=>by simp,?_,by simpa using hcap⟩⟩
 simp only [World.shape?,heap_alloc_new]
end Go.Ab
namespace Go.Ab
open Classical

def overL (l:List PV) (off:Nat) (m:List PV):List PV:=l.take off++m++l.drop (off+m.length)

def fillL (place:Nat→Option (Nat × Nat)) (l:List PV):List (Nat × PV)→Option (List PV)
 | []=>some l
 | (i,x)::r=>match place i,cellsL x with
  | some (off,size),some m=>if m.length=size∧off+m.length≤l.length then fillL place (overL l off m) r else none
  | _,_=>none

theorem foldl_set (m:List Value):∀ (k off:Nat) (cs:Array Value) (j:Nat),
  ((m.zipIdx k).foldl (fun cs (x:Value × Nat)=>cs.setIfInBounds (off+x.2) x.1) cs).size=cs.size ∧
  (off+k+m.length≤cs.size→((m.zipIdx k).foldl (fun cs (x:Value × Nat)=>cs.setIfInBounds (off+x.2) x.1) cs).getD j Go.undef =
   if off+k≤j∧j<off+k+m.length then m.getD (j - (off+k)) Go.undef else cs.getD j Go.undef):=by
 induction m with
 | nil=>intro k off cs j;simp;intro _ h1 h2;omega
 | cons x m ih =>
  intro k off cs j
  simp only [List.zipIdx_cons,List.foldl_cons]
  obtain ⟨h2,h3⟩:=ih (k+1) off (cs.setIfInBounds (off+k) x) j
  refine ⟨by rw [h2];simp,fun hle=>?_⟩
  simp only [List.length_cons] at hle
  rw [h3 (by simp;omega)]
  by_cases hj:j=off+k
  ·subst hj
   have:off+k<cs.size:=by omega
   rw [if_neg (by omega),if_pos (by simp)]
   simp [Array.getD_eq_getD_getElem?,this]
  ·have e:(cs.setIfInBounds (off+k) x).getD j Go.undef=cs.getD j Go.undef:=by
    simp [Array.getD_eq_getD_getElem?,Ne.symm hj]
   rw [e]
   by_cases h:off+k≤j∧j<off+k+(m.length+1)
   ·rw [if_pos (by omega),if_pos (by simpa using h)]
    obtain ⟨d,hd⟩:∃ d,j - (off+k)=d+1:=⟨j - (off+k) - 1,by omega⟩
    rw [hd,show j - (off+(k+1))=d by omega]
    rfl
   ·rw [if_neg (by omega),if_neg (by simpa using h)]

theorem getD_overL (l m:List PV) (off j:Nat) (h:off+m.length≤l.length):(overL l off m).getD j .undef=if off≤j∧j<off+m.length then m.getD (j - off) .undef else l.getD j .undef:=by
 unfold overL
 simp only [List.getD_eq_getElem?_getD]
 by_cases h1:j<off
 ·rw [if_neg (by omega),List.append_assoc,List.getElem?_append_left (by simp;omega)]
  simp [h1]
 ·by_cases h2:j<off+m.length
  ·rw [if_pos ⟨by omega,h2⟩,List.append_assoc,List.getElem?_append_right (by simp;omega),List.getElem?_append_left (by simp;omega)]
   simp [show min off l.length=off by omega]
  ·rw [if_neg (by omega),List.getElem?_append_right (by simp;omega)]
   simp only [List.length_append,List.length_take,List.getElem?_drop]
   congr 2
   omega

theorem overL_length (l m:List PV) (off:Nat) (h:off+m.length≤l.length):(overL l off m).length=l.length:=by
 simp [overL];omega

theorem LR.over {w B H V} {l m:List PV} {cs ds:Array Value} (h:LR w B H V l cs) (hm:LR w B H V m ds) (off:Nat) (hle:off+m.length≤l.length) :
  LR w B H V (overL l off m) (ds.zipIdx.foldl (fun cs (x:Value × Nat)=>cs.setIfInBounds (off+x.2) x.1) cs):=by
 have e:ds.zipIdx.foldl (fun cs (x:Value × Nat)=>cs.setIfInBounds (off+x.2) x.1) cs=(ds.toList.zipIdx 0).foldl (fun cs (x:Value × Nat)=>cs.setIfInBounds (off+x.2) x.1) cs:=by
  rw [← Array.foldl_toList,Array.toList_zipIdx]
 rw [e]
 have hlen:ds.toList.length=m.length:=by simp [hm.len]
 refine ⟨?_,fun i hi=>?_⟩
 ·rw [overL_length _ _ _ hle,(foldl_set _ _ _ _ 0).1,h.len]
 ·rw [overL_length _ _ _ hle] at hi
  rw [getD_overL _ _ _ _ hle,(foldl_set ds.toList 0 off cs i).2 (by rw [hlen,← h.len];omega)]
  simp only [Nat.add_zero,hlen]
  split
  ·rename_i hh
   have:=hm.val (i - off) (by omega)
   simpa [Array.getD_eq_getD_getElem?,List.getD_eq_getElem?_getD] using this
  ·exact h.val i hi

theorem fillL_run {w B H V} {place:Nat→Option (Nat × Nat)} {parts:List (Nat × PV)} {vs:List (Nat × Value)}:∀ {l l':List PV} {cs:Array Value},LR w B H V l cs→fillL place l parts=some l' →
  parts.length=vs.length→(∀ i,i<parts.length→(parts.getD i default).1=(vs.getD i default).1∧VR w B H V (parts.getD i default).2 (vs.getD i default).2∧stands H (parts.getD i default).2) →
  ∃ cs',Instr.fill place cs vs=some cs'∧LR w B H V l' cs':=by
 induction parts generalizing vs with
 | nil =>
  intro l l' cs h he hlen _
  cases vs with
  | nil=>cases he;exact ⟨cs,rfl,h⟩
  | cons _ _=>simp at hlen
 | cons p parts ih =>
  intro l l' cs h he hlen hv
  cases vs with
  | nil=>simp at hlen
  | cons q vs =>
   obtain ⟨i,x⟩:=p
   obtain ⟨j,v⟩:=q
   have h0:=hv 0 (by simp)
   simp only [List.getD_cons_zero] at h0
   obtain ⟨rfl,hx,hs⟩:=h0
   simp only [fillL] at he
   cases hp:place i with
   | none=>simp [hp] at he
   | some os =>
    obtain ⟨off,size⟩:=os
    cases hc:cellsL x with
    | none=>simp [hp,hc] at he
    | some m =>
     simp only [hp,hc] at he
     split at he
     ·rename_i hle
      have hm:=hx.cellsL hc hs
      obtain ⟨rfl,hle⟩:=hle
      obtain ⟨cs',e1,e2⟩:=ih (h.over hm off hle) he (by simpa using hlen) (fun k hk=>by simpa using hv (k+1) (by simpa using hk))
      refine ⟨cs',?_,e2⟩
      have h1:v.cells.size=m.length:=hm.len.symm
      have h2:¬ (off+v.cells.size>cs.size):=by rw [h1,← h.len];omega
      simp only [Instr.fill,hp,h1,ne_eq,not_true_eq_false,decide_false,Bool.false_or]
      rw [if_neg (by simp;rw [← h.len];omega)]
      exact e1
     ·cases he

def placeOf (P:Program) (t:TypeId):Option (Nat→Option (Nat × Nat)):=match P.underlying t with
 | some (.struct fs)=>some fun i=>(fs[i]?).map fun f=>(f.offset,P.cellsOf f.type)
 | some (.array _ e)=>some fun i=>some (i*P.cellsOf e,P.cellsOf e)
 | _=>none

def typed (P:Program) (t:TypeId):Bool:=match P.underlying t with
 | some (.struct fs)=>fs.all fun f=>(P.info? f.type).isSome
 | some (.array _ e)=>(P.info? e).isSome
 | _=>false

def buildA (P:Program) (t:TypeId) (parts:List (Nat × PV)):A :=
 match placeOf P t,zeroL P t with
 | some place,some z=>match fillL place z parts with
  | some l => .vc (typed P t=true) (standA (parts.map (·.2)) (.ret (.agg l)))
  | none => .fail
 | _,_ => .fail

theorem mapM_places {P:Program} (w:World):∀ (fs:List Field),(∀ f∈fs,(P.info? f.type).isSome) →
  (fs.mapM (fun f=>(do pure (f.offset,← sizeOf f.type):Sem (Nat × Nat)))).run P w = .ok (fs.map fun f=>(f.offset,P.cellsOf f.type)) w:=by
 intro fs
 induction fs with
 | nil=>intro _;simp
 | cons f fs ih =>
  intro h
  simp only [List.mapM_cons,Sem.run_bind,run_sizeOf' (h f (by simp)),Result.andThen_ok,Sem.run_pure,ih (fun g hg=>h g (by simp [hg])),List.map_cons]

theorem Real.build {P:Program} {w:World} {B:Blocks} {hp:List (RId × Root)} {V:Nat→Prop} {ver:Nat} (hr:HR w B (lkH hp) V) (t:TypeId) {parts:List (Nat × PV)} {vs:Array (Nat × Value)}
  (hlen:parts.length=vs.size) (hv:∀ i,i<parts.length→(parts.getD i default).1=(vs.toList.getD i default).1∧VR w B (lkH hp) V (parts.getD i default).2 (vs.toList.getD i default).2) :
  Real P w B hp V ver (Instr.build t vs) (buildA P t parts):=by
 refine .of_pure hr fun K hK=>?_
 unfold buildA at hK
 split at hK
 ·rename_i place z hp' hz
  split at hK
  ·rename_i l hl
   obtain ⟨hty,hK⟩:=hK
   obtain ⟨hst,hk⟩:=standA_wp hK
   obtain ⟨zv,e1,e2,e3⟩:=zeroL_some hz w
   have hfill:=fillL_run (vs:=vs.toList) (e3 B (lkH hp) V) hl (by simpa using hlen) (fun i hi=>⟨(hv i hi).1,(hv i hi).2,hst _ (by
    rw [List.mem_map]
    exact ⟨parts.getD i default,by simp [hi,List.getElem_mem],rfl⟩)⟩)
   obtain ⟨cs',f1,f2⟩:=hfill
   refine ⟨.agg cs',.agg l,?_,hk,.agg f2.len f2.val⟩
   unfold placeOf at hp'
   unfold typed at hty
   unfold Instr.build
   simp only [Sem.run_bind,e1,Result.andThen_ok]
   split at hp'
   ·rename_i fs hu
    rw [hu] at hty
    cases hp'
    simp only [run_underlying' hu,Result.andThen_ok]
    have hm:=mapM_places (P:=P) w fs.toList (fun f hf=>by
     have:=Array.all_eq_true_iff_forall_mem.1 hty f (by simpa using hf)
     exact this)
    have hm':(fs.mapM (fun f=>(do pure (f.offset,← sizeOf f.type):Sem (Nat × Nat)))).run P w = .ok (fs.map fun f=>(f.offset,P.cellsOf f.type)) w:=by
     rw [Array.mapM_eq_mapM_toList]
     simp only [Sem.run_map,hm,Result.andThen_ok]
     congr 1
     apply Array.ext'
     simp
    have hpl:(fun x:Nat=>(fs.map fun f:Field=>(f.offset,P.cellsOf f.type))[x]?)=fun i=>(fs[i]?).map fun f=>(f.offset,P.cellsOf f.type):=by
     funext i
     simp
    simp only [Sem.run_bind,hm',Result.andThen_ok,hpl,f1,Sem.run_pure]
   ·rename_i n e hu
    rw [hu] at hty
    cases hp'
    simp only [run_underlying' hu,Result.andThen_ok,Sem.run_bind,run_sizeOf' hty,f1,Sem.run_pure]
   ·cases hp'
  ·exact hK.elim
 ·exact hK.elim

/-! ### Slices -/
def repL (l:List PV):Nat→List PV
 | 0=>[]
 | n+1=>repL l n++l

theorem getD_range_mod (zs:Array Value) (n j:Nat) (hj:j<n) (h0:0<zs.size):((Array.range n).map (fun x=>zs[x % zs.size]!)).getD j Go.undef=zs.getD (j % zs.size) Go.undef:=by
 have hm:j % zs.size<zs.size:=Nat.mod_lt _ h0
 simp [Array.getD_eq_getD_getElem?,hj,hm]

def makeSliceA (P:Program) (id:RId) (ver:Nat) (t:TypeId):PV→PV→A
 | .int _ l,.int _ c=>match sliceOf P t with
  | some e=>match zeroL P e with
   | some z => .vc (z.length=P.cellsOf e∧0<P.cellsOf e∧0≤l∧l≤c∧c≤140737488355328∧c*P.bytesOf e≤281474976710656∧z.all dryCell=true)
     (.wr id (some ⟨ver,.own z.length l.toNat fun _ o=>z.getD o .undef⟩) (.ret (.ref id ver [] z.length 0 l.toNat)))
   | none => .fail
  | none => .fail
 | _,_ => .fail

theorem wrap_i64 {n:Int} (h0:0≤n) (h1:n≤140737488355328):IntKind.i64.wrap n=n:=by
 have:n % (2 ^ 64:Int)=n:=Int.emod_eq_of_lt h0 (by omega)
 simp [IntKind.wrap,IntKind.bits,IntKind.signed]
 omega

theorem map_range0 (f:Nat→Value):(Array.range 0).map f=#[]:=by
 apply Array.eq_empty_of_size_eq_zero
 simp

theorem Real.makeSlice {P:Program} {w:World} {B:Blocks} {hp:List (RId × Root)} {V:Nat→Prop} {ver:Nat} (hr:HR w B (lkH hp) V) (hver:¬ V ver) (id:RId) (hid:id.1≠0) (t:TypeId) {x y:PV} {vx vy:Value}
  (hx:VR w B (lkH hp) V x vx) (hy:VR w B (lkH hp) V y vy):Real P w B hp V ver (Instr.makeSlice t vx vy) (makeSliceA P id ver t x y):=by
 intro K hK
 unfold makeSliceA at hK
 split at hK
 ·rename_i k l k' c
  cases hx
  cases hy
  split at hK
  ·rename_i e he
   split at hK
   ·rename_i z hz
    obtain ⟨⟨hzl,h0,hl,hlc,hc,hb,hdry⟩,hk⟩:=hK
    obtain ⟨zv,e1,e2,e3⟩:=zeroL_some hz w
    have hi:(P.info? e).isSome:=by unfold zeroL at hz;cases hh:P.info? e <;> simp_all
    obtain ⟨i,hi'⟩:=Option.isSome_iff_exists.1 hi
    have hbytes:P.bytesOf e=i.bytes:=by simp [Program.bytesOf,hi']
    have w1:IntKind.i64.wrap l=l:=wrap_i64 hl (by omega)
    have w2:IntKind.i64.wrap c=c:=wrap_i64 (by omega) hc
    have e2':zv.cells.size=P.cellsOf e:=by omega
    have hsz:0<c.toNat*P.cellsOf e∨c.toNat=0:=by
     rcases Nat.eq_zero_or_pos c.toNat with h|h
     ·exact .inr h
     ·exact .inl (Nat.mul_pos h h0)
    let cells:Array Value:=(Array.range (c.toNat*P.cellsOf e)).map (fun x=>zv.cells[x % zv.cells.size]!)
    have hrun:(Instr.makeSlice t (.int k l) (.int k' c)).run P w = .ok (.slice (some ⟨w.heap.size,0,none⟩) l.toNat c.toNat) (w.alloc (.cells cells e)):=by
     unfold Instr.makeSlice
     simp only [Sem.run_bind,run_underlying' (sliceOf_some he),Result.andThen_ok,asInt,asIntOf,Sem.run_pure,run_typeInfo' hi',w1,w2]
     have ht:¬ ((i.bytes:Int)*c>2 ^ 48):=by rw [← hbytes,Int.mul_comm];omega
     rw [if_neg (by simp;omega)]
     simp only [Sem.run_bind,run_askRoom,Result.andThen_ok,run_sizeOf' hi]
     by_cases hn:c.toNat*P.cellsOf e=0
     ·simp only [hn,if_true,Sem.run_pure,Result.andThen_ok]
      simp [cells,hn,newRow,map_range0]
     ·simp only [hn,if_false,Sem.run_bind,e1,Sem.run_pure,Result.andThen_ok]
      simp [cells,newRow]
    have hlen:cells.size=c.toNat*P.cellsOf e:=by simp [cells]
    have hcell:∀ i o,o<P.cellsOf e→i*P.cellsOf e+o<c.toNat*P.cellsOf e→cells.getD (i*P.cellsOf e+o) Go.undef=zv.cells.getD o Go.undef:=by
     intro i o ho hlt
     rw [getD_range_mod _ _ _ hlt (by omega),e2']
     congr 1
     rw [Nat.mul_comm,Nat.mul_add_mod,Nat.mod_eq_of_lt ho]
    have hone:OneCells cells:=by
     intro j hj
     rw [hlen] at hj
     have h1:cells.getD j Go.undef=zv.cells.getD (j % zv.cells.size) Go.undef:=getD_range_mod _ _ _ hj (by omega)
     rw [h1]
     exact oneCells_of (e3 B (lkH hp) V) (fun c hc=>dryCell_one (List.all_eq_true.1 hdry c hc)) _ (Nat.mod_lt _ (by omega))
    have hf:Fresh w B (lkH hp) V z.length l.toNat (.own z.length l.toNat fun _ o=>z.getD o .undef) (fun _ _=>none) cells:=by
     refine ⟨fun i o hi ho _=>?_,(fun i o r _ _ h=>by cases h),(fun _ _ _ _ _ _ _ _ _ h=>by cases h),hone⟩
     rw [hzl] at ho ⊢
     rw [hcell i o ho (by have:=mul_lt_le (s:=P.cellsOf e) (show i<c.toNat by omega);omega)]
     exact (e3 B (lkH hp) V).val o (by omega)
    have hcap:l.toNat*z.length≤cells.size:=by rw [hlen,hzl];exact Nat.mul_le_mul_right _ (by omega)
    obtain ⟨h1,h2⟩:=newRoot (hp':=setH hp id (some ⟨ver,.own z.length l.toNat fun _ o=>z.getD o .undef⟩)) hr hver id hid (q:=true) rfl e hf (.inl rfl) (by omega) (by simpa using hcap) (fun r=>by rw [lookH_setH];simp)
    refine ⟨_,_,_,_,_,hrun,hk,.ref (.inr rfl) (fun rt h _=>?_),h1,h2⟩
    rw [lookH_setH,if_pos rfl] at h
    cases h
    refine ⟨l.toNat,⟨trivial,rfl⟩,Nat.zero_le _,Nat.le_refl _,.inl ⟨w.heap.size,_,c.toNat,e,cells.size,by simp [movedB],rfl,by omega,fun _=>by simp,?_,?_⟩⟩
    ·simp only [World.shape?,heap_alloc_new]
    ·rw [hlen,hzl];simp
   ·exact hK.elim
  ·exact hK.elim
 ·exact hK.elim

def buildSliceA (P:Program) (id:RId) (ver:Nat) (t:TypeId) (len:Nat) (parts:List (Nat × PV)):A :=
 match sliceOf P t with
 | some e=>match zeroL P e with
  | some z=>match fillL (fun i=>some (i*P.cellsOf e,P.cellsOf e)) (repL z len) parts with
   | some l => .vc (z.length=P.cellsOf e∧0<P.cellsOf e∧len*P.cellsOf e≤16777216) (standA (parts.map (·.2)) (absorbA l fun l' =>
     .wr id (some ⟨ver,.own (P.cellsOf e) len fun i o=>l'.getD (i*P.cellsOf e+o) .undef⟩) (.ret (.ref id ver [] (P.cellsOf e) 0 len))))
   | none => .fail
  | none => .fail
 | none => .fail

theorem repL_length (l:List PV) (n:Nat):(repL l n).length=n*l.length:=by
 induction n with
 | zero=>simp [repL]
 | succ n ih=>simp [repL,ih,Nat.succ_mul]

theorem repL_getD (l:List PV) (n j:Nat) (h:j<n*l.length):(repL l n).getD j .undef=l.getD (j % l.length) .undef:=by
 induction n with
 | zero=>omega
 | succ n ih =>
  simp only [repL,List.getD_eq_getElem?_getD]
  by_cases hj:j<n*l.length
  ·rw [List.getElem?_append_left (by rw [repL_length];exact hj)]
   simpa [List.getD_eq_getElem?_getD] using ih hj
  ·rw [List.getElem?_append_right (by rw [repL_length];omega),repL_length]
   have h0:0<l.length:=by
    rcases Nat.eq_zero_or_pos l.length with h0|h0
    ·rw [h0] at h;omega
    ·exact h0
   have:j % l.length=j - n*l.length:=by
    rw [Nat.succ_mul] at h
    have h3:j=l.length*n+(j - n*l.length):=by rw [Nat.mul_comm l.length n];omega
    have h4:(l.length*n+(j - n*l.length)) % l.length=j - n*l.length:=by
     rw [Nat.mul_add_mod,Nat.mod_eq_of_lt (by omega)]
    rw [← h3] at h4
    exact h4
   rw [this]

theorem Real.buildSlice {P:Program} {w:World} {B:Blocks} {hp:List (RId × Root)} {V:Nat→Prop} {ver:Nat} (hr:HR w B (lkH hp) V) (hver:¬ V ver) (id:RId) (hid:id.1≠0) (t:TypeId) (len:Nat) {parts:List (Nat × PV)} {vs:Array (Nat × Value)}
  (hlen:parts.length=vs.size) (hv:∀ i,i<parts.length→(parts.getD i default).1=(vs.toList.getD i default).1∧VR w B (lkH hp) V (parts.getD i default).2 (vs.toList.getD i default).2) :
  Real P w B hp V ver (Instr.buildSlice t len vs) (buildSliceA P id ver t len parts):=by
 intro K hK
 unfold buildSliceA at hK
 split at hK
 ·rename_i e he
  split at hK
  ·rename_i z hz
   split at hK
   ·rename_i l hl
    obtain ⟨⟨hzl,h0,hsm⟩,hK⟩:=hK
    obtain ⟨hst,hK⟩:=standA_wp hK
    obtain ⟨l',m,hp',ha,hk⟩:=absorbA_wp hK
    obtain ⟨zv,e1,e2,e3⟩:=zeroL_some hz w
    have hi:(P.info? e).isSome:=by unfold zeroL at hz;cases hh:P.info? e <;> simp_all
    let cells0:Array Value:=(Array.range (len*P.cellsOf e)).map (fun x=>zv.cells[x % zv.cells.size]!)
    have hL0:LR w B (lkH hp) V (repL z len) cells0:=by
     refine ⟨by simp [cells0,repL_length,hzl],fun i hi=>?_⟩
     rw [repL_length] at hi
     rw [repL_getD _ _ _ hi,getD_range_mod _ _ _ (by rw [hzl] at hi;exact hi) (by omega),e2]
     exact (e3 B (lkH hp) V).val _ (Nat.mod_lt _ (by omega))
    obtain ⟨cs',f1,f2⟩:=fillL_run (vs:=vs.toList) hL0 hl (by simpa using hlen) (fun i hi=>⟨(hv i hi).1,(hv i hi).2,hst _ (by
     rw [List.mem_map]
     exact ⟨parts.getD i default,by simp [hi,List.getElem_mem],rfl⟩)⟩)
    have hrun:(Instr.buildSlice t len vs).run P w = .ok (.slice (some ⟨w.heap.size,0,none⟩) len len) (w.alloc (.cells cs' e)):=by
     unfold Instr.buildSlice
     simp only [Sem.run_bind,run_underlying' (sliceOf_some he),Result.andThen_ok,run_sizeOf' hi]
     rw [if_neg (by omega)]
     by_cases hn:len*P.cellsOf e=0
     ·have hc0:cells0=#[]:=by simp [cells0,hn,map_range0]
      rw [hc0] at f1
      simp only [hn,if_true,Sem.run_pure,Result.andThen_ok]
      simp [f1,newRow,map_range0]
     ·simp only [hn,if_false,Sem.run_bind,e1,Sem.run_pure,Result.andThen_ok]
      have:Instr.fill (fun i=>some (i*P.cellsOf e,P.cellsOf e)) ((Array.range (len*P.cellsOf e)).map (fun x=>zv.cells[x % zv.cells.size]!)) vs.toList=some cs':=f1
      simp [this,newRow]
    have hll:l.length=len*P.cellsOf e:=by
     have:∀ (ps:List (Nat × PV)) (a b:List PV),fillL (fun i=>some (i*P.cellsOf e,P.cellsOf e)) a ps=some b→b.length=a.length:=by
      intro ps
      induction ps with
      | nil=>intro a b h;cases h;rfl
      | cons p ps ih =>
       intro a b h
       obtain ⟨i,x⟩:=p
       simp only [fillL] at h
       split at h
       ·rename_i off size mm h1 h2
        split at h
        ·rename_i hle
         rw [ih _ _ h,overL_length _ _ _ hle.2]
        ·cases h
       ·cases h
     rw [this _ _ _ hl,repL_length,hzl]
    have hcs:len*P.cellsOf e≤cs'.size:=by have:=f2.len;omega
    obtain ⟨B',h1,h2,h3⟩:=newRow_real hr hver id hid f2 ha e (P.cellsOf e) len hll.symm (by have:=Nat.le_mul_of_pos_right len h0;omega) (.inl h0) #[] len (by simpa using hcs) (Nat.le_refl _) (by simpa using ha.one f2)
    simp only [Array.append_empty] at h1 h2 h3
    exact ⟨_,_,B',_,_,hrun,hk,h3,h1,h2⟩
   ·exact hK.elim
  ·exact hK.elim
 ·exact hK.elim
end Go.Ab
namespace Go.Ab
open Classical

def setCells (i o:Nat) (l:List PV):PV→PV
 | .own sz n f => .own sz n fun a b=>if a=i∧o≤b∧b<o+l.length then l.getD (b - o) .undef else f a b
 | .obox sz c => .obox sz fun b=>if o≤b∧b<o+l.length then l.getD (b - o) .undef else c b
 | v=>v

def updAt (g:PV→PV):PV→Path→PV
 | v,[]=>g v
 | .own sz n f,(i,o)::p => .own sz n fun a b=>if a=i∧b=o then updAt g (f i o) p else f a b
 | v,_::_=>v

structure Mild (g:PV→PV) (v:PV):Prop where
 shape:shapeOf (g v)=shapeOf v
 cell:∀ sz n,shapeOf v=some (true,sz,n)→∀ i o,i<n→o<sz→∀ q s,at? (cellAt v i o) q s→cellAt (g v) i o=cellAt v i o
 back:∀ sz n,shapeOf v=some (true,sz,n)→∀ i o,i<n→o<sz→∀ q s,at? (cellAt (g v) i o) q s→cellAt (g v) i o=cellAt v i o
 sp:spec (g v)=spec v

theorem at_nil {v:PV} {s:Bool × Nat × Nat}:at? v [] s↔shapeOf v=some s:=by cases v <;> simp [at?,okPath,getAt]

theorem at_cons {v:PV} {i o:Nat} {p:Path} {s:Bool × Nat × Nat}:at? v ((i,o)::p) s↔∃ sz n,shapeOf v=some (true,sz,n)∧i<n∧o<sz∧at? (cellAt v i o) p s:=by
 cases v <;> simp [at?,okPath,getAt,shapeOf,cellAt,and_assoc]

theorem updAt_at (g:PV→PV) (v:PV) (p:Path) {s:Bool × Nat × Nat} (hp:at? v p s) (hg:Mild g (getAt v p)):∀ q s',at? (updAt g v p) q s'↔at? v q s':=by
 induction p generalizing v with
 | nil =>
  have hg':Mild g v:=by cases v <;> simpa [getAt] using hg
  intro q s'
  have e:updAt g v []=g v:=by cases v <;> rfl
  rw [e]
  cases q with
  | nil=>rw [at_nil,at_nil,hg'.shape]
  | cons y q =>
   obtain ⟨i,o⟩:=y
   rw [at_cons,at_cons,hg'.shape]
   constructor
   ·rintro ⟨sz,n,h1,h2,h3,h4⟩
    exact ⟨sz,n,h1,h2,h3,hg'.back sz n h1 i o h2 h3 q s' h4▸h4⟩
   ·rintro ⟨sz,n,h1,h2,h3,h4⟩
    exact ⟨sz,n,h1,h2,h3,(hg'.cell sz n h1 i o h2 h3 q s' h4).symm▸h4⟩
 | cons x p ih =>
  obtain ⟨i,o⟩:=x
  intro q s'
  cases v with
  | own sz n f =>
   obtain ⟨sz',n',h1,h2,h3,h4⟩:=at_cons.1 hp
   simp only [cellAt] at h4
   have ih':=ih (f i o) h4 (by simpa [getAt] using hg)
   cases q with
   | nil=>rw [at_nil,at_nil];simp [updAt,shapeOf]
   | cons y q =>
    obtain ⟨a,b⟩:=y
    rw [at_cons,at_cons]
    simp only [updAt,shapeOf,cellAt]
    by_cases hab:a=i∧b=o
    ·obtain ⟨rfl,rfl⟩:=hab
     simp only [and_self,if_true,ih' q s']
    ·simp only [hab,if_false]
  | _=>exact hp.1.elim

def putCells (cs:Array Value) (off:Nat) (vs:List Value):Array Value:=(vs.zipIdx 0).foldl (fun cs (x:Value × Nat)=>cs.setIfInBounds (off+x.2) x.1) cs

theorem putCells_size (cs:Array Value) (off:Nat) (vs:List Value):(putCells cs off vs).size=cs.size:=(foldl_set vs 0 off cs 0).1

theorem putCells_getD (cs:Array Value) (off:Nat) (vs:List Value) (j:Nat) (h:off+vs.length≤cs.size) :
  (putCells cs off vs).getD j Go.undef=if off≤j∧j<off+vs.length then vs.getD (j - off) Go.undef else cs.getD j Go.undef:=by
 have:=(foldl_set vs 0 off cs j).2 (by omega)
 simpa [putCells] using this

theorem putCells_one {cs:Array Value} {off:Nat} {vs:List Value} (hv:∀ v∈vs,v.oneCell'=true) (h:off+vs.length≤cs.size) (hc:OneCells cs):OneCells (putCells cs off vs):=by
 intro j hj
 rw [putCells_size] at hj
 rw [putCells_getD cs off vs j h]
 by_cases h1:off≤j∧j<off+vs.length
 ·rw [if_pos h1]
  refine hv _ ?_
  simp [List.getD_eq_getElem?_getD,show j - off<vs.length by omega,List.getElem_mem]
 ·rw [if_neg h1];exact hc j hj

def World.putBlock (w:World) (b:Nat) (cs:Array Value):World :=
 { w with heap:=w.heap.modify b fun | .cells _ e fr => .cells cs e fr|o=>o }

theorem putBlock_heap (w:World) (b k:Nat) (cs:Array Value):(World.putBlock w b cs).heap[k]?=if k=b then (w.heap[k]?).map (fun | .cells _ e fr => .cells cs e fr|o=>o) else w.heap[k]?:=by
 simp only [World.putBlock,Array.getElem?_modify]
 by_cases h:k=b
 ·subst h;simp
 ·rw [if_neg (Ne.symm h),if_neg h]

theorem putBlock_self {w:World} {b:Nat} {cs cs':Array Value} {e:TypeId} {fr:Nat × Nat} (h:w.heap[b]?=some (.cells cs e fr)):(World.putBlock w b cs').heap[b]?=some (.cells cs' e fr):=by
 rw [putBlock_heap,if_pos rfl,h];rfl

theorem putBlock_size (w:World) (b:Nat) (cs:Array Value):(World.putBlock w b cs).heap.size=w.heap.size:=by simp [World.putBlock]

theorem setCell_putBlock {w:World} {b:Nat} {cs:Array Value} {e:TypeId} {fr:Nat × Nat} (h:w.heap[b]?=some (.cells cs e fr)) (off:Nat) (v:Value) :
  w.setCell ⟨b,off,none⟩ v=World.putBlock w b (cs.setIfInBounds off v):=by
 have:w.heap.modify b (fun | .cells c elem frozen => .cells (if (none:Option Nat).isSome then c else c.setIfInBounds off v) elem frozen|o=>o)=w.heap.modify b fun | .cells _ e fr => .cells (cs.setIfInBounds off v) e fr|o=>o:=by
  apply Array.ext
  ·simp
  ·intro i h1 h2
   simp only [Array.getElem_modify]
   split
   ·rename_i hb
    subst hb
    obtain ⟨h3,h4⟩:=Array.getElem?_eq_some_iff.1 h
    rw [h4]
    simp
   ·rfl
 simp only [World.setCell,World.putBlock]
 exact congrArg (fun h=>({ w with heap:=h }:World)) this

theorem putBlock_twice {w:World} {b:Nat} (cs cs':Array Value):World.putBlock (World.putBlock w b cs) b cs'=World.putBlock w b cs':=by
 have:(w.heap.modify b (fun | .cells _ e fr => .cells cs e fr|o=>o)).modify b (fun | .cells _ e fr => .cells cs' e fr|o=>o)=w.heap.modify b (fun | .cells _ e fr => .cells cs' e fr|o=>o):=by
  apply Array.ext
  ·simp
  ·intro i h1 h2
   simp only [Array.getElem_modify]
   split
   ·cases w.heap[i]'(by simpa using h2) <;> rfl
   ·rfl
 simp only [World.putBlock]
 exact congrArg (fun h=>({ w with heap:=h }:World)) this

theorem run_storeCells' {P:Program} {b:Nat} {e:TypeId}:∀ (vs:List Value) (w:World) (cs:Array Value) (off k:Nat),w.heap[b]?=some (.cells cs e (0,0))→off+k+vs.length≤cs.size→(∀ v∈vs,v.oneCell'=true)→vs≠[] →
  (storeCells ⟨b,off,none⟩ vs k).run P w = .ok () (World.putBlock w b ((vs.zipIdx k).foldl (fun cs (x:Value × Nat)=>cs.setIfInBounds (off+x.2) x.1) cs)):=by
 intro vs
 induction vs with
 | nil=>intro _ _ _ _ _ _ _ h;exact absurd rfl h
 | cons v vs ih =>
  intro w cs off k hh hle hone _
  simp only [List.length_cons] at hle
  simp only [storeCells,Sem.run_bind]
  have hc:w.cell? ⟨b,off+k,none⟩=some (cs[off+k]'(by omega)):=by simp [World.cell?,hh,show off+k<cs.size by omega]
  have hfz:w.frozen? ⟨b,off+k,none⟩=false:=by simp [World.frozen?,hh]
  rw [add_plain,run_store P w _ v .plain (hone v (by simp)),hc]
  simp only [hfz,Bool.false_eq_true,if_false,Result.andThen_ok,setCell_putBlock hh]
  cases vs with
  | nil=>simp [storeCells]
  | cons v' vs' =>
   rw [ih _ _ off (k+1) (putBlock_self hh) (by simp;simp at hle;omega) (fun x hx=>hone x (by simp [hx])) (by simp),putBlock_twice]
   simp

theorem HR.put {w:World} {B:Blocks} {H H':Roots} {V:Nat→Prop} (hr:HR w B H V) {r:RId} {rt:Root} (hH:H r=some rt) {p:Path} {q:Bool} {sz n:Nat} (hat:at? rt.node p (q,sz,n)) {b:Nat} (hB:B r p=some b)
  {cs cs':Array Value} {e:TypeId} (hh:w.heap[b]?=some (.cells cs e (0,0))) (hsz:cs'.size=cs.size) (hoc:OneCells cs→OneCells cs') {g:PV→PV} (hg:Mild g (getAt rt.node p))
  (hH':∀ j,H' j=if j=r then some ⟨rt.ver,updAt g rt.node p⟩ else H j)
  (hcell:∀ i o,i<n→o<sz→(cellAt (g (getAt rt.node p)) i o=cellAt (getAt rt.node p) i o∧cs'.getD (i*sz+o) Go.undef=cs.getD (i*sz+o) Go.undef) ∨
   VR w B H V (cellAt (g (getAt rt.node p)) i o) (cs'.getD (i*sz+o) Go.undef)) :
  HR (World.putBlock w b cs') B H' V∧Mono w B H V (World.putBlock w b cs') B H' V:=by
 have hupd:=updAt_at g rt.node p hat hg
 have hne:∀ r' p',B r' p'=some b→r'=r∧p'=p:=fun r' p' h=>hr.inj _ _ _ _ _ h hB
 have hheap:∀ k,k≠b→(World.putBlock w b cs').heap[k]?=w.heap[k]?:=fun k hk=>by rw [putBlock_heap,if_neg hk]
 have hm:Mono w B H V (World.putBlock w b cs') B H' V:=by
  refine ⟨by rw [putBlock_size];exact Nat.le_refl _,fun k hk hf=>⟨hf,hheap k (fun e=>hf r p (e▸hB))⟩,fun j p' k h0 hk=>⟨hk,hheap k (fun e=>hr.lev r rt hH ((hne _ _ (e▸hk)).1▸h0))⟩,fun j p' k hk => .inr ⟨j,p',hk⟩,fun k s hs=>?_,fun _ h=>h,fun j rt' h=>?_,rfl,rfl,rfl⟩
  ·by_cases hk:k=b
   ·subst hk
    simp only [World.shape?,hh] at hs
    simp only [World.shape?,putBlock_self hh]
    simpa [hsz] using hs
   ·simp only [World.shape?] at hs ⊢
    rw [hheap k hk]
    exact hs
  ·rw [hH'] at h
   split at h
   ·rename_i hj
    subst hj
    cases h
    exact .inr ⟨rt,hH,rfl,fun q' s hs=>⟨(hupd q' s).2 hs,rfl⟩⟩
   ·exact .inr ⟨rt',h,rfl,fun q' s hs=>⟨hs,rfl⟩⟩
 refine ⟨⟨fun j rt' h=>?_,fun j rt' h=>?_,fun j p' b' h=>?_,fun j rt' h=>?_,fun _ _ _ _ _ h h'=>hr.inj _ _ _ _ _ h h'⟩,hm⟩
 ·rw [hH'] at h
  split at h
  ·rename_i hj
   subst hj
   cases h
   have hroot:=hr.root j rt hH
   have key:∀ (p₁ p₂:Path) (v:PV) (x:Value),p₁++p₂=p→at? v p₂ (q,sz,n)→getAt v p₂=getAt rt.node p→TR w B H V j p₁ v x→TR (World.putBlock w b cs') B H' V j p₁ (updAt g v p₂) x:=by
    intro p₁ p₂
    induction p₂ generalizing p₁ with
    | nil =>
     intro v x hp hv hgv htr
     rw [List.append_nil] at hp
     subst hp
     cases htr with
     | leaf h=>have:=h.noShape;rw [at_nil,this] at hv;cases hv
     | @own _ sz' n' cap b' Ad f cs0 e' hAd hB' hh' hc hn hmx hsub =>
      obtain rfl:b'=b:=by rw [hB] at hB';exact (Option.some.inj hB').symm
      obtain ⟨rfl,rfl⟩:cs0=cs∧e'=e:=by rw [hh] at hh';cases hh';exact ⟨rfl,rfl⟩
      rw [at_nil] at hv
      simp only [shapeOf,Option.some.injEq,Prod.mk.injEq] at hv
      obtain ⟨rfl,rfl,rfl⟩:=hv
      have hgv':getAt rt.node p₁ = .own sz' n' f:=by rw [← hgv];rfl
      have hs:=hg.shape
      rw [hgv'] at hs hcell
      show TR _ _ _ _ _ _ (g (.own sz' n' f)) _
      cases hgo:g (.own sz' n' f) with
      | own sz2 n2 f2 =>
       rw [hgo] at hs
       simp only [shapeOf,Option.some.injEq,Prod.mk.injEq,true_and] at hs
       obtain ⟨rfl,rfl⟩:=hs
       refine .own hAd hB (putBlock_self hh) ⟨by rw [hsz];exact hc.1,hoc hc.2⟩ hn hmx (fun i o hi ho=>?_)
       have:=hcell i o hi ho
       rw [hgo] at this
       simp only [cellAt] at this
       rcases this with ⟨h1,h2⟩|h1
       ·rw [h1,h2]
        refine (hsub i o hi ho).mono hm (fun t s ht=>⟨rfl,fun b2 hb2=>hheap b2 (fun e0=>?_)⟩)
        have:=(hne _ _ (e0▸hb2)).2
        simp at this
       ·exact .leaf (h1.mono hm)
      | _=>rw [hgo] at hs;simp [shapeOf] at hs
     | nil hB'=>rw [hB] at hB';cases hB'
    | cons y p₂ ih =>
     obtain ⟨a,c⟩:=y
     intro v x hp hv hgv htr
     obtain ⟨sz',n',hs,ha,hc',hv'⟩:=at_cons.1 hv
     cases htr with
     | leaf h=>have:=h.noShape;rw [this] at hs;cases hs
     | @own _ sz2 n2 cap b' Ad f cs0 e' hAd hB' hh' hcap hn hmx hsub =>
      simp only [shapeOf,Option.some.injEq,Prod.mk.injEq,true_and] at hs
      obtain ⟨rfl,rfl⟩:=hs
      have hb':b'≠b:=fun e0=>by
       have:=(hne _ _ (e0▸hB')).2
       rw [← hp] at this
       simp at this
      refine .own hAd hB' ((hheap b' hb').trans hh') hcap hn hmx (fun i o hi ho=>?_)
      by_cases hio:i=a∧o=c
      ·obtain ⟨rfl,rfl⟩:=hio
       simp only [and_self,if_true]
       exact ih (p₁++[(i,o)]) (f i o) _ (by simpa using hp) hv' (by simpa [getAt] using hgv) (hsub i o hi ho)
      ·simp only [hio,if_false]
       refine (hsub i o hi ho).mono hm (fun t s ht=>⟨rfl,fun b2 hb2=>hheap b2 (fun e0=>?_)⟩)
       have:=(hne _ _ (e0▸hb2)).2
       rw [← hp,List.append_assoc] at this
       have:=List.append_cancel_left this
       simp at this
       exact hio ⟨this.1.1,this.1.2⟩
     | nil hB' =>
      simp only [shapeOf,Option.some.injEq,Prod.mk.injEq,true_and] at hs
      obtain ⟨rfl,rfl⟩:=hs
      omega
   obtain ⟨ver0,nd⟩:=rt
   simp only at hat hg hcell hroot key ⊢
   cases hroot with
   | @own sz0 n0 f0 v h0 =>
    have:=key [] p _ v rfl hat rfl h0
    have hs0:=(updAt_at g (.own sz0 n0 f0) p hat hg [] (true,sz0,n0)).2 (at_nil.2 rfl)
    rw [at_nil] at hs0
    cases hu:updAt g (.own sz0 n0 f0) p with
    | own sz1 n1 f1=>rw [hu] at this;exact .own this
    | _=>rw [hu] at hs0;simp [shapeOf] at hs0
   | @obox sz0 b0 c0 cs0 e0 hB0 hh0 hs0 h0 =>
    cases p with
    | cons y p=>exact hat.1.elim
    | nil =>
     obtain rfl:b0=b:=by rw [hB] at hB0;exact (Option.some.inj hB0).symm
     obtain ⟨rfl,rfl⟩:cs0=cs∧e0=e:=by rw [hh] at hh0;cases hh0;exact ⟨rfl,rfl⟩
     have h1:=hat.2
     simp only [getAt,shapeOf,Option.some.injEq,Prod.mk.injEq] at h1
     obtain ⟨rfl,rfl,rfl⟩:=h1
     have hs:=hg.shape
     simp only [getAt] at hs hcell
     show RootOK _ _ _ _ _ (g (.obox sz0 c0))
     cases hgo:g (.obox sz0 c0) with
     | obox sz2 c2 =>
      rw [hgo] at hs
      simp only [shapeOf,Option.some.injEq,Prod.mk.injEq,true_and,and_true] at hs
      subst hs
      refine .obox hB (putBlock_self hh) ⟨by rw [hsz];exact hs0.1,hoc hs0.2⟩ (fun o ho=>?_)
      have:=hcell 0 o (by omega) ho
      rw [hgo] at this
      simp only [cellAt,Nat.zero_mul,Nat.zero_add] at this
      rcases this with ⟨h1,h2⟩|h1
      ·rw [h1,h2];exact (h0 o ho).mono hm
      ·exact h1.mono hm
     | omap=>have:=hg.sp;simp only [getAt] at this;rw [hgo] at this;cases this
     | oiter=>have:=hg.sp;simp only [getAt] at this;rw [hgo] at this;cases this
     | oloop=>have:=hg.sp;simp only [getAt] at this;rw [hgo] at this;cases this
     | _=>rw [hgo] at hs;simp [shapeOf] at hs
   | omap hB0 hh0 =>
    cases p with
    | cons y p=>exact hat.1.elim
    | nil=>rw [hB] at hB0;cases hB0;rw [hh] at hh0;cases hh0
   | oiter hB0 hh0 =>
    cases p with
    | cons y p=>exact hat.1.elim
    | nil=>rw [hB] at hB0;cases hB0;rw [hh] at hh0;cases hh0
   | oloop hB0 hh0 =>
    cases p with
    | cons y p=>exact hat.1.elim
    | nil=>rw [hB] at hB0;cases hB0;rw [hh] at hh0;cases hh0
  ·rename_i hj
   refine (hr.root j rt' h).mono hm (fun t s ht=>⟨rfl,fun b2 hb2=>hheap b2 (fun e0=>hj (hne _ _ (e0▸hb2)).1)⟩)
 ·rw [hH'] at h
  split at h
  ·cases h;exact hr.ver r rt hH
  ·exact hr.ver j rt' h
 ·obtain ⟨h1,h0|⟨rt',s,h2,h3⟩⟩:=hr.dom _ _ _ h
  ·exact ⟨by rw [putBlock_size];exact h1,.inl h0⟩
  refine ⟨by rw [putBlock_size];exact h1,.inr ?_⟩
  by_cases hj:j=r
  ·subst hj
   obtain rfl:rt'=rt:=by rw [hH] at h2;exact (Option.some.inj h2).symm
   exact ⟨_,s,by rw [hH',if_pos rfl],(hupd p' s).2 h3⟩
  ·exact ⟨rt',s,by rw [hH',if_neg hj];exact h2,h3⟩
 ·rw [hH'] at h
  split at h
  ·rename_i e0;rw [e0];exact hr.lev r rt hH
  ·exact hr.lev j rt' h

theorem at_leaf {v:PV} (h:shapeOf v=none) (q:Path) (s:Bool × Nat × Nat):¬ at? v q s:=by
 cases q with
 | nil=>rw [at_nil,h];simp
 | cons y q=>obtain ⟨i,o⟩:=y;rw [at_cons,h];simp

theorem setCells_mild {v:PV} {i o:Nat} {l:List PV} (hv:(∃ sz c,v = .obox sz c)∨∃ sz n f,v = .own sz n f∧(∀ j,j<l.length→shapeOf (f i (o+j))=none)) (hl:∀ j,j<l.length→shapeOf (l.getD j .undef)=none):Mild (setCells i o l) v:=by
 rcases hv with ⟨sz,c,rfl⟩|⟨sz,n,f,rfl,hf⟩
 ·exact ⟨rfl,fun _ _ h=>by simp [shapeOf] at h,fun _ _ h=>by simp [shapeOf] at h,rfl⟩
 ·refine ⟨rfl,fun _ _ _ a b _ _ q s h=>?_,fun _ _ _ a b _ _ q s h=>?_,rfl⟩
  ·simp only [setCells,cellAt] at h ⊢
   split
   ·rename_i hab
    obtain ⟨rfl,h1,h2⟩:=hab
    have:=hf (b - o) (by omega)
    rw [show o+(b - o)=b by omega] at this
    exact absurd h (at_leaf this q s)
   ·rfl
  ·simp only [setCells,cellAt] at h ⊢
   split
   ·rename_i hab
    rw [if_pos hab] at h
    exact absurd h (at_leaf (hl (b - o) (by omega)) q s)
   ·rfl

def allCells (l:List PV):Bool:=l.all isCell

def storeA (P:Program) (t:TypeId):PV→PV→A
 | .ptr r ver p i o,x=>match cellsL x with
  | some l => .vc (allCells l=true∧l.length=P.cellsOf t∧(P.info? t).isSome∧0<l.length) <| standA l <| .rd r fun
   | some rt => .vc (rt.ver=ver) <| match getAt rt.node p with
    | .obox sz _ => .vc (o+l.length≤sz) (.wr r (some ⟨rt.ver,updAt (setCells i o l) rt.node p⟩) (.ret .undef))
    | .own sz _ f => .vc (o+l.length≤sz∧∀ j,j<l.length→shapeOf (f i (o+j))=none) (.wr r (some ⟨rt.ver,updAt (setCells i o l) rt.node p⟩) (.ret .undef))
    | _ => .fail
   | none => .fail
  | none => .fail
 | _,_ => .fail

theorem cellsL_stands {H:Roots} {x:PV} {l:List PV} (h:cellsL x=some l) (hs:∀ c∈l,stands H c):stands H x:=by
 unfold cellsL at h
 split at h
 ·trivial
 ·split at h
  ·cases h;exact hs x (by simp)
  ·cases h

theorem VR.oneOf {w B H V} {v:PV} {x:Value} (h:VR w B H V v x) (hc:isCell v=true) (hs:stands H v):x.oneCell'=true:=(h.oneCell hc hs).1

theorem Real.store {P:Program} {w:World} {B:Blocks} {hp:List (RId × Root)} {V:Nat→Prop} {ver:Nat} (hr:HR w B (lkH hp) V) (t:TypeId) {x y:PV} {vx vy:Value}
  (hx:VR w B (lkH hp) V x vx) (hy:VR w B (lkH hp) V y vy):Real P w B hp V ver (do Instr.storeAt t vx vy;pure Go.undef) (storeA P t x y):=by
 intro K hK
 unfold storeA at hK
 split at hK
 ·rename_i r ver' p i o
  split at hK
  ·rename_i l hl
   obtain ⟨⟨hall',hlen,hinfo,hpos⟩,hK⟩:=hK
   obtain ⟨hst,hK⟩:=standA_wp hK
   have hcl:=hy.cellsL hl (cellsL_stands hl hst)
   cases hx with
   | ptr hver h =>
   simp only [A.wp] at hK
   cases hH:lkH hp r with
   | none=>rw [hH] at hK;exact hK.elim
   | some rt =>
    rw [hH] at hK
    obtain ⟨hv,hK⟩:=hK
    obtain ⟨q,sz,n,b,hat,hin,ho,hB,rfl⟩:=h rt hH hv
    have hnode:=(hr.root r rt hH).nodeS p hat (by revert hK;cases getAt rt.node p <;> simp [spec,A.wp])
    rcases hnode.out with ⟨hBn,_⟩|⟨b',cs,e,hB',hh,hsz,htr⟩
    ·rw [hB] at hBn;cases hBn
    ·obtain rfl:b'=b:=by rw [hB] at hB';exact (Option.some.inj hB').symm
     have hone:∀ v∈vy.cells.toList,v.oneCell'=true:=by
      intro v hv'
      obtain ⟨j,hj,rfl⟩:=List.getElem_of_mem hv'
      simp only [Array.length_toList] at hj
      have hj':j<l.length:=by rw [hcl.len];exact hj
      have hc:isCell (l.getD j .undef)=true:=by
       have:=List.all_eq_true.1 hall' (l.getD j .undef) (by simp [hj',List.getElem_mem])
       exact this
      have:=(hcl.val j hj').oneOf hc (hst _ (by simp [hj',List.getElem_mem]))
      simpa [Array.getD_eq_getD_getElem?,hj] using this
     have hlq:vy.cells.toList.length=l.length:=by simp [hcl.len]
     have fin:∀ (hle:o+l.length≤sz) (hm:Mild (setCells i o l) (getAt rt.node p)) (hsame:∀ a c,¬ (a=i∧o≤c∧c<o+l.length)→a<n→c<sz→cellAt (setCells i o l (getAt rt.node p)) a c=cellAt (getAt rt.node p) a c)
       (hnew:∀ c,o≤c→c<o+l.length→cellAt (setCells i o l (getAt rt.node p)) i c=l.getD (c - o) .undef),
       K .undef (setH hp r (some ⟨rt.ver,updAt (setCells i o l) rt.node p⟩)) →
       ∃ v w' B' hp' x',(do Instr.storeAt t (.pointer (some ⟨b',i*sz+o,none⟩)) vy;pure Go.undef:Sem Value).run P w = .ok v w'∧K x' hp'∧VR w' B' (lkH hp') (ors V ver) x' v∧HR w' B' (lkH hp') (ors V ver) ∧
        Mono w B (lkH hp) V w' B' (lkH hp') (ors V ver):=by
      intro hle hm hsame hnew hk
      have hfit:i*sz+o+l.length≤cs.size:=by have:=mul_lt_le (s:=sz) hin;omega
      obtain ⟨g1,g2⟩:=hr.put (H':=lkH (setH hp r (some ⟨rt.ver,updAt (setCells i o l) rt.node p⟩))) hH hat hB hh (putCells_size cs (i*sz+o) vy.cells.toList) (putCells_one hone (by rw [hlq];exact hfit)) hm (fun j=>by rw [lookH_setH]) (fun a c ha hc=>by
       rw [putCells_getD _ _ _ _ (by rw [hlq];exact hfit),hlq]
       by_cases hac:a=i∧o≤c∧c<o+l.length
       ·obtain ⟨rfl,h1,h2⟩:=hac
        right
        rw [if_pos (by omega),hnew c h1 h2,show a*sz+c - (a*sz+o)=c - o by omega]
        have:=hcl.val (c - o) (by omega)
        simpa [Array.getD_eq_getD_getElem?,List.getD_eq_getElem?_getD] using this
       ·left
        refine ⟨hsame a c hac ha hc,?_⟩
        rw [if_neg]
        rintro ⟨h1,h2⟩
        apply hac
        have:a=i:=by
         rcases Nat.lt_trichotomy a i with h3|h3|h3
         ·have:=mul_lt_le (s:=sz) h3;omega
         ·exact h3
         ·have:=mul_lt_le (s:=sz) h3;omega
        subst this
        exact ⟨rfl,by omega,by omega⟩)
      refine ⟨Go.undef,_,B,_,.undef,?_,hk,.undef _,g1.more ver,g2.trans (Mono.more ..)⟩
      have hne:vy.cells.toList≠[]:=fun e0=>by rw [e0] at hlq;simp at hlq;omega
      have hs:vy.cells.size=P.cellsOf t:=by rw [← hlen,← hlq];simp
      simp only [Instr.storeAt,Instr.sureAddr,storeVar,Sem.run_bind,Sem.run_pure,Result.andThen_ok,run_sizeOf' hinfo,hs,ne_eq,not_true_eq_false,if_false]
      rw [run_storeCells' vy.cells.toList w cs (i*sz+o) 0 hh (by rw [hlq];omega) hone hne]
      rfl
     have hlshape:∀ j,j<l.length→shapeOf (l.getD j .undef)=none:=fun j hj=>(hcl.val j hj).noShape
     have hsh:=hat.2
     split at hK
     ·rename_i sz' c hg
      rw [hg] at hsh
      simp only [shapeOf,Option.some.injEq,Prod.mk.injEq] at hsh
      obtain ⟨rfl,rfl,rfl⟩:=hsh
      obtain ⟨hle,hk⟩:=hK
      refine fin hle (setCells_mild (.inl ⟨_,_,hg⟩) hlshape) (fun a d had ha hd=>?_) (fun d h1 h2=>?_) hk
      ·rw [hg]
       simp only [setCells,cellAt]
       rw [if_neg]
       rintro ⟨h1,h2⟩
       exact had ⟨by omega,h1,h2⟩
      ·rw [hg]
       simp only [setCells,cellAt]
       rw [if_pos ⟨h1,h2⟩]
     ·rename_i sz' n' f hg
      rw [hg] at hsh
      simp only [shapeOf,Option.some.injEq,Prod.mk.injEq] at hsh
      obtain ⟨rfl,rfl,rfl⟩:=hsh
      obtain ⟨⟨hle,hold⟩,hk⟩:=hK
      refine fin hle (setCells_mild (.inr ⟨_,_,_,hg,hold⟩) hlshape) (fun a d had ha hd=>?_) (fun d h1 h2=>?_) hk
      ·rw [hg]
       simp only [setCells,cellAt]
       rw [if_neg had]
      ·rw [hg]
       simp [setCells,cellAt,h1,h2]
     ·exact hK.elim
  ·exact hK.elim
 ·exact hK.elim
end Go.Ab
namespace Go.Ab
open Classical

def view:Nat→List (RId × Root)→PV→PV
 | 0,_,_ => .undef
 | k+1,hp,x=>match x with
  | .ref r ver p sz lo hi=>match lkH hp r with
   | some rt=>if rt.ver=ver then match getAt rt.node p with
    | .own _ _ f => .frz sz (hi - lo) fun i o=>view k hp (f (lo+i) o)
    | _ => .undef
    else .undef
   | none => .undef
  | .ptr r ver p i o=>match lkH hp r with
   | some rt=>if rt.ver=ver then match getAt rt.node p with
    | .own sz _ f => .fptr sz (fun j=>view k hp (f i j)) o
    | .obox sz c => .fptr sz (fun j=>view k hp (c j)) o
    | _ => .undef
    else .undef
   | none => .undef
  | .own sz n f => .frz sz n fun i o=>view k hp (f i o)
  | .obox _ _ => .undef
  | .agg l => .agg (l.map (view k hp))
  | .tup l => .tup (l.map (view k hp))
  | .func fn l l' => .func fn (l.map (view k hp)) (l'.map (view k hp))
  | .iface t v => .iface t (view k hp v)
  | .whn g v => .whn g (view k hp v)
  | .sref q r ver=>match q,lkH hp r with
   | .map,some rt=>if rt.ver=ver then match rt.node with
    | .omap es _ _ => .fmap (es.map fun e=>(view k hp e.1,view k hp e.2))
    | _ => .undef
    else .undef
   | _,_ => .undef
  | x=>x

theorem getD_map (l:List PV) (g:PV→PV) (i:Nat) (h:i<l.length):(l.map g).getD i .undef=g (l.getD i .undef):=by
 simp [List.getD_eq_getElem?_getD,h]

theorem RootOK.bound {w B H V r} {v:PV} (h:RootOK w B H V r v) (p:Path) {sz n:Nat} (hp:at? v p (true,sz,n)):n≤140737488355328:=by
 have key:∀ {q:Path} {v:PV} {x:Value},TR w B H V r q v x→∀ p,at? v p (true,sz,n)→n≤140737488355328:=by
  intro q v x h
  induction h with
  | leaf h=>intro p hp;exact absurd hp (at_leaf h.noShape p _)
  | own _ _ _ _ _ hm _ ih =>
   intro p hp
   cases p with
   | nil=>rw [at_nil] at hp;simp [shapeOf] at hp;omega
   | cons y p =>
    obtain ⟨i,o⟩:=y
    obtain ⟨sz',n',hs,hi,ho,hp⟩:=at_cons.1 hp
    simp [shapeOf] at hs
    obtain ⟨rfl,rfl⟩:=hs
    exact ih i o hi ho p hp
  | nil _ =>
   intro p hp
   cases p with
   | nil=>rw [at_nil] at hp;simp [shapeOf] at hp;omega
   | cons y p =>
    obtain ⟨i,o⟩:=y
    obtain ⟨sz',n',hs,hi,ho,hp⟩:=at_cons.1 hp
    simp [shapeOf] at hs
    omega
 cases h with
 | own h=>exact key h p hp
 | obox _ _ _ _ =>
  cases p with
  | nil=>rw [at_nil] at hp;simp [shapeOf] at hp
  | cons y p=>exact hp.1.elim
 | omap=>cases p with|nil=>rw [at_nil] at hp;simp [shapeOf] at hp|cons y p=>exact hp.1.elim
 | oiter=>cases p with|nil=>rw [at_nil] at hp;simp [shapeOf] at hp|cons y p=>exact hp.1.elim
 | oloop=>cases p with|nil=>rw [at_nil] at hp;simp [shapeOf] at hp|cons y p=>exact hp.1.elim

theorem VR.viewS {w:World} {B Bc:Blocks} {hp hs:List (RId × Root)} {V:Nat→Prop} (hr:HR w B (lkH hp) V) (hsub:∀ r rt,lkH hs r=some rt→lkH hp r=some rt) (hfree:∀ b,b<w.heap.size→free B b→free Bc b)
  (hown:∀ r p b,(∃ rt,lkH hs r=some rt)→B r p=some b→free Bc b):∀ (k:Nat),
  (∀ (x:PV) (v:Value),VR w B (lkH hp) V x v→VR w Bc H0 V0 (Ab.view k hs x) v) ∧
  (∀ (r:RId) (p:Path) (x:PV) (v:Value),(∃ rt,lkH hs r=some rt)→TR w B (lkH hp) V r p x v→VR w Bc H0 V0 (Ab.view k hs x) v):=by
 have hfz:∀ {x:PV} {v:Value},VR w B H0 V0 x v→VR w Bc H0 V0 x v:=by
  intro x v h
  generalize hH:H0=H at h
  generalize hV:V0=V at h
  induction h with
  | undef v=>exact .undef v
  | int k n=>exact .int k n
  | bool b=>exact .bool b
  | str s=>exact .str s
  | nilp=>exact .nilp
  | nilf=>exact .nilf
  | nilm=>exact .nilm
  | nili=>exact .nili
  | nils=>exact .nils
  | agg hl _ ih=>exact .agg hl (fun i hi=>ih i hi hH hV)
  | tup hl _ ih=>exact .tup hl (fun i hi=>ih i hi hH hV)
  | whn _ h' ih=>exact .whn (fun hg=>ih hg hH hV) h'
  | frz hn hmx hA _ ih =>
   refine .frz hn hmx (fun h0=>?_) (fun i o hi ho=>ih i o hi ho rfl rfl)
   obtain ⟨b,off,e,hf,hb,hc⟩:=hA h0
   exact ⟨b,off,e,hfree b hb hf,hb,hc⟩
  | fptr ho hf hb hc _ ih=>exact .fptr ho (hfree _ hb hf) hb hc (fun j hj=>ih j hj rfl rfl)
  | ref hv h=>subst hV;exact hv.elim
  | ptr hv h=>subst hV;exact hv.elim
  | func hl hl' _ _ ih ih'=>exact .func hl hl' (fun i hi=>ih i hi hH hV) (fun i hi=>ih' i hi hH hV)
  | iface _ ih=>exact .iface (ih hH hV)
  | fcl hmx hA _ ih =>
   refine .fcl hmx (fun h0=>?_) (fun i o hi ho=>ih i o hi ho rfl rfl)
   obtain ⟨b,off,e,hf,hb,hc⟩:=hA h0
   exact ⟨b,off,e,hfree b hb hf,hb,hc⟩
  | sref hv h=>subst hV;exact hv.elim
  | fmap hf hh hn _ _ ihk ihv=>exact .fmap (hfree _ (lt_of_get hh) hf) hh hn (fun i hi=>ihk i hi rfl rfl) (fun i hi=>ihv i hi rfl rfl)
 intro k
 induction k with
 | zero=>exact ⟨fun x v _ => .undef v,fun r p x v _ _ => .undef v⟩
 | succ k ih =>
  obtain ⟨ihv,iht⟩:=ih
  have hvr:∀ (x:PV) (v:Value),VR w B (lkH hp) V x v→VR w Bc H0 V0 (Ab.view (k+1) hs x) v:=by
   intro x v h
   cases h with
   | undef v=>exact .undef v
   | int k n=>exact .int k n
   | bool b=>exact .bool b
   | str s=>exact .str s
   | nilp=>exact .nilp
   | nilf=>exact .nilf
   | nilm=>exact .nilm
   | nili=>exact .nili
   | nils=>exact .nils
   | @agg _ _ l cs hl h=>exact .agg (by simp [hl]) (fun i hi=>by simp at hi;rw [getD_map _ _ _ hi];exact ihv _ _ (h i hi))
   | @tup _ _ l cs hl h=>exact .tup (by simp [hl]) (fun i hi=>by simp at hi;rw [getD_map _ _ _ hi];exact ihv _ _ (h i hi))
   | whn h h'=>exact .whn (fun hg=>ihv _ _ (h hg)) h'
   | frz hn hmx hA hg =>
    refine .frz hn hmx (fun h0=>?_) (fun i o hi ho=>hfz (hg i o hi ho))
    obtain ⟨b,off,e,hf,hb,hc⟩:=hA h0
    exact ⟨b,off,e,hfree b hb hf,hb,hc⟩
   | fptr ho hf hb hc hg=>exact .fptr ho (hfree _ hb hf) hb hc (fun j hj=>hfz (hg j hj))
   | @ref _ _ r ver p sz lo hi v hv h =>
    simp only [Ab.view]
    cases hH0:lkH hs r with
    | none=>exact .undef v
    | some rt =>
     have hH:=hsub r rt hH0
     simp only
     split
     ·rename_i hver
      obtain ⟨n,hat,hlo,hhi,hx⟩:=h rt hH hver
      have hb:=(hr.root r rt hH).bound p hat
      have hnode:=(hr.root r rt hH).node p hat
      have hlev:∃ rt,lkH hs r=some rt:=⟨rt,hH0⟩
      split
      ·rename_i sz' n' f hg
       have hs:=hat.2
       rw [hg] at hs hnode
       simp [shapeOf] at hs
       obtain ⟨rfl,rfl⟩:=hs
       rcases hx with ⟨b,A,cap,e,m,hB,rfl,hcap,hA,hsh,hle⟩|⟨hB,⟨A0,rfl⟩,h00⟩
       ·rcases hnode.out with ⟨hBn,_⟩|⟨b',cs,e',hB',hh,hsz,htr⟩
        ·rw [hB] at hBn;cases hBn
        ·obtain rfl:b'=b:=by rw [hB] at hB';exact (Option.some.inj hB').symm
         refine .frz (g:=fun i o=>cs.getD ((lo+i)*sz'+o) Go.undef) (by omega) (by omega) (fun h0=>?_) (fun i o hi ho=>?_)
         ·rw [hA (by omega)]
          refine ⟨b',lo*sz',rfl,hown r p b' hlev hB,(hr.dom _ _ _ hB).1,fun i o hi ho=>?_⟩
          have:=mul_lt_le (s:=sz') (show lo+i<n' by omega)
          have hlt:(lo+i)*sz'+o<cs.size:=by omega
          have he:lo*sz'+(i*sz'+o)=(lo+i)*sz'+o:=by rw [Nat.add_mul];omega
          simp only [World.cell?,hh,he]
          simp [Array.getD_eq_getD_getElem?,hlt]
         ·have:=(htr (lo+i) o (by omega) ho).1
          exact iht r _ _ _ hlev (by simpa [cellAt] using this)
       ·rw [show hi - lo=0 by omega]
        exact .frz (g:=fun _ _=>Go.undef) (Nat.le_refl _) (by omega) (fun h0=>by omega) (fun i o hi ho=>by omega)
      ·exact .undef _
     ·exact .undef v
   | @ptr _ _ r ver p i o v hv h =>
    simp only [Ab.view]
    cases hH0:lkH hs r with
    | none=>exact .undef v
    | some rt =>
     have hH:=hsub r rt hH0
     simp only
     split
     ·rename_i hver
      obtain ⟨q,sz,n,b,hat,hi,ho,hB,rfl⟩:=h rt hH hver
      have hlev:∃ rt,lkH hs r=some rt:=⟨rt,hH0⟩
      have fin:∀ c:Nat→PV,spec (getAt rt.node p)=false→(∀ j,c j=cellAt (getAt rt.node p) i j)→VR w Bc H0 V0 (.fptr sz (fun j=>Ab.view k hs (c j)) o) (.pointer (some ⟨b,i*sz+o,none⟩)):=by
       intro c hsp hc
       have hnode:=(hr.root r rt hH).nodeS p hat hsp
       rcases hnode.out with ⟨hBn,_⟩|⟨b',cs,e',hB',hh,hsz,htr⟩
       ·rw [hB] at hBn;cases hBn
       ·obtain rfl:b'=b:=by rw [hB] at hB';exact (Option.some.inj hB').symm
        refine .fptr (off:=i*sz) (g:=fun j=>cs.getD (i*sz+j) Go.undef) ho (hown r p b' hlev hB) (hr.dom _ _ _ hB).1 (fun j hj=>?_) (fun j hj=>?_)
        ·have:=mul_lt_le (s:=sz) hi
         have hlt:i*sz+j<cs.size:=by omega
         simp only [World.cell?,hh]
         simp [Array.getD_eq_getD_getElem?,hlt]
        ·rw [hc]
         exact iht r _ _ _ hlev (htr i j hi hj).1
      have hs:=hat.2
      split
      ·rename_i sz' n' f hg
       rw [hg] at hs fin
       simp [shapeOf] at hs
       obtain ⟨_,rfl,_⟩:=hs
       exact fin (f i) rfl (fun j=>rfl)
      ·rename_i sz' c hg
       rw [hg] at hs fin
       simp [shapeOf] at hs
       obtain ⟨_,rfl,_⟩:=hs
       exact fin c rfl (fun j=>rfl)
      ·exact .undef _
     ·exact .undef v
   | @func _ _ fn l l' cs cs' hl hl' h h' =>
    exact .func (by simp [hl]) (by simp [hl']) (fun i hi=>by simp at hi;rw [getD_map _ _ _ hi];exact ihv _ _ (h i hi)) (fun i hi=>by simp at hi;rw [getD_map _ _ _ hi];exact ihv _ _ (h' i hi))
   | iface h=>exact .iface (ihv _ _ h)
   | fcl hmx hA hg =>
    refine .fcl hmx (fun h0=>?_) (fun i o hi ho=>hfz (hg i o hi ho))
    obtain ⟨b,off,e,hf,hb,hc⟩:=hA h0
    exact ⟨b,off,e,hfree b hb hf,hb,hc⟩
   | fmap hf hh hn hk hv=>exact .fmap (hfree _ (lt_of_get hh) hf) hh hn (fun i hi=>hfz (hk i hi)) (fun i hi=>hfz (hv i hi))
   | @sref _ _ q r ver v hv h =>
    simp only [Ab.view]
    split
    ·rename_i rt hH0
     have hH:=hsub r rt hH0
     split
     ·rename_i hver
      obtain ⟨b,hat,hB,rfl⟩:=h rt hH hver
      have hlev:∃ rt,lkH hs r=some rt:=⟨rt,hH0⟩
      have hroot:=hr.root r rt hH
      split
      ·rename_i es bs clock hn
       rw [hn] at hroot
       cases hroot with
       | omap hB' hh hn' hbs hcl hk hvv =>
        rw [hB] at hB'
        cases hB'
        refine .fmap (hown r [] _ hlev hB) hh (by simpa using hn') (fun i hi=>?_) (fun i hi=>?_)
        ·simp only [List.length_map] at hi
         have:=ihv _ _ (hk i hi)
         simpa [List.getD_eq_getElem?_getD,hi] using this
        ·simp only [List.length_map] at hi
         have:=ihv _ _ (hvv i hi)
         simpa [List.getD_eq_getElem?_getD,hi] using this
      ·exact .undef _
     ·exact .undef _
    ·exact .undef _
  refine ⟨hvr,fun r p x v hlev h=>?_⟩
  cases h with
  | leaf h=>exact hvr x v h
  | @own _ sz n cap b Ad f cs e hAd hB hh hc hn hm hsub =>
   simp only [Ab.view]
   refine .frz (g:=fun i o=>cs.getD (i*sz+o) Go.undef) hn hm (fun h0=>?_) (fun i o hi ho=>iht r _ _ _ hlev (hsub i o hi ho))
   rw [hAd (by omega)]
   refine ⟨b,0,rfl,hown r p b hlev hB,(hr.dom _ _ _ hB).1,fun i o hi ho=>?_⟩
   have h1:=mul_lt_le (s:=sz) hi
   have h2:n*sz≤cap*sz:=Nat.mul_le_mul_right _ hn
   have hlt:i*sz+o<cs.size:=by omega
   simp only [World.cell?,hh,Nat.zero_add]
   simp [Array.getD_eq_getD_getElem?,hlt]
  | nil hB=>exact .frz (g:=fun _ _=>Go.undef) (Nat.le_refl _) (by omega) (fun h0=>by omega) (fun i o hi ho=>by omega)

theorem VR.view {w:World} {B Bc:Blocks} {hp:List (RId × Root)} {V:Nat→Prop} (hr:HR w B (lkH hp) V) (hfree:∀ b,b<w.heap.size→free B b→free Bc b)
  (hown:∀ r p b,r.1≠0→B r p=some b→free Bc b) (k:Nat) :
  (∀ (x:PV) (v:Value),VR w B (lkH hp) V x v→VR w Bc H0 V0 (Ab.view k hp x) v) ∧
  (∀ (r:RId) (p:Path) (x:PV) (v:Value),(∃ rt,lkH hp r=some rt)→TR w B (lkH hp) V r p x v→VR w Bc H0 V0 (Ab.view k hp x) v) :=
 VR.viewS hr (fun _ _ h=>h) hfree (fun r p b ⟨rt,h⟩=>hown r p b (hr.lev r rt h)) k

/-! ### Contracts -/
def Enters (P:Program) (f:FuncId):Prop:=∀ args w,(callFunc f args).run P w = .ok (.enter f args) w

def CallsF (P:Program) (f:FuncId) (args:List PV) (res:PV):Prop :=
 Enters P f∧∀ (w:World) (B:Blocks) (cs:Array Value),HR w B H0 V0→LR w B H0 V0 args cs →
  Calls P f cs w fun e w'=>∃ v B',e = .returned v∧VR w' B' H0 V0 res v∧Mono w B H0 V0 w' B' H0 V0

def one (id:RId) (rt:Root):Roots:=fun r=>if r=id then some rt else none

def CallsO (P:Program) (f:FuncId) (args:List PV) (node:PV) (res:RId→Nat→PV):Prop :=
 Enters P f∧∀ (w:World) (B:Blocks) (cs:Array Value) (id:RId) (ver:Nat),id.1≠0→HR w B H0 V0→LR w B H0 V0 args cs →
  Calls P f cs w fun e w'=>∃ v B',e = .returned v∧VR w' B' (one id ⟨ver,node⟩) (·=ver) (res id ver) v∧HR w' B' (one id ⟨ver,node⟩) (·=ver) ∧
   Mono w B H0 V0 w' B' (one id ⟨ver,node⟩) (·=ver)

def CallsA (P:Program) (f:FuncId) (args:List PV) (hp:List (RId × Root)) (nv:Nat) (Post:PV→List (RId × Root)→Nat→Prop):Prop :=
 Enters P f∧∀ (w:World) (B:Blocks) (cs:Array Value),HR w B (lkH hp) (·<nv)→LR w B (lkH hp) (·<nv) args cs →
  Calls P f cs w fun e w'=>∃ v B' res hp' nv',e = .returned v∧Post res hp' nv'∧VR w' B' (lkH hp') (·<nv') res v∧HR w' B' (lkH hp') (·<nv') ∧
   Mono w B (lkH hp) (·<nv) w' B' (lkH hp') (·<nv')
end Go.Ab
namespace Go.Ab
open Classical

def Bd (x:Option Value) (d n:Nat):Prop:=match x with
 | none=>n=d
 | some v=>∃ k j,v = .int k j∧0≤j∧j.toNat=n

theorem run_sliceBound {P:Program} (w:World) (k:IntKind) (j:Int) (y:Nat) (c:BoundsCode) (h0:0≤j) (h1:j.toNat≤y):(Instr.sliceBound (.int k j) y c).run P w = .ok j.toNat w:=by
 have:0≤j∧j≤y:=⟨h0,by omega⟩
 simp [Instr.sliceBound,asIntOf,this]

theorem run_slice {P:Program} {t e:TypeId} (hu:P.underlying t=some (.slice e)) (hi:(P.info? e).isSome) (w:World) (A:Option Addr) (len cap:Nat) {lo hg mx:Option Value} {l h m:Nat}
  (hl:Bd lo 0 l) (hh:Bd hg len h) (hm:Bd mx cap m) (hmx:mx.isSome=true→hg.isSome=true) (h1:l≤h) (h2:h≤m) (h3:m≤cap) :
  (Instr.sliceAt t (.slice A len cap) lo hg mx).run P w = .ok (.slice (if m=l then A else A.map (·.add (l*P.cellsOf e))) (h - l) (m - l)) w:=by
 have hb:(Instr.sliceBounds true len cap lo hg mx).run P w = .ok (l,h,m) w:=by
  unfold Bd at hl hh hm
  cases mx with
  | none =>
   simp only at hm
   subst hm
   cases hg with
   | none =>
    simp only at hh
    subst hh
    cases lo with
    | none=>simp only at hl;subst hl;simp [Instr.sliceBounds]
    | some v =>
     obtain ⟨k,j,rfl,h5,h6⟩:=hl
     have:=run_sliceBound (P:=P) w k j h .sliceB h5 (by omega)
     simp [Instr.sliceBounds,this,h6]
   | some v =>
    obtain ⟨k,j,rfl,h5,h6⟩:=hh
    have g1:=run_sliceBound (P:=P) w k j m .sliceAcap h5 (by omega)
    cases lo with
    | none=>simp only at hl;subst hl;simp [Instr.sliceBounds,g1,h6]
    | some v =>
     obtain ⟨k',j',rfl,h5',h6'⟩:=hl
     have:=run_sliceBound (P:=P) w k' j' h .sliceB h5' (by omega)
     simp [Instr.sliceBounds,g1,h6,this,h6']
  | some v =>
   obtain ⟨km,jm,rfl,h5m,h6m⟩:=hm
   have g0:=run_sliceBound (P:=P) w km jm cap .slice3Acap h5m (by omega)
   cases hg with
   | none=>simp at hmx
   | some v =>
    obtain ⟨k,j,rfl,h5,h6⟩:=hh
    have g1:=run_sliceBound (P:=P) w k j m .slice3B h5 (by omega)
    cases lo with
    | none=>simp only at hl;subst hl;simp [Instr.sliceBounds,g0,h6m,g1,h6]
    | some v =>
     obtain ⟨k',j',rfl,h5',h6'⟩:=hl
     have:=run_sliceBound (P:=P) w k' j' h .slice3C h5' (by omega)
     simp [Instr.sliceBounds,g0,h6m,g1,h6,this,h6']
 simp only [Instr.sliceAt,Sem.run_bind,run_underlying' hu,Result.andThen_ok]
 simp only [Instr.slice,Sem.run_bind,run_underlying' hu,Result.andThen_ok,hb,run_sizeOf' hi,Sem.run_pure]

def boundV (d:Nat):Option PV→Option Nat
 | none=>some d
 | some (.int _ j)=>some j.toNat
 | _=>none
def nnB:Option PV→Prop
 | some (.int _ j)=>0≤j
 | _=>True
instance (x:Option PV):Decidable (nnB x):=match x with
 | some (.int _ j)=>inferInstanceAs (Decidable (0≤j))
 | none => .isTrue trivial
 | some .undef|some (.bool _)|some (.str _)|some .nilp|some .nilf|some .nilm|some .nili|some .nils|some (.agg _)|some (.tup _)|some (.whn _ _)|some (.frz _ _ _)|some (.fptr _ _ _)|some (.own _ _ _)|some (.obox _ _)
 | some (.ref _ _ _ _ _ _)|some (.ptr _ _ _ _ _)|some (.func _ _ _)|some (.iface _ _)|some (.fcl _ _ _)|some (.sref _ _ _)|some (.fmap _)|some (.omap _ _ _)|some (.oiter _ _ _ _)|some (.oloop _ _) => .isTrue trivial

theorem boundV_Bd {w B H V} {x:Option PV} {v:Option Value} (h:match x,v with|none,none=>True|some p,some u=>VR w B H V p u|_,_=>False) (hn:nnB x) {d n:Nat} (hb:boundV d x=some n):Bd v d n:=by
 unfold boundV at hb
 split at hb
 ·cases v with
  | none=>cases hb;rfl
  | some u=>exact h.elim
 ·rename_i k j
  cases v with
  | none=>exact h.elim
  | some u =>
   cases hb
   cases h
   exact ⟨k,j,rfl,hn,rfl⟩
 ·cases hb

def sliceA0 (P:Program) (t:TypeId):PV→Option PV→Option PV→Option PV→A
 | .frz sz n f,l,h,m=>match sliceOf P t,boundV 0 l,boundV n h,boundV n m with
  | some e,some l',some h',some m' => .vc (P.cellsOf e=sz∧(P.info? e).isSome∧l'≤h'∧h'≤m'∧m'≤n∧(m.isSome=true→h.isSome=true)) (match m with
   | none => .ret (.frz sz (h' - l') fun i o=>f (l'+i) o)
   | some _ => .vc (m'=h') (.ret (.fcl sz (h' - l') fun i o=>f (l'+i) o)))
  | _,_,_,_ => .fail
 | .fcl sz n f,l,h,m=>match sliceOf P t,boundV 0 l,boundV n h,boundV n m with
  | some e,some l',some h',some m' => .vc (P.cellsOf e=sz∧(P.info? e).isSome∧l'≤h'∧h'≤m'∧m'≤n∧(m.isSome=true→h.isSome=true)) (match m with
   | none=>match h with
    | none => .ret (.fcl sz (n - l') fun i o=>f (l'+i) o)
    | some _ => .ret (.frz sz (h' - l') fun i o=>f (l'+i) o)
   | some _ => .vc (m'=h') (.ret (.fcl sz (h' - l') fun i o=>f (l'+i) o)))
  | _,_,_,_ => .fail
 | .nils,l,h,m=>match sliceOf P t,boundV 0 l,boundV 0 h,boundV 0 m with
  | some e,some 0,some 0,some 0 => .vc ((P.info? e).isSome∧(m.isSome=true→h.isSome=true)) (.ret .nils)
  | _,_,_,_ => .fail
 | .ref r v p sz a b,l,h,m=>match sliceOf P t with
  | some e => .rd r fun
   | some rt => .vc (rt.ver=v) <| match shapeOf (getAt rt.node p) with
    | some (_,_,n)=>match boundV 0 l,boundV (b - a) h,boundV (n - a) m with
     | some l',some h',some m'=>match m with
      | none => .vc (P.cellsOf e=sz∧(P.info? e).isSome∧l'≤h'∧h'≤m'∧a+m'=n∧(m.isSome=true→h.isSome=true)) (.ret (.ref r v p sz (a+l') (a+h')))
      | some _ => .vc (P.cellsOf e=sz∧(P.info? e).isSome∧l'≤h'∧h'≤m'∧a+m'≤n∧(m.isSome=true→h.isSome=true)) (.ret .undef)
     | _,_,_ => .fail
    | none => .fail
   | none => .fail
  | none => .fail
 | _,_,_,_ => .fail

def sliceA (P:Program) (t:TypeId) (x:PV) (l h m:Option PV):A := .vc (nnB l∧nnB h∧nnB m) (sliceA0 P t x l h m)

def OV (w:World) (B:Blocks) (H:Roots) (V:Nat→Prop) (x:Option PV) (v:Option Value):Prop:=match x,v with|none,none=>True|some p,some u=>VR w B H V p u|_,_=>False

theorem OV.some_iff {w B H V} {x:Option PV} {v:Option Value} (h:OV w B H V x v):v.isSome=x.isSome:=by
 cases x <;> cases v <;> first|rfl|exact h.elim

theorem Bd.cap {x:Option Value} {d n c:Nat} (h:Bd x d n) (hc:x.isSome=true):Bd x c n:=by
 cases x with
 | none=>cases hc
 | some v=>exact h

theorem Real.slice {P:Program} {w:World} {B:Blocks} {hp:List (RId × Root)} {V:Nat→Prop} {ver:Nat} (hr:HR w B (lkH hp) V) (t:TypeId) {x:PV} {vx:Value} {l h m:Option PV} {vl vh vm:Option Value}
  (hx:VR w B (lkH hp) V x vx) (hl:OV w B (lkH hp) V l vl) (hh:OV w B (lkH hp) V h vh) (hm:OV w B (lkH hp) V m vm):Real P w B hp V ver (Instr.sliceAt t vx vl vh vm) (sliceA P t x l h m):=by
 refine .of_pure hr fun K hK=>?_
 obtain ⟨⟨nl,nh,nm⟩,hK⟩:=hK
 unfold sliceA0 at hK
 split at hK
 ·rename_i sz n f
  split at hK
  ·rename_i e l' h' m' he el eh em
   obtain ⟨⟨rfl,hi,h1,h2,h3,h4⟩,hk⟩:=hK
   cases hx with
   | @frz _ _ _ _ _ A cap g hn hmx hA hg =>
    have hrun:∀ M,Bd vm cap M→h'≤M→M≤cap→_:=fun M hM hM1 hM2=>run_slice (P:=P) (sliceOf_some he) hi w A n cap (boundV_Bd hl nl el) (boundV_Bd hh nh eh) hM (by rw [OV.some_iff hm,OV.some_iff hh];exact h4) h1 hM1 hM2
    have hcell:∀ M,0<h' - l'→h'≤M→∃ b off,(if M=l' then A else A.map fun x=>x.add (l'*P.cellsOf e))=some ⟨b,off,none⟩∧free B b∧b<w.heap.size∧∀ i o,i<h' - l'→o<P.cellsOf e→w.cell? ⟨b,off+(i*P.cellsOf e+o),none⟩=some (g (l'+i) o):=by
     intro M h0 hM1
     obtain ⟨b,off,rfl,hf,hb,hc⟩:=hA (by omega)
     refine ⟨b,off+l'*P.cellsOf e,?_,hf,hb,fun i o hi' ho=>?_⟩
     ·rw [if_neg (by omega)]
      simp [add_plain]
     ·have:=hc (l'+i) o (by omega) ho
      rw [Nat.add_mul] at this
      rw [show off+l'*P.cellsOf e+(i*P.cellsOf e+o)=off+(l'*P.cellsOf e+i*P.cellsOf e+o) by omega]
      exact this
    cases m with
    | none =>
     have hvm:vm=none:=by have:=OV.some_iff hm;cases vm <;> simp_all
     refine ⟨_,_,hrun cap (by rw [hvm];rfl) (by omega) (Nat.le_refl _),hk,?_⟩
     exact .frz (g:=fun i o=>g (l'+i) o) (by omega) (by omega) (fun h0=>hcell cap h0 (by omega)) (fun i o hi' ho=>hg _ _ (by omega) ho)
    | some mm =>
     obtain ⟨rfl,hk⟩:=hk
     refine ⟨_,_,hrun m' (Bd.cap (boundV_Bd hm nm em) (by rw [OV.some_iff hm];rfl)) (Nat.le_refl _) (by omega),hk,?_⟩
     exact .fcl (g:=fun i o=>g (l'+i) o) (by omega) (fun h0=>hcell m' h0 (Nat.le_refl _)) (fun i o hi' ho=>hg _ _ (by omega) ho)
  ·exact hK.elim
 ·rename_i sz n f
  split at hK
  ·rename_i e l' h' m' he el eh em
   obtain ⟨⟨rfl,hi,h1,h2,h3,h4⟩,hk⟩:=hK
   cases hx with
   | @fcl _ _ _ _ _ A g hmx hA hg =>
    have hrun:∀ M,Bd vm n M→h'≤M→M≤n→_:=fun M hM hM1 hM2=>run_slice (P:=P) (sliceOf_some he) hi w A n n (boundV_Bd hl nl el) (boundV_Bd hh nh eh) hM (by rw [OV.some_iff hm,OV.some_iff hh];exact h4) h1 hM1 hM2
    have hcell:∀ M,0<h' - l'→h'≤M→∃ b off,(if M=l' then A else A.map fun x=>x.add (l'*P.cellsOf e))=some ⟨b,off,none⟩∧free B b∧b<w.heap.size∧∀ i o,i<h' - l'→o<P.cellsOf e→w.cell? ⟨b,off+(i*P.cellsOf e+o),none⟩=some (g (l'+i) o):=by
     intro M h0 hM1
     obtain ⟨b,off,rfl,hf,hb,hc⟩:=hA (by omega)
     refine ⟨b,off+l'*P.cellsOf e,?_,hf,hb,fun i o hi' ho=>?_⟩
     ·rw [if_neg (by omega)]
      simp [add_plain]
     ·have:=hc (l'+i) o (by omega) ho
      rw [Nat.add_mul] at this
      rw [show off+l'*P.cellsOf e+(i*P.cellsOf e+o)=off+(l'*P.cellsOf e+i*P.cellsOf e+o) by omega]
      exact this
    cases m with
    | none =>
     have hvm:vm=none:=by have:=OV.some_iff hm;cases vm <;> simp_all
     cases h with
     | none =>
      have e1:h'=n:=by simpa [boundV] using eh.symm
      subst e1
      refine ⟨_,_,hrun h' (by rw [hvm];rfl) (by omega) (Nat.le_refl _),hk,?_⟩
      exact .fcl (g:=fun i o=>g (l'+i) o) (by omega) (fun h0=>hcell h' h0 (by omega)) (fun i o hi' ho=>hg _ _ (by omega) ho)
     | some hhh =>
      refine ⟨_,_,hrun n (by rw [hvm];rfl) (by omega) (Nat.le_refl _),hk,?_⟩
      exact .frz (g:=fun i o=>g (l'+i) o) (by omega) (by omega) (fun h0=>hcell n h0 (by omega)) (fun i o hi' ho=>hg _ _ (by omega) ho)
    | some mm =>
     obtain ⟨rfl,hk⟩:=hk
     refine ⟨_,_,hrun m' (Bd.cap (boundV_Bd hm nm em) (by rw [OV.some_iff hm];rfl)) (Nat.le_refl _) (by omega),hk,?_⟩
     exact .fcl (g:=fun i o=>g (l'+i) o) (by omega) (fun h0=>hcell m' h0 (Nat.le_refl _)) (fun i o hi' ho=>hg _ _ (by omega) ho)
  ·exact hK.elim
 ·split at hK
  ·rename_i e he el eh em
   obtain ⟨⟨hi,h4⟩,hk⟩:=hK
   cases hx
   have hM:Bd vm 0 0:=boundV_Bd hm nm em
   refine ⟨_,_,run_slice (sliceOf_some he) hi w none 0 0 (boundV_Bd hl nl el) (boundV_Bd hh nh eh) hM (by rw [OV.some_iff hm,OV.some_iff hh];exact h4) (Nat.le_refl _) (Nat.le_refl _) (Nat.le_refl _),hk,?_⟩
   exact .nils
  ·exact hK.elim
 ·rename_i r v p sz a b
  split at hK
  ·rename_i e he
   simp only [A.wp] at hK
   cases hH:lkH hp r with
   | none=>rw [hH] at hK;exact hK.elim
   | some rt =>
    rw [hH] at hK
    obtain ⟨hver,hK⟩:=hK
    cases hx with
    | ref hv h' =>
    obtain ⟨n,hat,hlo,hhi,hx⟩:=h' rt hH hver
    rw [hat.2] at hK
    simp only at hK
    split at hK
    ·rename_i l' h'' m' el eh em
     have main:P.cellsOf e=sz→(P.info? e).isSome=true→l'≤h''→h''≤m'→a+m'≤n→(m.isSome=true→h.isSome=true)→∀ Y:PV,K Y hp→(Y = .undef∨a+m'=n∧Y = .ref r v p sz (a+l') (a+h'')) →
       ∃ v' x',(Instr.sliceAt t vx vl vh vm).run P w = .ok v' w∧K x' hp∧VR w B (lkH hp) V x' v':=by
      rintro rfl hi h1 h2 h3 h4 Y hk hY
      rcases hx with ⟨bb,A,cap,e',mm,hB,rfl,hcap,hA,hsh,hle⟩|⟨hB,⟨A0,rfl⟩,h00⟩
      ·obtain ⟨M,hM,hM1,hM2,hM3⟩:∃ M,Bd vm cap M∧h''≤M∧M≤cap∧(a+m'=n→n≤a+M):=by
        cases hmv:m with
        | none =>
         have hvm:vm=none:=by have:=OV.some_iff hm;rw [hmv] at this;cases vm <;> simp_all
         exact ⟨cap,by rw [hvm];rfl,by omega,Nat.le_refl _,fun _=>hcap⟩
        | some _=>exact ⟨m',Bd.cap (boundV_Bd hm nm em) (by rw [OV.some_iff hm,hmv];rfl),h2,by omega,fun e=>by omega⟩
       refine ⟨_,_,run_slice (sliceOf_some he) hi w (some A) (b - a) cap (boundV_Bd hl nl el) (boundV_Bd hh nh eh) hM (by rw [OV.some_iff hm,OV.some_iff hh];exact h4) h1 hM1 hM2,hk,?_⟩
       rcases hY with rfl|⟨heq,rfl⟩
       ·exact .undef _
       have hM3:=hM3 heq
       refine .ref hv (fun rt' hH' hv'=>?_)
       obtain rfl:rt'=rt:=by rw [hH] at hH';exact (Option.some.inj hH').symm
       refine ⟨n,hat,by omega,by omega,.inl ⟨bb,if M=l' then A else A.add (l'*P.cellsOf e),M - l',e',mm,hB,?_,by omega,fun h0=>?_,hsh,?_⟩⟩
       ·have:a+h'' - (a+l')=h'' - l':=by omega
        rw [this]
        split <;> simp
       ·rw [if_neg (by omega),hA (by omega),add_plain,Nat.add_mul]
       ·have:(a+l'+(M - l'))=a+M:=by omega
        rw [this]
        have:(a+M)*P.cellsOf e≤(a+cap)*P.cellsOf e:=Nat.mul_le_mul_right _ (by omega)
        omega
      ·have hn0:n=0:=by
        have hnode:=(hr.root r rt hH).node p hat
        rcases hnode.out with ⟨_,h5⟩|⟨b',_,_,hB',_⟩
        ·exact h5
        ·rw [hB] at hB';cases hB'
       have hM:Bd vm 0 m':=boundV_Bd hm nm (by rw [← em];congr 1;omega)
       have ha:a=0:=by omega
       have hh'':h''=0:=by omega
       have hl'':l'=0:=by omega
       have hm'':m'=0:=by omega
       subst hh'' hl'' hm''
       refine ⟨_,_,run_slice (sliceOf_some he) hi w A0 0 0 (boundV_Bd hl nl el) (boundV_Bd hh nh (by rw [← eh];congr 1;omega)) hM (by rw [OV.some_iff hm,OV.some_iff hh];exact h4) (Nat.le_refl _) (Nat.le_refl _) (Nat.le_refl _),hk,?_⟩
       rcases hY with rfl|⟨heq,rfl⟩
       ·exact .undef _
       refine .ref hv (fun rt' hH' hv'=>?_)
       obtain rfl:rt'=rt:=by rw [hH] at hH';exact (Option.some.inj hH').symm
       exact ⟨n,hat,Nat.le_refl _,by omega,.inr ⟨hB,by simp,by omega⟩⟩
     split at hK
     ·obtain ⟨⟨g1,g2,g3,g4,g5,g6⟩,hk⟩:=hK
      exact main g1 g2 g3 g4 (Nat.le_of_eq g5) g6 _ hk (.inr ⟨g5,rfl⟩)
     ·obtain ⟨⟨g1,g2,g3,g4,g5,g6⟩,hk⟩:=hK
      exact main g1 g2 g3 g4 g5 g6 _ hk (.inl rfl)
    ·exact hK.elim
  ·exact hK.elim
 ·exact hK.elim
end Go.Ab
namespace Go.Ab
open Classical

structure Regrow (w w':World) (B B':Blocks) (H H':Roots) (r:RId) (x:Option Nat) (rt':Root):Prop where
 blk:∀ r' p,B' r' p=if r'=r∧p=[] then x else B r' p
 old:x=B r []∨∃ nb,x=some nb∧w.heap.size≤nb
 lt:∀ b,x=some b→b<w'.heap.size
 roots:∀ j,H' j=if j=r then some rt' else H j
 size:w.heap.size≤w'.heap.size
 heap:∀ k,k<w.heap.size→x≠some k→w'.heap[k]?=w.heap[k]?
 shape:∀ k s,w.shape? k=some s→w'.shape? k=some s
 os:w'.os=w.os
 tape:w'.tape=w.tape
 output:w'.output=w.output

theorem Regrow.mono {w w' B B' H H' V ver} {r:RId} {x:Option Nat} {rt rt':Root} (g:Regrow w w' B B' H H' r x rt') (hr:HR w B H V) (hver:¬ V ver) (hv:rt'.ver=ver) (hH:H r=some rt):Mono w B H V w' B' H' (ors V ver):=by
 have hlt:∀ r p b,B r p=some b→b<w.heap.size:=fun r p b h=>(hr.dom r p b h).1
 have hne:∀ b,(∀ p,B r p≠some b)→b<w.heap.size→x≠some b:=by
  intro b h1 h2 e
  rcases g.old with h|⟨nb,h,h3⟩
  ·exact h1 [] (h▸e)
  ·rw [h] at e;cases e;omega
 refine ⟨g.size,fun b hb hf=>⟨fun r' p=>?_,g.heap b hb (hne b (fun p=>hf r p) hb)⟩,fun r' p b h0 hb=>?_,fun r' p b hb=>?_,g.shape,fun _ h => .inl h,fun j rt2 h=>?_,g.os,g.tape,g.output⟩
 ·rw [g.blk]
  split
  ·exact hne b (fun p=>hf r p) hb
  ·exact hf r' p
 ·have hrr:r'≠r:=fun e=>hr.lev r rt hH (e▸h0)
  refine ⟨by rw [g.blk,if_neg (fun e=>hrr e.1)];exact hb,g.heap b (hlt _ _ _ hb) (hne b (fun p hp=>hrr (hr.inj _ _ _ _ _ hb hp).1) (hlt _ _ _ hb))⟩
 ·rw [g.blk] at hb
  split at hb
  ·rcases g.old with h|⟨nb,h,h3⟩
   ·exact .inr ⟨r,[],h▸hb⟩
   ·rw [h] at hb;cases hb;exact .inl h3
  ·exact .inr ⟨r',p,hb⟩
 ·rw [g.roots] at h
  split at h
  ·cases h;left;rw [hv];exact hver
  ·rename_i hj
   exact .inr ⟨rt2,h,rfl,fun p s hp=>⟨hp,by rw [g.blk,if_neg (fun e=>hj e.1)]⟩⟩

theorem Regrow.hr {w w' B B' H H' V ver} {r:RId} {x:Option Nat} {rt:Root} {sz n n':Nat} {f f':Nat→Nat→PV} {v:Value} (g:Regrow w w' B B' H H' r x ⟨ver,.own sz n' f'⟩) (hr:HR w B H V) (hver:¬ V ver) (hH:H r=some rt)
  (hnode:rt.node = .own sz n f) (hn:n≤n') (hf:∀ i o,i<n→f' i o=f i o) (hx:∀ b,x=some b→True) (ht:TR w' B' H' (ors V ver) r [] (.own sz n' f') v):HR w' B' H' (ors V ver):=by
 have hm:=g.mono hr hver rfl hH
 have hlt:∀ r p b,B r p=some b→b<w.heap.size:=fun r p b h=>(hr.dom r p b h).1
 have hne:∀ r' p b,¬ (r'=r∧p=[])→B r' p=some b→x≠some b:=by
  intro r' p b h1 h2 e
  rcases g.old with h|⟨nb,h,h3⟩
  ·exact h1 (hr.inj _ _ _ _ _ h2 (h▸e))
  ·rw [h] at e;cases e;have:=hlt _ _ _ h2;omega
 refine ⟨fun j rt2 h=>?_,fun j rt2 h=>?_,fun r' p b h=>?_,fun j rt2 h=>?_,fun r1 p1 r2 p2 b h1 h2=>?_⟩
 ·rw [g.roots] at h
  split at h
  ·rename_i e;subst e;cases h;exact .own ht
  ·rename_i hj
   exact (hr.root j rt2 h).mono hm (fun t s _=>⟨by rw [g.blk,if_neg (fun e=>hj e.1)],fun b hb=>g.heap b (hlt _ _ _ hb) (hne j t b (fun e=>hj e.1) hb)⟩)
 ·rw [g.roots] at h
  split at h
  ·cases h;exact .inr rfl
  ·exact .inl (hr.ver j rt2 h)
 ·rw [g.blk] at h
  split at h
  ·rename_i e
   obtain ⟨rfl,rfl⟩:=e
   exact ⟨g.lt b h,.inr ⟨⟨ver,.own sz n' f'⟩,(true,sz,n'),by rw [g.roots,if_pos rfl],at_nil.2 rfl⟩⟩
  ·rename_i hrp
   obtain ⟨h1,h2⟩:=hr.dom r' p b h
   refine ⟨Nat.lt_of_lt_of_le h1 g.size,h2.imp id fun ⟨rt2,s,h3,h4⟩=>?_⟩
   by_cases e:r'=r
   ·subst e
    rw [hH] at h3
    cases h3
    refine ⟨_,s,by rw [g.roots,if_pos rfl],?_⟩
    rw [hnode] at h4
    cases p with
    | nil=>exact absurd ⟨rfl,rfl⟩ hrp
    | cons y p =>
     obtain ⟨i,o⟩:=y
     obtain ⟨⟨hi,ho,h5⟩,h6⟩:=h4
     refine ⟨⟨by omega,ho,by rw [hf i o hi];exact h5⟩,?_⟩
     simp only [getAt] at h6 ⊢
     rw [hf i o hi]
     exact h6
   ·exact ⟨rt2,s,by rw [g.roots,if_neg e];exact h3,h4⟩
 ·rw [g.roots] at h
  split at h
  ·rename_i e;rw [e];exact hr.lev r rt hH
  ·exact hr.lev j rt2 h
 ·rw [g.blk] at h1 h2
  split at h1
  ·rename_i e1
   split at h2
   ·rename_i e2;exact ⟨e1.1.trans e2.1.symm,e1.2.trans e2.2.symm⟩
   ·rename_i e2;exact absurd h1 (hne _ _ _ e2 h2)
  ·rename_i e1
   split at h2
   ·exact absurd h2 (hne _ _ _ e1 h1)
   ·exact hr.inj _ _ _ _ _ h1 h2

theorem setCells_facts {b:Nat} {e:TypeId}:∀ (vs:List Value) (off:Nat) (w:World) (cs:Array Value),w.heap[b]?=some (.cells cs e (0,0))→off+vs.length≤cs.size →
  ∃ cs',(w.setCells b off vs).heap[b]?=some (.cells cs' e (0,0))∧cs'.size=cs.size∧(∀ j,cs'.getD j Go.undef=if off≤j∧j<off+vs.length then vs.getD (j - off) Go.undef else cs.getD j Go.undef) ∧
   (w.setCells b off vs).heap.size=w.heap.size∧(∀ k,k≠b→(w.setCells b off vs).heap[k]?=w.heap[k]?)∧(w.setCells b off vs).os=w.os∧(w.setCells b off vs).tape=w.tape∧(w.setCells b off vs).output=w.output:=by
 intro vs
 induction vs with
 | nil =>
  intro off w cs hh _
  refine ⟨cs,hh,rfl,fun j=>?_,rfl,fun _ _=>rfl,rfl,rfl,rfl⟩
  rw [if_neg]
  simp only [List.length_nil]
  omega
 | cons v vs ih =>
  intro off w cs hh hle
  simp only [List.length_cons] at hle
  have h1:=setCell_putBlock hh off v
  have hself:(w.setCell ⟨b,off,none⟩ v).heap[b]?=some (.cells (cs.setIfInBounds off v) e (0,0)):=by rw [h1];exact putBlock_self hh
  obtain ⟨cs',g1,g2,g3,g4,g5,g6,g7,g8⟩:=ih (off+1) (w.setCell ⟨b,off,none⟩ v) (cs.setIfInBounds off v) hself (by simp;omega)
  refine ⟨cs',g1,by rw [g2];simp,fun j=>?_,?_,fun k hk=>?_,?_,?_,?_⟩
  ·rw [g3]
   by_cases hj:j=off
   ·subst hj
    rw [if_neg (by omega),if_pos (by simp)]
    have:j<cs.size:=by omega
    simp [Array.getD_eq_getD_getElem?,this]
   ·have e1:(cs.setIfInBounds off v).getD j Go.undef=cs.getD j Go.undef:=by
     simp [Array.getD_eq_getD_getElem?,Array.getElem?_setIfInBounds,Ne.symm hj]
    by_cases hr:off+1≤j∧j<off+1+vs.length
    ·rw [if_pos hr,if_pos (by simp only [List.length_cons];omega)]
     obtain ⟨d,hd⟩:∃ d,j - off=d+1:=⟨j - off - 1,by omega⟩
     rw [hd,show j - (off+1)=d by omega]
     rfl
    ·rw [if_neg hr,if_neg (by simp only [List.length_cons];omega),e1]
  ·show ((w.setCell ⟨b,off,none⟩ v).setCells b (off+1) vs).heap.size=_
   rw [g4,h1,putBlock_size]
  ·show ((w.setCell ⟨b,off,none⟩ v).setCells b (off+1) vs).heap[k]?=_
   rw [g5 k hk,h1,putBlock_heap,if_neg hk]
  ·exact g6.trans (by rw [h1];rfl)
  ·exact g7.trans (by rw [h1];rfl)
  ·exact g8.trans (by rw [h1];rfl)

def srcA (sz:Nat):PV→(Nat→(Nat→Nat→PV)→A)→A
 | .nils,k=>k 0 fun _ _ => .undef
 | .frz sz' m g,k => .vc (sz'=sz∧∀ i,i<m→∀ o,o<sz→dryCell (g i o)=true) (k m g)
 | .fcl sz' m g,k => .vc (sz'=sz∧∀ i,i<m→∀ o,o<sz→dryCell (g i o)=true) (k m g)
 | .ref r v p sz' lo hi,k => .rd r fun
  | some rt => .vc (rt.ver=v∧sz'=sz) <| match getAt rt.node p with
   | .own _ _ f=>k (hi - lo) fun i o=>cellV r v p (lo+i) o (f (lo+i) o)
   | _ => .fail
  | none => .fail
 | _,_ => .fail

def appendA (P:Program) (id:RId) (ver:Nat) (t:TypeId) (x y:PV):A :=
 match sliceOf P t with
 | some e=>match zeroL P e with
  | some z => .vc (z.length=P.cellsOf e∧0<z.length∧z.all dryCell=true) <| match x with
   | .nils=>srcA z.length y fun m c => .vc (m*P.bytesOf e≤140737488355328∧m≤140737488355328)
     (.wr id (some ⟨ver,.own z.length m c⟩) (.ret (.ref id ver [] z.length 0 m)))
   | .fcl sz' n f => .vc (sz'=z.length∧∀ i,i<n→∀ o,o<sz'→dryCell (f i o)=true) (srcA z.length y fun m c => .vc ((n+m)*P.bytesOf e≤140737488355328∧n+m≤140737488355328∧(n=0∨0<m))
     (.wr id (some ⟨ver,.own z.length (n+m) fun i o=>if i<n then f i o else c (i - n) o⟩) (.ret (.ref id ver [] z.length 0 (n+m)))))
   | .ref r v [] sz' 0 hi => .rd r fun
    | some rt=>match rt.node with
     | .own sz'' n f => .vc (rt.ver=v∧sz'=z.length∧sz''=z.length∧hi=n) (srcA z.length y fun m c => .vc ((n+m)*P.bytesOf e≤140737488355328∧n+m≤140737488355328)
       (.wr r (some ⟨ver,.own z.length (n+m) fun i o=>if i<n then f i o else c (i - n) o⟩) (.ret (.ref r ver [] z.length 0 (n+m)))))
     | _ => .fail
    | none => .fail
   | _ => .fail
  | none => .fail
 | none => .fail

theorem srcA_wp {P:Program} {t e:TypeId} {w:World} {B:Blocks} {hp:List (RId × Root)} {V:Nat→Prop} (hr:HR w B (lkH hp) V) (hu:P.underlying t=some (.slice e)) {sz:Nat} (h0:0<sz) {y:PV} {vy:Value} (hy:VR w B (lkH hp) V y vy) {k:Nat→(Nat→Nat→PV)→A} {K:PV→List (RId × Root)→Prop}
  (h:(srcA sz y k).wp hp K):∃ m c val,(k m c).wp hp K∧Src P sz t vy m ((List.range (m*sz)).map val) w∧∀ i o,i<m→o<sz→VR w B (lkH hp) V (c i o) (val (i*sz+o)):=by
 have idx:∀ {m j:Nat},j<m*sz→j / sz<m∧j % sz<sz∧j / sz*sz+j % sz=j:=fun {m j} hj=>⟨(Nat.div_lt_iff_lt_mul h0).2 hj,Nat.mod_lt _ h0,by rw [Nat.mul_comm];exact Nat.div_add_mod j sz⟩
 have mk:∀ (m cap:Nat) (A:Option Addr) (val:Nat→Value),(0<m→∃ b off,A=some ⟨b,off,none⟩∧∀ j,j<m*sz→w.cell? ⟨b,off+j,none⟩=some (val j))→(∀ j,j<m*sz→(val j).oneCell'=true) →
   Src P sz t (.slice A m cap) m ((List.range (m*sz)).map val) w:=by
  intro m cap A val hc hone
  have hmem:∀ u∈(List.range (m*sz)).map val,u.oneCell'=true:=fun u hu=>by
   obtain ⟨j,hj,rfl⟩:=List.mem_map.1 hu
   exact hone j (List.mem_range.1 hj)
  rcases Nat.eq_zero_or_pos m with rfl|hm
  ·have e0:(List.range (0*sz)).map val=[]:=by simp
   rw [e0]
   cases A with
   | none=>exact ⟨.inl ⟨e,hu⟩,fun _=>rfl,run_firstCells_none w sz 0 0 cap,run_firstCells_none w.drew sz 0 0 cap,by simp,fun _ h=>by cases h⟩
   | some a=>exact Src.ofSlice w hu a 0 cap [] (by simp) (fun j u h=>by simp at h) (fun _ h=>by cases h)
  ·obtain ⟨b,off,rfl,hc'⟩:=hc hm
   refine Src.ofSlice w hu ⟨b,off,none⟩ m cap _ (by simp) (fun j u h=>?_) hmem
   simp only [List.getElem?_map] at h
   have hj:j<m*sz:=by
    rcases Nat.lt_or_ge j (m*sz) with h1|h1
    ·exact h1
    ·rw [List.getElem?_eq_none (by simpa using h1)] at h;cases h
   rw [List.getElem?_range hj] at h
   simp only [Option.map_some,Option.some.injEq] at h
   subst h
   rw [add_plain]
   exact hc' j hj
 unfold srcA at h
 split at h
 ·cases hy
  exact ⟨0,_,fun _=>Go.undef,h,mk 0 0 none _ (fun h=>by omega) (fun j hj=>by omega),fun i o hi=>by omega⟩
 ·rename_i sz' m g
  obtain ⟨⟨rfl,hdry⟩,hk⟩:=h
  cases hy with
  | @frz _ _ _ _ _ A cap gv hn hmx hA hg =>
   refine ⟨m,g,fun j=>gv (j / sz') (j % sz'),hk,mk m cap A _ (fun hm=>?_) (fun j hj=>?_),fun i o hi ho=>?_⟩
   ·obtain ⟨b,off,rfl,_,_,hc⟩:=hA hm
    refine ⟨b,off,rfl,fun j hj=>?_⟩
    obtain ⟨h1,h2,h3⟩:=idx hj
    have:=hc _ _ h1 h2
    rw [h3] at this
    exact this
   ·obtain ⟨h1,h2,_⟩:=idx hj
    have hd:=hdry _ h1 _ h2
    exact ((hg _ _ h1 h2).oneCell (dryCell_one (H:=H0) hd).1 (dryCell_one (H:=H0) hd).2).1
   ·have h1:(i*sz'+o) / sz'=i:=by rw [Nat.mul_comm,Nat.mul_add_div h0,Nat.div_eq_of_lt ho,Nat.add_zero]
    have h2:(i*sz'+o) % sz'=o:=by rw [Nat.mul_comm,Nat.mul_add_mod,Nat.mod_eq_of_lt ho]
    simp only [h1,h2]
    exact (hg i o hi ho).lift (fun _ _ _ h=>h)
 ·rename_i sz' m g
  obtain ⟨⟨rfl,hdry⟩,hk⟩:=h
  cases hy with
  | @fcl _ _ _ _ _ A gv hmx hA hg =>
   refine ⟨m,g,fun j=>gv (j / sz') (j % sz'),hk,mk m m A _ (fun hm=>?_) (fun j hj=>?_),fun i o hi ho=>?_⟩
   ·obtain ⟨b,off,rfl,_,_,hc⟩:=hA hm
    refine ⟨b,off,rfl,fun j hj=>?_⟩
    obtain ⟨h1,h2,h3⟩:=idx hj
    have:=hc _ _ h1 h2
    rw [h3] at this
    exact this
   ·obtain ⟨h1,h2,_⟩:=idx hj
    have hd:=hdry _ h1 _ h2
    exact ((hg _ _ h1 h2).oneCell (dryCell_one (H:=H0) hd).1 (dryCell_one (H:=H0) hd).2).1
   ·have h1:(i*sz'+o) / sz'=i:=by rw [Nat.mul_comm,Nat.mul_add_div h0,Nat.div_eq_of_lt ho,Nat.add_zero]
    have h2:(i*sz'+o) % sz'=o:=by rw [Nat.mul_comm,Nat.mul_add_mod,Nat.mod_eq_of_lt ho]
    simp only [h1,h2]
    exact (hg i o hi ho).lift (fun _ _ _ h=>h)
 ·rename_i r v p sz' lo hi
  simp only [A.wp] at h
  cases hH:lkH hp r with
  | none=>rw [hH] at h;exact h.elim
  | some rt =>
   rw [hH] at h
   obtain ⟨⟨hver,rfl⟩,h⟩:=h
   cases hy with
   | ref hv hy =>
   obtain ⟨n,hat,hlo,hhi,hx⟩:=hy rt hH hver
   have hnode:=(hr.root r rt hH).node p hat
   split at h
   ·rename_i s2 n2 f hg
    have hs:=hat.2
    rw [hg] at hs
    simp only [shapeOf,Option.some.injEq,Prod.mk.injEq,true_and] at hs
    obtain ⟨rfl,rfl⟩:=hs
    rcases hx with ⟨b,A,cap,e',mm,hB,rfl,hcap,hA,hsh,hle⟩|⟨hB,⟨A0,rfl⟩,h00⟩
    ·rcases hnode.out with ⟨hBn,_⟩|⟨b',cs,e2,hB',hh,⟨hsz,hone⟩,htr⟩
     ·rw [hB] at hBn;cases hBn
     ·obtain rfl:b'=b:=by rw [hB] at hB';exact (Option.some.inj hB').symm
      have hfit:∀ j,j<(hi - lo)*s2→lo*s2+j<cs.size:=fun j hj=>by
       have h1:lo*s2+(hi - lo)*s2=hi*s2:=by rw [← Nat.add_mul];congr 1;omega
       have h2:hi*s2≤n2*s2:=Nat.mul_le_mul_right _ hhi
       omega
      refine ⟨hi - lo,_,fun j=>cs.getD (lo*s2+j) Go.undef,h,mk _ cap (some A) _ (fun hm=>?_) (fun j hj=>hone _ (hfit j hj)),fun i o hi' ho=>?_⟩
      ·rw [hA (by omega)]
       refine ⟨b',lo*s2,rfl,fun j hj=>?_⟩
       have:=hfit j hj
       simp only [World.cell?,hh]
       simp [Array.getD_eq_getD_getElem?,this]
      ·have:=(htr (lo+i) o (by omega) ho).1
       rw [hg] at this
       have h3:=TR.cellV (ver:=v) hr hH hver (s:=(true,s2,n2)) hat (show lo+i<n2 by omega) ho (c:=f (lo+i) o) (by rw [hg];rfl) (.inl rfl) this
       show VR _ _ _ _ _ (cs.getD (lo*s2+(i*s2+o)) Go.undef)
       rw [show lo*s2+(i*s2+o)=(lo+i)*s2+o by rw [Nat.add_mul];omega]
       exact h3
    ·have e0:hi - lo=0:=by omega
     rw [e0] at h
     exact ⟨0,_,fun _=>Go.undef,h,mk 0 0 A0 _ (fun h=>by omega) (fun j hj=>by omega),fun i o hi=>by omega⟩
   ·exact h.elim
 ·exact h.elim

theorem getD_rangeMap (val:Nat→Value) (k j:Nat) (h:j<k):((List.range k).map val).getD j Go.undef=val j:=by
 simp [List.getD_eq_getElem?_getD,h]

theorem grown_cells {olds news:List Value} {z:Array Value} {sz n m cap:Nat} (hz:z.size=sz) (ho:olds.length=n*sz) (hn:news.length=m*sz) (hc:n+m≤cap) :
  ((olds++news).toArray++Builtin.zeroCells z (cap - (n+m))).size=cap*sz ∧
  (∀ j,j<n*sz→((olds++news).toArray++Builtin.zeroCells z (cap - (n+m))).getD j Go.undef=olds.getD j Go.undef) ∧
  (∀ j,j<m*sz→((olds++news).toArray++Builtin.zeroCells z (cap - (n+m))).getD (n*sz+j) Go.undef=news.getD j Go.undef):=by
 have hs:(Builtin.zeroCells z (cap - (n+m))).size=(cap - (n+m))*sz:=by rw [size_zeroCells,hz]
 refine ⟨?_,fun j hj=>?_,fun j hj=>?_⟩
 ·simp only [Array.size_append,List.size_toArray,List.length_append,ho,hn,hs]
  rw [← Nat.add_mul,← Nat.add_mul]
  congr 1
  omega
 ·simp only [Array.getD_eq_getD_getElem?,List.getD_eq_getElem?_getD]
  rw [Array.getElem?_append_left (by simp;omega),List.getElem?_toArray,List.getElem?_append_left (by omega)]
 ·simp only [Array.getD_eq_getD_getElem?,List.getD_eq_getElem?_getD]
  rw [Array.getElem?_append_left (by simp;omega),List.getElem?_toArray,List.getElem?_append_right (by omega),ho]
  congr 2
  omega

theorem oneCells_grown {l:List Value} {z:Array Value} {k:Nat} (hl:∀ u∈l,u.oneCell'=true) (hz:OneCells z) (h0:0<z.size):OneCells (l.toArray++Builtin.zeroCells z k):=by
 intro j hj
 simp only [Array.size_append,List.size_toArray] at hj
 by_cases h:j<l.length
 ·have e1:(l.toArray++Builtin.zeroCells z k).getD j Go.undef=l[j]:=by
   simp only [Array.getD_eq_getD_getElem?]
   rw [Array.getElem?_append_left (by simpa using h)]
   simp [h]
  rw [e1]
  exact hl _ (List.getElem_mem h)
 ·have hk:j - l.length<k*z.size:=by rw [size_zeroCells] at hj;omega
  have e1:(l.toArray++Builtin.zeroCells z k).getD j Go.undef=z.getD ((j - l.length) % z.size) Go.undef:=by
   simp only [Array.getD_eq_getD_getElem?]
   rw [Array.getElem?_append_right (by simp;omega)]
   have:=getD_range_mod z (k*z.size) (j - l.length) hk h0
   simp only [Array.getD_eq_getD_getElem?] at this
   simpa [Builtin.zeroCells] using this
  rw [e1]
  exact hz _ (Nat.mod_lt _ h0)

theorem heap_drew (w:World):w.drew.heap=w.heap:=rfl

theorem HR.drew {w:World} {B:Blocks} {H:Roots} {V:Nat→Prop} (hr:HR w B H V):HR w.drew B H V∧Mono w B H V w.drew B H V:=by
 have hm:Mono w B H V w.drew B H V:=⟨Nat.le_refl _,fun _ _ h=>⟨h,rfl⟩,fun _ _ _ _ h=>⟨h,rfl⟩,fun r p _ h => .inr ⟨r,p,h⟩,fun _ _ h=>h,fun _ h=>h,fun _ rt h => .inr ⟨rt,h,rfl,fun _ _ h=>⟨h,rfl⟩⟩,rfl,rfl,rfl⟩
 exact ⟨⟨fun r rt h=>(hr.root r rt h).mono hm (fun _ _ _=>⟨rfl,fun _ _=>rfl⟩),hr.ver,hr.dom,hr.lev,hr.inj⟩,hm⟩

theorem run_firstCells_zero {P:Program} (w:World) (sz:Nat) (A:Option Addr) (len cap:Nat):(Builtin.firstCells sz 0 (.slice A len cap)).run P w = .ok #[] w:=by
 cases A with
 | none=>exact run_firstCells_none w sz 0 len cap
 | some a=>have:=run_firstCells_some (P:=P) w sz 0 a len cap [] (by simp) (fun j v h=>by simp at h);simpa using this

theorem ghostRoot {w:World} {B:Blocks} {hp:List (RId × Root)} {V:Nat→Prop} {ver:Nat} (hr:HR w B (lkH hp) V) (hver:¬ V ver) (id:RId) (hid:id.1≠0) (sz:Nat) (c:Nat→Nat→PV) (A0:Option Addr:=none) :
  ∃ B',HR w B' (lkH (setH hp id (some ⟨ver,.own sz 0 c⟩))) (ors V ver)∧Mono w B (lkH hp) V w B' (lkH (setH hp id (some ⟨ver,.own sz 0 c⟩))) (ors V ver) ∧
   VR w B' (lkH (setH hp id (some ⟨ver,.own sz 0 c⟩))) (ors V ver) (.ref id ver [] sz 0 0) (.slice A0 0 0):=by
 let B':Blocks:=fun r p=>if r=id then none else B r p
 have hB:∀ r p b,B' r p=some b→r≠id∧B r p=some b:=fun r p b h=>by
  by_cases e:r=id
  ·simp [B',e] at h
  ·exact ⟨e,by simpa [B',e] using h⟩
 have hne:∀ r p,r≠id→B' r p=B r p:=fun r p h=>by simp [B',h]
 have hlk:∀ j,lkH (setH hp id (some ⟨ver,.own sz 0 c⟩)) j=if j=id then some ⟨ver,.own sz 0 c⟩ else lkH hp j:=fun j=>lookH_setH ..
 have hm:Mono w B (lkH hp) V w B' (lkH (setH hp id (some ⟨ver,.own sz 0 c⟩))) (ors V ver):=by
  refine ⟨Nat.le_refl _,fun b _ hf=>⟨fun r p h=>hf r p (hB r p b h).2,rfl⟩,fun r p b h0 h=>⟨by rw [hne r p (fun e=>hid (e▸h0))];exact h,rfl⟩,fun r p b h => .inr ⟨r,p,(hB r p b h).2⟩,fun _ _ h=>h,fun _ h => .inl h,fun j rt h=>?_,rfl,rfl,rfl⟩
  rw [hlk] at h
  split at h
  ·cases h;exact .inl hver
  ·rename_i hj;exact .inr ⟨rt,h,rfl,fun p s hp=>⟨hp,hne j p hj⟩⟩
 refine ⟨B',⟨fun j rt h=>?_,fun j rt h=>?_,fun r p b h=>?_,fun j rt h=>?_,fun r p r' p' b h h'=>hr.inj _ _ _ _ _ (hB r p b h).2 (hB r' p' b h').2⟩,hm,.ref (.inr rfl) fun rt h _=>?_⟩
 ·rw [hlk] at h
  split at h
  ·rename_i e;subst e;cases h;exact .own (.nil (A:=A0) (by simp [B']))
  ·rename_i hj;exact (hr.root j rt h).mono hm (fun t s _=>⟨hne j t hj,fun _ _=>rfl⟩)
 ·rw [hlk] at h
  split at h
  ·cases h;exact .inr rfl
  ·exact .inl (hr.ver j rt h)
 ·obtain ⟨h1,h2⟩:=hB r p b h
  obtain ⟨h3,h4⟩:=hr.dom r p b h2
  exact ⟨h3,h4.imp (fun h=>h) fun ⟨rt,s,h5,h6⟩=>⟨rt,s,by rw [hlk,if_neg h1];exact h5,h6⟩⟩
 ·rw [hlk] at h
  split at h
  ·rename_i e;rw [e];exact hid
  ·exact hr.lev j rt h
 ·rw [hlk,if_pos rfl] at h
  cases h
  exact ⟨0,at_nil.2 rfl,Nat.le_refl _,Nat.le_refl _,.inr ⟨by simp [B'],⟨A0,rfl⟩,rfl⟩⟩

theorem run_append_zero {P:Program} {w:World} {t ty e:TypeId} {i:TypeInfo} (ht:P.underlying t=some (.slice e)) (hi:P.info? e=some i) {x:Value} (hs:Src P i.size t x 0 [] w) (base:Option Addr) (n cap:Nat) (hc:n≤cap) :
  (Builtin.append_ #[t,t] ty #[.slice base n cap,x]).run P w = .ok (.slice base n cap) w:=by
 have hl:=hs.len w
 have hcs:=hs.cells
 cases base <;> simp [Builtin.append_,run_underlying ht,sizeOf,typeInfo,hi,hl,hcs,hc,storeCells]

theorem grow_fin {w w':World} {B B':Blocks} {hp:List (RId × Root)} {V:Nat→Prop} {ver:Nat} {r:RId} {rt:Root} {sz n m:Nat} {f c:Nat→Nat→PV} {xb:Option Nat} (hr:HR w B (lkH hp) V) (hver:¬ V ver) (hH:lkH hp r=some rt) (hnode:rt.node = .own sz n f)
  (g:Regrow w w' B B' (lkH hp) (lkH (setH hp r (some ⟨ver,.own sz (n+m) fun i o=>if i<n then f i o else c (i - n) o⟩))) r xb ⟨ver,.own sz (n+m) fun i o=>if i<n then f i o else c (i - n) o⟩) {b cap:Nat} {cs cs':Array Value} {e:TypeId}
  (hx:xb=some b) (hold:∀ i o,i<n→o<sz→TR w B (lkH hp) V r [(i,o)] (f i o) (cs.getD (i*sz+o) Go.undef)) (hh:w'.heap[b]?=some (.cells cs' e (0,0))) (hcap:cap*sz≤cs'.size) (hone:OneCells cs') (hle:n+m≤cap) (hmax:n+m≤140737488355328)
  (h1:∀ i o,i<n→o<sz→cs'.getD (i*sz+o) Go.undef=cs.getD (i*sz+o) Go.undef) (h2:∀ i o,i<m→o<sz→VR w B (lkH hp) V (c i o) (cs'.getD ((n+i)*sz+o) Go.undef)) {Ad:Addr} (hAd:0<cap→Ad=⟨b,0,none⟩) :
  HR w' B' (lkH (setH hp r (some ⟨ver,.own sz (n+m) fun i o=>if i<n then f i o else c (i - n) o⟩))) (ors V ver) ∧
  Mono w B (lkH hp) V w' B' (lkH (setH hp r (some ⟨ver,.own sz (n+m) fun i o=>if i<n then f i o else c (i - n) o⟩))) (ors V ver) ∧
  VR w' B' (lkH (setH hp r (some ⟨ver,.own sz (n+m) fun i o=>if i<n then f i o else c (i - n) o⟩))) (ors V ver) (.ref r ver [] sz 0 (n+m)) (.slice (some Ad) (n+m) cap):=by
 have hm:=g.mono hr hver rfl hH
 have hBr:B' r []=some b:=by rw [g.blk,if_pos ⟨rfl,rfl⟩,hx]
 have hne:∀ i o t k,B r ((i,o)::t)=some k→xb≠some k:=by
  intro i o t k h1 e
  rcases g.old with h|⟨nb,h,h3⟩
  ·have:=(hr.inj _ _ _ _ _ h1 (h▸e)).2;cases this
  ·rw [h] at e;cases e;have:=(hr.dom _ _ _ h1).1;omega
 have htr:TR w' B' (lkH (setH hp r (some ⟨ver,.own sz (n+m) fun i o=>if i<n then f i o else c (i - n) o⟩))) (ors V ver) r [] (.own sz (n+m) fun i o=>if i<n then f i o else c (i - n) o) (.slice (some Ad) (n+m) cap):=by
  refine .own hAd hBr hh ⟨hcap,hone⟩ hle hmax fun i o hi ho=>?_
  by_cases h:i<n
  ·simp only [h,if_true]
   rw [h1 i o h ho]
   refine (hold i o h ho).mono hm fun t s _=>⟨?_,fun k hk=>g.heap k (hr.dom _ _ _ hk).1 (hne _ _ _ _ hk)⟩
   show B' r ((i,o)::t)=B r ((i,o)::t)
   rw [g.blk,if_neg (fun e=>by cases e.2)]
  ·simp only [h,if_false]
   have:=h2 (i - n) o (by omega) ho
   rw [show n+(i - n)=i by omega] at this
   exact .leaf (this.mono hm)
 refine ⟨g.hr hr hver hH hnode (by omega) (fun i o hi=>by simp [hi]) (fun _ _=>trivial) htr,hm,.ref (.inr rfl) fun rt2 h _=>?_⟩
 rw [lookH_setH,if_pos rfl] at h
 cases h
 refine ⟨n+m,at_nil.2 rfl,Nat.zero_le _,Nat.le_refl _,.inl ⟨b,Ad,cap,e,cs'.size,hBr,rfl,by omega,fun h=>by rw [hAd h];simp,?_,by simpa using hcap⟩⟩
 simp [World.shape?,hh]

theorem Real.append {P:Program} {w:World} {B:Blocks} {hp:List (RId × Root)} {V:Nat→Prop} {ver:Nat} (hr:HR w B (lkH hp) V) (hver:¬ V ver) (id:RId) (hid:id.1≠0) (t ty:TypeId) {x y:PV} {vx vy:Value}
  (hx:VR w B (lkH hp) V x vx) (hy:VR w B (lkH hp) V y vy):Real P w B hp V ver (Builtin.append_ #[t,t] ty #[vx,vy]) (appendA P id ver t x y):=by
 intro K hK
 unfold appendA at hK
 split at hK
 ·rename_i e he
  split at hK
  ·rename_i z hz
   obtain ⟨⟨hzl,h0,hdry⟩,hK⟩:=hK
   have hu:=sliceOf_some he
   obtain ⟨zv,e1,e2,e3⟩:=zeroL_some hz w
   have hi:(P.info? e).isSome:=by unfold zeroL at hz;cases hh:P.info? e <;> simp_all
   obtain ⟨i,hi'⟩:=Option.isSome_iff_exists.1 hi
   have hbytes:P.bytesOf e=i.bytes:=by simp [Program.bytesOf,hi']
   have hsize:i.size=z.length:=by rw [hzl];simp [Program.cellsOf,hi']
   obtain ⟨zz,hzz,hzzl⟩:∃ zz,i.zero=some zz∧zz.cells.toList.map cv=z:=by
    unfold zeroL at hz
    rw [hi'] at hz
    simp only [Option.bind_some,Option.map_eq_some_iff] at hz
    obtain ⟨zz,h1,h2⟩:=hz
    exact ⟨zz,h1,h2⟩
   have hzzs:zz.cells.size=z.length:=by rw [← hzzl];simp
   have hzone:OneCells zz.cells:=by
    have hL:LR w B (lkH hp) V z zz.cells:=⟨hzzs.symm,fun j hj=>by
     rw [← hzzl]
     have:j<zz.cells.size:=by omega
     simp [List.getD_eq_getElem?_getD,Array.getD_eq_getD_getElem?,this]
     exact VR.cv _⟩
    exact oneCells_of hL fun c hc=>dryCell_one (List.all_eq_true.1 hdry c hc)
   have hu':=hu
   have hrun0:=fun (base:Option Addr) (n cap:Nat) (hc:n≤cap) (hs:Src P i.size t vy 0 [] w)=>run_append_zero (ty:=ty) hu hi' hs base n cap hc
   split at hK
   ·-- onto nil
    cases hx
    obtain ⟨m,c,val,hk,hsrc,hval⟩:=srcA_wp hr hu h0 hy hK
    obtain ⟨⟨hb1,hb2⟩,hk⟩:=hk
    rcases Nat.eq_zero_or_pos m with rfl|hm
    ·obtain ⟨B',g1,g2,g3⟩:=ghostRoot hr hver id hid z.length c
     refine ⟨_,w,B',_,_,hrun0 none 0 0 (Nat.le_refl _) (by rw [hsize];simpa using hsrc),hk,g3,g1,g2⟩
    ·obtain ⟨hrd,hmd⟩:=hr.drew
     have hsrc':Src P i.size t vy m ((List.range (m*z.length)).map val) w:=by rw [hsize];exact hsrc
     have hrun:=run_append_grow_src w t t ty e i zz hu hi' hzz none 0 0 [] (run_firstCells_none w.drew i.size 0 0 0) vy m _ hsrc' (by omega) (by omega) (growslice_fits (by omega) (by rw [← hbytes];simpa using hb1))
     simp only [Nat.zero_add,List.nil_append] at hrun
     have hge:=grownCap_ge w m 0 e
     obtain ⟨q1,q2,q3⟩:=grown_cells (olds:=[]) (news:=(List.range (m*z.length)).map val) (z:=zz.cells) (sz:=z.length) (n:=0) (m:=m) (cap:=grownCap w m 0 e) hzzs (by simp) (by simp) (by omega)
     simp only [Nat.zero_add,List.nil_append,Nat.zero_mul] at q1 q2 q3
     have hone:OneCells (((List.range (m*z.length)).map val).toArray++Builtin.zeroCells zz.cells (grownCap w m 0 e - m)):=oneCells_grown hsrc.one hzone (by omega)
     have hf:Fresh w.drew B (lkH hp) V z.length m (.own z.length m c) (fun _ _=>none) (((List.range (m*z.length)).map val).toArray++Builtin.zeroCells zz.cells (grownCap w m 0 e - m)):=by
      refine ⟨fun i o hi ho _=>?_,(fun i o r _ _ h=>by cases h),(fun _ _ _ _ _ _ _ _ _ h=>by cases h),hone⟩
      have hj:i*z.length+o<m*z.length:=by have:=mul_lt_le (s:=z.length) hi;omega
      rw [q3 _ hj,getD_rangeMap _ _ _ hj]
      exact (hval i o hi ho).mono hmd
     obtain ⟨g1,g2⟩:=newRoot (hp':=setH hp id (some ⟨ver,.own z.length m c⟩)) hrd hver id hid (q:=true) rfl e hf (.inl rfl) (by omega) (by
      simp only [if_true]
      rw [q1]
      exact Nat.mul_le_mul_right _ hge) (fun r=>by rw [lookH_setH];simp)
     refine ⟨_,_,_,_,_,hrun,hk,.ref (.inr rfl) (fun rt h _=>?_),g1,hmd.trans g2⟩
     rw [lookH_setH,if_pos rfl] at h
     cases h
     exact ⟨m,at_nil.2 rfl,Nat.zero_le _,Nat.le_refl _,.inl ⟨w.heap.size,⟨w.heap.size,0,none⟩,grownCap w m 0 e,e,(((List.range (m*z.length)).map val).toArray++Builtin.zeroCells zz.cells (grownCap w m 0 e - m)).size,by simp [movedB,heap_drew],rfl,by omega,fun _=>by simp,by
      have hnew:=heap_alloc_new w.drew (.cells (((List.range (m*z.length)).map val).toArray++Builtin.zeroCells zz.cells (grownCap w m 0 e - m)) e)
      rw [heap_drew] at hnew
      simp only [World.shape?,hnew],by rw [q1];simp⟩⟩
   ·-- onto what is frozen and has no room
    rename_i sz' n f
    obtain ⟨⟨rfl,hfd⟩,hK⟩:=hK
    obtain ⟨m,c,val,hk,hsrc,hval⟩:=srcA_wp hr hu h0 hy hK
    obtain ⟨⟨hb1,hb2,hnm⟩,hk⟩:=hk
    cases hx with
    | @fcl _ _ _ _ _ A gv hmx hA hg =>
    rcases Nat.eq_zero_or_pos m with rfl|hm
    ·obtain rfl:n=0:=by omega
     obtain ⟨B',g1,g2,g3⟩:=ghostRoot hr hver id hid z.length (fun i o=>if i<0 then f i o else c (i - 0) o) A
     refine ⟨_,w,B',_,_,hrun0 A 0 0 (Nat.le_refl _) (by rw [hsize];simpa using hsrc),hk,g3,g1,g2⟩
    ·obtain ⟨hrd,hmd⟩:=hr.drew
     have hsrc':Src P i.size t vy m ((List.range (m*z.length)).map val) w:=by rw [hsize];exact hsrc
     have hdm:∀ {k j:Nat},j<k*z.length→j / z.length<k∧j % z.length<z.length∧j / z.length*z.length+j % z.length=j:=fun {k j} hj=>⟨(Nat.div_lt_iff_lt_mul h0).2 hj,Nat.mod_lt _ h0,by rw [Nat.mul_comm];exact Nat.div_add_mod j z.length⟩
     have hold:(Builtin.firstCells i.size n (.slice A n n)).run P w.drew = .ok ((List.range (n*z.length)).map fun j=>gv (j / z.length) (j % z.length)).toArray w.drew:=by
      rw [hsize]
      rcases Nat.eq_zero_or_pos n with rfl|hn
      ·have:=run_firstCells_zero (P:=P) w.drew z.length A 0 0
       simpa using this
      ·obtain ⟨b,off,rfl,_,_,hc⟩:=hA hn
       refine run_firstCells_some w.drew z.length n ⟨b,off,none⟩ n n _ (by simp) (fun j u hu=>?_)
       simp only [List.getElem?_map] at hu
       have hj:j<n*z.length:=by
        rcases Nat.lt_or_ge j (n*z.length) with h1|h1
        ·exact h1
        ·rw [List.getElem?_eq_none (by simpa using h1)] at hu;cases hu
       rw [List.getElem?_range hj] at hu
       simp only [Option.map_some,Option.some.injEq] at hu
       subst hu
       obtain ⟨d1,d2,d3⟩:=hdm hj
       have:=hc _ _ d1 d2
       rw [d3] at this
       rw [add_plain]
       exact this
     have hrun:=run_append_grow_src w t t ty e i zz hu hi' hzz A n n _ hold vy m _ hsrc' (by omega) (by omega) (growslice_fits (by omega) (by rw [← hbytes];exact hb1))
     have hge:=grownCap_ge w (n+m) n e
     obtain ⟨q1,q2,q3⟩:=grown_cells (olds:=(List.range (n*z.length)).map fun j=>gv (j / z.length) (j % z.length)) (news:=(List.range (m*z.length)).map val) (z:=zz.cells) (sz:=z.length) (n:=n) (m:=m) (cap:=grownCap w (n+m) n e) hzzs (by simp) (by simp) hge
     generalize hcells:(((List.range (n*z.length)).map fun j=>gv (j / z.length) (j % z.length))++(List.range (m*z.length)).map val).toArray++Builtin.zeroCells zz.cells (grownCap w (n+m) n e - (n+m))=cells at hrun q1 q2 q3
     have hone:OneCells cells:=by
      rw [← hcells]
      refine oneCells_grown (fun u hu=>?_) hzone (by omega)
      rcases List.mem_append.1 hu with h|h
      ·obtain ⟨j,hj,rfl⟩:=List.mem_map.1 h
       obtain ⟨d1,d2,_⟩:=hdm (List.mem_range.1 hj)
       have hd:=hfd _ d1 _ d2
       exact ((hg _ _ d1 d2).oneCell (dryCell_one (H:=H0) hd).1 (dryCell_one (H:=H0) hd).2).1
      ·exact hsrc.one u h
     have hf:Fresh w.drew B (lkH hp) V z.length (n+m) (.own z.length (n+m) fun i o=>if i<n then f i o else c (i - n) o) (fun _ _=>none) cells:=by
      refine ⟨fun i o hi ho _=>?_,(fun i o r _ _ h=>by cases h),(fun _ _ _ _ _ _ _ _ _ h=>by cases h),hone⟩
      simp only [cellAt]
      by_cases hin:i<n
      ·rw [if_pos hin]
       have hj:i*z.length+o<n*z.length:=by have:=mul_lt_le (s:=z.length) hin;omega
       rw [q2 _ hj,getD_rangeMap _ _ _ hj]
       have e1:(i*z.length+o) / z.length=i:=by rw [Nat.mul_comm,Nat.mul_add_div h0,Nat.div_eq_of_lt ho,Nat.add_zero]
       have e2:(i*z.length+o) % z.length=o:=by rw [Nat.mul_comm,Nat.mul_add_mod,Nat.mod_eq_of_lt ho]
       simp only [e1,e2]
       exact ((hg i o hin ho).lift (fun _ _ _ h=>h)).mono hmd
      ·rw [if_neg hin]
       have hj:(i - n)*z.length+o<m*z.length:=by have:=mul_lt_le (s:=z.length) (show i - n<m by omega);omega
       rw [show i*z.length+o=n*z.length+((i - n)*z.length+o) by rw [← Nat.add_assoc,← Nat.add_mul];congr 2;omega,q3 _ hj,getD_rangeMap _ _ _ hj]
       exact (hval _ o (by omega) ho).mono hmd
     obtain ⟨g1,g2⟩:=newRoot (hp':=setH hp id (some ⟨ver,.own z.length (n+m) fun i o=>if i<n then f i o else c (i - n) o⟩)) hrd hver id hid (q:=true) rfl e hf (.inl rfl) (by omega) (by
      simp only [if_true]
      rw [q1]
      exact Nat.mul_le_mul_right _ hge) (fun r=>by rw [lookH_setH];simp)
     refine ⟨_,_,_,_,_,hrun,hk,.ref (.inr rfl) (fun rt h _=>?_),g1,hmd.trans g2⟩
     rw [lookH_setH,if_pos rfl] at h
     cases h
     exact ⟨n+m,at_nil.2 rfl,Nat.zero_le _,Nat.le_refl _,.inl ⟨w.heap.size,⟨w.heap.size,0,none⟩,grownCap w (n+m) n e,e,cells.size,by simp [movedB,heap_drew],rfl,by omega,fun _=>by simp,by
      have hnew:=heap_alloc_new w.drew (.cells cells e)
      rw [heap_drew] at hnew
      simp only [World.shape?,hnew],by rw [q1];simp⟩⟩
   ·-- onto a root
    rename_i r v sz' hi0
    simp only [A.wp] at hK
    cases hH:lkH hp r with
    | none=>rw [hH] at hK;exact hK.elim
    | some rt =>
     rw [hH] at hK
     simp only at hK
     split at hK
     ·rename_i sz'' n f hnode
      obtain ⟨⟨hvr,rfl,rfl,rfl⟩,hK⟩:=hK
      obtain ⟨m,c,val,hk,hsrc,hval⟩:=srcA_wp hr hu h0 hy hK
      obtain ⟨⟨hb1,hb2⟩,hk⟩:=hk
      have hsrc':Src P i.size t vy m ((List.range (m*z.length)).map val) w:=by rw [hsize];exact hsrc
      cases hx with
      | ref hv hx =>
      obtain ⟨n',hat,_,hle,hx⟩:=hx rt hH hvr
      have hnn:n'=hi0:=by
       have:=hat.2
       rw [hnode] at this
       simp [getAt,shapeOf] at this
       exact this.symm
      subst hnn
      have hroot:=(hr.root r rt hH).node [] hat
      rw [hnode] at hroot
      have hlkr:∀ j,lkH (setH hp r (some ⟨ver,.own z.length (n'+m) fun i o=>if i<n' then f i o else c (i - n') o⟩)) j=if j=r then some ⟨ver,.own z.length (n'+m) fun i o=>if i<n' then f i o else c (i - n') o⟩ else lkH hp j:=fun j=>lookH_setH ..
      have hrid:r.1≠0:=hr.lev r rt hH
      have grow:∀ (base:Option Addr) (cap:Nat) (cs:Array Value),vx = .slice base n' cap→cap<n'+m→(Builtin.firstCells i.size n' (.slice base n' cap)).run P w.drew = .ok ((List.range (n'*z.length)).map fun j=>cs.getD j Go.undef).toArray w.drew →
        (∀ j,j<n'*z.length→(cs.getD j Go.undef).oneCell'=true)→(∀ i o,i<n'→o<z.length→TR w B (lkH hp) V r [(i,o)] (f i o) (cs.getD (i*z.length+o) Go.undef)) →
        ∃ v w' B' hp' x',(Builtin.append_ #[t,t] ty #[vx,vy]).run P w = .ok v w'∧K x' hp'∧VR w' B' (lkH hp') (ors V ver) x' v∧HR w' B' (lkH hp') (ors V ver)∧Mono w B (lkH hp) V w' B' (lkH hp') (ors V ver):=by
       rintro base cap cs rfl hg hold holdone htr
       have hrun:=run_append_grow_src w t t ty e i zz hu hi' hzz base n' cap _ hold vy m _ hsrc' hg (by omega) (growslice_fits hg (by rw [← hbytes];exact hb1))
       have hge:=grownCap_ge w (n'+m) cap e
       obtain ⟨q1,q2,q3⟩:=grown_cells (olds:=(List.range (n'*z.length)).map fun j=>cs.getD j Go.undef) (news:=(List.range (m*z.length)).map val) (z:=zz.cells) (sz:=z.length) (n:=n') (m:=m) (cap:=grownCap w (n'+m) cap e) hzzs (by simp) (by simp) hge
       generalize hcells:(((List.range (n'*z.length)).map fun j=>cs.getD j Go.undef)++(List.range (m*z.length)).map val).toArray++Builtin.zeroCells zz.cells (grownCap w (n'+m) cap e - (n'+m))=cells at hrun q1 q2 q3
       have hone:OneCells cells:=by
        rw [← hcells]
        refine oneCells_grown (fun u hu=>?_) hzone (by omega)
        rcases List.mem_append.1 hu with h|h
        ·obtain ⟨j,hj,rfl⟩:=List.mem_map.1 h
         exact holdone j (List.mem_range.1 hj)
        ·exact hsrc.one u h
       obtain ⟨hrd,hmd⟩:=hr.drew
       have hlt:∀ i o,i<n'→o<z.length→i*z.length+o<n'*z.length:=fun i o hi ho=>by have:=mul_lt_le (s:=z.length) hi;omega
       have g:Regrow w (w.drew.alloc (.cells cells e)) B (fun r' p=>if r'=r∧p=[] then some w.heap.size else B r' p) (lkH hp) (lkH (setH hp r (some ⟨ver,.own z.length (n'+m) fun i o=>if i<n' then f i o else c (i - n') o⟩))) r (some w.heap.size) ⟨ver,.own z.length (n'+m) fun i o=>if i<n' then f i o else c (i - n') o⟩:=by
        refine ⟨fun _ _=>rfl,.inr ⟨_,rfl,Nat.le_refl _⟩,fun b h=>?_,hlkr,?_,fun k hk _=>heap_alloc_lt w.drew _ hk,fun k s hs=>?_,rfl,rfl,rfl⟩
        ·cases h;simp [heap_drew]
        ·simp [heap_drew]
        ·have hk:k<w.heap.size:=shape_lt hs
         simp only [World.shape?] at hs ⊢
         rw [heap_alloc_lt w.drew _ hk]
         exact hs
       have hnew:(w.drew.alloc (.cells cells e)).heap[w.heap.size]?=some (.cells cells e (0,0)):=heap_alloc_new w.drew _
       obtain ⟨k1,k2,k3⟩:=grow_fin hr hver hH hnode g (b:=w.heap.size) (cap:=grownCap w (n'+m) cap e) (cs:=cs) (cs':=cells) (e:=e) rfl htr hnew (by rw [q1];exact Nat.le_refl _) hone hge hb2
        (fun i o hi ho=>by rw [q2 _ (hlt i o hi ho),getD_rangeMap _ _ _ (hlt i o hi ho)])
        (fun i o hi ho=>by
         have hj:i*z.length+o<m*z.length:=by have:=mul_lt_le (s:=z.length) hi;omega
         rw [show (n'+i)*z.length+o=n'*z.length+(i*z.length+o) by rw [Nat.add_mul];omega,q3 _ hj,getD_rangeMap _ _ _ hj]
         exact hval i o hi ho) (Ad:=⟨w.heap.size,0,none⟩) (fun _=>rfl)
       exact ⟨_,_,_,_,_,hrun,hk,k3,k1,k2⟩
      rcases hx with ⟨b,A,cap,e',mm,hB,rfl,hcap,hA,hsh,hle'⟩|⟨hB,⟨A0,rfl⟩,h00⟩
      ·simp only [Nat.sub_zero] at *
       rcases hroot.out with ⟨hBn,_⟩|⟨b',cs,e2,hB',hh,⟨hsz,hone⟩,htr⟩
       ·rw [hB] at hBn;cases hBn
       ·obtain rfl:b'=b:=by rw [hB] at hB';exact (Option.some.inj hB').symm
        have hmm:mm=cs.size:=by simp [World.shape?,hh] at hsh;exact hsh.2.symm
        have hcs:cap*z.length≤cs.size:=by rw [← hmm];simpa using hle'
        have htr':∀ i o,i<n'→o<z.length→TR w B (lkH hp) V r [(i,o)] (f i o) (cs.getD (i*z.length+o) Go.undef):=fun i o hi ho=>by simpa [getAt,cellAt] using (htr i o hi ho).1
        have hncs:n'*z.length≤cs.size:=Nat.le_trans (Nat.mul_le_mul_right _ (by omega)) hcs
        by_cases hroom:n'+m≤cap
        ·-- there is room
         have gB:∀ w':World,w.heap.size≤w'.heap.size→(∀ k,k≠b'→w'.heap[k]?=w.heap[k]?)→(∀ k s,w.shape? k=some s→w'.shape? k=some s)→w'.os=w.os→w'.tape=w.tape→w'.output=w.output →
           Regrow w w' B B (lkH hp) (lkH (setH hp r (some ⟨ver,.own z.length (n'+m) fun i o=>if i<n' then f i o else c (i - n') o⟩))) r (some b') ⟨ver,.own z.length (n'+m) fun i o=>if i<n' then f i o else c (i - n') o⟩:=by
          intro w' j1 j2 j3 j4 j5 j6
          refine ⟨fun r' p=>?_,.inl hB.symm,fun b h=>?_,hlkr,j1,fun k _ hne=>j2 k (fun e=>hne (by rw [e])),j3,j4,j5,j6⟩
          ·split
           ·rename_i e;obtain ⟨rfl,rfl⟩:=e;exact hB
           ·rfl
          ·cases h;exact Nat.lt_of_lt_of_le (hr.dom _ _ _ hB).1 j1
         rcases Nat.eq_zero_or_pos m with rfl|hm
         ·have hrun:=hrun0 (some A) n' cap (by omega) (by simpa using hsrc')
          obtain ⟨k1,k2,k3⟩:=grow_fin hr hver hH hnode (gB w (Nat.le_refl _) (fun _ _=>rfl) (fun _ _ h=>h) rfl rfl rfl) (b:=b') (cap:=cap) (cs:=cs) (cs':=cs) (e:=e2) rfl htr' hh hcs hone hroom hb2 (fun _ _ _ _=>rfl) (fun i o hi=>by omega) (Ad:=A) (fun h=>by simpa using hA h)
          exact ⟨_,_,_,_,_,by simpa using hrun,hk,k3,k1,k2⟩
         ·obtain rfl:=hA (by omega)
          simp only [Nat.zero_mul] at *
          have hfit:n'*z.length+((List.range (m*z.length)).map val).length≤cs.size:=by
           have:=Nat.mul_le_mul_right z.length hroom
           rw [Nat.add_mul] at this
           simp
           omega
          obtain ⟨cs',s1,s2,s3,s4,s5,s6,s7,s8⟩:=setCells_facts ((List.range (m*z.length)).map val) (n'*z.length) w cs hh hfit
          have hrun:=run_append_room_src w t t ty e i hu hi' b' 0 n' cap vy m _ hsrc' hroom (fun j hj=>by
           rw [hsize]
           have:n'*z.length+j<cs.size:=by omega
           simp [World.cell?,hh,this]) (fun j hj=>by
           simp [World.frozen?,hh])
          rw [hsize,Nat.zero_add] at hrun
          have hlt:∀ i o,i<n'→o<z.length→i*z.length+o<n'*z.length:=fun i o hi ho=>by have:=mul_lt_le (s:=z.length) hi;omega
          obtain ⟨k1,k2,k3⟩:=grow_fin hr hver hH hnode (gB _ (by rw [s4];exact Nat.le_refl _) s5 (fun k s hs=>by
            by_cases hk:k=b'
            ·subst hk
             simp only [World.shape?,hh] at hs
             simp only [World.shape?,s1,s2]
             exact hs
            ·simp only [World.shape?,s5 k hk];exact hs) s6 s7 s8) (b:=b') (cap:=cap) (cs:=cs) (cs':=cs') (e:=e2) rfl htr' s1 (by rw [s2];exact hcs) (fun j hj=>by
            rw [s3]
            by_cases h:n'*z.length≤j∧j<n'*z.length+((List.range (m*z.length)).map val).length
            ·rw [if_pos h]
             refine hsrc.one _ ?_
             simp [List.getD_eq_getElem?_getD]
             have:j - n'*z.length<m*z.length:=by simp at h;omega
             simp [this]
             exact ⟨_,this,rfl⟩
            ·rw [if_neg h];exact hone j (by rw [← s2];exact hj)) hroom hb2
           (fun i o hi ho=>by rw [s3,if_neg (by have:=hlt i o hi ho;omega)])
           (fun i o hi ho=>by
            have hj:i*z.length+o<m*z.length:=by have:=mul_lt_le (s:=z.length) hi;omega
            rw [s3,show (n'+i)*z.length+o=n'*z.length+(i*z.length+o) by rw [Nat.add_mul];omega,if_pos (by simp;omega),Nat.add_sub_cancel_left,getD_rangeMap _ _ _ hj]
            exact hval i o hi ho) (Ad:=⟨b',0,none⟩) (fun _=>rfl)
          exact ⟨_,_,_,_,_,hrun,hk,k3,k1,k2⟩
        ·refine grow (some A) cap cs rfl (by omega) ?_ (fun j hj=>hone j (by omega)) htr'
         rw [hsize]
         refine run_firstCells_some w.drew z.length n' A n' cap _ (by simp) (fun j u hu=>?_)
         simp only [List.getElem?_map] at hu
         have hj:j<n'*z.length:=by
          rcases Nat.lt_or_ge j (n'*z.length) with h1|h1
          ·exact h1
          ·rw [List.getElem?_eq_none (by simpa using h1)] at hu;cases hu
         rw [List.getElem?_range hj] at hu
         simp only [Option.map_some,Option.some.injEq] at hu
         subst hu
         have hn0:0<n':=by
          rcases Nat.eq_zero_or_pos n' with h|h
          ·subst h;omega
          ·exact h
         rw [hA (by omega),add_plain]
         have:j<cs.size:=by omega
         simp [World.cell?,heap_drew,hh,this,Array.getD_eq_getD_getElem?]
      ·subst h00
       simp only [Nat.sub_zero] at *
       rcases Nat.eq_zero_or_pos m with rfl|hm
       ·have hrun:=hrun0 A0 0 0 (Nat.le_refl _) (by simpa using hsrc')
        have g:Regrow w w B B (lkH hp) (lkH (setH hp r (some ⟨ver,.own z.length (0+0) fun i o=>if i<0 then f i o else c (i - 0) o⟩))) r none ⟨ver,.own z.length (0+0) fun i o=>if i<0 then f i o else c (i - 0) o⟩:=by
         refine ⟨fun r' p=>?_,.inl hB.symm,(fun b h=>by cases h),hlkr,Nat.le_refl _,fun _ _ _=>rfl,fun _ _ h=>h,rfl,rfl,rfl⟩
         split
         ·rename_i e;obtain ⟨rfl,rfl⟩:=e;exact hB
         ·rfl
        have k2:=g.mono hr hver rfl hH
        have k1:=g.hr hr hver hH hnode (Nat.le_refl _) (fun i o hi=>by omega) (fun _ _=>trivial) (v := .slice A0 0 0) (.nil hB)
        refine ⟨_,w,B,_,_,hrun,hk,.ref (.inr rfl) fun rt2 h _=>?_,k1,k2⟩
        rw [lookH_setH,if_pos rfl] at h
        cases h
        exact ⟨0,at_nil.2 rfl,Nat.le_refl _,Nat.le_refl _,.inr ⟨hB,⟨_,rfl⟩,rfl⟩⟩
       ·refine grow A0 0 #[] rfl (by omega) ?_ (fun j hj=>by omega) (fun i o hi=>by omega)
        rw [hsize]
        have:=run_firstCells_zero (P:=P) w.drew z.length A0 0 0
        simpa using this
     ·exact hK.elim
   ·exact hK.elim
  ·exact hK.elim
 ·exact hK.elim
end Go.Ab
namespace Go.Ab
open Classical

def eqFin (op:BinOp) (b:Bool):A:=match op with
 | .eql => .ret (.bool b)
 | .neq => .ret (.bool !b)
 | _ => .fail

def nilE (op:BinOp) (p:Prop) [Decidable p]:A := .dec p fun b=>match b with
 | true=>eqFin op false
 | false => .any fun b=>eqFin op b

theorem nilE_wp {op:BinOp} {p:Prop} [Decidable p] {hp:List (RId × Root)} {K:PV→List (RId × Root)→Prop} (h:(nilE op p).wp hp K) {b:Bool} (hb:p→b=false):(eqFin op b).wp hp K:=by
 unfold nilE at h
 simp only [A.wp] at h
 by_cases hp':p
 ·rw [hb hp']
  simpa [hp'] using h
 ·have:(A.any fun b=>eqFin op b).wp hp K:=by simpa [hp'] using h
  exact this b

def eqA (P:Program) (t:TypeId) (op:BinOp) (x y:PV):A:=match P.underlying t,x,y with
 | some .bool,.bool a,.bool b=>eqFin op (a == b)
 | some (.slice _),.nils,.nils=>eqFin op true
 | some (.slice _),.frz _ n _,.nils=>nilE op (0<n)
 | some (.slice _),.fcl _ n _,.nils=>nilE op (0<n)
 | some (.slice _),.ref r v _ _ lo hi,.nils => .rd r fun
  | some rt => .vc (rt.ver=v) (nilE op (lo<hi))
  | none => .fail
 | some (.pointer _),.nilp,.nilp=>eqFin op true
 | some (.pointer _),.fptr ..,.nilp=>eqFin op false
 | some (.pointer _),.ptr r v _ _ _,.nilp => .rd r fun
  | some rt => .vc (rt.ver=v) (eqFin op false)
  | none => .fail
 | some (.func ..),.nilf,.nilf=>eqFin op true
 | some (.func ..),.func ..,.nilf=>eqFin op false
 | _,_,_ => .fail

section
variable {P:Program} {w:World} {t:TypeId}
theorem eqIn_bool (d:Nat) (hu:P.underlying t=some .bool) (a b:Bool):(Op.equalIn (d+1) t (.bool a) (.bool b)).run P w = .ok (a == b) w:=by
 simp only [Op.equalIn,Sem.run_bind,run_underlying' hu,Result.andThen_ok,Sem.run_pure]
theorem eqIn_slice (d:Nat) {e:TypeId} (hu:P.underlying t=some (.slice e)) (A:Option Addr) (n c:Nat):(Op.equalIn (d+1) t (.slice A n c) (.slice none 0 0)).run P w = .ok A.isNone w:=by
 cases A <;> simp only [Op.equalIn,Sem.run_bind,run_underlying' hu,Result.andThen_ok,Sem.run_pure,Option.isNone]
theorem eqIn_ptr (d:Nat) {e:TypeId} (hu:P.underlying t=some (.pointer e)) (A:Option Addr):(Op.equalIn (d+1) t (.pointer A) (.pointer none)).run P w = .ok A.isNone w:=by
 cases A <;> simp only [Op.equalIn,Sem.run_bind,run_underlying' hu,Result.andThen_ok,Sem.run_pure,Option.isNone]
theorem eqIn_func (d:Nat) {x y:Array TypeId} {z:Bool} (hu:P.underlying t=some (.func x y z)) (f:Fn) (a b:Array Value):(Op.equalIn (d+1) t (.func f a b) .nilFunc).run P w = .ok false w:=by
 simp only [Op.equalIn,Sem.run_bind,run_underlying' hu,Result.andThen_ok,Sem.run_pure]
theorem eqIn_nilf (d:Nat) {x y:Array TypeId} {z:Bool} (hu:P.underlying t=some (.func x y z)):(Op.equalIn (d+1) t .nilFunc .nilFunc).run P w = .ok true w:=by
 simp only [Op.equalIn,Sem.run_bind,run_underlying' hu,Result.andThen_ok,Sem.run_pure]
end

theorem eqFin_real {P:Program} {w:World} {B:Blocks} {hp:List (RId × Root)} {V:Nat→Prop} {op:BinOp} {t:TypeId} {ox oy:Operand} {vx vy:Value} {b:Bool} {K:PV→List (RId × Root)→Prop}
  (hg:(eqGuard op t ox oy vx vy).run P w = .ok () w) (he:(Op.equal t vx vy).run P w = .ok b w) (hb1:binOp .eql t vx vy=(do let r ← Op.equal t vx vy;pure (.bool r))) (hb2:binOp .neq t vx vy=(do let r ← Op.equal t vx vy;pure (.bool !r)))
  (hK:(eqFin op b).wp hp K):∃ v x,(do eqGuard op t ox oy vx vy;binOp op t vx vy:Sem Value).run P w = .ok v w∧K x hp∧VR w B (lkH hp) V x v:=by
 unfold eqFin at hK
 split at hK
 ·refine ⟨.bool b,_,?_,hK,.bool _⟩
  rw [hb1]
  simp [hg,he]
 ·refine ⟨.bool !b,_,?_,hK,.bool _⟩
  rw [hb2]
  simp [hg,he]
 ·exact hK.elim

theorem Real.eqA {P:Program} {w:World} {B:Blocks} {hp:List (RId × Root)} {V:Nat→Prop} {ver:Nat} (hr:HR w B (lkH hp) V) (op:BinOp) (t:TypeId) (ox oy:Operand) {x y:PV} {vx vy:Value}
  (hx:VR w B (lkH hp) V x vx) (hy:VR w B (lkH hp) V y vy):Real P w B hp V ver (do eqGuard op t ox oy vx vy;binOp op t vx vy) (Ab.eqA P t op x y):=by
 refine .of_pure hr fun K hK=>?_
 unfold Ab.eqA at hK
 split at hK
 ·rename_i a b hu
  cases hx;cases hy
  refine eqFin_real (b:=a == b) (by unfold eqGuard;split <;> rfl) ?_ (by simp [binOp]) (by simp [binOp]) hK
  exact eqIn_bool 9999 hu a b
 ·rename_i e hu
  cases hx;cases hy
  refine eqFin_real (b:=true) (by unfold eqGuard;split <;> rfl) ?_ (by simp [binOp]) (by simp [binOp]) hK
  exact eqIn_slice 9999 hu none 0 0
 ·rename_i e sz n f hu
  cases hy
  cases hx with
  | @frz _ _ _ _ _ A cap g hn hm hA hg =>
   have he:(Op.equal t (.slice A n cap) (.slice none 0 0)).run P w = .ok A.isNone w:=by
    exact eqIn_slice 9999 hu A n cap
   refine eqFin_real (b:=A.isNone) (by unfold eqGuard;split <;> rfl) he (by simp [binOp]) (by simp [binOp]) (nilE_wp hK fun h0=>?_)
   obtain ⟨b,off,rfl,_⟩:=hA h0
   rfl
 ·rename_i e sz n f hu
  cases hy
  cases hx with
  | @fcl _ _ _ _ _ A g hm hA hg =>
   have he:(Op.equal t (.slice A n n) (.slice none 0 0)).run P w = .ok A.isNone w:=by
    exact eqIn_slice 9999 hu A n n
   refine eqFin_real (b:=A.isNone) (by unfold eqGuard;split <;> rfl) he (by simp [binOp]) (by simp [binOp]) (nilE_wp hK fun h0=>?_)
   obtain ⟨b,off,rfl,_⟩:=hA h0
   rfl
 ·rename_i e r v p sz lo hi hu
  cases hy
  simp only [A.wp] at hK
  cases hH:lkH hp r with
  | none=>rw [hH] at hK;exact hK.elim
  | some rt =>
   rw [hH] at hK
   obtain ⟨hv,hK⟩:=hK
   cases hx with
   | ref _ h =>
    obtain ⟨n,hat,hlo,hhi,hx⟩:=h rt hH hv
    have fin:∀ A n cap,vx = .slice A n cap→(lo<hi→A.isNone=false)→∃ v x,(do eqGuard op t ox oy vx (.slice none 0 0);binOp op t vx (.slice none 0 0):Sem Value).run P w = .ok v w∧K x hp∧VR w B (lkH hp) V x v:=by
     rintro A n cap rfl hA
     have he:(Op.equal t (.slice A n cap) (.slice none 0 0)).run P w = .ok A.isNone w:=by
      exact eqIn_slice 9999 hu A n cap
     exact eqFin_real (b:=A.isNone) (by unfold eqGuard;split <;> rfl) he (by simp [binOp]) (by simp [binOp]) (nilE_wp hK hA)
    rcases hx with ⟨b,A,cap,_,_,_,rfl,_⟩|⟨_,⟨A0,rfl⟩,h0⟩
    ·exact fin (some A) _ _ rfl (fun _=>rfl)
    ·exact fin A0 _ _ rfl (fun h=>by omega)
 ·rename_i e hu
  cases hx;cases hy
  refine eqFin_real (b:=true) (by unfold eqGuard;split <;> rfl) ?_ (by simp [binOp]) (by simp [binOp]) hK
  exact eqIn_ptr 9999 hu none
 ·rename_i e _ _ _ hu
  cases hy
  cases hx with
  | fptr _ _ _ _ _ =>
   refine eqFin_real (b:=false) (by unfold eqGuard;split <;> rfl) ?_ (by simp [binOp]) (by simp [binOp]) hK
   exact eqIn_ptr 9999 hu (some _)
 ·rename_i e r v p i o hu
  cases hy
  simp only [A.wp] at hK
  cases hH:lkH hp r with
  | none=>rw [hH] at hK;exact hK.elim
  | some rt =>
   rw [hH] at hK
   obtain ⟨hv,hK⟩:=hK
   cases hx with
   | ptr _ h =>
    obtain ⟨_,_,_,_,_,_,_,_,rfl⟩:=h rt hH hv
    refine eqFin_real (b:=false) (by unfold eqGuard;split <;> rfl) ?_ (by simp [binOp]) (by simp [binOp]) hK
    exact eqIn_ptr 9999 hu (some _)
 ·rename_i hu
  cases hx;cases hy
  refine eqFin_real (b:=true) (by unfold eqGuard;split <;> rfl) ?_ (by simp [binOp]) (by simp [binOp]) hK
  exact eqIn_nilf 9999 hu
 ·rename_i hu
  cases hy
  cases hx with
  | func _ _ _ _ =>
   refine eqFin_real (b:=false) (by unfold eqGuard;split <;> rfl) ?_ (by simp [binOp]) (by simp [binOp]) hK
   exact eqIn_func 9999 hu _ _ _
 ·exact hK.elim

end Go.Ab
namespace Go.Ab
open Classical

def convA (P:Program) (s d:TypeId) (x:PV):A:=match P.underlying s,P.underlying d,x with
 | some _,some (.int k),.int _ n => .ret (.int k (k.wrap n))
 | some _,some .string,.str b => .ret (.str b)
 | _,_,_ => .fail

theorem Real.conv {P:Program} {w:World} {B:Blocks} {hp:List (RId × Root)} {V:Nat→Prop} {ver:Nat} (hr:HR w B (lkH hp) V) (s d:TypeId) {x:PV} {vx:Value} (hx:VR w B (lkH hp) V x vx) :
  Real P w B hp V ver (convert s d vx) (convA P s d x):=by
 refine .of_pure hr fun K hK=>?_
 unfold convA at hK
 split at hK
 ·rename_i ds k k' n hs hd
  cases hx
  exact ⟨_,_,by simp [convert,run_underlying' hs,run_underlying' hd,Conv.intToInt],hK,.int _ _⟩
 ·rename_i ds b hs hd
  cases hx
  exact ⟨_,_,by simp [convert,run_underlying' hs,run_underlying' hd],hK,.str _⟩
 ·exact hK.elim

def maxA:PV→PV→A
 | .int k x,.int k' y => .vc (k=k') (.ret (.int k (if y>x then y else x)))
 | _,_ => .fail
def minA:PV→PV→A
 | .int k x,.int k' y => .vc (k=k') (.ret (.int k (if y<x then y else x)))
 | _,_ => .fail

theorem Real.max {P:Program} {w:World} {B:Blocks} {hp:List (RId × Root)} {V:Nat→Prop} {ver:Nat} (hr:HR w B (lkH hp) V) (at_:Array TypeId) (ty:TypeId) {x y:PV} {vx vy:Value} (hx:VR w B (lkH hp) V x vx) (hy:VR w B (lkH hp) V y vy) :
  Real P w B hp V ver (Builtin.max_ at_ ty #[vx,vy]) (maxA x y):=by
 refine .of_pure hr fun K hK=>?_
 unfold maxA at hK
 split at hK
 ·obtain ⟨_,hk⟩:=hK
  cases hx;cases hy
  exact ⟨_,_,by simp [Builtin.max_,Builtin.max2],hk,.int _ _⟩
 ·exact hK.elim
theorem Real.min {P:Program} {w:World} {B:Blocks} {hp:List (RId × Root)} {V:Nat→Prop} {ver:Nat} (hr:HR w B (lkH hp) V) (at_:Array TypeId) (ty:TypeId) {x y:PV} {vx vy:Value} (hx:VR w B (lkH hp) V x vx) (hy:VR w B (lkH hp) V y vy) :
  Real P w B hp V ver (Builtin.min_ at_ ty #[vx,vy]) (minA x y):=by
 refine .of_pure hr fun K hK=>?_
 unfold minA at hK
 split at hK
 ·obtain ⟨_,hk⟩:=hK
  cases hx;cases hy
  exact ⟨_,_,by simp [Builtin.min_,Builtin.min2],hk,.int _ _⟩
 ·exact hK.elim
end Go.Ab
namespace Go.Ab
open Classical

def setRows (lo k:Nat) (c:Nat→Nat→PV):PV→PV
 | .own sz n f => .own sz n fun i o=>if lo≤i∧i<lo+k then c (i - lo) o else f i o
 | v=>v

theorem setRows_mild {v:PV} {lo k sz n:Nat} {c f:Nat→Nat→PV} (hv:v = .own sz n f) (hold:∀ i o,lo≤i→i<lo+k→o<sz→shapeOf (f i o)=none) (hc:∀ i o,i<k→o<sz→shapeOf (c i o)=none):Mild (setRows lo k c) v:=by
 subst hv
 refine ⟨rfl,fun sz' n' hs i o hi ho q s hat=>?_,fun sz' n' hs i o hi ho q s hat=>?_,rfl⟩
 ·simp only [shapeOf,Option.some.injEq,Prod.mk.injEq,true_and] at hs
  obtain ⟨rfl,rfl⟩:=hs
  simp only [setRows,cellAt] at hat ⊢
  by_cases h:lo≤i∧i<lo+k
  ·exact absurd hat (at_leaf (hold i o h.1 h.2 ho) q s)
  ·rw [if_neg h]
 ·simp only [shapeOf,Option.some.injEq,Prod.mk.injEq,true_and] at hs
  obtain ⟨rfl,rfl⟩:=hs
  simp only [setRows,cellAt] at hat ⊢
  by_cases h:lo≤i∧i<lo+k
  ·rw [if_pos h] at hat
   exact absurd hat (at_leaf (hc (i - lo) o (by omega) ho) q s)
  ·rw [if_neg h]

theorem rows_put {w:World} {B:Blocks} {hp:List (RId × Root)} {V:Nat→Prop} (hr:HR w B (lkH hp) V) {r:RId} {rt:Root} (hH:lkH hp r=some rt) {p:Path} {sz n:Nat} {f:Nat→Nat→PV} (hat:at? rt.node p (true,sz,n)) (hnode:getAt rt.node p = .own sz n f)
  {b:Nat} (hB:B r p=some b) {cs:Array Value} {e:TypeId} (hh:w.heap[b]?=some (.cells cs e (0,0))) (hn:n*sz≤cs.size) {lo k:Nat} (hlo:lo+k≤n) {c:Nat→Nat→PV} {vs:List Value} (hvs:vs.length=k*sz) (hone:∀ v∈vs,v.oneCell'=true)
  (hc:∀ i o,i<k→o<sz→VR w B (lkH hp) V (c i o) (vs.getD (i*sz+o) Go.undef)) (hold:∀ i o,lo≤i→i<lo+k→o<sz→shapeOf (f i o)=none) :
  HR (World.putBlock w b (putCells cs (lo*sz) vs)) B (lkH (setH hp r (some ⟨rt.ver,updAt (setRows lo k c) rt.node p⟩))) V ∧
  Mono w B (lkH hp) V (World.putBlock w b (putCells cs (lo*sz) vs)) B (lkH (setH hp r (some ⟨rt.ver,updAt (setRows lo k c) rt.node p⟩))) V:=by
 have hfit:lo*sz+vs.length≤cs.size:=by
  rw [hvs,← Nat.add_mul]
  exact Nat.le_trans (Nat.mul_le_mul_right _ hlo) hn
 refine hr.put hH hat hB hh (putCells_size ..) (putCells_one hone hfit) (setRows_mild hnode hold (fun i o hi ho=>(hc i o hi ho).noShape)) (fun j=>lookH_setH ..) (fun i o hi ho=>?_)
 rw [putCells_getD _ _ _ _ hfit,hvs,hnode]
 simp only [setRows,cellAt]
 by_cases h:lo≤i∧i<lo+k
 ·right
  have h1:(i - lo)*sz+lo*sz=i*sz:=by rw [← Nat.add_mul];congr 1;omega
  have h2:=mul_lt_le (s:=sz) (show i - lo<k by omega)
  rw [if_pos h,if_pos (by omega),show i*sz+o - lo*sz=(i - lo)*sz+o by omega]
  exact hc (i - lo) o (by omega) ho
 ·left
  rw [if_neg h,if_neg]
  ·exact ⟨rfl,rfl⟩
  ·rintro ⟨h3,h4⟩
   apply h
   constructor
   ·rcases Nat.lt_or_ge i lo with h5|h5
    ·have:=mul_lt_le (s:=sz) h5;omega
    ·exact h5
   ·rcases Nat.lt_or_ge i (lo+k) with h5|h5
    ·exact h5
    ·have:=Nat.mul_le_mul_right sz h5
     rw [Nat.add_mul] at this
     omega

def clearA (P:Program) (t:TypeId) (x:PV):A:=match sliceOf P t with
 | some e=>match zeroL P e with
  | some z=>match x with
   | .nils => .ret .undef
   | .ref r v p sz lo hi => .rd r fun
    | some rt => .vc (rt.ver=v) <| match getAt rt.node p with
     | .own sz' _ f => .ifD (lo<hi) (.vc (z.length=sz∧0<sz∧sz'=sz∧z.all dryCell=true∧∀ i,i<hi→lo≤i→∀ o,o<sz→shapeOf (f i o)=none)
       (.wr r (some ⟨rt.ver,updAt (setRows lo (hi - lo) fun _ o=>z.getD o .undef) rt.node p⟩) (.ret .undef))) (.ret .undef)
     | _ => .fail
    | none => .fail
   | _ => .fail
  | none => .fail
 | none => .fail

theorem Real.clear {P:Program} {w:World} {B:Blocks} {hp:List (RId × Root)} {V:Nat→Prop} {ver:Nat} (hr:HR w B (lkH hp) V) (t ty:TypeId) {x:PV} {vx:Value} (hx:VR w B (lkH hp) V x vx) :
  Real P w B hp V ver (Builtin.clear_ #[t] ty #[vx]) (clearA P t x):=by
 intro K hK
 have same:∀ v,(Builtin.clear_ #[t] ty #[vx]).run P w = .ok v w→K .undef hp→∃ v w' B' hp' x',(Builtin.clear_ #[t] ty #[vx]).run P w = .ok v w'∧K x' hp'∧VR w' B' (lkH hp') (ors V ver) x' v∧HR w' B' (lkH hp') (ors V ver)∧Mono w B (lkH hp) V w' B' (lkH hp') (ors V ver) :=
  fun v h hk=>⟨v,w,B,hp,.undef,h,hk,.undef _,hr.more ver,Mono.more ..⟩
 unfold clearA at hK
 split at hK
 ·rename_i e he
  have hu:=sliceOf_some he
  split at hK
  ·rename_i z hz
   obtain ⟨zv,e1,e2,e3⟩:=zeroL_some hz w
   split at hK
   ·cases hx
    exact same _ (by simp [Builtin.clear_,run_underlying' hu];rfl) hK
   ·rename_i r v p sz lo hi
    simp only [A.wp] at hK
    cases hH:lkH hp r with
    | none=>rw [hH] at hK;exact hK.elim
    | some rt =>
     rw [hH] at hK
     obtain ⟨hv,hK⟩:=hK
     cases hx with
     | ref _ h =>
     obtain ⟨n,hat,hlo,hhi,hx⟩:=h rt hH hv
     split at hK
     ·rename_i sz' n' f hg
      have hs:=hat.2
      rw [hg] at hs
      simp only [shapeOf,Option.some.injEq,Prod.mk.injEq,true_and] at hs
      obtain ⟨rfl,rfl⟩:=hs
      rw [A.ifD_wp] at hK
      split at hK
      ·rename_i hlt
       obtain ⟨⟨hzl,h0,_,hdry,hold⟩,hk⟩:=hK
       rcases hx with ⟨b,A,cap,e',mm,hB,rfl,hcap,hA,hsh,hle⟩|⟨_,_,h00⟩
       ·have hnode:=(hr.root r rt hH).node p hat
        rcases hnode.out with ⟨hBn,_⟩|⟨b',cs,e2',hB',hh,⟨hsz,_⟩,_⟩
        ·rw [hB] at hBn;cases hBn
        ·obtain rfl:b'=b:=by rw [hB] at hB';exact (Option.some.inj hB').symm
         obtain rfl:=hA (by omega)
         have hzs:zv.cells.size=sz':=by omega
         have hvs:(Builtin.zeroCells zv.cells (hi - lo)).toList.length=(hi - lo)*sz':=by rw [Array.length_toList,size_zeroCells,hzs]
         have hget:∀ i o,i<hi - lo→o<sz'→(Builtin.zeroCells zv.cells (hi - lo)).toList.getD (i*sz'+o) Go.undef=zv.cells.getD o Go.undef:=by
          intro i o hi' ho
          have hj:i*sz'+o<(hi - lo)*zv.cells.size:=by rw [hzs];have:=mul_lt_le (s:=sz') hi';omega
          have:=getD_range_mod zv.cells ((hi - lo)*zv.cells.size) (i*sz'+o) hj (by omega)
          rw [show (i*sz'+o) % zv.cells.size=o by rw [hzs,Nat.mul_comm,Nat.mul_add_mod,Nat.mod_eq_of_lt ho]] at this
          rw [← this]
          simp only [Builtin.zeroCells,List.getD_eq_getElem?_getD,Array.getD_eq_getD_getElem?,Array.getElem?_toList]
         have hL:=e3 B (lkH hp) V
         have hone1:OneCells zv.cells:=oneCells_of hL fun c hc=>dryCell_one (List.all_eq_true.1 hdry c hc)
         have hone:∀ v∈(Builtin.zeroCells zv.cells (hi - lo)).toList,v.oneCell'=true:=by
          intro v hv
          obtain ⟨j,hj,rfl⟩:=List.getElem_of_mem hv
          have hj':j<(hi - lo)*sz':=by rw [← hvs];exact hj
          have h1:=hget (j / sz') (j % sz') ((Nat.div_lt_iff_lt_mul h0).2 hj') (Nat.mod_lt _ h0)
          rw [show j / sz'*sz'+j % sz'=j by rw [Nat.mul_comm];exact Nat.div_add_mod j sz'] at h1
          have h2:(Builtin.zeroCells zv.cells (hi - lo)).toList.getD j Go.undef=(Builtin.zeroCells zv.cells (hi - lo)).toList[j]:=by
           rw [List.getD_eq_getElem?_getD,List.getElem?_eq_getElem hj];rfl
          rw [← h2,h1]
          exact hone1 _ (by rw [hzs];exact Nat.mod_lt _ h0)
         obtain ⟨g1,g2⟩:=rows_put hr hH hat hg hB hh hsz (lo:=lo) (k:=hi - lo) (by omega) (c:=fun _ o=>z.getD o .undef) hvs hone (fun i o hi' ho=>by rw [hget i o hi' ho];exact hL.val o (by omega)) (fun i o h1 h2 h3=>hold i (by omega) h1 o h3)
         have hfit:lo*sz'+(Builtin.zeroCells zv.cells (hi - lo)).toList.length≤cs.size:=by
          rw [hvs,← Nat.add_mul,show lo+(hi - lo)=hi by omega]
          exact Nat.le_trans (Nat.mul_le_mul_right _ hhi) hsz
         have hne:(Builtin.zeroCells zv.cells (hi - lo)).toList≠[]:=fun e=>by
          rw [e] at hvs
          have:=Nat.mul_pos (show 0<hi - lo by omega) h0
          simp at hvs
          omega
         have hst:=run_storeCells' (P:=P) _ w cs (lo*sz') 0 hh (by simpa using hfit) hone hne
         refine ⟨.tuple #[],_,B,_,.undef,?_,hk,.undef _,g1.more ver,g2.trans (Mono.more ..)⟩
         have hkk:hi - lo≠0:=by omega
         obtain ⟨kk,hkk'⟩:∃ kk,hi - lo=kk+1:=⟨hi - lo - 1,by omega⟩
         rw [hkk'] at hst ⊢
         simp only [Builtin.clear_,List.getElem?_toArray,List.getElem?_cons_zero,Sem.run_bind,run_underlying' hu,Result.andThen_ok,e1,hst,Sem.run_pure]
         rfl
       ·omega
      ·rename_i hlt
       rcases hx with ⟨b,A,cap,e',mm,hB,rfl,_⟩|⟨_,⟨A0,rfl⟩,h00⟩
       ·refine same (.tuple #[]) ?_ hK
        have:hi - lo=0:=by omega
        rw [this]
        simp [Builtin.clear_,run_underlying' hu]
       ·exact same (.tuple #[]) (by cases A0 <;> simp [Builtin.clear_,run_underlying' hu]) hK
     ·exact hK.elim
   ·exact hK.elim
  ·exact hK.elim
 ·exact hK.elim
end Go.Ab
namespace Go.Ab
open Classical

def inPlaceA (P:Program) (t:TypeId) (r:RId) (v:Nat) (p:Path) (sz lo hi:Nat) (y:PV):A:=match sliceOf P t with
 | some e => .rd r fun
  | some rt => .vc (rt.ver=v∧P.cellsOf e=sz∧0<sz∧(P.info? e).isSome) <| match getAt rt.node p with
   | .own _ n f=>srcA sz y fun m c => .ifD (m=0) (.ret (.ref r v p sz lo hi)) (.vc (hi+m≤n∧∀ i,i<hi+m→hi≤i→∀ o,o<sz→shapeOf (f i o)=none)
     (.wr r (some ⟨rt.ver,updAt (setRows hi m c) rt.node p⟩) (.ret (.ref r v p sz lo (hi+m)))))
   | _ => .fail
  | none => .fail
 | none => .fail

def appendT (P:Program) (id:RId) (ver:Nat) (t:TypeId) (x y:PV):A:=match x with
 | .ref r v p sz lo hi => .rd r fun
  | some rt=>match shapeOf (getAt rt.node p) with
   | some (_,_,n)=>match p with
    | [] => .ifD (lo=0∧hi=n) (appendA P id ver t (.ref r v [] sz 0 hi) y) (inPlaceA P t r v [] sz lo hi y)
    | p=>inPlaceA P t r v p sz lo hi y
   | none => .fail
  | none => .fail
 | x=>appendA P id ver t x y

theorem setCells_put {P:Program} {w:World} {b:Nat} {cs:Array Value} {e:TypeId} {off:Nat} {vs:List Value} (hh:w.heap[b]?=some (.cells cs e (0,0))) (hfit:off+vs.length≤cs.size) (hone:∀ v∈vs,v.oneCell'=true) (hne:vs≠[]) :
  w.setCells b off vs=World.putBlock w b (putCells cs off vs):=by
 have h1:=run_storeCells' (P:=P) vs w cs off 0 hh (by simpa using hfit) hone hne
 have h2:=run_storeCells_cells (P:=P) b off vs 0 w (fun j hj=>by
  have:off+0+j<cs.size:=by omega
  simp only [World.cell?,hh]
  simp [show off+j<cs.size by omega]) (fun j hj=>by simp [World.frozen?,hh]) hone
 rw [h1] at h2
 unfold putCells
 simpa using (Result.ok.inj h2).2.symm

theorem Real.inPlace {P:Program} {w:World} {B:Blocks} {hp:List (RId × Root)} {V:Nat→Prop} {ver:Nat} (hr:HR w B (lkH hp) V) (t ty:TypeId) {r:RId} {v:Nat} {p:Path} {sz lo hi:Nat} {y:PV} {vx vy:Value}
  (hx:VR w B (lkH hp) V (.ref r v p sz lo hi) vx) (hy:VR w B (lkH hp) V y vy):Real P w B hp V ver (Builtin.append_ #[t,t] ty #[vx,vy]) (inPlaceA P t r v p sz lo hi y):=by
 intro K hK
 unfold inPlaceA at hK
 split at hK
 ·rename_i e he
  have hu:=sliceOf_some he
  simp only [A.wp] at hK
  cases hH:lkH hp r with
  | none=>rw [hH] at hK;exact hK.elim
  | some rt =>
   rw [hH] at hK
   obtain ⟨⟨hv,rfl,h0,hi0⟩,hK⟩:=hK
   obtain ⟨i,hi'⟩:=Option.isSome_iff_exists.1 hi0
   have hsize:i.size=P.cellsOf e:=by simp [Program.cellsOf,hi']
   have hx':=hx
   cases hx with
   | ref hV h =>
   obtain ⟨n,hat,hlo,hhi,hxx⟩:=h rt hH hv
   split at hK
   ·rename_i sz' n' f hg
    have hs:=hat.2
    rw [hg] at hs
    simp only [shapeOf,Option.some.injEq,Prod.mk.injEq,true_and] at hs
    obtain ⟨rfl,rfl⟩:=hs
    obtain ⟨m,c,val,hk,hsrc,hval⟩:=srcA_wp hr hu h0 hy hK
    have hsrc':Src P i.size t vy m ((List.range (m*P.cellsOf e)).map val) w:=by rw [hsize];exact hsrc
    rw [A.ifD_wp] at hk
    split at hk
    ·rename_i hm0
     subst hm0
     have hz:Src P i.size t vy 0 [] w:=by simpa using hsrc'
     rcases hxx with ⟨b,A,cap,e',mm,hB,rfl,hcap,_⟩|⟨hB,⟨A0,rfl⟩,h00⟩
     ·exact ⟨_,w,B,hp,_,run_append_zero hu hi' hz (some A) (hi - lo) cap (by omega),hk,hx'.mono (Mono.more ..),hr.more ver,Mono.more ..⟩
     ·exact ⟨_,w,B,hp,_,run_append_zero hu hi' hz A0 0 0 (Nat.le_refl _),hk,hx'.mono (Mono.more ..),hr.more ver,Mono.more ..⟩
    ·rename_i hm0
     obtain ⟨⟨hfit,hold⟩,hk⟩:=hk
     have hnode:=(hr.root r rt hH).node p hat
     rcases hnode.out with ⟨hBn,hn0⟩|⟨b,cs,e2,hB,hh,⟨hsz,_⟩,_⟩
     ·omega
     ·rcases hxx with ⟨b',A,cap,e',mm,hB',rfl,hcap,hA,hsh,hle⟩|⟨hB',_,_⟩
      ·obtain rfl:b'=b:=by rw [hB] at hB';exact (Option.some.inj hB').symm
       obtain rfl:=hA (by omega)
       have hlen:((List.range (m*P.cellsOf e)).map val).length=m*P.cellsOf e:=by simp
       have hfit2:hi*P.cellsOf e+((List.range (m*P.cellsOf e)).map val).length≤cs.size:=by
        rw [hlen,← Nat.add_mul]
        exact Nat.le_trans (Nat.mul_le_mul_right _ hfit) hsz
       have hne:(List.range (m*P.cellsOf e)).map val≠[]:=fun e0=>by
        rw [e0] at hlen
        have:=Nat.mul_pos (show 0<m by omega) h0
        simp at hlen
        omega
       have hoff:lo*P.cellsOf e+(hi - lo)*i.size=hi*P.cellsOf e:=by rw [hsize,← Nat.add_mul];congr 1;omega
       have hrun:=run_append_room_src w t t ty e i hu hi' b' (lo*P.cellsOf e) (hi - lo) cap vy m _ hsrc' (by omega) (fun j hj=>by
        rw [hoff]
        have:hi*P.cellsOf e+j<cs.size:=by omega
        simp [World.cell?,hh,this]) (fun j hj=>by simp [World.frozen?,hh])
       rw [hoff,setCells_put (P:=P) hh hfit2 hsrc.one hne] at hrun
       obtain ⟨g1,g2⟩:=rows_put hr hH hat hg hB hh hsz (lo:=hi) (k:=m) hfit (c:=c) hlen hsrc.one (fun a o ha ho=>by
        have hj:a*P.cellsOf e+o<m*P.cellsOf e:=by have:=mul_lt_le (s:=P.cellsOf e) ha;omega
        rw [getD_rangeMap _ _ _ hj];exact hval a o ha ho) (fun a o h1 h2 h3=>hold a h2 h1 o h3)
       refine ⟨_,_,B,_,_,hrun,hk,.ref (.inl hV) (fun rt2 h2 _=>?_),g1.more ver,g2.trans (Mono.more ..)⟩
       rw [lookH_setH,if_pos rfl] at h2
       cases h2
       have hmild:=setRows_mild (c:=c) hg (fun a o h1 h2 h3=>hold a h2 h1 o h3) (fun a o ha ho=>(hval a o ha ho).noShape)
       refine ⟨n',(updAt_at _ _ _ hat hmild _ _).2 hat,by omega,hfit,.inl ⟨b',⟨b',lo*P.cellsOf e,none⟩,cap,e',mm,hB,?_,hcap,fun _=>rfl,g2.shape _ _ hsh,hle⟩⟩
       rw [show hi+m - lo=hi - lo+m by omega]
      ·rw [hB] at hB';cases hB'
   ·exact hK.elim
 ·exact hK.elim

theorem Real.appendT {P:Program} {w:World} {B:Blocks} {hp:List (RId × Root)} {V:Nat→Prop} {ver:Nat} (hr:HR w B (lkH hp) V) (hver:¬ V ver) (id:RId) (hid:id.1≠0) (t ty:TypeId) {x y:PV} {vx vy:Value}
  (hx:VR w B (lkH hp) V x vx) (hy:VR w B (lkH hp) V y vy):Real P w B hp V ver (Builtin.append_ #[t,t] ty #[vx,vy]) (Ab.appendT P id ver t x y):=by
 intro K hK
 unfold Ab.appendT at hK
 split at hK
 ·rename_i r v p sz lo hi
  simp only [A.wp] at hK
  cases hH:lkH hp r with
  | none=>rw [hH] at hK;exact hK.elim
  | some rt =>
   rw [hH] at hK
   simp only at hK
   split at hK
   ·split at hK
    ·rw [A.ifD_wp] at hK
     split at hK
     ·rename_i h0
      obtain ⟨rfl,rfl⟩:=h0
      exact Real.append hr hver id hid t ty hx hy K hK
     ·exact Real.inPlace hr t ty hx hy K hK
    ·exact Real.inPlace hr t ty hx hy K hK
   ·exact hK.elim
 ·exact Real.append hr hver id hid t ty hx hy K hK
end Go.Ab
namespace Go.Ab
open Classical

def partPV (P:Program) (e:TypeId) (xs:List PV) (off:Nat):Option PV :=
 if isAggT P e then (if off+P.cellsOf e≤xs.length then some (.agg ((xs.drop off).take (P.cellsOf e))) else none) else xs[off]?

theorem part_real {P:Program} {w:World} {B:Blocks} {H:Roots} {V:Nat→Prop} {e:TypeId} (hu:P.underlying e≠none) (hi:(P.info? e).isSome) {xs:List PV} {cs:Array Value} (hl:LR w B H V xs cs) {off:Nat} {x:PV} (h:partPV P e xs off=some x) :
  ∃ v,(part e cs off).run P w = .ok v w∧VR w B H V x v:=by
 unfold partPV at h
 split at h
 ·rename_i ha
  split at h
  ·rename_i hle
   cases h
   refine ⟨.agg (cs.extract off (off+P.cellsOf e)),by simp [part,run_isAgg' hu,ha,run_sizeOf' hi],.agg ?_ fun i hi'=>?_⟩
   ·have:=hl.len;simp;omega
   ·simp at hi'
    have h1:=hl.val (off+i) (by omega)
    have:=hl.len
    have e1:(((xs.drop off).take (P.cellsOf e)).getD i .undef)=xs.getD (off+i) .undef:=by
     simp [List.getD_eq_getElem?_getD,List.getElem?_take,List.getElem?_drop,show i<P.cellsOf e by omega]
    have e2:(cs.extract off (off+P.cellsOf e)).getD i Go.undef=cs.getD (off+i) Go.undef:=by
     simp only [Array.getD_eq_getD_getElem?,Array.getElem?_extract]
     rw [if_pos (by omega)]
    rw [e1,e2]
    exact h1
  ·cases h
 ·rename_i ha
  have hlt:off<xs.length:=by
   rcases Nat.lt_or_ge off xs.length with h1|h1
   ·exact h1
   ·rw [List.getElem?_eq_none h1] at h;cases h
  have h1:=hl.val off hlt
  have hlt':off<cs.size:=by rw [← hl.len];exact hlt
  rw [List.getD_eq_getElem?_getD,h] at h1
  refine ⟨cs.getD off Go.undef,?_,by simpa using h1⟩
  have hc:cs[off]?=some (cs.getD off Go.undef):=by simp [Array.getD_eq_getD_getElem?,hlt']
  have ha':isAggT P e=false:=by simpa using ha
  simp only [part,Sem.run_bind,run_isAgg' hu,Result.andThen_ok,ha',Bool.false_eq_true,if_false,hc,Sem.run_pure]

def eqItemsPV (P:Program) (eq:PV→PV→Option Bool) (e:TypeId) (xs ys:List PV):List Nat→Option Bool
 | []=>some true
 | i::is=>match partPV P e xs (i*P.cellsOf e),partPV P e ys (i*P.cellsOf e) with
  | some a,some b=>match eq a b,eqItemsPV P eq e xs ys is with
   | some p,some q=>some (p&&q)
   | _,_=>none
  | _,_=>none

def eqFieldsPV (P:Program) (eq:TypeId→PV→PV→Option Bool) (xs ys:List PV):List Field→Option Bool
 | []=>some true
 | f :: fs => if f.name ≠ "_" then
   (if (P.info? f.type).isSome&&(P.underlying f.type).isSome then match partPV P f.type xs f.offset,partPV P f.type ys f.offset with
    | some a,some b=>match eq f.type a b,eqFieldsPV P eq xs ys fs with
     | some p,some q=>some (p&&q)
     | _,_=>none
    | _,_=>none
   else none)
  else eqFieldsPV P eq xs ys fs

def eqPV (P:Program):Nat→TypeId→PV→PV→Option Bool
 | 0,_,_,_=>none
 | d+1,t,x,y=>match P.underlying t,x,y with
  | some .bool,.bool a,.bool b=>some (a == b)
  | some (.int _),.int k a,.int k' b=>if k=k' then some (a == b) else none
  | some .string,.str a,.str b=>some (a.toList == b.toList)
  | some (.array n e),.agg xs,.agg ys=>if (P.info? e).isSome&&(P.underlying e).isSome then eqItemsPV P (eqPV P d e) e xs ys (List.range n) else none
  | some (.struct fs),.agg xs,.agg ys=>if P.stoodInHeld t=false then eqFieldsPV P (eqPV P d) xs ys fs.toList else none
  | _,_,_=>none

def EqOK (P:Program) (d m:Nat):Prop:=∀ (t:TypeId) (x y:PV) (b:Bool),eqPV P m t x y=some b→∀ (w:World) (B:Blocks) (H:Roots) (V:Nat→Prop) (vx vy:Value),VR w B H V x vx→VR w B H V y vy→(Op.equalIn (d+m) t vx vy).run P w = .ok b w

theorem eqItems_real {P:Program} {d m:Nat} (ih:EqOK P d m) {e:TypeId} (hu:P.underlying e≠none) (hi:(P.info? e).isSome) {w:World} {B:Blocks} {H:Roots} {V:Nat→Prop} {xs ys:List PV} {cs ds:Array Value} (hx:LR w B H V xs cs) (hy:LR w B H V ys ds) :
  ∀ (is:List Nat) (b:Bool),eqItemsPV P (eqPV P m e) e xs ys is=some b→(Op.eqItems (d+m) e (P.cellsOf e) cs ds is).run P w = .ok b w:=by
 intro is
 induction is with
 | nil=>intro b h;cases h;simp [Op.eqItems]
 | cons i is ihl =>
  intro b h
  simp only [eqItemsPV] at h
  split at h
  ·rename_i x y hpx hpy
   obtain ⟨vx,r1,r2⟩:=part_real hu hi hx hpx
   obtain ⟨vy,s1,s2⟩:=part_real hu hi hy hpy
   split at h
   ·rename_i p q he hq
    cases h
    have:=ih e x y p he w B H V vx vy r2 s2
    simp only [Op.eqItems,Sem.run_bind,r1,s1,this,Result.andThen_ok]
    cases p with
    | true=>exact ihl q hq
    | false=>rfl
   ·cases h
  ·cases h

theorem eqFields_real {P:Program} {d m:Nat} (ih:EqOK P d m) {w:World} {B:Blocks} {H:Roots} {V:Nat→Prop} {xs ys:List PV} {cs ds:Array Value} (hx:LR w B H V xs cs) (hy:LR w B H V ys ds) :
  ∀ (fs:List Field) (b:Bool),eqFieldsPV P (eqPV P m) xs ys fs=some b→(Op.eqFields (d+m) cs ds fs).run P w = .ok b w:=by
 intro fs
 induction fs with
 | nil=>intro b h;cases h;simp [Op.eqFields]
 | cons f fs ihl =>
  intro b h
  simp only [eqFieldsPV] at h
  simp only [Op.eqFields]
  split at h
  ·rename_i hn
   rw [if_pos hn]
   split at h
   ·rename_i hc
    simp only [Bool.and_eq_true] at hc
    have hu:P.underlying f.type≠none:=fun e=>by rw [e] at hc;simp at hc
    split at h
    ·rename_i x y hpx hpy
     obtain ⟨vx,r1,r2⟩:=part_real hu hc.1 hx hpx
     obtain ⟨vy,s1,s2⟩:=part_real hu hc.1 hy hpy
     split at h
     ·rename_i p q he hq
      cases h
      have:=ih _ x y p he w B H V vx vy r2 s2
      simp only [Sem.run_bind,r1,s1,this,Result.andThen_ok]
      cases p with
      | true=>exact ihl q hq
      | false=>rfl
     ·cases h
    ·cases h
   ·cases h
  ·rename_i hn
   rw [if_neg hn]
   exact ihl b h

theorem eqPV_real {P:Program} (d:Nat):∀ m,EqOK P d m:=by
 intro m
 induction m with
 | zero=>intro t x y b h;cases h
 | succ m ih =>
  intro t x y b h w B H V vx vy hx hy
  simp only [eqPV] at h
  split at h
  ·rename_i a b' hu
   cases h;cases hx;cases hy
   exact eqIn_bool (d+m) hu _ _
  ·rename_i q k a k' b' hu
   split at h
   ·rename_i e
    subst e
    cases h;cases hx;cases hy
    exact run_equalIn_int w (d+m) t k q a b' hu
   ·cases h
  ·rename_i a b' hu
   cases h;cases hx;cases hy
   exact run_equalIn_string w (d+m) t a b' hu
  ·rename_i n e xs ys hu
   split at h
   ·rename_i hc
    simp only [Bool.and_eq_true] at hc
    obtain ⟨i,hi⟩:=Option.isSome_iff_exists.1 hc.1
    have hue:P.underlying e≠none:=fun e0=>by rw [e0] at hc;simp at hc
    cases hx with
    | agg l1 l2=>cases hy with
     | agg m1 m2 =>
      rw [show d+(m+1)=(d+m)+1 from rfl,run_equalIn_array w (d+m) _ _ hu hi]
      exact eqItems_real ih hue hc.1 ⟨l1,l2⟩ ⟨m1,m2⟩ _ b h
   ·cases h
  ·rename_i fs xs ys hu
   split at h
   ·rename_i hst
    cases hx with
    | agg l1 l2=>cases hy with
     | agg m1 m2 =>
      have hf:P.fieldsOf t=fs:=by simp [Program.fieldsOf,hu]
      rw [show d+(m+1)=(d+m)+1 from rfl,run_equalIn_struct w (d+m) t _ _ (by rw [hf];exact hu) hst,hf]
      exact eqFields_real ih ⟨l1,l2⟩ ⟨m1,m2⟩ _ b h
   ·cases h
  ·cases h

def eqT (P:Program) (t:TypeId) (op:BinOp):PV→PV→A
 | .int k a,.int k' b=>binA op (.int k a) (.int k' b)
 | .str a,.str b=>binA op (.str a) (.str b)
 | .agg l,.agg l'=>if P.eqGuardType P.depth t=false then match eqPV P 100 t (.agg l) (.agg l') with
   | some b=>eqFin op b
   | none => .fail
  else .fail
 | x,y=>eqA P t op x y

def isEq:BinOp→Bool
 | .eql | .neq=>true
 | _=>false

def binT (P:Program) (t:TypeId) (op:BinOp) (x y:PV):A:=if isEq op then eqT P t op x y else binA op x y

theorem Real.binT {P:Program} {w:World} {B:Blocks} {hp:List (RId × Root)} {V:Nat→Prop} {ver:Nat} (hr:HR w B (lkH hp) V) (op:BinOp) (t:TypeId) (ox oy:Operand) {x y:PV} {vx vy:Value}
  (hx:VR w B (lkH hp) V x vx) (hy:VR w B (lkH hp) V y vy):Real P w B hp V ver (do eqGuard op t ox oy vx vy;binOp op t vx vy) (Ab.binT P t op x y):=by
 unfold Ab.binT
 split
 ·unfold eqT
  split
  ·exact Real.bin hr op t ox oy hx hy
  ·exact Real.bin hr op t ox oy hx hy
  ·rename_i l l'
   refine .of_pure hr fun K hK=>?_
   split at hK
   ·rename_i hgt
    split at hK
    ·rename_i b hb
     have he:=eqPV_real (P:=P) 9900 100 t _ _ b hb w B _ V vx vy hx hy
     cases hx with
     | agg l1 l2=>cases hy with
      | agg m1 m2 =>
       refine eqFin_real (b:=b) ?_ he (by simp [binOp]) (by simp [binOp]) hK
       cases op <;> simp [eqGuard,run_program,hgt]
    ·exact hK.elim
   ·exact hK.elim
  ·exact Real.eqA hr op t ox oy hx hy
 ·exact Real.bin hr op t ox oy hx hy
end Go.Ab
namespace Go.Ab
open Classical

def fieldA (P:Program) (t:TypeId) (f:Nat) (x:PV):A:=match fieldOf P t f,x with
 | some (ft,off),.agg l => .vc ((P.info? ft).isSome∧(P.underlying ft).isSome) <| match partPV P ft l off with
  | some v => .ret v
  | none => .fail
 | _,_ => .fail

theorem Real.field {P:Program} {w:World} {B:Blocks} {hp:List (RId × Root)} {V:Nat→Prop} {ver:Nat} (hr:HR w B (lkH hp) V) (t:TypeId) (f:Nat) {x:PV} {vx:Value} (hx:VR w B (lkH hp) V x vx) :
  Real P w B hp V ver (Instr.field t vx f) (fieldA P t f x):=by
 refine .of_pure hr fun K hK=>?_
 unfold fieldA at hK
 split at hK
 ·rename_i ft off l hf
  obtain ⟨⟨h1,h2⟩,hK⟩:=hK
  split at hK
  ·rename_i v hv
   obtain ⟨fs,fd,hu,hfd,rfl,rfl⟩:=fieldOf_some hf
   cases hx with
   | agg l1 l2 =>
    obtain ⟨u,r1,r2⟩:=part_real (fun e=>by rw [e] at h2;cases h2) h1 ⟨l1,l2⟩ hv
    exact ⟨u,v,by simp [Instr.field,run_underlying' hu,hfd,asAgg,r1],hK,r2⟩
  ·exact hK.elim
 ·exact hK.elim

def indexA (P:Program) (t:TypeId) (x y:PV):A:=match x,y with
 | .agg l,.int _ j=>match arrOf P t with
  | some (n,e) => .vc ((P.info? e).isSome∧(P.underlying e).isSome∧0≤j∧j<n) <| match partPV P e l (j.toNat*P.cellsOf e) with
   | some v => .ret v
   | none => .fail
  | none => .fail
 | .str s,.int _ j=>match P.underlying t with
  | some .string=>if 0≤j then match s[j.toNat]? with
   | some b => .ret (.int .u8 b.toNat)
   | none => .fail
   else .fail
  | _ => .fail
 | _,_ => .fail

theorem Real.index {P:Program} {w:World} {B:Blocks} {hp:List (RId × Root)} {V:Nat→Prop} {ver:Nat} (hr:HR w B (lkH hp) V) (t:TypeId) {x y:PV} {vx vy:Value} (hx:VR w B (lkH hp) V x vx) (hy:VR w B (lkH hp) V y vy) :
  Real P w B hp V ver (Instr.index t vx vy) (indexA P t x y):=by
 refine .of_pure hr fun K hK=>?_
 unfold indexA at hK
 split at hK
 ·rename_i l k j
  cases hy
  split at hK
  ·rename_i n e he
   obtain ⟨⟨h1,h2,h3,h4⟩,hK⟩:=hK
   split at hK
   ·rename_i v hv
    cases hx with
    | agg l1 l2 =>
     obtain ⟨u,r1,r2⟩:=part_real (fun e=>by rw [e] at h2;cases h2) h1 ⟨l1,l2⟩ hv
     have hj:0≤j∧j<n:=⟨h3,h4⟩
     exact ⟨u,v,by simp [Instr.index,asIntOf,run_underlying' (arrOf_some he),hj,run_sizeOf' h1,r1],hK,r2⟩
   ·exact hK.elim
  ·exact hK.elim
 ·rename_i s k j
  cases hy
  cases hx
  split at hK
  ·rename_i hu
   split at hK
   ·rename_i h0
    split at hK
    ·rename_i b hb
     exact ⟨_,_,by simp [Instr.index,asIntOf,run_underlying' hu,h0,hb],hK,.int _ _⟩
    ·exact hK.elim
   ·exact hK.elim
  ·exact hK.elim
 ·exact hK.elim
end Go.Ab
namespace Go.Ab
open Classical
open Go.ChangeMaps (setBlock)

theorem at_spec {v:PV} (h:spec v=true) {p:Path} {s:Bool × Nat × Nat}:at? v p s↔p=[]∧s=(false,0,1):=by
 cases p with
 | nil=>rw [at_nil];cases v <;> simp_all [spec,shapeOf,eq_comm]
 | cons y p =>
  constructor
  ·intro hh;cases v <;> simp_all [spec,at?,okPath]
  ·rintro ⟨h,_⟩;cases h

def isCells:Obj→Bool
 | .cells ..=>true
 | _=>false

theorem shape_spec {w:World} {b:Nat} {o:Obj} (hh:w.heap[b]?=some o) (ho:isCells o=false):w.shape? b=none:=by
 unfold World.shape?
 rw [hh]
 cases o <;> first|rfl|cases ho

theorem setBlock_self {w:World} {b:Nat} {o:Obj} (o':Obj) (h:w.heap[b]?=some o):(setBlock w b o').heap[b]?=some o':=by
 have hlt:=lt_of_get h
 simp [setBlock,hlt]
theorem setBlock_ne {w:World} {b k:Nat} (o':Obj) (h:k≠b):(setBlock w b o').heap[k]?=w.heap[k]?:=by
 simp [setBlock,Array.getElem?_setIfInBounds_ne (Ne.symm h)]

theorem HR.putS {w:World} {B:Blocks} {H H':Roots} {V:Nat→Prop} (hr:HR w B H V) {r:RId} {rt:Root} (hH:H r=some rt) (hsp:spec rt.node=true) {b:Nat} (hB:B r []=some b) {o o':Obj} (hh:w.heap[b]?=some o) (ho:isCells o=false)
  {node:PV} (hsp':spec node=true) (hH':∀ j,H' j=if j=r then some ⟨rt.ver,node⟩ else H j) (hroot:Mono w B H V (setBlock w b o') B H' V→RootOK (setBlock w b o') B H' V r node) :
  HR (setBlock w b o') B H' V∧Mono w B H V (setBlock w b o') B H' V:=by
 have hne:∀ r' p',B r' p'=some b→r'=r∧p'=[]:=fun r' p' h=>hr.inj _ _ _ _ _ h hB
 have hm:Mono w B H V (setBlock w b o') B H' V:=by
  refine ⟨by simp [setBlock],fun k hk hf=>⟨hf,setBlock_ne o' fun e=>hf r [] (e▸hB)⟩,fun j p' k h0 hk=>⟨hk,setBlock_ne o' fun e=>hr.lev r rt hH ((hne _ _ (e▸hk)).1▸h0)⟩,fun j p' k hk => .inr ⟨j,p',hk⟩,fun k s hs=>?_,fun _ h=>h,fun j rt' h=>?_,rfl,rfl,rfl⟩
  ·have hk:k≠b:=fun e=>by subst e;rw [shape_spec hh ho] at hs;cases hs
   simp only [World.shape?] at hs ⊢
   rw [setBlock_ne o' hk]
   exact hs
  ·rw [hH'] at h
   split at h
   ·rename_i e
    subst e
    cases h
    exact .inr ⟨rt,hH,rfl,fun p s hp=>⟨(at_spec hsp').2 ((at_spec hsp).1 hp),rfl⟩⟩
   ·exact .inr ⟨rt',h,rfl,fun p s hp=>⟨hp,rfl⟩⟩
 refine ⟨⟨fun j rt' h=>?_,fun j rt' h=>?_,fun j p k h=>?_,fun j rt' h=>?_,hr.inj⟩,hm⟩
 ·rw [hH'] at h
  split at h
  ·rename_i e;subst e;cases h;exact hroot hm
  ·rename_i hj
   exact (hr.root j rt' h).mono hm (fun t s _=>⟨rfl,fun b2 hb2=>setBlock_ne o' fun e=>hj (hne _ _ (e▸hb2)).1⟩)
 ·rw [hH'] at h
  split at h
  ·cases h;exact hr.ver r rt hH
  ·exact hr.ver j rt' h
 ·obtain ⟨h1,h2⟩:=hr.dom j p k h
  refine ⟨by simpa [setBlock] using h1,h2.imp (fun h=>h) fun ⟨rt',s,h3,h4⟩=>?_⟩
  by_cases hj:j=r
  ·subst hj
   rw [hH] at h3
   cases h3
   exact ⟨_,s,by rw [hH',if_pos rfl],(at_spec hsp').2 ((at_spec hsp).1 h4)⟩
  ·exact ⟨rt',s,by rw [hH',if_neg hj];exact h3,h4⟩
 ·rw [hH'] at h
  split at h
  ·rename_i e;subst e;exact hr.lev _ _ hH
  ·exact hr.lev j rt' h

def newB (B:Blocks) (id:RId) (b:Nat):Blocks:=fun r p=>if r=id then (if p=[] then some b else none) else B r p
theorem newB_self (B:Blocks) (id:RId) (b:Nat):newB B id b id []=some b:=by simp [newB]
theorem newB_id {B:Blocks} {id:RId} {b k:Nat} {p:Path} (h:newB B id b id p=some k):p=[]∧k=b:=by
 simp only [newB,if_true] at h
 split at h
 ·cases h;exact ⟨by assumption,rfl⟩
 ·cases h
theorem newB_ne (B:Blocks) {id r:RId} (b:Nat) (p:Path) (h:r≠id):newB B id b r p=B r p:=by simp [newB,h]

theorem HR.newS {w:World} {B:Blocks} {hp:List (RId × Root)} {V:Nat→Prop} {ver:Nat} (hr:HR w B (lkH hp) V) (hver:¬ V ver) (id:RId) (hid:id.1≠0) {node:PV} (hsp:spec node=true) {o:Obj} (ho:isCells o=false)
  (hroot:Mono w B (lkH hp) V (w.alloc o) (newB B id w.heap.size) (lkH (setH hp id (some ⟨ver,node⟩))) (ors V ver)→RootOK (w.alloc o) (newB B id w.heap.size) (lkH (setH hp id (some ⟨ver,node⟩))) (ors V ver) id node) :
  HR (w.alloc o) (newB B id w.heap.size) (lkH (setH hp id (some ⟨ver,node⟩))) (ors V ver)∧Mono w B (lkH hp) V (w.alloc o) (newB B id w.heap.size) (lkH (setH hp id (some ⟨ver,node⟩))) (ors V ver):=by
 have hlk:∀ j,lkH (setH hp id (some ⟨ver,node⟩)) j=if j=id then some ⟨ver,node⟩ else lkH hp j:=fun j=>lookH_setH ..
 have hold:∀ r p b,B r p=some b→b<w.heap.size:=fun r p b h=>(hr.dom r p b h).1
 have hm:Mono w B (lkH hp) V (w.alloc o) (newB B id w.heap.size) (lkH (setH hp id (some ⟨ver,node⟩))) (ors V ver):=by
  refine ⟨by simp,fun k hk hf=>⟨fun r p h=>?_,heap_alloc_lt _ _ hk⟩,fun r p b h0 hb=>⟨?_,heap_alloc_lt _ _ (hold _ _ _ hb)⟩,fun r p b hb=>?_,fun k s hs=>?_,fun _ h => .inl h,fun r rt' h=>?_,rfl,rfl,rfl⟩
  ·by_cases e:r=id
   ·subst e;have:=(newB_id h).2;omega
   ·rw [newB_ne B _ _ e] at h;exact hf r p h
  ·rw [newB_ne B _ _ (fun e:r=id=>hid (e▸h0))];exact hb
  ·by_cases e:r=id
   ·subst e;exact .inl (by rw [(newB_id hb).2];exact Nat.le_refl _)
   ·rw [newB_ne B _ _ e] at hb;exact .inr ⟨r,p,hb⟩
  ·have hk:=shape_lt hs
   simp only [World.shape?] at hs ⊢
   rw [heap_alloc_lt _ _ hk]
   exact hs
  ·rw [hlk] at h
   split at h
   ·cases h;exact .inl hver
   ·rename_i hne;exact .inr ⟨rt',h,rfl,fun p s hp=>⟨hp,newB_ne B _ _ hne⟩⟩
 refine ⟨⟨fun j rt' h=>?_,fun j rt' h=>?_,fun j p k h=>?_,fun j rt' h=>?_,fun r p r' p' b h h'=>?_⟩,hm⟩
 ·rw [hlk] at h
  split at h
  ·rename_i e;subst e;cases h;exact hroot hm
  ·rename_i hj
   exact (hr.root j rt' h).mono hm (fun t s _=>⟨newB_ne B _ _ hj,fun b2 hb2=>heap_alloc_lt _ _ (hold _ _ _ hb2)⟩)
 ·rw [hlk] at h
  split at h
  ·cases h;exact .inr rfl
  ·exact .inl (hr.ver j rt' h)
 ·by_cases e:j=id
  ·subst e
   obtain ⟨rfl,rfl⟩:=newB_id h
   exact ⟨by simp,.inr ⟨_,(false,0,1),by rw [hlk,if_pos rfl],(at_spec hsp).2 ⟨rfl,rfl⟩⟩⟩
  ·rw [newB_ne B _ _ e] at h
   obtain ⟨h1,h2⟩:=hr.dom j p k h
   exact ⟨by simp;omega,h2.imp (fun h=>h) fun ⟨rt',s,h3,h4⟩=>⟨rt',s,by rw [hlk,if_neg e];exact h3,h4⟩⟩
 ·rw [hlk] at h
  split at h
  ·rename_i e;rw [e];exact hid
  ·exact hr.lev j rt' h
 ·by_cases e:r=id
  ·subst e
   obtain ⟨rfl,rfl⟩:=newB_id h
   by_cases e':r'=r
   ·subst e';exact ⟨rfl,(newB_id h').1.symm⟩
   ·rw [newB_ne B _ _ e'] at h'
    have:=hold _ _ _ h'
    omega
  ·rw [newB_ne B _ _ e] at h
   by_cases e':r'=id
   ·subst e'
    obtain ⟨rfl,rfl⟩:=newB_id h'
    have:=hold _ _ _ h
    omega
   ·rw [newB_ne B _ _ e'] at h'
    exact hr.inj _ _ _ _ _ h h'
end Go.Ab
namespace Go.Ab

def keyB:PV→PV→Option Bool
 | .int k a,.int k' b=>if k=k' then some (a == b) else none
 | .str a,.str b=>some (a == b)
 | .bool a,.bool b=>some (a == b)
 | _,_=>none

def fitsK (P:Program) (kt:TypeId) (k:PV):Bool:=match P.underlying kt,k with
 | some (.int _),.int ..=>true
 | some .string,.str _=>true
 | some .bool,.bool _=>true
 | _,_=>false

def sortsB (k:PV):List (PV × PV)→Bool
 | []=>true
 | e::es=>(keyB k e.1).isSome&&sortsB k es

def findE:List (PV × PV)→PV→Option PV
 | [],_=>none
 | e::es,k=>match keyB k e.1 with
  | some true=>some e.2
  | _=>findE es k

def updE:List (PV × PV)→PV→PV→List (PV × PV)
 | [],k,v=>[(k,v)]
 | e::es,k,v=>match keyB k e.1 with
  | some true=>(k,v)::es
  | _=>e::updE es k v

def updBs (es:List (PV × PV)) (bs:List Nat) (cl:Nat) (k:PV):List Nat:=match findE es k with
 | some _=>bs
 | none=>bs++[cl]
def updCl (es:List (PV × PV)) (cl:Nat) (k:PV):Nat:=match findE es k with
 | some _=>cl
 | none=>cl+1

def zeroPV (P:Program) (t:TypeId):Option PV:=((P.info? t).bind (·.zero)).map fun v=>match v with
 | .agg cs => .agg (cs.toList.map cv)
 | v=>cv v

def lkRes (ok:Bool) (v:PV) (b:Bool):PV:=match ok with
 | true => .tup [v,.bool b]
 | false=>v

def findA (ok:Bool) (z:PV) (es:List (PV × PV)) (k:PV):A := .opt (findE es k) fun o=>match o with
 | some v => .ret (lkRes ok v true)
 | none => .ret (lkRes ok z false)

def lookupA (P:Program) (t:TypeId) (ok:Bool) (x k:PV):A:=match P.underlying t with
 | some (.map kt et)=>match zeroPV P et with
  | some z => .vc (fitsK P kt k=true) <| match x with
   | .nilm => .ret (lkRes ok z false)
   | .fmap es => .vc (sortsB k es=true) (findA ok z es k)
   | .sref .map r v => .rd r fun
    | some rt => .vc (rt.ver=v) <| match rt.node with
     | .omap es _ _ => .vc (sortsB k es=true) (findA ok z es k)
     | _ => .fail
    | none => .fail
   | _ => .fail
  | none => .fail
 | _ => .fail

def mapUpdateA (P:Program) (t:TypeId) (x k v:PV):A:=match P.underlying t with
 | some (.map kt _) => .vc (fitsK P kt k=true) <| match x with
  | .sref .map r w => .rd r fun
   | some rt => .vc (rt.ver=w) <| match rt.node with
    | .omap es bs cl => .vc (sortsB k es=true) (.wr r (some ⟨rt.ver,.omap (updE es k v) (updBs es bs cl k) (updCl es cl k)⟩) (.ret .undef))
    | _ => .fail
   | none => .fail
  | _ => .fail
 | _ => .fail

def makeMapA (P:Program) (id:RId) (ver:Nat) (t:TypeId) (r:Option PV):A:=match r,P.underlying t with
 | none,_ => .wr id (some ⟨ver,.omap [] [] 0⟩) (.ret (.sref .map id ver))
 | some (.int _ _),some (.map _ _) => .wr id (some ⟨ver,.omap [] [] 0⟩) (.ret (.sref .map id ver))
 | _,_ => .fail

def lenM (P:Program) (t:TypeId) (x:PV):A:=match P.underlying t with
 | some (.map _ _)=>match x with
  | .nilm => .ret (.int .i64 0)
  | .fmap es => .ret (.int .i64 es.length)
  | .sref .map r v => .rd r fun
   | some rt => .vc (rt.ver=v) <| match rt.node with
    | .omap es _ _ => .ret (.int .i64 es.length)
    | _ => .fail
   | none => .fail
  | _ => .fail
 | _ => .fail

/-! Ranging over a map to which nothing is added -/
def leftI (bs seen:List Nat):List Nat:=(List.range bs.length).filter fun i=>!seen.contains (bs.getD i 0)

def entryE (es:List (PV × PV)) (bs seen:List Nat):Option PV:=match seen.getLast? with
 | some s=>(bs.idxOf? s).bind fun i=>(es[i]?).map fun e => .tup [e.1,e.2]
 | none=>none

def rangeA (P:Program) (id:RId) (ver:Nat) (t:TypeId) (x:PV):A:=match P.underlying t with
 | some (.map _ _)=>match x with
  | .nilm => .wr id (some ⟨ver,.oiter .nilm 0 [] 0⟩) (.ret (.sref .iter id ver))
  | .sref .map r v => .rd r fun
   | some rt => .vc (rt.ver=v) <| match rt.node with
    | .omap _ _ cl => .wr id (some ⟨ver,.oiter (.sref .map r v) cl [] cl⟩) (.ret (.sref .iter id ver))
    | _ => .fail
   | none => .fail
  | _ => .fail
 | _ => .fail

def nextA (str:Bool) (x:PV):A:=match str,x with
 | false,.sref .iter r v => .rd r fun
  | some rt => .vc (rt.ver=v) <| match rt.node with
   | .oiter .nilm _ _ _ => .ret (.tup [.bool false])
   | .oiter (.sref .map r2 v2) since seen last => .rd r2 fun
    | some rt2 => .vc (rt2.ver=v2) <| match rt2.node with
     | .omap es bs cl => .hyp (bs.length=es.length∧bs.Nodup∧∀ x∈bs,x<cl) (.vc (cl=since∧since≤last) (.ifD (leftI bs seen=[])
      (.ret (.tup [.bool false]))
      (.all (leftI bs seen) fun i => .wr r (some ⟨rt.ver,.oiter (.sref .map r2 v2) since (seen++[bs.getD i 0]) cl⟩) (.ret (.tup [.bool true,(es.getD i (.undef,.undef)).1,(es.getD i (.undef,.undef)).2])))))
     | _ => .fail
    | none => .fail
   | _ => .fail
  | none => .fail
 | _,_ => .fail

def entryA (x:PV):A:=match x with
 | .sref .iter r v => .rd r fun
  | some rt => .vc (rt.ver=v) <| match rt.node with
   | .oiter (.sref .map r2 v2) _ seen last => .rd r2 fun
    | some rt2 => .vc (rt2.ver=v2) <| match rt2.node with
     | .omap es bs cl => .vc (cl=last) (.opt (entryE es bs seen) fun o=>match o with
      | some x => .ret x
      | none => .fail)
     | _ => .fail
    | none => .fail
   | _ => .fail
  | none => .fail
 | _ => .fail

/-! ### Proofs -/
open Classical
open Go.ChangeMaps (setBlock)

theorem zeroPV_some {P:Program} {t:TypeId} {z:PV} (h:zeroPV P t=some z) (w:World):∃ v,(zeroValue t).run P w = .ok v w∧∀ B H V,VR w B H V z v:=by
 unfold zeroPV at h
 cases hi:P.info? t with
 | none=>simp [hi] at h
 | some i =>
  cases hz:i.zero with
  | none=>simp [hi,hz] at h
  | some v =>
   simp only [hi,Option.bind_some,hz,Option.map_some,Option.some.injEq] at h
   refine ⟨v,by simp [zeroValue,typeInfo,hi,hz],fun B H V=>?_⟩
   subst h
   split
   ·rename_i cs
    refine .agg (by simp) (fun i hi=>?_)
    simp only [List.length_map,Array.length_toList] at hi
    simp only [List.getD,List.getElem?_map,Array.getElem?_toList,Array.getD_eq_getD_getElem?]
    rw [Array.getElem?_eq_getElem hi]
    exact .cv _
   ·exact .cv _

theorem bytes_eq (a b:ByteArray):(a == b)=true↔a=b:=MapKept.bytes_beq a b
inductive KeyAt (P:Program) (kt:TypeId):PV→Value→TypeDesc→Prop
 | int {d:IntKind} (h:P.underlying kt=some (.int d)) (k:IntKind) (n:Int):KeyAt P kt (.int k n) (.int k n) (.int d)
 | str (h:P.underlying kt=some .string) (s:ByteArray):KeyAt P kt (.str s) (.string s) .string
 | bool (h:P.underlying kt=some .bool) (b:Bool):KeyAt P kt (.bool b) (.bool b) .bool

theorem fitsK_at {P:Program} {kt:TypeId} {k:PV} (h:fitsK P kt k=true) {w B H V} {kv:Value} (hk:VR w B H V k kv):∃ d,P.underlying kt=some d∧KeyAt P kt k kv d:=by
 unfold fitsK at h
 split at h
 ·rename_i d ik n hu;cases hk;exact ⟨_,hu,.int hu _ _⟩
 ·rename_i s hu;cases hk;exact ⟨_,hu,.str hu _⟩
 ·rename_i b hu;cases hk;exact ⟨_,hu,.bool hu _⟩
 ·cases h

theorem KeyAt.check {P:Program} {kt:TypeId} {k:PV} {kv:Value} {d:TypeDesc} (h:KeyAt P kt k kv d) (w:World) (e:Bool):(Instr.checkKey e 10000 kt kv).run P w = .ok () w:=by
 cases h with
 | int h=>unfold Instr.checkKey;simp [run_underlying' h]
 | str h=>unfold Instr.checkKey;simp [run_underlying' h]
 | bool h=>unfold Instr.checkKey;simp [run_underlying' h]

theorem KeyAt.same {P:Program} {kt:TypeId} {k:PV} {kv:Value} {d:TypeDesc} (h:KeyAt P kt k kv d) {w B H V} {k':PV} {kv':Value} (hk':VR w B H V k' kv') {b:Bool} (hb:keyB k k'=some b) :
  Instr.sameNow d kv kv'=some b∧(b=true→kv'=kv):=by
 cases h with
 | int h ik n =>
  cases hk' <;> simp only [keyB] at hb <;> try cases hb
  split at hb
  ·rename_i e
   subst e
   cases hb
   refine ⟨by simp [Instr.sameNow],fun h=>?_⟩
   have:=eq_of_beq h
   rw [this]
  ·cases hb
 | str h s =>
  cases hk' <;> simp only [keyB] at hb <;> try cases hb
  refine ⟨by simp [Instr.sameNow],fun h=>?_⟩
  have:=(bytes_eq _ _).1 h
  rw [this]
 | bool h s =>
  cases hk' <;> simp only [keyB] at hb <;> try cases hb
  refine ⟨by simp [Instr.sameNow],fun h=>?_⟩
  have:=eq_of_beq h
  rw [this]

theorem KeyAt.bits {P:Program} {kt:TypeId} {k:PV} {kv:Value} {d:TypeDesc} (h:KeyAt P kt k kv d):Instr.sameBits 10000 kv kv=true:=by
 cases h with
 | str _ s=>exact (bytes_eq s s).2 rfl
 | _=>simp [Instr.sameBits]

theorem find_spec {P:Program} {kt:TypeId} {k:PV} {kv:Value} {d:TypeDesc} (h:KeyAt P kt k kv d) {w B H V} (v:PV):∀ (es:List (PV × PV)) (l:List MapEntry) (i0:Nat),l.length=es.length→sortsB k es=true →
  (∀ i,i<es.length→VR w B H V (es.getD i (.undef,.undef)).1 (l.getD i default).key) →
  (∃ j,j<es.length∧findE es k=some (es.getD j (.undef,.undef)).2∧(l.getD j default).key=kv∧updE es k v=es.set j (k,v)∧Instr.findNow d kv l i0=some (some (i0+j,(l.getD j default).val))) ∨
  (findE es k=none∧updE es k v=es++[(k,v)]∧Instr.findNow d kv l i0=some none):=by
 intro es
 induction es with
 | nil =>
  intro l i0 hl _ _
  have:l=[]:=by simpa using hl
  subst this
  exact .inr ⟨rfl,rfl,rfl⟩
 | cons e es ih =>
  intro l i0 hl hs hk
  cases l with
  | nil=>simp at hl
  | cons x l =>
   simp only [sortsB,Bool.and_eq_true] at hs
   obtain ⟨b,hb⟩:=Option.isSome_iff_exists.1 hs.1
   have hx:=hk 0 (by simp)
   simp only [List.getD_cons_zero] at hx
   obtain ⟨h1,h2⟩:=h.same hx hb
   cases b with
   | true=>exact .inl ⟨0,by simp,by simp [findE,hb],by simpa using h2 rfl,by simp [updE,hb],by simp [Instr.findNow,h1]⟩
   | false =>
    rcases ih l (i0+1) (by simpa using hl) hs.2 (fun i hi=>by simpa using hk (i+1) (by simpa using hi)) with ⟨j,g1,g2,g3,g4,g5⟩|⟨g1,g2,g3⟩
    ·exact .inl ⟨j+1,by simpa using g1,by simpa [findE,hb] using g2,by simpa using g3,by simpa [updE,hb] using g4,by simp [Instr.findNow,h1,g5];omega⟩
    ·exact .inr ⟨by simpa [findE,hb] using g1,by simpa [updE,hb] using g2,by simpa [Instr.findNow,h1] using g3⟩

theorem run_getObj' {P:Program} {w:World} {b:Nat} {o:Obj} (h:w.heap[b]?=some o) (ho:isCells o=false):(getObj b).run P w = .ok o w:=by
 simp only [getObj,Sem.run,h]
 cases o <;> first|rfl|cases ho
theorem run_setObj' {P:Program} {w:World} {b:Nat} {o:Obj} (o':Obj) (h:w.heap[b]?=some o) (ho:isCells o=false):(setObj b o').run P w = .ok () (setBlock w b o'):=by
 simp only [setObj,Sem.run,h,setBlock]
 cases o <;> first|rfl|cases ho

theorem lkRes_VR {w B H V} {z:PV} {v:Value} (h:VR w B H V z v) (ok b:Bool):VR w B H V (lkRes ok z b) (if ok then .tuple #[v,.bool b] else v):=by
 cases ok with
 | false=>exact h
 | true =>
  refine .tup rfl (fun i hi=>?_)
  rcases i with _|_|i
  ·simpa using h
  ·exact .bool b
  ·simp at hi;omega

theorem Real.lookup {P:Program} {w:World} {B:Blocks} {hp:List (RId × Root)} {V:Nat→Prop} {ver:Nat} (hr:HR w B (lkH hp) V) (t:TypeId) (ok:Bool) {x k:PV} {vx vk:Value}
  (hx:VR w B (lkH hp) V x vx) (hk:VR w B (lkH hp) V k vk):Real P w B hp V ver (Instr.lookup t vx vk ok) (lookupA P t ok x k):=by
 refine .of_pure hr fun K hK=>?_
 unfold lookupA at hK
 split at hK
 ·rename_i kt et hu
  split at hK
  ·rename_i z hz
   obtain ⟨hf,hK⟩:=hK
   obtain ⟨d,hd,hat⟩:=fitsK_at hf hk
   obtain ⟨zv,hz1,hz2⟩:=zeroPV_some hz w
   have found:∀ (b clock:Nat) (es:List (PV × PV)) (cs:Array MapEntry),vx = .map (some b)→w.heap[b]?=some (.map cs clock)→cs.size=es.length→sortsB k es=true →
     (∀ i,i<es.length→VR w B (lkH hp) V (es.getD i (.undef,.undef)).1 (cs.getD i default).key)→(∀ i,i<es.length→VR w B (lkH hp) V (es.getD i (.undef,.undef)).2 (cs.getD i default).val) →
     (findA ok z es k).wp hp K→∃ v x,(Instr.lookup t vx vk ok).run P w = .ok v w∧K x hp∧VR w B (lkH hp) V x v:=by
    rintro b clock es cs rfl hh hn hs hkk hvv hK
    have hgd:∀ i,cs.toList.getD i default=cs.getD i default:=fun i=>by simp [List.getD_eq_getElem?_getD,Array.getD_eq_getD_getElem?]
    rcases find_spec hat k es cs.toList 0 (by simpa using hn) hs (fun i hi=>by rw [hgd];exact hkk i hi) with ⟨j,h1,h2,h3,_,h5⟩|⟨h1,_,h3⟩
    ·simp only [findA,A.wp,h2] at hK
     refine ⟨_,_,?_,hK,lkRes_VR (hvv j h1) ok true⟩
     rw [hgd] at h5
     simp [Instr.lookup,run_underlying' hu,run_getObj' hh rfl,hat.check,Instr.findKey,run_underlying' hd,h5]
    ·simp only [findA,A.wp,h1] at hK
     refine ⟨_,_,?_,hK,lkRes_VR (hz2 _ _ _) ok false⟩
     simp [Instr.lookup,run_underlying' hu,run_getObj' hh rfl,hat.check,Instr.findKey,run_underlying' hd,h3,hz1]
   split at hK
   ·cases hx
    refine ⟨_,_,?_,hK,lkRes_VR (hz2 _ _ _) ok false⟩
    simp [Instr.lookup,run_underlying' hu,hat.check,Instr.findKey,run_underlying' hd,Instr.findNow,hz1]
   ·rename_i es
    obtain ⟨hs,hK⟩:=hK
    cases hx with
    | fmap hfr hh hn hkk hvv =>
     exact found _ _ es _ rfl hh hn hs (fun i hi=>(hkk i hi).lift (fun _ _ _ h=>h)) (fun i hi=>(hvv i hi).lift (fun _ _ _ h=>h)) hK
   ·rename_i r v
    simp only [A.wp] at hK
    cases hH:lkH hp r with
    | none=>rw [hH] at hK;exact hK.elim
    | some rt =>
     rw [hH] at hK
     obtain ⟨hv,hK⟩:=hK
     have hroot:=hr.root r rt hH
     split at hK
     ·rename_i es bs cl hnode
      obtain ⟨hs,hK⟩:=hK
      rw [hnode] at hroot
      cases hx with
      | sref _ h =>
      obtain ⟨b,_,hB,rfl⟩:=h rt hH hv
      cases hroot with
      | omap hB' hh hn hbs hcl hkk hvv =>
       rw [hB] at hB'
       cases hB'
       exact found _ _ es _ rfl hh hn hs hkk hvv hK
     ·exact hK.elim
   ·exact hK.elim
  ·exact hK.elim
 ·exact hK.elim

theorem getD_toList (cs:Array MapEntry) (i:Nat):cs.toList.getD i default=cs.getD i default:=by simp [List.getD_eq_getElem?_getD,Array.getD_eq_getD_getElem?]

theorem Real.mapUpdate {P:Program} {w:World} {B:Blocks} {hp:List (RId × Root)} {V:Nat→Prop} {ver:Nat} (hr:HR w B (lkH hp) V) (t:TypeId) {x k u:PV} {vx vk vu:Value}
  (hx:VR w B (lkH hp) V x vx) (hk:VR w B (lkH hp) V k vk) (hu:VR w B (lkH hp) V u vu):Real P w B hp V ver (do Instr.mapUpdate t vx vk vu;pure Go.undef) (mapUpdateA P t x k u):=by
 intro K hK
 unfold mapUpdateA at hK
 split at hK
 ·rename_i kt et hut
  obtain ⟨hf,hK⟩:=hK
  obtain ⟨d,hd,hat⟩:=fitsK_at hf hk
  split at hK
  ·rename_i r v
   simp only [A.wp] at hK
   cases hH:lkH hp r with
   | none=>rw [hH] at hK;exact hK.elim
   | some rt =>
    rw [hH] at hK
    obtain ⟨hv,hK⟩:=hK
    have hroot:=hr.root r rt hH
    split at hK
    ·rename_i es bs cl hnode
     obtain ⟨hs,hK⟩:=hK
     rw [hnode] at hroot
     have hsp:spec rt.node=true:=by rw [hnode];rfl
     cases hx with
     | sref _ h =>
     obtain ⟨b,_,hB,rfl⟩:=h rt hH hv
     cases hroot with
     | @omap _ _ b' _ cs hB' hh hn hbs hcl hkk hvv =>
     rw [hB] at hB'
     cases hB'
     have hlk:∀ (es':List (PV × PV)) (bs':List Nat) (cl':Nat),∀ j,lkH (setH hp r (some ⟨rt.ver,.omap es' bs' cl'⟩)) j=if j=r then some ⟨rt.ver,.omap es' bs' cl'⟩ else lkH hp j:=fun _ _ _ j=>lookH_setH ..
     rcases find_spec hat u es cs.toList 0 (by simpa using hn) hs (fun i hi=>by rw [getD_toList];exact hkk i hi) with ⟨j,h1,h2,h3,h4,h5⟩|⟨h1,h2,h3⟩
     ·rw [getD_toList] at h3 h5
      have hj:j<cs.size:=by omega
      have hkj:cs[j].key=vk:=by simpa [Array.getD_eq_getD_getElem?,hj] using h3
      have hrun:(do Instr.mapUpdate t (.map (some b)) vk vu;pure Go.undef:Sem Value).run P w = .ok Go.undef (setBlock w b (.map (cs.modify j fun e=>{ e with key:=vk,val:=vu }) cl)):=by
       simp [Instr.mapUpdate,run_underlying' hut,run_getObj' hh rfl,hat.check,Instr.findKey,run_underlying' hd,h5,hj,hkj,Instr.keyThatStays,hat.bits,run_setObj' _ hh rfl]
      have hbs':updBs es bs cl k=bs:=by simp [updBs,h2]
      have hcl':updCl es cl k=cl:=by simp [updCl,h2]
      rw [h4,hbs',hcl'] at hK
      obtain ⟨g1,g2⟩:=hr.putS (H':=lkH (setH hp r (some ⟨rt.ver,.omap (es.set j (k,u)) bs cl⟩))) hH hsp hB hh (o' := .map (cs.modify j fun e=>{ e with key:=vk,val:=vu }) cl) rfl (node := .omap (es.set j (k,u)) bs cl) rfl (hlk _ _ _) (fun hm=>by
       have hget:∀ i,(cs.modify j fun e=>{ e with key:=vk,val:=vu }).getD i default=if i=j then { cs.getD i default with key:=vk,val:=vu } else cs.getD i default:=by
        intro i
        simp only [Array.getD_eq_getD_getElem?,Array.getElem?_modify]
        by_cases e:j=i
        ·subst e;simp [hj]
        ·simp [e,Ne.symm e]
       have hge:∀ i,(es.set j (k,u)).getD i (.undef,.undef)=if i=j then (k,u) else es.getD i (.undef,.undef):=by
        intro i
        simp only [List.getD_eq_getElem?_getD,List.getElem?_set]
        by_cases e:j=i
        ·subst e;simp [h1]
        ·simp [e,Ne.symm e]
       refine .omap hB (setBlock_self _ hh) (by simpa using hn) ?_ hcl (fun i hi=>?_) (fun i hi=>?_)
       ·rw [hbs]
        apply List.ext_getElem
        ·simp
        ·intro i h1 h2
         simp only [List.getElem_map,Array.getElem_toList,Array.getElem_modify]
         by_cases e:j=i
         ·simp [e]
         ·simp [e]
       ·simp only [List.length_set] at hi
        rw [hget,hge]
        split
        ·exact hk.mono hm
        ·exact (hkk i hi).mono hm
       ·simp only [List.length_set] at hi
        rw [hget,hge]
        split
        ·exact hu.mono hm
        ·exact (hvv i hi).mono hm)
      exact ⟨_,_,B,_,_,hrun,hK,.undef _,g1.more ver,g2.trans (Mono.more ..)⟩
     ·have hrun:(do Instr.mapUpdate t (.map (some b)) vk vu;pure Go.undef:Sem Value).run P w = .ok Go.undef (setBlock w b (.map (cs.push { key:=vk,val:=vu,born:=cl }) (cl+1))):=by
       simp [Instr.mapUpdate,run_underlying' hut,run_getObj' hh rfl,hat.check,Instr.findKey,run_underlying' hd,h3,run_setObj' _ hh rfl]
      have hbs':updBs es bs cl k=bs++[cl]:=by simp [updBs,h1]
      have hcl':updCl es cl k=cl+1:=by simp [updCl,h1]
      rw [h2,hbs',hcl'] at hK
      obtain ⟨g1,g2⟩:=hr.putS (H':=lkH (setH hp r (some ⟨rt.ver,.omap (es++[(k,u)]) (bs++[cl]) (cl+1)⟩))) hH hsp hB hh (o' := .map (cs.push { key:=vk,val:=vu,born:=cl }) (cl+1)) rfl (node := .omap (es++[(k,u)]) (bs++[cl]) (cl+1)) rfl (hlk _ _ _) (fun hm=>by
       have hget:∀ i,i<es.length+1→(cs.push { key:=vk,val:=vu,born:=cl }).getD i default=if i=es.length then { key:=vk,val:=vu,born:=cl } else cs.getD i default:=by
        intro i hi
        simp only [Array.getD_eq_getD_getElem?,Array.getElem?_push,hn]
        split <;> simp
       have hge:∀ i,i<es.length+1→(es++[(k,u)]).getD i (.undef,.undef)=if i=es.length then (k,u) else es.getD i (.undef,.undef):=by
        intro i hi
        simp only [List.getD_eq_getElem?_getD]
        by_cases e:i=es.length
        ·subst e;simp
        ·rw [List.getElem?_append_left (by omega)];simp [e]
       refine .omap hB (setBlock_self _ hh) (by simpa using hn) (by simp [hbs]) ⟨?_,fun x hx=>?_⟩ (fun i hi=>?_) (fun i hi=>?_)
       ·rw [List.nodup_append]
        refine ⟨hcl.1,by simp,fun x hx y hy=>?_⟩
        simp only [List.mem_singleton] at hy
        have:=hcl.2 x hx
        omega
       ·rcases List.mem_append.1 hx with h|h
        ·have:=hcl.2 x h;omega
        ·simp only [List.mem_singleton] at h;omega
       ·simp only [List.length_append,List.length_singleton] at hi
        rw [hget i hi,hge i hi]
        split
        ·exact hk.mono hm
        ·exact (hkk i (by omega)).mono hm
       ·simp only [List.length_append,List.length_singleton] at hi
        rw [hget i hi,hge i hi]
        split
        ·exact hu.mono hm
        ·exact (hvv i (by omega)).mono hm)
      exact ⟨_,_,B,_,_,hrun,hK,.undef _,g1.more ver,g2.trans (Mono.more ..)⟩
    ·exact hK.elim
  ·exact hK.elim
 ·exact hK.elim

theorem Real.makeMap {P:Program} {w:World} {B:Blocks} {hp:List (RId × Root)} {V:Nat→Prop} {ver:Nat} (hr:HR w B (lkH hp) V) (hver:¬ V ver) (id:RId) (hid:id.1≠0) (t:TypeId) {x:Option PV} {vx:Option Value} (hx:OV w B (lkH hp) V x vx) :
  Real P w B hp V ver (Instr.makeMap t vx) (makeMapA P id ver t x):=by
 intro K hK
 have fin:(Instr.makeMap t vx).run P w = .ok (.map (some w.heap.size)) (w.alloc (.map #[] 0))→K (.sref .map id ver) (setH hp id (some ⟨ver,.omap [] [] 0⟩)) →
   ∃ v w' B' hp' x',(Instr.makeMap t vx).run P w = .ok v w'∧K x' hp'∧VR w' B' (lkH hp') (ors V ver) x' v∧HR w' B' (lkH hp') (ors V ver)∧Mono w B (lkH hp) V w' B' (lkH hp') (ors V ver):=by
  intro hrun hk
  obtain ⟨g1,g2⟩:=hr.newS hver id hid (node := .omap [] [] 0) rfl (o := .map #[] 0) rfl (fun _ => .omap (newB_self ..) (heap_alloc_new ..) rfl rfl ⟨List.nodup_nil,fun x hx=>by simp at hx⟩ (fun i hi=>by simp at hi) (fun i hi=>by simp at hi))
  refine ⟨_,_,_,_,_,hrun,hk,.sref (.inr rfl) (fun rt h _=>?_),g1,g2⟩
  rw [lookH_setH,if_pos rfl] at h
  cases h
  exact ⟨w.heap.size,at_nil.2 rfl,newB_self ..,rfl⟩
 unfold makeMapA at hK
 split at hK
 ·cases vx with
  | none=>exact fin rfl hK
  | some v=>exact hx.elim
 ·rename_i ik n kt et hu
  cases vx with
  | none=>exact hx.elim
  | some v =>
   cases hx
   exact fin (by simp [Instr.makeMap,run_underlying' hu,asInt,asIntOf]) hK
 ·exact hK.elim

theorem Real.lenM {P:Program} {w:World} {B:Blocks} {hp:List (RId × Root)} {V:Nat→Prop} {ver:Nat} (hr:HR w B (lkH hp) V) (t rt0:TypeId) {x:PV} {vx:Value} (hx:VR w B (lkH hp) V x vx) :
  Real P w B hp V ver (Builtin.len_ #[t] rt0 #[vx]) (Ab.lenM P t x):=by
 refine .of_pure hr fun K hK=>?_
 unfold Ab.lenM at hK
 split at hK
 ·rename_i kt et hu
  split at hK
  ·cases hx
   exact ⟨_,_,by simp [Builtin.len_,run_underlying' hu];rfl,hK,.int _ _⟩
  ·cases hx with
   | fmap hf hh hn _ _=>exact ⟨_,_,by simp [Builtin.len_,run_underlying' hu,run_getObj' hh rfl,hn,goInt],hK,.int _ _⟩
  ·rename_i r v
   simp only [A.wp] at hK
   cases hH:lkH hp r with
   | none=>rw [hH] at hK;exact hK.elim
   | some rt =>
    rw [hH] at hK
    obtain ⟨hv,hK⟩:=hK
    have hroot:=hr.root r rt hH
    split at hK
    ·rename_i es bs cl hnode
     rw [hnode] at hroot
     cases hx with
     | sref _ h =>
     obtain ⟨b,_,hB,rfl⟩:=h rt hH hv
     cases hroot with
     | omap hB' hh hn _ _ _ _ =>
      rw [hB] at hB'
      cases hB'
      exact ⟨_,_,by simp [SK.val,Builtin.len_,run_underlying' hu,run_getObj' hh rfl,hn,goInt],hK,.int _ _⟩
    ·exact hK.elim
  ·exact hK.elim
 ·exact hK.elim

theorem Real.range {P:Program} {w:World} {B:Blocks} {hp:List (RId × Root)} {V:Nat→Prop} {ver:Nat} (hr:HR w B (lkH hp) V) (hver:¬ V ver) (id:RId) (hid:id.1≠0) (t:TypeId) {x:PV} {vx:Value} (hx:VR w B (lkH hp) V x vx) :
  Real P w B hp V ver (Instr.range t vx) (rangeA P id ver t x):=by
 intro K hK
 have fin:∀ (m:PV) (om:Option Nat) (since:Nat),VR w B (lkH hp) V m (.map om)→(Instr.range t vx).run P w = .ok (.pointer (some ⟨w.heap.size,0,none⟩)) (w.alloc (.mapIter om since #[] since))→K (.sref .iter id ver) (setH hp id (some ⟨ver,.oiter m since [] since⟩)) →
   ∃ v w' B' hp' x',(Instr.range t vx).run P w = .ok v w'∧K x' hp'∧VR w' B' (lkH hp') (ors V ver) x' v∧HR w' B' (lkH hp') (ors V ver)∧Mono w B (lkH hp) V w' B' (lkH hp') (ors V ver):=by
  intro m om since hm hrun hk
  obtain ⟨g1,g2⟩:=hr.newS hver id hid (node := .oiter m since [] since) rfl (o := .mapIter om since #[] since) rfl (fun hmo => .oiter (newB_self ..) (heap_alloc_new ..) (hm.mono hmo))
  refine ⟨_,_,_,_,_,hrun,hk,.sref (.inr rfl) (fun rt h _=>?_),g1,g2⟩
  rw [lookH_setH,if_pos rfl] at h
  cases h
  exact ⟨w.heap.size,at_nil.2 rfl,newB_self ..,rfl⟩
 unfold rangeA at hK
 split at hK
 ·rename_i kt et hu
  split at hK
  ·have hx':=hx
   cases hx'
   exact fin _ none 0 hx (by simp [Instr.range,run_underlying' hu]) hK
  ·rename_i r v
   simp only [A.wp] at hK
   cases hH:lkH hp r with
   | none=>rw [hH] at hK;exact hK.elim
   | some rt =>
    rw [hH] at hK
    obtain ⟨hv,hK⟩:=hK
    have hroot:=hr.root r rt hH
    split at hK
    ·rename_i es bs cl hnode
     rw [hnode] at hroot
     have hx':=hx
     cases hx' with
     | sref _ h =>
     obtain ⟨b,_,hB,rfl⟩:=h rt hH hv
     cases hroot with
     | omap hB' hh hn _ _ _ _ =>
      rw [hB] at hB'
      cases hB'
      exact fin _ (some b) cl hx (by simp [SK.val,Instr.range,run_underlying' hu,run_getObj' hh rfl]) hK
    ·exact hK.elim
  ·exact hK.elim
 ·exact hK.elim

theorem getElem_getD (cs:Array MapEntry) {i:Nat} (h:i<cs.size):cs.getD i default=cs[i]:=by simp [Array.getD_eq_getD_getElem?,h]

theorem tup3 {w B H V} {k v:PV} {vk vv:Value} (hk:VR w B H V k vk) (hv:VR w B H V v vv):VR w B H V (.tup [.bool true,k,v]) (.tuple #[.bool true,vk,vv]):=by
 refine .tup rfl (fun i hi=>?_)
 rcases i with _|_|_|i
 ·exact .bool true
 ·simpa using hk
 ·simpa using hv
 ·simp at hi;omega

theorem Real.next {P:Program} {w:World} {B:Blocks} {hp:List (RId × Root)} {V:Nat→Prop} {ver:Nat} (hr:HR w B (lkH hp) V) (str:Bool) (ty:TypeId) {x:PV} {vx:Value} (hx:VR w B (lkH hp) V x vx) :
  Real P w B hp V ver (Instr.next vx str ty) (nextA str x):=by
 intro K hK
 unfold nextA at hK
 split at hK
 ·rename_i r v
  simp only [A.wp] at hK
  cases hH:lkH hp r with
  | none=>rw [hH] at hK;exact hK.elim
  | some rt =>
   rw [hH] at hK
   obtain ⟨hv,hK⟩:=hK
   have hroot:=hr.root r rt hH
   cases hx with
   | sref _ h =>
   obtain ⟨b,_,hB,rfl⟩:=h rt hH hv
   split at hK
   ·rename_i since seen last hnode
    rw [hnode] at hroot
    cases hroot with
    | oiter hB' hh hm =>
     rw [hB] at hB'
     cases hB'
     cases hm
     refine ⟨.tuple #[.bool false],w,B,hp,_,?_,hK,.tup rfl (fun i hi=>?_),hr.more ver,Mono.more ..⟩
     ·simp [SK.val,Instr.next,run_getObj' hh rfl]
     ·obtain rfl:i=0:=by simp at hi;omega
      exact .bool false
   ·rename_i r2 v2 since seen last hnode
    have hsp:spec rt.node=true:=by rw [hnode];rfl
    rw [hnode] at hroot
    simp only [A.wp] at hK
    cases hH2:lkH hp r2 with
    | none=>rw [hH2] at hK;exact hK.elim
    | some rt2 =>
     rw [hH2] at hK
     obtain ⟨hv2,hK⟩:=hK
     have hroot2:=hr.root r2 rt2 hH2
     split at hK
     ·rename_i es bs cl hnode2
      rw [hnode2] at hroot2
      cases hroot2 with
      | @omap _ _ b2 _ cs hB2 hh2 hn hbs hcl hkk hvv =>
      have hlen:bs.length=es.length:=by rw [hbs];simp [hn]
      obtain ⟨⟨rfl,hle⟩,hK⟩:=hK ⟨hlen,hcl⟩
      rw [A.ifD_wp] at hK
      cases hroot with
      | @oiter _ _ _ b' _ om hB' hh hm =>
      rw [hB] at hB'
      cases hB'
      have hm':=hm
      cases hm' with
      | sref _ h2 =>
      obtain ⟨b2',_,hB2',he⟩:=h2 rt2 hH2 hv2
      rw [hB2] at hB2'
      cases hB2'
      simp only [SK.val,Value.map.injEq] at he
      subst he
      have hold:∀ x∈cs.toList,x.born<cl:=fun x hx=>hcl.2 _ (by rw [hbs];exact List.mem_map_of_mem hx)
      have hbget:∀ i,i<cs.size→bs.getD i 0=(cs.getD i default).born:=fun i hi=>by
       rw [hbs]
       simp [List.getD_eq_getElem?_getD,Array.getD_eq_getD_getElem?,hi]
      have hmem:∀ i,i∈leftI bs seen↔i<cs.size∧(cs.getD i default).born ∉ seen:=fun i=>by
       unfold leftI
       simp only [List.mem_filter,List.mem_range,hlen,← hn]
       constructor
       ·rintro ⟨h1,h2⟩;rw [hbget i h1] at h2;exact ⟨h1,by simpa using h2⟩
       ·rintro ⟨h1,h2⟩;rw [hbget i h1];exact ⟨h1,by simpa using h2⟩
      rcases run_next_at (P:=P) w ty b b2 cl last seen.toArray cs cl hh hh2 hold hle with ⟨h0,hrun⟩|⟨e,he,w1,hw1,hrun⟩
      ·have hnil:leftI bs seen=[]:=by
        refine List.eq_nil_iff_forall_not_mem.2 fun i hi=>?_
        obtain ⟨h1,h2⟩:=(hmem i).1 hi
        have:cs.getD i default∈leftOf cs seen.toArray:=by
         unfold leftOf
         rw [getElem_getD cs h1] at h2 ⊢
         simp [Array.mem_filter,h2]
        have h3:leftOf cs seen.toArray=#[]:=Array.eq_empty_of_size_eq_zero h0
        rw [h3] at this
        simp at this
       rw [if_pos hnil] at hK
       refine ⟨_,w,B,hp,_,hrun,hK,.tup rfl (fun i hi=>?_),hr.more ver,Mono.more ..⟩
       obtain rfl:i=0:=by simp at hi;omega
       exact .bool false
      ·have he2:e∈cs∧e.born ∉ seen:=by
        have:e∈leftOf cs seen.toArray:=by simpa using he
        unfold leftOf at this
        simpa [Array.mem_filter] using this
       obtain ⟨i,hi,rfl⟩:=Array.getElem_of_mem he2.1
       have hil:i∈leftI bs seen:=(hmem i).2 ⟨hi,by rw [getElem_getD cs hi];exact he2.2⟩
       rw [if_neg (fun h=>by rw [h] at hil;simp at hil)] at hK
       have hK:=hK i hil
       have hb:bs.getD i 0=cs[i].born:=by rw [hbget i hi,getElem_getD cs hi]
       have hturn:∃ hr1:HR w1 B (lkH hp) V,Mono w B (lkH hp) V w1 B (lkH hp) V∧w1.heap=w.heap:=by
        rcases hw1 with rfl|rfl
        ·exact ⟨hr,Mono.refl ..,rfl⟩
        ·exact ⟨hr.drew.1,hr.drew.2,rfl⟩
       obtain ⟨hr1,hm1,hheap⟩:=hturn
       have hh1:w1.heap[b]?=some (.mapIter (some b2) cl seen.toArray last):=by rw [hheap];exact hh
       obtain ⟨g1,g2⟩:=hr1.putS (H':=lkH (setH hp r (some ⟨rt.ver,.oiter (.sref .map r2 v2) cl (seen++[bs.getD i 0]) cl⟩))) hH hsp hB hh1 (o' := .mapIter (some b2) cl (seen.toArray.push cs[i].born) cl) rfl (node := .oiter (.sref .map r2 v2) cl (seen++[bs.getD i 0]) cl) rfl (fun j=>lookH_setH ..) (fun hmo=>by
        refine .oiter hB ?_ ((hm.mono hm1).mono hmo)
        rw [setBlock_self _ hh1,hb]
        simp)
       refine ⟨_,_,B,_,_,hrun,hK,?_,g1.more ver,(hm1.trans g2).trans (Mono.more ..)⟩
       have h1:=hkk i (by omega)
       have h2:=hvv i (by omega)
       rw [getElem_getD cs hi] at h1 h2
       exact (tup3 ((h1.mono hm1).mono g2) ((h2.mono hm1).mono g2)).mono (Mono.more ..)
     ·exact hK.elim
   ·exact hK.elim
 ·exact hK.elim

theorem Real.entry {P:Program} {w:World} {B:Blocks} {hp:List (RId × Root)} {V:Nat→Prop} {ver:Nat} (hr:HR w B (lkH hp) V) {x:PV} {vx:Value} (hx:VR w B (lkH hp) V x vx) :
  Real P w B hp V ver (Instr.entry vx) (entryA x):=by
 refine .of_pure hr fun K hK=>?_
 unfold entryA at hK
 split at hK
 ·rename_i r v
  simp only [A.wp] at hK
  cases hH:lkH hp r with
  | none=>rw [hH] at hK;exact hK.elim
  | some rt =>
   rw [hH] at hK
   obtain ⟨hv,hK⟩:=hK
   have hroot:=hr.root r rt hH
   cases hx with
   | sref _ h =>
   obtain ⟨b,_,hB,rfl⟩:=h rt hH hv
   split at hK
   ·rename_i r2 v2 since seen last hnode
    rw [hnode] at hroot
    simp only [A.wp] at hK
    cases hH2:lkH hp r2 with
    | none=>rw [hH2] at hK;exact hK.elim
    | some rt2 =>
     rw [hH2] at hK
     obtain ⟨hv2,hK⟩:=hK
     have hroot2:=hr.root r2 rt2 hH2
     split at hK
     ·rename_i es bs cl hnode2
      rw [hnode2] at hroot2
      cases hroot2 with
      | @omap _ _ b2 _ cs hB2 hh2 hn hbs hcl hkk hvv =>
      obtain ⟨rfl,hK⟩:=hK
      cases hroot with
      | @oiter _ _ _ b' _ om hB' hh hm =>
      rw [hB] at hB'
      cases hB'
      cases hm with
      | sref _ h2 =>
      obtain ⟨b2',_,hB2',he⟩:=h2 rt2 hH2 hv2
      rw [hB2] at hB2'
      cases hB2'
      simp only [SK.val,Value.map.injEq] at he
      subst he
      cases hE:entryE es bs seen with
      | none=>rw [hE] at hK;exact hK.elim
      | some y =>
       rw [hE] at hK
       unfold entryE at hE
       cases hl:seen.getLast? with
       | none=>rw [hl] at hE;cases hE
       | some s =>
        rw [hl] at hE
        simp only at hE
        cases hi:bs.idxOf? s with
        | none=>rw [hi] at hE;cases hE
        | some i =>
         rw [hi] at hE
         simp only [Option.bind_some,Option.map_eq_some_iff] at hE
         obtain ⟨e,he,rfl⟩:=hE
         obtain ⟨hib,hbi⟩:∃ h:i<bs.length,bs[i]=s:=by
          have:=List.idxOf?_eq_some_iff.1 hi
          obtain ⟨h1,h2,_⟩:=this
          exact ⟨h1,by simpa using h2⟩
         have hi':i<cs.size:=by rw [hbs] at hib;simpa using hib
         have hborn:cs[i].born=s:=by
          rw [← hbi]
          simp [hbs]
         obtain ⟨front,hfront⟩:=List.getLast?_eq_some_iff.1 hl
         have hh':w.heap[b]?=some (.mapIter (some b2) since (front.toArray.push cs[i].born) cl):=by
          rw [hh,hfront,hborn]
          simp
         have hrun:=run_entry_at (P:=P) w b b2 since front.toArray cs cl cs[i] hh' hh2 (by simp) (by rw [← hbs];exact hcl.1)
         have hes:es.getD i (.undef,.undef)=e:=by simp [List.getD_eq_getElem?_getD,he]
         have hie:i<es.length:=by omega
         have h1:=hkk i hie
         have h2:=hvv i hie
         rw [hes,getElem_getD cs hi'] at h1 h2
         refine ⟨_,_,hrun,hK,.tup rfl (fun j hj=>?_)⟩
         rcases j with _|_|j
         ·simpa using h1
         ·simpa using h2
         ·simp at hj;omega
     ·exact hK.elim
   ·exact hK.elim
 ·exact hK.elim
end Go.Ab
namespace Go.Ab

def capA (P:Program) (t:TypeId) (x:PV):A:=match sliceOf P t,x with
 | some _,.nils => .ret (.int .i64 0)
 | some _,.fcl _ n _ => .ret (.int .i64 n)
 | _,_ => .fail

theorem Real.cap {P:Program} {w:World} {B:Blocks} {hp:List (RId × Root)} {V:Nat→Prop} {ver:Nat} (hr:HR w B (lkH hp) V) (t rt0:TypeId) {x:PV} {vx:Value} (hx:VR w B (lkH hp) V x vx) :
  Real P w B hp V ver (Builtin.cap_ #[t] rt0 #[vx]) (capA P t x):=by
 refine .of_pure hr fun K hK=>?_
 unfold capA at hK
 split at hK
 ·rename_i e he
  cases hx
  exact ⟨_,_,by simp [Builtin.cap_,run_underlying' (sliceOf_some he),goInt],hK,.int _ _⟩
 ·rename_i e sz n f he
  cases hx
  exact ⟨_,_,by simp [Builtin.cap_,run_underlying' (sliceOf_some he),goInt],hK,.int _ _⟩
 ·exact hK.elim

def lenT (P:Program) (t:TypeId) (x:PV):A:=match x with
 | .nilm=>lenM P t .nilm
 | .fmap es=>lenM P t (.fmap es)
 | .sref k r v=>lenM P t (.sref k r v)
 | .fcl _ n _=>match sliceOf P t with
  | some _ => .ret (.int .i64 n)
  | none => .fail
 | x=>lenA P t x

theorem Real.lenT {P:Program} {w:World} {B:Blocks} {hp:List (RId × Root)} {V:Nat→Prop} {ver:Nat} (hr:HR w B (lkH hp) V) (t rt0:TypeId) {x:PV} {vx:Value} (hx:VR w B (lkH hp) V x vx) :
  Real P w B hp V ver (Builtin.len_ #[t] rt0 #[vx]) (Ab.lenT P t x):=by
 unfold Ab.lenT
 split
 ·exact .lenM hr t rt0 hx
 ·exact .lenM hr t rt0 hx
 ·exact .lenM hr t rt0 hx
 ·refine .of_pure hr fun K hK=>?_
  split at hK
  ·rename_i e he
   cases hx
   exact ⟨_,_,by simp [Builtin.len_,run_underlying' (sliceOf_some he),goInt],hK,.int _ _⟩
  ·exact hK.elim
 ·exact .len hr t rt0 hx
end Go.Ab
namespace Go.Ab

theorem loadFrom_take {P:Program} {w:World} (a:Addr):∀ (n i:Nat) (acc arr:Array Value) (w':World),(loadCellsFrom a i n acc).run P w = .ok arr w'→w'=w∧arr.size=acc.size+n∧∀ k,k≤n→(loadCellsFrom a i k acc).run P w = .ok (arr.toList.take (acc.size+k)).toArray w
 | 0,i,acc,arr,w',h=>by
  simp [loadCellsFrom] at h
  obtain ⟨rfl,rfl⟩:=h
  refine ⟨rfl,rfl,fun k hk=>?_⟩
  obtain rfl:k=0:=by omega
  simp only [loadCellsFrom,Sem.run_pure,Nat.add_zero]
  rw [List.take_of_length_le (by simp),Array.toArray_toList]
 | n+1,i,acc,arr,w',h=>by
  unfold loadCellsFrom at h
  rw [Sem.run_bind] at h
  cases hr:(load (a.add i)).run P w with
  | halt hh w1=>rw [hr] at h;cases h
  | ok v w1 =>
   have e:w1=w:=by
    rw [run_load] at hr
    split at hr
    ·cases hr;rfl
    ·split at hr
     ·cases hr;rfl
     ·cases hr
   subst e
   rw [hr] at h
   obtain ⟨h1,h2,h3⟩:=loadFrom_take a n (i+1) (acc.push v) arr w' h
   refine ⟨h1,by rw [h2,Array.size_push];omega,fun k hk=>?_⟩
   cases k with
   | zero =>
    have h4:=(h3 0 (by omega))
    simp only [loadCellsFrom,Sem.run_pure,Nat.add_zero,Array.size_push] at h4 ⊢
    have h5:acc.push v=(arr.toList.take (acc.size+1)).toArray:=by injection h4
    have h6:=congrArg (fun x:Array Value=>x.toList.take acc.size) h5
    simp only [List.take_take] at h6
    rw [Nat.min_eq_left (by omega)] at h6
    have h7:(acc.push v).toList.take acc.size=acc.toList:=by simp
    rw [← h6,h7]
   | succ k =>
    have h4:=h3 k (by omega)
    unfold loadCellsFrom
    rw [Sem.run_bind,hr]
    simp only [Result.andThen_ok]
    rw [h4]
    rw [show acc.size+(k+1)=(acc.push v).size+k by simp;omega]

theorem first_take {P:Program} {w:World} {sz m k:Nat} {x:Value} {news:List Value} (hk:k≤m) (hs:∃ A n c,x = .slice A n c) (h:(Builtin.firstCells sz m x).run P w = .ok news.toArray w) (hn:news.length=m*sz) :
  (Builtin.firstCells sz k x).run P w = .ok (news.take (k*sz)).toArray w:=by
 obtain ⟨A,n,c,rfl⟩:=hs
 cases A with
 | none =>
  simp [Builtin.firstCells] at h ⊢
  simp [h]
 | some a =>
  simp only [Builtin.firstCells,loadCells] at h ⊢
  obtain ⟨_,h2,h3⟩:=loadFrom_take a _ _ _ _ _ h
  have:=h3 (k*sz) (Nat.mul_le_mul_right _ hk)
  simpa using this

def copyA (P:Program) (t:TypeId) (x y:PV):A:=match sliceOf P t with
 | some e=>match x with
  | .ref r v p sz lo hi => .rd r fun
   | some rt => .vc (rt.ver=v∧P.cellsOf e=sz∧0<sz∧(P.info? e).isSome) <| match getAt rt.node p with
    | .own _ n f=>srcA sz y fun m c => .ifD (m=0∨hi≤lo) (.ret (.int .i64 0)) (.vc (∀ i,i<lo+Nat.min m (hi - lo)→lo≤i→∀ o,o<sz→shapeOf (f i o)=none)
      (.wr r (some ⟨rt.ver,updAt (setRows lo (Nat.min m (hi - lo)) c) rt.node p⟩) (.ret (.int .i64 (Nat.min m (hi - lo))))))
    | _ => .fail
   | none => .fail
  | _ => .fail
 | none => .fail

theorem srcA_slice {w:World} {B:Blocks} {H:Roots} {V:Nat→Prop} {P:Program} {sz m:Nat} {y:PV} {vy:Value} {t e:TypeId} {news:List Value} (hu:P.underlying t=some (.slice e)) (h:Src P sz t vy m news w) (hy:VR w B H V y vy) (hb:∃ (k:Nat→(Nat→Nat→PV)→A) (hp:List (RId × Root)) (K:PV→List (RId × Root)→Prop),(∀ r v p s lo hi,y = .ref r v p s lo hi→lkH hp=H)∧(srcA sz y k).wp hp K):∃ A n c,vy = .slice A n c:=by
 obtain ⟨k,hp,K,he,hk⟩:=hb
 unfold srcA at hk
 split at hk
 ·cases hy;exact ⟨_,_,_,rfl⟩
 ·cases hy;exact ⟨_,_,_,rfl⟩
 ·cases hy;exact ⟨_,_,_,rfl⟩
 ·rename_i r v p sz' lo hi
  have he:=he _ _ _ _ _ _ rfl
  simp only [A.wp] at hk
  rw [he] at hk
  cases hH:H r with
  | none=>rw [hH] at hk;exact hk.elim
  | some rt =>
   rw [hH] at hk
   cases hy with
   | ref hv hy =>
   obtain ⟨n,hat,hlo,hhi,hx⟩:=hy rt hH hk.1.1
   rcases hx with ⟨b,A,cap,e',mm,hB,rfl,_⟩|⟨hB,⟨A0,rfl⟩,h00⟩
   ·exact ⟨_,_,_,rfl⟩
   ·exact ⟨_,_,_,rfl⟩
 ·exact hk.elim

theorem Real.copy {P:Program} {w:World} {B:Blocks} {hp:List (RId × Root)} {V:Nat→Prop} {ver:Nat} (hr:HR w B (lkH hp) V) (t ty:TypeId) {x y:PV} {vx vy:Value}
  (hx:VR w B (lkH hp) V x vx) (hy:VR w B (lkH hp) V y vy):Real P w B hp V ver (Builtin.copy_ #[t,t] ty #[vx,vy]) (copyA P t x y):=by
 intro K hK
 unfold copyA at hK
 split at hK
 ·rename_i e he
  have hu:=sliceOf_some he
  split at hK
  ·rename_i r v p sz lo hi
   simp only [A.wp] at hK
   cases hH:lkH hp r with
   | none=>rw [hH] at hK;exact hK.elim
   | some rt =>
    rw [hH] at hK
    obtain ⟨⟨hv,rfl,h0,hi0⟩,hK⟩:=hK
    obtain ⟨i,hi'⟩:=Option.isSome_iff_exists.1 hi0
    have hsize:i.size=P.cellsOf e:=by simp [Program.cellsOf,hi']
    cases hx with
    | ref hV h =>
    obtain ⟨n,hat,hlo,hhi,hxx⟩:=h rt hH hv
    split at hK
    ·rename_i sz' n' f hg
     have hs:=hat.2
     rw [hg] at hs
     simp only [shapeOf,Option.some.injEq,Prod.mk.injEq,true_and] at hs
     obtain ⟨rfl,rfl⟩:=hs
     obtain ⟨m,c,val,hk,hsrc,hval⟩:=srcA_wp hr hu h0 hy hK
     have hsl:∃ A n c,vy = .slice A n c:=srcA_slice hu hsrc hy ⟨_,hp,K,fun _ _ _ _ _ _ _=>rfl,hK⟩
     rw [A.ifD_wp] at hk
     have first:∀ k,k≤m→(Builtin.firstCells (P.cellsOf e) k vy).run P w = .ok (((List.range (m*P.cellsOf e)).map val).take (k*P.cellsOf e)).toArray w:=fun k hk=>first_take hk hsl hsrc.cells (by simp)
     have hxv:∃ A c,vx = .slice A (hi - lo) c:=by
      rcases hxx with ⟨b,A,cap,e',mm,hB,rfl,_⟩|⟨hB,⟨A0,rfl⟩,h00⟩
      ·exact ⟨_,_,rfl⟩
      ·exact ⟨A0,0,by rw [show hi - lo=0 by omega]⟩
     obtain ⟨A0,c0,hvx⟩:=hxv
     have hrun0:(Builtin.copy_ #[t,t] ty #[vx,vy]).run P w=Result.andThen ((match A0 with|some a=>storeCells a (((List.range (m*P.cellsOf e)).map val).take (Nat.min m (hi - lo)*P.cellsOf e))|none=>pure ()).run P w) fun _ w'=>(pure (goInt (Nat.min m (hi - lo))):Sem Value).run P w':=by
      subst hvx
      have h1:=hsrc.len
      have h2:=first (Nat.min m (hi - lo)) (Nat.min_le_left _ _)
      have hso:∀ w:World,(sizeOf e).run P w = .ok (P.cellsOf e) w:=fun w=>by simp [sizeOf,typeInfo,hi',hsize]
      simp only [Builtin.copy_,List.getElem?_toArray,List.getElem?_cons_zero,List.getElem?_cons_succ,Sem.run_bind,run_underlying' hu,Result.andThen_ok,h1,hso,h2]
      cases A0 <;> simp
     split at hk
     ·rename_i hm0
      have hmin:Nat.min m (hi - lo)=0:=by
       rcases hm0 with h|h
       ·rw [h];exact Nat.zero_min _
       ·rw [show hi - lo=0 by omega];exact Nat.min_zero _
      rw [hmin] at hrun0
      refine ⟨_,w,B,hp,_,?_,hk,.int _ _,hr.more ver,Mono.more ..⟩
      rw [hrun0]
      cases A0 <;> simp [storeCells,goInt]
     ·rename_i hm0
      obtain ⟨hold,hk⟩:=hk
      have hkm:Nat.min m (hi - lo)≤m:=Nat.min_le_left _ _
      have hkh:Nat.min m (hi - lo)≤hi - lo:=Nat.min_le_right _ _
      have hkp:0<Nat.min m (hi - lo):=by
       show 0<Min.min m (hi - lo)
       omega
      generalize hkk:Nat.min m (hi - lo)=k at *
      have hnode:=(hr.root r rt hH).node p hat
      rcases hnode.out with ⟨hBn,hn0⟩|⟨b,cs,e2,hB,hh,⟨hsz,_⟩,_⟩
      ·omega
      ·rcases hxx with ⟨b',A,cap,e',mm,hB',hvx',hcap,hA,hsh,hle⟩|⟨hB',_,_⟩
       ·obtain rfl:b'=b:=by rw [hB] at hB';exact (Option.some.inj hB').symm
        obtain rfl:=hA (by omega)
        rw [hvx] at hvx'
        cases hvx'
        have hlen:(((List.range (m*P.cellsOf e)).map val).take (k*P.cellsOf e)).length=k*P.cellsOf e:=by
         simp only [List.length_take,List.length_map,List.length_range]
         exact Nat.min_eq_left (Nat.mul_le_mul_right _ hkm)
        have hget:∀ j,j<k*P.cellsOf e→(((List.range (m*P.cellsOf e)).map val).take (k*P.cellsOf e)).getD j Go.undef=val j:=fun j hj=>by
         have hj2:j<m*P.cellsOf e:=Nat.lt_of_lt_of_le hj (Nat.mul_le_mul_right _ hkm)
         rw [List.getD_eq_getElem?_getD,List.getElem?_take,if_pos hj,List.getElem?_map,List.getElem?_range hj2]
         rfl
        have hfit2:lo*P.cellsOf e+(((List.range (m*P.cellsOf e)).map val).take (k*P.cellsOf e)).length≤cs.size:=by
         rw [hlen,← Nat.add_mul]
         exact Nat.le_trans (Nat.mul_le_mul_right _ (by omega)) hsz
        have hne:(((List.range (m*P.cellsOf e)).map val).take (k*P.cellsOf e))≠[]:=fun e0=>by
         rw [e0] at hlen
         have:=Nat.mul_pos hkp h0
         simp at hlen
         omega
        have hone:∀ u∈(((List.range (m*P.cellsOf e)).map val).take (k*P.cellsOf e)),u.oneCell'=true:=fun u hu=>hsrc.one u (List.mem_of_mem_take hu)
        have hst:=run_storeCells' (P:=P) _ w cs (lo*P.cellsOf e) 0 hh (by simpa using hfit2) hone hne
        obtain ⟨g1,g2⟩:=rows_put hr hH hat hg hB hh hsz (lo:=lo) (k:=k) (by omega) (c:=c) hlen hone (fun a o ha ho=>by
         have hj:a*P.cellsOf e+o<k*P.cellsOf e:=by have:=mul_lt_le (s:=P.cellsOf e) ha;omega
         rw [hget _ hj];exact hval a o (by omega) ho) (fun a o h1 h2 h3=>hold a h2 h1 o h3)
        refine ⟨_,_,B,_,_,?_,hk,.int _ _,g1.more ver,g2.trans (Mono.more ..)⟩
        rw [hrun0]
        simp only
        rw [hst]
        simp [goInt]
        rfl
       ·rw [hB] at hB';cases hB'
    ·exact hK.elim
  ·exact hK.elim
 ·exact hK.elim
end Go.Ab
