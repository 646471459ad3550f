/- Renamed instructions and frames: the reference. -/
import Derived.Test.YtbclepldghjacaaGreatA4
set_option linter.unusedVariables false
set_option linter.unusedSimpArgs false
namespace Go.Ab
open Go.Proofs
set_option maxRecDepth 100000
set_option maxHeartbeats 4000000

noncomputable def lvW (o:DO) (i:Nat):Nat→Nat:=wordsP (LiveP o i)
theorem lvW_lt (o:DO) (i:Nat):∀ q,lvW o i q<18446744073709551616:=wordsP_lt _
noncomputable def meets (o:DO) (d:Int) (W:Nat→Nat→Nat) (l:List Int):Nat→Nat→Nat:=l.foldl (fun W k=>meetW W (lvW o k.toNat) [d]) W
noncomputable def togI (o:DO) (i:Nat) (W:Nat→Nat→Nat):Nat→Nat→Nat :=
 if setsB (o.irs.getD i default).op=true then meets o (o.irs.getD i default).d (meetW (meetW W (lvW o i) (listW (lvW o i) 250)) (lvW o i) [(o.irs.getD i default).d]) (goesL (o.irs.getD i default) i)
 else meetW W (lvW o i) (listW (lvW o i) 250)
noncomputable def togW (o:DO):Nat→Nat→Nat→Nat
 | 0=>fun _ _=>0
 | k+1=>togI o k (togW o k)
theorem meets_snoc (o:DO) (d:Int) (W:Nat→Nat→Nat) (l:List Int) (k:Int):meets o d W (l++[k])=meetW (meets o d W l) (lvW o k.toNat) [d]:=by
 unfold meets;rw [List.foldl_append];rfl
theorem meets_lt (o:DO) (d:Int) {W:Nat→Nat→Nat} (h:∀ a q,W a q<18446744073709551616) (l:List Int):∀ a q,meets o d W l a q<18446744073709551616:=by
 unfold meets
 induction l generalizing W with
 | nil=>exact h
 | cons k l ih=>exact ih (meetW_lt h (lvW_lt o _) _)
theorem togW_lt (o:DO):∀ k a q,togW o k a q<18446744073709551616
 | 0=>fun _ _=>by show 0<_;decide
 | k+1=>by
  unfold togW togI
  split
  ·exact meets_lt o _ (meetW_lt (meetW_lt (togW_lt o k) (lvW_lt o _) _) (lvW_lt o _) _) _
  ·exact meetW_lt (togW_lt o k) (lvW_lt o _) _
theorem FlH.useR {o:DO} (H:FlH o) {i:Nat} (hi:i<o.irs.length):∀ r∈usedL (o.irs.getD i default) (o.descs.getD i [])++usesL (o.descs.getD i []),r<o.regs:=fun r hm=>by
 have hsh:=H.sh i hi
 simp only [shapedX,Bool.and_eq_true,decide_eq_true_eq,Bool.not_eq_true'] at hsh
 obtain ⟨s1,s2,s3,s4,s5,s6,s7⟩:=hsh
 have hb:∀ {l},badL o l=false→r∈l→r<o.regs:=fun h1 h2=>by
  have h3:=List.any_eq_false.1 h1 r h2
  simp only [regB,Bool.not_eq_true',Bool.not_eq_false,Bool.and_eq_true,decide_eq_true_eq] at h3
  omega
 rcases List.mem_append.1 hm with h|h
 ·exact hb s5 h
 ·exact hb s7 h
theorem FlH.dR {o:DO} (H:FlH o) {i:Nat} (hi:i<o.irs.length) (hs:setsB (o.irs.getD i default).op=true):0≤(o.irs.getD i default).d∧(o.irs.getD i default).d<o.regs:=by
 have hsh:=H.sh i hi
 simp only [shapedX,Bool.and_eq_true,decide_eq_true_eq,Bool.not_eq_true'] at hsh
 obtain ⟨s1,s2,s3,s4,s5,s6,s7⟩:=hsh
 rw [hs] at s6
 simp only [Bool.not_true,Bool.false_or,regB,Bool.and_eq_true,decide_eq_true_eq] at s6
 omega
theorem LiveP.lt {o:DO} (H:FlH o) {i r:Nat} (h:LiveP o i r):(r:Int)<o.regs∧i<o.irs.length:=by
 induction h with
 | use hi hu=>exact ⟨H.useR hi _ hu,hi⟩
 | step hi _ _ _ ih=>exact ⟨ih.1,hi⟩
theorem list_lt {o:DO} (H:FlH o) (i:Nat):∀ r∈listW (lvW o i) 250,0≤r∧r<((o.regs.toNat:Nat):Int):=fun r hr=>by
 obtain ⟨q,h1,h2,rfl⟩:=mem_listW.1 hr
 have:=((bit_wordsP _ _).1 h2:LiveP o i q).lt H
 omega

theorem mk_setF (s:Nat→Nat):mkV Tryz.prog 68 (fun j => .int .u64 (s j)) 0=aggW s:=by
 show PV.agg (List.map _ (List.range (Tryz.prog.cellsOf 68)))=_
 rw [show Tryz.prog.cellsOf 68=4 by kernel_rfl];rfl
theorem mk_setsF (o:DO) (lv:PV) (op:Int) {off:Nat} (h:1≤op∧op≤16) (hoff:off=12+op.toNat*4+1):mkV Tryz.prog 4 (codeC o lv) off = .bool (setsB op):=by
 subst hoff
 have key:∀ n:Nat,1≤n∧n≤16→mkV Tryz.prog 4 (codeC o lv) (12+n*4+1) = .bool (setsB (n:Int)):=by
  intro n hn
  rcases (by omega:n=1∨n=2∨n=3∨n=4∨n=5∨n=6∨n=7∨n=8∨n=9∨n=10∨n=11∨n=12∨n=13∨n=14∨n=15∨n=16) with rfl|rfl|rfl|rfl|rfl|rfl|rfl|rfl|rfl|rfl|rfl|rfl|rfl|rfl|rfl|rfl <;> rfl
 have h2:=key op.toNat (by omega)
 rw [Int.toNat_of_nonneg (by omega)] at h2
 exact h2
theorem one_view {hp:Hp} {r:RId} {v k:Nat} {f:Nat→Nat→PV} {x:Int} (h:lkH hp r=some ⟨v,.own 1 1 f⟩) (e:view k hp (f 0 0)=f 0 0) (hx:NEq (f 0 0) (.int .i64 x)):NEq (view (k+1) hp (.ref r v [] 1 0 1)) (ints [x]):=by
 rw [view,h]
 simp only [if_true,getAt]
 refine NEq.frzs rfl rfl fun i q hi hq=>?_
 obtain rfl:i=0:=by simp at hi;omega
 obtain rfl:q=0:=by omega
 rw [Nat.zero_add,e]
 exact hx
theorem KpR_owW {hs:Hp} {r id:RId} {v ver n:Nat} {W:Nat→Nat→Nat}:KpR none hs r v id ver (owW n W) (owW n W) :=
 .own fun i o hi ho => .leaf rfl rfl (.view (.refl _))
theorem keepS_own {L:Hp} {r:RId} {v n:Nat} {W:Nat→Nat→Nat} (h:lkH L r=some ⟨v,owW n W⟩):keepS (fun id ver => .ref id ver [] 4 0 n) (owW n W) (.ref r v [] 4 0 n) L :=
 .inl ⟨r,v,_,h,setH L r none,fun j=>lookH_setH L r j none,fun id ver=>⟨.refs rfl rfl rfl,KpR_owW⟩⟩
theorem together_spec (o:DO) (H:FlH o) (hr1:1≤o.regs):CallsO Tryz.prog 41 [codeP o (frW o.irs.length fun i=>wordsP (LiveP o i))] (owW o.regs.toNat (togW o o.irs.length)) (fun id ver => .ref id ver [] 4 0 o.regs.toNat):=by
 have hil:o.irs.length≤6000:=by have:=H.hf;unfold fewN at this;omega
 have hrr:=H.hr
 obtain ⟨n,hn⟩:∃ n:Nat,o.regs=(n:Int):=⟨o.regs.toNat,(Int.toNat_of_nonneg (by omega)).symm⟩
 have hnt:o.regs.toNat=n:=by omega
 rw [hnt]
 have hlw:∀ i,∀ r∈listW (lvW o i) 250,0≤r∧r<(n:Int):=fun i r hr=>by have:=list_lt H i r hr;omega
 refine callsO_ofS mx Tryz.call41 Tryz.func41 rfl Tryz.ntmps41 Tryz.results41 (by kernel_rfl) (by simp) fun lo=>?_
 repeat'(first|refine vcI ?_|refine And.intro ?_ ?_|(intro hq;(try simp at hq);(try(exfalso;omega));(try(revert hq;intro))))
 ·rw [show Tryz.prog.bytesOf 68=32 by kernel_rfl,hn];omega
 ·rfl
 rw [hn]
 refine Exists.intro (owW n fun _ _=>0) (And.intro ?_ (And.intro rfl ?_))
 ·refine NEq.owns rfl (by simp) fun i q hi hq=>?_
  rcases (by have:q<4:=hq;omega:q=0∨q=1∨q=2∨q=3) with rfl|rfl|rfl|rfl <;> exact .refl _
 repeat'(first|refine vcI ?_|refine And.intro ?_ ?_|(intro hq;(try simp at hq);(try(exfalso;omega));(try(revert hq;intro))))
 obtain ⟨cl,hcl⟩:∃ cl:Nat→PV,cl=fun vo => .func (.func 87) [] [.ptr (1,3) vo [] 0 0]:=⟨_,rfl⟩
 refine loopS3 mx (by decide) (by kernel_rfl) (fun (k v vo:Nat)=>k≤o.irs.length) (fun k v vo=>[(22,.int .i64 k),(21,.int .i64 o.irs.length),(20,dis o.irs),(4,.func (.func 87) [] [.ptr (1,3) vo [] 0 0]),(3,.ptr (1,3) vo [] 0 0),(0,codeP o (frW o.irs.length fun i=>wordsP (LiveP o i)))]) (fun k v vo=>mem50 n v vo (togW o k)) (fun k v vo=>o.irs.length - k) 0 _ _ (by simp) ⟨by ((repeat' apply And.intro) <;> (first|exact True.intro|exact NEq.refl _|(refine NEq.int ?_;first|exact rfl|omega|(rw [wrapI (by omega)];first|exact rfl|omega)))),⟨⟨rfl,.refl _⟩,⟨rfl,.obox ?_⟩,trivial⟩,.nil⟩ ?_
 ·intro q hq
  obtain rfl:q=0:=by have:q<1:=hq;omega
  exact NEq.refs rfl rfl rfl
 intro k v vo nv hk
 repeat'(first|refine vcI ?_|refine And.intro ?_ ?_|(intro hq;(try simp at hq);(try(exfalso;omega));(try(revert hq;intro))))
 ·have hkl:k<o.irs.length:=by assumption
  rw [show Tryz.prog.cellsOf 58=16 by kernel_rfl]
  refine QS.ownInts [.fptr 4 (setC (lvW o k)) 0] (listW (lvW o k) 250) (setList_spec _ (lvW_lt o k)) (LeL.cons (.refl _) LeL.nil) ?_
  repeat'(first|refine vcI ?_|refine And.intro ?_ ?_|(intro hq;(try simp at hq);(try(exfalso;omega));(try(revert hq;intro))))
  refine CallS.onD (L0:=mem50 n v vo (togW o k)) (M1:=[((1,34),⟨_,oints (listW (lvW o k) 250)⟩)]) (n:=2) (m:=1) ⟨rfl,rfl,trivial⟩ ⟨rfl,trivial⟩ (Above.chk rfl Above.nil) Above.nil rfl rfl (seenL.cons (.view (view_ints (k:=7) rfl rfl)) (seenL.cons (.same (NEq.of_eq (mk_setF (lvW o k)))) (seenL.cons (.same (.refl _)) seenL.nil)))
   (fun S' hS'=>meet_spec n (by omega) (togW o k) (lvW o k) (togW_lt o k) (lvW_lt o k) (listW (lvW o k) 250) (by have:=listW_len (lvW o k) 250;omega) (hlw k) (fun r hr=>(hlw k r hr).2) v vo _ S' hS') ?_
  rintro x L' nv' ⟨rfl,rfl⟩
  have hop:=H.op hkl
  repeat'(first|refine vcI ?_|refine And.intro ?_ ?_|(intro hq;(try simp at hq);(try(exfalso;omega));(try(revert hq;intro))))
  ·show 0≤(o.irs.getD k default).op;omega
  ·show (o.irs.getD k default).op<_;omega
  ·rw [cRow];decide
  ·rw [cRow];show 0+12+(o.irs.getD k default).op.toNat*4+1≤81;omega
  ·show 0+12+(o.irs.getD k default).op.toNat*Tryz.prog.cellsOf 71+1+Tryz.prog.cellsOf 4≤81
   rw [cRow,show Tryz.prog.cellsOf 4=1 by kernel_rfl];omega
  ·rw [show Tryz.prog.cellsOf 4=1 by kernel_rfl];decide
  rw [mk_setsF o _ (o.irs.getD k default).op hop (by rw [cRow];show 0+12+(o.irs.getD k default).op.toNat*4+1=_;omega)]
  have hwk:IntKind.i64.wrap ((k:Int)+1)=((k+1:Nat):Int):=wrapI (by omega)
  repeat'(first|refine vcI ?_|refine And.intro ?_ ?_|(intro hq;(try simp at hq);(try(exfalso;omega));(try(revert hq;intro))))
  ·have hsf:setsB (o.irs.getD k default).op=false:=by assumption
   refine Exists.intro (k+1,v,vo) ⟨by dsimp only;omega,(by first|omega|(dsimp only;omega)),⟨by ((repeat' apply And.intro) <;> (first|exact True.intro|exact NEq.refl _|(refine NEq.int ?_;first|exact rfl|omega|(rw [wrapI (by omega)];first|exact rfl|omega)))),⟨⟨rfl,?_⟩,⟨rfl,.refl _⟩,trivial⟩,.nil⟩⟩
   show NEq _ (owW n (togI o k (togW o k)))
   unfold togI
   rw [hsf,if_neg (by simp)]
   exact .refl _
  ·have hst:setsB (o.irs.getD k default).op=true:=by assumption
   have hd:=H.dR hkl hst
   have hd1:∀ r∈[(o.irs.getD k default).d],0≤r∧r<(n:Int):=fun r hr=>by rw [List.mem_singleton] at hr;subst hr;omega
   obtain ⟨W1,hW1⟩:∃ W1,W1=meetW (togW o k) (lvW o k) (listW (lvW o k) 250):=⟨_,rfl⟩
   have hW1l:∀ a q,W1 a q<18446744073709551616:=by rw [hW1];exact meetW_lt (togW_lt o k) (lvW_lt o k) _
   rw [← hW1]
   refine CallS.onD (L0:=mem50 n v vo W1) (M1:=[((1,55),⟨_,_⟩)]) (n:=2) (m:=1) ⟨rfl,rfl,trivial⟩ ⟨rfl,trivial⟩ (Above.chk rfl Above.nil) Above.nil rfl rfl (seenL.cons (.view (one_view rfl rfl (.refl _))) (seenL.cons (.same (NEq.of_eq (mk_setF (lvW o k)))) (seenL.cons (.same (.refl _)) seenL.nil)))
    (fun S' hS'=>meet_spec n (by omega) W1 (lvW o k) hW1l (lvW_lt o k) [(o.irs.getD k default).d] (by simp) hd1 (fun r hr=>(hlw k r hr).2) v vo _ S' hS') ?_
   rintro x L' nv' ⟨rfl,rfl⟩
   repeat'(first|refine vcI ?_|refine And.intro ?_ ?_|(intro hq;(try simp at hq);(try(exfalso;omega));(try(revert hq;intro))))
   refine CallS.nexts o (frW o.irs.length fun i=>wordsP (LiveP o i)) k hkl hil hop (LeL.cons (.refl _) (LeL.cons (.refl _) LeL.nil)) ?_
   repeat'(first|refine vcI ?_|refine And.intro ?_ ?_|(intro hq;(try simp at hq);(try(exfalso;omega));(try(revert hq;intro))))
   obtain ⟨g,hg⟩:∃ g,g=goesL (o.irs.getD k default) k:=⟨_,rfl⟩
   obtain ⟨pd,hpd⟩:∃ pd,pd=padL (o.irs.getD k default) k:=⟨_,rfl⟩
   have hgl:g.length≤2:=by rw [hg];exact goesL_len _ _
   have hgk:∀ j,j<g.length→0≤(g++pd).getD j 0∧(g++pd).getD j 0<(o.irs.length:Int):=fun j hj=>by
    rw [getD_app0 _ _ hj]
    have hm:g.getD j 0∈goesL (o.irs.getD k default) k:=by rw [← hg,List.getD_eq_getElem?_getD];exact getD_mem _ hj
    exact H.go k hkl _ hm
   obtain ⟨W2,hW2⟩:∃ W2,W2=meetW W1 (lvW o k) [(o.irs.getD k default).d]:=⟨_,rfl⟩
   have hW2l:∀ a q,W2 a q<18446744073709551616:=by rw [hW2];exact meetW_lt hW1l (lvW_lt o k) _
   rw [← hg,← hpd,← hW2]
   refine loopS3 mx (by decide) (by kernel_rfl) (fun (j v6 v66:Nat)=>j≤g.length) (fun j v6 v66=>[(68,.int .i64 j),(67,.int .i64 g.length),(66,.ref (1,66) v66 [] 1 0 g.length),(6,.ptr (1,6) v6 [] 0 0),(22,.int .i64 k),(21,.int .i64 o.irs.length),(20,dis o.irs),(4,.func (.func 87) [] [.ptr (1,3) vo [] 0 0]),(3,.ptr (1,3) vo [] 0 0),(0,codeP o (frW o.irs.length fun i=>wordsP (LiveP o i)))]) (fun j v6 v66=>((1,66),⟨v66,oints (g++pd)⟩)::((1,6),⟨v6,.obox 16 (rowL (dil (o.irs.getD k default)))⟩)::mem50 n v vo (meets o (o.irs.getD k default).d W2 (g.take j))) (fun j v6 v66=>g.length - j) 0 _ _ (by simp) ⟨by ((repeat' apply And.intro) <;> (first|exact True.intro|exact NEq.refl _|(refine NEq.int ?_;first|exact rfl|omega|(rw [wrapI (by omega)];first|exact rfl|omega)))),⟨⟨rfl,.refl _⟩,⟨rfl,.obox ?_⟩,⟨rfl,.refl _⟩,⟨rfl,.refl _⟩,trivial⟩,.nil⟩ ?_
   ·intro q hq
    have hq':q<16:=hq
    rcases (by omega:q=0∨q=1∨q=2∨q=3∨q=4∨q=5∨q=6∨q=7∨q=8∨q=9∨q=10∨q=11∨q=12∨q=13∨q=14∨q=15) with rfl|rfl|rfl|rfl|rfl|rfl|rfl|rfl|rfl|rfl|rfl|rfl|rfl|rfl|rfl|rfl <;> exact .refl _
   intro j v6 v66 nv hj
   have hwj:IntKind.i64.wrap ((j:Int)+1)=((j+1:Nat):Int):=wrapI (by omega)
   repeat'(first|refine vcI ?_|refine And.intro ?_ ?_|(intro hq;(try simp at hq);(try(exfalso;omega));(try(revert hq;intro))))
   ·have h1:=hgk j (by assumption);rw [show 0+(j:Int).toNat=j by omega];exact h1.1
   ·have h1:=hgk j (by assumption);rw [show 0+(j:Int).toNat=j by omega];exact h1.2
   ·have hjl:j<g.length:=by assumption
    obtain ⟨W3,hW3⟩:∃ W3,W3=meets o (o.irs.getD k default).d W2 (g.take j):=⟨_,rfl⟩
    have hW3l:∀ a q,W3 a q<18446744073709551616:=by rw [hW3];exact meets_lt o _ hW2l _
    rw [← hW3]
    refine CallS.onD (L0:=mem50 n v vo W3) (M1:=[((1,75),⟨_,_⟩)]) (n:=2) (m:=1) ⟨rfl,rfl,trivial⟩ ⟨rfl,trivial⟩ (Above.chk rfl Above.nil) Above.nil rfl rfl (seenL.cons (.view (one_view rfl rfl (.refl _))) (seenL.cons (.same (NEq.of_eq (mk_setF (lvW o ((g++pd).getD (0+(j:Int).toNat) 0).toNat)))) (seenL.cons (.same (.refl _)) seenL.nil)))
     (fun S' hS'=>meet_spec n (by omega) W3 (lvW o ((g++pd).getD (0+(j:Int).toNat) 0).toNat) hW3l (lvW_lt o _) [(o.irs.getD k default).d] (by simp) hd1 (fun r hr=>(hlw _ r hr).2) v vo _ S' hS') ?_
    rintro x L' nv' ⟨rfl,rfl⟩
    repeat'(first|refine vcI ?_|refine And.intro ?_ ?_|(intro hq;(try simp at hq);(try(exfalso;omega));(try(revert hq;intro))))
    refine Exists.intro (j+1,v6,v66) ⟨by dsimp only;omega,(by first|omega|(dsimp only;omega)),⟨by ((repeat' apply And.intro) <;> (first|exact True.intro|exact NEq.refl _|(refine NEq.int ?_;first|exact rfl|omega|(rw [wrapI (by omega)];first|exact rfl|omega)))),⟨⟨rfl,.refl _⟩,⟨rfl,.refl _⟩,⟨rfl,?_⟩,⟨rfl,.refl _⟩,trivial⟩,.nil⟩⟩
    show NEq _ (owW n (meets o (o.irs.getD k default).d W2 (g.take (j+1))))
    rw [take_succD 0 hjl,meets_snoc,← hW3,show 0+(j:Int).toNat=j by omega,getD_app0 _ _ hjl]
    exact .refl _
   ·obtain rfl:j=g.length:=by omega
    repeat'(first|refine vcI ?_|refine And.intro ?_ ?_|(intro hq;(try simp at hq);(try(exfalso;omega));(try(revert hq;intro))))
    refine Exists.intro (k+1,v,vo) ⟨by dsimp only;omega,(by first|omega|(dsimp only;omega)),⟨by ((repeat' apply And.intro) <;> (first|exact True.intro|exact NEq.refl _|(refine NEq.int ?_;first|exact rfl|omega|(rw [wrapI (by omega)];first|exact rfl|omega)))),⟨⟨rfl,?_⟩,⟨rfl,.refl _⟩,trivial⟩,.nil⟩⟩
    show NEq _ (owW n (togI o k (togW o k)))
    unfold togI
    rw [if_pos hst,List.take_length,← hW1,← hW2,← hg]
    exact .refl _
 ·obtain rfl:k=o.irs.length:=by omega
  exact keepS_own rfl
end Go.Ab
namespace Go.Ab
open Go.Proofs
set_option maxRecDepth 100000
set_option maxHeartbeats 4000000

def pairF (r:Nat) (l:List Int):List (Int × Int):=(l.filter fun q=>decide ((r:Int)<q)).map fun q=>((r:Int),q)
noncomputable def colT (o:DO):Nat→Nat→Nat:=togW o o.irs.length
noncomputable def collK (o:DO) (k:Nat):List (Int × Int):=(List.range k).flatMap fun r=>pairF r (listW (colT o r) 250)
noncomputable def collL (o:DO):List (Int × Int):=collK o o.regs.toNat
theorem collK_succ (o:DO) (k:Nat):collK o (k+1)=collK o k++pairF k (listW (colT o k) 250):=by
 unfold collK;rw [List.range_succ,List.flatMap_append];simp
theorem pairF_snoc (r:Nat) (l:List Int) (q:Int):pairF r (l++[q])=pairF r l++(if (r:Int)<q then [((r:Int),q)] else []):=by
 unfold pairF
 rw [List.filter_append,List.map_append]
 congr 1
 by_cases h:(r:Int)<q <;> simp [h]
theorem collK_len (o:DO):∀ k,(collK o k).length≤250*k
 | 0=>by simp [collK]
 | k+1=>by
  have ih:=collK_len o k
  have h1:=listW_len (colT o k) 250
  have h2:(pairF k (listW (colT o k) 250)).length≤(listW (colT o k) 250).length:=by unfold pairF;rw [List.length_map];exact List.length_filter_le _ _
  rw [collK_succ,List.length_append]
  omega
theorem mem_pairF {r:Nat} {l:List Int} {p:Int × Int}:p∈pairF r l↔p.1=r∧p.2∈l∧p.1<p.2:=by
 obtain ⟨a,b⟩:=p
 simp only [pairF,List.mem_map,List.mem_filter,decide_eq_true_eq,Prod.mk.injEq]
 constructor
 ·rintro ⟨q,⟨h1,h2⟩,rfl,rfl⟩;exact ⟨rfl,h1,h2⟩
 ·rintro ⟨rfl,h1,h2⟩;exact ⟨b,⟨h1,h2⟩,rfl,rfl⟩
theorem mem_collK {o:DO} {k:Nat} {p:Int × Int}:p∈collK o k↔∃ r:Nat,r<k∧p.1=r∧p.2∈listW (colT o r) 250∧p.1<p.2:=by
 unfold collK
 simp only [List.mem_flatMap,List.mem_range,mem_pairF]

theorem pairs_spec (o:DO) (lv:PV):CallsF Tryz.prog 36 [codeP o lv] (.func (.func 83) [] [.fptr 1 (fun _=>codeP o lv) 0]):=by
 refine callsF_ofS mx Tryz.call36 Tryz.func36 rfl Tryz.ntmps36 Tryz.results36 (by kernel_rfl) (by simp) fun lo=>?_
 repeat'(first|refine vcI ?_|refine And.intro ?_ ?_|(intro hq;(try simp at hq);(try(exfalso;omega));(try(revert hq;intro))))
 refine NEq.clos (NEq.fptr fun q hq=>?_)
 obtain rfl:q=0:=by omega
 exact .refl _

theorem pairs1_spec (o:DO) (H:FlH o) (hr1:1≤o.regs) (id:RId) (v nv0:Nat) (L0 S:Hp) (hS:Above 2 S) (Inv Brk:List (Int × Int)→Hp→Prop) (h0:Inv [] L0) (hnd:∀ p L,Inv p L∨Brk p L→(L.map (·.1)).Nodup∧Above 2 L)
  (hst:∀ S' pre L nv a b,Inv pre L→(a,b)∈collL o→pre.length≤100000→YieldS Tryz.prog S' id v [.agg [.int .i64 a,.int .i64 b]] L nv fun y L' _=>(y = .bool true∧Inv (pre++[(a,b)]) L')∨(y = .bool false∧Brk (pre++[(a,b)]) L')) :
  CallsA Tryz.prog 83 [.sref .loop id v,.fptr 1 (fun _=>codeP o (frW o.irs.length fun i=>wordsP (LiveP o i))) 0] (L0++S) nv0 fun _ hp' _=>∃ L',hp'=L'++S∧(Inv (collL o) L'∨∃ pre,Brk pre L'):=by
 have hrr:=H.hr
 obtain ⟨n,hn⟩:∃ n:Nat,o.regs=(n:Int):=⟨o.regs.toNat,(Int.toNat_of_nonneg (by omega)).symm⟩
 have hnt:o.regs.toNat=n:=by omega
 have htg:=together_spec o H hr1
 rw [hnt] at htg
 refine callsA_ofS (lv:=2) (by decide) mx Tryz.call83 Tryz.func83 rfl Tryz.ntmps83 Tryz.results83 (by kernel_rfl) (by simp) fun lo=>?_
 repeat'(first|refine vcI ?_|refine And.intro ?_ ?_|(intro hq;(try simp at hq);(try(exfalso;omega));(try(revert hq;intro))))
 refine CallS.own (owW n (colT o)) (fun id ver => .ref id ver [] 4 0 n) htg (plainAll rfl) ?_
 have hd0:=hnd [] L0 (.inl h0)
 rw [delS_id (hd0.2 2 8 (Nat.le_refl _))]
 repeat'(first|refine vcI ?_|refine And.intro ?_ ?_|(intro hq;(try simp at hq);(try(exfalso;omega));(try(revert hq;intro))))
 refine loopS3 mx (by decide) (by kernel_rfl) (fun (k:Nat) (L:Hp) (v8:Nat)=>k≤n∧Inv (collK o k) L) (fun k L v8=>[(10,.int .i64 k),(9,.int .i64 n),(8,.ref (2,8) v8 [] 4 0 n),(0,.sref .loop id v)]) (fun k L v8=>((2,8),⟨v8,owW n (colT o)⟩)::L) (fun k L v8=>n - k) 0 L0 _ ⟨by simp,by simpa [collK] using h0⟩ ⟨by ((repeat' apply And.intro) <;> (first|exact True.intro|exact NEq.refl _|(refine NEq.int ?_;first|exact rfl|omega|(rw [wrapI (by omega)];first|exact rfl|omega)))),⟨⟨rfl,.refl _⟩,.tail (own:=[_]) hd0.1 hd0.2 rfl⟩,.tail (own:=[_]) (own':=[_]) hS rfl⟩ ?_
 rintro k L v8 nv ⟨hk,hI⟩
 have hd:=hnd _ _ (.inl hI)
 have no:∀ d,lkH L (2,d)=none:=fun d=>hd.2 2 d (Nat.le_refl _)
 have hwk:IntKind.i64.wrap ((k:Int)+1)=((k+1:Nat):Int):=wrapI (by omega)
 repeat'(first|refine vcI ?_|refine And.intro ?_ ?_|(intro hq;(try simp at hq);(try(exfalso;omega));(try(revert hq;intro))))
 ·have hkn:k<n:=by assumption
  refine wrB ?_
  rw [delS_id (lkH_tl (no 4) rfl)]
  repeat'(first|refine vcI ?_|refine And.intro ?_ ?_|(intro hq;(try simp at hq);(try(exfalso;omega));(try(revert hq;intro))))
  refine wrB ?_
  rw [delS_hd,delS_id (lkH_tl (no 4) rfl)]
  repeat'(first|refine vcI ?_|refine And.intro ?_ ?_|(intro hq;(try simp at hq);(try(exfalso;omega));(try(revert hq;intro))))
  have hcl:∀ q,colT o k q<18446744073709551616:=togW_lt o _ k
  have ek:0+(k:Int).toNat=k:=by omega
  refine CallS.ownInts [.fptr 4 (setC (colT o (0+(k:Int).toNat))) 0] (listW (colT o (0+(k:Int).toNat)) 250) (setList_spec _ (togW_lt o _ _)) (LeL.cons (view_box (k:=8) rfl ?_) LeL.nil) ?_
  ·intro q hq
   rcases (by have:q<4:=hq;omega:q=0∨q=1∨q=2∨q=3) with rfl|rfl|rfl|rfl <;> exact .refl _
  rw [ek]
  rw [delS_id (lkH_tl (lkH_tl (no 15) rfl) rfl)]
  repeat'(first|refine vcI ?_|refine And.intro ?_ ?_|(intro hq;(try simp at hq);(try(exfalso;omega));(try(revert hq;intro))))
  obtain ⟨l,hl⟩:∃ l,l=listW (colT o k) 250:=⟨_,rfl⟩
  have hlen:l.length≤250:=by rw [hl];exact listW_len _ _
  rw [← hl]
  refine loopS4 mx (by decide) (by kernel_rfl) (fun (j:Nat) (L:Hp) (v15 v8:Nat)=>j≤l.length∧Inv (collK o k++pairF k (l.take j)) L) (fun j L v15 v8=>[(17,.int .i64 j),(16,.int .i64 l.length),(15,.ref (2,15) v15 [] 1 0 l.length),(3,.int .i64 k),(10,.int .i64 k),(9,.int .i64 n),(8,.ref (2,8) v8 [] 4 0 n),(0,.sref .loop id v)]) (fun j L v15 v8=>((2,15),⟨v15,oints l⟩)::((2,8),⟨v8,owW n (colT o)⟩)::L) (fun j L v15 v8=>l.length - j) 0 L _ v8 ⟨by simp,by simpa [pairF] using hI⟩ ⟨by ((repeat' apply And.intro) <;> (first|exact True.intro|exact NEq.refl _|(refine NEq.int ?_;first|exact rfl|omega|(rw [wrapI (by omega)];first|exact rfl|omega)))),⟨⟨rfl,.refl _⟩,⟨rfl,.refl _⟩,.tail (own:=[_,_,_]) hd.1 hd.2 rfl⟩,.tail (own:=[_,_,_]) (own':=[_,_]) hS rfl⟩ ?_
  rintro j L v15 v8 nv ⟨hj,hI⟩
  have hd:=hnd _ _ (.inl hI)
  have no:∀ d,lkH L (2,d)=none:=fun d=>hd.2 2 d (Nat.le_refl _)
  have hwj:IntKind.i64.wrap ((j:Int)+1)=((j+1:Nat):Int):=wrapI (by omega)
  repeat'(first|refine vcI ?_|refine And.intro ?_ ?_|(intro hq;(try simp at hq);(try(exfalso;omega));(try(revert hq;intro))))
  ·have hjl:j<l.length:=by assumption
   have ej:0+(j:Int).toNat=j:=by omega
   have hlt:(k:Int)<l.getD (0+(j:Int).toNat) 0:=by rw [ej];assumption
   have hgt:decide (l.getD (0+(j:Int).toNat) 0>(k:Int))=true:=decide_eq_true hlt
   have hmem:((k:Int),l.getD (0+(j:Int).toNat) 0)∈collL o:=mem_collK.2 ⟨k,by omega,rfl,by rw [ej,List.getD_eq_getElem?_getD,← hl];exact getD_mem _ hjl,hlt⟩
   have esn:pairF k (l.take (j+1))=pairF k (l.take j)++[((k:Int),l.getD (0+(j:Int).toNat) 0)]:=by
    rw [take_succD 0 hjl,pairF_snoc,ej,if_pos (by rw [← ej];exact hlt)]
   have hpl:(collK o k++pairF k (l.take j)).length≤100000:=by
    have h1:=collK_len o k
    have h2:(pairF k (l.take j)).length≤(l.take j).length:=by unfold pairF;rw [List.length_map];exact List.length_filter_le _ _
    rw [List.length_append]
    rw [List.length_take] at h2
    omega
   rw [hgt]
   refine YieldS.frame (own:=[((2,15),_),((2,8),_)]) hd.2 rfl (hst _ _ _ _ (k:Int) (l.getD (0+(j:Int).toNat) 0) hI hmem hpl) ?_
   rintro y L1 nv1 (⟨rfl,hI1⟩|⟨rfl,hB1⟩)
   ·have hd1:=hnd _ _ (.inl hI1)
    refine ⟨hd1.2,?_⟩
    repeat'(first|refine vcI ?_|refine And.intro ?_ ?_|(intro hq;(try simp at hq);(try(exfalso;omega));(try(revert hq;intro))))
    exact Exists.intro (j+1,L1,v15,v8) ⟨⟨by dsimp only;omega,by dsimp only;rw [esn,← List.append_assoc];exact hI1⟩,(by first|omega|(dsimp only;omega)),⟨by ((repeat' apply And.intro) <;> (first|exact True.intro|exact NEq.refl _|(refine NEq.int ?_;first|exact rfl|omega|(rw [wrapI (by omega)];first|exact rfl|omega)))),⟨⟨rfl,.refl _⟩,⟨rfl,.refl _⟩,.tail (own:=[_,_]) hd1.1 hd1.2 rfl⟩,.tail (own:=[_,_]) (own':=[_,_]) hS rfl⟩⟩
   ·have hd1:=hnd _ _ (.inr hB1)
    refine ⟨hd1.2,?_⟩
    repeat'(first|refine vcI ?_|refine And.intro ?_ ?_|(intro hq;(try simp at hq);(try(exfalso;omega));(try(revert hq;intro))))
    exact Exists.intro (PV.tup []) (Exists.intro L1 (And.intro (.inr ⟨_,hB1⟩) (And.intro (.refl _) (And.intro (.tail (own:=[_,_]) hd1.1 hd1.2 rfl) (.tail (own:=[_,_]) (own':=[]) hS rfl)))))
  ·have hjl:j<l.length:=by assumption
   have hle:¬ (k:Int)<l.getD j 0:=by
    have h9:l[j]?.getD 0≤(k:Int):=by assumption
    show ¬ (k:Int)<l[j]?.getD 0
    omega
   have esn:pairF k (l.take (j+1))=pairF k (l.take j):=by
    rw [take_succD 0 hjl,pairF_snoc,if_neg hle,List.append_nil]
   repeat'(first|refine vcI ?_|refine And.intro ?_ ?_|(intro hq;(try simp at hq);(try(exfalso;omega));(try(revert hq;intro))))
   exact Exists.intro (j+1,L,v15,v8) ⟨⟨by dsimp only;omega,by dsimp only;rw [esn];exact hI⟩,(by first|omega|(dsimp only;omega)),⟨by ((repeat' apply And.intro) <;> (first|exact True.intro|exact NEq.refl _|(refine NEq.int ?_;first|exact rfl|omega|(rw [wrapI (by omega)];first|exact rfl|omega)))),⟨⟨rfl,.refl _⟩,⟨rfl,.refl _⟩,.tail (own:=[_,_]) hd.1 hd.2 rfl⟩,.tail (own:=[_,_]) (own':=[_,_]) hS rfl⟩⟩
  ·obtain rfl:j=l.length:=by omega
   repeat'(first|refine vcI ?_|refine And.intro ?_ ?_|(intro hq;(try simp at hq);(try(exfalso;omega));(try(revert hq;intro))))
   exact Exists.intro (k+1,L,v8) ⟨⟨by dsimp only;omega,by dsimp only;rw [collK_succ,← hl];rw [List.take_length] at hI;exact hI⟩,(by first|omega|(dsimp only;omega)),⟨by ((repeat' apply And.intro) <;> (first|exact True.intro|exact NEq.refl _|(refine NEq.int ?_;first|exact rfl|omega|(rw [wrapI (by omega)];first|exact rfl|omega)))),⟨⟨rfl,.refl _⟩,.tail (own:=[_,_]) hd.1 hd.2 rfl⟩,.tail (own:=[_,_]) (own':=[_]) hS rfl⟩⟩
 ·obtain rfl:k=n:=by omega
  exact Exists.intro (PV.tup []) (Exists.intro L (And.intro (.inl (by unfold collL;rw [hnt];exact hI)) (And.intro (.refl _) (And.intro (.tail (own:=[_]) hd.1 hd.2 rfl) (.tail (own:=[_]) (own':=[]) hS rfl)))))
end Go.Ab
namespace Go.Ab
open Go.Proofs
set_option maxRecDepth 100000
set_option maxHeartbeats 1000000

def ColI (o:DO) (i a b:Nat):Prop:=(LiveP o i a∧LiveP o i b)∨(setsB (o.irs.getD i default).op=true ∧
 (((a:Int)=(o.irs.getD i default).d∧(LiveP o i b∨∃ k∈goesL (o.irs.getD i default) i,LiveP o k.toNat b))∨((b:Int)=(o.irs.getD i default).d∧(LiveP o i a∨∃ k∈goesL (o.irs.getD i default) i,LiveP o k.toNat a))))
theorem bit_lvW (o:DO) (i q:Nat):bitW (lvW o i) q=true↔LiveP o i q:=bit_wordsP _ _
theorem bit_meets {o:DO} {d:Int} (hd:0≤d) (W:Nat→Nat→Nat) {a b:Nat} (ha:a<250) (hb:b<250) (l:List Int):bitW (meets o d W l a) b=true↔bitW (W a) b=true∨∃ k∈l,((a:Int)=d∧LiveP o k.toNat b)∨(LiveP o k.toNat a∧(b:Int)=d):=by
 unfold meets
 induction l generalizing W with
 | nil=>simp
 | cons k l ih =>
  rw [List.foldl_cons,ih,bit_meetW _ _ ha (by omega) [d] (by simpa using hd),bit_lvW,bit_lvW]
  simp only [List.mem_cons,List.not_mem_nil,or_false,exists_eq_or_imp]
  constructor
  ·rintro ((h|h|h)|h)
   ·exact .inl h
   ·exact .inr (.inl (.inl h))
   ·exact .inr (.inl (.inr h))
   ·exact .inr (.inr h)
  ·rintro (h|(h|h)|h)
   ·exact .inl (.inl h)
   ·exact .inl (.inr (.inl h))
   ·exact .inl (.inr (.inr h))
   ·exact .inr h
theorem bit_togI {o:DO} (H:FlH o) {i:Nat} (hi:i<o.irs.length) (W:Nat→Nat→Nat) {a b:Nat} (ha:a<250) (hb:b<250):bitW (togI o i W a) b=true↔bitW (W a) b=true∨ColI o i a b:=by
 have h1:bitW (meetW W (lvW o i) (listW (lvW o i) 250) a) b=true↔bitW (W a) b=true∨(LiveP o i a∧LiveP o i b):=by
  rw [bit_meetW _ _ ha (by omega) _ (fun k hk=>(listW_nn k hk).1),mem_listS ha,mem_listS hb,bit_lvW,bit_lvW]
  simp only [or_self]
 unfold togI ColI
 by_cases hs:setsB (o.irs.getD i default).op=true
 ·have hd:=H.d hi hs
  rw [if_pos hs,bit_meets hd.1 _ ha hb,bit_meetW _ _ ha (by omega) _ (by simpa using hd.1),h1,bit_lvW,bit_lvW]
  simp only [List.mem_singleton,hs,true_and]
  constructor
  ·rintro ((( h|h)|⟨h,k⟩|⟨h,k⟩)|⟨x,x1,⟨h,k⟩|⟨h,k⟩⟩)
   ·exact .inl h
   ·exact .inr (.inl h)
   ·exact .inr (.inr (.inl ⟨h,.inl k⟩))
   ·exact .inr (.inr (.inr ⟨k,.inl h⟩))
   ·exact .inr (.inr (.inl ⟨h,.inr ⟨x,x1,k⟩⟩))
   ·exact .inr (.inr (.inr ⟨k,.inr ⟨x,x1,h⟩⟩))
  ·rintro (h|h|⟨h,k|⟨x,x1,k⟩⟩|⟨h,k|⟨x,x1,k⟩⟩)
   ·exact .inl (.inl (.inl h))
   ·exact .inl (.inl (.inr h))
   ·exact .inl (.inr (.inl ⟨h,k⟩))
   ·exact .inr ⟨x,x1,.inl ⟨h,k⟩⟩
   ·exact .inl (.inr (.inr ⟨k,h⟩))
   ·exact .inr ⟨x,x1,.inr ⟨k,h⟩⟩
 ·rw [if_neg hs,h1]
  simp only [hs,false_and,or_false,Bool.false_eq_true]
theorem bit_togW {o:DO} (H:FlH o) {a b:Nat} (ha:a<250) (hb:b<250):∀ k,k≤o.irs.length→(bitW (togW o k a) b=true↔∃ i,i<k∧ColI o i a b)
 | 0,_=>by simp [togW,bitW]
 | k+1,hk=>by
  unfold togW
  rw [bit_togI H (by omega) _ ha hb,bit_togW H ha hb k (by omega)]
  constructor
  ·rintro (⟨i,h1,h2⟩|h)
   ·exact ⟨i,by omega,h2⟩
   ·exact ⟨k,by omega,h⟩
  ·rintro ⟨i,h1,h2⟩
   by_cases e:i=k
   ·subst e;exact .inr h2
   ·exact .inl ⟨i,by omega,h2⟩
def ColP (o:DO) (a b:Nat):Prop:=∃ i,i<o.irs.length∧ColI o i a b
theorem bit_colT {o:DO} (H:FlH o) {a b:Nat} (ha:a<250) (hb:b<250):bitW (colT o a) b=true↔ColP o a b:=bit_togW H ha hb _ (Nat.le_refl _)
theorem ColP.symm {o:DO} {a b:Nat} (h:ColP o a b):ColP o b a:=by
 obtain ⟨i,hi,h|⟨hs,h|h⟩⟩:=h
 ·exact ⟨i,hi,.inl ⟨h.2,h.1⟩⟩
 ·exact ⟨i,hi,.inr ⟨hs,.inr h⟩⟩
 ·exact ⟨i,hi,.inr ⟨hs,.inl h⟩⟩
theorem ColP.lt {o:DO} (H:FlH o) {a b:Nat} (h:ColP o a b):(a:Int)<o.regs∧(b:Int)<o.regs:=by
 obtain ⟨i,hi,h|⟨hs,⟨h1,h2⟩|⟨h1,h2⟩⟩⟩:=h
 ·exact ⟨(h.1.lt H).1,(h.2.lt H).1⟩
 ·have hd:=H.dR hi hs
  refine ⟨by omega,?_⟩
  rcases h2 with h2|⟨k,_,h2⟩
  ·exact (h2.lt H).1
  ·exact (h2.lt H).1
 ·have hd:=H.dR hi hs
  refine ⟨?_,by omega⟩
  rcases h2 with h2|⟨k,_,h2⟩
  ·exact (h2.lt H).1
  ·exact (h2.lt H).1
theorem mem_colT {o:DO} (H:FlH o) {r:Nat} (hr:r<250) {q:Int}:q∈listW (colT o r) 250↔∃ b:Nat,q=b∧ColP o r b:=by
 rw [mem_listW]
 constructor
 ·rintro ⟨b,h1,h2,h3⟩;exact ⟨b,h3,(bit_colT H hr h1).1 h2⟩
 ·rintro ⟨b,h1,h2⟩
  have:=(h2.lt H).2
  have:=H.hr
  exact ⟨b,by omega,(bit_colT H hr (by omega)).2 h2,h1⟩
theorem col_lt {o:DO} (H:FlH o) {r:Nat} (hr:r<250) {q:Int} (h:q∈listW (colT o r) 250):q<o.regs:=by
 obtain ⟨b,rfl,h2⟩:=(mem_colT H hr).1 h
 exact (h2.lt H).2
theorem mem_collL {o:DO} (H:FlH o) (hr1:1≤o.regs) {p:Int × Int}:p∈collL o↔∃ a b:Nat,p=((a:Int),(b:Int))∧a<b∧ColP o a b:=by
 obtain ⟨x,y⟩:=p
 have hr:=H.hr
 unfold collL
 rw [mem_collK]
 constructor
 ·rintro ⟨r,h1,h2,h3,h4⟩
  obtain ⟨b,h5,h6⟩:=(mem_colT H (by omega)).1 h3
  simp only at h2 h4 h5
  subst h2 h5
  exact ⟨r,b,rfl,by omega,h6⟩
 ·rintro ⟨a,b,h1,h2,h3⟩
  cases h1
  have:=h3.lt H
  exact ⟨a,by omega,rfl,(mem_colT H (by omega)).2 ⟨b,rfl,h3⟩,by simpa using h2⟩
end Go.Ab
namespace Go.Ab
open Go.Proofs
set_option maxRecDepth 100000
set_option maxHeartbeats 4000000

def ownB (o:DO) (k i r:Nat):Bool:=decide ((r:Int)∈(ownL o i).take k)
def rowsK (o:DO) (m i:Nat):Nat→Nat→PV:=fun a _=>if a<i then .own 1 m (fun r _ => .bool (ownB o (ownL o a).length a r)) else .nils
def rowsG (o:DO) (m i v:Nat):Nat→Nat→PV:=fun a b=>if a=i then .ref (1,31) v [] 1 0 m else rowsK o m i a b
theorem rowsG_ld (o:DO) (m i v v':Nat):(fun j=>cellV (1,19) v' [] (0+(i:Int).toNat) j (rowsG o m i v (0+(i:Int).toNat) j))=fun _ => .ref (1,31) v [] 1 0 m:=by
 funext j
 rw [show rowsG o m i v (0+(i:Int).toNat) j = .ref (1,31) v [] 1 0 m by simp [rowsG]];rfl
theorem rowsG_put (o:DO) {m i v a b sz k:Nat} (hb:b<1) (hs:sz=1) (hk:k=m):NEq (if a=0+(i:Int).toNat∧0≤b∧b<0+1 then List.getD [PV.ref (1,31) v [] sz 0 k] (b - 0) .undef else rowsK o m i a b) (rowsG o m i v a b):=by
 subst hs hk
 obtain rfl:b=0:=by omega
 unfold rowsG
 by_cases e:a=i
 ·rw [if_pos ⟨by omega,by omega,by omega⟩,if_pos e];exact .refl _
 ·rw [if_neg (fun h=>e (by omega)),if_neg e];exact .refl _
theorem ownB_put (o:DO) {i k r b:Nat} {x:Int} (hk:k<(ownL o i).length) (hx:(ownL o i).getD k 0=x) (h0:0≤x) (hb:b<1):NEq (if r=0+x.toNat∧0≤b∧b<0+1 then List.getD [PV.bool true] (b - 0) .undef else .bool (ownB o k i r)) (.bool (ownB o (k+1) i r)):=by
 obtain rfl:b=0:=by omega
 have e:ownB o (k+1) i r=(ownB o k i r||decide (r=x.toNat)):=by
  unfold ownB
  rw [take_succD 0 hk,hx,← Bool.decide_or]
  congr 1
  simp only [List.mem_append,List.mem_singleton,eq_iff_iff]
  exact or_congr Iff.rfl (by omega)
 rw [e]
 by_cases h:r=x.toNat
 ·rw [if_pos ⟨by omega,by omega,by omega⟩];simp [h];exact .refl _
 ·rw [if_neg (fun h2=>h (by omega))];simp [h];exact .refl _
theorem keepS_bb {L:Hp} {r:RId} {v n m:Nat} {W W':Nat→Nat→Bool} (h:lkH L r=some ⟨v,bbN n m W⟩) (hw:∀ a b,a<n→b<m→W a b=W' a b):keepS (fun id ver => .ref id ver [] 1 0 n) (bbN n m W') (.ref r v [] 1 0 n) L :=
 .inl ⟨r,v,_,h,setH L r none,fun j=>lookH_setH L r j none,fun id ver=>⟨.refs rfl rfl rfl,.own fun a o ha ho => .own fun b o' hb ho' => .leaf rfl rfl (.view (NEq.of_eq (congrArg PV.bool (hw a b ha hb))))⟩⟩
theorem mk_ir (o:DO) (i:Nat):mkV Tryz.prog 58 (fun q=>(dil (o.irs.getD (i:Int).toNat default)).getD q .undef) 0 = .agg (dil (o.irs.getD i default)):=by
 show PV.agg (List.map _ (List.range (Tryz.prog.cellsOf 58)))=_
 rw [show Tryz.prog.cellsOf 58=16 by kernel_rfl];rfl
theorem bb_put {W:Nat→Nat→Bool} {m i r a x:Nat} (hx:x<1):NEq (if a=0+(i:Int).toNat∧x=0 then .own 1 m (fun c b=>if c=0+(r:Int).toNat∧0≤b∧b<0+1 then List.getD [PV.bool true] (b - 0) .undef else .bool (W (0+(i:Int).toNat) c)) else .own 1 m fun c _ => .bool (W a c)) (.own 1 m fun c _ => .bool (setB W i r a c)):=by
 by_cases e:a=i
 ·rw [if_pos ⟨by omega,by omega⟩]
  refine NEq.owns rfl rfl fun c b hc hb=>NEq.of_eq ?_
  obtain rfl:b=0:=by omega
  rw [show 0+(i:Int).toNat=a by omega]
  unfold setB
  by_cases e2:c=r
  ·rw [if_pos ⟨by omega,by omega,by omega⟩,if_pos ⟨e,e2⟩];rfl
  ·rw [if_neg (fun h=>e2 (by omega)),if_neg (fun h=>e2 h.2)]
 ·rw [if_neg (fun h=>e (by omega))]
  refine NEq.owns rfl rfl fun c b hc hb=>NEq.of_eq ?_
  unfold setB
  rw [if_neg (fun h=>e h.1)]
open Classical in
noncomputable def lvB (o:DO) (i r:Nat):Bool:=decide (LiveP o i r)
theorem LiveOf_spec (o:DO) (H:FlH o) (hr1:1≤o.regs):CallsO Tryz.prog 34 [.fptr 12 (rowL (dol o)) 0] (bbN o.irs.length o.regs.toNat (lvB o)) (fun id ver => .ref id ver [] 1 0 o.irs.length):=by
 have hil:o.irs.length≤6000:=by have:=H.hf;unfold fewN at this;omega
 have hrr:=H.hr
 have hd:=H.hd
 obtain ⟨m,hm⟩:∃ m:Nat,o.regs=(m:Int):=⟨o.regs.toNat,(Int.toNat_of_nonneg (by omega)).symm⟩
 have hmt:o.regs.toNat=m:=by omega
 rw [hmt]
 refine callsO_ofS mx Tryz.call34 Tryz.func34 rfl Tryz.ntmps34 Tryz.results34 (by kernel_rfl) (by simp) fun lo=>?_
 repeat'(first|refine vcI ?_|refine And.intro ?_ ?_|(intro hq;(try simp at hq);(try(exfalso;omega));(try(revert hq;intro))))
 ·rw [show Tryz.prog.bytesOf 81=24 by kernel_rfl];omega
 ·rfl
 refine Exists.intro (.own 1 o.irs.length (rowsK o m 0)) (And.intro ?_ (And.intro rfl ?_))
 ·refine NEq.owns rfl (by simp) fun i b hi hb=>?_
  obtain rfl:b=0:=by omega
  exact .refl _
 repeat'(first|refine vcI ?_|refine And.intro ?_ ?_|(intro hq;(try simp at hq);(try(exfalso;omega));(try(revert hq;intro))))
 refine loopGS2 mx (by decide) (by kernel_rfl) (fun (i v4:Nat)=>i≤o.irs.length) (fun i v4=>[(5,.int .i64 i),(4,.ref (1,19) v4 [] 1 0 o.irs.length),(3,.int .i64 o.irs.length),(0,.fptr 12 (rowL (dol o)) 0)]) (fun i v4=>[((1,19),⟨v4,.own 1 o.irs.length (rowsK o m i)⟩)]) (fun i v4=>o.irs.length - i) 0 _ (by simp) ⟨by ((repeat' apply And.intro) <;> (first|exact True.intro|exact NEq.refl _|(refine NEq.int ?_;first|exact rfl|omega|(rw [wrapI (by omega)];first|exact rfl|omega)))),⟨⟨rfl,.refl _⟩,trivial⟩,.nil⟩ ?_
 intro i v4 nv hi
 have hwi:IntKind.i64.wrap ((i:Int)+1)=((i+1:Nat):Int):=wrapI (by omega)
 repeat'(first|refine vcI ?_|refine And.intro ?_ ?_|(intro hq;(try simp at hq);(try(exfalso;omega));(try(revert hq;intro))))
 ·rw [show Tryz.prog.bytesOf 4=1 by kernel_rfl];omega
 ·rfl
 ·have hin:i<o.irs.length:=by assumption
  rw [hm]
  refine Exists.intro (.own 1 m fun r _ => .bool (ownB o 0 i r)) (And.intro ?_ (And.intro rfl ?_))
  ·refine NEq.owns rfl (by simp) fun r b hr hb=>?_
   obtain rfl:b=0:=by omega
   refine NEq.of_eq ?_
   show PV.bool false=PV.bool (ownB o 0 i r)
   simp [ownB]
  repeat'(first|refine vcI ?_|refine And.intro ?_ ?_|(intro hq;(try simp at hq);(try(exfalso;omega));(try(revert hq;intro))))
  ·simp [rowsK];rfl
  refine Exists.intro (.own 1 o.irs.length (rowsG o m i _)) (And.intro (NEq.owns rfl rfl fun a b ha hb=>rowsG_put o hb rfl (by omega)) (And.intro rfl ?_))
  repeat'(first|refine vcI ?_|refine And.intro ?_ ?_|(intro hq;(try simp at hq);(try(exfalso;omega));(try(revert hq;intro))))
  have hx:(o.irs.getD i default).args.length≤1048576:=by
   have hsh:=H.sh i hin
   simp only [shapedX,Bool.and_eq_true,decide_eq_true_eq] at hsh
   omega
  have hfr:frN (o.descs.getD i [])≤6000:=by
   have h1:=sumL_mem (f:=frN) (l:=o.descs) (x:=o.descs.getD i []) (by rw [List.getD_eq_getElem?_getD];exact getD_mem _ (by rw [hd];exact hin))
   have:=H.hf
   unfold fewN at this
   omega
  have hus:=usesL_len [] (o.descs.getD i [])
  have hus2:(usesL (o.descs.getD i [])).length≤30000:=by
   unfold frN at hfr
   unfold usesL
   simp only [List.length_nil] at hus
   omega
  have huu:=usedL_len (o.irs.getD i default) (o.descs.getD i []) hx
  rw [show Tryz.prog.cellsOf 58=16 by kernel_rfl]
  refine QS.own (oints (usedL (o.irs.getD i default) (o.descs.getD i []))) (fun id ver => .ref id ver [] 1 0 (usedL (o.irs.getD i default) (o.descs.getD i [])).length) (Used_spec (o.irs.getD i default) (o.descs.getD i []) hx) (plainAll rfl) ?_
  repeat'(first|refine vcI ?_|refine And.intro ?_ ?_|(intro hq;(try simp at hq);(try(exfalso;omega));(try(revert hq;intro))))
  refine CallS.frozen (ints (usesL (o.descs.getD i []))) (Uses_spec (o.descs.getD i []) hfr) (plainAll rfl) ?_
  repeat'(first|refine vcI ?_|refine And.intro ?_ ?_|(intro hq;(try simp at hq);(try(exfalso;omega));(try(revert hq;intro))))
  ·rfl
  obtain ⟨ul,hul⟩:∃ ul,ul=ownL o i:=⟨_,rfl⟩
  refine Exists.intro (oints ul) (And.intro ?_ (And.intro (shape_ints (by rw [hul];exact List.length_append.symm)) ?_))
  ·rw [hul];exact app_ints rfl rfl (fun i o hi ho=>by (try dsimp only);rw [if_pos hi];exact .refl _) (fun i o hi ho=>by (try dsimp only);rw [if_neg (by omega),Nat.add_sub_cancel_left];(try rw [cellV_pcell]);(try simp only [Nat.zero_add]);exact .refl _)
  rw [show (usedL (o.irs.getD i default) (o.descs.getD i [])).length+(usesL (o.descs.getD i [])).length=ul.length by rw [hul];exact List.length_append.symm]
  repeat'(first|refine vcI ?_|refine And.intro ?_ ?_|(intro hq;(try simp at hq);(try(exfalso;omega));(try(revert hq;intro))))
  have hull:ul.length≤2000000:=by rw [hul];unfold ownL;rw [List.length_append];omega
  have hulr:∀ j,j<ul.length→0≤ul.getD j 0∧ul.getD j 0<(m:Int):=fun j hj=>by
   have h1:ul.getD j 0∈ownL o i:=by rw [← hul,List.getD_eq_getElem?_getD];exact getD_mem _ hj
   have h2:=H.use hin _ h1
   have h3:=H.useR hin _ h1
   omega
  refine loopS4 mx (by decide) (by kernel_rfl) (fun (k v47 v31 v19:Nat)=>k≤ul.length) (fun k v47 v31 v19=>[(7,.int .i64 k),(6,.ref (1,47) v47 [] 1 0 ul.length),(5,.int .i64 i),(4,.ref (1,19) v19 [] 1 0 o.irs.length),(3,.int .i64 o.irs.length),(0,.fptr 12 (rowL (dol o)) 0)]) (fun k v47 v31 v19=>[((1,47),⟨v47,oints ul⟩),((1,31),⟨v31,.own 1 m fun r _ => .bool (ownB o k i r)⟩),((1,19),⟨v19,.own 1 o.irs.length (rowsG o m i v31)⟩)]) (fun k v47 v31 v19=>ul.length - k) 0 _ _ _ (by simp) ⟨by ((repeat' apply And.intro) <;> (first|exact True.intro|exact NEq.refl _|(refine NEq.int ?_;first|exact rfl|omega|(rw [wrapI (by omega)];first|exact rfl|omega)))),⟨⟨rfl,.refl _⟩,⟨rfl,.refl _⟩,⟨rfl,.refl _⟩,trivial⟩,.nil⟩ ?_
  intro k v47 v31 v19 nv hk
  have hwk:IntKind.i64.wrap ((k:Int)+1)=((k+1:Nat):Int):=wrapI (by omega)
  repeat'(first|refine vcI ?_|refine And.intro ?_ ?_|(intro hq;(try simp at hq);(try(exfalso;omega));(try(revert hq;intro))))
  ·have hkl:k<ul.length:=by assumption
   have hkr:=hulr k hkl
   rw [rowsG_ld]
   repeat'(first|refine vcI ?_|refine And.intro ?_ ?_|(intro hq;(try simp at hq);(try(exfalso;omega));(try(revert hq;intro))))
   ·rw [show 0+(k:Int).toNat=k by omega];exact hkr.1
   ·rw [show 0+(k:Int).toNat=k by omega];have:=hkr.2;omega
   ·rfl
   refine Exists.intro (.own 1 m fun r _ => .bool (ownB o (k+1) i r)) (And.intro (NEq.owns rfl rfl fun r b hr hb=>ownB_put o (by rw [← hul];exact hkl) (by rw [← hul,show 0+(k:Int).toNat=k by omega]) (by rw [show 0+(k:Int).toNat=k by omega];exact hkr.1) hb) (And.intro rfl ?_))
   repeat'(first|refine vcI ?_|refine And.intro ?_ ?_|(intro hq;(try simp at hq);(try(exfalso;omega));(try(revert hq;intro))))
   exact Exists.intro (k+1,v47,v31,v19) ⟨by dsimp only;omega,(by first|omega|(dsimp only;omega)),⟨by ((repeat' apply And.intro) <;> (first|exact True.intro|exact NEq.refl _|(refine NEq.int ?_;first|exact rfl|omega|(rw [wrapI (by omega)];first|exact rfl|omega)))),⟨⟨rfl,.refl _⟩,⟨rfl,.refl _⟩,⟨rfl,.refl _⟩,trivial⟩,.nil⟩⟩
  ·obtain rfl:k=ul.length:=by omega
   refine graftR (i:=i) (r:=(1,19)) (r':=(1,31)) (by decide) rfl rfl hin (by simp [rowsG]) rfl (i+1,_) (by dsimp only;omega) (by dsimp only;omega) ⟨by ((repeat' apply And.intro) <;> (first|exact True.intro|exact NEq.refl _|(refine NEq.int ?_;first|exact rfl|omega|(rw [wrapI (by omega)];first|exact rfl|omega)))),⟨⟨rfl,?_⟩,trivial⟩,.nil⟩
   refine NEq.owns rfl rfl fun a b ha hb=>NEq.of_eq ?_
   show graftF (rowsG o m i v31) i (PV.own 1 m fun r x=>PV.bool (ownB o ul.length i r)) a b=rowsK o m (i+1) a b
   unfold graftF rowsG rowsK
   by_cases e:a=i
   ·subst e;rw [if_pos rfl,if_pos (by omega),hul]
   ·rw [if_neg e,if_neg e]
    by_cases h:a<i
    ·rw [if_pos h,if_pos (by omega)]
    ·rw [if_neg h,if_neg (by omega)]
 obtain rfl:i=o.irs.length:=by omega
 repeat'(first|refine vcI ?_|refine And.intro ?_ ?_|(intro hq;(try simp at hq);(try(exfalso;omega));(try(revert hq;intro))))
 have hI0:LvI o fun a r=>ownB o (ownL o a).length a r:=⟨fun a ha r h=>by simpa [ownB] using h,fun a ha r h => .use ha (by simp [ownB] at h;exact h)⟩
 refine loopS3 mx (by decide) (by kernel_rfl) (fun (W:Nat→Nat→Bool) (b:Bool) (v4:Nat)=>LvI o W∧(b=false→∀ i,i<o.irs.length→∀ k∈goesL (o.irs.getD i default) i,∀ r,r<o.regs.toNat→ClP o W i k r)) (fun W b v4=>[(8,.bool b),(4,.ref (1,19) v4 [] 1 0 o.irs.length),(3,.int .i64 o.irs.length),(0,.fptr 12 (rowL (dol o)) 0)]) (fun W b v4=>[((1,19),⟨v4,bbN o.irs.length m W⟩)]) (fun W b v4=>2*unsetB o W+b.toNat) _ true _ ⟨hI0,fun h=>(by cases h)⟩ ⟨by ((repeat' apply And.intro) <;> (first|exact True.intro|exact NEq.refl _|(refine NEq.int ?_;first|exact rfl|omega|(rw [wrapI (by omega)];first|exact rfl|omega)))),⟨⟨rfl,NEq.owns rfl rfl fun a b ha hb=>NEq.of_eq (if_pos ha)⟩,trivial⟩,.nil⟩ ?_
 rintro W0 b0 v4 nv ⟨hL0,hC0⟩
 repeat'(first|refine vcI ?_|refine And.intro ?_ ?_|(intro hq;(try simp at hq);(try(exfalso;omega));(try(revert hq;intro))))
 ·have hb0:b0=true:=by assumption
  subst hb0
  have hwn:IntKind.i64.wrap ((o.irs.length:Int) - 1)=(o.irs.length:Int) - 1:=wrapI (by omega)
  have hstart:RdP o W0 W0 false fun i k r=>o.irs.length≤i∧i<o.irs.length:=⟨hL0,fun _=>⟨rfl,fun i k r h=>by omega⟩,fun h=>(by cases h)⟩
  refine loopS4 mx (by decide) (by kernel_rfl) (fun (j:Nat) (W:Nat→Nat→Bool) (b:Bool) (v4:Nat)=>j≤o.irs.length∧RdP o W0 W b fun i k r=>j≤i∧i<o.irs.length∧k∈goesL (o.irs.getD i default) i∧r<o.regs.toNat) (fun j W b v4=>[(9,.int .i64 ((j:Int) - 1)),(8,.bool b),(4,.ref (1,19) v4 [] 1 0 o.irs.length),(3,.int .i64 o.irs.length),(0,.fptr 12 (rowL (dol o)) 0)]) (fun j W b v4=>[((1,19),⟨v4,bbN o.irs.length m W⟩)]) (fun j W b v4=>j) o.irs.length _ _ _ ⟨Nat.le_refl _,hstart.less fun i k r h=>by omega⟩ ⟨⟨NEq.of_eq (congrArg (PV.int .i64) hwn),.refl _,.refl _,.refl _,.refl _,trivial⟩,⟨⟨rfl,.refl _⟩,trivial⟩,.nil⟩ ?_
  rintro j W b v4 nv ⟨hj,hR⟩
  repeat'(first|refine vcI ?_|refine And.intro ?_ ?_|(intro hq;(try simp at hq);(try(exfalso;omega));(try(revert hq;intro))))
  ·obtain ⟨i,rfl⟩:∃ i,j=i+1:=⟨j - 1,by omega⟩
   have hin:i<o.irs.length:=by omega
   rw [show (((i+1:Nat):Int) - 1)=(i:Int) by omega,mk_ir]
   obtain ⟨g,hg⟩:∃ g,g=goesL (o.irs.getD i default) i:=⟨_,rfl⟩
   have hgs:=Goes_spec (o.irs.getD i default) i (by omega)
   rw [← hg] at hgs
   have hgl:g.length≤2:=by rw [hg];exact goesL_len _ _
   have hgk:∀ q,q<g.length→g.getD q 0∈goesL (o.irs.getD i default) i∧0≤g.getD q 0∧g.getD q 0<(o.irs.length:Int):=fun q hq=>by
    have hmem:g.getD q 0∈goesL (o.irs.getD i default) i:=by rw [← hg,List.getD_eq_getElem?_getD];exact getD_mem _ hq
    exact ⟨hmem,H.go i hin _ hmem⟩
   refine CallS.own (oints g) (fun id ver => .ref id ver [] 1 0 g.length) hgs (plainAll rfl) ?_
   repeat'(first|refine vcI ?_|refine And.intro ?_ ?_|(intro hq;(try simp at hq);(try(exfalso;omega));(try(revert hq;intro))))
   refine loopS5 mx (by decide) (by kernel_rfl) (fun (q:Nat) (W:Nat→Nat→Bool) (b:Bool) (v87 v4:Nat)=>q≤g.length∧RdP o W0 W b fun i' k r=>(i+1≤i'∨(i'=i∧k∈g.take q))∧i'<o.irs.length∧k∈goesL (o.irs.getD i' default) i'∧r<o.regs.toNat) (fun q W b v87 v4=>[(11,.int .i64 q),(10,.ref (1,87) v87 [] 1 0 g.length),(9,.int .i64 i),(8,.bool b),(4,.ref (1,19) v4 [] 1 0 o.irs.length),(3,.int .i64 o.irs.length),(0,.fptr 12 (rowL (dol o)) 0)]) (fun q W b v87 v4=>[((1,87),⟨v87,oints g⟩),((1,19),⟨v4,bbN o.irs.length m W⟩)]) (fun q W b v87 v4=>g.length - q) 0 W b _ _ ⟨by simp,hR.less fun i' k r h=>⟨h.1.elim id fun h2=>by simp at h2,h.2⟩⟩ ⟨by ((repeat' apply And.intro) <;> (first|exact True.intro|exact NEq.refl _|(refine NEq.int ?_;first|exact rfl|omega|(rw [wrapI (by omega)];first|exact rfl|omega)))),⟨⟨rfl,.refl _⟩,⟨rfl,.refl _⟩,trivial⟩,.nil⟩ ?_
   rintro q W b v87 v4 nv ⟨hq,hR⟩
   have hwq:IntKind.i64.wrap ((q:Int)+1)=((q+1:Nat):Int):=wrapI (by omega)
   repeat'(first|refine vcI ?_|refine And.intro ?_ ?_|(intro hq;(try simp at hq);(try(exfalso;omega));(try(revert hq;intro))))
   ·have hql:q<g.length:=by assumption
    obtain ⟨hg1,hg2,hg3⟩:=hgk q hql
    refine loopS5 mx (by decide) (by kernel_rfl) (fun (r:Nat) (W:Nat→Nat→Bool) (b:Bool) (v87 v4:Nat)=>r≤m∧RdP o W0 W b fun i' k r'=>(i+1≤i'∨(i'=i∧(k∈g.take q∨(k=g.getD q 0∧r'<r))))∧i'<o.irs.length∧k∈goesL (o.irs.getD i' default) i'∧r'<o.regs.toNat) (fun r W b v87 v4=>[(12,.int .i64 r),(11,.int .i64 q),(10,.ref (1,87) v87 [] 1 0 g.length),(9,.int .i64 i),(8,.bool b),(4,.ref (1,19) v4 [] 1 0 o.irs.length),(3,.int .i64 o.irs.length),(0,.fptr 12 (rowL (dol o)) 0)]) (fun r W b v87 v4=>[((1,87),⟨v87,oints g⟩),((1,19),⟨v4,bbN o.irs.length m W⟩)]) (fun r W b v87 v4=>m - r) 0 W b _ _ ⟨by simp,hR.less fun i' k r h=>⟨h.1.imp id fun h2=>⟨h2.1,h2.2.elim id fun h3=>absurd h3.2 (Nat.not_lt_zero _)⟩,h.2⟩⟩ ⟨by ((repeat' apply And.intro) <;> (first|exact True.intro|exact NEq.refl _|(refine NEq.int ?_;first|exact rfl|omega|(rw [wrapI (by omega)];first|exact rfl|omega)))),⟨⟨rfl,.refl _⟩,⟨rfl,.refl _⟩,trivial⟩,.nil⟩ ?_
    rintro r W b v87 v4 nv ⟨hr,hR⟩
    have hwr:IntKind.i64.wrap ((r:Int)+1)=((r+1:Nat):Int):=wrapI (by omega)
    have eq0:0+(q:Int).toNat=q:=by omega
    have er0:0+(r:Int).toNat=r:=by omega
    have ei0:0+(i:Int).toNat=i:=by omega
    have hgA:0≤g.getD (0+(q:Int).toNat) 0:=by rw [eq0];exact hg2
    have hgB:g.getD (0+(q:Int).toNat) 0<(o.irs.length:Int) - ((0:Nat):Int):=by rw [eq0];omega
    obtain ⟨kk,hkk⟩:∃ kk:Nat,g.getD q 0=(kk:Int):=⟨_,(Int.toNat_of_nonneg hg2).symm⟩
    have hstep:∀ a c x,((i+1≤a∨(a=i∧(c∈g.take q∨(c=(kk:Int)∧x<r+1))))∧a<o.irs.length∧c∈goesL (o.irs.getD a default) a∧x<o.regs.toNat)→((i+1≤a∨(a=i∧(c∈g.take q∨(c=g.getD q 0∧x<r))))∧a<o.irs.length∧c∈goesL (o.irs.getD a default) a∧x<o.regs.toNat)∨(a=i∧c=g.getD q 0∧x=r):=fun a c x h=>by
     rw [← hkk] at h
     rcases h with ⟨h1|⟨h1,h2|⟨h2,h3⟩⟩,h4⟩
     ·exact .inl ⟨.inl h1,h4⟩
     ·exact .inl ⟨.inr ⟨h1,.inl h2⟩,h4⟩
     ·by_cases e:x=r
      ·exact .inr ⟨h1,h2,e⟩
      ·exact .inl ⟨.inr ⟨h1,.inr ⟨h2,by omega⟩⟩,h4⟩
    repeat refine vcI ?_
    refine And.intro (fun hrm=>?_) (fun hrm=>?_)
    ·have hrm2:r<m:=by simp at hrm;omega
     repeat refine vcI ?_
     rw [eq0,er0,ei0,hkk,show 0+(kk:Int).toNat=kk by omega]
     have hnc:¬ (W kk r=true∧W i r=false∧¬ (setsB (o.irs.getD i default).op=true∧(o.irs.getD i default).d=r))→ClP o W i (g.getD q 0) r:=fun h h1 h2=>by
      rw [hkk,Int.toNat_natCast] at h1
      cases h3:W i r
      ·exact absurd ⟨h1,h3,h2⟩ h
      ·rfl
     rcases h1:W kk r with _|_
     ·repeat'(first|refine vcI ?_|refine And.intro ?_ ?_|(intro hq;(try simp at hq);(try(exfalso;omega));(try(revert hq;intro))))
      exact Exists.intro (r+1,W,b,v87,v4) ⟨⟨by dsimp only;omega,hR.skip (i:=i) (r:=r) (k:=g.getD q 0) (hnc (by rw [h1];simp)) hstep⟩,(by first|omega|(dsimp only;omega)),⟨by ((repeat' apply And.intro) <;> (first|exact True.intro|exact NEq.refl _|(refine NEq.int ?_;first|exact rfl|omega|(rw [wrapI (by omega)];first|exact rfl|omega)))),⟨⟨rfl,.refl _⟩,⟨rfl,.refl _⟩,trivial⟩,.nil⟩⟩
     ·rcases h2:W i r with _|_
      ·have hss:=sets_spec (o.irs.getD i default).op
       rcases h3:setsB (o.irs.getD i default).op with _|_
       ·rw [h3] at hss
        repeat'(first|refine vcI ?_|refine And.intro ?_ ?_|(intro hq;(try simp at hq);(try(exfalso;omega));(try(revert hq;intro))))
        first
        | refine CallS.frozen (.bool false) hss (plainAll rfl) ?_
        | refine QS.frozen (.bool false) hss (plainAll rfl) ?_
        repeat'(first|refine vcI ?_|refine And.intro ?_ ?_|(intro hq;(try simp at hq);(try(exfalso;omega));(try(revert hq;intro))))
        ·rfl
        refine Exists.intro (bbN o.irs.length m (setB W i r)) (And.intro (NEq.owns rfl rfl fun a x ha hx=>?_) (And.intro rfl ?_))
        ·exact bb_put (W:=W) (m:=m) (i:=i) (r:=r) (a:=a) hx
        repeat'(first|refine vcI ?_|refine And.intro ?_ ?_|(intro hq;(try simp at hq);(try(exfalso;omega));(try(revert hq;intro))))
        exact Exists.intro (r+1,setB W i r,true,v87,v4) ⟨⟨by dsimp only;omega,hR.put hin (by omega) hg1 ⟨hg2,hg3⟩ (by rw [hkk,Int.toNat_natCast];exact h1) h2 (fun h=>by rw [h3] at h;exact absurd h.1 (by decide))⟩,(by first|omega|(dsimp only;omega)),⟨by ((repeat' apply And.intro) <;> (first|exact True.intro|exact NEq.refl _|(refine NEq.int ?_;first|exact rfl|omega|(rw [wrapI (by omega)];first|exact rfl|omega)))),⟨⟨rfl,.refl _⟩,⟨rfl,.refl _⟩,trivial⟩,.nil⟩⟩
       ·rw [h3] at hss
        repeat'(first|refine vcI ?_|refine And.intro ?_ ?_|(intro hq;(try simp at hq);(try(exfalso;omega));(try(revert hq;intro))))
        first
        | refine CallS.frozen (.bool true) hss (plainAll rfl) ?_
        | refine QS.frozen (.bool true) hss (plainAll rfl) ?_
        repeat'(first|refine vcI ?_|refine And.intro ?_ ?_|(intro hq;(try simp at hq);(try(exfalso;omega));(try(revert hq;intro))))
        ·rfl
        ·rename_i hdr
         refine Exists.intro (bbN o.irs.length m (setB W i r)) (And.intro (NEq.owns rfl rfl fun a x ha hx=>?_) (And.intro rfl ?_))
         ·exact bb_put (W:=W) (m:=m) (i:=i) (r:=r) (a:=a) hx
         repeat'(first|refine vcI ?_|refine And.intro ?_ ?_|(intro hq;(try simp at hq);(try(exfalso;omega));(try(revert hq;intro))))
         exact Exists.intro (r+1,setB W i r,true,v87,v4) ⟨⟨by dsimp only;omega,hR.put hin (by omega) hg1 ⟨hg2,hg3⟩ (by rw [hkk,Int.toNat_natCast];exact h1) h2 (fun h=>hdr h.2)⟩,(by first|omega|(dsimp only;omega)),⟨by ((repeat' apply And.intro) <;> (first|exact True.intro|exact NEq.refl _|(refine NEq.int ?_;first|exact rfl|omega|(rw [wrapI (by omega)];first|exact rfl|omega)))),⟨⟨rfl,.refl _⟩,⟨rfl,.refl _⟩,trivial⟩,.nil⟩⟩
        ·rename_i hdr
         exact Exists.intro (r+1,W,b,v87,v4) ⟨⟨by dsimp only;omega,hR.skip (i:=i) (r:=r) (k:=g.getD q 0) (hnc (by rw [h3];intro h;exact h.2.2 ⟨rfl,hdr⟩)) hstep⟩,(by first|omega|(dsimp only;omega)),⟨by ((repeat' apply And.intro) <;> (first|exact True.intro|exact NEq.refl _|(refine NEq.int ?_;first|exact rfl|omega|(rw [wrapI (by omega)];first|exact rfl|omega)))),⟨⟨rfl,.refl _⟩,⟨rfl,.refl _⟩,trivial⟩,.nil⟩⟩
      ·repeat'(first|refine vcI ?_|refine And.intro ?_ ?_|(intro hq;(try simp at hq);(try(exfalso;omega));(try(revert hq;intro))))
       exact Exists.intro (r+1,W,b,v87,v4) ⟨⟨by dsimp only;omega,hR.skip (i:=i) (r:=r) (k:=g.getD q 0) (hnc (by rw [h2];simp)) hstep⟩,(by first|omega|(dsimp only;omega)),⟨by ((repeat' apply And.intro) <;> (first|exact True.intro|exact NEq.refl _|(refine NEq.int ?_;first|exact rfl|omega|(rw [wrapI (by omega)];first|exact rfl|omega)))),⟨⟨rfl,.refl _⟩,⟨rfl,.refl _⟩,trivial⟩,.nil⟩⟩
    ·obtain rfl:r=m:=by simp at hrm;omega
     repeat'(first|refine vcI ?_|refine And.intro ?_ ?_|(intro hq;(try simp at hq);(try(exfalso;omega));(try(revert hq;intro))))
     refine Exists.intro (q+1,W,b,v87,v4) ⟨⟨by dsimp only;omega,hR.less fun i' k x h=>?_⟩,(by first|omega|(dsimp only;omega)),⟨by ((repeat' apply And.intro) <;> (first|exact True.intro|exact NEq.refl _|(refine NEq.int ?_;first|exact rfl|omega|(rw [wrapI (by omega)];first|exact rfl|omega)))),⟨⟨rfl,.refl _⟩,⟨rfl,.refl _⟩,trivial⟩,.nil⟩⟩
     dsimp only at h
     obtain ⟨h1,h2,h3,h4⟩:=h
     refine ⟨h1.imp id fun h5=>⟨h5.1,?_⟩,h2,h3,h4⟩
     have h6:=h5.2
     rw [take_succD 0 hql,List.mem_append,List.mem_singleton] at h6
     exact h6.imp id fun h7=>⟨h7,by omega⟩
   ·obtain rfl:q=g.length:=by omega
    have hwi1:IntKind.i64.wrap ((i:Int) - 1)=(i:Int) - 1:=wrapI (by omega)
    rw [hwi1]
    refine Exists.intro (i,W,b,v4) ⟨⟨by dsimp only;omega,hR.less fun i' k x h=>⟨?_,h.2⟩⟩,by dsimp only;omega,⟨by ((repeat' apply And.intro) <;> (first|exact True.intro|exact NEq.refl _|(refine NEq.int ?_;first|exact rfl|omega|(rw [wrapI (by omega)];first|exact rfl|omega)))),⟨⟨rfl,.refl _⟩,trivial⟩,.nil⟩⟩
    by_cases e:i'=i
    ·subst e
     exact .inr ⟨rfl,by rw [List.take_length,hg];exact h.2.2.1⟩
    ·exact .inl (by have:=h.1;dsimp only at this;omega)
  ·obtain rfl:j=0:=by omega
   refine Exists.intro (W,b,v4) ⟨⟨hR.inv,fun hb i hi k hk r hr=>?_⟩,?_,⟨by ((repeat' apply And.intro) <;> (first|exact True.intro|exact NEq.refl _|(refine NEq.int ?_;first|exact rfl|omega|(rw [wrapI (by omega)];first|exact rfl|omega)))),⟨⟨rfl,.refl _⟩,trivial⟩,.nil⟩⟩
   ·obtain ⟨rfl,h⟩:=hR.no hb
    exact h i k r ⟨Nat.zero_le _,hi,hk,hr⟩
   ·cases b
    ·obtain ⟨rfl,_⟩:=hR.no rfl
     simp
    ·have:=hR.yes rfl
     simp
     omega
 ·have hb0:b0=false:=by assumption
  refine keepS_bb rfl fun a r ha hr=>?_
  have h:=hL0.done H (hC0 hb0) (fun i r h=>(h.lt H).1) ha r
  rw [Bool.eq_iff_iff,h]
  simp [lvB]
end Go.Ab
namespace Go.Ab
open Go.Proofs
set_option maxRecDepth 100000
set_option maxHeartbeats 1000000

def CmB (m:Nat) (C:Nat→Nat→Bool) (D:Nat→Nat→Prop):Prop:=∀ a b,a<m→b<m→(C a b=true↔D a b)
def set2 (C:Nat→Nat→Bool) (r q:Nat):Nat→Nat→Bool:=setB (setB C r q) q r
theorem CmB.congr {m:Nat} {C:Nat→Nat→Bool} {D D':Nat→Nat→Prop} (h:CmB m C D) (e:∀ a b,a<m→b<m→(D a b↔D' a b)):CmB m C D':=fun a b ha hb=>(h a b ha hb).trans (e a b ha hb)
theorem CmB.set2 {m:Nat} {C:Nat→Nat→Bool} {D D':Nat→Nat→Prop} (h:CmB m C D) {r q:Nat} (e:∀ a b,a<m→b<m→(D' a b↔D a b∨(a=r∧b=q)∨(a=q∧b=r))):CmB m (set2 C r q) D':=fun a b ha hb=>by
 rw [e a b ha hb,← h a b ha hb]
 unfold Ab.set2 setB
 by_cases h1:a=q∧b=r
 ·rw [if_pos h1];simp [h1]
 ·rw [if_neg h1]
  by_cases h2:a=r∧b=q
  ·rw [if_pos h2];simp [h2]
  ·rw [if_neg h2];simp [h1,h2]
def colD (o:DO) (i a b:Nat):Prop:=∃ j,j<i∧a≠b∧ColI o j a b
def colE (o:DO) (i r q a b:Nat):Prop:=colD o i a b∨(a≠b∧LiveP o i a∧LiveP o i b∧a<r∧b<r)∨(LiveP o i a∧LiveP o i b∧((a=r∧b<q)∨(b=r∧a<q)))
def colF (o:DO) (i:Nat) (l:List Int) (k:Int) (r a b:Nat):Prop:=colE o i o.regs.toNat 0 a b∨(a≠b∧(((a:Int)=(o.irs.getD i default).d∧((∃ k∈l,LiveP o k.toNat b)∨(LiveP o k.toNat b∧b<r)))∨((b:Int)=(o.irs.getD i default).d∧((∃ k∈l,LiveP o k.toNat a)∨(LiveP o k.toNat a∧a<r)))))
theorem colE_zero (o:DO) (i a b:Nat):colE o i 0 0 a b↔colD o i a b:=by unfold colE;simp
theorem colE_yes {o:DO} {i r q a b:Nat} (hq:q<r) (h1:LiveP o i r) (h2:LiveP o i q):colE o i r (q+1) a b↔colE o i r q a b∨(a=r∧b=q)∨(a=q∧b=r):=by
 unfold colE
 constructor
 ·rintro (h|h|⟨h3,h4,⟨h5,h6⟩|⟨h5,h6⟩⟩)
  ·exact .inl (.inl h)
  ·exact .inl (.inr (.inl h))
  ·by_cases e:b=q
   ·exact .inr (.inl ⟨h5,e⟩)
   ·exact .inl (.inr (.inr ⟨h3,h4,.inl ⟨h5,by omega⟩⟩))
  ·by_cases e:a=q
   ·exact .inr (.inr ⟨e,h5⟩)
   ·exact .inl (.inr (.inr ⟨h3,h4,.inr ⟨h5,by omega⟩⟩))
 ·rintro ((h|h|⟨h3,h4,⟨h5,h6⟩|⟨h5,h6⟩⟩)|⟨rfl,rfl⟩|⟨rfl,rfl⟩)
  ·exact .inl h
  ·exact .inr (.inl h)
  ·exact .inr (.inr ⟨h3,h4,.inl ⟨h5,by omega⟩⟩)
  ·exact .inr (.inr ⟨h3,h4,.inr ⟨h5,by omega⟩⟩)
  ·exact .inr (.inr ⟨h1,h2,.inl ⟨rfl,by omega⟩⟩)
  ·exact .inr (.inr ⟨h2,h1,.inr ⟨rfl,by omega⟩⟩)
theorem colE_no {o:DO} {i r q a b:Nat} (h2:¬ LiveP o i q):colE o i r (q+1) a b↔colE o i r q a b:=by
 unfold colE
 refine or_congr Iff.rfl (or_congr Iff.rfl ⟨?_,?_⟩)
 ·rintro ⟨h3,h4,⟨h5,h6⟩|⟨h5,h6⟩⟩
  ·exact ⟨h3,h4,.inl ⟨h5,by rcases (by omega:b<q∨b=q) with h|rfl;exact h;exact absurd h4 h2⟩⟩
  ·exact ⟨h3,h4,.inr ⟨h5,by rcases (by omega:a<q∨a=q) with h|rfl;exact h;exact absurd h3 h2⟩⟩
 ·rintro ⟨h3,h4,⟨h5,h6⟩|⟨h5,h6⟩⟩
  ·exact ⟨h3,h4,.inl ⟨h5,by omega⟩⟩
  ·exact ⟨h3,h4,.inr ⟨h5,by omega⟩⟩
theorem colE_row {o:DO} {i r q a b:Nat} (h:q=r∨(q≤r∧¬ LiveP o i r)):colE o i (r+1) 0 a b↔colE o i r q a b:=by
 unfold colE
 refine or_congr Iff.rfl ⟨?_,?_⟩
 ·rintro (⟨h1,h2,h3,h4,h5⟩|⟨_,_,h|h⟩)
  ·by_cases ea:a=r
   ·subst ea
    rcases h with h|h
    ·exact .inr ⟨h2,h3,.inl ⟨rfl,by omega⟩⟩
    ·exact absurd h2 h.2
   ·by_cases eb:b=r
    ·subst eb
     rcases h with h|h
     ·exact .inr ⟨h2,h3,.inr ⟨rfl,by omega⟩⟩
     ·exact absurd h3 h.2
    ·exact .inl ⟨h1,h2,h3,by omega,by omega⟩
  ·omega
  ·omega
 ·rintro (⟨h1,h2,h3,h4,h5⟩|⟨h1,h2,⟨h3,h4⟩|⟨h3,h4⟩⟩)
  ·exact .inl ⟨h1,h2,h3,by omega,by omega⟩
  ·subst h3
   exact .inl ⟨by rcases h with h|h <;> omega,h1,h2,by omega,by rcases h with h|h <;> omega⟩
  ·subst h3
   exact .inl ⟨by rcases h with h|h <;> omega,h1,h2,by rcases h with h|h <;> omega,by omega⟩
theorem colE_last {o:DO} (H:FlH o) {i a b:Nat}:colE o i o.regs.toNat 0 a b↔colD o i a b∨(a≠b∧LiveP o i a∧LiveP o i b):=by
 unfold colE
 refine or_congr Iff.rfl ⟨?_,?_⟩
 ·rintro (⟨h1,h2,h3,_,_⟩|⟨_,_,h|h⟩)
  ·exact ⟨h1,h2,h3⟩
  ·omega
  ·omega
 ·rintro ⟨h1,h2,h3⟩
  have:=h2.lt H
  have:=h3.lt H
  exact .inl ⟨h1,h2,h3,by omega,by omega⟩
theorem colD_no {o:DO} (H:FlH o) {i a b:Nat} (hs:setsB (o.irs.getD i default).op≠true):colD o (i+1) a b↔colE o i o.regs.toNat 0 a b:=by
 rw [colE_last H]
 unfold colD
 constructor
 ·rintro ⟨j,h1,h2,h3⟩
  by_cases e:j=i
  ·subst e
   rcases h3 with h3|h3
   ·exact .inr ⟨h2,h3⟩
   ·exact absurd h3.1 hs
  ·exact .inl ⟨j,by omega,h2,h3⟩
 ·rintro (⟨j,h1,h2,h3⟩|⟨h1,h2⟩)
  ·exact ⟨j,by omega,h2,h3⟩
  ·exact ⟨i,by omega,h1,.inl h2⟩
theorem colD_yes {o:DO} (H:FlH o) {i a b:Nat} {k:Int} (hs:setsB (o.irs.getD i default).op=true):colD o (i+1) a b↔colF o i ((i:Int)::goesL (o.irs.getD i default) i) k 0 a b:=by
 unfold colF
 rw [colE_last H]
 unfold colD ColI
 simp only [List.mem_cons,exists_eq_or_imp,Int.toNat_natCast,Nat.not_lt_zero,and_false,or_false]
 constructor
 ·rintro ⟨j,h1,h2,h3⟩
  by_cases e:j=i
  ·subst e
   rcases h3 with h3|h3
   ·exact .inl (.inr ⟨h2,h3⟩)
   ·exact .inr ⟨h2,h3.2⟩
  ·exact .inl (.inl ⟨j,by omega,h2,h3⟩)
 ·rintro ((⟨j,h1,h2,h3⟩|⟨h1,h2⟩)|⟨h1,h2⟩)
  ·exact ⟨j,by omega,h2,h3⟩
  ·exact ⟨i,by omega,h1,.inl h2⟩
  ·exact ⟨i,by omega,h1,.inr ⟨hs,h2⟩⟩
theorem colF_nil {o:DO} {i a b:Nat} {k:Int}:colF o i [] k 0 a b↔colE o i o.regs.toNat 0 a b:=by unfold colF;simp
theorem colF_snoc {o:DO} (H:FlH o) {i a b:Nat} {k k':Int} {l:List Int}:colF o i (l++[k]) k' 0 a b↔colF o i l k o.regs.toNat a b:=by
 unfold colF
 have hl:∀ b,LiveP o k.toNat b↔(LiveP o k.toNat b∧b<o.regs.toNat):=fun b=>⟨fun h=>⟨h,by have:=h.lt H;omega⟩,fun h=>h.1⟩
 simp only [List.mem_append,List.mem_singleton,or_and_right,exists_or,exists_eq_left,Nat.not_lt_zero,and_false,or_false,← hl]
theorem colF_yes {o:DO} {i r a b:Nat} {k:Int} {l:List Int} (h:LiveP o k.toNat r) {d:Nat} (hd:(o.irs.getD i default).d=(d:Int)) (hr:r≠d):colF o i l k (r+1) a b↔colF o i l k r a b∨(a=r∧b=d)∨(a=d∧b=r):=by
 unfold colF
 rw [hd]
 constructor
 ·rintro (h1|⟨h1,⟨h2,h3|⟨h3,h4⟩⟩|⟨h2,h3|⟨h3,h4⟩⟩⟩)
  ·exact .inl (.inl h1)
  ·exact .inl (.inr ⟨h1,.inl ⟨h2,.inl h3⟩⟩)
  ·by_cases e:b=r
   ·exact .inr (.inr ⟨by omega,e⟩)
   ·exact .inl (.inr ⟨h1,.inl ⟨h2,.inr ⟨h3,by omega⟩⟩⟩)
  ·exact .inl (.inr ⟨h1,.inr ⟨h2,.inl h3⟩⟩)
  ·by_cases e:a=r
   ·exact .inr (.inl ⟨e,by omega⟩)
   ·exact .inl (.inr ⟨h1,.inr ⟨h2,.inr ⟨h3,by omega⟩⟩⟩)
 ·rintro ((h1|⟨h1,⟨h2,h3|⟨h3,h4⟩⟩|⟨h2,h3|⟨h3,h4⟩⟩⟩)|⟨rfl,rfl⟩|⟨rfl,rfl⟩)
  ·exact .inl h1
  ·exact .inr ⟨h1,.inl ⟨h2,.inl h3⟩⟩
  ·exact .inr ⟨h1,.inl ⟨h2,.inr ⟨h3,by omega⟩⟩⟩
  ·exact .inr ⟨h1,.inr ⟨h2,.inl h3⟩⟩
  ·exact .inr ⟨h1,.inr ⟨h2,.inr ⟨h3,by omega⟩⟩⟩
  ·exact .inr ⟨hr,.inr ⟨rfl,.inr ⟨h,by omega⟩⟩⟩
  ·exact .inr ⟨Ne.symm hr,.inl ⟨rfl,.inr ⟨h,by omega⟩⟩⟩
theorem colF_no {o:DO} {i r a b:Nat} {k:Int} {l:List Int} (h:¬ (LiveP o k.toNat r∧(r:Int)≠(o.irs.getD i default).d)):colF o i l k (r+1) a b↔colF o i l k r a b:=by
 unfold colF
 refine or_congr Iff.rfl (and_congr_right fun hab=>or_congr (and_congr_right fun h1=>or_congr Iff.rfl ⟨?_,fun ⟨h2,h3⟩=>⟨h2,by omega⟩⟩) (and_congr_right fun h1=>or_congr Iff.rfl ⟨?_,fun ⟨h2,h3⟩=>⟨h2,by omega⟩⟩))
 ·rintro ⟨h2,h3⟩
  refine ⟨h2,?_⟩
  rcases (by omega:b<r∨b=r) with h4|rfl
  ·exact h4
  ·exact absurd ⟨h2,by omega⟩ h
 ·rintro ⟨h2,h3⟩
  refine ⟨h2,?_⟩
  rcases (by omega:a<r∨a=r) with h4|rfl
  ·exact h4
  ·exact absurd ⟨h2,by omega⟩ h
theorem colD_all {o:DO} {a b:Nat}:colD o o.irs.length a b↔a≠b∧ColP o a b:=by
 unfold colD ColP
 constructor
 ·rintro ⟨j,h1,h2,h3⟩;exact ⟨h2,j,h1,h3⟩
 ·rintro ⟨h2,j,h1,h3⟩;exact ⟨j,h1,h2,h3⟩
end Go.Ab
namespace Go.Ab
open Go.Proofs
set_option maxRecDepth 100000
set_option maxHeartbeats 4000000

def frb (n m:Nat) (W:Nat→Nat→Bool):PV := .frz 1 n fun a _ => .frz 1 m fun r _ => .bool (W a r)
def rowsZ (m i:Nat):Nat→Nat→PV:=fun a _=>if a<i then .own 1 m (fun _ _ => .bool false) else .nils
def rowsY (m i v:Nat):Nat→Nat→PV:=fun a b=>if a=i then .ref (1,33) v [] 1 0 m else rowsZ m i a b
theorem rowsY_put {m i v a b sz k:Nat} (hb:b<1) (hs:sz=1) (hk:k=m):NEq (if a=0+(i:Int).toNat∧0≤b∧b<0+1 then List.getD [PV.ref (1,33) v [] sz 0 k] (b - 0) .undef else rowsZ m i a b) (rowsY m i v a b):=by
 subst hs hk
 obtain rfl:b=0:=by omega
 unfold rowsY
 by_cases e:a=i
 ·rw [if_pos ⟨by omega,by omega,by omega⟩,if_pos e];exact .refl _
 ·rw [if_neg (fun h=>e (by omega)),if_neg e];exact .refl _
open Classical in
noncomputable def coB (o:DO) (a b:Nat):Bool:=decide (a≠b∧ColP o a b)
theorem lvB_iff {o:DO} {i r:Nat}:lvB o i r=true↔LiveP o i r:=by simp [lvB]
def mem65 (m v:Nat) (C:Nat→Nat→Bool):Hp:=[((1,18),⟨v,bbN m m C⟩)]
theorem collisions_spec (o : DO) (H : FlH o) (hr1 : 1 ≤ o.regs) : CallsO Tryz.prog 37 [.fptr 12 (rowL (dol o)) 0, frb o.irs.length o.regs.toNat (lvB o)] (bbN o.regs.toNat o.regs.toNat (coB o)) (fun id ver => .ref id ver [] 1 0 o.regs.toNat) := by
  have hil : o.irs.length ≤ 6000 := by have := H.hf; unfold fewN at this; omega
  have hrr := H.hr
  have hd := H.hd
  obtain ⟨m, hm⟩ : ∃ m : Nat, o.regs = (m : Int) := ⟨o.regs.toNat, (Int.toNat_of_nonneg (by omega)).symm⟩
  have hmt : o.regs.toNat = m := by omega
  rw [hmt]
  refine callsO_ofS mx Tryz.call37 Tryz.func37 rfl Tryz.ntmps37 Tryz.results37 (by kernel_rfl) (by simp) fun lo => ?_
  repeat'(first|refine vcI ?_|refine And.intro ?_ ?_|(intro hq;(try simp at hq);(try(exfalso;omega));(try(revert hq;intro))))
  · rw [show Tryz.prog.bytesOf 81 = 24 by kernel_rfl]; omega
  · rfl
  rw [hm]
  refine Exists.intro (.own 1 m (rowsZ m 0)) (And.intro ?_ (And.intro rfl ?_))
  · refine NEq.owns rfl (by simp) fun i b hi hb => ?_
    obtain rfl : b = 0 := by omega
    exact .refl _
  repeat'(first|refine vcI ?_|refine And.intro ?_ ?_|(intro hq;(try simp at hq);(try(exfalso;omega));(try(revert hq;intro))))
  refine loopGS2 mx (by decide) (by kernel_rfl) (fun (i v5 : Nat) => i ≤ m) (fun i v5 => [(6, .int .i64 i), (5, .ref (1, 18) v5 [] 1 0 m), (0, .fptr 12 (rowL (dol o)) 0), (1, frb o.irs.length m (lvB o))]) (fun i v5 => [((1, 18), ⟨v5, .own 1 m (rowsZ m i)⟩)]) (fun i v5 => m - i) 0 _ (by simp) ⟨by ((repeat' apply And.intro) <;> (first | exact True.intro | exact NEq.refl _ | (refine NEq.int ?_; first | exact rfl | omega | (rw [wrapI (by omega)]; first | exact rfl | omega)))), ⟨⟨rfl, .refl _⟩, trivial⟩, .nil⟩ ?_
  intro i v5 nv hi
  have hwi : IntKind.i64.wrap ((i : Int) + 1) = ((i + 1 : Nat) : Int) := wrapI (by omega)
  repeat'(first|refine vcI ?_|refine And.intro ?_ ?_|(intro hq;(try simp at hq);(try(exfalso;omega));(try(revert hq;intro))))
  · rw [show Tryz.prog.bytesOf 4 = 1 by kernel_rfl]; omega
  · rfl
  · have him : i < m := by have : (i : Int) < o.regs := by assumption
                           omega
    rw [hm]
    refine Exists.intro (.own 1 m fun r _ => .bool false) (And.intro ?_ (And.intro rfl ?_))
    · refine NEq.owns rfl (by simp) fun r b hr hb => ?_
      obtain rfl : b = 0 := by omega
      exact .refl _
    repeat'(first|refine vcI ?_|refine And.intro ?_ ?_|(intro hq;(try simp at hq);(try(exfalso;omega));(try(revert hq;intro))))
    · simp [rowsZ]; rfl
    refine Exists.intro (.own 1 m (rowsY m i _)) (And.intro (NEq.owns rfl rfl fun a b ha hb => rowsY_put hb rfl (by omega)) (And.intro rfl ?_))
    repeat'(first|refine vcI ?_|refine And.intro ?_ ?_|(intro hq;(try simp at hq);(try(exfalso;omega));(try(revert hq;intro))))
    refine graftR (i := i) (r := (1, 18)) (r' := (1, 33)) (by decide) rfl rfl him (by simp [rowsY]) rfl (i + 1, _) (by dsimp only; omega) (by dsimp only; omega) ⟨by ((repeat' apply And.intro) <;> (first | exact True.intro | exact NEq.refl _ | (refine NEq.int ?_; first | exact rfl | omega | (rw [wrapI (by omega)]; first | exact rfl | omega)))), ⟨⟨rfl, ?_⟩, trivial⟩, .nil⟩
    refine NEq.owns rfl rfl fun a b ha hb => NEq.of_eq ?_
    show graftF (rowsY m i _) i (PV.own 1 m fun r x => PV.bool false) a b = rowsZ m (i + 1) a b
    unfold graftF rowsY rowsZ
    by_cases e : a = i
    · subst e; rw [if_pos rfl, if_pos (by omega)]
    · rw [if_neg e, if_neg e]
      by_cases h : a < i
      · rw [if_pos h, if_pos (by omega)]
      · rw [if_neg h, if_neg (by omega)]
  obtain rfl : m = i := by omega
  clear hi hwi
  repeat'(first|refine vcI ?_|refine And.intro ?_ ?_|(intro hq;(try simp at hq);(try(exfalso;omega));(try(revert hq;intro))))
  refine loopS3 mx (by decide) (by kernel_rfl) (fun (i : Nat) (C : Nat → Nat → Bool) (v5 : Nat) => i ≤ o.irs.length ∧ CmB m C (colD o i)) (fun i C v5 => [(7, .int .i64 i), (5, .ref (1, 18) v5 [] 1 0 m), (0, .fptr 12 (rowL (dol o)) 0), (1, frb o.irs.length m (lvB o))]) (fun i C v5 => mem65 m v5 C) (fun i C v5 => o.irs.length - i) 0 (fun _ _ => false) _ ⟨by simp, fun a b ha hb => by simp [colD]⟩ ⟨by ((repeat' apply And.intro) <;> (first | exact True.intro | exact NEq.refl _ | (refine NEq.int ?_; first | exact rfl | omega | (rw [wrapI (by omega)]; first | exact rfl | omega)))), ⟨⟨rfl, NEq.owns rfl rfl fun a b ha hb => NEq.of_eq (if_pos ha)⟩, trivial⟩, .nil⟩ ?_
  rintro i C v5 nv ⟨hi, hC⟩
  have hwi : IntKind.i64.wrap ((i : Int) + 1) = ((i + 1 : Nat) : Int) := wrapI (by omega)
  repeat'(first|refine vcI ?_|refine And.intro ?_ ?_|(intro hq;(try simp at hq);(try(exfalso;omega));(try(revert hq;intro))))
  · have hin : i < o.irs.length := by assumption
    refine loopS3 mx (by decide) (by kernel_rfl) (fun (r : Nat) (C : Nat → Nat → Bool) (v5 : Nat) => r ≤ m ∧ CmB m C (colE o i r 0)) (fun r C v5 => [(8, .int .i64 r), (7, .int .i64 i), (5, .ref (1, 18) v5 [] 1 0 m), (0, .fptr 12 (rowL (dol o)) 0), (1, frb o.irs.length m (lvB o))]) (fun r C v5 => mem65 m v5 C) (fun r C v5 => m - r) 0 C _ ⟨by simp, hC.congr fun a b _ _ => (colE_zero o i a b).symm⟩ ⟨by ((repeat' apply And.intro) <;> (first | exact True.intro | exact NEq.refl _ | (refine NEq.int ?_; first | exact rfl | omega | (rw [wrapI (by omega)]; first | exact rfl | omega)))), ⟨⟨rfl, .refl _⟩, trivial⟩, .nil⟩ ?_
    rintro r C v5 nv ⟨hr, hC⟩
    have hwr : IntKind.i64.wrap ((r : Int) + 1) = ((r + 1 : Nat) : Int) := wrapI (by omega)
    repeat'(first|refine vcI ?_|refine And.intro ?_ ?_|(intro hq;(try simp at hq);(try(exfalso;omega));(try(revert hq;intro))))
    · have hrm : r < m := by omega
      refine loopS3 mx (by decide) (by kernel_rfl) (fun (q : Nat) (C : Nat → Nat → Bool) (v5 : Nat) => q ≤ r ∧ CmB m C (colE o i r q)) (fun q C v5 => [(9, .int .i64 q), (8, .int .i64 r), (7, .int .i64 i), (5, .ref (1, 18) v5 [] 1 0 m), (0, .fptr 12 (rowL (dol o)) 0), (1, frb o.irs.length m (lvB o))]) (fun q C v5 => mem65 m v5 C) (fun q C v5 => r - q) 0 C _ ⟨by simp, hC⟩ ⟨by ((repeat' apply And.intro) <;> (first | exact True.intro | exact NEq.refl _ | (refine NEq.int ?_; first | exact rfl | omega | (rw [wrapI (by omega)]; first | exact rfl | omega)))), ⟨⟨rfl, .refl _⟩, trivial⟩, .nil⟩ ?_
      rintro q C v5 nv ⟨hq, hC⟩
      have hwq : IntKind.i64.wrap ((q : Int) + 1) = ((q + 1 : Nat) : Int) := wrapI (by omega)
      repeat'(first|refine vcI ?_|refine And.intro ?_ ?_|(intro hq;(try simp at hq);(try(exfalso;omega));(try(revert hq;intro))))
      · rfl
      · have hb : q < r ∧ lvB o i r = true := by assumption
        have hv : lvB o i q = true := by assumption
        have hlr := lvB_iff.1 hb.2
        have hlq := lvB_iff.1 hv
        refine Exists.intro (bbN m m (setB C r q)) (And.intro (NEq.owns rfl rfl fun a x ha hx => bb_put (W := C) (m := m) (i := r) (r := q) (a := a) hx) (And.intro rfl ?_))
        repeat'(first|refine vcI ?_|refine And.intro ?_ ?_|(intro hq;(try simp at hq);(try(exfalso;omega));(try(revert hq;intro))))
        · rfl
        refine Exists.intro (bbN m m (Ab.set2 C r q)) (And.intro (NEq.owns rfl rfl fun a x ha hx => bb_put (W := setB C r q) (m := m) (i := q) (r := r) (a := a) hx) (And.intro rfl ?_))
        repeat'(first|refine vcI ?_|refine And.intro ?_ ?_|(intro hq;(try simp at hq);(try(exfalso;omega));(try(revert hq;intro))))
        exact Exists.intro (q + 1, Ab.set2 C r q, v5) ⟨⟨by dsimp only; omega, hC.set2 fun a b _ _ => colE_yes hb.1 hlr hlq⟩, (by first | omega | (dsimp only; omega)), ⟨by ((repeat' apply And.intro) <;> (first | exact True.intro | exact NEq.refl _ | (refine NEq.int ?_; first | exact rfl | omega | (rw [wrapI (by omega)]; first | exact rfl | omega)))), ⟨⟨rfl, .refl _⟩, trivial⟩, .nil⟩⟩
      · have hb : q < r ∧ lvB o i r = true := by assumption
        have hv : lvB o i q = false := by assumption
        exact Exists.intro (q + 1, C, v5) ⟨⟨by dsimp only; omega, hC.congr fun a b _ _ => (colE_no fun h => by rw [lvB_iff.2 h] at hv; cases hv).symm⟩, (by first | omega | (dsimp only; omega)), ⟨by ((repeat' apply And.intro) <;> (first | exact True.intro | exact NEq.refl _ | (refine NEq.int ?_; first | exact rfl | omega | (rw [wrapI (by omega)]; first | exact rfl | omega)))), ⟨⟨rfl, .refl _⟩, trivial⟩, .nil⟩⟩
      · have hb : q < r → lvB o i r = false := by assumption
        refine Exists.intro (r + 1, C, v5) ⟨⟨by dsimp only; omega, hC.congr fun a b _ _ => (colE_row ?_).symm⟩, (by first | omega | (dsimp only; omega)), ⟨by ((repeat' apply And.intro) <;> (first | exact True.intro | exact NEq.refl _ | (refine NEq.int ?_; first | exact rfl | omega | (rw [wrapI (by omega)]; first | exact rfl | omega)))), ⟨⟨rfl, .refl _⟩, trivial⟩, .nil⟩⟩
        by_cases e : q = r
        · exact .inl e
        · exact .inr ⟨hq, fun h => by have := hb (by omega); rw [lvB_iff.2 h] at this; cases this⟩
    · obtain rfl : m = r := by omega
      have hE : CmB m C (colE o i o.regs.toNat 0) := by rw [hmt]; exact hC
      have hss := sets_spec (o.irs.getD i default).op
      rcases hsb : setsB (o.irs.getD i default).op with _ | _
      · rw [hsb] at hss
        refine CallS.frozen (.bool false) hss (plainAll rfl) ?_
        repeat'(first|refine vcI ?_|refine And.intro ?_ ?_|(intro hq;(try simp at hq);(try(exfalso;omega));(try(revert hq;intro))))
        exact Exists.intro (i + 1, C, v5) ⟨⟨by dsimp only; omega, hE.congr fun a b _ _ => (colD_no H (by rw [hsb]; decide)).symm⟩, (by first | omega | (dsimp only; omega)), ⟨by ((repeat' apply And.intro) <;> (first | exact True.intro | exact NEq.refl _ | (refine NEq.int ?_; first | exact rfl | omega | (rw [wrapI (by omega)]; first | exact rfl | omega)))), ⟨⟨rfl, .refl _⟩, trivial⟩, .nil⟩⟩
      · rw [hsb] at hss
        refine CallS.frozen (.bool true) hss (plainAll rfl) ?_
        repeat'(first|refine vcI ?_|refine And.intro ?_ ?_|(intro hq;(try simp at hq);(try(exfalso;omega));(try(revert hq;intro))))
        have hdr := H.dR hin hsb
        obtain ⟨d, hdd⟩ : ∃ d : Nat, (o.irs.getD i default).d = (d : Int) := ⟨_, (Int.toNat_of_nonneg hdr.1).symm⟩
        have hdm : d < m := by omega
        refine Exists.intro (oints [(i : Int)]) (And.intro (one_ints _ rfl rfl (.refl _)) (And.intro rfl ?_))
        repeat'(first|refine vcI ?_|refine And.intro ?_ ?_|(intro hq;(try simp at hq);(try(exfalso;omega));(try(revert hq;intro))))
        rw [mk_ir]
        obtain ⟨g, hg⟩ : ∃ g, g = goesL (o.irs.getD i default) i := ⟨_, rfl⟩
        have hgs := Goes_spec (o.irs.getD i default) i (by omega)
        rw [← hg] at hgs
        have hgl : g.length ≤ 2 := by rw [hg]; exact goesL_len _ _
        first
        | refine CallS.own (oints g) (fun id ver => .ref id ver [] 1 0 g.length) hgs (plainAll rfl) ?_
        | refine QS.own (oints g) (fun id ver => .ref id ver [] 1 0 g.length) hgs (plainAll rfl) ?_
        have hbl : ([(i : Int)] : List Int).length + (g.length - 0) ≤ 3 := by simp; omega
        repeat'(first|refine vcI ?_|refine And.intro ?_ ?_|(intro hq;(try simp at hq);(try(exfalso;omega));(try(revert hq;intro))))
        obtain ⟨ul, hul⟩ : ∃ ul, ul = (i : Int) :: g := ⟨_, rfl⟩
        have hull : [(i : Int)].length + (g.length - 0) = ul.length := by rw [hul]; simp; omega
        refine Exists.intro (oints ul) (And.intro ?_ (And.intro (shape_ints hull) ?_))
        · rw [hul]
          refine app_ints (xs := [(i : Int)]) rfl (by simp) (fun a b ha hb => ?_) fun a b ha hb => ?_
          · dsimp only; rw [if_pos ha]; exact .refl _
          · dsimp only; rw [if_neg (by omega), Nat.add_sub_cancel_left]
            show NEq (.int .i64 (g.getD (0 + a) 0)) _
            rw [Nat.zero_add]; exact .refl _
        rw [hull]
        have hul3 : ul.length ≤ 3 := by omega
        have hulk : ∀ j, j < ul.length → 0 ≤ ul.getD j 0 ∧ ul.getD j 0 < (o.irs.length : Int) := fun j hj => by
          have hmem : ul.getD j 0 ∈ ul := by rw [List.getD_eq_getElem?_getD]; exact getD_mem _ hj
          rw [hul] at hmem ⊢
          rcases List.mem_cons.1 hmem with h | h
          · rw [h]; omega
          · rw [hg] at h ⊢; exact H.go i hin _ h
        repeat'(first|refine vcI ?_|refine And.intro ?_ ?_|(intro hq;(try simp at hq);(try(exfalso;omega));(try(revert hq;intro))))
        refine loopS4 mx (by decide) (by kernel_rfl) (fun (k : Nat) (C : Nat → Nat → Bool) (v11 v5 : Nat) => k ≤ ul.length ∧ CmB m C (colF o i (ul.take k) 0 0)) (fun k C v11 v5 => [(12, .int .i64 k), (11, .ref (1, 101) v11 [] 1 0 ul.length), (10, .int .i64 d), (7, .int .i64 i), (5, .ref (1, 18) v5 [] 1 0 m), (0, .fptr 12 (rowL (dol o)) 0), (1, frb o.irs.length m (lvB o))]) (fun k C v11 v5 => ((1, 101), ⟨v11, oints ul⟩) :: mem65 m v5 C) (fun k C v11 v5 => ul.length - k) 0 C _ _ ⟨by simp, hE.congr fun a b _ _ => colF_nil.symm⟩ ⟨⟨.refl _, .refl _, NEq.of_eq (congrArg (PV.int .i64) hdd), .refl _, .refl _, .refl _, .refl _, trivial⟩, ⟨⟨rfl, .refl _⟩, ⟨rfl, .refl _⟩, trivial⟩, .nil⟩ ?_
        rintro k C v11 v5 nv ⟨hk, hC⟩
        have hwk : IntKind.i64.wrap ((k : Int) + 1) = ((k + 1 : Nat) : Int) := wrapI (by omega)
        repeat'(first|refine vcI ?_|refine And.intro ?_ ?_|(intro hq;(try simp at hq);(try(exfalso;omega));(try(revert hq;intro))))
        · have hkl : k < ul.length := by assumption
          obtain ⟨hk1, hk2⟩ := hulk k hkl
          obtain ⟨kk, hkk⟩ : ∃ kk : Nat, ul.getD k 0 = (kk : Int) := ⟨_, (Int.toNat_of_nonneg hk1).symm⟩
          have ek0 : 0 + (k : Int).toNat = k := by omega
          have hgA : 0 ≤ ul.getD (0 + (k : Int).toNat) 0 := by rw [ek0]; exact hk1
          have hgB : ul.getD (0 + (k : Int).toNat) 0 < (o.irs.length : Int) := by rw [ek0]; omega
          have hst : ∀ a b, colF o i (ul.take k) 0 0 a b ↔ colF o i (ul.take k) (kk : Int) 0 a b := fun a b => by unfold colF; simp
          refine loopS4 mx (by decide) (by kernel_rfl) (fun (r : Nat) (C : Nat → Nat → Bool) (v11 v5 : Nat) => r ≤ m ∧ CmB m C (colF o i (ul.take k) (kk : Int) r)) (fun r C v11 v5 => [(13, .int .i64 r), (12, .int .i64 k), (11, .ref (1, 101) v11 [] 1 0 ul.length), (10, .int .i64 d), (7, .int .i64 i), (5, .ref (1, 18) v5 [] 1 0 m), (0, .fptr 12 (rowL (dol o)) 0), (1, frb o.irs.length m (lvB o))]) (fun r C v11 v5 => ((1, 101), ⟨v11, oints ul⟩) :: mem65 m v5 C) (fun r C v11 v5 => m - r) 0 C _ _ ⟨by simp, hC.congr fun a b _ _ => hst a b⟩ ⟨by ((repeat' apply And.intro) <;> (first | exact True.intro | exact NEq.refl _ | (refine NEq.int ?_; first | exact rfl | omega | (rw [wrapI (by omega)]; first | exact rfl | omega)))), ⟨⟨rfl, .refl _⟩, ⟨rfl, .refl _⟩, trivial⟩, .nil⟩ ?_
          rintro r C v11 v5 nv ⟨hr, hC⟩
          have hwr : IntKind.i64.wrap ((r : Int) + 1) = ((r + 1 : Nat) : Int) := wrapI (by omega)
          repeat'(first|refine vcI ?_|refine And.intro ?_ ?_|(intro hq;(try simp at hq);(try(exfalso;omega));(try(revert hq;intro))))
          · rfl
          · have hb : lvB o (ul[k]?.getD 0).toNat r = true ∧ ¬ (r : Int) = (d : Int) := by assumption
            have hkk' : ul[k]?.getD 0 = (kk : Int) := hkk
            rw [hkk', Int.toNat_natCast] at hb
            have hlr : LiveP o (kk : Int).toNat r := by rw [Int.toNat_natCast]; exact lvB_iff.1 hb.1
            refine Exists.intro (bbN m m (setB C r d)) (And.intro (NEq.owns rfl rfl fun a x ha hx => bb_put (W := C) (m := m) (i := r) (r := d) (a := a) hx) (And.intro rfl ?_))
            repeat'(first|refine vcI ?_|refine And.intro ?_ ?_|(intro hq;(try simp at hq);(try(exfalso;omega));(try(revert hq;intro))))
            · rfl
            refine Exists.intro (bbN m m (Ab.set2 C r d)) (And.intro (NEq.owns rfl rfl fun a x ha hx => bb_put (W := setB C r d) (m := m) (i := d) (r := r) (a := a) hx) (And.intro rfl ?_))
            repeat'(first|refine vcI ?_|refine And.intro ?_ ?_|(intro hq;(try simp at hq);(try(exfalso;omega));(try(revert hq;intro))))
            exact Exists.intro (r + 1, Ab.set2 C r d, v11, v5) ⟨⟨by dsimp only; omega, hC.set2 fun a b _ _ => colF_yes hlr hdd (by omega)⟩, (by first | omega | (dsimp only; omega)), ⟨by ((repeat' apply And.intro) <;> (first | exact True.intro | exact NEq.refl _ | (refine NEq.int ?_; first | exact rfl | omega | (rw [wrapI (by omega)]; first | exact rfl | omega)))), ⟨⟨rfl, .refl _⟩, ⟨rfl, .refl _⟩, trivial⟩, .nil⟩⟩
          · have hb : lvB o (ul[k]?.getD 0).toNat r = true → (r : Int) = (d : Int) := by assumption
            have hkk' : ul[k]?.getD 0 = (kk : Int) := hkk
            rw [hkk', Int.toNat_natCast] at hb
            exact Exists.intro (r + 1, C, v11, v5) ⟨⟨by dsimp only; omega, hC.congr fun a b _ _ => (colF_no fun h => h.2 (by rw [hdd]; exact hb (lvB_iff.2 (by have := h.1; rw [Int.toNat_natCast] at this; exact this)))).symm⟩, (by first | omega | (dsimp only; omega)), ⟨by ((repeat' apply And.intro) <;> (first | exact True.intro | exact NEq.refl _ | (refine NEq.int ?_; first | exact rfl | omega | (rw [wrapI (by omega)]; first | exact rfl | omega)))), ⟨⟨rfl, .refl _⟩, ⟨rfl, .refl _⟩, trivial⟩, .nil⟩⟩
          · obtain rfl : m = r := by omega
            refine Exists.intro (k + 1, C, v11, v5) ⟨⟨by dsimp only; omega, hC.congr fun a b _ _ => ?_⟩, (by first | omega | (dsimp only; omega)), ⟨by ((repeat' apply And.intro) <;> (first | exact True.intro | exact NEq.refl _ | (refine NEq.int ?_; first | exact rfl | omega | (rw [wrapI (by omega)]; first | exact rfl | omega)))), ⟨⟨rfl, .refl _⟩, ⟨rfl, .refl _⟩, trivial⟩, .nil⟩⟩
            dsimp only
            rw [take_succD 0 hkl, hkk, colF_snoc H, hmt]
        · obtain rfl : k = ul.length := by omega
          refine Exists.intro (i + 1, C, v5) ⟨⟨by dsimp only; omega, hC.congr fun a b _ _ => ?_⟩, (by first | omega | (dsimp only; omega)), ⟨by ((repeat' apply And.intro) <;> (first | exact True.intro | exact NEq.refl _ | (refine NEq.int ?_; first | exact rfl | omega | (rw [wrapI (by omega)]; first | exact rfl | omega)))), ⟨⟨rfl, .refl _⟩, trivial⟩, .nil⟩⟩
          dsimp only
          rw [List.take_length, hul, hg]
          exact (colD_yes H hsb).symm
  · obtain rfl : i = o.irs.length := by omega
    refine keepS_bb rfl fun a b ha hb => ?_
    rw [Bool.eq_iff_iff, hC a b ha hb, colD_all]
    simp [coB]
end Go.Ab
namespace Go.Ab
open Go.Proofs
set_option maxRecDepth 100000
set_option maxHeartbeats 1000000

def insL (l:List Int) (n:Int):Bool:=l.all fun r=>decide (0≤r)&&decide (r<n)
structure RowP (o:DO) (i:Nat):Prop where
 op:1≤(o.irs.getD i default).op∧(o.irs.getD i default).op≤16
 args:(o.irs.getD i default).args.length≤20
 ty:(((o.types.getD i []).length:Nat):Int)=o.regs
 fr:framedB (o.irs.getD i default) (o.descs.getD i [])=true
 used:insL (usedL (o.irs.getD i default) (o.descs.getD i [])) o.regs=true
 uses:insL (usesL (o.descs.getD i [])) o.regs=true
 d:setsB (o.irs.getD i default).op=true→0≤(o.irs.getD i default).d∧(o.irs.getD i default).d<o.regs
 goes:insL (goesL (o.irs.getD i default) i) o.irs.length=true
 ret:(o.irs.getD i default).op=10→0≤(o.irs.getD i default).n∧(o.irs.getD i default).n≤o.regs
structure HeadP (o:DO):Prop where
 ne:0<o.irs.length
 le:o.irs.length≤600
 hd:o.descs.length=o.irs.length
 ht:o.types.length=o.irs.length
 r1:1≤o.regs
 r2:o.regs≤250
open Classical in
noncomputable def shapedB (o:DO):Bool:=decide (HeadP o∧∀ i,i<o.irs.length→RowP o i)
open Classical in
theorem shapedB_no {o:DO} (h:¬ (HeadP o∧∀ i,i<o.irs.length→RowP o i)):shapedB o=false:=by unfold shapedB;exact decide_eq_false h
open Classical in
theorem shapedB_yes {o:DO} (h:HeadP o∧∀ i,i<o.irs.length→RowP o i):shapedB o=true:=by unfold shapedB;exact decide_eq_true h
theorem head_no {o:DO} (h:¬ HeadP o):shapedB o=false:=shapedB_no fun k=>h k.1
theorem row_no {o:DO} {i:Nat} (hi:i<o.irs.length) (h:¬ RowP o i):shapedB o=false:=shapedB_no fun k=>h (k.2 i hi)
end Go.Ab
namespace Go.Ab
open Go.Proofs
set_option maxRecDepth 100000
set_option maxHeartbeats 4000000

theorem insL_iff {l:List Int} {n:Int}:insL l n=true↔∀ r∈l,0≤r∧r<n:=by
 unfold insL
 rw [List.all_eq_true]
 simp
theorem badL_iff {o:DO} {l:List Int}:badL o l=false↔∀ r∈l,0≤r∧r<o.regs:=by
 unfold badL regB
 rw [List.any_eq_false]
 simp
theorem goes_of {o:DO} {i:Nat} (h:1≤(o.irs.getD i default).op∧(o.irs.getD i default).op≤16) (hi:i<o.irs.length) :
  insL (goesL (o.irs.getD i default) i) o.irs.length=true↔((goesB (o.irs.getD i default).op=true→insB o.irs.length (o.irs.getD i default).n=true)∧(fallsB (o.irs.getD i default).op=true→i+1<o.irs.length)):=by
 rw [insL_iff]
 unfold goesL goesB fallsB insB
 generalize (o.irs.getD i default).op=op at *
 generalize (o.irs.getD i default).n=n
 by_cases h9:op=9
 ·subst h9;simp
 ·rw [if_neg h9]
  by_cases h10:op=10∨op=11
  ·rw [if_pos h10]
   rcases h10 with rfl|rfl <;> simp
  ·rw [if_neg h10]
   have e1:(!(op == 9||op == 10||op == 11))=true:=by simp;omega
   by_cases h3:op=3∨op=6
   ·rw [if_pos h3]
    have e2:(op == 3||op == 6||op == 9)=true:=by simp;omega
    rw [e1,e2]
    simp only [true_implies,decide_eq_true_eq]
    split
    ·simp;omega
    ·split
     ·simp;omega
     ·simp;omega
   ·rw [if_neg h3]
    have e2:(op == 3||op == 6||op == 9)=false:=by simp;omega
    rw [e1,e2]
    simp
    omega
theorem row_iff {o:DO} {i:Nat} (hi:i<o.irs.length):RowP o i↔(((o.types.getD i []).length:Nat):Int)=o.regs∧shapedX o (o.irs.getD i default) (o.descs.getD i [])=true∧(fallsB (o.irs.getD i default).op=true→i+1<o.irs.length):=by
 have key:(framedB (o.irs.getD i default) (o.descs.getD i [])=true∧(goesB (o.irs.getD i default).op=true→insB o.irs.length (o.irs.getD i default).n=true)∧((o.irs.getD i default).op=10→0≤(o.irs.getD i default).n∧(o.irs.getD i default).n≤o.regs))↔swB o (o.irs.getD i default) (o.descs.getD i [])=false:=by
  unfold framedB swB goesB
  generalize (o.irs.getD i default).op=op
  by_cases h12:op=12
  ·subst h12
   cases h1:insB (o.descs.getD i []).length (o.irs.getD i default).n
   ·simp
   ·cases h2:insB (o.descs.getD i []).length ((o.descs.getD i []).getD (o.irs.getD i default).n.toNat default).up <;> simp
  ·by_cases h13:op=13
   ·subst h13
    cases h1:insB (o.descs.getD i []).length (o.irs.getD i default).m <;> simp
   ·by_cases h10:op=10
    ·subst h10;simp
    ·simp only [h12,h13,h10,if_false]
     by_cases hg:(op == 3||op == 6||op == 9)=true
     ·rw [hg]
      cases hb:insB o.irs.length (o.irs.getD i default).n <;> simp
     ·simp only [Bool.not_eq_true] at hg
      rw [hg];simp
 have hshape:shapedX o (o.irs.getD i default) (o.descs.getD i [])=true↔(1≤(o.irs.getD i default).op∧(o.irs.getD i default).op≤16)∧(o.irs.getD i default).args.length≤20∧swB o (o.irs.getD i default) (o.descs.getD i [])=false∧badL o (usedL (o.irs.getD i default) (o.descs.getD i []))=false∧(setsB (o.irs.getD i default).op=true→0≤(o.irs.getD i default).d∧(o.irs.getD i default).d<o.regs)∧badL o (usesL (o.descs.getD i []))=false:=by
  unfold shapedX regB
  simp only [Bool.and_eq_true,decide_eq_true_eq,Bool.not_eq_true',Bool.or_eq_true,Bool.not_eq_true]
  constructor
  ·rintro ⟨h1,h2,h3,h4,h5,h6,h7⟩
   exact ⟨⟨h1,h2⟩,h3,h4,h5,fun hs=>h6.resolve_left (by rw [hs];decide),h7⟩
  ·rintro ⟨⟨h1,h2⟩,h3,h4,h5,h6,h7⟩
   refine ⟨h1,h2,h3,h4,h5,?_,h7⟩
   cases hs:setsB (o.irs.getD i default).op
   ·exact .inl rfl
   ·exact .inr (h6 hs)
 rw [hshape,← key,badL_iff,badL_iff]
 constructor
 ·intro h
  have hg:=(goes_of h.op hi).1 h.goes
  exact ⟨h.ty,⟨h.op,h.args,⟨h.fr,hg.1,h.ret⟩,insL_iff.1 h.used,h.d,insL_iff.1 h.uses⟩,hg.2⟩
 ·rintro ⟨h1,⟨h2,h3,⟨h4,h5,h6⟩,h7,h8,h9⟩,h10⟩
  exact ⟨h2,h3,h1,h4,insL_iff.2 h7,insL_iff.2 h9,h8,(goes_of h2 hi).2 ⟨h5,h10⟩,h6⟩
open Classical in
theorem shaped_open {o:DO}:shapedB o=true↔OpenP o:=by
 unfold shapedB
 rw [decide_eq_true_eq]
 constructor
 ·rintro ⟨h,hr⟩
  have hrow:=fun i hi=>(row_iff hi).1 (hr i hi)
  refine ⟨h.ne,h.le,h.hd,h.ht,h.r1,h.r2,fun i hi=>(hrow i hi).1,fun i hi=>(hrow i hi).2.1,?_⟩
  have hne:=h.ne
  cases hb:fallsB (o.irs.getD (o.irs.length - 1) default).op
  ·rfl
  ·have:=(hrow (o.irs.length - 1) (by omega)).2.2 hb
   omega
 ·intro h
  refine ⟨⟨h.ne,h.le,h.hd,h.ht,h.r1,h.r2⟩,fun i hi=>(row_iff hi).2 ⟨h.ty i hi,h.sh i hi,fun hf=>?_⟩⟩
  refine Classical.byContradiction fun hc=>?_
  obtain rfl:i=o.irs.length - 1:=by omega
  rw [h.la] at hf;cases hf
end Go.Ab
namespace Go.Ab
open Go.Proofs
set_option maxRecDepth 100000
set_option maxHeartbeats 4000000

theorem Shaped_spec (o : DO) (hf : fewN o ≤ 6000) (hl : o.irs.length ≤ 1048576 ∧ o.descs.length ≤ 1048576 ∧ o.types.length ≤ 1048576) : CallsF Tryz.prog 33 [.fptr 12 (rowL (dol o)) 0] (.bool (shapedB o)) := by
  refine callsF_ofS mx Tryz.call33 Tryz.func33 rfl Tryz.ntmps33 Tryz.results33 (by kernel_rfl) (by simp) fun lo => ?_
  repeat'(first|refine vcI ?_|refine And.intro ?_ ?_|(intro hq;(try simp at hq);(try(exfalso;omega));(try(revert hq;intro))))
  · simp; omega
  · simp; omega
  · rw [head_no fun h => by obtain ⟨h1, h2, h3, h4, h5, h6⟩ := h; omega]; exact .refl _
  · have hH : HeadP o := by constructor <;> omega
    have hil := hH.le
    refine loopS mx (by decide) (by kernel_rfl) (fun i : Nat => i ≤ o.irs.length ∧ ∀ j, j < i → RowP o j) (fun i => [(4, .int .i64 i), (3, .int .i64 o.irs.length), (0, .fptr 12 (rowL (dol o)) 0)]) (fun _ => []) (fun i => o.irs.length - i) 0 (by simp) ⟨by ((repeat' apply And.intro) <;> (first | exact True.intro | exact NEq.refl _ | (refine NEq.int ?_; first | exact rfl | omega | (rw [wrapI (by omega)]; first | exact rfl | omega)))), trivial, .nil⟩ ?_
    rintro i nv ⟨hi, hI⟩
    have hwi : IntKind.i64.wrap ((i : Int) + 1) = ((i + 1 : Nat) : Int) := wrapI (by omega)
    have hdd := hH.hd
    have htt := hH.ht
    repeat refine vcI ?_
    refine And.intro (fun hin => ?_) (fun hin => ?_)
    · have hin2 : i < o.irs.length := by simpa using hin
      repeat refine vcI ?_
      rw [show Tryz.prog.cellsOf 58 = 16 by kernel_rfl]
      repeat'(first|refine vcI ?_|refine And.intro ?_ ?_|(intro hq;(try simp at hq);(try(exfalso;omega));(try(revert hq;intro))))
      · simp; omega
      · simp; omega
      · have hc0 : 1 ≤ (o.irs[i]?.getD default).op ∧ (o.irs[i]?.getD default).op ≤ 16 ∧ (o.irs[i]?.getD default).args.length ≤ 20 ∧ (((o.types[i]?.getD []).length : Nat) : Int) = o.regs := by omega
        have hc : 1 ≤ (o.irs.getD i default).op ∧ (o.irs.getD i default).op ≤ 16 ∧ (o.irs.getD i default).args.length ≤ 20 ∧ (((o.types.getD i []).length : Nat) : Int) = o.regs := hc0
        have b1 : decide ((o.irs.getD (i : Int).toNat default).op < 1) = false := by rw [Int.toNat_natCast]; exact decide_eq_false (by omega)
        have b2 : decide ((o.irs.getD (i : Int).toNat default).op > 16) = false := by rw [Int.toNat_natCast]; exact decide_eq_false (by omega)
        have b3 : decide ((((o.irs.getD (i : Int).toNat default).args.length : Nat) : Int) > 20) = false := by rw [Int.toNat_natCast]; exact decide_eq_false (by omega)
        have b4 : ((((o.types.getD (i : Int).toNat []).length : Nat) : Int) != o.regs) = false := by rw [Int.toNat_natCast, hc.2.2.2]; simp
        rw [b1, b2, b3, b4]
        have hfr : frN (o.descs.getD i []) ≤ 6000 := by
          have h1 := sumL_mem (f := frN) (l := o.descs) (x := o.descs.getD i []) (by rw [List.getD_eq_getElem?_getD]; exact getD_mem _ (by omega))
          unfold fewN at hf
          omega
        have hdl : (o.descs.getD i []).length ≤ 1048576 := by have := hfr; unfold frN at this; omega
        have hx : (o.irs.getD i default).args.length ≤ 1048576 := by omega
        have hfs := framed_spec (o.irs.getD i default) (o.descs.getD i []) hdl
        rcases hfb : framedB (o.irs.getD i default) (o.descs.getD i []) with _ | _
        · rw [hfb] at hfs
          first
          | refine CallS.frozen (.bool false) hfs (plainAll rfl) ?_
          | refine QS.frozen (.bool false) hfs (plainAll rfl) ?_
          repeat'(first|refine vcI ?_|refine And.intro ?_ ?_|(intro hq;(try simp at hq);(try(exfalso;omega));(try(revert hq;intro))))
          rw [row_no hin2 fun h => by have h1 := h.fr; rw [hfb] at h1; cases h1]; exact .refl _
        · rw [hfb] at hfs
          first
          | refine CallS.frozen (.bool true) hfs (plainAll rfl) ?_
          | refine QS.frozen (.bool true) hfs (plainAll rfl) ?_
          repeat'(first|refine vcI ?_|refine And.intro ?_ ?_|(intro hq;(try simp at hq);(try(exfalso;omega));(try(revert hq;intro))))
          refine QS.own (oints (usedL (o.irs.getD i default) (o.descs.getD i []))) (fun id ver => .ref id ver [] 1 0 (usedL (o.irs.getD i default) (o.descs.getD i [])).length) (Used_spec (o.irs.getD i default) (o.descs.getD i []) hx) (plainAll rfl) ?_
          repeat'(first|refine vcI ?_|refine And.intro ?_ ?_|(intro hq;(try simp at hq);(try(exfalso;omega));(try(revert hq;intro))))
          have huu := usedL_len (o.irs.getD i default) (o.descs.getD i []) hx
          have hin1 := inside_spec (usedL (o.irs.getD i default) (o.descs.getD i [])) o.regs (by have := usedL_len (o.irs.getD i default) (o.descs.getD i []) (b := 20) (by omega); omega)
          rcases hu1 : insL (usedL (o.irs.getD i default) (o.descs.getD i [])) o.regs with _ | _
          · change CallsF _ _ _ (.bool (insL (usedL (o.irs.getD i default) (o.descs.getD i [])) o.regs)) at hin1
            rw [hu1] at hin1
            first
            | refine CallS.plain [ints (usedL (o.irs.getD i default) (o.descs.getD i [])), .int .i64 o.regs] (.bool false) hin1 (LeL.cons (view_ints (k := 7) rfl rfl) (LeL.cons (.refl _) LeL.nil)) trivial ?_
            | refine QS.plain [ints (usedL (o.irs.getD i default) (o.descs.getD i [])), .int .i64 o.regs] (.bool false) rfl hin1 (LeL.cons (view_ints (k := 7) rfl rfl) (LeL.cons (.refl _) LeL.nil)) trivial ?_
            repeat'(first|refine vcI ?_|refine And.intro ?_ ?_|(intro hq;(try simp at hq);(try(exfalso;omega));(try(revert hq;intro))))
            rw [row_no hin2 fun h => by have h1 := h.used; rw [hu1] at h1; cases h1]; exact .refl _
          · change CallsF _ _ _ (.bool (insL (usedL (o.irs.getD i default) (o.descs.getD i [])) o.regs)) at hin1
            rw [hu1] at hin1
            first
            | refine CallS.plain [ints (usedL (o.irs.getD i default) (o.descs.getD i [])), .int .i64 o.regs] (.bool true) hin1 (LeL.cons (view_ints (k := 7) rfl rfl) (LeL.cons (.refl _) LeL.nil)) trivial ?_
            | refine QS.plain [ints (usedL (o.irs.getD i default) (o.descs.getD i [])), .int .i64 o.regs] (.bool true) rfl hin1 (LeL.cons (view_ints (k := 7) rfl rfl) (LeL.cons (.refl _) LeL.nil)) trivial ?_
            repeat'(first|refine vcI ?_|refine And.intro ?_ ?_|(intro hq;(try simp at hq);(try(exfalso;omega));(try(revert hq;intro))))
            first
            | refine CallS.frozen (ints (usesL (o.descs.getD i []))) (Uses_spec (o.descs.getD i []) hfr) (plainAll rfl) ?_
            | refine QS.frozen (ints (usesL (o.descs.getD i []))) (Uses_spec (o.descs.getD i []) hfr) (plainAll rfl) ?_
            repeat'(first|refine vcI ?_|refine And.intro ?_ ?_|(intro hq;(try simp at hq);(try(exfalso;omega));(try(revert hq;intro))))
            have hus := usesL_len [] (o.descs.getD i [])
            have hus2 : (usesL (o.descs.getD i [])).length ≤ 30000 := by
              unfold frN at hfr
              unfold usesL
              simp only [List.length_nil] at hus
              omega
            have hin2s := inside_spec (usesL (o.descs.getD i [])) o.regs (by omega)
            change CallsF _ _ _ (.bool (insL (usesL (o.descs.getD i [])) o.regs)) at hin2s
            rcases hu2 : insL (usesL (o.descs.getD i [])) o.regs with _ | _
            · rw [hu2] at hin2s
              first
              | refine CallS.frozen (.bool false) hin2s (plainAll rfl) ?_
              | refine QS.frozen (.bool false) hin2s (plainAll rfl) ?_
              repeat'(first|refine vcI ?_|refine And.intro ?_ ?_|(intro hq;(try simp at hq);(try(exfalso;omega));(try(revert hq;intro))))
              rw [row_no hin2 fun h => by have h1 := h.uses; rw [hu2] at h1; cases h1]; exact .refl _
            · rw [hu2] at hin2s
              first
              | refine CallS.frozen (.bool true) hin2s (plainAll rfl) ?_
              | refine QS.frozen (.bool true) hin2s (plainAll rfl) ?_
              repeat'(first|refine vcI ?_|refine And.intro ?_ ?_|(intro hq;(try simp at hq);(try(exfalso;omega));(try(revert hq;intro))))
              have hss := sets_spec (o.irs.getD i default).op
              have hgs := Goes_spec (o.irs.getD i default) i (by omega)
              have hgl : (goesL (o.irs.getD i default) i).length ≤ 2 := goesL_len _ _
              have hin3 := inside_spec (goesL (o.irs.getD i default) i) o.irs.length (by omega)
              change CallsF _ _ _ (.bool (insL (goesL (o.irs.getD i default) i) o.irs.length)) at hin3
              rcases hsb : setsB (o.irs.getD i default).op with _ | _
              · rw [hsb] at hss
                first
                | refine CallS.frozen (.bool false) hss (plainAll rfl) ?_
                | refine QS.frozen (.bool false) hss (plainAll rfl) ?_
                repeat'(first|refine vcI ?_|refine And.intro ?_ ?_|(intro hq;(try simp at hq);(try(exfalso;omega));(try(revert hq;intro))))
                have hD : setsB (o.irs.getD i default).op = true → 0 ≤ (o.irs.getD i default).d ∧ (o.irs.getD i default).d < o.regs := fun h => by rw [hsb] at h; cases h
                refine QS.own (oints (goesL (o.irs.getD i default) i)) (fun id ver => .ref id ver [] 1 0 (goesL (o.irs.getD i default) i).length) hgs (plainAll rfl) ?_
                repeat'(first|refine vcI ?_|refine And.intro ?_ ?_|(intro hq;(try simp at hq);(try(exfalso;omega));(try(revert hq;intro))))
                rcases hu3 : insL (goesL (o.irs.getD i default) i) o.irs.length with _ | _
                · rw [hu3] at hin3
                  first
                  | refine CallS.plain [ints (goesL (o.irs.getD i default) i), .int .i64 o.irs.length] (.bool false) hin3 (LeL.cons (view_ints (k := 7) rfl rfl) (LeL.cons (.refl _) LeL.nil)) trivial ?_
                  | refine QS.plain [ints (goesL (o.irs.getD i default) i), .int .i64 o.irs.length] (.bool false) rfl hin3 (LeL.cons (view_ints (k := 7) rfl rfl) (LeL.cons (.refl _) LeL.nil)) trivial ?_
                  repeat'(first|refine vcI ?_|refine And.intro ?_ ?_|(intro hq;(try simp at hq);(try(exfalso;omega));(try(revert hq;intro))))
                  rw [row_no hin2 fun h => by have h1 := h.goes; rw [hu3] at h1; cases h1]; exact .refl _
                · rw [hu3] at hin3
                  first
                  | refine CallS.plain [ints (goesL (o.irs.getD i default) i), .int .i64 o.irs.length] (.bool true) hin3 (LeL.cons (view_ints (k := 7) rfl rfl) (LeL.cons (.refl _) LeL.nil)) trivial ?_
                  | refine QS.plain [ints (goesL (o.irs.getD i default) i), .int .i64 o.irs.length] (.bool true) rfl hin3 (LeL.cons (view_ints (k := 7) rfl rfl) (LeL.cons (.refl _) LeL.nil)) trivial ?_
                  repeat'(first|refine vcI ?_|refine And.intro ?_ ?_|(intro hq;(try simp at hq);(try(exfalso;omega));(try(revert hq;intro))))
                  iterate 3
                    · first
                      | rfl
                      | (have hb10 : ((o.irs.getD (i : Int).toNat default).op == 10) = true := by
                           have : (o.irs[i]?.getD default).op = 10 := by omega
                           exact beq_iff_eq.2 this
                         first
                         | (have hbn : decide ((o.irs.getD (i : Int).toNat default).n < 0) = false := decide_eq_false (by show ¬ (o.irs[i]?.getD default).n < 0; omega)
                            rw [hb10, hbn]; rfl)
                         | (rw [hb10]; rfl))
                  · rw [row_no hin2 fun h => by have h1 := h.ret; simp only [List.getD_eq_getElem?_getD] at h1; omega]; exact .refl _
                  · refine Exists.intro (i + 1) ⟨⟨by omega, fun j hj => ?_⟩, (by first | omega | (dsimp only; omega)), ⟨by ((repeat' apply And.intro) <;> (first | exact True.intro | exact NEq.refl _ | (refine NEq.int ?_; first | exact rfl | omega | (rw [wrapI (by omega)]; first | exact rfl | omega)))), trivial, .nil⟩⟩
                    by_cases e : j = i
                    · subst e
                      refine ⟨⟨hc.1, hc.2.1⟩, hc.2.2.1, hc.2.2.2, hfb, hu1, hu2, hD, hu3, fun h10 => ?_⟩
                      simp only [List.getD_eq_getElem?_getD] at h10 ⊢
                      omega
                    · exact hI j (by omega)
              · rw [hsb] at hss
                first
                | refine CallS.frozen (.bool true) hss (plainAll rfl) ?_
                | refine QS.frozen (.bool true) hss (plainAll rfl) ?_
                repeat'(first|refine vcI ?_|refine And.intro ?_ ?_|(intro hq;(try simp at hq);(try(exfalso;omega));(try(revert hq;intro))))
                · have hbd : decide ((o.irs.getD (i : Int).toNat default).d < 0) = false := decide_eq_false (by show ¬ (o.irs[i]?.getD default).d < 0; omega)
                  rw [hbd]; rfl
                · rw [row_no hin2 fun h => by have h1 := h.d hsb; simp only [List.getD_eq_getElem?_getD] at h1; omega]; exact .refl _
                · have hD : setsB (o.irs.getD i default).op = true → 0 ≤ (o.irs.getD i default).d ∧ (o.irs.getD i default).d < o.regs := fun _ => by assumption
                  refine QS.own (oints (goesL (o.irs.getD i default) i)) (fun id ver => .ref id ver [] 1 0 (goesL (o.irs.getD i default) i).length) hgs (plainAll rfl) ?_
                  repeat'(first|refine vcI ?_|refine And.intro ?_ ?_|(intro hq;(try simp at hq);(try(exfalso;omega));(try(revert hq;intro))))
                  rcases hu3 : insL (goesL (o.irs.getD i default) i) o.irs.length with _ | _
                  · rw [hu3] at hin3
                    first
                    | refine CallS.plain [ints (goesL (o.irs.getD i default) i), .int .i64 o.irs.length] (.bool false) hin3 (LeL.cons (view_ints (k := 7) rfl rfl) (LeL.cons (.refl _) LeL.nil)) trivial ?_
                    | refine QS.plain [ints (goesL (o.irs.getD i default) i), .int .i64 o.irs.length] (.bool false) rfl hin3 (LeL.cons (view_ints (k := 7) rfl rfl) (LeL.cons (.refl _) LeL.nil)) trivial ?_
                    repeat'(first|refine vcI ?_|refine And.intro ?_ ?_|(intro hq;(try simp at hq);(try(exfalso;omega));(try(revert hq;intro))))
                    rw [row_no hin2 fun h => by have h1 := h.goes; rw [hu3] at h1; cases h1]; exact .refl _
                  · rw [hu3] at hin3
                    first
                    | refine CallS.plain [ints (goesL (o.irs.getD i default) i), .int .i64 o.irs.length] (.bool true) hin3 (LeL.cons (view_ints (k := 7) rfl rfl) (LeL.cons (.refl _) LeL.nil)) trivial ?_
                    | refine QS.plain [ints (goesL (o.irs.getD i default) i), .int .i64 o.irs.length] (.bool true) rfl hin3 (LeL.cons (view_ints (k := 7) rfl rfl) (LeL.cons (.refl _) LeL.nil)) trivial ?_
                    repeat'(first|refine vcI ?_|refine And.intro ?_ ?_|(intro hq;(try simp at hq);(try(exfalso;omega));(try(revert hq;intro))))
                    iterate 3
                      · first
                        | rfl
                        | (have hb10 : ((o.irs.getD (i : Int).toNat default).op == 10) = true := by
                             have : (o.irs[i]?.getD default).op = 10 := by omega
                             exact beq_iff_eq.2 this
                           first
                           | (have hbn : decide ((o.irs.getD (i : Int).toNat default).n < 0) = false := decide_eq_false (by show ¬ (o.irs[i]?.getD default).n < 0; omega)
                              rw [hb10, hbn]; rfl)
                           | (rw [hb10]; rfl))
                    · rw [row_no hin2 fun h => by have h1 := h.ret; simp only [List.getD_eq_getElem?_getD] at h1; omega]; exact .refl _
                    · refine Exists.intro (i + 1) ⟨⟨by omega, fun j hj => ?_⟩, (by first | omega | (dsimp only; omega)), ⟨by ((repeat' apply And.intro) <;> (first | exact True.intro | exact NEq.refl _ | (refine NEq.int ?_; first | exact rfl | omega | (rw [wrapI (by omega)]; first | exact rfl | omega)))), trivial, .nil⟩⟩
                      by_cases e : j = i
                      · subst e
                        refine ⟨⟨hc.1, hc.2.1⟩, hc.2.2.1, hc.2.2.2, hfb, hu1, hu2, hD, hu3, fun h10 => ?_⟩
                        simp only [List.getD_eq_getElem?_getD] at h10 ⊢
                        omega
                      · exact hI j (by omega)
      iterate 3
        · rw [row_no hin2 fun h => by have h1 := h.op; have h2 := h.args; have h3 := h.ty; simp only [List.getD_eq_getElem?_getD] at h1 h2 h3; omega]; exact .refl _
    · obtain rfl : i = o.irs.length := by simp at hin; omega
      repeat'(first|refine vcI ?_|refine And.intro ?_ ?_|(intro hq;(try simp at hq);(try(exfalso;omega));(try(revert hq;intro))))
      rw [show shapedB o = true by exact shapedB_yes ⟨hH, hI⟩]
      exact .refl _
  · rw [head_no fun h => by obtain ⟨h1, h2, h3, h4, h5, h6⟩ := h; omega]; exact .refl _
  · rw [head_no fun h => by obtain ⟨h1, h2, h3, h4, h5, h6⟩ := h; omega]; exact .refl _
end Go.Ab
namespace Go.Ab
open Go.Proofs
set_option maxRecDepth 100000
set_option maxHeartbeats 1000000

noncomputable def rowLs (o:DO) (i k:Nat):List Int:=((List.range k).filter fun r=>lvB o i r).map fun (r:Nat)=>(r:Int)
theorem listW_filter (s:Nat→Nat):∀ k,listW s k=((List.range k).filter fun r=>bitW s r).map fun (r:Nat)=>(r:Int)
 | 0=>by simp [listW]
 | k+1=>by
  rw [List.range_succ,List.filter_append,List.map_append,← listW_filter s k]
  cases h:bitW s k
  ·rw [listW_no h];simp [h]
  ·rw [listW_yes h];simp [h]
theorem filter_more {p:Nat→Bool} {m n:Nat} (hmn:m≤n) (h:∀ r,m≤r→p r=false):(List.range n).filter p=(List.range m).filter p:=by
 induction n with
 | zero =>
  obtain rfl:m=0:=by omega
  rfl
 | succ n ih =>
  by_cases e:m=n+1
  ·rw [e]
  ·rw [List.range_succ,List.filter_append,ih (by omega)]
   have:=h n (by omega)
   simp [this]
theorem rowLs_live {o:DO} (H:FlH o) {i:Nat} (hi:i<o.irs.length):rowLs o i o.regs.toNat=liveL o i:=by
 have hr:=H.hr
 unfold rowLs liveL
 rw [listW_filter]
 congr 1
 rw [← filter_more (n:=250) (by omega) fun r h=>?_]
 ·refine List.filter_congr fun r hr=>?_
  rw [Bool.eq_iff_iff,lvB_iff,bit_wordsP]
 ·cases hb:lvB o i r
  ·rfl
  ·have:=(lvB_iff.1 hb).lt H;omega
end Go.Ab
namespace Go.Ab
open Go.Proofs
set_option maxRecDepth 100000
set_option maxHeartbeats 4000000

theorem view_opt {hp:Hp} {r:RId} {v:Nat} {o:DO} (h:lkH hp r=some ⟨v,.obox 12 (rowL (dol o))⟩):NEq (view 9 hp (.ptr r v [] 0 0)) (.fptr 12 (rowL (dol o)) 0):=by
 refine view_box (k:=8) h fun j hj=>?_
 rcases (by omega:j=0∨j=1∨j=2∨j=3∨j=4∨j=5∨j=6∨j=7∨j=8∨j=9∨j=10∨j=11) with rfl|rfl|rfl|rfl|rfl|rfl|rfl|rfl|rfl|rfl|rfl|rfl <;> exact .refl _
theorem view_bb {hp:Hp} {r:RId} {v n m:Nat} {W:Nat→Nat→Bool} (h:lkH hp r=some ⟨v,bbN n m W⟩):NEq (view 9 hp (.ref r v [] 1 0 n)) (frb n m W):=by
 rw [view,h]
 simp only [if_true,getAt,bbN]
 refine NEq.frzs rfl (by omega) fun i o hi ho=>?_
 rw [Nat.zero_add]
 exact .refl _

theorem rowLs_succ (o:DO) (i k:Nat):rowLs o i (k+1)=if lvB o i k=true then rowLs o i k++[(k:Int)] else rowLs o i k:=by
 unfold rowLs
 rw [List.range_succ,List.filter_append,List.map_append]
 split <;> rename_i h <;> simp [h]
end Go.Ab
namespace Go.Ab
open Go.Proofs
set_option maxRecDepth 100000
set_option maxHeartbeats 4000000

theorem rangePairs {lv:Nat} {nt:FS} {S L:Hp} {tm:Tm} {nv:Nat} {Q:Post} {g:Operand} {ps:Array Tmp} {assign body:Code} (o:DO) (H:FlH o) (hr1:1≤o.regs) (hS:Above 2 S)
  (hg:ev tm g = .func (.func 83) [] [.fptr 1 (fun _=>codeP o (frW o.irs.length fun i=>wordsP (LiveP o i))) 0]) (Inv:List (Int × Int)→Hp→Prop) (Brk:Hp→Prop) (mem:Hp)
  (hL:∀ j,j≠(1,1001)→lkH mem j=lkH L j) (h0:Inv [] mem) (hnd:∀ p M,Inv p M∨Brk M→(((1,1001):RId)::M.map (·.1)).Nodup∧Above 2 M)
  (hst:∀ S' pre M nv' a b,Inv pre M→(a,b)∈collL o→pre.length≤100000→YieldS Tryz.prog S' (1,1001) nv [.agg [.int .i64 a,.int .i64 b]] (((1,1001),⟨nv,.oloop ⟨.ready,none,nt.n,ps,assign,body⟩ (lk tm)⟩)::M) nv' fun y L' _ =>
   (y = .bool true∧∃ M',L'=((1,1001),⟨nv,.oloop ⟨.ready,none,nt.n,ps,assign,body⟩ (lk tm)⟩)::M'∧Inv (pre++[(a,b)]) M')∨(y = .bool false∧∃ c M',L'=((1,1001),⟨nv,.oloop ⟨.done,some .ret,nt.n,ps,assign,body⟩ c⟩)::M'∧Brk M'))
  (k1:∀ M nv',Inv (collL o) M→Q .normal tm (((1,1001),⟨nv,.oloop ⟨.exhausted,none,nt.n,ps,assign,body⟩ (lk tm)⟩)::M) nv') (k2:∀ c M nv',Brk M→Q .ret tm (((1,1001),⟨nv,.oloop ⟨.exhausted,some .ret,nt.n,ps,assign,body⟩ c⟩)::M) nv') :
  Ev Tryz.prog lv nt none (.rangeFunc g ps assign body) tm (L++S) nv (liftQ S Q):=by
 have hno:∀ {p M},Inv p M∨Brk M→lkH M (1,1001)=none:=fun h=>lkH_none.2 (List.nodup_cons.1 (hnd _ _ h).1).1
 have hab:∀ {x:Root} {p M},Inv p M∨Brk M→Above 2 (((1,1001),x)::M):=fun h=>(hnd _ _ h).2.cons (by decide)
 refine rangeS (1,1001) (by decide) hg (fun _ hp' _=>∃ L',hp'=L'++S∧((∃ M',L'=((1,1001),⟨nv,.oloop ⟨.ready,none,nt.n,ps,assign,body⟩ (lk tm)⟩)::M'∧Inv (collL o) M')∨∃ _:List (Int × Int),∃ c M',L'=((1,1001),⟨nv,.oloop ⟨.done,some .ret,nt.n,ps,assign,body⟩ c⟩)::M'∧Brk M')) (((1,1001),⟨nv,.oloop ⟨.ready,none,nt.n,ps,assign,body⟩ (lk tm)⟩)::mem) (fun j=>?_) ?_ ?_
 ·simp only [lkH]
  by_cases e:j=(1,1001)
  ·rw [if_pos e,if_pos e]
  ·rw [if_neg e,if_neg e,hL j e]
 ·refine pairs1_spec o H hr1 (1,1001) nv (nv+1) _ S hS (fun p L=>∃ M',L=((1,1001),⟨nv,.oloop ⟨.ready,none,nt.n,ps,assign,body⟩ (lk tm)⟩)::M'∧Inv p M') (fun _ L=>∃ c M',L=((1,1001),⟨nv,.oloop ⟨.done,some .ret,nt.n,ps,assign,body⟩ c⟩)::M'∧Brk M') ⟨mem,rfl,h0⟩ ?_ ?_
  ·rintro p L (⟨M,rfl,h⟩|⟨c,M,rfl,h⟩)
   ·exact ⟨(hnd p M (.inl h)).1,hab (.inl h)⟩
   ·exact ⟨(hnd p M (.inr h)).1,hab (p:=p) (.inr h)⟩
  ·rintro S' pre L nv' a b ⟨M,rfl,h⟩ hm hpl
   exact hst S' pre M nv' a b h hm hpl
 ·rintro res hp' nv' ⟨L',rfl,⟨M,rfl,h⟩|⟨_,c,M,rfl,h⟩⟩
  ·refine ⟨_,Rep.mk' S _,rfl,(fun h=>by cases h),?_⟩
   rw [delS_hd,delS_id (hno (.inl h))]
   exact k1 M nv' h
  ·refine ⟨_,Rep.mk' S _,rfl,(fun h=>by cases h),?_⟩
   rw [delS_hd,delS_id (hno (p:=[]) (.inr h))]
   exact k2 c M nv' h

theorem bad1_spec (o:DO) (lv:PV) (r:Int):CallsF Tryz.prog 90 [.int .i64 r,.fptr 1 (fun _=>codeP o lv) 0] (.bool (!regB o r)):=by
 refine callsF_ofS mx Tryz.call90 Tryz.func90 rfl Tryz.ntmps90 Tryz.results90 (by kernel_rfl) (by simp) fun lo=>?_
 repeat'(first|refine vcI ?_|refine And.intro ?_ ?_|(intro hq;(try simp at hq);(try(exfalso;omega));(try(revert hq;intro))))
 refine CallS.frozen (.bool (regB o r)) (reg_spec o lv r) (plainAll rfl) ?_
 repeat'(first|refine vcI ?_|refine And.intro ?_ ?_|(intro hq;(try simp at hq);(try(exfalso;omega));(try(revert hq;intro))))
 exact .refl _
structure PlacesP (o:DO) (l:List Int):Prop where
 live:∀ r∈liveL o 0,l.getD r.toNat 0=r
 apart:∀ p∈collL o,l.getD p.1.toNat 0≠l.getD p.2.toNat 0
open Classical in
noncomputable def chkE (o:DO) (l:List Int):Int:=if OpenP o then (if (l.length:Int)=o.regs∧∀ p∈l,regB o p=true then (if PlacesP o l then 0 else 210) else 1) else 210
noncomputable def placedR (o:DO) (l:List Int):PV:=if chkE o l=0 then .tup [codeP o (frW o.irs.length fun i=>wordsP (LiveP o i)),.int .i64 0] else .tup [.nilp,.int .i64 (chkE o l)]
theorem placedR_bad {o:DO} {l:List Int} {e:Int} (h:chkE o l=e) (hz:e≠0):placedR o l = .tup [.nilp,.int .i64 e]:=by unfold placedR;rw [h,if_neg hz]
theorem placedR_ok {o:DO} {l:List Int} (h:chkE o l=0):placedR o l = .tup [codeP o (frW o.irs.length fun i=>wordsP (LiveP o i)),.int .i64 0]:=by unfold placedR;rw [if_pos h]
noncomputable def mem53 (o:DO) (l:List Int) (v6 v5 v4 v3:Nat):Hp:=[((1,6),⟨v6,.obox 1 fun _=>codeP o (frW o.irs.length fun i=>wordsP (LiveP o i))⟩),((1,5),⟨v5,.obox 1 fun _ => .int .i64 0⟩),((1,4),⟨v4,.obox 1 fun _ => .nilp⟩),((1,3),⟨v3,.obox 1 fun _=>ints l⟩)]
def cst (e old:PV):Nat→PV:=fun b=>if 0≤b∧b<0+1 then List.getD [e] (b - 0) .undef else old
def brk53 (o:DO) (l:List Int) (v6 v5 v4 v3:Nat) (M:Hp):Prop:=¬ PlacesP o l∧∃ x,M=[((1,5),⟨v5,.obox 1 (cst (.int .i64 210) (.int .i64 0))⟩),((1,4),⟨v4,.obox 1 (cst .nilp .nilp)⟩),((1,10),x),((1,6),⟨v6,.obox 1 fun _=>codeP o (frW o.irs.length fun i=>wordsP (LiveP o i))⟩),((1,3),⟨v3,.obox 1 fun _=>ints l⟩)]
theorem Above.chk0 {n:Nat} {L:Hp} (h:(L.all fun x=>Nat.blt x.1.1 n)=true):Above n L:=by
 have:=Above.chk (S:=[]) h Above.nil
 rwa [List.append_nil] at this
theorem placed_spec (o:DO) (l:List Int) (hll:l.length≤1048576) (hf:fewN o≤6000) (hs:∀ l∈o.descs,l.length≤1048576∧∀ f∈l,f.small):CallsF Tryz.prog 45 [.agg (dol o),ints l] (placedR o l):=by
 have ho:=open_spec o hf hs
 refine callsF_ofS mx Tryz.call45 Tryz.func45 rfl Tryz.ntmps45 Tryz.results45 (by kernel_rfl) (by simp) fun lo=>?_
 repeat'(first|refine vcI ?_|refine And.intro ?_ ?_|(intro hq;(try simp at hq);(try(exfalso;omega));(try(revert hq;intro))))
 rw [mk_opt]
 by_cases HO:OpenP o
 ·rw [openR_ok HO] at ho
  refine CallS.frozen (.tup [codeP o (frW o.irs.length fun i=>wordsP (LiveP o i)),.int .i64 0]) ho (plainAll rfl) ?_
  repeat'(first|refine vcI ?_|refine And.intro ?_ ?_|(intro hq;(try simp at hq);(try(exfalso;omega));(try(revert hq;intro))))
  ·have hle:(l.length:Int)=o.regs:=by assumption
   have hbl:((l.length:Int) != o.regs)=false:=by rw [hle];simp
   rw [hbl]
   have hcf:=ContainsFuncN l 90 (.fptr 1 (fun _=>codeP o (frW o.irs.length fun i=>wordsP (LiveP o i))) 0) (fun r=>!regB o r) trivial (fun x=>bad1_spec o _ x)
   rcases hany:(l.any fun r=>!regB o r) with _|_
   ·rw [hany] at hcf
    refine CallS.plain [ints l,.func (.func 90) [] [.fptr 1 (fun _=>codeP o (frW o.irs.length fun i=>wordsP (LiveP o i))) 0]] (.bool false) hcf (LeL.cons (.refl _) (LeL.cons (NEq.clos (view_box (k:=7) rfl ?_)) LeL.nil)) trivial ?_
    ·intro q hq
     obtain rfl:q=0:=by have:q<1:=hq;omega
     exact .refl _
    have H:=HO.fl hf hs
    have hin:∀ p∈l,regB o p=true:=fun p hp=>by have:=List.any_eq_false.1 hany p hp;simpa using this
    have hok:PlacesP o l→chkE o l=0:=fun h=>by unfold chkE;rw [if_pos HO,if_pos ⟨hle,hin⟩,if_pos h]
    have hno:¬ PlacesP o l→chkE o l=210:=fun h=>by unfold chkE;rw [if_pos HO,if_pos ⟨hle,hin⟩,if_neg h]
    repeat'(first|refine vcI ?_|refine And.intro ?_ ?_|(intro hq;(try simp at hq);(try(exfalso;omega));(try(revert hq;intro))))
    ·have:=HO.ne;omega
    refine CallS.own (oints (liveL o 0)) (fun id ver => .ref id ver [] 1 0 (liveL o 0).length) (setList_spec (lvW o 0) (lvW_lt o 0)) (plainAll rfl) ?_
    repeat'(first|refine vcI ?_|refine And.intro ?_ ?_|(intro hq;(try simp at hq);(try(exfalso;omega));(try(revert hq;intro))))
    have hll0:(liveL o 0).length≤250:=listW_len _ _
    refine loopS6 mx (by decide) (by kernel_rfl) (fun (k v34 v6 v5 v4 v3:Nat)=>k≤(liveL o 0).length∧∀ r∈(liveL o 0).take k,l.getD r.toNat 0=r) (fun k v34 v6 v5 v4 v3=>[(36,.int .i64 k),(35,.int .i64 (liveL o 0).length),(34,.ref (1,34) v34 [] 1 0 (liveL o 0).length),(6,.ptr (1,6) v6 [] 0 0),(5,.ptr (1,5) v5 [] 0 0),(4,.ptr (1,4) v4 [] 0 0),(3,.ptr (1,3) v3 [] 0 0)]) (fun k v34 v6 v5 v4 v3=>((1,34),⟨v34,oints (liveL o 0)⟩)::mem53 o l v6 v5 v4 v3) (fun k v34 v6 v5 v4 v3=>(liveL o 0).length - k) 0 _ _ _ _ _ ⟨by simp,by simp⟩ ⟨by ((repeat' apply And.intro) <;> (first|exact True.intro|exact NEq.refl _|(refine NEq.int ?_;first|exact rfl|omega|(rw [wrapI (by omega)];first|exact rfl|omega)))),⟨⟨rfl,.refl _⟩,⟨rfl,.obox ?_⟩,⟨rfl,.obox ?_⟩,⟨rfl,.obox ?_⟩,⟨rfl,.obox ?_⟩,trivial⟩,.nil⟩ ?_
    iterate 4
     ·intro q hq
      obtain rfl:q=0:=by have:q<1:=hq;omega
      exact .refl _
    rintro k v34 v6 v5 v4 v3 nv ⟨hk,hI⟩
    have hwk:IntKind.i64.wrap ((k:Int)+1)=((k+1:Nat):Int):=wrapI (by omega)
    have hlt0:∀ j,j<(liveL o 0).length→0≤(liveL o 0).getD j 0∧(liveL o 0).getD j 0<(l.length:Int):=fun j hj=>by
     have h1:=list_lt H 0 ((liveL o 0).getD j 0) (by rw [List.getD_eq_getElem?_getD];exact getD_mem _ hj)
     have:=H.hr
     omega
    have ek:0+(k:Int).toNat=k:=by omega
    repeat'(first|refine vcI ?_|refine And.intro ?_ ?_|(intro hq;(try simp at hq);(try(exfalso;omega));(try(revert hq;intro))))
    ·rw [ek];exact (hlt0 k (by assumption)).1
    ·rw [ek];exact (hlt0 k (by assumption)).2
    ·rw [placedR_bad (hno fun h=>absurd (h.live _ (getD_mem 0 (by assumption:k<(liveL o 0).length))) (by assumption)) (by decide)]
     exact .refl _
    ·have hkl:k<(liveL o 0).length:=by assumption
     refine Exists.intro (k+1,v34,v6,v5,v4,v3) ⟨⟨by dsimp only;omega,fun r hr=>?_⟩,(by first|omega|(dsimp only;omega)),⟨by ((repeat' apply And.intro) <;> (first|exact True.intro|exact NEq.refl _|(refine NEq.int ?_;first|exact rfl|omega|(rw [wrapI (by omega)];first|exact rfl|omega)))),⟨⟨rfl,.refl _⟩,⟨rfl,.refl _⟩,⟨rfl,.refl _⟩,⟨rfl,.refl _⟩,⟨rfl,.refl _⟩,trivial⟩,.nil⟩⟩
     rw [take_succD 0 hkl,List.mem_append,List.mem_singleton] at hr
     rcases hr with hr|rfl
     ·exact hI r hr
     ·assumption
    ·obtain rfl:k=(liveL o 0).length:=by omega
     rw [List.take_length] at hI
     refine CallS.frozen _ (pairs_spec o _) (plainAll rfl) ?_
     refine lessS (tm':=[(48,.func (.func 83) [] [.fptr 1 (fun _=>codeP o (frW o.irs.length fun i=>wordsP (LiveP o i))) 0]),(6,.ptr (1,6) v6 [] 0 0),(5,.ptr (1,5) v5 [] 0 0),(4,.ptr (1,4) v4 [] 0 0),(3,.ptr (1,3) v3 [] 0 0)]) (L':=mem53 o l v6 v5 v4 v3) ⟨by ((repeat' apply And.intro) <;> (first|exact True.intro|exact NEq.refl _|(refine NEq.int ?_;first|exact rfl|omega|(rw [wrapI (by omega)];first|exact rfl|omega)))),⟨⟨rfl,.refl _⟩,⟨rfl,.refl _⟩,⟨rfl,.refl _⟩,⟨rfl,.refl _⟩,trivial⟩,.nil⟩ ?_
     refine rangePairs o H HO.r1 Above.nil rfl (fun pre M=>(M=mem53 o l v6 v5 v4 v3∨∃ x,M=((1,10),x)::mem53 o l v6 v5 v4 v3)∧∀ p∈pre,l.getD p.1.toNat 0≠l.getD p.2.toNat 0) (brk53 o l v6 v5 v4 v3) (mem53 o l v6 v5 v4 v3) (fun j hj=>rfl) ⟨.inl rfl,by simp⟩ ?_ ?_ ?_ ?_
     ·rintro p M (⟨rfl|⟨x,rfl⟩,_⟩|⟨_,x,rfl⟩)
      ·exact ⟨by simp [mem53],Above.chk0 rfl⟩
      ·exact ⟨by simp [mem53],Above.chk0 rfl⟩
      ·exact ⟨by simp,Above.chk0 rfl⟩
     ·rintro S' pre M nv' a b ⟨hM,hpre⟩ hm _
      have ha:0≤a∧a<(l.length:Int)∧0≤b∧b<(l.length:Int):=by
       obtain ⟨r,h1,h2,h3,h4⟩:=mem_collK.1 hm
       have h5:=(listW_nn _ h3).1
       have h6:=col_lt H (by have:=H.hr;omega) h3
       simp only at h2 h4 h5 h6
       omega
      rcases hM with rfl|⟨x,rfl⟩
      ·refine yieldS_of mx (lvb:=1) (by decide) rfl rfl rfl (by kernel_rfl) (by kernel_rfl) (by kernel_rfl) fun l0 lo=>?_
       repeat'(first|refine vcI ?_|refine And.intro ?_ ?_|(intro hq;(try simp at hq);(try(exfalso;omega));(try(revert hq;intro))))
       ·exact .inr ⟨rfl,_,_,rfl,fun h=>absurd (by assumption) (h.apart (a,b) hm),_,rfl⟩
       ·refine .inl ⟨rfl,_,rfl,.inr ⟨_,rfl⟩,fun p hp=>?_⟩
        rcases List.mem_append.1 hp with hp|hp
        ·exact hpre p hp
        ·rw [List.mem_singleton] at hp;subst hp;assumption
      ·refine yieldS_of mx (lvb:=1) (by decide) rfl rfl rfl (by kernel_rfl) (by kernel_rfl) (by kernel_rfl) fun l0 lo=>?_
       repeat'(first|refine vcI ?_|refine And.intro ?_ ?_|(intro hq;(try simp at hq);(try(exfalso;omega));(try(revert hq;intro))))
       ·exact .inr ⟨rfl,_,_,rfl,fun h=>absurd (by assumption) (h.apart (a,b) hm),_,rfl⟩
       ·refine .inl ⟨rfl,_,rfl,.inr ⟨_,rfl⟩,fun p hp=>?_⟩
        rcases List.mem_append.1 hp with hp|hp
        ·exact hpre p hp
        ·rw [List.mem_singleton] at hp;subst hp;assumption
     ·rintro M nv' ⟨hM,hpre⟩
      have hP:PlacesP o l:=⟨hI,hpre⟩
      rcases hM with rfl|⟨x,rfl⟩
      ·repeat'(first|refine vcI ?_|refine And.intro ?_ ?_|(intro hq;(try simp at hq);(try(exfalso;omega));(try(revert hq;intro))))
       rw [placedR_ok (hok hP)]
       exact NEq.tup2 (.refl _) (.refl _)
      ·repeat'(first|refine vcI ?_|refine And.intro ?_ ?_|(intro hq;(try simp at hq);(try(exfalso;omega));(try(revert hq;intro))))
       rw [placedR_ok (hok hP)]
       exact NEq.tup2 (.refl _) (.refl _)
     ·rintro c M nv' ⟨hn,x,rfl⟩
      rw [placedR_bad (hno hn) (by decide)]
      repeat'(first|refine vcI ?_|refine And.intro ?_ ?_|(intro hq;(try simp at hq);(try(exfalso;omega));(try(revert hq;intro))))
      exact NEq.tup2 (.refl _) (.refl _)
   ·rw [hany] at hcf
    refine CallS.plain [ints l,.func (.func 90) [] [.fptr 1 (fun _=>codeP o (frW o.irs.length fun i=>wordsP (LiveP o i))) 0]] (.bool true) hcf (LeL.cons (.refl _) (LeL.cons (NEq.clos (view_box (k:=7) rfl ?_)) LeL.nil)) trivial ?_
    ·intro q hq
     obtain rfl:q=0:=by have:q<1:=hq;omega
     exact .refl _
    repeat'(first|refine vcI ?_|refine And.intro ?_ ?_|(intro hq;(try simp at hq);(try(exfalso;omega));(try(revert hq;intro))))
    rw [placedR_bad (e:=1) (by unfold chkE;rw [if_pos HO,if_neg fun h=>by rw [List.any_eq_true] at hany;obtain ⟨x,x1,x2⟩:=hany;rw [h.2 x x1] at x2;cases x2]) (by decide)]
    exact .refl _
  ·rw [placedR_bad (e:=1) (by unfold chkE;rw [if_pos HO,if_neg fun h=>absurd h.1 (by assumption)]) (by decide)]
   exact .refl _
 ·rw [openR_bad HO] at ho
  refine CallS.frozen (.tup [.nilp,.int .i64 210]) ho (plainAll rfl) ?_
  repeat'(first|refine vcI ?_|refine And.intro ?_ ?_|(intro hq;(try simp at hq);(try(exfalso;omega));(try(revert hq;intro))))
  rw [placedR_bad (e:=210) (by unfold chkE;rw [if_neg HO]) (by decide)]
  exact .refl _
end Go.Ab
namespace Go.Ab
open Go.Proofs
set_option maxRecDepth 100000
set_option maxHeartbeats 4000000

theorem Check_spec (o:DO) (l:List Int) (hll:l.length≤1048576) (hf:fewN o≤6000) (hs:∀ l∈o.descs,l.length≤1048576∧∀ f∈l,f.small):CallsF Tryz.prog 22 [.agg (dol o),ints l] (.int .i64 (chkE o l)):=by
 have hp:=placed_spec o l hll hf hs
 refine callsF_ofS mx Tryz.call22 Tryz.func22 rfl Tryz.ntmps22 Tryz.results22 (by kernel_rfl) (by simp) fun lo=>?_
 repeat'(first|refine vcI ?_|refine And.intro ?_ ?_|(intro hq;(try simp at hq);(try(exfalso;omega));(try(revert hq;intro))))
 rw [mk_opt]
 by_cases h:chkE o l=0
 ·rw [placedR_ok h] at hp
  refine CallS.frozen _ hp (plainAll rfl) ?_
  repeat'(first|refine vcI ?_|refine And.intro ?_ ?_|(intro hq;(try simp at hq);(try(exfalso;omega));(try(revert hq;intro))))
  rw [h];exact .refl _
 ·rw [placedR_bad rfl h] at hp
  refine CallS.frozen _ hp (plainAll rfl) ?_
  repeat'(first|refine vcI ?_|refine And.intro ?_ ?_|(intro hq;(try simp at hq);(try(exfalso;omega));(try(revert hq;intro))))
  exact .refl _

structure RightP (o:DO) (l:List Int):Prop where
 op:OpenP o
 len:(l.length:Int)=o.regs
 inn:∀ r,r<l.length→0≤l.getD r 0∧l.getD r 0<(l.length:Int)
 live:∀ r,LiveP o 0 r→l.getD r 0=r
 apart:∀ a b,ColP o a b→a≠b→l.getD a 0≠l.getD b 0
theorem chkE_zero {o:DO} {l:List Int} (hf:fewN o≤6000) (hs:∀ l∈o.descs,l.length≤1048576∧∀ f∈l,f.small):chkE o l=0↔RightP o l:=by
 have key:∀ (HO:OpenP o),PlacesP o l↔(∀ r,LiveP o 0 r→l.getD r 0=r)∧∀ a b,ColP o a b→a≠b→l.getD a 0≠l.getD b 0:=fun HO=>by
  have H:=HO.fl hf hs
  have hr:=H.hr
  constructor
  ·intro h
   refine ⟨fun r hl=>?_,fun a b hc hab=>?_⟩
   ·have h1:=(hl.lt H).1
    exact h.live (r:Int) ((mem_liveL (by omega)).2 hl)
   ·rcases Nat.lt_or_gt_of_ne hab with h1|h1
    ·exact h.apart ((a:Int),(b:Int)) ((mem_collL H HO.r1).2 ⟨a,b,rfl,h1,hc⟩)
    ·exact fun e=>h.apart ((b:Int),(a:Int)) ((mem_collL H HO.r1).2 ⟨b,a,rfl,h1,hc.symm⟩) e.symm
  ·rintro ⟨h1,h2⟩
   refine ⟨fun r hr=>?_,fun p hp=>?_⟩
   ·obtain ⟨q,q1,q2,rfl⟩:=mem_listW.1 hr
    exact h1 q ((bit_wordsP _ _).1 q2)
   ·obtain ⟨a,b,rfl,h3,h4⟩:=(mem_collL H HO.r1).1 hp
    exact h2 a b h4 (by omega)
 unfold chkE
 constructor
 ·intro h
  by_cases HO:OpenP o
  ·rw [if_pos HO] at h
   by_cases hc:(l.length:Int)=o.regs∧∀ p∈l,regB o p=true
   ·rw [if_pos hc] at h
    by_cases hP:PlacesP o l
    ·obtain ⟨k1,k2⟩:=(key HO).1 hP
     refine ⟨HO,hc.1,fun r hr=>?_,k1,k2⟩
     have h5:=hc.2 (l.getD r 0) (by rw [List.getD_eq_getElem?_getD];exact getD_mem _ hr)
     simp only [regB,Bool.and_eq_true,decide_eq_true_eq] at h5
     omega
    ·rw [if_neg hP] at h;omega
   ·rw [if_neg hc] at h;omega
  ·rw [if_neg HO] at h;omega
 ·intro h
  have hin:∀ p∈l,regB o p=true:=fun p hp=>by
   obtain ⟨i,hi,rfl⟩:=List.mem_iff_getElem.1 hp
   have h5:=h.inn i hi
   have e:l.getD i 0=l[i]:=by simp [List.getD_eq_getElem?_getD,hi]
   rw [e] at h5
   have:=h.len
   simp only [regB,Bool.and_eq_true,decide_eq_true_eq]
   omega
  rw [if_pos h.op,if_pos ⟨h.len,hin⟩,if_pos ((key h.op).2 ⟨h.live,h.apart⟩)]

def Agree (o:DO) (l one two:List Int) (k:Nat):Prop:=∀ r,LiveP o k r→one.getD r 0=two.getD (l.getD r 0).toNat 0
theorem getD_set {l:List Int} {i j:Nat} {v:Int}:(l.set i v).getD j 0=if j=i∧i<l.length then v else l.getD j 0:=by
 simp only [List.getD_eq_getElem?_getD,List.getElem?_set]
 by_cases e:i=j
 ·subst e
  by_cases h:i<l.length
  ·simp [h]
  ·simp [h]
 ·rw [if_neg e,if_neg (fun h=>e h.1.symm)]
theorem Agree.next {o:DO} {l one two:List Int} (H:FlH o) (hP:RightP o l) {k:Nat} (hk:k<o.irs.length) {k':Int} (hg:k'∈goesL (o.irs.getD k default) k) (h:Agree o l one two k) (hs:setsB (o.irs.getD k default).op≠true):Agree o l one two k'.toNat:=fun r hl=>by
 have hgo:=H.go k hk k' hg
 exact h r (.step hk (k:=k'.toNat) (by rw [Int.toNat_of_nonneg hgo.1];exact hg) hl fun h1=>hs h1.1)
theorem Agree.set {o:DO} {l one two:List Int} (H:FlH o) (hP:RightP o l) (h1:one.length=l.length) (h2:two.length=l.length) {k:Nat} (hk:k<o.irs.length) {k':Int} (hg:k'∈goesL (o.irs.getD k default) k) (h:Agree o l one two k) (hs:setsB (o.irs.getD k default).op=true) (v:Int) :
  Agree o l (one.set (o.irs.getD k default).d.toNat v) (two.set (l.getD (o.irs.getD k default).d.toNat 0).toNat v) k'.toNat:=fun r hl=>by
 have hgo:=H.go k hk k' hg
 have hd:=H.dR hk hs
 have hlen:=hP.len
 have hrl:=(hl.lt H).1
 obtain ⟨d,hdd⟩:∃ d:Nat,(o.irs.getD k default).d=(d:Int):=⟨_,(Int.toNat_of_nonneg hd.1).symm⟩
 rw [hdd,Int.toNat_natCast]
 have hdl:d<l.length:=by omega
 have hi1:=hP.inn d hdl
 have hi2:=hP.inn r (by omega)
 rw [getD_set,getD_set]
 by_cases e:r=d
 ·subst e
  rw [if_pos ⟨rfl,by omega⟩,if_pos ⟨rfl,by omega⟩]
 ·rw [if_neg (fun h=>e h.1),if_neg]
  ·exact h r (.step hk (k:=k'.toNat) (by rw [Int.toNat_of_nonneg hgo.1];exact hg) hl fun h3=>by have:=h3.2;omega)
  ·rintro ⟨h3,h4⟩
   refine hP.apart r d ⟨k,hk,.inr ⟨hs,.inr ⟨by rw [hdd],.inr ⟨k',hg,hl⟩⟩⟩⟩ e ?_
   omega
end Go.Ab
namespace Go.Ab
open Go.Proofs
set_option maxRecDepth 100000
set_option maxHeartbeats 1000000

def FirstP (s:Nat→Nat) (p:Nat):Prop:=bitW s p=false∧∀ q,q<p→bitW s q=true
theorem FirstP.eq {s:Nat→Nat} {p q:Nat} (h:FirstP s p) (k:FirstP s q):p=q:=by
 rcases Nat.lt_trichotomy p q with e|e|e
 ·have:=k.2 p e;rw [h.1] at this;cases this
 ·exact e
 ·have:=h.2 q e;rw [k.1] at this;cases this
open Classical in
noncomputable def firstW (s:Nat→Nat):Nat:=if h:∃ p,FirstP s p then Classical.choose h else 0
theorem FirstP.first {s:Nat→Nat} {p:Nat} (h:FirstP s p):firstW s=p:=by
 have he:∃ p,FirstP s p:=⟨p,h⟩
 unfold firstW
 rw [dif_pos he]
 exact (Classical.choose_spec he).eq h

def takeS (l:List Int) (r:Int) (s:Nat→Nat) (k:Int):Nat→Nat:=if k≠r∧0≤l.getD k.toNat 0 then setW s (l.getD k.toNat 0).toNat else s
def takenW (l:List Int) (r:Int) (ks:List Int):Nat→Nat:=ks.foldl (takeS l r) fun _=>0
theorem takenW_snoc (l:List Int) (r:Int) (ks:List Int) (k:Int):takenW l r (ks++[k])=takeS l r (takenW l r ks) k:=by
 unfold takenW;rw [List.foldl_append];rfl
theorem takeS_lt {l:List Int} {r:Int} {s:Nat→Nat} (h:∀ o,s o<18446744073709551616) (k:Int):∀ o,takeS l r s k o<18446744073709551616:=by
 unfold takeS
 split
 ·exact setW_lt h _
 ·exact h
theorem foldl_inv {α β:Type} {P:β→Prop} {f:β→α→β} (hf:∀ b a,P b→P (f b a)) (l:List α) {b:β} (h:P b):P (l.foldl f b):=by
 induction l generalizing b with
 | nil=>exact h
 | cons a l ih=>exact ih (hf _ _ h)
theorem takenW_lt (l:List Int) (r:Int) (ks:List Int):∀ o,takenW l r ks o<18446744073709551616 :=
 foldl_inv (P:=fun s:Nat→Nat=>∀ o,s o<18446744073709551616) (fun _ k h=>takeS_lt h k) ks (fun _=>by decide)
theorem bit_takenW (l:List Int) (r:Int) (ks:List Int) (q:Nat):bitW (takenW l r ks) q=true↔∃ k∈ks,k≠r∧l.getD k.toNat 0=q:=by
 have key:∀ s,bitW (ks.foldl (takeS l r) s) q=true↔bitW s q=true∨∃ k∈ks,k≠r∧l.getD k.toNat 0=q:=by
  induction ks with
  | nil=>simp
  | cons k ks ih =>
   intro s
   rw [List.foldl_cons,ih]
   simp only [List.mem_cons,exists_eq_or_imp]
   have e:bitW (takeS l r s k) q=true↔bitW s q=true∨(k≠r∧l.getD k.toNat 0=q):=by
    unfold takeS
    split
    ·rename_i h
     rw [bit_setW,Bool.or_eq_true,decide_eq_true_eq]
     refine or_congr Iff.rfl ⟨fun e=>⟨h.1,by omega⟩,fun e=>by omega⟩
    ·rename_i h
     refine ⟨.inl,fun h2=>h2.elim id fun h3=>absurd ⟨h3.1,by omega⟩ h⟩
   rw [e,or_assoc]
 unfold takenW
 rw [key]
 simp [bitW]

theorem nodup_le {α:Type} [DecidableEq α]:∀ {l m:List α},l.Nodup→(∀ x∈l,x∈m)→l.length≤m.length
 | [],_,_,_=>Nat.zero_le _
 | a::l,m,h,hs=>by
  have hm:=hs a (by simp)
  have h1:=List.nodup_cons.1 h
  have:=nodup_le (m:=m.erase a) h1.2 fun x hx=>(List.mem_erase_of_ne (fun e=>by subst e;exact h1.1 hx)).2 (hs x (List.mem_cons_of_mem _ hx))
  rw [List.length_erase_of_mem hm] at this
  have:=List.length_pos_of_mem hm
  simp only [List.length_cons]
  omega
theorem taken_few {l:List Int} {r n p:Nat} {ks:List Int} (hr:r<n) (hk:∀ k∈ks,0≤k∧k<(n:Int)) (h:∀ q,q<p→bitW (takenW l r ks) q=true):p<n:=by
 have h1:=nodup_le (l:=(List.range p).map fun (q:Nat)=>(q:Int)) (m:=((List.range n).erase r).map fun k=>l.getD k 0)
  (by rw [List.Nodup,List.pairwise_map];exact List.nodup_range.imp fun h e=>h (by omega)) fun x hx=>by
  obtain ⟨q,hq,rfl⟩:=List.mem_map.1 hx
  obtain ⟨k,k1,k2,k3⟩:=(bit_takenW _ _ _ _).1 (h q (List.mem_range.1 hq))
  obtain ⟨k4,k5⟩:=hk k k1
  exact List.mem_map.2 ⟨k.toNat,(List.mem_erase_of_ne (by omega)).2 (List.mem_range.2 (by omega)),k3⟩
 rw [List.length_map,List.length_map,List.length_range,List.length_erase_of_mem (List.mem_range.2 hr),List.length_range] at h1
 omega

noncomputable def plc0 (o:DO):List Int:=(liveL o 0).foldl (fun l r=>l.set r.toNat r) (List.replicate o.regs.toNat (-1))
noncomputable def plcI (o:DO) (l:List Int) (r:Nat):List Int:=if 0≤l.getD r 0 then l else l.set r (firstW (takenW l r (listW (colT o r) 250)))
noncomputable def plcK (o:DO):Nat→List Int
 | 0=>plc0 o
 | k+1=>plcI o (plcK o k) k
noncomputable def plcL (o:DO):List Int:=plcK o o.regs.toNat

structure PlcP (o:DO) (k:Nat) (l:List Int):Prop where
 len:l.length=o.regs.toNat
 val:∀ a,a<l.length→l.getD a 0 = -1∨(0≤l.getD a 0∧l.getD a 0<(l.length:Int))
 got:∀ a,a<k→0≤l.getD a 0
 live:∀ r,LiveP o 0 r→l.getD r 0=r
 apart:∀ a b,ColP o a b→a≠b→0≤l.getD a 0→l.getD a 0≠l.getD b 0
theorem getD_foldset (ls:List Int) (hn:∀ r∈ls,0≤r) (l:List Int) (a:Nat):(ls.foldl (fun l r=>l.set r.toNat r) l).length=l.length∧(ls.foldl (fun l r=>l.set r.toNat r) l).getD a 0=if (a:Int)∈ls∧a<l.length then (a:Int) else l.getD a 0:=by
 induction ls generalizing l with
 | nil=>simp
 | cons r ls ih =>
  have h0:=hn r (by simp)
  obtain ⟨i1,i2⟩:=ih (fun x hx=>hn x (List.mem_cons_of_mem _ hx)) (l.set r.toNat r)
  rw [List.foldl_cons,i1,i2,List.length_set,getD_set]
  refine ⟨rfl,?_⟩
  simp only [List.mem_cons]
  by_cases hm:(a:Int)∈ls∧a<l.length
  ·rw [if_pos hm,if_pos ⟨.inr hm.1,hm.2⟩]
  ·rw [if_neg hm]
   by_cases e:a=r.toNat∧r.toNat<l.length
   ·rw [if_pos e,if_pos ⟨.inl (by omega),by omega⟩];omega
   ·rw [if_neg e,if_neg]
    rintro ⟨h1|h1,h2⟩
    ·exact e ⟨by omega,by omega⟩
    ·exact hm ⟨h1,h2⟩
theorem rep_get {n a:Nat} (h:a<n):(List.replicate n (-1:Int)).getD a 0 = -1:=by
 rw [List.getD_eq_getElem?_getD,List.getElem?_replicate,if_pos h];rfl
theorem plc0_P {o:DO} (H:FlH o):PlcP o 0 (plc0 o):=by
 have hlt:=list_lt H 0
 have hr:=H.hr
 have G:=fun a=>getD_foldset (liveL o 0) (fun r hr=>(hlt r hr).1) (List.replicate o.regs.toNat (-1)) a
 simp only [List.length_replicate] at G
 have len:(plc0 o).length=o.regs.toNat:=(G 0).1
 have hm:∀ a:Nat,((a:Int)∈liveL o 0∧a<o.regs.toNat)↔LiveP o 0 a:=fun a=>by
  constructor
  ·rintro ⟨h1,h2⟩;exact (mem_liveL (by omega)).1 h1
  ·intro h;have:=(h.lt H).1;exact ⟨(mem_liveL (by omega)).2 h,by omega⟩
 have g:∀ a,a<o.regs.toNat→(LiveP o 0 a∧(plc0 o).getD a 0=a)∨(¬ LiveP o 0 a∧(plc0 o).getD a 0 = -1):=fun a ha=>by
  have h1:(plc0 o).getD a 0=_:=(G a).2
  by_cases h:(a:Int)∈liveL o 0∧a<o.regs.toNat
  ·rw [if_pos h] at h1;exact .inl ⟨(hm a).1 h,h1⟩
  ·rw [if_neg h,rep_get ha] at h1;exact .inr ⟨fun k=>h ((hm a).2 k),h1⟩
 refine ⟨len,fun a ha=>?_,fun a ha=>by omega,fun r h=>?_,fun a b hc hab h0=>?_⟩
 ·rw [len] at ha ⊢
  rcases g a ha with ⟨_,h⟩|⟨_,h⟩
  ·exact .inr (by omega)
  ·exact .inl h
 ·have:=(h.lt H).1
  rcases g r (by omega) with ⟨_,h1⟩|⟨h1,_⟩
  ·exact h1
  ·exact absurd h h1
 ·have:=hc.lt H
  rcases g a (by omega) with ⟨_,h1⟩|⟨_,h1⟩ <;> rcases g b (by omega) with ⟨_,h2⟩|⟨_,h2⟩ <;> omega
theorem col_nn {o:DO} (H:FlH o) {r:Nat} (hr:r<250):∀ k∈listW (colT o r) 250,0≤k∧k<((o.regs.toNat:Nat):Int):=fun k hk=>by
 have h1:=col_lt H hr hk
 have h2:=(listW_nn k hk).1
 omega
theorem plcI_P {o:DO} (H:FlH o) {k:Nat} {l:List Int} (hk:k<o.regs.toNat) (hp:PlcP o k l) {p:Nat} (hf:FirstP (takenW l k (listW (colT o k) 250)) p) (hn:l.getD k 0<0):PlcP o (k+1) (l.set k p):=by
 have hr:=H.hr
 have len:=hp.len
 have hpn:=taken_few hk (col_nn H (by omega)) hf.2
 have hl1:l.getD k 0 = -1:=by rcases hp.val k (by omega) with h|h <;> omega
 have hnot:∀ b,ColP o k b→b≠k→l.getD b 0≠(p:Int):=fun b hc hb e=>by
  have h1:bitW (takenW l k (listW (colT o k) 250)) p=true:=(bit_takenW _ _ _ _).2 ⟨(b:Int),(mem_colT H (by omega)).2 ⟨b,rfl,hc⟩,by omega,e⟩
  rw [hf.1] at h1;cases h1
 refine ⟨by rw [List.length_set];exact len,fun a ha=>?_,fun a ha=>?_,fun r h=>?_,fun a b hc hab h0=>?_⟩
 ·rw [List.length_set] at ha ⊢
  rw [getD_set]
  by_cases e:a=k∧k<l.length
  ·rw [if_pos e];exact .inr (by omega)
  ·rw [if_neg e];exact hp.val a ha
 ·rw [getD_set]
  by_cases e:a=k∧k<l.length
  ·rw [if_pos e];omega
  ·rw [if_neg e];exact hp.got a (by omega)
 ·rw [getD_set,if_neg]
  ·exact hp.live r h
  ·rintro ⟨rfl,_⟩;have:=hp.live r h;omega
 ·rw [getD_set] at h0 ⊢
  rw [getD_set]
  by_cases e:a=k
  ·subst e
   rw [if_pos ⟨rfl,by omega⟩,if_neg fun h=>hab h.1.symm]
   exact fun e=>hnot b hc (Ne.symm hab) e.symm
  ·rw [if_neg fun h=>e h.1] at h0 ⊢
   by_cases e2:b=k
   ·subst e2
    rw [if_pos ⟨rfl,by omega⟩]
    exact hnot a hc.symm hab
   ·rw [if_neg fun h=>e2 h.1]
    exact hp.apart a b hc hab h0
theorem plcI_keep {o:DO} {k:Nat} {l:List Int} (hp:PlcP o k l) (hn:0≤l.getD k 0):PlcP o (k+1) l :=
 ⟨hp.len,hp.val,fun a ha=>by rcases (by omega:a<k∨a=k) with h|rfl;exact hp.got a h;exact hn,hp.live,hp.apart⟩
theorem exists_first {s:Nat→Nat}:∀ n,(∃ q,q<n∧bitW s q=false)→∃ p,FirstP s p
 | 0,h=>by obtain ⟨q,h,_⟩:=h;omega
 | n+1,h=>by
  by_cases hc:∃ q,q<n∧bitW s q=false
  ·exact exists_first n hc
  ·obtain ⟨q,q1,q2⟩:=h
   have hq:q=n:=by
    rcases (by omega:q<n∨q=n) with h|h
    ·exact absurd ⟨q,h,q2⟩ hc
    ·exact h
   subst hq
   exact ⟨q,q2,fun x hx=>by cases hb:bitW s x;exact absurd ⟨x,hx,hb⟩ hc;rfl⟩
theorem taken_first {o:DO} (H:FlH o) {k:Nat} {l:List Int} (hk:k<o.regs.toNat):∃ p,FirstP (takenW l k (listW (colT o k) 250)) p:=by
 have hr:=H.hr
 refine exists_first o.regs.toNat (Classical.byContradiction fun h=>?_)
 have:=taken_few (l:=l) (p:=o.regs.toNat) hk (col_nn H (r:=k) (by omega)) fun q hq=>by
  cases hb:bitW (takenW l k (listW (colT o k) 250)) q
  ·exact absurd ⟨q,hq,hb⟩ h
  ·rfl
 omega
theorem plcK_P {o:DO} (H:FlH o):∀ k,k≤o.regs.toNat→PlcP o k (plcK o k)
 | 0,_=>plc0_P H
 | k+1,hk=>by
  have ih:=plcK_P H k (by omega)
  unfold plcK plcI
  split
  ·rename_i h;exact plcI_keep ih h
  ·rename_i h
   obtain ⟨p,hp⟩:=taken_first (l:=plcK o k) H (show k<o.regs.toNat by omega)
   rw [hp.first]
   exact plcI_P H (by omega) ih hp (by omega)
end Go.Ab
namespace Go.Ab
open Go.Proofs
set_option maxRecDepth 100000
set_option maxHeartbeats 4000000

theorem Mul64_spec (n:Nat) (hn:n≤250):CallsF Tryz.prog 119 [.int .u64 1,.int .u64 n] (.tup [.int .u64 0,.int .u64 n]):=by
 refine callsF_ofS mx Tryz.call119 Tryz.func119 rfl Tryz.ntmps119 Tryz.results119 (by kernel_rfl) (by simp) fun lo=>?_
 repeat'(first|refine vcI ?_|refine And.intro ?_ ?_|(intro hq;(try simp at hq);(try(exfalso;omega));(try(revert hq;intro))))
 refine NEq.tup2 (NEq.of_eq (congrArg (PV.int .u64) ?_)) (NEq.of_eq (congrArg (PV.int .u64) ?_))
 ·revert n;decide +kernel
 ·rw [Int.one_mul];exact wrapU (by omega) (by omega)
theorem Mul_spec (n:Nat) (hn:n≤250):CallsF Tryz.prog 86 [.int .u64 1,.int .u64 n] (.tup [.int .u64 0,.int .u64 n]):=by
 have h:=Mul64_spec n hn
 refine callsF_ofS mx Tryz.call86 Tryz.func86 rfl Tryz.ntmps86 Tryz.results86 (by kernel_rfl) (by simp) fun lo=>?_
 repeat'(first|refine vcI ?_|refine And.intro ?_ ?_|(intro hq;(try simp at hq);(try(exfalso;omega));(try(revert hq;intro))))
 refine CallS.frozen _ h (plainAll rfl) ?_
 repeat'(first|refine vcI ?_|refine And.intro ?_ ?_|(intro hq;(try simp at hq);(try(exfalso;omega));(try(revert hq;intro))))
 exact NEq.tup2 (.refl _) (.refl _)
def rptL (x:Int) (n m:Nat):List Int:=List.replicate m x++List.replicate (n - m) 0
theorem rptL_len (x:Int) {n m:Nat} (h:m≤n):(rptL x n m).length=n:=by unfold rptL;simp;omega
theorem rptL_get (x:Int) (n m i:Nat):(rptL x n m).getD i 0=if i<m then x else 0:=by
 unfold rptL
 rw [List.getD_eq_getElem?_getD,List.getElem?_append]
 by_cases h:i<m
 ·simp [h]
 ·rw [if_neg (by simpa using h),if_neg h]
  by_cases h2:i - m<n - m
  ·simp [h2]
  ·rw [List.getElem?_eq_none (by simp;omega)];rfl
theorem Repeat_spec (x:Int) (n:Nat) (h1:1≤n) (hn:n≤250):CallsO Tryz.prog 40 [ints [x],.int .i64 n] (oints (List.replicate n x)) (fun id ver => .ref id ver [] 1 0 (List.replicate n x).length):=by
 have hm:=Mul_spec n hn
 have hw:IntKind.u64.wrap (n:Int)=(n:Int):=wrapU (by omega) (by omega)
 have hw2:IntKind.i64.wrap (n:Int)=(n:Int):=wrapI (by omega)
 have hw3:IntKind.u64.wrap ((([x]:List Int).length:Nat):Int)=1:=by show IntKind.u64.wrap 1=1;decide
 refine callsO_ofS mx Tryz.call40 Tryz.func40 rfl Tryz.ntmps40 Tryz.results40 (by kernel_rfl) (by simp) fun lo=>?_
 repeat'(first|refine vcI ?_|refine And.intro ?_ ?_|(intro hq;(try simp at hq);(try(exfalso;omega));(try(revert hq;intro))))
 refine CallS.plain [.int .u64 1,.int .u64 n] _ hm (LeL.cons (NEq.of_eq (congrArg (PV.int .u64) hw3)) (LeL.cons (NEq.of_eq (congrArg (PV.int .u64) hw)) LeL.nil)) (fun c hc=>by rcases List.mem_cons.1 hc with rfl|hc;exact trivial;rw [List.mem_singleton] at hc;subst hc;exact trivial) ?_
 repeat'(first|refine vcI ?_|refine And.intro ?_ ?_|(intro hq;(try simp at hq);(try(exfalso;omega));(try(revert hq;intro))))
 rw [hw2]
 refine Exists.intro (oints (List.replicate n 0)) (And.intro ?_ (And.intro (by first|rfl|exact shape_prs (by simp)|exact shape_ints (by simp)|exact shape_odvs (by simp)) ?_))
 ·refine NEq.owns rfl (by simp) fun i o hi ho=>?_
  rw [show (List.replicate n (0:Int)).getD i 0=0 by rw [List.getD_eq_getElem?_getD];simp [List.getElem?_replicate];split <;> rfl]
  obtain rfl:o=0:=by omega
  exact .refl _
 have hlr:(List.replicate n (0:Int)).length=n:=by simp
 repeat'(first|refine vcI ?_|refine And.intro ?_ ?_|(intro hq;(try simp at hq);(try(exfalso;omega));(try(revert hq;intro))))
 ·rename_i i hi o ho
  rfl
 ·rfl
 refine Exists.intro (oints (rptL x n 1)) (And.intro ?_ (And.intro ?_ ?_))
 ·refine NEq.owns rfl (by rw [hlr,rptL_len x h1]) fun i o hi ho=>?_
  rw [rptL_get]
  have hz:(List.replicate n (0:Int)).getD i 0=0:=by rw [List.getD_eq_getElem?_getD];simp [List.getElem?_replicate];split <;> rfl
  have hmin:[x].length.min ((n:Int).toNat - 0)=1:=by show min 1 _=1;omega
  dsimp only
  rw [hz,hmin]
  by_cases h:i<1
  ·obtain rfl:i=0:=by omega
   rw [if_pos ⟨by omega,by omega⟩,if_pos (by omega)];exact .refl _
  ·rw [if_neg (by omega),if_neg h];exact .refl _
 ·exact shape_ints (by rw [hlr,rptL_len x h1])
 rw [show [x].length.min ((n:Int).toNat - 0)=1 by show min 1 _=1;omega]
 repeat'(first|refine vcI ?_|refine And.intro ?_ ?_|(intro hq;(try simp at hq);(try(exfalso;omega));(try(revert hq;intro))))
 refine loopS2 mx (by decide) (by kernel_rfl) (fun (m v7:Nat)=>1≤m∧m≤n) (fun m v7=>[(8,.int .i64 m),(7,.ref (1,30) v7 [] 1 0 n)]) (fun m v7=>[((1,30),⟨v7,oints (rptL x n m)⟩)]) (fun m v7=>n - m) 1 _ ⟨by omega,by omega⟩ ⟨by ((repeat' apply And.intro) <;> (first|exact True.intro|exact NEq.refl _|(refine NEq.int ?_;first|exact rfl|omega|(rw [wrapI (by omega)];first|exact rfl|omega)))),⟨⟨rfl,.refl _⟩,trivial⟩,.nil⟩ ?_
 rintro m v7 nv ⟨hm1,hm2⟩
 have hln:=rptL_len x hm2
 have hmm:(0+(m:Int).toNat - (0+0)).min (0+(n - 0) - (0+(m:Int).toNat))=min m (n - m):=by show min _ _=_;omega
 have hwm:IntKind.i64.wrap ((m:Int)+((0+(m:Int).toNat - (0+0)).min (0+(n - 0) - (0+(m:Int).toNat)):Nat))=((m+min m (n - m):Nat):Int):=by rw [hmm];exact wrapI (by omega)
 repeat'(first|refine vcI ?_|refine And.intro ?_ ?_|(intro hq;(try simp at hq);(try(exfalso;omega));(try(revert hq;intro))))
 ·rfl
 ·rw [hwm]
  refine Exists.intro (m+min m (n - m),v7) ⟨⟨by dsimp only;omega,by dsimp only;omega⟩,(by first|omega|(dsimp only;omega)),⟨by ((repeat' apply And.intro) <;> (first|exact True.intro|exact NEq.refl _|(refine NEq.int ?_;first|exact rfl|omega|(rw [wrapI (by omega)];first|exact rfl|omega)))),⟨⟨rfl,?_⟩,trivial⟩,.nil⟩⟩
  refine NEq.owns rfl (by rw [hln,rptL_len x (by omega)]) fun i o hi ho=>?_
  rw [rptL_get]
  dsimp only
  rw [hmm]
  by_cases hc:m≤i∧i<m+min m (n - m)
  ·rw [if_pos (by omega),if_pos (by omega)]
   show NEq (.int .i64 ((rptL x n m).getD _ 0)) _
   rw [rptL_get,if_pos (by omega)];exact .refl _
  ·rw [if_neg (by omega),rptL_get]
   by_cases h:i<m
   ·rw [if_pos h,if_pos (by omega)];exact .refl _
   ·rw [if_neg h,if_neg (by omega)];exact .refl _
 ·obtain rfl:m=n:=by omega
  rw [show rptL x m m=List.replicate m x by simp [rptL]]
  exact keepS_ints rfl (by simp)
end Go.Ab
namespace Go.Ab
open Go.Proofs
set_option maxRecDepth 100000
set_option maxHeartbeats 4000000

theorem setPut11_spec (ws:Nat→Nat) (hw:∀ o,ws o<18446744073709551616) (r:Nat) (hr:r<256) (v nv:Nat) (S:Hp) (hS:Above 2 S) :
  CallsA Tryz.prog 42 [.ptr (1,11) v [] 0 0,.int .i64 r] ([((1,11),⟨v,.obox 4 (setC ws)⟩)]++S) nv
   fun x hp' nv'=>∃ L',hp'=L'++S∧(x = .tup []∧L'=[((1,11),⟨v,.obox 4 (setC (setW ws r))⟩)]):=by
 have e1:=wrap64_div (r:=r) (by omega)
 have e2:=tmod64 r
 refine callsA_ofS (lv:=2) (by decide) mx Tryz.call42 Tryz.func42 rfl Tryz.ntmps42 Tryz.results42 (by kernel_rfl) (by simp) fun lo=>?_
 repeat'(first|refine vcI ?_|refine And.intro ?_ ?_|(intro hq;(try simp at hq);(try(exfalso;omega));(try(revert hq;intro))))
 ·rw [cW,e1];simp;omega
 ·rw [cW];decide
 ·show 0+(IntKind.i64.wrap ((r:Int).tdiv 64)).toNat*Tryz.prog.cellsOf 66+1≤4
  rw [cW,e1];simp;omega
 refine Exists.intro (PV.tup []) (Exists.intro _ (And.intro ⟨rfl,rfl⟩ (And.intro (.refl _) (And.intro ⟨⟨rfl,.obox fun o ho=>?_⟩,trivial⟩ (.names rfl)))))
 show NEq (if 0+(IntKind.i64.wrap ((r:Int).tdiv 64)).toNat*Tryz.prog.cellsOf 66≤o∧o<0+(IntKind.i64.wrap ((r:Int).tdiv 64)).toNat*Tryz.prog.cellsOf 66+1 then List.getD [PV.int .u64 (IntKind.u64.wrap ((BitVec.ofInt IntKind.u64.bits (ws (0+(IntKind.i64.wrap ((r:Int).tdiv 64)).toNat*Tryz.prog.cellsOf 66):Int) ||| BitVec.ofInt IntKind.u64.bits (IntKind.u64.wrap (1*2 ^ min ((r:Int).tmod 64).toNat IntKind.u64.bits))).toNat:Int))] (o - (0+(IntKind.i64.wrap ((r:Int).tdiv 64)).toNat*Tryz.prog.cellsOf 66)) .undef else .int .u64 (ws o)) (.int .u64 (setW ws r o))
 rw [cW,e1,e2]
 simp only [Int.toNat_natCast,Nat.zero_add,Nat.mul_one]
 rw [or_at (hw _) (Nat.mod_lt _ (by decide))]
 by_cases c:o=r / 64
 ·subst c
  rw [if_pos (by omega),Nat.sub_self]
  simp only [setW,if_true]
  exact .refl _
 ·rw [if_neg (by omega)]
  simp only [setW,if_neg c]
  exact .refl _

theorem put_setI {l:List Int} {a b i:Nat} {c:PV} {v:Int} (hi:i<l.length) (hb:b<1) (hc:NEq c (.int .i64 v)):NEq (if a=i∧0≤b∧b<0+1 then List.getD [c] (b - 0) .undef else .int .i64 (l.getD a 0)) (.int .i64 ((l.set i v).getD a 0)):=by
 obtain rfl:b=0:=by omega
 rw [getD_set]
 by_cases e:a=i
 ·rw [if_pos ⟨e,by omega,by omega⟩,if_pos ⟨e,hi⟩];exact hc
 ·rw [if_neg (fun h=>e h.1),if_neg (fun h=>e h.1)];exact .refl _
theorem view_at {hp:Hp} {r:RId} {v k n i:Nat} {W:Nat→Nat→Nat} (h:lkH hp r=some ⟨v,owW n W⟩):NEq (view (k+2) hp (.ptr r v [] i 0)) (.fptr 4 (setC (W i)) 0):=by
 rw [view,h]
 simp only [if_true,getAt,owW]
 exact NEq.fptr fun o ho => .refl _
noncomputable def plc0K (o:DO) (k:Nat):List Int:=((liveL o 0).take k).foldl (fun l r=>l.set r.toNat r) (List.replicate o.regs.toNat (-1))
theorem plc0K_len (o:DO) (k:Nat):(plc0K o k).length=o.regs.toNat:=by
 have h:=(getD_foldset ((liveL o 0).take k) (fun r hr=>(listW_nn (s:=lvW o 0) (n:=250) r (List.mem_of_mem_take hr)).1) (List.replicate o.regs.toNat (-1)) 0).1
 unfold plc0K
 rw [h];simp
theorem plc0K_succ (o:DO) {k:Nat} (hk:k<(liveL o 0).length):plc0K o (k+1)=(plc0K o k).set ((liveL o 0).getD k 0).toNat ((liveL o 0).getD k 0):=by
 unfold plc0K;rw [take_succD 0 hk,List.foldl_append];rfl
open Classical in
noncomputable def plcE (o:DO):List Int × Int:=if OpenP o then (plcL o,0) else ([],210)
def mem58 (n:Nat) (l:List Int) (W:Nat→Nat→Nat) (v6 v9:Nat):Hp:=[((1,26),⟨v6,oints l⟩),((1,44),⟨v9,owW n W⟩)]
theorem Places_spec (o:DO) (hf:fewN o≤6000) (hs:∀ l∈o.descs,l.length≤1048576∧∀ f∈l,f.small):CallsF Tryz.prog 16 [.agg (dol o)] (ansE (plcE o)):=by
 have ho:=open_spec o hf hs
 refine callsF_ofS mx Tryz.call16 Tryz.func16 rfl Tryz.ntmps16 Tryz.results16 (by kernel_rfl) (by simp) fun lo=>?_
 repeat'(first|refine vcI ?_|refine And.intro ?_ ?_|(intro hq;(try simp at hq);(try(exfalso;omega));(try(revert hq;intro))))
 rw [mk_opt]
 by_cases HO:OpenP o
 ·rw [openR_ok HO] at ho
  refine CallS.frozen (.tup [codeP o (frW o.irs.length fun i=>wordsP (LiveP o i)),.int .i64 0]) ho (plainAll rfl) ?_
  have H:=HO.fl hf hs
  have hrr:=H.hr
  have hr1:=HO.r1
  obtain ⟨n,hn⟩:∃ n:Nat,o.regs=(n:Int):=⟨o.regs.toNat,(Int.toNat_of_nonneg (by omega)).symm⟩
  have hnt:o.regs.toNat=n:=by omega
  have htg:=together_spec o H hr1
  rw [hnt] at htg
  repeat'(first|refine vcI ?_|refine And.intro ?_ ?_|(intro hq;(try simp at hq);(try(exfalso;omega));(try(revert hq;intro))))
  refine Exists.intro (oints [-1]) (And.intro ?_ (And.intro (by first|rfl|exact shape_prs (by simp)|exact shape_ints (by simp)|exact shape_odvs (by simp)) ?_))
  ·exact one_ints _ rfl rfl (.refl _)
  repeat'(first|refine vcI ?_|refine And.intro ?_ ?_|(intro hq;(try simp at hq);(try(exfalso;omega));(try(revert hq;intro))))
  refine CallS.ownInts [ints [-1],.int .i64 n] (List.replicate n (-1)) (Repeat_spec (-1) n (by omega) (by omega)) (LeL.cons (view_ints (k:=7) rfl rfl) (LeL.cons (NEq.of_eq (congrArg (PV.int .i64) hn)) LeL.nil)) ?_
  repeat'(first|refine vcI ?_|refine And.intro ?_ ?_|(intro hq;(try simp at hq);(try(exfalso;omega));(try(revert hq;intro))))
  ·have:=HO.ne;omega
  rw [List.length_replicate]
  refine CallS.ownInts [.fptr 4 (setC (lvW o 0)) 0] (liveL o 0) (setList_spec (lvW o 0) (lvW_lt o 0)) (LeL.cons (.refl _) LeL.nil) ?_
  repeat'(first|refine vcI ?_|refine And.intro ?_ ?_|(intro hq;(try simp at hq);(try(exfalso;omega));(try(revert hq;intro))))
  have hll0:(liveL o 0).length≤250:=listW_len _ _
  have hlt0:∀ j,j<(liveL o 0).length→0≤(liveL o 0).getD j 0∧(liveL o 0).getD j 0<(n:Int):=fun j hj=>by
   have h1:=list_lt H 0 ((liveL o 0).getD j 0) (by rw [List.getD_eq_getElem?_getD];exact getD_mem _ hj)
   omega
  have e0:plc0K o 0=List.replicate n (-1):=by unfold plc0K;rw [hnt];rfl
  refine loopS3 mx (by decide) (by kernel_rfl) (fun (k v32 v6:Nat)=>k≤(liveL o 0).length) (fun k v32 v6=>[(34,.int .i64 k),(33,.int .i64 (liveL o 0).length),(32,.ref (1,32) v32 [] 1 0 (liveL o 0).length),(6,.ref (1,26) v6 [] 1 0 n),(5,.int .i64 0),(4,codeP o (frW o.irs.length fun i=>wordsP (LiveP o i)))]) (fun k v32 v6=>[((1,32),⟨v32,oints (liveL o 0)⟩),((1,26),⟨v6,oints (plc0K o k)⟩)]) (fun k v32 v6=>(liveL o 0).length - k) 0 _ _ (by simp) ⟨by ((repeat' apply And.intro) <;> (first|exact True.intro|exact NEq.refl _|(refine NEq.int ?_;first|exact rfl|omega|(rw [wrapI (by omega)];first|exact rfl|omega)))),⟨⟨rfl,.refl _⟩,⟨rfl,NEq.of_eq (by rw [e0])⟩,trivial⟩,.nil⟩ ?_
  intro k v32 v6 nv hk
  have ek:0+(k:Int).toNat=k:=by omega
  have hwk:IntKind.i64.wrap ((k:Int)+1)=((k+1:Nat):Int):=wrapI (by omega)
  repeat'(first|refine vcI ?_|refine And.intro ?_ ?_|(intro hq;(try simp at hq);(try(exfalso;omega));(try(revert hq;intro))))
  ·rw [ek];exact (hlt0 k (by assumption)).1
  ·rw [ek];have:=(hlt0 k (by assumption)).2;omega
  ·rfl
  ·have hkl:k<(liveL o 0).length:=by assumption
   have hlk:=hlt0 k hkl
   rw [ek]
   refine Exists.intro (oints (plc0K o (k+1))) (And.intro (NEq.owns rfl ((plc0K_len o k).trans (plc0K_len o (k+1)).symm) fun a b ha hb=>?_) (And.intro (shape_ints ((plc0K_len o k).trans (plc0K_len o (k+1)).symm)) ?_))
   ·rw [plc0K_succ o hkl,show 0+((liveL o 0).getD k 0).toNat=((liveL o 0).getD k 0).toNat from Nat.zero_add _]
    exact put_setI (l:=plc0K o k) (i:=((liveL o 0).getD k 0).toNat) (by have:=plc0K_len o k;omega) hb (.refl _)
   repeat'(first|refine vcI ?_|refine And.intro ?_ ?_|(intro hq;(try simp at hq);(try(exfalso;omega));(try(revert hq;intro))))
   exact Exists.intro (k+1,v32,v6) ⟨by dsimp only;omega,(by first|omega|(dsimp only;omega)),⟨by ((repeat' apply And.intro) <;> (first|exact True.intro|exact NEq.refl _|(refine NEq.int ?_;first|exact rfl|omega|(rw [wrapI (by omega)];first|exact rfl|omega)))),⟨⟨rfl,.refl _⟩,⟨rfl,.refl _⟩,trivial⟩,.nil⟩⟩
  obtain rfl:k=(liveL o 0).length:=by omega
  repeat'(first|refine vcI ?_|refine And.intro ?_ ?_|(intro hq;(try simp at hq);(try(exfalso;omega));(try(revert hq;intro))))
  refine CallS.own (owW n (colT o)) (fun id ver => .ref id ver [] 4 0 n) htg (plainAll rfl) ?_
  repeat'(first|refine vcI ?_|refine And.intro ?_ ?_|(intro hq;(try simp at hq);(try(exfalso;omega));(try(revert hq;intro))))
  rw [show plc0K o (liveL o 0).length=plcK o 0 by unfold plc0K plcK plc0;rw [List.take_length]]
  have hP:∀ k,k≤o.regs.toNat→PlcP o k (plcK o k):=fun k hk=>plcK_P H k hk
  have hln:∀ k,k≤n→(plcK o k).length=n:=fun k hk=>by rw [(hP k (by omega)).len,hnt]
  refine loopS3 mx (by decide) (by kernel_rfl) (fun (k v6 v9:Nat)=>k≤n) (fun k v6 v9=>[(47,.int .i64 k),(46,.int .i64 n),(9,.ref (1,44) v9 [] 4 0 n),(6,.ref (1,26) v6 [] 1 0 n),(5,.int .i64 0),(4,codeP o (frW o.irs.length fun i=>wordsP (LiveP o i)))]) (fun k v6 v9=>mem58 n (plcK o k) (colT o) v6 v9) (fun k v6 v9=>n - k) 0 _ _ (by simp) ⟨by ((repeat' apply And.intro) <;> (first|exact True.intro|exact NEq.refl _|(refine NEq.int ?_;first|exact rfl|omega|(rw [wrapI (by omega)];first|exact rfl|omega)))),⟨⟨rfl,.refl _⟩,⟨rfl,.refl _⟩,trivial⟩,.nil⟩ ?_
  intro k v6 v9 nv hk
  have ek:0+(k:Int).toNat=k:=by omega
  have hwk:IntKind.i64.wrap ((k:Int)+1)=((k+1:Nat):Int):=wrapI (by omega)
  have hlk:=hln k hk
  repeat'(first|refine vcI ?_|refine And.intro ?_ ?_|(intro hq;(try simp at hq);(try(exfalso;omega));(try(revert hq;intro))))
  ·have hge:0≤(plcK o k).getD k 0:=by assumption
   have hkn:k<n:=by assumption
   refine Exists.intro (k+1,v6,v9) ⟨by dsimp only;omega,(by first|omega|(dsimp only;omega)),⟨by ((repeat' apply And.intro) <;> (first|exact True.intro|exact NEq.refl _|(refine NEq.int ?_;first|exact rfl|omega|(rw [wrapI (by omega)];first|exact rfl|omega)))),⟨⟨rfl,NEq.of_eq ?_⟩,⟨rfl,.refl _⟩,trivial⟩,.nil⟩⟩
   show oints (plcK o k)=oints (plcI o (plcK o k) k)
   unfold plcI;rw [if_pos hge]
  ·have hlt:(plcK o k).getD k 0<0:=by assumption
   have hkn:k<n:=by assumption
   have hPk:=hP k (by omega)
   refine CallS.ownInts [.fptr 4 (setC (colT o (0+(k:Int).toNat))) 0] (listW (colT o (0+(k:Int).toNat)) 250) (setList_spec _ (togW_lt o _ _)) (LeL.cons (view_at (k:=7) rfl) LeL.nil) ?_
   rw [ek]
   repeat'(first|refine vcI ?_|refine And.intro ?_ ?_|(intro hq;(try simp at hq);(try(exfalso;omega));(try(revert hq;intro))))
   obtain ⟨ks,hks⟩:∃ ks,ks=listW (colT o k) 250:=⟨_,rfl⟩
   have hksl:ks.length≤250:=by rw [hks];exact listW_len _ _
   have hkn2:∀ j,j<ks.length→0≤ks.getD j 0∧ks.getD j 0<(n:Int):=fun j hj=>by
    have h1:=col_nn H (r:=k) (by omega) (ks.getD j 0) (by rw [← hks,List.getD_eq_getElem?_getD];exact getD_mem _ hj)
    omega
   rw [← hks]
   refine loopS5 mx (by decide) (by kernel_rfl) (fun (j v58 v11 v6 v9:Nat)=>j≤ks.length) (fun j v58 v11 v6 v9=>[(60,.int .i64 j),(59,.int .i64 ks.length),(58,.ref (1,58) v58 [] 1 0 ks.length),(10,.int .i64 k),(11,.ptr (1,11) v11 [] 0 0),(47,.int .i64 k),(46,.int .i64 n),(9,.ref (1,44) v9 [] 4 0 n),(6,.ref (1,26) v6 [] 1 0 n),(5,.int .i64 0),(4,codeP o (frW o.irs.length fun i=>wordsP (LiveP o i)))]) (fun j v58 v11 v6 v9=>((1,58),⟨v58,oints ks⟩)::((1,11),⟨v11,.obox 4 (setC (takenW (plcK o k) k (ks.take j)))⟩)::mem58 n (plcK o k) (colT o) v6 v9) (fun j v58 v11 v6 v9=>ks.length - j) 0 _ _ _ _ (by simp) ⟨by ((repeat' apply And.intro) <;> (first|exact True.intro|exact NEq.refl _|(refine NEq.int ?_;first|exact rfl|omega|(rw [wrapI (by omega)];first|exact rfl|omega)))),⟨⟨rfl,.refl _⟩,⟨rfl,.obox ?_⟩,⟨rfl,.refl _⟩,⟨rfl,.refl _⟩,trivial⟩,.nil⟩ ?_
   ·intro q hq
    rcases (by have:q<4:=hq;omega:q=0∨q=1∨q=2∨q=3) with rfl|rfl|rfl|rfl <;> exact .refl _
   intro j v58 v11 v6 v9 nv hj
   have ej:0+(j:Int).toNat=j:=by omega
   have hwj:IntKind.i64.wrap ((j:Int)+1)=((j+1:Nat):Int):=wrapI (by omega)
   repeat'(first|refine vcI ?_|refine And.intro ?_ ?_|(intro hq;(try simp at hq);(try(exfalso;omega));(try(revert hq;intro))))
   iterate 2
    ·rw [ej];exact (hkn2 j (by assumption)).1
    ·rw [ej];have:=(hkn2 j (by assumption)).2;omega
   ·have hjl:j<ks.length:=by assumption
    rename_i hcond
    have hc2:ks.getD j 0≠(k:Int)∧0≤(plcK o k).getD (ks.getD j 0).toNat 0:=hcond
    have hkj:=hkn2 j hjl
    have hv:=hPk.val (ks.getD j 0).toNat (by omega)
    obtain ⟨q,hq⟩:∃ q:Nat,(plcK o k).getD (ks.getD j 0).toNat 0=(q:Int):=⟨_,(Int.toNat_of_nonneg hc2.2).symm⟩
    have hvq:(plcK o k).getD (0+(ks.getD (0+(j:Int).toNat) 0).toNat) 0=(q:Int):=by rw [ej,Nat.zero_add];exact hq
    refine CallS.on1e (r:=(1,11)) (v:=v11) (node' := .obox 4 (setC (takenW (plcK o k) k (ks.take j)))) (args':=[.ptr (1,11) v11 [] 0 0,.int .i64 q]) (n:=2) rfl rfl (LeL.cons (.refl _) (LeL.cons (NEq.of_eq (congrArg (PV.int .i64) hvq)) LeL.nil)) (Above.chk rfl Above.nil) (fun S' hS'=>setPut11_spec _ (takenW_lt _ _ _) q (by omega) v11 _ S' hS') ?_
    rintro x L' nv' ⟨rfl,rfl⟩
    repeat'(first|refine vcI ?_|refine And.intro ?_ ?_|(intro hq;(try simp at hq);(try(exfalso;omega));(try(revert hq;intro))))
    refine Exists.intro (j+1,v58,v11,v6,v9) ⟨by dsimp only;omega,(by first|omega|(dsimp only;omega)),⟨by ((repeat' apply And.intro) <;> (first|exact True.intro|exact NEq.refl _|(refine NEq.int ?_;first|exact rfl|omega|(rw [wrapI (by omega)];first|exact rfl|omega)))),⟨⟨rfl,.refl _⟩,⟨rfl,NEq.of_eq ?_⟩,⟨rfl,.refl _⟩,⟨rfl,.refl _⟩,trivial⟩,.nil⟩⟩
    show PV.obox 4 (setC _)=PV.obox 4 (setC (takenW (plcK o k) k (ks.take (j+1))))
    rw [take_succD 0 hjl,takenW_snoc]
    unfold takeS
    rw [if_pos hc2,hq];rfl
   ·have hjl:j<ks.length:=by assumption
    rename_i hcond
    have hc2:ks.getD j 0≠(k:Int)→(plcK o k).getD (ks.getD j 0).toNat 0<0:=hcond
    refine Exists.intro (j+1,v58,v11,v6,v9) ⟨by dsimp only;omega,(by first|omega|(dsimp only;omega)),⟨by ((repeat' apply And.intro) <;> (first|exact True.intro|exact NEq.refl _|(refine NEq.int ?_;first|exact rfl|omega|(rw [wrapI (by omega)];first|exact rfl|omega)))),⟨⟨rfl,.refl _⟩,⟨rfl,NEq.of_eq ?_⟩,⟨rfl,.refl _⟩,⟨rfl,.refl _⟩,trivial⟩,.nil⟩⟩
    show PV.obox 4 (setC _)=PV.obox 4 (setC (takenW (plcK o k) k (ks.take (j+1))))
    rw [take_succD 0 hjl,takenW_snoc]
    unfold takeS
    rw [if_neg fun h=>by have:=hc2 h.1;omega]
   ·obtain rfl:j=ks.length:=by omega
    rw [List.take_length]
    obtain ⟨s,hsd⟩:∃ s,s=takenW (plcK o k) k ks:=⟨_,rfl⟩
    have hsl:∀ o,s o<18446744073709551616:=by rw [hsd];exact takenW_lt _ _ _
    rw [← hsd]
    have hfew:∀ p,(∀ q,q<p→bitW s q=true)→p<n:=fun p h=>taken_few (l:=plcK o k) (r:=k) (ks:=ks) hkn (by rw [hks];intro x hx;have:=col_nn H (r:=k) (by omega) x hx;omega) (by rw [← hsd];exact h)
    repeat'(first|refine vcI ?_|refine And.intro ?_ ?_|(intro hq;(try simp at hq);(try(exfalso;omega));(try(revert hq;intro))))
    refine loopS4 mx (by decide) (by kernel_rfl) (fun (p v11 v6 v9:Nat)=>∀ q,q<p→bitW s q=true) (fun p v11 v6 v9=>[(14,.int .i64 p),(10,.int .i64 k),(11,.ptr (1,11) v11 [] 0 0),(47,.int .i64 k),(46,.int .i64 n),(9,.ref (1,44) v9 [] 4 0 n),(6,.ref (1,26) v6 [] 1 0 n),(5,.int .i64 0),(4,codeP o (frW o.irs.length fun i=>wordsP (LiveP o i)))]) (fun p v11 v6 v9=>((1,11),⟨v11,.obox 4 (setC s)⟩)::mem58 n (plcK o k) (colT o) v6 v9) (fun p v11 v6 v9=>n - p) 0 _ _ _ (by intro q hq;omega) ⟨by ((repeat' apply And.intro) <;> (first|exact True.intro|exact NEq.refl _|(refine NEq.int ?_;first|exact rfl|omega|(rw [wrapI (by omega)];first|exact rfl|omega)))),⟨⟨rfl,.refl _⟩,⟨rfl,.refl _⟩,⟨rfl,.refl _⟩,trivial⟩,.nil⟩ ?_
    intro p v11 v6 v9 nv hp
    have hpn:=hfew p hp
    have hwp:IntKind.i64.wrap ((p:Int)+1)=((p+1:Nat):Int):=wrapI (by omega)
    repeat'(first|refine vcI ?_|refine And.intro ?_ ?_|(intro hq;(try simp at hq);(try(exfalso;omega));(try(revert hq;intro))))
    have hh:=setHas_spec s hsl p (by omega)
    rcases hb:bitW s p with _|_
    ·rw [hb] at hh
     refine CallS.plain [.fptr 4 (setC s) 0,.int .i64 p] (.bool false) hh (LeL.cons (view_set (k:=7) rfl) (LeL.cons (.refl _) LeL.nil)) trivial ?_
     repeat'(first|refine vcI ?_|refine And.intro ?_ ?_|(intro hq;(try simp at hq);(try(exfalso;omega));(try(revert hq;intro))))
     ·rfl
     have hfs:FirstP s p:=⟨hb,hp⟩
     have hl1:=hln (k+1) (by omega)
     refine Exists.intro (oints (plcK o (k+1))) (And.intro (NEq.owns rfl (hlk.trans hl1.symm) fun a b ha hb=>?_) (And.intro (shape_ints (hlk.trans hl1.symm)) ?_))
     ·rw [show plcK o (k+1)=plcI o (plcK o k) k from rfl]
      unfold plcI
      rw [if_neg (show ¬ 0≤(plcK o k).getD k 0 by omega),← hks,← hsd,hfs.first,ek]
      exact put_setI (l:=plcK o k) (i:=k) (by omega) hb (.refl _)
     repeat'(first|refine vcI ?_|refine And.intro ?_ ?_|(intro hq;(try simp at hq);(try(exfalso;omega));(try(revert hq;intro))))
     exact Exists.intro (k+1,v6,v9) ⟨by dsimp only;omega,(by first|omega|(dsimp only;omega)),⟨by ((repeat' apply And.intro) <;> (first|exact True.intro|exact NEq.refl _|(refine NEq.int ?_;first|exact rfl|omega|(rw [wrapI (by omega)];first|exact rfl|omega)))),⟨⟨rfl,.refl _⟩,⟨rfl,.refl _⟩,trivial⟩,.nil⟩⟩
    ·rw [hb] at hh
     refine CallS.plain [.fptr 4 (setC s) 0,.int .i64 p] (.bool true) hh (LeL.cons (view_set (k:=7) rfl) (LeL.cons (.refl _) LeL.nil)) trivial ?_
     repeat'(first|refine vcI ?_|refine And.intro ?_ ?_|(intro hq;(try simp at hq);(try(exfalso;omega));(try(revert hq;intro))))
     exact Exists.intro (p+1,v11,v6,v9) ⟨fun q hq=>by rcases (by dsimp only at hq;omega:q<p∨q=p) with h|rfl;exact hp q h;exact hb,(by first|omega|(dsimp only;omega)),⟨by ((repeat' apply And.intro) <;> (first|exact True.intro|exact NEq.refl _|(refine NEq.int ?_;first|exact rfl|omega|(rw [wrapI (by omega)];first|exact rfl|omega)))),⟨⟨rfl,.refl _⟩,⟨rfl,.refl _⟩,⟨rfl,.refl _⟩,trivial⟩,.nil⟩⟩
  ·obtain rfl:k=n:=by omega
   rw [show plcE o=(plcL o,0) by unfold plcE;rw [if_pos HO],show plcL o=plcK o k by unfold plcL;rw [hnt]]
   exact NEq.tup2 (view_ints (k:=6) (l:=plcK o k) rfl (hln k (by omega)).symm) (.refl _)
 ·rw [openR_bad HO] at ho
  refine CallS.frozen (.tup [.nilp,.int .i64 210]) ho (plainAll rfl) ?_
  repeat'(first|refine vcI ?_|refine And.intro ?_ ?_|(intro hq;(try simp at hq);(try(exfalso;omega));(try(revert hq;intro))))
  rw [show plcE o=([],210) by unfold plcE;rw [if_neg HO]]
  exact ans_nils 210
end Go.Ab
namespace Go.Ab
open Go.Proofs
set_option maxRecDepth 100000
set_option maxHeartbeats 4000000

def AtP (m:Nat) (C:Nat→Nat→Bool) (l:List Int) (r p k:Nat):Prop:=∃ q,q<k∧C r q=true∧l.getD q 0=(p:Int)
theorem leastR_spec (m:Nat) (hm:m≤250) (C:Nat→Nat→Bool) (l:List Int) (hl:l.length=m) (r:Nat) (hr:r<m) (p:Nat) (hp:p≤250) (h1:¬ AtP m C l r p m) (h2:∀ q,q<p→AtP m C l r q m):CallsF Tryz.prog 44 [frb m m C,ints l,.int .i64 r] (.int .i64 p):=by
 refine callsF_ofS mx Tryz.call44 Tryz.func44 rfl Tryz.ntmps44 Tryz.results44 (by kernel_rfl) (by simp) fun lo=>?_
 repeat'(first|refine vcI ?_|refine And.intro ?_ ?_|(intro hq;(try simp at hq);(try(exfalso;omega));(try(revert hq;intro))))
 refine loopS mx (by decide) (by kernel_rfl) (fun x:Nat=>x≤p) (fun x=>[(7,.int .i64 x),(0,frb m m C),(1,ints l),(2,.int .i64 r)]) (fun _=>[]) (fun x=>p - x) 0 (by simp) ⟨by ((repeat' apply And.intro) <;> (first|exact True.intro|exact NEq.refl _|(refine NEq.int ?_;first|exact rfl|omega|(rw [wrapI (by omega)];first|exact rfl|omega)))),trivial,.nil⟩ ?_
 intro x nv hx
 have hwx:IntKind.i64.wrap ((x:Int)+1)=((x+1:Nat):Int):=wrapI (by omega)
 repeat'(first|refine vcI ?_|refine And.intro ?_ ?_|(intro hq;(try simp at hq);(try(exfalso;omega));(try(revert hq;intro))))
 refine loopS2 mx (by decide) (by kernel_rfl) (fun (k:Nat) (b:Bool)=>k≤m∧(b=false↔AtP m C l r x k)) (fun k b=>[(9,.int .i64 k),(8,.bool b),(7,.int .i64 x),(0,frb m m C),(1,ints l),(2,.int .i64 r)]) (fun _ _=>[]) (fun k b=>m - k) 0 true ⟨by simp,by simp [AtP]⟩ ⟨by ((repeat' apply And.intro) <;> (first|exact True.intro|exact NEq.refl _|(refine NEq.int ?_;first|exact rfl|omega|(rw [wrapI (by omega)];first|exact rfl|omega)))),trivial,.nil⟩ ?_
 rintro k b nv ⟨hk,hb⟩
 have hwk:IntKind.i64.wrap ((k:Int)+1)=((k+1:Nat):Int):=wrapI (by omega)
 have hsucc:AtP m C l r x (k+1)↔AtP m C l r x k∨(C r k=true∧l.getD k 0=(x:Int)):=by
  unfold AtP
  constructor
  ·rintro ⟨q,q1,q2,q3⟩
   by_cases e:q=k
   ·subst e;exact .inr ⟨q2,q3⟩
   ·exact .inl ⟨q,by omega,q2,q3⟩
  ·rintro (⟨q,q1,q2,q3⟩|⟨q2,q3⟩)
   ·exact ⟨q,by omega,q2,q3⟩
   ·exact ⟨k,by omega,q2,q3⟩
 repeat'(first|refine vcI ?_|refine And.intro ?_ ?_|(intro hq;(try simp at hq);(try(exfalso;omega));(try(revert hq;intro))))
 ·have hc:C r k=true∧l.getD k 0=(x:Int):=by assumption
  exact Exists.intro (k+1,false) ⟨⟨by dsimp only;omega,by dsimp only;rw [hsucc];exact ⟨fun _ => .inr hc,fun _=>rfl⟩⟩,(by first|omega|(dsimp only;omega)),⟨by ((repeat' apply And.intro) <;> (first|exact True.intro|exact NEq.refl _|(refine NEq.int ?_;first|exact rfl|omega|(rw [wrapI (by omega)];first|exact rfl|omega)))),trivial,.nil⟩⟩
 ·have hc:C r k=true→¬ l.getD k 0=(x:Int):=by assumption
  refine Exists.intro (k+1,b) ⟨⟨by dsimp only;omega,?_⟩,(by first|omega|(dsimp only;omega)),⟨by ((repeat' apply And.intro) <;> (first|exact True.intro|exact NEq.refl _|(refine NEq.int ?_;first|exact rfl|omega|(rw [wrapI (by omega)];first|exact rfl|omega)))),trivial,.nil⟩⟩
  dsimp only
  rw [hsucc,hb]
  exact ⟨.inl,fun h=>h.elim id fun h3=>absurd h3.2 (hc h3.1)⟩
 ·have hbt:b=true:=by assumption
  obtain rfl:k=m:=by omega
  have hn:¬ AtP k C l r x k:=fun h=>by have:=hb.2 h;rw [hbt] at this;cases this
  obtain rfl:x=p:=by
   refine Classical.byContradiction fun e=>hn (h2 x (by omega))
  exact .refl _
 ·have hbf:b=false:=by assumption
  obtain rfl:k=m:=by omega
  have hn:AtP k C l r x k:=hb.1 hbf
  have hxp:x≠p:=fun e=>by subst e;exact h1 hn
  exact Exists.intro (x+1) ⟨by omega,by dsimp only;omega,⟨by ((repeat' apply And.intro) <;> (first|exact True.intro|exact NEq.refl _|(refine NEq.int ?_;first|exact rfl|omega|(rw [wrapI (by omega)];first|exact rfl|omega)))),trivial,.nil⟩⟩
theorem coB_iff {o:DO} {a b:Nat}:coB o a b=true↔a≠b∧ColP o a b:=by simp [coB]
theorem atP_taken {o:DO} (H:FlH o) {l:List Int} {k p:Nat} (hk:k<o.regs.toNat):AtP o.regs.toNat (coB o) l k p o.regs.toNat↔bitW (takenW l k (listW (colT o k) 250)) p=true:=by
 have hr:=H.hr
 rw [bit_takenW]
 unfold AtP
 constructor
 ·rintro ⟨q,q1,q2,q3⟩
  rw [coB_iff] at q2
  exact ⟨(q:Int),(mem_colT H (by omega)).2 ⟨q,rfl,q2.2⟩,by omega,q3⟩
 ·rintro ⟨c,c1,c2,c3⟩
  obtain ⟨b,rfl,hc⟩:=(mem_colT H (by omega)).1 c1
  have:=hc.lt H
  exact ⟨b,by omega,coB_iff.2 ⟨by omega,hc⟩,c3⟩
noncomputable def iniL (o:DO) (m k:Nat):List Int:=(List.range m).map fun a=>if a<k then (if lvB o 0 a=true then (a:Int) else -1) else 0
theorem iniL_len (o:DO) (m k:Nat):(iniL o m k).length=m:=by simp [iniL]
theorem iniL_at (o:DO) {m k a:Nat} (h:a<m):(iniL o m k).getD a 0=if a<k then (if lvB o 0 a=true then (a:Int) else -1) else 0:=by
 simp [iniL,List.getD_eq_getElem?_getD,h]
theorem list_ext0 {a b:List Int} (h:a.length=b.length) (e:∀ i,i<a.length→a.getD i 0=b.getD i 0):a=b:=by
 apply List.ext_getElem h
 intro i h1 h2
 have:=e i h1
 simpa [List.getD_eq_getElem?_getD,h1,h2] using this
theorem iniL_succ (o:DO) {m k:Nat} (hk:k<m):(iniL o m k).set k (if lvB o 0 k=true then (k:Int) else -1)=iniL o m (k+1):=by
 refine list_ext0 (by simp [iniL]) fun i hi=>?_
 have hi':i<m:=by simpa [iniL] using hi
 rw [getD_set,iniL_len,iniL_at o hi',iniL_at o hi']
 by_cases e:i=k
 ·subst e;rw [if_pos ⟨rfl,hk⟩,if_pos (show i<i+1 by omega)]
 ·rw [if_neg fun h=>e h.1]
  by_cases h:i<k
  ·rw [if_pos h,if_pos (show i<k+1 by omega)]
  ·rw [if_neg h,if_neg (show ¬ i<k+1 by omega)]
theorem iniL_all {o:DO} (H:FlH o):iniL o o.regs.toNat o.regs.toNat=plc0 o:=by
 have hr:=H.hr
 have G:=fun a=>getD_foldset (liveL o 0) (fun r hr=>(list_lt H 0 r hr).1) (List.replicate o.regs.toNat (-1)) a
 simp only [List.length_replicate] at G
 refine list_ext0 (by rw [iniL_len];exact (G 0).1.symm) fun i hi=>?_
 rw [iniL_len] at hi
 rw [iniL_at o hi,if_pos hi]
 have h1:(plc0 o).getD i 0=_:=(G i).2
 rw [h1]
 by_cases h:LiveP o 0 i
 ·rw [if_pos (lvB_iff.2 h),if_pos ⟨(mem_liveL (by omega)).2 h,hi⟩]
 ·rw [if_neg fun k=>h (lvB_iff.1 k),if_neg fun k=>h ((mem_liveL (by omega)).1 k.1),rep_get hi]
theorem RPlaces_spec (o:DO) (hf:fewN o≤6000) (hs:∀ l∈o.descs,l.length≤1048576∧∀ f∈l,f.small) (hl:o.irs.length≤1048576∧o.descs.length≤1048576∧o.types.length≤1048576):CallsF Tryz.prog 17 [.agg (dol o)] (ansE (plcE o)):=by
 have hsh:=Shaped_spec o hf hl
 refine callsF_ofS mx Tryz.call17 Tryz.func17 rfl Tryz.ntmps17 Tryz.results17 (by kernel_rfl) (by simp) fun lo=>?_
 repeat'(first|refine vcI ?_|refine And.intro ?_ ?_|(intro hq;(try simp at hq);(try(exfalso;omega));(try(revert hq;intro))))
 rcases hb:shapedB o with _|_
 ·rw [hb] at hsh
  have HO:¬ OpenP o:=fun h=>by rw [shaped_open.2 h] at hb;cases hb
  refine CallS.plain [.fptr 12 (rowL (dol o)) 0] (.bool false) hsh (LeL.cons (view_opt rfl) LeL.nil) trivial ?_
  repeat'(first|refine vcI ?_|refine And.intro ?_ ?_|(intro hq;(try simp at hq);(try(exfalso;omega));(try(revert hq;intro))))
  rw [show plcE o=([],210) by unfold plcE;rw [if_neg HO]]
  exact ans_nils 210
 ·rw [hb] at hsh
  have HO:=shaped_open.1 hb
  have H:=HO.fl hf hs
  have hrr:=H.hr
  have hr1:=HO.r1
  have hne:=HO.ne
  obtain ⟨m,hm⟩:∃ m:Nat,o.regs=(m:Int):=⟨o.regs.toNat,(Int.toNat_of_nonneg (by omega)).symm⟩
  have hmt:o.regs.toNat=m:=by omega
  have hlo:=LiveOf_spec o H HO.r1
  have hco:=collisions_spec o H HO.r1
  rw [hmt] at hlo hco
  refine CallS.plain [.fptr 12 (rowL (dol o)) 0] (.bool true) hsh (LeL.cons (view_opt rfl) LeL.nil) trivial ?_
  repeat'(first|refine vcI ?_|refine And.intro ?_ ?_|(intro hq;(try simp at hq);(try(exfalso;omega));(try(revert hq;intro))))
  refine CallS.ownPlain [.fptr 12 (rowL (dol o)) 0] 1 o.irs.length (fun a _ => .own 1 m fun r _ => .bool (lvB o a r)) (fun id ver => .ref id ver [] 1 0 o.irs.length) hlo (LeL.cons (view_opt rfl) LeL.nil) trivial (fun i o hi=>fun _ _ _=>trivial) ?_
  repeat'(first|refine vcI ?_|refine And.intro ?_ ?_|(intro hq;(try simp at hq);(try(exfalso;omega));(try(revert hq;intro))))
  refine CallS.ownPlain [.fptr 12 (rowL (dol o)) 0,frb o.irs.length m (lvB o)] 1 m (fun a _ => .own 1 m fun r _ => .bool (coB o a r)) (fun id ver => .ref id ver [] 1 0 m) hco (LeL.cons (view_opt rfl) (LeL.cons (view_bb rfl) LeL.nil)) trivial (fun i o hi=>fun _ _ _=>trivial) ?_
  repeat'(first|refine vcI ?_|refine And.intro ?_ ?_|(intro hq;(try simp at hq);(try(exfalso;omega));(try(revert hq;intro))))
  rw [hm]
  refine Exists.intro (oints (iniL o m 0)) (And.intro ?_ (And.intro (shape_ints (by rw [iniL_len];simp)) ?_))
  ·refine NEq.owns rfl (by rw [iniL_len];simp) fun i b hi hb=>?_
   rw [iniL_len] at hi
   obtain rfl:b=0:=by omega
   rw [iniL_at o hi,if_neg (by omega)]
   exact .refl _
  repeat'(first|refine vcI ?_|refine And.intro ?_ ?_|(intro hq;(try simp at hq);(try(exfalso;omega));(try(revert hq;intro))))
  refine loopS4 mx (by decide) (by kernel_rfl) (fun (k v6 v4 v5:Nat)=>k≤m) (fun k v6 v4 v5=>[(7,.int .i64 k),(6,.ref (1,16) v6 [] 1 0 m),(5,.ref (1,13) v5 [] 1 0 m),(4,.ref (1,11) v4 [] 1 0 o.irs.length),(1,.ptr (1,1) 0 [] 0 0)]) (fun k v6 v4 v5=>[((1,16),⟨v6,oints (iniL o m k)⟩),((1,13),⟨v5,bbN m m (coB o)⟩),((1,11),⟨v4,bbN o.irs.length m (lvB o)⟩),((1,1),⟨0,.obox 12 (rowL (dol o))⟩)]) (fun k v6 v4 v5=>m - k) 0 _ _ _ (by simp) ⟨by ((repeat' apply And.intro) <;> (first|exact True.intro|exact NEq.refl _|(refine NEq.int ?_;first|exact rfl|omega|(rw [wrapI (by omega)];first|exact rfl|omega)))),⟨⟨rfl,.refl _⟩,⟨rfl,.refl _⟩,⟨rfl,.refl _⟩,⟨rfl,.refl _⟩,trivial⟩,.nil⟩ ?_
  intro k v6 v4 v5 nv hk
  have hwk:IntKind.i64.wrap ((k:Int)+1)=((k+1:Nat):Int):=wrapI (by omega)
  have ek0:0+(k:Int).toNat=k:=by omega
  have hlen:=iniL_len o m k
  repeat'(first|refine vcI ?_|refine And.intro ?_ ?_|(intro hq;(try simp at hq);(try(exfalso;omega));(try(revert hq;intro))))
  ·rfl
  ·have hkm:k<m:=by omega
   refine Exists.intro (oints ((iniL o m k).set k (-1))) (And.intro (NEq.owns rfl (by simp) fun a b ha hb=>?_) (And.intro (shape_ints (by simp)) ?_))
   ·rw [ek0];exact put_setI (l:=iniL o m k) (i:=k) (by omega) hb (.refl _)
   have hll:((iniL o m k).set k (-1)).length=m:=by simp [hlen]
   repeat'(first|refine vcI ?_|refine And.intro ?_ ?_|(intro hq;(try simp at hq);(try(exfalso;omega));(try(revert hq;intro))))
   ·rfl
   ·have hv:lvB o 0 k=true:=by assumption
    have e:((iniL o m k).set k (-1)).set k (k:Int)=iniL o m (k+1):=by rw [List.set_set,← iniL_succ o hkm,if_pos hv]
    refine Exists.intro (oints (iniL o m (k+1))) (And.intro (NEq.owns rfl (by rw [hll,iniL_len]) fun a b ha hb=>?_) (And.intro (shape_ints (by rw [hll,iniL_len])) ?_))
    ·rw [ek0,← e];exact put_setI (l:=(iniL o m k).set k (-1)) (i:=k) (by omega) hb (.refl _)
    repeat'(first|refine vcI ?_|refine And.intro ?_ ?_|(intro hq;(try simp at hq);(try(exfalso;omega));(try(revert hq;intro))))
    exact Exists.intro (k+1,v6,v4,v5) ⟨by dsimp only;omega,(by first|omega|(dsimp only;omega)),⟨by ((repeat' apply And.intro) <;> (first|exact True.intro|exact NEq.refl _|(refine NEq.int ?_;first|exact rfl|omega|(rw [wrapI (by omega)];first|exact rfl|omega)))),⟨⟨rfl,.refl _⟩,⟨rfl,.refl _⟩,⟨rfl,.refl _⟩,⟨rfl,.refl _⟩,trivial⟩,.nil⟩⟩
   ·have hv:lvB o 0 k=false:=by assumption
    have e:(iniL o m k).set k (-1)=iniL o m (k+1):=by rw [← iniL_succ o hkm,if_neg (by rw [hv];decide)]
    rw [e]
    exact Exists.intro (k+1,v6,v4,v5) ⟨by dsimp only;omega,(by first|omega|(dsimp only;omega)),⟨by ((repeat' apply And.intro) <;> (first|exact True.intro|exact NEq.refl _|(refine NEq.int ?_;first|exact rfl|omega|(rw [wrapI (by omega)];first|exact rfl|omega)))),⟨⟨rfl,.refl _⟩,⟨rfl,.refl _⟩,⟨rfl,.refl _⟩,⟨rfl,.refl _⟩,trivial⟩,.nil⟩⟩
  ·obtain rfl:m=k:=by omega
   repeat'(first|refine vcI ?_|refine And.intro ?_ ?_|(intro hq;(try simp at hq);(try(exfalso;omega));(try(revert hq;intro))))
   rw [show iniL o m m=plcK o 0 by have:=iniL_all H;rw [hmt] at this;exact this]
   have hP:∀ k,k≤o.regs.toNat→PlcP o k (plcK o k):=fun k hk=>plcK_P H k hk
   have hln:∀ k,k≤m→(plcK o k).length=m:=fun k hk=>by rw [(hP k (by omega)).len,hmt]
   refine loopS4 mx (by decide) (by kernel_rfl) (fun (k v6 v4 v5:Nat)=>k≤m) (fun k v6 v4 v5=>[(8,.int .i64 k),(6,.ref (1,16) v6 [] 1 0 m),(5,.ref (1,13) v5 [] 1 0 m),(4,.ref (1,11) v4 [] 1 0 o.irs.length),(1,.ptr (1,1) 0 [] 0 0)]) (fun k v6 v4 v5=>[((1,16),⟨v6,oints (plcK o k)⟩),((1,13),⟨v5,bbN m m (coB o)⟩),((1,11),⟨v4,bbN o.irs.length m (lvB o)⟩),((1,1),⟨0,.obox 12 (rowL (dol o))⟩)]) (fun k v6 v4 v5=>m - k) 0 v6 v4 v5 (by simp) ⟨by ((repeat' apply And.intro) <;> (first|exact True.intro|exact NEq.refl _|(refine NEq.int ?_;first|exact rfl|omega|(rw [wrapI (by omega)];first|exact rfl|omega)))),⟨⟨rfl,.refl _⟩,⟨rfl,.refl _⟩,⟨rfl,.refl _⟩,⟨rfl,.refl _⟩,trivial⟩,.nil⟩ ?_
   clear hk ek0 hwk hlen
   intro k v6 v4 v5 nv hk
   have hwk:IntKind.i64.wrap ((k:Int)+1)=((k+1:Nat):Int):=wrapI (by omega)
   have ek0:0+(k:Int).toNat=k:=by omega
   have hlk:=hln k hk
   repeat'(first|refine vcI ?_|refine And.intro ?_ ?_|(intro hq;(try simp at hq);(try(exfalso;omega));(try(revert hq;intro))))
   ·have hlt:(plcK o k).getD k 0<0:=by assumption
    have hkm:k<m:=by omega
    obtain ⟨p,hp⟩:=taken_first (l:=plcK o k) H (show k<o.regs.toNat by omega)
    have hpn:=taken_few (show k<o.regs.toNat by omega) (col_nn H (r:=k) (by omega)) hp.2
    have hle:=leastR_spec m (by omega) (coB o) (plcK o k) hlk k hkm p (by omega) (fun h=>by
     have h2:=(atP_taken H (l:=plcK o k) (k:=k) (p:=p) (by omega)).1 (by rw [hmt];exact h)
     rw [hp.1] at h2;cases h2) (fun q hq=>by
     have h2:=(atP_taken H (l:=plcK o k) (k:=k) (p:=q) (by omega)).2 (hp.2 q hq)
     rw [hmt] at h2;exact h2)
    refine CallS.plain [frb m m (coB o),ints (plcK o k),.int .i64 k] (.int .i64 p) hle (LeL.cons (view_bb rfl) (LeL.cons (view_ints (k:=7) rfl hlk.symm) (LeL.cons (.refl _) LeL.nil))) trivial ?_
    repeat'(first|refine vcI ?_|refine And.intro ?_ ?_|(intro hq;(try simp at hq);(try(exfalso;omega));(try(revert hq;intro))))
    ·rfl
    have hl1:=hln (k+1) (by omega)
    refine Exists.intro (oints (plcK o (k+1))) (And.intro (NEq.owns rfl (hlk.trans hl1.symm) fun a b ha hb=>?_) (And.intro (shape_ints (hlk.trans hl1.symm)) ?_))
    ·rw [show plcK o (k+1)=plcI o (plcK o k) k from rfl]
     unfold plcI
     rw [if_neg (show ¬ 0≤(plcK o k).getD k 0 by omega),hp.first,ek0]
     exact put_setI (l:=plcK o k) (i:=k) (by omega) hb (.refl _)
    repeat'(first|refine vcI ?_|refine And.intro ?_ ?_|(intro hq;(try simp at hq);(try(exfalso;omega));(try(revert hq;intro))))
    exact Exists.intro (k+1,v6,v4,v5) ⟨by dsimp only;omega,(by first|omega|(dsimp only;omega)),⟨by ((repeat' apply And.intro) <;> (first|exact True.intro|exact NEq.refl _|(refine NEq.int ?_;first|exact rfl|omega|(rw [wrapI (by omega)];first|exact rfl|omega)))),⟨⟨rfl,.refl _⟩,⟨rfl,.refl _⟩,⟨rfl,.refl _⟩,⟨rfl,.refl _⟩,trivial⟩,.nil⟩⟩
   ·have hge:0≤(plcK o k).getD k 0:=by assumption
    have e:plcK o (k+1)=plcK o k:=by
     show plcI o (plcK o k) k=_
     unfold plcI;rw [if_pos hge]
    refine Exists.intro (k+1,v6,v4,v5) ⟨by dsimp only;omega,(by first|omega|(dsimp only;omega)),?_⟩
    dsimp only
    rw [e]
    exact ⟨by ((repeat' apply And.intro) <;> (first|exact True.intro|exact NEq.refl _|(refine NEq.int ?_;first|exact rfl|omega|(rw [wrapI (by omega)];first|exact rfl|omega)))),⟨⟨rfl,.refl _⟩,⟨rfl,.refl _⟩,⟨rfl,.refl _⟩,⟨rfl,.refl _⟩,trivial⟩,.nil⟩
   ·obtain rfl:m=k:=by omega
    rw [show plcE o=(plcL o,0) by unfold plcE;rw [if_pos HO],show plcL o=plcK o m by unfold plcL;rw [hmt]]
    exact NEq.tup2 (view_ints (k:=6) rfl (hln m (by omega)).symm) (.refl _)
end Go.Ab
namespace Go.Ab
open Go.Proofs
set_option maxRecDepth 100000
set_option maxHeartbeats 4000000

theorem chkE_bad {o:DO} {l:List Int} (hf:fewN o≤6000) (hs:∀ l∈o.descs,l.length≤1048576∧∀ f∈l,f.small) (HO:OpenP o) (hc:(l.length:Int)=o.regs∧∀ p∈l,regB o p=true) (h:¬ RightP o l):chkE o l=210:=by
 have h0:chkE o l≠0:=fun e=>h ((chkE_zero hf hs).1 e)
 unfold chkE at h0 ⊢
 rw [if_pos HO,if_pos hc] at h0 ⊢
 split
 ·rename_i hp;rw [if_pos hp] at h0;exact absurd rfl h0
 ·rfl
theorem RCheck_spec (o:DO) (l:List Int) (hll:l.length≤1048576) (hf:fewN o≤6000) (hs:∀ l∈o.descs,l.length≤1048576∧∀ f∈l,f.small) (hl:o.irs.length≤1048576∧o.descs.length≤1048576∧o.types.length≤1048576):CallsF Tryz.prog 23 [.agg (dol o),ints l] (.int .i64 (chkE o l)):=by
 have hsh:=Shaped_spec o hf hl
 refine callsF_ofS mx Tryz.call23 Tryz.func23 rfl Tryz.ntmps23 Tryz.results23 (by kernel_rfl) (by simp) fun lo=>?_
 repeat'(first|refine vcI ?_|refine And.intro ?_ ?_|(intro hq;(try simp at hq);(try(exfalso;omega));(try(revert hq;intro))))
 rcases hb:shapedB o with _|_
 ·rw [hb] at hsh
  have HO:¬ OpenP o:=fun h=>by rw [shaped_open.2 h] at hb;cases hb
  refine CallS.plain [.fptr 12 (rowL (dol o)) 0] (.bool false) hsh (LeL.cons (view_opt rfl) LeL.nil) trivial ?_
  repeat'(first|refine vcI ?_|refine And.intro ?_ ?_|(intro hq;(try simp at hq);(try(exfalso;omega));(try(revert hq;intro))))
  rw [show chkE o l=210 by unfold chkE;rw [if_neg HO]]
  exact .refl _
 ·rw [hb] at hsh
  have HO:=shaped_open.1 hb
  have H:=HO.fl hf hs
  have hrr:=H.hr
  have hr1:=HO.r1
  have hne:=HO.ne
  obtain ⟨m,hm⟩:∃ m:Nat,o.regs=(m:Int):=⟨o.regs.toNat,(Int.toNat_of_nonneg (by omega)).symm⟩
  have hmt:o.regs.toNat=m:=by omega
  have hlo:=LiveOf_spec o H HO.r1
  have hco:=collisions_spec o H HO.r1
  rw [hmt] at hlo hco
  have hinn:=inside_spec l o.regs hll
  change CallsF _ _ _ (.bool (insL l o.regs)) at hinn
  have hreg:insL l o.regs=true↔∀ p∈l,regB o p=true:=by
   rw [insL_iff]
   simp only [regB,Bool.and_eq_true,decide_eq_true_eq]
  refine CallS.plain [.fptr 12 (rowL (dol o)) 0] (.bool true) hsh (LeL.cons (view_opt rfl) LeL.nil) trivial ?_
  repeat'(first|refine vcI ?_|refine And.intro ?_ ?_|(intro hq;(try simp at hq);(try(exfalso;omega));(try(revert hq;intro))))
  ·have hle:(l.length:Int)=o.regs:=by assumption
   have hbl:((l.length:Int) != o.regs)=false:=by rw [hle];simp
   have hlm:l.length=m:=by omega
   rw [hbl]
   rcases hi:insL l o.regs with _|_
   ·rw [hi] at hinn
    first
    | refine CallS.frozen (.bool false) hinn (plainAll rfl) ?_
    | refine QS.frozen (.bool false) hinn (plainAll rfl) ?_
    repeat'(first|refine vcI ?_|refine And.intro ?_ ?_|(intro hq;(try simp at hq);(try(exfalso;omega));(try(revert hq;intro))))
    rw [show chkE o l=1 by unfold chkE;rw [if_pos HO,if_neg fun h=>by rw [hreg.2 h.2] at hi;cases hi]]
    exact .refl _
   ·rw [hi] at hinn
    have hc:(l.length:Int)=o.regs∧∀ p∈l,regB o p=true:=⟨hle,hreg.1 hi⟩
    have hbad:=chkE_bad hf hs HO hc
    first
    | refine CallS.frozen (.bool true) hinn (plainAll rfl) ?_
    | refine QS.frozen (.bool true) hinn (plainAll rfl) ?_
    repeat'(first|refine vcI ?_|refine And.intro ?_ ?_|(intro hq;(try simp at hq);(try(exfalso;omega));(try(revert hq;intro))))
    refine CallS.ownPlain [.fptr 12 (rowL (dol o)) 0] 1 o.irs.length (fun a _ => .own 1 m fun r _ => .bool (lvB o a r)) (fun id ver => .ref id ver [] 1 0 o.irs.length) hlo (LeL.cons (view_opt rfl) LeL.nil) trivial (fun i o hi=>fun _ _ _=>trivial) ?_
    repeat'(first|refine vcI ?_|refine And.intro ?_ ?_|(intro hq;(try simp at hq);(try(exfalso;omega));(try(revert hq;intro))))
    refine CallS.ownPlain [.fptr 12 (rowL (dol o)) 0,frb o.irs.length m (lvB o)] 1 m (fun a _ => .own 1 m fun r _ => .bool (coB o a r)) (fun id ver => .ref id ver [] 1 0 m) hco (LeL.cons (view_opt rfl) (LeL.cons (view_bb rfl) LeL.nil)) trivial (fun i o hi=>fun _ _ _=>trivial) ?_
    repeat'(first|refine vcI ?_|refine And.intro ?_ ?_|(intro hq;(try simp at hq);(try(exfalso;omega));(try(revert hq;intro))))
    refine loopS3 mx (by decide) (by kernel_rfl) (fun (r v6 v5:Nat)=>r≤m∧∀ a,a<r→(LiveP o 0 a→l.getD a 0=a)∧∀ q,q<a→coB o a q=true→l.getD a 0≠l.getD q 0) (fun r v6 v5=>[(7,.int .i64 r),(6,.ref (1,25) v6 [] 1 0 m),(5,.ref (1,23) v5 [] 1 0 o.irs.length),(2,.ptr (1,2) 0 [] 0 0),(1,ints l)]) (fun r v6 v5=>[((1,25),⟨v6,bbN m m (coB o)⟩),((1,23),⟨v5,bbN o.irs.length m (lvB o)⟩),((1,2),⟨0,.obox 12 (rowL (dol o))⟩)]) (fun r v6 v5=>m - r) 0 _ _ ⟨by simp,fun a ha=>by omega⟩ ⟨by ((repeat' apply And.intro) <;> (first|exact True.intro|exact NEq.refl _|(refine NEq.int ?_;first|exact rfl|omega|(rw [wrapI (by omega)];first|exact rfl|omega)))),⟨⟨rfl,.refl _⟩,⟨rfl,.refl _⟩,⟨rfl,.refl _⟩,trivial⟩,.nil⟩ ?_
    rintro r v6 v5 nv ⟨hr,hI⟩
    have hwr:IntKind.i64.wrap ((r:Int)+1)=((r+1:Nat):Int):=wrapI (by omega)
    repeat'(first|refine vcI ?_|refine And.intro ?_ ?_|(intro hq;(try simp at hq);(try(exfalso;omega));(try(revert hq;intro))))
    ·have hv:lvB o 0 r=true∧¬ l.getD r 0=(r:Int):=by assumption
     rw [hbad fun h=>hv.2 (h.live r (lvB_iff.1 hv.1))]
     exact .refl _
    ·have hv:lvB o 0 r=true→l.getD r 0=(r:Int):=by assumption
     have hrm:r<m:=by omega
     refine loopS3 mx (by decide) (by kernel_rfl) (fun (q v6 v5:Nat)=>q≤r∧∀ a,a<q→coB o r a=true→l.getD r 0≠l.getD a 0) (fun q v6 v5=>[(8,.int .i64 q),(7,.int .i64 r),(6,.ref (1,25) v6 [] 1 0 m),(5,.ref (1,23) v5 [] 1 0 o.irs.length),(2,.ptr (1,2) 0 [] 0 0),(1,ints l)]) (fun q v6 v5=>[((1,25),⟨v6,bbN m m (coB o)⟩),((1,23),⟨v5,bbN o.irs.length m (lvB o)⟩),((1,2),⟨0,.obox 12 (rowL (dol o))⟩)]) (fun q v6 v5=>r - q) 0 _ _ ⟨by simp,fun a ha=>by omega⟩ ⟨by ((repeat' apply And.intro) <;> (first|exact True.intro|exact NEq.refl _|(refine NEq.int ?_;first|exact rfl|omega|(rw [wrapI (by omega)];first|exact rfl|omega)))),⟨⟨rfl,.refl _⟩,⟨rfl,.refl _⟩,⟨rfl,.refl _⟩,trivial⟩,.nil⟩ ?_
     rintro q v6 v5 nv ⟨hq,hJ⟩
     have hwq:IntKind.i64.wrap ((q:Int)+1)=((q+1:Nat):Int):=wrapI (by omega)
     repeat'(first|refine vcI ?_|refine And.intro ?_ ?_|(intro hq;(try simp at hq);(try(exfalso;omega));(try(revert hq;intro))))
     ·have hc2:coB o r q=true∧l.getD r 0=l.getD q 0:=by assumption
      have hcb:=coB_iff.1 hc2.1
      rw [hbad fun h=>h.apart r q hcb.2 hcb.1 hc2.2]
      exact .refl _
     ·have hc2:coB o r q=true→¬ l.getD r 0=l.getD q 0:=by assumption
      refine Exists.intro (q+1,v6,v5) ⟨⟨by dsimp only;omega,fun a ha=>?_⟩,(by first|omega|(dsimp only;omega)),⟨by ((repeat' apply And.intro) <;> (first|exact True.intro|exact NEq.refl _|(refine NEq.int ?_;first|exact rfl|omega|(rw [wrapI (by omega)];first|exact rfl|omega)))),⟨⟨rfl,.refl _⟩,⟨rfl,.refl _⟩,⟨rfl,.refl _⟩,trivial⟩,.nil⟩⟩
      by_cases e:a=q
      ·subst e;exact hc2
      ·exact hJ a (by dsimp only at ha;omega)
     ·obtain rfl:q=r:=by omega
      refine Exists.intro (q+1,v6,v5) ⟨⟨by dsimp only;omega,fun a ha=>?_⟩,(by first|omega|(dsimp only;omega)),⟨by ((repeat' apply And.intro) <;> (first|exact True.intro|exact NEq.refl _|(refine NEq.int ?_;first|exact rfl|omega|(rw [wrapI (by omega)];first|exact rfl|omega)))),⟨⟨rfl,.refl _⟩,⟨rfl,.refl _⟩,⟨rfl,.refl _⟩,trivial⟩,.nil⟩⟩
      by_cases e:a=q
      ·subst e;exact ⟨fun h=>hv (lvB_iff.2 h),hJ⟩
      ·exact hI a (by dsimp only at ha;omega)
    ·obtain rfl:m=r:=by omega
     rw [(chkE_zero hf hs).2 ⟨HO,hle,fun a ha=>?_,fun a h=>?_,fun a b hcol hab=>?_⟩]
     ·exact .refl _
     ·have h5:=hc.2 (l.getD a 0) (by rw [List.getD_eq_getElem?_getD];exact getD_mem _ ha)
      simp only [regB,Bool.and_eq_true,decide_eq_true_eq] at h5
      omega
     ·have:=(h.lt H).1
      exact (hI a (by omega)).1 h
     ·have hlt:=hcol.lt H
      rcases Nat.lt_or_gt_of_ne hab with h1|h1
      ·exact fun e=>(hI b (by omega)).2 a h1 (coB_iff.2 ⟨Ne.symm hab,hcol.symm⟩) e.symm
      ·exact (hI a (by omega)).2 b h1 (coB_iff.2 ⟨hab,hcol⟩)
  ·have hle:¬ (l.length:Int)=o.regs:=by assumption
   rw [show chkE o l=1 by unfold chkE;rw [if_pos HO,if_neg fun h=>hle h.1]]
   exact .refl _
end Go.Ab
namespace Go.Ab
open Go.Proofs
set_option maxRecDepth 100000
set_option maxHeartbeats 4000000

theorem eachP_spec (l:List Int) (g:FuncId) (c:PV) (p:Int→Int × Int) (hl:l.length≤1048576) (hc:plainArg c) (hp:∀ x∈l,CallsF Tryz.prog g [.int .i64 x,c] (.agg [.int .i64 (p x).1,.int .i64 (p x).2])):CallsF Tryz.prog 60 [ints l,.func (.func g) [] [c]] (prs (l.map p)):=by
 refine callsF_ofS mx Tryz.call60 Tryz.func60 rfl Tryz.ntmps60 Tryz.results60 (by kernel_rfl) (by simp) fun lo=>?_
 repeat'(first|refine vcI ?_|refine And.intro ?_ ?_|(intro hq;(try simp at hq);(try(exfalso;omega));(try(revert hq;intro))))
 refine ghostS0 5 (1,1000) (by decide) 2 (fun _ _ => .undef) rfl rfl fun v=>?_
 refine loopS2 mx (by decide) (by kernel_rfl) (fun (k v:Nat)=>k≤l.length) (fun k v=>[(10,.int .i64 k),(9,.int .i64 l.length),(8,ints l),(5,.ref (1,1000) v [] 2 0 k),(1,.func (.func g) [] [c])]) (fun k v=>[((1,1000),⟨v,oprs ((l.take k).map p)⟩)]) (fun k v=>l.length - k) 0 v (by simp) ⟨by ((repeat' apply And.intro) <;> (first|exact True.intro|exact NEq.refl _|(refine NEq.int ?_;first|exact rfl|omega|(rw [wrapI (by omega)];first|exact rfl|omega)))),⟨⟨rfl,.owns rfl rfl fun i o hi=>absurd hi (by simp)⟩,trivial⟩,.nil⟩ ?_
 clear v
 intro k v nv hk
 have hwk:IntKind.i64.wrap ((k:Int)+1)=((k+1:Nat):Int):=wrapI (by omega)
 have hap:k+(1 - 0)≤1048577:=by omega
 repeat'(first|refine vcI ?_|refine And.intro ?_ ?_|(intro hq;(try simp at hq);(try(exfalso;omega));(try(revert hq;intro))))
 ·have hkl:k<l.length:=by assumption
  refine CallS.frozen _ (hp (l.getD k 0) (getD_mem 0 hkl)) (plainCons (plainLB_plainL rfl) (plainCons (plainArg_L hc) plainNil)) ?_
  repeat'(first|refine vcI ?_|refine And.intro ?_ ?_|(intro hq;(try simp at hq);(try(exfalso;omega));(try(revert hq;intro))))
  have et:(l.take (k+1)).map p=(l.take k).map p++[p (l.getD k 0)]:=by rw [take_succD 0 hkl,List.map_append];rfl
  have lk':((l.take k).map p).length=k:=by rw [List.length_map,List.length_take];omega
  refine Exists.intro (oprs [p (l.getD k 0)]) (And.intro ?_ (And.intro rfl ?_))
  ·refine NEq.owns rfl rfl fun i b hi hb=>?_
   obtain rfl:i=0:=by simp at hi;omega
   rcases (by omega:b=0∨b=1) with rfl|rfl <;> exact .refl _
  repeat'(first|refine vcI ?_|refine And.intro ?_ ?_|(intro hq;(try simp at hq);(try(exfalso;omega));(try(revert hq;intro))))
  refine Exists.intro (oprs ((l.take (k+1)).map p)) (And.intro ?_ (And.intro (shape_prs (by rw [et,List.length_append,lk'];rfl)) ?_))
  ·rw [et]
   refine app_prs rfl (by rw [lk'];rfl) (fun i b hi hb=>?_) fun i b hi hb=>?_
   ·dsimp only;rw [if_pos (by omega)];exact .refl _
   ·dsimp only;rw [if_neg (by omega),Nat.add_sub_cancel_left,cellV_pcell,Nat.zero_add];exact .refl _
  rw [show ((l.take k).map p).length+(1 - 0)=k+1 by omega]
  repeat'(first|refine vcI ?_|refine And.intro ?_ ?_|(intro hq;(try simp at hq);(try(exfalso;omega));(try(revert hq;intro))))
  exact Exists.intro (k+1,_) ⟨by dsimp only;omega,(by first|omega|(dsimp only;omega)),⟨by ((repeat' apply And.intro) <;> (first|exact True.intro|exact NEq.refl _|(refine NEq.int ?_;first|exact rfl|omega|(rw [wrapI (by omega)];first|exact rfl|omega)))),⟨⟨rfl,.refl _⟩,trivial⟩,.nil⟩⟩
 ·obtain rfl:k=l.length:=by omega
  rw [List.take_length]
  exact view_prs (k:=7) rfl (by rw [List.length_map])
def spotL (l:List Int) (us:List Int):List (Int × Int):=us.map fun r=>(r,l.getD r.toNat 0)
open Classical in
noncomputable def spotE (o:DO) (l:List Int) (i:Int):List (Int × Int) × Int:=if chkE o l=0 then (if 0≤i∧i<(o.irs.length:Int) then (spotL l (usesL (o.descs.getD i.toNat [])),0) else ([],3)) else ([],chkE o l)
theorem spot1_spec (l:List Int) (r:Int) (h:0≤r∧r<(l.length:Int)):CallsF Tryz.prog 62 [.int .i64 r,.fptr 1 (fun _=>ints l) 0] (.agg [.int .i64 r,.int .i64 (l.getD r.toNat 0)]):=by
 refine callsF_ofS mx Tryz.call62 Tryz.func62 rfl Tryz.ntmps62 Tryz.results62 (by kernel_rfl) (by simp) fun lo=>?_
 repeat'(first|refine vcI ?_|refine And.intro ?_ ?_|(intro hq;(try simp at hq);(try(exfalso;omega));(try(revert hq;intro))))
 exact .refl _
theorem Spots_spec (o:DO) (l:List Int) (i:Int) (hll:l.length≤1048576) (hf:fewN o≤6000) (hs:∀ l∈o.descs,l.length≤1048576∧∀ f∈l,f.small):CallsF Tryz.prog 20 [.agg (dol o),ints l,.int .i64 i] (.tup [prs (spotE o l i).1,.int .i64 (spotE o l i).2]):=by
 have hp:=placed_spec o l hll hf hs
 refine callsF_ofL Tryz.call20 Tryz.func20 rfl Tryz.ntmps20 Tryz.results20 (by simp) fun lo=>?_
 repeat refine splitL ?_
 refine stepL mx (by decide) (by kernel_rfl) ?_
 repeat'(first|refine vcI ?_|refine And.intro ?_ ?_|(intro hq;(try simp at hq);(try(exfalso;omega));(try(revert hq;intro))))
 refine lessL (tm':=[(2,.int .i64 i),(3,.ptr (1,3) 0 [] 0 0),(4,.ptr (1,4) 1 [] 0 0),(6,.nils),(7,.int .i64 0)]) (L':=[((1,4),⟨1,.obox 1 fun _=>ints l⟩),((1,3),⟨0,.obox 12 (rowL (dol o))⟩)]) ⟨by ((repeat' apply And.intro) <;> (first|exact True.intro|exact NEq.refl _|(refine NEq.int ?_;first|exact rfl|omega|(rw [wrapI (by omega)];first|exact rfl|omega)))),⟨⟨rfl,.obox ?_⟩,⟨rfl,.refl _⟩,trivial⟩,.nil⟩ ?_
 ·intro q hq
  obtain rfl:q=0:=by have:q<1:=hq;omega
  exact .refl _
 refine freezeL (tm:=[(2,.int .i64 i),(3,.ptr (1,3) 0 [] 0 0),(4,.ptr (1,4) 1 [] 0 0),(6,.nils),(7,.int .i64 0)]) 4 9 [((1,4),⟨1,.obox 1 fun _=>ints l⟩)] [((1,3),⟨0,.obox 12 (rowL (dol o))⟩)] (.fptr 1 (fun _=>ints l) 0) rfl ?_ ?_
 ·refine view_box (k:=8) rfl fun q hq=>?_
  obtain rfl:q=0:=by have:q<1:=hq;omega
  exact .refl _
 refine runS mx (by decide) (by kernel_rfl) ?_
 repeat'(first|refine vcI ?_|refine And.intro ?_ ?_|(intro hq;(try simp at hq);(try(exfalso;omega));(try(revert hq;intro))))
 rw [cOpt]
 by_cases h:chkE o l=0
 ·rw [placedR_ok h] at hp
  refine CallS.frozen _ hp (plainAll rfl) ?_
  have hP:=(chkE_zero hf hs).1 h
  have H:=hP.op.fl hf hs
  repeat'(first|refine vcI ?_|refine And.intro ?_ ?_|(intro hq;(try simp at hq);(try(exfalso;omega));(try(revert hq;intro))))
  have hlen:=hP.len
  by_cases hi:0≤i∧i<(o.irs.length:Int)
  ·obtain ⟨k,rfl⟩:=Int.eq_ofNat_of_zero_le hi.1
   have hkn:k<o.irs.length:=by omega
   have hd:=H.hd
   have hfr:frN (o.descs.getD k [])≤6000:=by
    have h1:=sumL_mem (f:=frN) (l:=o.descs) (x:=o.descs.getD k []) (by rw [List.getD_eq_getElem?_getD];exact getD_mem _ (by omega))
    unfold fewN at hf
    omega
   have hds:=hs (o.descs.getD k []) (by rw [List.getD_eq_getElem?_getD];exact getD_mem _ (by omega))
   have hsu:=symUses_spec (o.descs.getD k []) hds hfr
   rw [symUses_eq] at hsu
   have hul:(usesL (o.descs.getD k [])).length≤30000:=by
    rw [← symUses_eq,sortI_len];exact symKs_len _ hfr
   have hea:=eachP_spec (usesL (o.descs.getD k [])) 62 (.fptr 1 (fun _=>ints l) 0) (fun r=>(r,l.getD r.toNat 0)) (by omega) trivial fun r hr=>spot1_spec l r (by
    have h1:=H.use hkn r (List.mem_append_right _ hr)
    have h2:=H.useR hkn r (List.mem_append_right _ hr)
    omega)
   refine CallS.frozen (.bool true) (insIr_spec o.irs (insB_yes hi)) (plainAll rfl) ?_
   repeat'(first|refine vcI ?_|refine And.intro ?_ ?_|(intro hq;(try simp at hq);(try(exfalso;omega));(try(revert hq;intro))))
   refine CallS.frozen _ hsu (plainAll rfl) ?_
   repeat'(first|refine vcI ?_|refine And.intro ?_ ?_|(intro hq;(try simp at hq);(try(exfalso;omega));(try(revert hq;intro))))
   refine CallS.frozen _ hea (plainAll rfl) ?_
   repeat'(first|refine vcI ?_|refine And.intro ?_ ?_|(intro hq;(try simp at hq);(try(exfalso;omega));(try(revert hq;intro))))
   rw [show spotE o l (k:Int)=(spotL l (usesL (o.descs.getD k [])),0) by unfold spotE;rw [if_pos h,if_pos hi];rfl]
   exact NEq.tup2 (.refl _) (.refl _)
  ·refine CallS.frozen (.bool false) (insIr_spec o.irs (insB_no hi)) (plainAll rfl) ?_
   repeat'(first|refine vcI ?_|refine And.intro ?_ ?_|(intro hq;(try simp at hq);(try(exfalso;omega));(try(revert hq;intro))))
   rw [show spotE o l i=([],3) by unfold spotE;rw [if_pos h,if_neg hi]]
   exact NEq.tup2 .nils (.refl _)
 ·rw [placedR_bad rfl h] at hp
  refine CallS.frozen _ hp (plainAll rfl) ?_
  repeat'(first|refine vcI ?_|refine And.intro ?_ ?_|(intro hq;(try simp at hq);(try(exfalso;omega));(try(revert hq;intro))))
  rw [show spotE o l i=([],chkE o l) by unfold spotE;rw [if_neg h]]
  exact NEq.tup2 .nils (.refl _)
theorem RSpots_spec (o:DO) (l:List Int) (i:Int) (hll:l.length≤1048576) (hf:fewN o≤6000) (hs:∀ l∈o.descs,l.length≤1048576∧∀ f∈l,f.small) (hl:o.irs.length≤1048576∧o.descs.length≤1048576∧o.types.length≤1048576):CallsF Tryz.prog 21 [.agg (dol o),ints l,.int .i64 i] (.tup [prs (spotE o l i).1,.int .i64 (spotE o l i).2]):=by
 have hp:=RCheck_spec o l hll hf hs hl
 refine callsF_ofS mx Tryz.call21 Tryz.func21 rfl Tryz.ntmps21 Tryz.results21 (by kernel_rfl) (by simp) fun lo=>?_
 repeat'(first|refine vcI ?_|refine And.intro ?_ ?_|(intro hq;(try simp at hq);(try(exfalso;omega));(try(revert hq;intro))))
 rw [mk_opt]
 refine CallS.frozen _ hp (plainAll rfl) ?_
 by_cases h:chkE o l=0
 ·have hP:=(chkE_zero hf hs).1 h
  have H:=hP.op.fl hf hs
  have hlen:=hP.len
  rw [h]
  by_cases hi:0≤i∧i<(o.irs.length:Int)
  ·obtain ⟨k,rfl⟩:=Int.eq_ofNat_of_zero_le hi.1
   have hkn:k<o.irs.length:=by omega
   have hd:=H.hd
   have hfr:frN (o.descs.getD k [])≤6000:=by
    have h1:=sumL_mem (f:=frN) (l:=o.descs) (x:=o.descs.getD k []) (by rw [List.getD_eq_getElem?_getD];exact getD_mem _ (by omega))
    unfold fewN at hf
    omega
   have hul:(usesL (o.descs.getD k [])).length≤30000:=by
    rw [← symUses_eq,sortI_len];exact symKs_len _ hfr
   repeat'(first|refine vcI ?_|refine And.intro ?_ ?_|(intro hq;(try simp at hq);(try(exfalso;omega));(try(revert hq;intro))))
   refine CallS.frozen (ints (usesL (o.descs.getD k []))) (Uses_spec (o.descs.getD k []) hfr) (plainAll rfl) ?_
   repeat'(first|refine vcI ?_|refine And.intro ?_ ?_|(intro hq;(try simp at hq);(try(exfalso;omega));(try(revert hq;intro))))
   obtain ⟨us,hus⟩:∃ us,us=usesL (o.descs.getD k []):=⟨_,rfl⟩
   rw [← hus] at hul ⊢
   have hur:∀ j,j<us.length→0≤us.getD j 0∧us.getD j 0<(l.length:Int):=fun j hj=>by
    have hm:us.getD j 0∈usesL (o.descs.getD k []):=by rw [← hus,List.getD_eq_getElem?_getD];exact getD_mem _ hj
    have h1:=H.use hkn _ (List.mem_append_right _ hm)
    have h2:=H.useR hkn _ (List.mem_append_right _ hm)
    omega
   refine ghostS0 10 (1,1000) (by decide) 2 (fun _ _ => .undef) rfl rfl fun v=>?_
   refine loopS2 mx (by decide) (by kernel_rfl) (fun (j v:Nat)=>j≤us.length) (fun j v=>[(11,.int .i64 j),(10,.ref (1,1000) v [] 2 0 (spotL l (us.take j)).length),(9,ints us),(1,ints l)]) (fun j v=>[((1,1000),⟨v,oprs (spotL l (us.take j))⟩)]) (fun j v=>us.length - j) 0 v (by simp) ⟨by ((repeat' apply And.intro) <;> (first|exact True.intro|exact NEq.refl _|(refine NEq.int ?_;first|exact rfl|omega|(rw [wrapI (by omega)];first|exact rfl|omega)))),⟨⟨rfl,.owns rfl rfl fun i o hi=>absurd hi (by simp [spotL])⟩,trivial⟩,.nil⟩ ?_
   clear v
   intro j v nv hj
   have hwj:IntKind.i64.wrap ((j:Int)+1)=((j+1:Nat):Int):=wrapI (by omega)
   have hsl:(spotL l (us.take j)).length=j:=by unfold spotL;rw [List.length_map,List.length_take];omega
   have hap:(spotL l (us.take j)).length+(1 - 0)≤30001:=by omega
   repeat'(first|refine vcI ?_|refine And.intro ?_ ?_|(intro hq;(try simp at hq);(try(exfalso;omega));(try(revert hq;intro))))
   ·exact (hur j (by assumption)).1
   ·exact (hur j (by assumption)).2
   ·have hju:j<us.length:=by assumption
    have es:spotL l (us.take (j+1))=spotL l (us.take j)++[(us.getD j 0,l.getD (us.getD j 0).toNat 0)]:=by unfold spotL;rw [take_succD 0 hju,List.map_append];rfl
    refine Exists.intro (oprs (spotL l (us.take (j+1)))) (And.intro ?_ (And.intro (shape_prs (by rw [es,List.length_append];rfl)) ?_))
    ·rw [es]
     refine app_prs rfl rfl (fun a b ha hb=>?_) fun a b ha hb=>?_
     ·dsimp only;rw [if_pos ha];exact .refl _
     ·dsimp only;rw [if_neg (by omega),Nat.add_sub_cancel_left]
      obtain rfl:a=0:=by simp at ha;omega
      rcases (by omega:b=0∨b=1) with rfl|rfl <;> exact .refl _
    rw [show (spotL l (us.take j)).length+(1 - 0)=(spotL l (us.take (j+1))).length by rw [es,List.length_append];rfl]
    repeat'(first|refine vcI ?_|refine And.intro ?_ ?_|(intro hq;(try simp at hq);(try(exfalso;omega));(try(revert hq;intro))))
    exact Exists.intro (j+1,_) ⟨by dsimp only;omega,(by first|omega|(dsimp only;omega)),⟨by ((repeat' apply And.intro) <;> (first|exact True.intro|exact NEq.refl _|(refine NEq.int ?_;first|exact rfl|omega|(rw [wrapI (by omega)];first|exact rfl|omega)))),⟨⟨rfl,.refl _⟩,trivial⟩,.nil⟩⟩
   ·obtain rfl:j=us.length:=by omega
    rw [List.take_length,show spotE o l (k:Int)=(spotL l us,0) by unfold spotE;rw [if_pos h,if_pos hi,hus];rfl]
    exact NEq.tup2 (view_prs (k:=6) rfl rfl) (.refl _)
  ·have e3:spotE o l i=([],3):=by unfold spotE;rw [if_pos h,if_neg hi]
   repeat'(first|refine vcI ?_|refine And.intro ?_ ?_|(intro hq;(try simp at hq);(try(exfalso;omega));(try(revert hq;intro))))
   ·simp;omega
   iterate 2
    ·rw [e3]
     exact NEq.tup2 .nils (.refl _)
 ·repeat'(first|refine vcI ?_|refine And.intro ?_ ?_|(intro hq;(try simp at hq);(try(exfalso;omega));(try(revert hq;intro))))
  rw [show spotE o l i=([],chkE o l) by unfold spotE;rw [if_neg h]]
  exact NEq.tup2 .nils (.refl _)
end Go.Ab
namespace Go.Ab
open Go.Proofs
set_option maxRecDepth 100000
set_option maxHeartbeats 4000000

def orow {α:Type} [Inhabited α] (sz:Nat) (d:α→List PV) (l:List α):PV := .own sz l.length fun i o=>(d (l.getD i default)).getD o .undef
def frow {α:Type} [Inhabited α] (sz:Nat) (d:α→List PV) (l:List α):PV := .frz sz l.length fun i o=>(d (l.getD i default)).getD o .undef
theorem shape_row {α:Type} [Inhabited α] {sz:Nat} {d:α→List PV} {n:Nat} {l:List α} (h:n=l.length):shapeOf (orow sz d l)=some (true,sz,n):=by subst h;rfl
theorem app_row {α:Type} [Inhabited α] {sz sz' n:Nat} {d:α→List PV} {xs:List α} {y:α} {f:Nat→Nat→PV} (hsz:sz'=sz) (hn:n=xs.length+1) (h1:∀ i o,i<xs.length→o<sz→NEq (f i o) ((d (xs.getD i default)).getD o .undef)) (h2:∀ o,o<sz→NEq (f xs.length o) ((d y).getD o .undef)) :
  NEq (.own sz' n f) (orow sz d (xs++[y])):=by
 subst hsz
 refine NEq.owns rfl (by simp [hn]) fun i o hi ho=>?_
 rw [List.length_append] at hi
 simp only [List.length_singleton] at hi
 rw [getD_app]
 by_cases h:i<xs.length
 ·rw [if_pos h];exact h1 i o h ho
 ·rw [if_neg h]
  obtain rfl:i=xs.length:=by omega
  rw [Nat.sub_self];exact h2 o ho
theorem view_row1 {α:Type} [Inhabited α] {sz:Nat} {d:α→List PV} {k:Nat} {L:Hp} {r:RId} {v n:Nat} {l:List α} (h:lkH L r=some ⟨v,orow sz d l⟩) (hn:n=l.length) (hd:∀ i o,i<l.length→o<sz→NEq (Ab.view k L ((d (l.getD i default)).getD o .undef)) ((d (l.getD i default)).getD o .undef)):NEq (Ab.view (k+1) L (.ref r v [] sz 0 n)) (frow sz d l):=by
 subst hn
 rw [Ab.view,h]
 simp only [if_true,getAt,orow]
 exact NEq.frzs rfl (by simp) fun i o hi ho=>by rw [Nat.zero_add];exact hd i o (by simpa using hi) ho

def renV (l:List Int) (v:DV):DV:=if v.k=1 then { v with n:=l.getD v.n.toNat 0 } else v
theorem valued_spec (v:DV) (l:List Int) (h:v.k=1→0≤v.n∧v.n<(l.length:Int)):CallsF Tryz.prog 99 [.agg (dvl v),ints l] (.agg (dvl (renV l v))):=by
 refine callsF_ofS mx Tryz.call99 Tryz.func99 rfl Tryz.ntmps99 Tryz.results99 (by kernel_rfl) (by simp) fun lo=>?_
 repeat'(first|refine vcI ?_|refine And.intro ?_ ?_|(intro hq;(try simp at hq);(try(exfalso;omega));(try(revert hq;intro))))
 ·have hk:v.k=1:=by assumption
  have:=h hk
  rw [show Tryz.prog.cellsOf 103=6 by kernel_rfl,show renV l v={ v with n:=l.getD v.n.toNat 0 } by unfold renV;rw [if_pos hk]]
  exact .refl _
 ·have hk:¬ v.k=1:=by assumption
  rw [show Tryz.prog.cellsOf 103=6 by kernel_rfl,show renV l v=v by unfold renV;rw [if_neg hk]]
  exact .refl _
theorem mk_sv (vs:List DV) (k:Nat):mkV Tryz.prog 103 (fun q=>(dvl (vs.getD (k:Int).toNat default)).getD q .undef) 0 = .agg (dvl (vs.getD k default)):=by
 show PV.agg (List.map _ (List.range (Tryz.prog.cellsOf 103)))=_
 rw [show Tryz.prog.cellsOf 103=6 by kernel_rfl];rfl
theorem valuesR_spec (vs:List DV) (l:List Int) (hl:vs.length≤1048576) (h:∀ v∈vs,v.k=1→0≤v.n∧v.n<(l.length:Int)):CallsF Tryz.prog 100 [dvs vs,ints l] (dvs (vs.map (renV l))):=by
 refine callsF_ofS mx Tryz.call100 Tryz.func100 rfl Tryz.ntmps100 Tryz.results100 (by kernel_rfl) (by simp) fun lo=>?_
 repeat'(first|refine vcI ?_|refine And.intro ?_ ?_|(intro hq;(try simp at hq);(try(exfalso;omega));(try(revert hq;intro))))
 refine ghostS0 5 (1,1000) (by decide) 6 (fun _ _ => .undef) rfl rfl fun v=>?_
 refine loopS2 mx (by decide) (by kernel_rfl) (fun (k v:Nat)=>k≤vs.length) (fun k v=>[(6,.int .i64 k),(5,.ref (1,1000) v [] 6 0 ((vs.take k).map (renV l)).length),(0,dvs vs),(1,ints l)]) (fun k v=>[((1,1000),⟨v,orow 6 dvl ((vs.take k).map (renV l))⟩)]) (fun k v=>vs.length - k) 0 v (by simp) ⟨by ((repeat' apply And.intro) <;> (first|exact True.intro|exact NEq.refl _|(refine NEq.int ?_;first|exact rfl|omega|(rw [wrapI (by omega)];first|exact rfl|omega)))),⟨⟨rfl,.owns rfl rfl fun i o hi=>absurd hi (by simp)⟩,trivial⟩,.nil⟩ ?_
 clear v
 intro k v nv hk
 have hwk:IntKind.i64.wrap ((k:Int)+1)=((k+1:Nat):Int):=wrapI (by omega)
 have hlk:((vs.take k).map (renV l)).length=k:=by rw [List.length_map,List.length_take];omega
 have hap:((vs.take k).map (renV l)).length+(1 - 0)≤1048577:=by omega
 repeat'(first|refine vcI ?_|refine And.intro ?_ ?_|(intro hq;(try simp at hq);(try(exfalso;omega));(try(revert hq;intro))))
 ·have hkl:k<vs.length:=by assumption
  have et:(vs.take (k+1)).map (renV l)=(vs.take k).map (renV l)++[renV l (vs.getD k default)]:=by rw [take_succD default hkl,List.map_append];rfl
  rw [mk_sv]
  refine CallS.frozen _ (valued_spec (vs.getD k default) l (h _ (getD_mem default hkl))) (plainAll rfl) ?_
  repeat'(first|refine vcI ?_|refine And.intro ?_ ?_|(intro hq;(try simp at hq);(try(exfalso;omega));(try(revert hq;intro))))
  refine Exists.intro (orow 6 dvl [renV l (vs.getD k default)]) (And.intro ?_ (And.intro rfl ?_))
  ·refine NEq.owns rfl rfl fun i b hi hb=>?_
   obtain rfl:i=0:=by simp at hi;omega
   rcases (by omega:b=0∨b=1∨b=2∨b=3∨b=4∨b=5) with rfl|rfl|rfl|rfl|rfl|rfl <;> exact .refl _
  repeat'(first|refine vcI ?_|refine And.intro ?_ ?_|(intro hq;(try simp at hq);(try(exfalso;omega));(try(revert hq;intro))))
  ·rw [show Tryz.prog.bytesOf 103=56 by kernel_rfl];omega
  ·omega
  refine Exists.intro (orow 6 dvl ((vs.take (k+1)).map (renV l))) (And.intro ?_ (And.intro (shape_row (by rw [et,List.length_append];rfl)) ?_))
  ·rw [et]
   refine app_row rfl rfl (fun i q hi hq=>?_) fun q hq=>?_
   ·dsimp only;rw [if_pos hi];exact .refl _
   ·dsimp only;rw [if_neg (by omega),Nat.sub_self]
    rcases (by omega:q=0∨q=1∨q=2∨q=3∨q=4∨q=5) with rfl|rfl|rfl|rfl|rfl|rfl <;> exact .refl _
  rw [show ((vs.take k).map (renV l)).length+(1 - 0)=((vs.take (k+1)).map (renV l)).length by rw [et,List.length_append];rfl]
  repeat'(first|refine vcI ?_|refine And.intro ?_ ?_|(intro hq;(try simp at hq);(try(exfalso;omega));(try(revert hq;intro))))
  exact Exists.intro (k+1,_) ⟨by dsimp only;omega,(by first|omega|(dsimp only;omega)),⟨by ((repeat' apply And.intro) <;> (first|exact True.intro|exact NEq.refl _|(refine NEq.int ?_;first|exact rfl|omega|(rw [wrapI (by omega)];first|exact rfl|omega)))),⟨⟨rfl,.refl _⟩,trivial⟩,.nil⟩⟩
 ·obtain rfl:k=vs.length:=by omega
  rw [List.take_length]
  exact view_row1 (k:=8) rfl rfl fun i q hi hq=>NEq.of_eq (view_dvl 7 _ _ q)
end Go.Ab
namespace Go.Ab
open Go.Proofs
set_option maxRecDepth 100000
set_option maxHeartbeats 4000000

def renF (l:List Int) (f:DF):DF:={ f with
 self:=renV l f.self
 holder:=renV l f.holder
 vars:=f.vars.map (renV l)
 stack:=f.stack.map (renV l)
 act:=if f.act=0 then f.act else IntKind.i64.wrap (l.getD (IntKind.i64.wrap (f.act - 1)).toNat 0+1) }
def regV (m:Int) (v:DV):Prop:=v.k=1→0≤v.n∧v.n<m
structure RegsF (m:Int) (f:DF):Prop where
 self:regV m f.self
 holder:regV m f.holder
 vars:∀ v∈f.vars,regV m v
 stack:∀ v∈f.stack,regV m v
 act:f.act≠0→0≤IntKind.i64.wrap (f.act - 1)∧IntKind.i64.wrap (f.act - 1)<m
theorem view_dfl (k:Nat) (hp:Hp) (f:DF) (o:Nat):view (k+1) hp ((dfl f).getD o .undef)=(dfl f).getD o .undef:=by
 match o with
 | 0=>rfl
 | 1=>rfl
 | 2=>rfl
 | 3=>rfl
 | 4=>rfl
 | 5=>rfl
 | 6=>rfl
 | 7=>rfl
 | 8=>rfl
 | 9=>rfl
 | 10=>rfl
 | 11=>rfl
 | 12=>rfl
 | 13=>rfl
 | 14=>rfl
 | 15=>rfl
 | 16=>rfl
 | 17=>rfl
 | o+18=>rfl
theorem RenameFrames_spec (l:List Int) (fs:List DF) (hl:l.length≤1048576) (hfs:fs.length≤1048576) (hsm:∀ f∈fs,f.small) (h:∀ f∈fs,RegsF l.length f):CallsF Tryz.prog 59 [dfs fs,ints l] (dfs (fs.map (renF l))):=by
 refine callsF_ofS mx Tryz.call59 Tryz.func59 rfl Tryz.ntmps59 Tryz.results59 (by kernel_rfl) (by simp) fun lo=>?_
 repeat'(first|refine vcI ?_|refine And.intro ?_ ?_|(intro hq;(try simp at hq);(try(exfalso;omega));(try(revert hq;intro))))
 refine ghostS0 5 (1,1000) (by decide) 18 (fun _ _ => .undef) rfl rfl fun v=>?_
 refine loopS2 mx (by decide) (by kernel_rfl) (fun (k v:Nat)=>k≤fs.length) (fun k v=>[(6,.int .i64 k),(5,.ref (1,1000) v [] 18 0 ((fs.take k).map (renF l)).length),(0,dfs fs),(1,ints l)]) (fun k v=>[((1,1000),⟨v,orow 18 dfl ((fs.take k).map (renF l))⟩)]) (fun k v=>fs.length - k) 0 v (by simp) ⟨by ((repeat' apply And.intro) <;> (first|exact True.intro|exact NEq.refl _|(refine NEq.int ?_;first|exact rfl|omega|(rw [wrapI (by omega)];first|exact rfl|omega)))),⟨⟨rfl,.owns rfl rfl fun i o hi=>absurd hi (by simp)⟩,trivial⟩,.nil⟩ ?_
 clear v
 intro k v nv hk
 have hwk:IntKind.i64.wrap ((k:Int)+1)=((k+1:Nat):Int):=wrapI (by omega)
 have hlk:((fs.take k).map (renF l)).length=k:=by rw [List.length_map,List.length_take];omega
 have hap:((fs.take k).map (renF l)).length+(1 - 0)≤1048577:=by omega
 repeat'(first|refine vcI ?_|refine And.intro ?_ ?_|(intro hq;(try simp at hq);(try(exfalso;omega));(try(revert hq;intro))))
 ·have hkl:k<fs.length:=by assumption
  have hF:RegsF l.length (fs.getD k default):=h _ (getD_mem default hkl)
  have hS:(fs.getD k default).small:=hsm _ (getD_mem default hkl)
  have et:(fs.take (k+1)).map (renF l)=(fs.take k).map (renF l)++[renF l (fs.getD k default)]:=by rw [take_succD default hkl,List.map_append];rfl
  have hS1:=hS.1
  have hS2:=hS.2
  rw [show Tryz.prog.cellsOf 106=18 by kernel_rfl]
  have c6:Tryz.prog.cellsOf 103=6:=by kernel_rfl
  refine CallS.frozen _ (valued_spec (fs.getD k default).self l hF.self) (plainAll rfl) ?_
  repeat'(first|refine vcI ?_|refine And.intro ?_ ?_|(intro hq;(try simp at hq);(try(exfalso;omega));(try(revert hq;intro))))
  refine CallS.frozen _ (valued_spec (fs.getD k default).holder l hF.holder) (plainAll rfl) ?_
  repeat'(first|refine vcI ?_|refine And.intro ?_ ?_|(intro hq;(try simp at hq);(try(exfalso;omega));(try(revert hq;intro))))
  refine CallS.frozen _ (valuesR_spec (fs.getD k default).vars l hS1 hF.vars) (plainAll rfl) ?_
  repeat'(first|refine vcI ?_|refine And.intro ?_ ?_|(intro hq;(try simp at hq);(try(exfalso;omega));(try(revert hq;intro))))
  refine CallS.frozen _ (valuesR_spec (fs.getD k default).stack l hS2 hF.stack) (plainAll rfl) ?_
  repeat'(first|refine vcI ?_|refine And.intro ?_ ?_|(intro hq;(try simp at hq);(try(exfalso;omega));(try(revert hq;intro))))
  ·exact (hF.act (by assumption)).1
  ·exact (hF.act (by assumption)).2
  ·have h0:(fs.getD k default).act≠0:=by assumption
   have he:renF l (fs.getD k default)={ fs.getD k default with self:=renV l (fs.getD k default).self,holder:=renV l (fs.getD k default).holder,vars:=(fs.getD k default).vars.map (renV l),stack:=(fs.getD k default).stack.map (renV l),act:=IntKind.i64.wrap (l.getD (IntKind.i64.wrap ((fs.getD k default).act - 1)).toNat 0+1) }:=by unfold renF;rw [if_neg h0]
   refine Exists.intro (orow 18 dfl [renF l (fs.getD k default)]) (And.intro ?_ (And.intro rfl ?_))
   ·rw [he]
    refine NEq.owns rfl rfl fun i q hi hq=>?_
    obtain rfl:i=0:=by simp at hi;omega
    rcases (by omega:q=0∨q=1∨q=2∨q=3∨q=4∨q=5∨q=6∨q=7∨q=8∨q=9∨q=10∨q=11∨q=12∨q=13∨q=14∨q=15∨q=16∨q=17) with rfl|rfl|rfl|rfl|rfl|rfl|rfl|rfl|rfl|rfl|rfl|rfl|rfl|rfl|rfl|rfl|rfl|rfl <;> exact .refl _
   repeat'(first|refine vcI ?_|refine And.intro ?_ ?_|(intro hq;(try simp at hq);(try(exfalso;omega));(try(revert hq;intro))))
   ·rw [show Tryz.prog.bytesOf 106=192 by kernel_rfl];omega
   ·omega
   refine Exists.intro (orow 18 dfl ((fs.take (k+1)).map (renF l))) (And.intro ?_ (And.intro (shape_row (by rw [et,List.length_append];rfl)) ?_))
   ·rw [et]
    refine app_row rfl rfl (fun i q hi hq=>?_) fun q hq=>?_
    ·dsimp only;rw [if_pos hi];exact .refl _
    ·dsimp only;rw [if_neg (by omega),Nat.sub_self]
     rcases (by omega:q=0∨q=1∨q=2∨q=3∨q=4∨q=5∨q=6∨q=7∨q=8∨q=9∨q=10∨q=11∨q=12∨q=13∨q=14∨q=15∨q=16∨q=17) with rfl|rfl|rfl|rfl|rfl|rfl|rfl|rfl|rfl|rfl|rfl|rfl|rfl|rfl|rfl|rfl|rfl|rfl <;> exact .refl _
   rw [show ((fs.take k).map (renF l)).length+(1 - 0)=((fs.take (k+1)).map (renF l)).length by rw [et,List.length_append];rfl]
   repeat'(first|refine vcI ?_|refine And.intro ?_ ?_|(intro hq;(try simp at hq);(try(exfalso;omega));(try(revert hq;intro))))
   exact Exists.intro (k+1,_) ⟨by dsimp only;omega,(by first|omega|(dsimp only;omega)),⟨by ((repeat' apply And.intro) <;> (first|exact True.intro|exact NEq.refl _|(refine NEq.int ?_;first|exact rfl|omega|(rw [wrapI (by omega)];first|exact rfl|omega)))),⟨⟨rfl,.refl _⟩,trivial⟩,.nil⟩⟩
  ·have h0:(fs.getD k default).act=0:=by assumption
   have he:renF l (fs.getD k default)={ fs.getD k default with self:=renV l (fs.getD k default).self,holder:=renV l (fs.getD k default).holder,vars:=(fs.getD k default).vars.map (renV l),stack:=(fs.getD k default).stack.map (renV l) }:=by unfold renF;rw [if_pos h0]
   refine Exists.intro (orow 18 dfl [renF l (fs.getD k default)]) (And.intro ?_ (And.intro rfl ?_))
   ·rw [he]
    refine NEq.owns rfl rfl fun i q hi hq=>?_
    obtain rfl:i=0:=by simp at hi;omega
    rcases (by omega:q=0∨q=1∨q=2∨q=3∨q=4∨q=5∨q=6∨q=7∨q=8∨q=9∨q=10∨q=11∨q=12∨q=13∨q=14∨q=15∨q=16∨q=17) with rfl|rfl|rfl|rfl|rfl|rfl|rfl|rfl|rfl|rfl|rfl|rfl|rfl|rfl|rfl|rfl|rfl|rfl <;> exact .refl _
   repeat'(first|refine vcI ?_|refine And.intro ?_ ?_|(intro hq;(try simp at hq);(try(exfalso;omega));(try(revert hq;intro))))
   ·rw [show Tryz.prog.bytesOf 106=192 by kernel_rfl];omega
   ·omega
   refine Exists.intro (orow 18 dfl ((fs.take (k+1)).map (renF l))) (And.intro ?_ (And.intro (shape_row (by rw [et,List.length_append];rfl)) ?_))
   ·rw [et]
    refine app_row rfl rfl (fun i q hi hq=>?_) fun q hq=>?_
    ·dsimp only;rw [if_pos hi];exact .refl _
    ·dsimp only;rw [if_neg (by omega),Nat.sub_self]
     rcases (by omega:q=0∨q=1∨q=2∨q=3∨q=4∨q=5∨q=6∨q=7∨q=8∨q=9∨q=10∨q=11∨q=12∨q=13∨q=14∨q=15∨q=16∨q=17) with rfl|rfl|rfl|rfl|rfl|rfl|rfl|rfl|rfl|rfl|rfl|rfl|rfl|rfl|rfl|rfl|rfl|rfl <;> exact .refl _
   rw [show ((fs.take k).map (renF l)).length+(1 - 0)=((fs.take (k+1)).map (renF l)).length by rw [et,List.length_append];rfl]
   repeat'(first|refine vcI ?_|refine And.intro ?_ ?_|(intro hq;(try simp at hq);(try(exfalso;omega));(try(revert hq;intro))))
   exact Exists.intro (k+1,_) ⟨by dsimp only;omega,(by first|omega|(dsimp only;omega)),⟨by ((repeat' apply And.intro) <;> (first|exact True.intro|exact NEq.refl _|(refine NEq.int ?_;first|exact rfl|omega|(rw [wrapI (by omega)];first|exact rfl|omega)))),⟨⟨rfl,.refl _⟩,trivial⟩,.nil⟩⟩
 ·obtain rfl:k=fs.length:=by omega
  rw [List.take_length]
  exact view_row1 (k:=8) rfl rfl fun i q hi hq=>NEq.of_eq (view_dfl 7 _ _ q)
end Go.Ab
namespace Go.Ab
open Go.Proofs
set_option maxRecDepth 100000
set_option maxHeartbeats 4000000

theorem view_dil (k:Nat) (hp:Hp) (x:DI) (o:Nat):view (k+1) hp ((dil x).getD o .undef)=(dil x).getD o .undef:=by
 match o with
 | 0=>rfl
 | 1=>rfl
 | 2=>rfl
 | 3=>rfl
 | 4=>rfl
 | 5=>rfl
 | 6=>rfl
 | 7=>rfl
 | 8=>rfl
 | 9=>rfl
 | 10=>rfl
 | 11=>rfl
 | 12=>rfl
 | 13=>rfl
 | 14=>rfl
 | 15=>rfl
 | o+16=>rfl
theorem view_dml (k:Nat) (hp:Hp) (x:DM) (o:Nat):view (k+1) hp ((dml x).getD o .undef)=(dml x).getD o .undef:=by
 match o with
 | 0=>rfl
 | 1=>rfl
 | o+2=>rfl
theorem view_dpl (k:Nat) (hp:Hp) (x:DP) (o:Nat):view (k+1) hp ((dpl x).getD o .undef)=(dpl x).getD o .undef:=by
 match o with
 | 0=>rfl
 | 1=>rfl
 | 2=>rfl
 | 3=>rfl
 | 4=>rfl
 | 5=>rfl
 | 6=>rfl
 | 7=>rfl
 | o+8=>rfl
theorem eachI_spec (l:List DI) (g:FuncId) (c:PV) (p:DI→DI) (hl:l.length≤1048576) (hc:plainArg c) (hp:∀ x∈l,CallsF Tryz.prog g [c,.agg (dil x)] (.agg (dil (p x)))):CallsF Tryz.prog 47 [dis l,.func (.func g) [c] []] (dis (l.map p)):=by
 refine callsF_ofS mx Tryz.call47 Tryz.func47 rfl Tryz.ntmps47 Tryz.results47 (by kernel_rfl) (by simp) fun lo=>?_
 repeat'(first|refine vcI ?_|refine And.intro ?_ ?_|(intro hq;(try simp at hq);(try(exfalso;omega));(try(revert hq;intro))))
 refine ghostS0 5 (1,1000) (by decide) 16 (fun _ _ => .undef) rfl rfl fun v=>?_
 refine loopS2 mx (by decide) (by kernel_rfl) (fun (k v:Nat)=>k≤l.length) (fun k v=>[(10,.int .i64 k),(9,.int .i64 l.length),(8,dis l),(5,.ref (1,1000) v [] 16 0 ((l.take k).map p).length),(1,.func (.func g) [c] [])]) (fun k v=>[((1,1000),⟨v,orow 16 dil ((l.take k).map p)⟩)]) (fun k v=>l.length - k) 0 v (by simp) ⟨by ((repeat' apply And.intro) <;> (first|exact True.intro|exact NEq.refl _|(refine NEq.int ?_;first|exact rfl|omega|(rw [wrapI (by omega)];first|exact rfl|omega)))),⟨⟨rfl,.owns rfl rfl fun i o hi=>absurd hi (by simp)⟩,trivial⟩,.nil⟩ ?_
 clear v
 intro k v nv hk
 have hwk:IntKind.i64.wrap ((k:Int)+1)=((k+1:Nat):Int):=wrapI (by omega)
 have hlk:((l.take k).map p).length=k:=by rw [List.length_map,List.length_take];omega
 have hap:((l.take k).map p).length+(1 - 0)≤1048577:=by omega
 repeat'(first|refine vcI ?_|refine And.intro ?_ ?_|(intro hq;(try simp at hq);(try(exfalso;omega));(try(revert hq;intro))))
 ·have hkl:k<l.length:=by assumption
  have et:(l.take (k+1)).map p=(l.take k).map p++[p (l.getD k default)]:=by rw [take_succD default hkl,List.map_append];rfl
  rw [show Tryz.prog.cellsOf 58=16 by kernel_rfl]
  refine CallS.frozen _ (hp (l.getD k default) (getD_mem default hkl)) (plainCons (plainArg_L hc) (plainCons (plainLB_plainL rfl) plainNil)) ?_
  repeat'(first|refine vcI ?_|refine And.intro ?_ ?_|(intro hq;(try simp at hq);(try(exfalso;omega));(try(revert hq;intro))))
  refine Exists.intro (orow 16 dil [p (l.getD k default)]) (And.intro ?_ (And.intro rfl ?_))
  ·refine NEq.owns rfl rfl fun i q hi hq=>?_
   obtain rfl:i=0:=by simp at hi;omega
   rcases (by omega:q=0∨q=1∨q=2∨q=3∨q=4∨q=5∨q=6∨q=7∨q=8∨q=9∨q=10∨q=11∨q=12∨q=13∨q=14∨q=15) with rfl|rfl|rfl|rfl|rfl|rfl|rfl|rfl|rfl|rfl|rfl|rfl|rfl|rfl|rfl|rfl <;> exact .refl _
  repeat'(first|refine vcI ?_|refine And.intro ?_ ?_|(intro hq;(try simp at hq);(try(exfalso;omega));(try(revert hq;intro))))
  ·rw [show Tryz.prog.bytesOf 58=168 by kernel_rfl];omega
  ·omega
  refine Exists.intro (orow 16 dil ((l.take (k+1)).map p)) (And.intro ?_ (And.intro (shape_row (by rw [et,List.length_append];rfl)) ?_))
  ·rw [et]
   refine app_row rfl rfl (fun i q hi hq=>?_) fun q hq=>?_
   ·dsimp only;rw [if_pos hi];exact .refl _
   ·dsimp only;rw [if_neg (by omega),Nat.sub_self]
    rcases (by omega:q=0∨q=1∨q=2∨q=3∨q=4∨q=5∨q=6∨q=7∨q=8∨q=9∨q=10∨q=11∨q=12∨q=13∨q=14∨q=15) with rfl|rfl|rfl|rfl|rfl|rfl|rfl|rfl|rfl|rfl|rfl|rfl|rfl|rfl|rfl|rfl <;> exact .refl _
  rw [show ((l.take k).map p).length+(1 - 0)=((l.take (k+1)).map p).length by rw [et,List.length_append];rfl]
  repeat'(first|refine vcI ?_|refine And.intro ?_ ?_|(intro hq;(try simp at hq);(try(exfalso;omega));(try(revert hq;intro))))
  exact Exists.intro (k+1,_) ⟨by dsimp only;omega,(by first|omega|(dsimp only;omega)),⟨by ((repeat' apply And.intro) <;> (first|exact True.intro|exact NEq.refl _|(refine NEq.int ?_;first|exact rfl|omega|(rw [wrapI (by omega)];first|exact rfl|omega)))),⟨⟨rfl,.refl _⟩,trivial⟩,.nil⟩⟩
 ·obtain rfl:k=l.length:=by omega
  rw [List.take_length]
  exact view_row1 (k:=8) rfl rfl fun i q hi hq=>NEq.of_eq (view_dil 7 _ _ q)
theorem eachV_spec (l:List DV) (g:FuncId) (c:PV) (p:DV→DV) (hl:l.length≤1048576) (hc:plainArg c) (hp:∀ x∈l,CallsF Tryz.prog g [c,.agg (dvl x)] (.agg (dvl (p x)))):CallsF Tryz.prog 97 [dvs l,.func (.func g) [c] []] (dvs (l.map p)):=by
 refine callsF_ofS mx Tryz.call97 Tryz.func97 rfl Tryz.ntmps97 Tryz.results97 (by kernel_rfl) (by simp) fun lo=>?_
 repeat'(first|refine vcI ?_|refine And.intro ?_ ?_|(intro hq;(try simp at hq);(try(exfalso;omega));(try(revert hq;intro))))
 refine ghostS0 5 (1,1000) (by decide) 6 (fun _ _ => .undef) rfl rfl fun v=>?_
 refine loopS2 mx (by decide) (by kernel_rfl) (fun (k v:Nat)=>k≤l.length) (fun k v=>[(10,.int .i64 k),(9,.int .i64 l.length),(8,dvs l),(5,.ref (1,1000) v [] 6 0 ((l.take k).map p).length),(1,.func (.func g) [c] [])]) (fun k v=>[((1,1000),⟨v,orow 6 dvl ((l.take k).map p)⟩)]) (fun k v=>l.length - k) 0 v (by simp) ⟨by ((repeat' apply And.intro) <;> (first|exact True.intro|exact NEq.refl _|(refine NEq.int ?_;first|exact rfl|omega|(rw [wrapI (by omega)];first|exact rfl|omega)))),⟨⟨rfl,.owns rfl rfl fun i o hi=>absurd hi (by simp)⟩,trivial⟩,.nil⟩ ?_
 clear v
 intro k v nv hk
 have hwk:IntKind.i64.wrap ((k:Int)+1)=((k+1:Nat):Int):=wrapI (by omega)
 have hlk:((l.take k).map p).length=k:=by rw [List.length_map,List.length_take];omega
 have hap:((l.take k).map p).length+(1 - 0)≤1048577:=by omega
 repeat'(first|refine vcI ?_|refine And.intro ?_ ?_|(intro hq;(try simp at hq);(try(exfalso;omega));(try(revert hq;intro))))
 ·have hkl:k<l.length:=by assumption
  have et:(l.take (k+1)).map p=(l.take k).map p++[p (l.getD k default)]:=by rw [take_succD default hkl,List.map_append];rfl
  rw [show Tryz.prog.cellsOf 103=6 by kernel_rfl]
  refine CallS.frozen _ (hp (l.getD k default) (getD_mem default hkl)) (plainCons (plainArg_L hc) (plainCons (plainLB_plainL rfl) plainNil)) ?_
  repeat'(first|refine vcI ?_|refine And.intro ?_ ?_|(intro hq;(try simp at hq);(try(exfalso;omega));(try(revert hq;intro))))
  refine Exists.intro (orow 6 dvl [p (l.getD k default)]) (And.intro ?_ (And.intro rfl ?_))
  ·refine NEq.owns rfl rfl fun i q hi hq=>?_
   obtain rfl:i=0:=by simp at hi;omega
   rcases (by omega:q=0∨q=1∨q=2∨q=3∨q=4∨q=5) with rfl|rfl|rfl|rfl|rfl|rfl <;> exact .refl _
  repeat'(first|refine vcI ?_|refine And.intro ?_ ?_|(intro hq;(try simp at hq);(try(exfalso;omega));(try(revert hq;intro))))
  ·rw [show Tryz.prog.bytesOf 103=56 by kernel_rfl];omega
  ·omega
  refine Exists.intro (orow 6 dvl ((l.take (k+1)).map p)) (And.intro ?_ (And.intro (shape_row (by rw [et,List.length_append];rfl)) ?_))
  ·rw [et]
   refine app_row rfl rfl (fun i q hi hq=>?_) fun q hq=>?_
   ·dsimp only;rw [if_pos hi];exact .refl _
   ·dsimp only;rw [if_neg (by omega),Nat.sub_self]
    rcases (by omega:q=0∨q=1∨q=2∨q=3∨q=4∨q=5) with rfl|rfl|rfl|rfl|rfl|rfl <;> exact .refl _
  rw [show ((l.take k).map p).length+(1 - 0)=((l.take (k+1)).map p).length by rw [et,List.length_append];rfl]
  repeat'(first|refine vcI ?_|refine And.intro ?_ ?_|(intro hq;(try simp at hq);(try(exfalso;omega));(try(revert hq;intro))))
  exact Exists.intro (k+1,_) ⟨by dsimp only;omega,(by first|omega|(dsimp only;omega)),⟨by ((repeat' apply And.intro) <;> (first|exact True.intro|exact NEq.refl _|(refine NEq.int ?_;first|exact rfl|omega|(rw [wrapI (by omega)];first|exact rfl|omega)))),⟨⟨rfl,.refl _⟩,trivial⟩,.nil⟩⟩
 ·obtain rfl:k=l.length:=by omega
  rw [List.take_length]
  exact view_row1 (k:=8) rfl rfl fun i q hi hq=>NEq.of_eq (view_dvl 7 _ _ q)
theorem eachF_spec (l:List DF) (g:FuncId) (c:PV) (p:DF→DF) (hl:l.length≤1048576) (hc:plainArg c) (hp:∀ x∈l,CallsF Tryz.prog g [c,.agg (dfl x)] (.agg (dfl (p x)))):CallsF Tryz.prog 51 [dfs l,.func (.func g) [c] []] (dfs (l.map p)):=by
 refine callsF_ofS mx Tryz.call51 Tryz.func51 rfl Tryz.ntmps51 Tryz.results51 (by kernel_rfl) (by simp) fun lo=>?_
 repeat'(first|refine vcI ?_|refine And.intro ?_ ?_|(intro hq;(try simp at hq);(try(exfalso;omega));(try(revert hq;intro))))
 refine ghostS0 5 (1,1000) (by decide) 18 (fun _ _ => .undef) rfl rfl fun v=>?_
 refine loopS2 mx (by decide) (by kernel_rfl) (fun (k v:Nat)=>k≤l.length) (fun k v=>[(10,.int .i64 k),(9,.int .i64 l.length),(8,dfs l),(5,.ref (1,1000) v [] 18 0 ((l.take k).map p).length),(1,.func (.func g) [c] [])]) (fun k v=>[((1,1000),⟨v,orow 18 dfl ((l.take k).map p)⟩)]) (fun k v=>l.length - k) 0 v (by simp) ⟨by ((repeat' apply And.intro) <;> (first|exact True.intro|exact NEq.refl _|(refine NEq.int ?_;first|exact rfl|omega|(rw [wrapI (by omega)];first|exact rfl|omega)))),⟨⟨rfl,.owns rfl rfl fun i o hi=>absurd hi (by simp)⟩,trivial⟩,.nil⟩ ?_
 clear v
 intro k v nv hk
 have hwk:IntKind.i64.wrap ((k:Int)+1)=((k+1:Nat):Int):=wrapI (by omega)
 have hlk:((l.take k).map p).length=k:=by rw [List.length_map,List.length_take];omega
 have hap:((l.take k).map p).length+(1 - 0)≤1048577:=by omega
 repeat'(first|refine vcI ?_|refine And.intro ?_ ?_|(intro hq;(try simp at hq);(try(exfalso;omega));(try(revert hq;intro))))
 ·have hkl:k<l.length:=by assumption
  have et:(l.take (k+1)).map p=(l.take k).map p++[p (l.getD k default)]:=by rw [take_succD default hkl,List.map_append];rfl
  rw [show Tryz.prog.cellsOf 106=18 by kernel_rfl]
  refine CallS.frozen _ (hp (l.getD k default) (getD_mem default hkl)) (plainCons (plainArg_L hc) (plainCons (plainLB_plainL rfl) plainNil)) ?_
  repeat'(first|refine vcI ?_|refine And.intro ?_ ?_|(intro hq;(try simp at hq);(try(exfalso;omega));(try(revert hq;intro))))
  refine Exists.intro (orow 18 dfl [p (l.getD k default)]) (And.intro ?_ (And.intro rfl ?_))
  ·refine NEq.owns rfl rfl fun i q hi hq=>?_
   obtain rfl:i=0:=by simp at hi;omega
   rcases (by omega:q=0∨q=1∨q=2∨q=3∨q=4∨q=5∨q=6∨q=7∨q=8∨q=9∨q=10∨q=11∨q=12∨q=13∨q=14∨q=15∨q=16∨q=17) with rfl|rfl|rfl|rfl|rfl|rfl|rfl|rfl|rfl|rfl|rfl|rfl|rfl|rfl|rfl|rfl|rfl|rfl <;> exact .refl _
  repeat'(first|refine vcI ?_|refine And.intro ?_ ?_|(intro hq;(try simp at hq);(try(exfalso;omega));(try(revert hq;intro))))
  ·rw [show Tryz.prog.bytesOf 106=192 by kernel_rfl];omega
  ·omega
  refine Exists.intro (orow 18 dfl ((l.take (k+1)).map p)) (And.intro ?_ (And.intro (shape_row (by rw [et,List.length_append];rfl)) ?_))
  ·rw [et]
   refine app_row rfl rfl (fun i q hi hq=>?_) fun q hq=>?_
   ·dsimp only;rw [if_pos hi];exact .refl _
   ·dsimp only;rw [if_neg (by omega),Nat.sub_self]
    rcases (by omega:q=0∨q=1∨q=2∨q=3∨q=4∨q=5∨q=6∨q=7∨q=8∨q=9∨q=10∨q=11∨q=12∨q=13∨q=14∨q=15∨q=16∨q=17) with rfl|rfl|rfl|rfl|rfl|rfl|rfl|rfl|rfl|rfl|rfl|rfl|rfl|rfl|rfl|rfl|rfl|rfl <;> exact .refl _
  rw [show ((l.take k).map p).length+(1 - 0)=((l.take (k+1)).map p).length by rw [et,List.length_append];rfl]
  repeat'(first|refine vcI ?_|refine And.intro ?_ ?_|(intro hq;(try simp at hq);(try(exfalso;omega));(try(revert hq;intro))))
  exact Exists.intro (k+1,_) ⟨by dsimp only;omega,(by first|omega|(dsimp only;omega)),⟨by ((repeat' apply And.intro) <;> (first|exact True.intro|exact NEq.refl _|(refine NEq.int ?_;first|exact rfl|omega|(rw [wrapI (by omega)];first|exact rfl|omega)))),⟨⟨rfl,.refl _⟩,trivial⟩,.nil⟩⟩
 ·obtain rfl:k=l.length:=by omega
  rw [List.take_length]
  exact view_row1 (k:=8) rfl rfl fun i q hi hq=>NEq.of_eq (view_dfl 7 _ _ q)
theorem eachM_spec (l:List DM) (g:FuncId) (p:DM→DM) (hl:l.length≤1048576) (hp:∀ x∈l,CallsF Tryz.prog g [.agg (dml x)] (.agg (dml (p x)))):CallsF Tryz.prog 53 [dms l,.func (.func g) [] []] (dms (l.map p)):=by
 refine callsF_ofS mx Tryz.call53 Tryz.func53 rfl Tryz.ntmps53 Tryz.results53 (by kernel_rfl) (by simp) fun lo=>?_
 repeat'(first|refine vcI ?_|refine And.intro ?_ ?_|(intro hq;(try simp at hq);(try(exfalso;omega));(try(revert hq;intro))))
 refine ghostS0 5 (1,1000) (by decide) 2 (fun _ _ => .undef) rfl rfl fun v=>?_
 refine loopS2 mx (by decide) (by kernel_rfl) (fun (k v:Nat)=>k≤l.length) (fun k v=>[(10,.int .i64 k),(9,.int .i64 l.length),(8,dms l),(5,.ref (1,1000) v [] 2 0 ((l.take k).map p).length),(1,.func (.func g) [] [])]) (fun k v=>[((1,1000),⟨v,orow 2 dml ((l.take k).map p)⟩)]) (fun k v=>l.length - k) 0 v (by simp) ⟨by ((repeat' apply And.intro) <;> (first|exact True.intro|exact NEq.refl _|(refine NEq.int ?_;first|exact rfl|omega|(rw [wrapI (by omega)];first|exact rfl|omega)))),⟨⟨rfl,.owns rfl rfl fun i o hi=>absurd hi (by simp)⟩,trivial⟩,.nil⟩ ?_
 clear v
 intro k v nv hk
 have hwk:IntKind.i64.wrap ((k:Int)+1)=((k+1:Nat):Int):=wrapI (by omega)
 have hlk:((l.take k).map p).length=k:=by rw [List.length_map,List.length_take];omega
 have hap:((l.take k).map p).length+(1 - 0)≤1048577:=by omega
 repeat'(first|refine vcI ?_|refine And.intro ?_ ?_|(intro hq;(try simp at hq);(try(exfalso;omega));(try(revert hq;intro))))
 ·have hkl:k<l.length:=by assumption
  have et:(l.take (k+1)).map p=(l.take k).map p++[p (l.getD k default)]:=by rw [take_succD default hkl,List.map_append];rfl
  rw [show Tryz.prog.cellsOf 112=2 by kernel_rfl]
  refine CallS.frozen _ (hp (l.getD k default) (getD_mem default hkl)) (plainAll rfl) ?_
  repeat'(first|refine vcI ?_|refine And.intro ?_ ?_|(intro hq;(try simp at hq);(try(exfalso;omega));(try(revert hq;intro))))
  refine Exists.intro (orow 2 dml [p (l.getD k default)]) (And.intro ?_ (And.intro rfl ?_))
  ·refine NEq.owns rfl rfl fun i q hi hq=>?_
   obtain rfl:i=0:=by simp at hi;omega
   rcases (by omega:q=0∨q=1) with rfl|rfl <;> exact .refl _
  repeat'(first|refine vcI ?_|refine And.intro ?_ ?_|(intro hq;(try simp at hq);(try(exfalso;omega));(try(revert hq;intro))))
  ·rw [show Tryz.prog.bytesOf 112=32 by kernel_rfl];omega
  ·omega
  refine Exists.intro (orow 2 dml ((l.take (k+1)).map p)) (And.intro ?_ (And.intro (shape_row (by rw [et,List.length_append];rfl)) ?_))
  ·rw [et]
   refine app_row rfl rfl (fun i q hi hq=>?_) fun q hq=>?_
   ·dsimp only;rw [if_pos hi];exact .refl _
   ·dsimp only;rw [if_neg (by omega),Nat.sub_self]
    rcases (by omega:q=0∨q=1) with rfl|rfl <;> exact .refl _
  rw [show ((l.take k).map p).length+(1 - 0)=((l.take (k+1)).map p).length by rw [et,List.length_append];rfl]
  repeat'(first|refine vcI ?_|refine And.intro ?_ ?_|(intro hq;(try simp at hq);(try(exfalso;omega));(try(revert hq;intro))))
  exact Exists.intro (k+1,_) ⟨by dsimp only;omega,(by first|omega|(dsimp only;omega)),⟨by ((repeat' apply And.intro) <;> (first|exact True.intro|exact NEq.refl _|(refine NEq.int ?_;first|exact rfl|omega|(rw [wrapI (by omega)];first|exact rfl|omega)))),⟨⟨rfl,.refl _⟩,trivial⟩,.nil⟩⟩
 ·obtain rfl:k=l.length:=by omega
  rw [List.take_length]
  exact view_row1 (k:=8) rfl rfl fun i q hi hq=>NEq.of_eq (view_dml 7 _ _ q)
theorem eachD_spec (l:List DP) (g:FuncId) (p:DP→DP) (hl:l.length≤1048576) (hp:∀ x∈l,CallsF Tryz.prog g [.agg (dpl x)] (.agg (dpl (p x)))):CallsF Tryz.prog 56 [dps l,.func (.func g) [] []] (dps (l.map p)):=by
 refine callsF_ofS mx Tryz.call56 Tryz.func56 rfl Tryz.ntmps56 Tryz.results56 (by kernel_rfl) (by simp) fun lo=>?_
 repeat'(first|refine vcI ?_|refine And.intro ?_ ?_|(intro hq;(try simp at hq);(try(exfalso;omega));(try(revert hq;intro))))
 refine ghostS0 5 (1,1000) (by decide) 8 (fun _ _ => .undef) rfl rfl fun v=>?_
 refine loopS2 mx (by decide) (by kernel_rfl) (fun (k v:Nat)=>k≤l.length) (fun k v=>[(10,.int .i64 k),(9,.int .i64 l.length),(8,dps l),(5,.ref (1,1000) v [] 8 0 ((l.take k).map p).length),(1,.func (.func g) [] [])]) (fun k v=>[((1,1000),⟨v,orow 8 dpl ((l.take k).map p)⟩)]) (fun k v=>l.length - k) 0 v (by simp) ⟨by ((repeat' apply And.intro) <;> (first|exact True.intro|exact NEq.refl _|(refine NEq.int ?_;first|exact rfl|omega|(rw [wrapI (by omega)];first|exact rfl|omega)))),⟨⟨rfl,.owns rfl rfl fun i o hi=>absurd hi (by simp)⟩,trivial⟩,.nil⟩ ?_
 clear v
 intro k v nv hk
 have hwk:IntKind.i64.wrap ((k:Int)+1)=((k+1:Nat):Int):=wrapI (by omega)
 have hlk:((l.take k).map p).length=k:=by rw [List.length_map,List.length_take];omega
 have hap:((l.take k).map p).length+(1 - 0)≤1048577:=by omega
 repeat'(first|refine vcI ?_|refine And.intro ?_ ?_|(intro hq;(try simp at hq);(try(exfalso;omega));(try(revert hq;intro))))
 ·have hkl:k<l.length:=by assumption
  have et:(l.take (k+1)).map p=(l.take k).map p++[p (l.getD k default)]:=by rw [take_succD default hkl,List.map_append];rfl
  rw [show Tryz.prog.cellsOf 119=8 by kernel_rfl]
  refine CallS.frozen _ (hp (l.getD k default) (getD_mem default hkl)) (plainAll rfl) ?_
  repeat'(first|refine vcI ?_|refine And.intro ?_ ?_|(intro hq;(try simp at hq);(try(exfalso;omega));(try(revert hq;intro))))
  refine Exists.intro (orow 8 dpl [p (l.getD k default)]) (And.intro ?_ (And.intro rfl ?_))
  ·refine NEq.owns rfl rfl fun i q hi hq=>?_
   obtain rfl:i=0:=by simp at hi;omega
   rcases (by omega:q=0∨q=1∨q=2∨q=3∨q=4∨q=5∨q=6∨q=7) with rfl|rfl|rfl|rfl|rfl|rfl|rfl|rfl <;> exact .refl _
  repeat'(first|refine vcI ?_|refine And.intro ?_ ?_|(intro hq;(try simp at hq);(try(exfalso;omega));(try(revert hq;intro))))
  ·rw [show Tryz.prog.bytesOf 119=88 by kernel_rfl];omega
  ·omega
  refine Exists.intro (orow 8 dpl ((l.take (k+1)).map p)) (And.intro ?_ (And.intro (shape_row (by rw [et,List.length_append];rfl)) ?_))
  ·rw [et]
   refine app_row rfl rfl (fun i q hi hq=>?_) fun q hq=>?_
   ·dsimp only;rw [if_pos hi];exact .refl _
   ·dsimp only;rw [if_neg (by omega),Nat.sub_self]
    rcases (by omega:q=0∨q=1∨q=2∨q=3∨q=4∨q=5∨q=6∨q=7) with rfl|rfl|rfl|rfl|rfl|rfl|rfl|rfl <;> exact .refl _
  rw [show ((l.take k).map p).length+(1 - 0)=((l.take (k+1)).map p).length by rw [et,List.length_append];rfl]
  repeat'(first|refine vcI ?_|refine And.intro ?_ ?_|(intro hq;(try simp at hq);(try(exfalso;omega));(try(revert hq;intro))))
  exact Exists.intro (k+1,_) ⟨by dsimp only;omega,(by first|omega|(dsimp only;omega)),⟨by ((repeat' apply And.intro) <;> (first|exact True.intro|exact NEq.refl _|(refine NEq.int ?_;first|exact rfl|omega|(rw [wrapI (by omega)];first|exact rfl|omega)))),⟨⟨rfl,.refl _⟩,trivial⟩,.nil⟩⟩
 ·obtain rfl:k=l.length:=by omega
  rw [List.take_length]
  exact view_row1 (k:=8) rfl rfl fun i q hi hq=>NEq.of_eq (view_dpl 7 _ _ q)
end Go.Ab
namespace Go.Ab
open Go.Proofs
set_option maxRecDepth 100000
set_option maxHeartbeats 4000000

def rnP (cp:PV) (l:List Int):PV := .fptr 2 (rowL [cp,ints l]) 0
theorem valueP_spec (cp:PV) (v:DV) (l:List Int) (h:v.k=1→0≤v.n∧v.n<(l.length:Int)):CallsF Tryz.prog 96 [rnP cp l,.agg (dvl v)] (.agg (dvl (renV l v))):=by
 refine callsF_ofS mx Tryz.call96 Tryz.func96 rfl Tryz.ntmps96 Tryz.results96 (by kernel_rfl) (by simp) fun lo=>?_
 repeat'(first|refine vcI ?_|refine And.intro ?_ ?_|(intro hq;(try simp at hq);(try(exfalso;omega));(try(revert hq;intro))))
 ·have hk:v.k=1:=by assumption
  rw [show Tryz.prog.cellsOf 103=6 by kernel_rfl,show renV l v={ v with n:=l.getD v.n.toNat 0 } by unfold renV;rw [if_pos hk]]
  exact .refl _
 ·have hk:¬ v.k=1:=by assumption
  rw [show Tryz.prog.cellsOf 103=6 by kernel_rfl,show renV l v=v by unfold renV;rw [if_neg hk]]
  exact .refl _
theorem instr1_spec (cp:PV) (r:Int) (l:List Int) (h:0≤r∧r<(l.length:Int)):CallsF Tryz.prog 94 [.int .i64 r,.fptr 1 (fun _=>rnP cp l) 0] (.int .i64 (l.getD r.toNat 0)):=by
 refine callsF_ofS mx Tryz.call94 Tryz.func94 rfl Tryz.ntmps94 Tryz.results94 (by kernel_rfl) (by simp) fun lo=>?_
 repeat'(first|refine vcI ?_|refine And.intro ?_ ?_|(intro hq;(try simp at hq);(try(exfalso;omega));(try(revert hq;intro))))
 exact .refl _
theorem cloneN_spec (l:List Int) (hl:l.length≤1048576):CallsF Tryz.prog 95 [ints l] (ints l):=by
 refine callsF_ofS mx Tryz.call95 Tryz.func95 rfl Tryz.ntmps95 Tryz.results95 (by kernel_rfl) (by simp) fun lo=>?_
 repeat'(first|refine vcI ?_|refine And.intro ?_ ?_|(intro hq;(try simp at hq);(try(exfalso;omega));(try(revert hq;intro))))
 ·refine Exists.intro (PV.own 1 0 fun _ _ => .undef) (And.intro ?_ (And.intro rfl ?_))
  ·exact NEq.owns rfl rfl fun i o hi=>absurd hi (by simp)
  repeat'(first|refine vcI ?_|refine And.intro ?_ ?_|(intro hq;(try simp at hq);(try(exfalso;omega));(try(revert hq;intro))))
  ·rfl
  refine Exists.intro (oints l) (And.intro (NEq.owns rfl (by omega) fun i o hi ho=>?_) (And.intro (shape_ints (by omega)) ?_))
  ·dsimp only
   rw [if_neg (by omega),Nat.sub_zero]
   exact .refl _
  exact view_ints (k:=7) rfl (by omega)
 ·rename_i h1 b h2
  subst h1
  repeat'(first|refine vcI ?_|refine And.intro ?_ ?_|(intro hq;(try simp at hq);(try(exfalso;omega));(try(revert hq;intro))))
  exact .nils
 ·rename_i h1 b h2
  refine Exists.intro (PV.own 1 0 fun _ _ => .undef) (And.intro ?_ (And.intro rfl ?_))
  ·exact NEq.owns rfl rfl fun i o hi=>absurd hi (by simp)
  repeat'(first|refine vcI ?_|refine And.intro ?_ ?_|(intro hq;(try simp at hq);(try(exfalso;omega));(try(revert hq;intro))))
  ·rfl
  refine Exists.intro (oints l) (And.intro (NEq.owns rfl (by omega) fun i o hi ho=>?_) (And.intro (shape_ints (by omega)) ?_))
  ·dsimp only
   rw [if_neg (by omega),Nat.sub_zero]
   exact .refl _
  exact view_ints (k:=7) rfl (by omega)
theorem dry_dsl (v:DS) {o:Nat} (h:o<5):dryCell ((dsl v).getD o .undef)=true:=by
 match o with
 | 0=>rfl
 | 1=>rfl
 | 2=>rfl
 | 3=>rfl
 | 4=>rfl
 | o+5=>omega
theorem view_dsl (k:Nat) (hp:Hp) (x:DS) (o:Nat):view (k+1) hp ((dsl x).getD o .undef)=(dsl x).getD o .undef:=by
 match o with
 | 0=>rfl
 | 1=>rfl
 | 2=>rfl
 | 3=>rfl
 | 4=>rfl
 | o+5=>rfl
theorem cloneS_spec (l:List DS) (hl:l.length≤1048576):CallsF Tryz.prog 55 [dss l] (dss l):=by
 refine callsF_ofS mx Tryz.call55 Tryz.func55 rfl Tryz.ntmps55 Tryz.results55 (by kernel_rfl) (by simp) fun lo=>?_
 repeat'(first|refine vcI ?_|refine And.intro ?_ ?_|(intro hq;(try simp at hq);(try(exfalso;omega));(try(revert hq;intro))))
 ·refine Exists.intro (PV.own 5 0 fun _ _ => .undef) (And.intro ?_ (And.intro rfl ?_))
  ·exact NEq.owns rfl rfl fun i o hi=>absurd hi (by simp)
  repeat'(first|refine vcI ?_|refine And.intro ?_ ?_|(intro hq;(try simp at hq);(try(exfalso;omega));(try(revert hq;intro))))
  ·exact dry_dsl _ (by assumption)
  ·rw [show Tryz.prog.bytesOf 115=56 by kernel_rfl];omega
  ·omega
  refine Exists.intro (orow 5 dsl l) (And.intro (NEq.owns rfl (by omega) fun i o hi ho=>?_) (And.intro (shape_row (by omega)) ?_))
  ·dsimp only
   rw [if_neg (by omega),Nat.sub_zero]
   exact .refl _
  exact view_row1 (k:=8) rfl (by omega) fun i q hi hq=>NEq.of_eq (view_dsl 7 _ _ q)
 ·rename_i h1 b h2
  subst h1
  repeat'(first|refine vcI ?_|refine And.intro ?_ ?_|(intro hq;(try simp at hq);(try(exfalso;omega));(try(revert hq;intro))))
  exact .nils
 ·rename_i h1 b h2
  refine Exists.intro (PV.own 5 0 fun _ _ => .undef) (And.intro ?_ (And.intro rfl ?_))
  ·exact NEq.owns rfl rfl fun i o hi=>absurd hi (by simp)
  repeat'(first|refine vcI ?_|refine And.intro ?_ ?_|(intro hq;(try simp at hq);(try(exfalso;omega));(try(revert hq;intro))))
  ·exact dry_dsl _ (by assumption)
  ·rw [show Tryz.prog.bytesOf 115=56 by kernel_rfl];omega
  ·omega
  refine Exists.intro (orow 5 dsl l) (And.intro (NEq.owns rfl (by omega) fun i o hi ho=>?_) (And.intro (shape_row (by omega)) ?_))
  ·dsimp only
   rw [if_neg (by omega),Nat.sub_zero]
   exact .refl _
  exact view_row1 (k:=8) rfl (by omega) fun i q hi hq=>NEq.of_eq (view_dsl 7 _ _ q)
theorem eachN_spec (l:List Int) (g:FuncId) (c:PV) (p:Int→Int) (hl:l.length≤1048576) (hc:plainArg c) (hp:∀ x∈l,CallsF Tryz.prog g [.int .i64 x,c] (.int .i64 (p x))):CallsF Tryz.prog 93 [ints l,.func (.func g) [] [c]] (ints (l.map p)):=by
 refine callsF_ofS mx Tryz.call93 Tryz.func93 rfl Tryz.ntmps93 Tryz.results93 (by kernel_rfl) (by simp) fun lo=>?_
 repeat'(first|refine vcI ?_|refine And.intro ?_ ?_|(intro hq;(try simp at hq);(try(exfalso;omega));(try(revert hq;intro))))
 refine ghostS0 5 (1,1000) (by decide) 1 (fun _ _ => .undef) rfl rfl fun v=>?_
 refine loopS2 mx (by decide) (by kernel_rfl) (fun (k v:Nat)=>k≤l.length) (fun k v=>[(10,.int .i64 k),(9,.int .i64 l.length),(8,ints l),(5,.ref (1,1000) v [] 1 0 ((l.take k).map p).length),(1,.func (.func g) [] [c])]) (fun k v=>[((1,1000),⟨v,oints ((l.take k).map p)⟩)]) (fun k v=>l.length - k) 0 v (by simp) ⟨by ((repeat' apply And.intro) <;> (first|exact True.intro|exact NEq.refl _|(refine NEq.int ?_;first|exact rfl|omega|(rw [wrapI (by omega)];first|exact rfl|omega)))),⟨⟨rfl,.owns rfl rfl fun i o hi=>absurd hi (by simp)⟩,trivial⟩,.nil⟩ ?_
 clear v
 intro k v nv hk
 have hwk:IntKind.i64.wrap ((k:Int)+1)=((k+1:Nat):Int):=wrapI (by omega)
 have hlk:((l.take k).map p).length=k:=by rw [List.length_map,List.length_take];omega
 have hap:((l.take k).map p).length+(1 - 0)≤1048577:=by omega
 repeat'(first|refine vcI ?_|refine And.intro ?_ ?_|(intro hq;(try simp at hq);(try(exfalso;omega));(try(revert hq;intro))))
 ·have hkl:k<l.length:=by assumption
  have et:(l.take (k+1)).map p=(l.take k).map p++[p (l.getD k 0)]:=by rw [take_succD 0 hkl,List.map_append];rfl
  refine CallS.frozen _ (hp (l.getD k 0) (getD_mem 0 hkl)) (plainCons (plainLB_plainL rfl) (plainCons (plainArg_L hc) plainNil)) ?_
  repeat'(first|refine vcI ?_|refine And.intro ?_ ?_|(intro hq;(try simp at hq);(try(exfalso;omega));(try(revert hq;intro))))
  refine Exists.intro (oints [p (l.getD k 0)]) (And.intro (one_ints _ rfl rfl (.refl _)) (And.intro rfl ?_))
  repeat'(first|refine vcI ?_|refine And.intro ?_ ?_|(intro hq;(try simp at hq);(try(exfalso;omega));(try(revert hq;intro))))
  refine Exists.intro (oints ((l.take (k+1)).map p)) (And.intro ?_ (And.intro (shape_ints (by rw [et,List.length_append];rfl)) ?_))
  ·rw [et];exact app_ints rfl rfl (fun i o hi ho=>by (try dsimp only);rw [if_pos hi];exact .refl _) (fun i o hi ho=>by (try dsimp only);rw [if_neg (by omega),Nat.add_sub_cancel_left];(try rw [cellV_pcell]);(try simp only [Nat.zero_add]);exact .refl _)
  rw [show ((l.take k).map p).length+(1 - 0)=((l.take (k+1)).map p).length by rw [et,List.length_append];rfl]
  repeat'(first|refine vcI ?_|refine And.intro ?_ ?_|(intro hq;(try simp at hq);(try(exfalso;omega));(try(revert hq;intro))))
  exact Exists.intro (k+1,_) ⟨by dsimp only;omega,(by first|omega|(dsimp only;omega)),⟨by ((repeat' apply And.intro) <;> (first|exact True.intro|exact NEq.refl _|(refine NEq.int ?_;first|exact rfl|omega|(rw [wrapI (by omega)];first|exact rfl|omega)))),⟨⟨rfl,.refl _⟩,trivial⟩,.nil⟩⟩
 ·obtain rfl:k=l.length:=by omega
  rw [List.take_length]
  exact view_ints (k:=7) rfl rfl
def drl (fs:List DF):List PV:=[dfs fs]
theorem view_drl {k:Nat} {L:Hp} {r:RId} {v n:Nat} {l:List (List DF)} (h:lkH L r=some ⟨v,orow 1 drl l⟩) (hn:n=l.length):NEq (Ab.view (k+2) L (.ref r v [] 1 0 n)) (dfss l):=by
 subst hn
 rw [Ab.view,h]
 simp only [if_true,getAt,orow]
 refine NEq.frzs rfl (by simp) fun i o hi ho=>?_
 obtain rfl:o=0:=by omega
 rw [Nat.zero_add]
 exact .refl _
theorem eachS_spec (l:List (List DF)) (g:FuncId) (c:PV) (p:List DF→List DF) (hl:l.length≤1048576) (hc:plainArg c) (hp:∀ x∈l,CallsF Tryz.prog g [dfs x,c] (dfs (p x))):CallsF Tryz.prog 49 [dfss l,.func (.func g) [] [c]] (dfss (l.map p)):=by
 refine callsF_ofS mx Tryz.call49 Tryz.func49 rfl Tryz.ntmps49 Tryz.results49 (by kernel_rfl) (by simp) fun lo=>?_
 repeat'(first|refine vcI ?_|refine And.intro ?_ ?_|(intro hq;(try simp at hq);(try(exfalso;omega));(try(revert hq;intro))))
 refine ghostS0 5 (1,1000) (by decide) 1 (fun _ _ => .undef) rfl rfl fun v=>?_
 refine loopS2 mx (by decide) (by kernel_rfl) (fun (k v:Nat)=>k≤l.length) (fun k v=>[(10,.int .i64 k),(9,.int .i64 l.length),(8,dfss l),(5,.ref (1,1000) v [] 1 0 ((l.take k).map p).length),(1,.func (.func g) [] [c])]) (fun k v=>[((1,1000),⟨v,orow 1 drl ((l.take k).map p)⟩)]) (fun k v=>l.length - k) 0 v (by simp) ⟨by ((repeat' apply And.intro) <;> (first|exact True.intro|exact NEq.refl _|(refine NEq.int ?_;first|exact rfl|omega|(rw [wrapI (by omega)];first|exact rfl|omega)))),⟨⟨rfl,.owns rfl rfl fun i o hi=>absurd hi (by simp)⟩,trivial⟩,.nil⟩ ?_
 clear v
 intro k v nv hk
 have hwk:IntKind.i64.wrap ((k:Int)+1)=((k+1:Nat):Int):=wrapI (by omega)
 have hlk:((l.take k).map p).length=k:=by rw [List.length_map,List.length_take];omega
 have hap:((l.take k).map p).length+(1 - 0)≤1048577:=by omega
 repeat'(first|refine vcI ?_|refine And.intro ?_ ?_|(intro hq;(try simp at hq);(try(exfalso;omega));(try(revert hq;intro))))
 ·have hkl:k<l.length:=by assumption
  have et:(l.take (k+1)).map p=(l.take k).map p++[p (l.getD k [])]:=by rw [take_succD [] hkl,List.map_append];rfl
  refine CallS.frozen _ (hp (l.getD k []) (getD_mem [] hkl)) (plainCons (plainLB_plainL rfl) (plainCons (plainArg_L hc) plainNil)) ?_
  repeat'(first|refine vcI ?_|refine And.intro ?_ ?_|(intro hq;(try simp at hq);(try(exfalso;omega));(try(revert hq;intro))))
  refine Exists.intro (orow 1 drl [p (l.getD k [])]) (And.intro ?_ (And.intro rfl ?_))
  ·refine NEq.owns rfl rfl fun i q hi hq=>?_
   obtain rfl:i=0:=by simp at hi;omega
   obtain rfl:q=0:=by omega
   exact .refl _
  repeat'(first|refine vcI ?_|refine And.intro ?_ ?_|(intro hq;(try simp at hq);(try(exfalso;omega));(try(revert hq;intro))))
  ·rw [show Tryz.prog.bytesOf 61=24 by kernel_rfl];omega
  ·omega
  refine Exists.intro (orow 1 drl ((l.take (k+1)).map p)) (And.intro ?_ (And.intro (shape_row (by rw [et,List.length_append];rfl)) ?_))
  ·rw [et]
   refine app_row rfl rfl (fun i q hi hq=>?_) fun q hq=>?_
   ·dsimp only;rw [if_pos hi];exact .refl _
   ·dsimp only;rw [if_neg (by omega),Nat.sub_self]
    obtain rfl:q=0:=by omega
    exact .refl _
  rw [show ((l.take k).map p).length+(1 - 0)=((l.take (k+1)).map p).length by rw [et,List.length_append];rfl]
  repeat'(first|refine vcI ?_|refine And.intro ?_ ?_|(intro hq;(try simp at hq);(try(exfalso;omega));(try(revert hq;intro))))
  exact Exists.intro (k+1,_) ⟨by dsimp only;omega,(by first|omega|(dsimp only;omega)),⟨by ((repeat' apply And.intro) <;> (first|exact True.intro|exact NEq.refl _|(refine NEq.int ?_;first|exact rfl|omega|(rw [wrapI (by omega)];first|exact rfl|omega)))),⟨⟨rfl,.refl _⟩,trivial⟩,.nil⟩⟩
 ·obtain rfl:k=l.length:=by omega
  rw [List.take_length]
  exact view_drl (k:=7) rfl rfl
end Go.Ab
namespace Go.Ab
open Go.Proofs
set_option maxRecDepth 100000
set_option maxHeartbeats 4000000

def fieldC (d a b g:Bool):List PV:=[.bool d,.bool a,.bool b,.bool g]
def fieldAt:Nat→List PV
 | 1=>fieldC true false false false
 | 2=>fieldC true true false false
 | 3=>fieldC false true false false
 | 4=>fieldC true true false false
 | 5=>fieldC false true true false
 | 6=>fieldC true true false true
 | 7=>fieldC true true false true
 | 10=>fieldC false true false false
 | 12=>fieldC true false false false
 | 13=>fieldC true false false false
 | 14=>fieldC true true false false
 | 15=>fieldC false true true false
 | 16=>fieldC false false false true
 | _=>fieldC false false false false
def fieldsL:List PV:=(List.range 17).flatMap fieldAt
theorem fields_spec:CallsF Tryz.prog 92 [] (.agg fieldsL):=callsF_val good 10 10 (by kernel_rfl)
def mxL (l:List Int):Int:=l.foldl max 0
theorem mxL_take {l:List Int} {k:Nat} (hk:k<l.length):mxL (l.take (k+1))=max (mxL (l.take k)) (l.getD k 0):=by
 unfold mxL;rw [take_succD 0 hk,List.foldl_append];rfl
theorem Max_spec (l:List Int) (hl:0<l.length) (hs:l.length≤1048576) (h:∀ x∈l,0≤x):CallsF Tryz.prog 46 [ints l] (.int .i64 (mxL l)):=by
 refine callsF_ofS mx Tryz.call46 Tryz.func46 rfl Tryz.ntmps46 Tryz.results46 (by kernel_rfl) (by simp) fun lo=>?_
 repeat'(first|refine vcI ?_|refine And.intro ?_ ?_|(intro hq;(try simp at hq);(try(exfalso;omega));(try(revert hq;intro))))
 have h1:mxL (l.take 1)=l.getD 0 0:=by
  rw [mxL_take hl]
  have:=h _ (getD_mem 0 hl)
  simp only [List.take_zero]
  show max 0 _=_
  rw [List.getD_eq_getElem?_getD]
  omega
 refine loopS mx (by decide) (by kernel_rfl) (fun (k:Nat)=>1≤k∧k≤l.length) (fun k=>[(4,.int .i64 k),(3,.int .i64 (mxL (l.take k))),(0,ints l)]) (fun _=>[]) (fun k=>l.length - k) 1 ⟨by omega,by omega⟩ ⟨⟨.refl _,by rw [h1];exact .refl _,.refl _,trivial⟩,trivial,.nil⟩ ?_
 rintro k nv ⟨hk1,hk⟩
 have hwk:IntKind.i64.wrap ((k:Int)+1)=((k+1:Nat):Int):=wrapI (by omega)
 repeat'(first|refine vcI ?_|refine And.intro ?_ ?_|(intro hq;(try simp at hq);(try(exfalso;omega));(try(revert hq;intro))))
 ·have hkl:k<l.length:=by assumption
  exact Exists.intro (k+1) ⟨by dsimp only;omega,(by first|omega|(dsimp only;omega)),⟨⟨(by refine NEq.int ?_;first|exact rfl|omega|(rw [wrapI (by omega)];first|exact rfl|omega)),NEq.of_eq (congrArg (PV.int .i64) (by rw [mxL_take hkl];show (if l.getD k 0>mxL (l.take k) then l.getD k 0 else mxL (l.take k))=_;split <;> omega)),.refl _,trivial⟩,trivial,.nil⟩⟩
 ·obtain rfl:k=l.length:=by omega
  rw [List.take_length]
  exact .refl _
theorem frameP_spec (cp:PV) (l:List Int) (f:DF) (hl:l.length≤1048576) (hs:f.small) (h:RegsF l.length f):CallsF Tryz.prog 52 [rnP cp l,.agg (dfl f)] (.agg (dfl (renF l f))):=by
 obtain ⟨hs1,hs2⟩:=hs
 have hv1:=eachV_spec f.vars 96 (rnP cp l) (renV l) hs1 trivial fun x hx=>valueP_spec cp x l (h.vars x hx)
 have hv2:=eachV_spec f.stack 96 (rnP cp l) (renV l) hs2 trivial fun x hx=>valueP_spec cp x l (h.stack x hx)
 have hv3:=valueP_spec cp f.self l h.self
 have hv4:=valueP_spec cp f.holder l h.holder
 refine callsF_ofS mx Tryz.call52 Tryz.func52 rfl Tryz.ntmps52 Tryz.results52 (by kernel_rfl) (by simp) fun lo=>?_
 repeat'(first|refine vcI ?_|refine And.intro ?_ ?_|(intro hq;(try simp at hq);(try(exfalso;omega));(try(revert hq;intro))))
 rw [show Tryz.prog.cellsOf 103=6 by kernel_rfl]
 first
 | refine CallS.frozen _ hv3 (plainAll rfl) ?_
 | refine QS.frozen _ hv3 (plainAll rfl) ?_
 repeat'(first|refine vcI ?_|refine And.intro ?_ ?_|(intro hq;(try simp at hq);(try(exfalso;omega));(try(revert hq;intro))))
 rw [show Tryz.prog.cellsOf 103=6 by kernel_rfl]
 first
 | refine CallS.frozen _ hv4 (plainAll rfl) ?_
 | refine QS.frozen _ hv4 (plainAll rfl) ?_
 repeat'(first|refine vcI ?_|refine And.intro ?_ ?_|(intro hq;(try simp at hq);(try(exfalso;omega));(try(revert hq;intro))))
 first
 | refine CallS.frozen _ hv1 (plainAll rfl) ?_
 | refine QS.frozen _ hv1 (plainAll rfl) ?_
 repeat'(first|refine vcI ?_|refine And.intro ?_ ?_|(intro hq;(try simp at hq);(try(exfalso;omega));(try(revert hq;intro))))
 first
 | refine CallS.frozen _ hv2 (plainAll rfl) ?_
 | refine QS.frozen _ hv2 (plainAll rfl) ?_
 repeat'(first|refine vcI ?_|refine And.intro ?_ ?_|(intro hq;(try simp at hq);(try(exfalso;omega));(try(revert hq;intro))))
 ·exact (h.act (by assumption)).1
 ·exact (h.act (by assumption)).2
 ·have h0:f.act≠0:=by assumption
  rw [show Tryz.prog.cellsOf 106=18 by kernel_rfl,show renF l f={ f with self:=renV l f.self,holder:=renV l f.holder,vars:=f.vars.map (renV l),stack:=f.stack.map (renV l),act:=IntKind.i64.wrap (l.getD (IntKind.i64.wrap (f.act - 1)).toNat 0+1) } by unfold renF;rw [if_neg h0]]
  exact .refl _
 ·have h0:f.act=0:=by assumption
  rw [show Tryz.prog.cellsOf 106=18 by kernel_rfl,show renF l f={ f with self:=renV l f.self,holder:=renV l f.holder,vars:=f.vars.map (renV l),stack:=f.stack.map (renV l) } by unfold renF;rw [if_pos h0]]
  exact .refl _
theorem ren1_spec (cp:PV) (l:List Int) (fs:List DF) (hl:l.length≤1048576) (hfs:fs.length≤1048576) (hs:∀ f∈fs,f.small) (h:∀ f∈fs,RegsF l.length f):CallsF Tryz.prog 50 [dfs fs,.fptr 1 (fun _=>rnP cp l) 0] (dfs (fs.map (renF l))):=by
 have he:=eachF_spec fs 52 (rnP cp l) (renF l) hfs trivial fun f hf=>frameP_spec cp l f hl (hs f hf) (h f hf)
 refine callsF_ofS mx Tryz.call50 Tryz.func50 rfl Tryz.ntmps50 Tryz.results50 (by kernel_rfl) (by simp) fun lo=>?_
 repeat'(first|refine vcI ?_|refine And.intro ?_ ?_|(intro hq;(try simp at hq);(try(exfalso;omega));(try(revert hq;intro))))
 first
 | refine CallS.frozen _ he (plainAll rfl) ?_
 | refine QS.frozen _ he (plainAll rfl) ?_
 repeat'(first|refine vcI ?_|refine And.intro ?_ ?_|(intro hq;(try simp at hq);(try(exfalso;omega));(try(revert hq;intro))))
 exact .refl _
theorem ren2_spec (m:DM) (h:m.slots.length≤1048576):CallsF Tryz.prog 54 [.agg (dml m)] (.agg (dml m)):=by
 have hc:=cloneS_spec m.slots h
 refine callsF_ofS mx Tryz.call54 Tryz.func54 rfl Tryz.ntmps54 Tryz.results54 (by kernel_rfl) (by simp) fun lo=>?_
 repeat'(first|refine vcI ?_|refine And.intro ?_ ?_|(intro hq;(try simp at hq);(try(exfalso;omega));(try(revert hq;intro))))
 first
 | refine CallS.frozen _ hc (plainAll rfl) ?_
 | refine QS.frozen _ hc (plainAll rfl) ?_
 repeat'(first|refine vcI ?_|refine And.intro ?_ ?_|(intro hq;(try simp at hq);(try(exfalso;omega));(try(revert hq;intro))))
 ·kernel_rfl
 show NEq (view 9 _ (PV.agg (List.map _ (List.range (Tryz.prog.cellsOf 112))))) _
 rw [show Tryz.prog.cellsOf 112=2 by kernel_rfl]
 exact .refl _
theorem ren3_spec (d:DP) (h:d.map.slots.length≤1048576):CallsF Tryz.prog 57 [.agg (dpl d)] (.agg (dpl d)):=by
 have hc:=cloneS_spec d.map.slots h
 refine callsF_ofS mx Tryz.call57 Tryz.func57 rfl Tryz.ntmps57 Tryz.results57 (by kernel_rfl) (by simp) fun lo=>?_
 repeat'(first|refine vcI ?_|refine And.intro ?_ ?_|(intro hq;(try simp at hq);(try(exfalso;omega));(try(revert hq;intro))))
 first
 | refine CallS.frozen _ hc (plainAll rfl) ?_
 | refine QS.frozen _ hc (plainAll rfl) ?_
 repeat'(first|refine vcI ?_|refine And.intro ?_ ?_|(intro hq;(try simp at hq);(try(exfalso;omega));(try(revert hq;intro))))
 show NEq (view 9 _ (PV.agg (List.map _ (List.range (Tryz.prog.cellsOf 119))))) _
 rw [show Tryz.prog.cellsOf 119=8 by kernel_rfl]
 exact .refl _
end Go.Ab
namespace Go.Ab
open Go.Proofs
set_option maxRecDepth 100000
set_option maxHeartbeats 4000000

def renA (l:List Int) (rs:List Int):List Int:=rs.map fun r=>l.getD r.toNat 0
theorem placesR_spec (l rs:List Int) (hl:rs.length≤1048576) (h:∀ r∈rs,0≤r∧r<(l.length:Int)):CallsF Tryz.prog 98 [ints l,ints rs] (ints (renA l rs)):=by
 refine callsF_ofS mx Tryz.call98 Tryz.func98 rfl Tryz.ntmps98 Tryz.results98 (by kernel_rfl) (by simp) fun lo=>?_
 repeat'(first|refine vcI ?_|refine And.intro ?_ ?_|(intro hq;(try simp at hq);(try(exfalso;omega));(try(revert hq;intro))))
 refine ghostS0 5 (1,1000) (by decide) 1 (fun _ _ => .undef) rfl rfl fun v=>?_
 refine loopS2 mx (by decide) (by kernel_rfl) (fun (k v:Nat)=>k≤rs.length) (fun k v=>[(6,.int .i64 k),(5,.ref (1,1000) v [] 1 0 (renA l (rs.take k)).length),(0,ints l),(1,ints rs)]) (fun k v=>[((1,1000),⟨v,oints (renA l (rs.take k))⟩)]) (fun k v=>rs.length - k) 0 v (by simp) ⟨by ((repeat' apply And.intro) <;> (first|exact True.intro|exact NEq.refl _|(refine NEq.int ?_;first|exact rfl|omega|(rw [wrapI (by omega)];first|exact rfl|omega)))),⟨⟨rfl,.owns rfl rfl fun i o hi=>absurd hi (by simp [renA])⟩,trivial⟩,.nil⟩ ?_
 clear v
 intro k v nv hk
 have hwk:IntKind.i64.wrap ((k:Int)+1)=((k+1:Nat):Int):=wrapI (by omega)
 have hlk:(renA l (rs.take k)).length=k:=by unfold renA;rw [List.length_map,List.length_take];omega
 have hap:(renA l (rs.take k)).length+(1 - 0)≤1048577:=by omega
 have hr:∀ j,j<rs.length→0≤rs.getD j 0∧rs.getD j 0<(l.length:Int):=fun j hj=>h _ (by rw [List.getD_eq_getElem?_getD];exact getD_mem _ hj)
 repeat'(first|refine vcI ?_|refine And.intro ?_ ?_|(intro hq;(try simp at hq);(try(exfalso;omega));(try(revert hq;intro))))
 ·exact (hr k (by assumption)).1
 ·exact (hr k (by assumption)).2
 ·have hkl:k<rs.length:=by assumption
  have et:renA l (rs.take (k+1))=renA l (rs.take k)++[l.getD (rs.getD k 0).toNat 0]:=by unfold renA;rw [take_succD 0 hkl,List.map_append];rfl
  refine Exists.intro (oints [l.getD (rs.getD k 0).toNat 0]) (And.intro (one_ints _ rfl rfl (.refl _)) (And.intro rfl ?_))
  repeat'(first|refine vcI ?_|refine And.intro ?_ ?_|(intro hq;(try simp at hq);(try(exfalso;omega));(try(revert hq;intro))))
  refine Exists.intro (oints (renA l (rs.take (k+1)))) (And.intro ?_ (And.intro (shape_ints (by rw [et,List.length_append];rfl)) ?_))
  ·rw [et];exact app_ints rfl rfl (fun i o hi ho=>by (try dsimp only);rw [if_pos hi];exact .refl _) (fun i o hi ho=>by (try dsimp only);rw [if_neg (by omega),Nat.add_sub_cancel_left];(try rw [cellV_pcell]);(try simp only [Nat.zero_add]);exact .refl _)
  rw [show (renA l (rs.take k)).length+(1 - 0)=(renA l (rs.take (k+1))).length by rw [et,List.length_append];rfl]
  repeat'(first|refine vcI ?_|refine And.intro ?_ ?_|(intro hq;(try simp at hq);(try(exfalso;omega));(try(revert hq;intro))))
  exact Exists.intro (k+1,_) ⟨by dsimp only;omega,(by first|omega|(dsimp only;omega)),⟨by ((repeat' apply And.intro) <;> (first|exact True.intro|exact NEq.refl _|(refine NEq.int ?_;first|exact rfl|omega|(rw [wrapI (by omega)];first|exact rfl|omega)))),⟨⟨rfl,.refl _⟩,trivial⟩,.nil⟩⟩
 ·obtain rfl:k=rs.length:=by omega
  rw [List.take_length]
  exact view_ints (k:=7) rfl rfl
def aB (op:Int):Bool:=op == 2||op == 4||op == 14||op == 3||op == 10||op == 5||op == 15||op == 6||op == 7
def bB (op:Int):Bool:=op == 5||op == 15
def gB (op:Int):Bool:=op == 6||op == 7||op == 16
def renI (l:List Int) (x:DI):DI:={ x with
 d:=if setsB x.op=true then l.getD x.d.toNat 0 else x.d
 a:=if aB x.op=true then l.getD x.a.toNat 0 else x.a
 b:=if bB x.op=true then l.getD x.b.toNat 0 else x.b
 n:=if x.op=10∧x.n≠0 then IntKind.i64.wrap (l.getD (IntKind.i64.wrap (x.n - 1)).toNat 0+1) else x.n
 args:=if gB x.op=true then renA l x.args else x.args }
structure RegsI (m:Int) (x:DI):Prop where
 d:setsB x.op=true→0≤x.d∧x.d<m
 a:aB x.op=true→0≤x.a∧x.a<m
 b:bB x.op=true→0≤x.b∧x.b<m
 n:x.op=10→x.n≠0→1≤x.n∧x.n≤m
 args:gB x.op=true→∀ r∈x.args,0≤r∧r<m
theorem renamedR_spec (l : List Int) (x : DI) (hl : l.length ≤ 1048576) (ha : x.args.length ≤ 1048576) (h : RegsI l.length x) : CallsF Tryz.prog 58 [.agg (dil x), ints l] (.agg (dil (renI l x))) := by
  have hss := sets_spec x.op
  have hpl := fun hg => placesR_spec l x.args ha (h.args hg)
  refine callsF_ofS mx Tryz.call58 Tryz.func58 rfl Tryz.ntmps58 Tryz.results58 (by kernel_rfl) (by simp) fun lo => ?_
  repeat'(first|refine vcI ?_|refine And.intro ?_ ?_|(intro hq;(try simp at hq);(try(exfalso;omega));(try(revert hq;intro))))
  rcases hsb : setsB x.op with _ | _
  · rw [hsb] at hss
    refine CallS.frozen (.bool false) hss (plainAll rfl) ?_
    repeat'(first|refine vcI ?_|refine And.intro ?_ ?_|(intro hq;(try simp at hq);(try(exfalso;omega));(try(revert hq;intro))))
    all_goals first
    | exact (h.d hsb).1
    | exact (h.d hsb).2
    | exact (h.a (by simp [aB, *])).1
    | exact (h.a (by simp [aB, *])).2
    | exact (h.b (by simp [bB, *])).1
    | exact (h.b (by simp [bB, *])).2
    | (have h1 := h.n (by omega) (by omega); rw [wrapI (by omega)]; omega)
    | skip
    iterate 8
      · rw [show Tryz.prog.cellsOf 58 = 16 by kernel_rfl]
        first
        | (have ha : aB x.op = true := by simp [aB, *]
           have hb : bB x.op = false := by simp [bB, *]
           have hg : gB x.op = false := by simp [gB, *]
           rw [show renI l x = { x with a := l.getD x.a.toNat 0 } by unfold renI; rw [hsb, ha, hb, hg, if_neg (show ¬(x.op = 10 ∧ x.n ≠ 0) by rintro ⟨h1, h2⟩; omega)]; rfl]; exact .refl _)
        | (have ha : aB x.op = true := by simp [aB, *]
           have hb : bB x.op = false := by simp [bB, *]
           have hg : gB x.op = false := by simp [gB, *]
           rw [show renI l x = { x with a := l.getD x.a.toNat 0, n := IntKind.i64.wrap (l.getD (IntKind.i64.wrap (x.n - 1)).toNat 0 + 1) } by unfold renI; rw [hsb, ha, hb, hg, if_pos (show x.op = 10 ∧ x.n ≠ 0 by constructor <;> omega)]; rfl]; exact .refl _)
        | (have ha : aB x.op = true := by simp [aB, *]
           have hb : bB x.op = true := by simp [bB, *]
           have hg : gB x.op = false := by simp [gB, *]
           rw [show renI l x = { x with a := l.getD x.a.toNat 0, b := l.getD x.b.toNat 0 } by unfold renI; rw [hsb, ha, hb, hg, if_neg (show ¬(x.op = 10 ∧ x.n ≠ 0) by rintro ⟨h1, h2⟩; omega)]; rfl]; exact .refl _)
        | (have ha : aB x.op = true := by simp [aB, *]
           have hb : bB x.op = false := by simp [bB, *]
           have hg : gB x.op = true := by simp [gB, *]
           rw [show renI l x = { x with a := l.getD x.a.toNat 0, args := renA l x.args } by unfold renI; rw [hsb, ha, hb, hg, if_neg (show ¬(x.op = 10 ∧ x.n ≠ 0) by rintro ⟨h1, h2⟩; omega)]; rfl]; exact .refl _)
        | (have ha : aB x.op = false := by simp [aB, *]
           have hb : bB x.op = false := by simp [bB, *]
           have hg : gB x.op = true := by simp [gB, *]
           rw [show renI l x = { x with args := renA l x.args } by unfold renI; rw [hsb, ha, hb, hg, if_neg (show ¬(x.op = 10 ∧ x.n ≠ 0) by rintro ⟨h1, h2⟩; omega)]; rfl]; exact .refl _)
        | (have ha : aB x.op = false := by simp [aB, *]
           have hb : bB x.op = false := by simp [bB, *]
           have hg : gB x.op = false := by simp [gB, *]
           rw [show renI l x = x by unfold renI; rw [hsb, ha, hb, hg, if_neg (show ¬(x.op = 10 ∧ x.n ≠ 0) by rintro ⟨h1, h2⟩; omega)]; rfl]; exact .refl _)
    iterate 3
      · have hg : gB x.op = true := by simp [gB, *]
        refine CallS.frozen _ (hpl hg) (plainAll rfl) ?_
        repeat'(first|refine vcI ?_|refine And.intro ?_ ?_|(intro hq;(try simp at hq);(try(exfalso;omega));(try(revert hq;intro))))
        rw [show Tryz.prog.cellsOf 58 = 16 by kernel_rfl]
        first
        | (have ha : aB x.op = true := by simp [aB, *]
           have hb : bB x.op = false := by simp [bB, *]
           have hg : gB x.op = false := by simp [gB, *]
           rw [show renI l x = { x with a := l.getD x.a.toNat 0 } by unfold renI; rw [hsb, ha, hb, hg, if_neg (show ¬(x.op = 10 ∧ x.n ≠ 0) by rintro ⟨h1, h2⟩; omega)]; rfl]; exact .refl _)
        | (have ha : aB x.op = true := by simp [aB, *]
           have hb : bB x.op = false := by simp [bB, *]
           have hg : gB x.op = false := by simp [gB, *]
           rw [show renI l x = { x with a := l.getD x.a.toNat 0, n := IntKind.i64.wrap (l.getD (IntKind.i64.wrap (x.n - 1)).toNat 0 + 1) } by unfold renI; rw [hsb, ha, hb, hg, if_pos (show x.op = 10 ∧ x.n ≠ 0 by constructor <;> omega)]; rfl]; exact .refl _)
        | (have ha : aB x.op = true := by simp [aB, *]
           have hb : bB x.op = true := by simp [bB, *]
           have hg : gB x.op = false := by simp [gB, *]
           rw [show renI l x = { x with a := l.getD x.a.toNat 0, b := l.getD x.b.toNat 0 } by unfold renI; rw [hsb, ha, hb, hg, if_neg (show ¬(x.op = 10 ∧ x.n ≠ 0) by rintro ⟨h1, h2⟩; omega)]; rfl]; exact .refl _)
        | (have ha : aB x.op = true := by simp [aB, *]
           have hb : bB x.op = false := by simp [bB, *]
           have hg : gB x.op = true := by simp [gB, *]
           rw [show renI l x = { x with a := l.getD x.a.toNat 0, args := renA l x.args } by unfold renI; rw [hsb, ha, hb, hg, if_neg (show ¬(x.op = 10 ∧ x.n ≠ 0) by rintro ⟨h1, h2⟩; omega)]; rfl]; exact .refl _)
        | (have ha : aB x.op = false := by simp [aB, *]
           have hb : bB x.op = false := by simp [bB, *]
           have hg : gB x.op = true := by simp [gB, *]
           rw [show renI l x = { x with args := renA l x.args } by unfold renI; rw [hsb, ha, hb, hg, if_neg (show ¬(x.op = 10 ∧ x.n ≠ 0) by rintro ⟨h1, h2⟩; omega)]; rfl]; exact .refl _)
        | (have ha : aB x.op = false := by simp [aB, *]
           have hb : bB x.op = false := by simp [bB, *]
           have hg : gB x.op = false := by simp [gB, *]
           rw [show renI l x = x by unfold renI; rw [hsb, ha, hb, hg, if_neg (show ¬(x.op = 10 ∧ x.n ≠ 0) by rintro ⟨h1, h2⟩; omega)]; rfl]; exact .refl _)
    · rw [show Tryz.prog.cellsOf 58 = 16 by kernel_rfl]
      first
      | (have ha : aB x.op = true := by simp [aB, *]
         have hb : bB x.op = false := by simp [bB, *]
         have hg : gB x.op = false := by simp [gB, *]
         rw [show renI l x = { x with a := l.getD x.a.toNat 0 } by unfold renI; rw [hsb, ha, hb, hg, if_neg (show ¬(x.op = 10 ∧ x.n ≠ 0) by rintro ⟨h1, h2⟩; omega)]; rfl]; exact .refl _)
      | (have ha : aB x.op = true := by simp [aB, *]
         have hb : bB x.op = false := by simp [bB, *]
         have hg : gB x.op = false := by simp [gB, *]
         rw [show renI l x = { x with a := l.getD x.a.toNat 0, n := IntKind.i64.wrap (l.getD (IntKind.i64.wrap (x.n - 1)).toNat 0 + 1) } by unfold renI; rw [hsb, ha, hb, hg, if_pos (show x.op = 10 ∧ x.n ≠ 0 by constructor <;> omega)]; rfl]; exact .refl _)
      | (have ha : aB x.op = true := by simp [aB, *]
         have hb : bB x.op = true := by simp [bB, *]
         have hg : gB x.op = false := by simp [gB, *]
         rw [show renI l x = { x with a := l.getD x.a.toNat 0, b := l.getD x.b.toNat 0 } by unfold renI; rw [hsb, ha, hb, hg, if_neg (show ¬(x.op = 10 ∧ x.n ≠ 0) by rintro ⟨h1, h2⟩; omega)]; rfl]; exact .refl _)
      | (have ha : aB x.op = true := by simp [aB, *]
         have hb : bB x.op = false := by simp [bB, *]
         have hg : gB x.op = true := by simp [gB, *]
         rw [show renI l x = { x with a := l.getD x.a.toNat 0, args := renA l x.args } by unfold renI; rw [hsb, ha, hb, hg, if_neg (show ¬(x.op = 10 ∧ x.n ≠ 0) by rintro ⟨h1, h2⟩; omega)]; rfl]; exact .refl _)
      | (have ha : aB x.op = false := by simp [aB, *]
         have hb : bB x.op = false := by simp [bB, *]
         have hg : gB x.op = true := by simp [gB, *]
         rw [show renI l x = { x with args := renA l x.args } by unfold renI; rw [hsb, ha, hb, hg, if_neg (show ¬(x.op = 10 ∧ x.n ≠ 0) by rintro ⟨h1, h2⟩; omega)]; rfl]; exact .refl _)
      | (have ha : aB x.op = false := by simp [aB, *]
         have hb : bB x.op = false := by simp [bB, *]
         have hg : gB x.op = false := by simp [gB, *]
         rw [show renI l x = x by unfold renI; rw [hsb, ha, hb, hg, if_neg (show ¬(x.op = 10 ∧ x.n ≠ 0) by rintro ⟨h1, h2⟩; omega)]; rfl]; exact .refl _)
  · rw [hsb] at hss
    refine CallS.frozen (.bool true) hss (plainAll rfl) ?_
    repeat'(first|refine vcI ?_|refine And.intro ?_ ?_|(intro hq;(try simp at hq);(try(exfalso;omega));(try(revert hq;intro))))
    all_goals first
    | exact (h.d hsb).1
    | exact (h.d hsb).2
    | exact (h.a (by simp [aB, *])).1
    | exact (h.a (by simp [aB, *])).2
    | exact (h.b (by simp [bB, *])).1
    | exact (h.b (by simp [bB, *])).2
    | (have h1 := h.n (by omega) (by omega); rw [wrapI (by omega)]; omega)
    | skip
    iterate 8
      · rw [show Tryz.prog.cellsOf 58 = 16 by kernel_rfl]
        first
        | (have ha : aB x.op = true := by simp [aB, *]
           have hb : bB x.op = false := by simp [bB, *]
           have hg : gB x.op = false := by simp [gB, *]
           rw [show renI l x = { x with d := l.getD x.d.toNat 0, a := l.getD x.a.toNat 0 } by unfold renI; rw [hsb, ha, hb, hg, if_neg (show ¬(x.op = 10 ∧ x.n ≠ 0) by rintro ⟨h1, h2⟩; omega)]; rfl]; exact .refl _)
        | (have ha : aB x.op = true := by simp [aB, *]
           have hb : bB x.op = false := by simp [bB, *]
           have hg : gB x.op = false := by simp [gB, *]
           rw [show renI l x = { x with d := l.getD x.d.toNat 0, a := l.getD x.a.toNat 0, n := IntKind.i64.wrap (l.getD (IntKind.i64.wrap (x.n - 1)).toNat 0 + 1) } by unfold renI; rw [hsb, ha, hb, hg, if_pos (show x.op = 10 ∧ x.n ≠ 0 by constructor <;> omega)]; rfl]; exact .refl _)
        | (have ha : aB x.op = true := by simp [aB, *]
           have hb : bB x.op = true := by simp [bB, *]
           have hg : gB x.op = false := by simp [gB, *]
           rw [show renI l x = { x with d := l.getD x.d.toNat 0, a := l.getD x.a.toNat 0, b := l.getD x.b.toNat 0 } by unfold renI; rw [hsb, ha, hb, hg, if_neg (show ¬(x.op = 10 ∧ x.n ≠ 0) by rintro ⟨h1, h2⟩; omega)]; rfl]; exact .refl _)
        | (have ha : aB x.op = true := by simp [aB, *]
           have hb : bB x.op = false := by simp [bB, *]
           have hg : gB x.op = true := by simp [gB, *]
           rw [show renI l x = { x with d := l.getD x.d.toNat 0, a := l.getD x.a.toNat 0, args := renA l x.args } by unfold renI; rw [hsb, ha, hb, hg, if_neg (show ¬(x.op = 10 ∧ x.n ≠ 0) by rintro ⟨h1, h2⟩; omega)]; rfl]; exact .refl _)
        | (have ha : aB x.op = false := by simp [aB, *]
           have hb : bB x.op = false := by simp [bB, *]
           have hg : gB x.op = true := by simp [gB, *]
           rw [show renI l x = { x with d := l.getD x.d.toNat 0, args := renA l x.args } by unfold renI; rw [hsb, ha, hb, hg, if_neg (show ¬(x.op = 10 ∧ x.n ≠ 0) by rintro ⟨h1, h2⟩; omega)]; rfl]; exact .refl _)
        | (have ha : aB x.op = false := by simp [aB, *]
           have hb : bB x.op = false := by simp [bB, *]
           have hg : gB x.op = false := by simp [gB, *]
           rw [show renI l x = { x with d := l.getD x.d.toNat 0 } by unfold renI; rw [hsb, ha, hb, hg, if_neg (show ¬(x.op = 10 ∧ x.n ≠ 0) by rintro ⟨h1, h2⟩; omega)]; rfl]; exact .refl _)
    iterate 3
      · have hg : gB x.op = true := by simp [gB, *]
        refine CallS.frozen _ (hpl hg) (plainAll rfl) ?_
        repeat'(first|refine vcI ?_|refine And.intro ?_ ?_|(intro hq;(try simp at hq);(try(exfalso;omega));(try(revert hq;intro))))
        rw [show Tryz.prog.cellsOf 58 = 16 by kernel_rfl]
        first
        | (have ha : aB x.op = true := by simp [aB, *]
           have hb : bB x.op = false := by simp [bB, *]
           have hg : gB x.op = false := by simp [gB, *]
           rw [show renI l x = { x with d := l.getD x.d.toNat 0, a := l.getD x.a.toNat 0 } by unfold renI; rw [hsb, ha, hb, hg, if_neg (show ¬(x.op = 10 ∧ x.n ≠ 0) by rintro ⟨h1, h2⟩; omega)]; rfl]; exact .refl _)
        | (have ha : aB x.op = true := by simp [aB, *]
           have hb : bB x.op = false := by simp [bB, *]
           have hg : gB x.op = false := by simp [gB, *]
           rw [show renI l x = { x with d := l.getD x.d.toNat 0, a := l.getD x.a.toNat 0, n := IntKind.i64.wrap (l.getD (IntKind.i64.wrap (x.n - 1)).toNat 0 + 1) } by unfold renI; rw [hsb, ha, hb, hg, if_pos (show x.op = 10 ∧ x.n ≠ 0 by constructor <;> omega)]; rfl]; exact .refl _)
        | (have ha : aB x.op = true := by simp [aB, *]
           have hb : bB x.op = true := by simp [bB, *]
           have hg : gB x.op = false := by simp [gB, *]
           rw [show renI l x = { x with d := l.getD x.d.toNat 0, a := l.getD x.a.toNat 0, b := l.getD x.b.toNat 0 } by unfold renI; rw [hsb, ha, hb, hg, if_neg (show ¬(x.op = 10 ∧ x.n ≠ 0) by rintro ⟨h1, h2⟩; omega)]; rfl]; exact .refl _)
        | (have ha : aB x.op = true := by simp [aB, *]
           have hb : bB x.op = false := by simp [bB, *]
           have hg : gB x.op = true := by simp [gB, *]
           rw [show renI l x = { x with d := l.getD x.d.toNat 0, a := l.getD x.a.toNat 0, args := renA l x.args } by unfold renI; rw [hsb, ha, hb, hg, if_neg (show ¬(x.op = 10 ∧ x.n ≠ 0) by rintro ⟨h1, h2⟩; omega)]; rfl]; exact .refl _)
        | (have ha : aB x.op = false := by simp [aB, *]
           have hb : bB x.op = false := by simp [bB, *]
           have hg : gB x.op = true := by simp [gB, *]
           rw [show renI l x = { x with d := l.getD x.d.toNat 0, args := renA l x.args } by unfold renI; rw [hsb, ha, hb, hg, if_neg (show ¬(x.op = 10 ∧ x.n ≠ 0) by rintro ⟨h1, h2⟩; omega)]; rfl]; exact .refl _)
        | (have ha : aB x.op = false := by simp [aB, *]
           have hb : bB x.op = false := by simp [bB, *]
           have hg : gB x.op = false := by simp [gB, *]
           rw [show renI l x = { x with d := l.getD x.d.toNat 0 } by unfold renI; rw [hsb, ha, hb, hg, if_neg (show ¬(x.op = 10 ∧ x.n ≠ 0) by rintro ⟨h1, h2⟩; omega)]; rfl]; exact .refl _)
    · rw [show Tryz.prog.cellsOf 58 = 16 by kernel_rfl]
      first
      | (have ha : aB x.op = true := by simp [aB, *]
         have hb : bB x.op = false := by simp [bB, *]
         have hg : gB x.op = false := by simp [gB, *]
         rw [show renI l x = { x with d := l.getD x.d.toNat 0, a := l.getD x.a.toNat 0 } by unfold renI; rw [hsb, ha, hb, hg, if_neg (show ¬(x.op = 10 ∧ x.n ≠ 0) by rintro ⟨h1, h2⟩; omega)]; rfl]; exact .refl _)
      | (have ha : aB x.op = true := by simp [aB, *]
         have hb : bB x.op = false := by simp [bB, *]
         have hg : gB x.op = false := by simp [gB, *]
         rw [show renI l x = { x with d := l.getD x.d.toNat 0, a := l.getD x.a.toNat 0, n := IntKind.i64.wrap (l.getD (IntKind.i64.wrap (x.n - 1)).toNat 0 + 1) } by unfold renI; rw [hsb, ha, hb, hg, if_pos (show x.op = 10 ∧ x.n ≠ 0 by constructor <;> omega)]; rfl]; exact .refl _)
      | (have ha : aB x.op = true := by simp [aB, *]
         have hb : bB x.op = true := by simp [bB, *]
         have hg : gB x.op = false := by simp [gB, *]
         rw [show renI l x = { x with d := l.getD x.d.toNat 0, a := l.getD x.a.toNat 0, b := l.getD x.b.toNat 0 } by unfold renI; rw [hsb, ha, hb, hg, if_neg (show ¬(x.op = 10 ∧ x.n ≠ 0) by rintro ⟨h1, h2⟩; omega)]; rfl]; exact .refl _)
      | (have ha : aB x.op = true := by simp [aB, *]
         have hb : bB x.op = false := by simp [bB, *]
         have hg : gB x.op = true := by simp [gB, *]
         rw [show renI l x = { x with d := l.getD x.d.toNat 0, a := l.getD x.a.toNat 0, args := renA l x.args } by unfold renI; rw [hsb, ha, hb, hg, if_neg (show ¬(x.op = 10 ∧ x.n ≠ 0) by rintro ⟨h1, h2⟩; omega)]; rfl]; exact .refl _)
      | (have ha : aB x.op = false := by simp [aB, *]
         have hb : bB x.op = false := by simp [bB, *]
         have hg : gB x.op = true := by simp [gB, *]
         rw [show renI l x = { x with d := l.getD x.d.toNat 0, args := renA l x.args } by unfold renI; rw [hsb, ha, hb, hg, if_neg (show ¬(x.op = 10 ∧ x.n ≠ 0) by rintro ⟨h1, h2⟩; omega)]; rfl]; exact .refl _)
      | (have ha : aB x.op = false := by simp [aB, *]
         have hb : bB x.op = false := by simp [bB, *]
         have hg : gB x.op = false := by simp [gB, *]
         rw [show renI l x = { x with d := l.getD x.d.toNat 0 } by unfold renI; rw [hsb, ha, hb, hg, if_neg (show ¬(x.op = 10 ∧ x.n ≠ 0) by rintro ⟨h1, h2⟩; omega)]; rfl]; exact .refl _)
end Go.Ab
