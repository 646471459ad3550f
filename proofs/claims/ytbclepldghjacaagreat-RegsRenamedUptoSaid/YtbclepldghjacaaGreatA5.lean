/- proteuslaw21.RegsRenamed is true whatever the input, and the input reads as it did, where what it reads is of bulk at most 1048576. -/
import Derived.Test.YtbclepldghjacaaGreatA4
import Derived.Test.YtbclepldghjacaaGreatW1
set_option linter.unusedVariables false
set_option linter.unusedSimpArgs false
namespace Go.Ab
open Go.Proofs
set_option maxRecDepth 100000
set_option maxHeartbeats 1000000

def ColI (o:DO) (i a b:Nat):Prop:=(LiveP o i a∧LiveP o i b)∨(setsB (o.irs.getD i default).op=true ∧
 (((a:Int)=(o.irs.getD i default).d∧(LiveP o i b∨∃ k∈goesL (o.irs.getD i default) i,LiveP o k.toNat b))∨((b:Int)=(o.irs.getD i default).d∧(LiveP o i a∨∃ k∈goesL (o.irs.getD i default) i,LiveP o k.toNat a))))
theorem bit_lvW (o:DO) (i q:Nat):bitW (lvW o i) q=true↔LiveP o i q:=bit_wordsP _ _
theorem bit_meets {o:DO} {d:Int} (hd:0≤d) (W:Nat→Nat→Nat) {a b:Nat} (ha:a<250) (hb:b<250) (l:List Int):bitW (meets o d W l a) b=true↔bitW (W a) b=true∨∃ k∈l,((a:Int)=d∧LiveP o k.toNat b)∨(LiveP o k.toNat a∧(b:Int)=d):=by
 unfold meets
 induction l generalizing W with
 | nil=>simp
 | cons k l ih =>
  rw [List.foldl_cons,ih,bit_meetW _ _ ha (by omega) [d] (by simpa using hd),bit_lvW,bit_lvW]
  simp only [List.mem_cons,List.not_mem_nil,or_false,exists_eq_or_imp]
  constructor
  ·rintro ((h|h|h)|h)
   ·exact .inl h
   ·exact .inr (.inl (.inl h))
   ·exact .inr (.inl (.inr h))
   ·exact .inr (.inr h)
  ·rintro (h|(h|h)|h)
   ·exact .inl (.inl h)
   ·exact .inl (.inr (.inl h))
   ·exact .inl (.inr (.inr h))
   ·exact .inr h
theorem bit_togI {o:DO} (H:FlH o) {i:Nat} (hi:i<o.irs.length) (W:Nat→Nat→Nat) {a b:Nat} (ha:a<250) (hb:b<250):bitW (togI o i W a) b=true↔bitW (W a) b=true∨ColI o i a b:=by
 have h1:bitW (meetW W (lvW o i) (listW (lvW o i) 250) a) b=true↔bitW (W a) b=true∨(LiveP o i a∧LiveP o i b):=by
  rw [bit_meetW _ _ ha (by omega) _ (fun k hk=>(listW_nn k hk).1),mem_listS ha,mem_listS hb,bit_lvW,bit_lvW]
  simp only [or_self]
 unfold togI ColI
 by_cases hs:setsB (o.irs.getD i default).op=true
 ·have hd:=H.d hi hs
  rw [if_pos hs,bit_meets hd.1 _ ha hb,bit_meetW _ _ ha (by omega) _ (by simpa using hd.1),h1,bit_lvW,bit_lvW]
  simp only [List.mem_singleton,hs,true_and]
  constructor
  ·rintro ((( h|h)|⟨h,k⟩|⟨h,k⟩)|⟨x,x1,⟨h,k⟩|⟨h,k⟩⟩)
   ·exact .inl h
   ·exact .inr (.inl h)
   ·exact .inr (.inr (.inl ⟨h,.inl k⟩))
   ·exact .inr (.inr (.inr ⟨k,.inl h⟩))
   ·exact .inr (.inr (.inl ⟨h,.inr ⟨x,x1,k⟩⟩))
   ·exact .inr (.inr (.inr ⟨k,.inr ⟨x,x1,h⟩⟩))
  ·rintro (h|h|⟨h,k|⟨x,x1,k⟩⟩|⟨h,k|⟨x,x1,k⟩⟩)
   ·exact .inl (.inl (.inl h))
   ·exact .inl (.inl (.inr h))
   ·exact .inl (.inr (.inl ⟨h,k⟩))
   ·exact .inr ⟨x,x1,.inl ⟨h,k⟩⟩
   ·exact .inl (.inr (.inr ⟨k,h⟩))
   ·exact .inr ⟨x,x1,.inr ⟨k,h⟩⟩
 ·rw [if_neg hs,h1]
  simp only [hs,false_and,or_false,Bool.false_eq_true]
theorem bit_togW {o:DO} (H:FlH o) {a b:Nat} (ha:a<250) (hb:b<250):∀ k,k≤o.irs.length→(bitW (togW o k a) b=true↔∃ i,i<k∧ColI o i a b)
 | 0,_=>by simp [togW,bitW]
 | k+1,hk=>by
  unfold togW
  rw [bit_togI H (by omega) _ ha hb,bit_togW H ha hb k (by omega)]
  constructor
  ·rintro (⟨i,h1,h2⟩|h)
   ·exact ⟨i,by omega,h2⟩
   ·exact ⟨k,by omega,h⟩
  ·rintro ⟨i,h1,h2⟩
   by_cases e:i=k
   ·subst e;exact .inr h2
   ·exact .inl ⟨i,by omega,h2⟩
def ColP (o:DO) (a b:Nat):Prop:=∃ i,i<o.irs.length∧ColI o i a b
theorem bit_colT {o:DO} (H:FlH o) {a b:Nat} (ha:a<250) (hb:b<250):bitW (colT o a) b=true↔ColP o a b:=bit_togW H ha hb _ (Nat.le_refl _)
theorem ColP.symm {o:DO} {a b:Nat} (h:ColP o a b):ColP o b a:=by
 obtain ⟨i,hi,h|⟨hs,h|h⟩⟩:=h
 ·exact ⟨i,hi,.inl ⟨h.2,h.1⟩⟩
 ·exact ⟨i,hi,.inr ⟨hs,.inr h⟩⟩
 ·exact ⟨i,hi,.inr ⟨hs,.inl h⟩⟩
theorem ColP.lt {o:DO} (H:FlH o) {a b:Nat} (h:ColP o a b):(a:Int)<o.regs∧(b:Int)<o.regs:=by
 obtain ⟨i,hi,h|⟨hs,⟨h1,h2⟩|⟨h1,h2⟩⟩⟩:=h
 ·exact ⟨(h.1.lt H).1,(h.2.lt H).1⟩
 ·have hd:=H.dR hi hs
  refine ⟨by omega,?_⟩
  rcases h2 with h2|⟨k,_,h2⟩
  ·exact (h2.lt H).1
  ·exact (h2.lt H).1
 ·have hd:=H.dR hi hs
  refine ⟨?_,by omega⟩
  rcases h2 with h2|⟨k,_,h2⟩
  ·exact (h2.lt H).1
  ·exact (h2.lt H).1
theorem mem_colT {o:DO} (H:FlH o) {r:Nat} (hr:r<250) {q:Int}:q∈listW (colT o r) 250↔∃ b:Nat,q=b∧ColP o r b:=by
 rw [mem_listW]
 constructor
 ·rintro ⟨b,h1,h2,h3⟩;exact ⟨b,h3,(bit_colT H hr h1).1 h2⟩
 ·rintro ⟨b,h1,h2⟩
  have:=(h2.lt H).2
  have:=H.hr
  exact ⟨b,by omega,(bit_colT H hr (by omega)).2 h2,h1⟩
theorem col_lt {o:DO} (H:FlH o) {r:Nat} (hr:r<250) {q:Int} (h:q∈listW (colT o r) 250):q<o.regs:=by
 obtain ⟨b,rfl,h2⟩:=(mem_colT H hr).1 h
 exact (h2.lt H).2
theorem mem_collL {o:DO} (H:FlH o) (hr1:1≤o.regs) {p:Int × Int}:p∈collL o↔∃ a b:Nat,p=((a:Int),(b:Int))∧a<b∧ColP o a b:=by
 obtain ⟨x,y⟩:=p
 have hr:=H.hr
 unfold collL
 rw [mem_collK]
 constructor
 ·rintro ⟨r,h1,h2,h3,h4⟩
  obtain ⟨b,h5,h6⟩:=(mem_colT H (by omega)).1 h3
  simp only at h2 h4 h5
  subst h2 h5
  exact ⟨r,b,rfl,by omega,h6⟩
 ·rintro ⟨a,b,h1,h2,h3⟩
  cases h1
  have:=h3.lt H
  exact ⟨a,by omega,rfl,(mem_colT H (by omega)).2 ⟨b,rfl,h3⟩,by simpa using h2⟩
end Go.Ab
namespace Go.Ab
open Go.Proofs
set_option maxRecDepth 100000
set_option maxHeartbeats 4000000

end Go.Ab
namespace Go.Ab
open Go.Proofs
set_option maxRecDepth 100000
set_option maxHeartbeats 1000000

def CmB (m:Nat) (C:Nat→Nat→Bool) (D:Nat→Nat→Prop):Prop:=∀ a b,a<m→b<m→(C a b=true↔D a b)
def set2 (C:Nat→Nat→Bool) (r q:Nat):Nat→Nat→Bool:=setB (setB C r q) q r
theorem CmB.congr {m:Nat} {C:Nat→Nat→Bool} {D D':Nat→Nat→Prop} (h:CmB m C D) (e:∀ a b,a<m→b<m→(D a b↔D' a b)):CmB m C D':=fun a b ha hb=>(h a b ha hb).trans (e a b ha hb)
theorem CmB.set2 {m:Nat} {C:Nat→Nat→Bool} {D D':Nat→Nat→Prop} (h:CmB m C D) {r q:Nat} (e:∀ a b,a<m→b<m→(D' a b↔D a b∨(a=r∧b=q)∨(a=q∧b=r))):CmB m (set2 C r q) D':=fun a b ha hb=>by
 rw [e a b ha hb,← h a b ha hb]
 unfold Ab.set2 setB
 by_cases h1:a=q∧b=r
 ·rw [if_pos h1];simp [h1]
 ·rw [if_neg h1]
  by_cases h2:a=r∧b=q
  ·rw [if_pos h2];simp [h2]
  ·rw [if_neg h2];simp [h1,h2]
end Go.Ab
namespace Go.Ab
open Go.Proofs
set_option maxRecDepth 100000
set_option maxHeartbeats 4000000

end Go.Ab
namespace Go.Ab
open Go.Proofs
set_option maxRecDepth 100000
set_option maxHeartbeats 1000000

def insL (l:List Int) (n:Int):Bool:=l.all fun r=>decide (0≤r)&&decide (r<n)
structure RowP (o:DO) (i:Nat):Prop where
 op:1≤(o.irs.getD i default).op∧(o.irs.getD i default).op≤16
 args:(o.irs.getD i default).args.length≤20
 ty:(((o.types.getD i []).length:Nat):Int)=o.regs
 fr:framedB (o.irs.getD i default) (o.descs.getD i [])=true
 used:insL (usedL (o.irs.getD i default) (o.descs.getD i [])) o.regs=true
 uses:insL (usesL (o.descs.getD i [])) o.regs=true
 d:setsB (o.irs.getD i default).op=true→0≤(o.irs.getD i default).d∧(o.irs.getD i default).d<o.regs
 goes:insL (goesL (o.irs.getD i default) i) o.irs.length=true
 ret:(o.irs.getD i default).op=10→0≤(o.irs.getD i default).n∧(o.irs.getD i default).n≤o.regs
structure HeadP (o:DO):Prop where
 ne:0<o.irs.length
 le:o.irs.length≤600
 hd:o.descs.length=o.irs.length
 ht:o.types.length=o.irs.length
 r1:1≤o.regs
 r2:o.regs≤250
end Go.Ab
namespace Go.Ab
open Go.Proofs
set_option maxRecDepth 100000
set_option maxHeartbeats 4000000

end Go.Ab
namespace Go.Ab
open Go.Proofs
set_option maxRecDepth 100000
set_option maxHeartbeats 4000000

end Go.Ab
namespace Go.Ab
open Go.Proofs
set_option maxRecDepth 100000
set_option maxHeartbeats 1000000

end Go.Ab
namespace Go.Ab
open Go.Proofs
set_option maxRecDepth 100000
set_option maxHeartbeats 4000000

end Go.Ab
namespace Go.Ab
open Go.Proofs
set_option maxRecDepth 100000
set_option maxHeartbeats 4000000

theorem rangePairs {lv:Nat} {nt:FS} {S L:Hp} {tm:Tm} {nv:Nat} {Q:Post} {g:Operand} {ps:Array Tmp} {assign body:Code} (o:DO) (H:FlH o) (hr1:1≤o.regs) (hS:Above 2 S)
  (hg:ev tm g = .func (.func 83) [] [.fptr 1 (fun _=>codeP o (frW o.irs.length fun i=>wordsP (LiveP o i))) 0]) (Inv:List (Int × Int)→Hp→Prop) (Brk:Hp→Prop) (mem:Hp)
  (hL:∀ j,j≠(1,1001)→lkH mem j=lkH L j) (h0:Inv [] mem) (hnd:∀ p M,Inv p M∨Brk M→(((1,1001):RId)::M.map (·.1)).Nodup∧Above 2 M)
  (hst:∀ S' pre M nv' a b,Inv pre M→(a,b)∈collL o→pre.length≤100000→YieldS Tryz.prog S' (1,1001) nv [.agg [.int .i64 a,.int .i64 b]] (((1,1001),⟨nv,.oloop ⟨.ready,none,nt.n,ps,assign,body⟩ (lk tm)⟩)::M) nv' fun y L' _ =>
   (y = .bool true∧∃ M',L'=((1,1001),⟨nv,.oloop ⟨.ready,none,nt.n,ps,assign,body⟩ (lk tm)⟩)::M'∧Inv (pre++[(a,b)]) M')∨(y = .bool false∧∃ c M',L'=((1,1001),⟨nv,.oloop ⟨.done,some .ret,nt.n,ps,assign,body⟩ c⟩)::M'∧Brk M'))
  (k1:∀ M nv',Inv (collL o) M→Q .normal tm (((1,1001),⟨nv,.oloop ⟨.exhausted,none,nt.n,ps,assign,body⟩ (lk tm)⟩)::M) nv') (k2:∀ c M nv',Brk M→Q .ret tm (((1,1001),⟨nv,.oloop ⟨.exhausted,some .ret,nt.n,ps,assign,body⟩ c⟩)::M) nv') :
  Ev Tryz.prog lv nt none (.rangeFunc g ps assign body) tm (L++S) nv (liftQ S Q):=by
 have hno:∀ {p M},Inv p M∨Brk M→lkH M (1,1001)=none:=fun h=>lkH_none.2 (List.nodup_cons.1 (hnd _ _ h).1).1
 have hab:∀ {x:Root} {p M},Inv p M∨Brk M→Above 2 (((1,1001),x)::M):=fun h=>(hnd _ _ h).2.cons (by decide)
 refine rangeS (1,1001) (by decide) hg (fun _ hp' _=>∃ L',hp'=L'++S∧((∃ M',L'=((1,1001),⟨nv,.oloop ⟨.ready,none,nt.n,ps,assign,body⟩ (lk tm)⟩)::M'∧Inv (collL o) M')∨∃ _:List (Int × Int),∃ c M',L'=((1,1001),⟨nv,.oloop ⟨.done,some .ret,nt.n,ps,assign,body⟩ c⟩)::M'∧Brk M')) (((1,1001),⟨nv,.oloop ⟨.ready,none,nt.n,ps,assign,body⟩ (lk tm)⟩)::mem) (fun j=>?_) ?_ ?_
 ·simp only [lkH]
  by_cases e:j=(1,1001)
  ·rw [if_pos e,if_pos e]
  ·rw [if_neg e,if_neg e,hL j e]
 ·refine pairs1_spec o H hr1 (1,1001) nv (nv+1) _ S hS (fun p L=>∃ M',L=((1,1001),⟨nv,.oloop ⟨.ready,none,nt.n,ps,assign,body⟩ (lk tm)⟩)::M'∧Inv p M') (fun _ L=>∃ c M',L=((1,1001),⟨nv,.oloop ⟨.done,some .ret,nt.n,ps,assign,body⟩ c⟩)::M'∧Brk M') ⟨mem,rfl,h0⟩ ?_ ?_
  ·rintro p L (⟨M,rfl,h⟩|⟨c,M,rfl,h⟩)
   ·exact ⟨(hnd p M (.inl h)).1,hab (.inl h)⟩
   ·exact ⟨(hnd p M (.inr h)).1,hab (p:=p) (.inr h)⟩
  ·rintro S' pre L nv' a b ⟨M,rfl,h⟩ hm hpl
   exact hst S' pre M nv' a b h hm hpl
 ·rintro res hp' nv' ⟨L',rfl,⟨M,rfl,h⟩|⟨_,c,M,rfl,h⟩⟩
  ·refine ⟨_,Rep.mk' S _,rfl,(fun h=>by cases h),?_⟩
   rw [delS_hd,delS_id (hno (.inl h))]
   exact k1 M nv' h
  ·refine ⟨_,Rep.mk' S _,rfl,(fun h=>by cases h),?_⟩
   rw [delS_hd,delS_id (hno (p:=[]) (.inr h))]
   exact k2 c M nv' h

theorem bad1_spec (o:DO) (lv:PV) (r:Int):CallsF Tryz.prog 90 [.int .i64 r,.fptr 1 (fun _=>codeP o lv) 0] (.bool (!regB o r)):=by
 refine callsF_ofS mx Tryz.call90 Tryz.func90 rfl Tryz.ntmps90 Tryz.results90 (by kernel_rfl) (by simp) fun lo=>?_
 repeat'(first|refine vcI ?_|refine And.intro ?_ ?_|(intro hq;(try simp at hq);(try(exfalso;omega));(try(revert hq;intro))))
 refine CallS.frozen (.bool (regB o r)) (reg_spec o lv r) (plainAll rfl) ?_
 repeat'(first|refine vcI ?_|refine And.intro ?_ ?_|(intro hq;(try simp at hq);(try(exfalso;omega));(try(revert hq;intro))))
 exact .refl _
structure PlacesP (o:DO) (l:List Int):Prop where
 live:∀ r∈liveL o 0,l.getD r.toNat 0=r
 apart:∀ p∈collL o,l.getD p.1.toNat 0≠l.getD p.2.toNat 0
open Classical in
noncomputable def chkE (o:DO) (l:List Int):Int:=if OpenP o then (if (l.length:Int)=o.regs∧∀ p∈l,regB o p=true then (if PlacesP o l then 0 else 210) else 1) else 210
noncomputable def placedR (o:DO) (l:List Int):PV:=if chkE o l=0 then .tup [codeP o (frW o.irs.length fun i=>wordsP (LiveP o i)),.int .i64 0] else .tup [.nilp,.int .i64 (chkE o l)]
theorem placedR_bad {o:DO} {l:List Int} {e:Int} (h:chkE o l=e) (hz:e≠0):placedR o l = .tup [.nilp,.int .i64 e]:=by unfold placedR;rw [h,if_neg hz]
theorem placedR_ok {o:DO} {l:List Int} (h:chkE o l=0):placedR o l = .tup [codeP o (frW o.irs.length fun i=>wordsP (LiveP o i)),.int .i64 0]:=by unfold placedR;rw [if_pos h]
noncomputable def mem53 (o:DO) (l:List Int) (v6 v5 v4 v3:Nat):Hp:=[((1,6),⟨v6,.obox 1 fun _=>codeP o (frW o.irs.length fun i=>wordsP (LiveP o i))⟩),((1,5),⟨v5,.obox 1 fun _ => .int .i64 0⟩),((1,4),⟨v4,.obox 1 fun _ => .nilp⟩),((1,3),⟨v3,.obox 1 fun _=>ints l⟩)]
def cst (e old:PV):Nat→PV:=fun b=>if 0≤b∧b<0+1 then List.getD [e] (b - 0) .undef else old
def brk53 (o:DO) (l:List Int) (v6 v5 v4 v3:Nat) (M:Hp):Prop:=¬ PlacesP o l∧∃ x,M=[((1,5),⟨v5,.obox 1 (cst (.int .i64 210) (.int .i64 0))⟩),((1,4),⟨v4,.obox 1 (cst .nilp .nilp)⟩),((1,10),x),((1,6),⟨v6,.obox 1 fun _=>codeP o (frW o.irs.length fun i=>wordsP (LiveP o i))⟩),((1,3),⟨v3,.obox 1 fun _=>ints l⟩)]
theorem Above.chk0 {n:Nat} {L:Hp} (h:(L.all fun x=>Nat.blt x.1.1 n)=true):Above n L:=by
 have:=Above.chk (S:=[]) h Above.nil
 rwa [List.append_nil] at this
theorem placed_spec (o:DO) (l:List Int) (hll:l.length≤1048576) (hf:fewN o≤6000) (hs:∀ l∈o.descs,l.length≤1048576∧∀ f∈l,f.small):CallsF Tryz.prog 45 [.agg (dol o),ints l] (placedR o l):=by
 have ho:=open_spec o hf hs
 refine callsF_ofS mx Tryz.call45 Tryz.func45 rfl Tryz.ntmps45 Tryz.results45 (by kernel_rfl) (by simp) fun lo=>?_
 repeat'(first|refine vcI ?_|refine And.intro ?_ ?_|(intro hq;(try simp at hq);(try(exfalso;omega));(try(revert hq;intro))))
 rw [mk_opt]
 by_cases HO:OpenP o
 ·rw [openR_ok HO] at ho
  refine CallS.frozen (.tup [codeP o (frW o.irs.length fun i=>wordsP (LiveP o i)),.int .i64 0]) ho (plainAll rfl) ?_
  repeat'(first|refine vcI ?_|refine And.intro ?_ ?_|(intro hq;(try simp at hq);(try(exfalso;omega));(try(revert hq;intro))))
  ·have hle:(l.length:Int)=o.regs:=by assumption
   have hbl:((l.length:Int) != o.regs)=false:=by rw [hle];simp
   rw [hbl]
   have hcf:=ContainsFuncN l 90 (.fptr 1 (fun _=>codeP o (frW o.irs.length fun i=>wordsP (LiveP o i))) 0) (fun r=>!regB o r) trivial (fun x=>bad1_spec o _ x)
   rcases hany:(l.any fun r=>!regB o r) with _|_
   ·rw [hany] at hcf
    refine CallS.plain [ints l,.func (.func 90) [] [.fptr 1 (fun _=>codeP o (frW o.irs.length fun i=>wordsP (LiveP o i))) 0]] (.bool false) hcf (LeL.cons (.refl _) (LeL.cons (NEq.clos (view_box (k:=7) rfl ?_)) LeL.nil)) trivial ?_
    ·intro q hq
     obtain rfl:q=0:=by have:q<1:=hq;omega
     exact .refl _
    have H:=HO.fl hf hs
    have hin:∀ p∈l,regB o p=true:=fun p hp=>by have:=List.any_eq_false.1 hany p hp;simpa using this
    have hok:PlacesP o l→chkE o l=0:=fun h=>by unfold chkE;rw [if_pos HO,if_pos ⟨hle,hin⟩,if_pos h]
    have hno:¬ PlacesP o l→chkE o l=210:=fun h=>by unfold chkE;rw [if_pos HO,if_pos ⟨hle,hin⟩,if_neg h]
    repeat'(first|refine vcI ?_|refine And.intro ?_ ?_|(intro hq;(try simp at hq);(try(exfalso;omega));(try(revert hq;intro))))
    ·have:=HO.ne;omega
    refine CallS.own (oints (liveL o 0)) (fun id ver => .ref id ver [] 1 0 (liveL o 0).length) (setList_spec (lvW o 0) (lvW_lt o 0)) (plainAll rfl) ?_
    repeat'(first|refine vcI ?_|refine And.intro ?_ ?_|(intro hq;(try simp at hq);(try(exfalso;omega));(try(revert hq;intro))))
    have hll0:(liveL o 0).length≤250:=listW_len _ _
    refine loopS6 mx (by decide) (by kernel_rfl) (fun (k v34 v6 v5 v4 v3:Nat)=>k≤(liveL o 0).length∧∀ r∈(liveL o 0).take k,l.getD r.toNat 0=r) (fun k v34 v6 v5 v4 v3=>[(36,.int .i64 k),(35,.int .i64 (liveL o 0).length),(34,.ref (1,34) v34 [] 1 0 (liveL o 0).length),(6,.ptr (1,6) v6 [] 0 0),(5,.ptr (1,5) v5 [] 0 0),(4,.ptr (1,4) v4 [] 0 0),(3,.ptr (1,3) v3 [] 0 0)]) (fun k v34 v6 v5 v4 v3=>((1,34),⟨v34,oints (liveL o 0)⟩)::mem53 o l v6 v5 v4 v3) (fun k v34 v6 v5 v4 v3=>(liveL o 0).length - k) 0 _ _ _ _ _ ⟨by simp,by simp⟩ ⟨by ((repeat' apply And.intro) <;> (first|exact True.intro|exact NEq.refl _|(refine NEq.int ?_;first|exact rfl|omega|(rw [wrapI (by omega)];first|exact rfl|omega)))),⟨⟨rfl,.refl _⟩,⟨rfl,.obox ?_⟩,⟨rfl,.obox ?_⟩,⟨rfl,.obox ?_⟩,⟨rfl,.obox ?_⟩,trivial⟩,.nil⟩ ?_
    iterate 4
     ·intro q hq
      obtain rfl:q=0:=by have:q<1:=hq;omega
      exact .refl _
    rintro k v34 v6 v5 v4 v3 nv ⟨hk,hI⟩
    have hwk:IntKind.i64.wrap ((k:Int)+1)=((k+1:Nat):Int):=wrapI (by omega)
    have hlt0:∀ j,j<(liveL o 0).length→0≤(liveL o 0).getD j 0∧(liveL o 0).getD j 0<(l.length:Int):=fun j hj=>by
     have h1:=list_lt H 0 ((liveL o 0).getD j 0) (by rw [List.getD_eq_getElem?_getD];exact getD_mem _ hj)
     have:=H.hr
     omega
    have ek:0+(k:Int).toNat=k:=by omega
    repeat'(first|refine vcI ?_|refine And.intro ?_ ?_|(intro hq;(try simp at hq);(try(exfalso;omega));(try(revert hq;intro))))
    ·rw [ek];exact (hlt0 k (by assumption)).1
    ·rw [ek];exact (hlt0 k (by assumption)).2
    ·rw [placedR_bad (hno fun h=>absurd (h.live _ (getD_mem 0 (by assumption:k<(liveL o 0).length))) (by assumption)) (by decide)]
     exact .refl _
    ·have hkl:k<(liveL o 0).length:=by assumption
     refine Exists.intro (k+1,v34,v6,v5,v4,v3) ⟨⟨by dsimp only;omega,fun r hr=>?_⟩,(by first|omega|(dsimp only;omega)),⟨by ((repeat' apply And.intro) <;> (first|exact True.intro|exact NEq.refl _|(refine NEq.int ?_;first|exact rfl|omega|(rw [wrapI (by omega)];first|exact rfl|omega)))),⟨⟨rfl,.refl _⟩,⟨rfl,.refl _⟩,⟨rfl,.refl _⟩,⟨rfl,.refl _⟩,⟨rfl,.refl _⟩,trivial⟩,.nil⟩⟩
     rw [take_succD 0 hkl,List.mem_append,List.mem_singleton] at hr
     rcases hr with hr|rfl
     ·exact hI r hr
     ·assumption
    ·obtain rfl:k=(liveL o 0).length:=by omega
     rw [List.take_length] at hI
     refine CallS.frozen _ (pairs_spec o _) (plainAll rfl) ?_
     refine lessS (tm':=[(48,.func (.func 83) [] [.fptr 1 (fun _=>codeP o (frW o.irs.length fun i=>wordsP (LiveP o i))) 0]),(6,.ptr (1,6) v6 [] 0 0),(5,.ptr (1,5) v5 [] 0 0),(4,.ptr (1,4) v4 [] 0 0),(3,.ptr (1,3) v3 [] 0 0)]) (L':=mem53 o l v6 v5 v4 v3) ⟨by ((repeat' apply And.intro) <;> (first|exact True.intro|exact NEq.refl _|(refine NEq.int ?_;first|exact rfl|omega|(rw [wrapI (by omega)];first|exact rfl|omega)))),⟨⟨rfl,.refl _⟩,⟨rfl,.refl _⟩,⟨rfl,.refl _⟩,⟨rfl,.refl _⟩,trivial⟩,.nil⟩ ?_
     refine rangePairs o H HO.r1 Above.nil rfl (fun pre M=>(M=mem53 o l v6 v5 v4 v3∨∃ x,M=((1,10),x)::mem53 o l v6 v5 v4 v3)∧∀ p∈pre,l.getD p.1.toNat 0≠l.getD p.2.toNat 0) (brk53 o l v6 v5 v4 v3) (mem53 o l v6 v5 v4 v3) (fun j hj=>rfl) ⟨.inl rfl,by simp⟩ ?_ ?_ ?_ ?_
     ·rintro p M (⟨rfl|⟨x,rfl⟩,_⟩|⟨_,x,rfl⟩)
      ·exact ⟨by simp [mem53],Above.chk0 rfl⟩
      ·exact ⟨by simp [mem53],Above.chk0 rfl⟩
      ·exact ⟨by simp,Above.chk0 rfl⟩
     ·rintro S' pre M nv' a b ⟨hM,hpre⟩ hm _
      have ha:0≤a∧a<(l.length:Int)∧0≤b∧b<(l.length:Int):=by
       obtain ⟨r,h1,h2,h3,h4⟩:=mem_collK.1 hm
       have h5:=(listW_nn _ h3).1
       have h6:=col_lt H (by have:=H.hr;omega) h3
       simp only at h2 h4 h5 h6
       omega
      rcases hM with rfl|⟨x,rfl⟩
      ·refine yieldS_of mx (lvb:=1) (by decide) rfl rfl rfl (by kernel_rfl) (by kernel_rfl) (by kernel_rfl) fun l0 lo=>?_
       repeat'(first|refine vcI ?_|refine And.intro ?_ ?_|(intro hq;(try simp at hq);(try(exfalso;omega));(try(revert hq;intro))))
       ·exact .inr ⟨rfl,_,_,rfl,fun h=>absurd (by assumption) (h.apart (a,b) hm),_,rfl⟩
       ·refine .inl ⟨rfl,_,rfl,.inr ⟨_,rfl⟩,fun p hp=>?_⟩
        rcases List.mem_append.1 hp with hp|hp
        ·exact hpre p hp
        ·rw [List.mem_singleton] at hp;subst hp;assumption
      ·refine yieldS_of mx (lvb:=1) (by decide) rfl rfl rfl (by kernel_rfl) (by kernel_rfl) (by kernel_rfl) fun l0 lo=>?_
       repeat'(first|refine vcI ?_|refine And.intro ?_ ?_|(intro hq;(try simp at hq);(try(exfalso;omega));(try(revert hq;intro))))
       ·exact .inr ⟨rfl,_,_,rfl,fun h=>absurd (by assumption) (h.apart (a,b) hm),_,rfl⟩
       ·refine .inl ⟨rfl,_,rfl,.inr ⟨_,rfl⟩,fun p hp=>?_⟩
        rcases List.mem_append.1 hp with hp|hp
        ·exact hpre p hp
        ·rw [List.mem_singleton] at hp;subst hp;assumption
     ·rintro M nv' ⟨hM,hpre⟩
      have hP:PlacesP o l:=⟨hI,hpre⟩
      rcases hM with rfl|⟨x,rfl⟩
      ·repeat'(first|refine vcI ?_|refine And.intro ?_ ?_|(intro hq;(try simp at hq);(try(exfalso;omega));(try(revert hq;intro))))
       rw [placedR_ok (hok hP)]
       exact NEq.tup2 (.refl _) (.refl _)
      ·repeat'(first|refine vcI ?_|refine And.intro ?_ ?_|(intro hq;(try simp at hq);(try(exfalso;omega));(try(revert hq;intro))))
       rw [placedR_ok (hok hP)]
       exact NEq.tup2 (.refl _) (.refl _)
     ·rintro c M nv' ⟨hn,x,rfl⟩
      rw [placedR_bad (hno hn) (by decide)]
      repeat'(first|refine vcI ?_|refine And.intro ?_ ?_|(intro hq;(try simp at hq);(try(exfalso;omega));(try(revert hq;intro))))
      exact NEq.tup2 (.refl _) (.refl _)
   ·rw [hany] at hcf
    refine CallS.plain [ints l,.func (.func 90) [] [.fptr 1 (fun _=>codeP o (frW o.irs.length fun i=>wordsP (LiveP o i))) 0]] (.bool true) hcf (LeL.cons (.refl _) (LeL.cons (NEq.clos (view_box (k:=7) rfl ?_)) LeL.nil)) trivial ?_
    ·intro q hq
     obtain rfl:q=0:=by have:q<1:=hq;omega
     exact .refl _
    repeat'(first|refine vcI ?_|refine And.intro ?_ ?_|(intro hq;(try simp at hq);(try(exfalso;omega));(try(revert hq;intro))))
    rw [placedR_bad (e:=1) (by unfold chkE;rw [if_pos HO,if_neg fun h=>by rw [List.any_eq_true] at hany;obtain ⟨x,x1,x2⟩:=hany;rw [h.2 x x1] at x2;cases x2]) (by decide)]
    exact .refl _
  ·rw [placedR_bad (e:=1) (by unfold chkE;rw [if_pos HO,if_neg fun h=>absurd h.1 (by assumption)]) (by decide)]
   exact .refl _
 ·rw [openR_bad HO] at ho
  refine CallS.frozen (.tup [.nilp,.int .i64 210]) ho (plainAll rfl) ?_
  repeat'(first|refine vcI ?_|refine And.intro ?_ ?_|(intro hq;(try simp at hq);(try(exfalso;omega));(try(revert hq;intro))))
  rw [placedR_bad (e:=210) (by unfold chkE;rw [if_neg HO]) (by decide)]
  exact .refl _
end Go.Ab
namespace Go.Ab
open Go.Proofs
set_option maxRecDepth 100000
set_option maxHeartbeats 4000000

theorem Check_spec (o:DO) (l:List Int) (hll:l.length≤1048576) (hf:fewN o≤6000) (hs:∀ l∈o.descs,l.length≤1048576∧∀ f∈l,f.small):CallsF Tryz.prog 22 [.agg (dol o),ints l] (.int .i64 (chkE o l)):=by
 have hp:=placed_spec o l hll hf hs
 refine callsF_ofS mx Tryz.call22 Tryz.func22 rfl Tryz.ntmps22 Tryz.results22 (by kernel_rfl) (by simp) fun lo=>?_
 repeat'(first|refine vcI ?_|refine And.intro ?_ ?_|(intro hq;(try simp at hq);(try(exfalso;omega));(try(revert hq;intro))))
 rw [mk_opt]
 by_cases h:chkE o l=0
 ·rw [placedR_ok h] at hp
  refine CallS.frozen _ hp (plainAll rfl) ?_
  repeat'(first|refine vcI ?_|refine And.intro ?_ ?_|(intro hq;(try simp at hq);(try(exfalso;omega));(try(revert hq;intro))))
  rw [h];exact .refl _
 ·rw [placedR_bad rfl h] at hp
  refine CallS.frozen _ hp (plainAll rfl) ?_
  repeat'(first|refine vcI ?_|refine And.intro ?_ ?_|(intro hq;(try simp at hq);(try(exfalso;omega));(try(revert hq;intro))))
  exact .refl _

structure RightP (o:DO) (l:List Int):Prop where
 op:OpenP o
 len:(l.length:Int)=o.regs
 inn:∀ r,r<l.length→0≤l.getD r 0∧l.getD r 0<(l.length:Int)
 live:∀ r,LiveP o 0 r→l.getD r 0=r
 apart:∀ a b,ColP o a b→a≠b→l.getD a 0≠l.getD b 0
theorem chkE_zero {o:DO} {l:List Int} (hf:fewN o≤6000) (hs:∀ l∈o.descs,l.length≤1048576∧∀ f∈l,f.small):chkE o l=0↔RightP o l:=by
 have key:∀ (HO:OpenP o),PlacesP o l↔(∀ r,LiveP o 0 r→l.getD r 0=r)∧∀ a b,ColP o a b→a≠b→l.getD a 0≠l.getD b 0:=fun HO=>by
  have H:=HO.fl hf hs
  have hr:=H.hr
  constructor
  ·intro h
   refine ⟨fun r hl=>?_,fun a b hc hab=>?_⟩
   ·have h1:=(hl.lt H).1
    exact h.live (r:Int) ((mem_liveL (by omega)).2 hl)
   ·rcases Nat.lt_or_gt_of_ne hab with h1|h1
    ·exact h.apart ((a:Int),(b:Int)) ((mem_collL H HO.r1).2 ⟨a,b,rfl,h1,hc⟩)
    ·exact fun e=>h.apart ((b:Int),(a:Int)) ((mem_collL H HO.r1).2 ⟨b,a,rfl,h1,hc.symm⟩) e.symm
  ·rintro ⟨h1,h2⟩
   refine ⟨fun r hr=>?_,fun p hp=>?_⟩
   ·obtain ⟨q,q1,q2,rfl⟩:=mem_listW.1 hr
    exact h1 q ((bit_wordsP _ _).1 q2)
   ·obtain ⟨a,b,rfl,h3,h4⟩:=(mem_collL H HO.r1).1 hp
    exact h2 a b h4 (by omega)
 unfold chkE
 constructor
 ·intro h
  by_cases HO:OpenP o
  ·rw [if_pos HO] at h
   by_cases hc:(l.length:Int)=o.regs∧∀ p∈l,regB o p=true
   ·rw [if_pos hc] at h
    by_cases hP:PlacesP o l
    ·obtain ⟨k1,k2⟩:=(key HO).1 hP
     refine ⟨HO,hc.1,fun r hr=>?_,k1,k2⟩
     have h5:=hc.2 (l.getD r 0) (by rw [List.getD_eq_getElem?_getD];exact getD_mem _ hr)
     simp only [regB,Bool.and_eq_true,decide_eq_true_eq] at h5
     omega
    ·rw [if_neg hP] at h;omega
   ·rw [if_neg hc] at h;omega
  ·rw [if_neg HO] at h;omega
 ·intro h
  have hin:∀ p∈l,regB o p=true:=fun p hp=>by
   obtain ⟨i,hi,rfl⟩:=List.mem_iff_getElem.1 hp
   have h5:=h.inn i hi
   have e:l.getD i 0=l[i]:=by simp [List.getD_eq_getElem?_getD,hi]
   rw [e] at h5
   have:=h.len
   simp only [regB,Bool.and_eq_true,decide_eq_true_eq]
   omega
  rw [if_pos h.op,if_pos ⟨h.len,hin⟩,if_pos ((key h.op).2 ⟨h.live,h.apart⟩)]

def Agree (o:DO) (l one two:List Int) (k:Nat):Prop:=∀ r,LiveP o k r→one.getD r 0=two.getD (l.getD r 0).toNat 0
theorem getD_set {l:List Int} {i j:Nat} {v:Int}:(l.set i v).getD j 0=if j=i∧i<l.length then v else l.getD j 0:=by
 simp only [List.getD_eq_getElem?_getD,List.getElem?_set]
 by_cases e:i=j
 ·subst e
  by_cases h:i<l.length
  ·simp [h]
  ·simp [h]
 ·rw [if_neg e,if_neg (fun h=>e h.1.symm)]
theorem Agree.next {o:DO} {l one two:List Int} (H:FlH o) (hP:RightP o l) {k:Nat} (hk:k<o.irs.length) {k':Int} (hg:k'∈goesL (o.irs.getD k default) k) (h:Agree o l one two k) (hs:setsB (o.irs.getD k default).op≠true):Agree o l one two k'.toNat:=fun r hl=>by
 have hgo:=H.go k hk k' hg
 exact h r (.step hk (k:=k'.toNat) (by rw [Int.toNat_of_nonneg hgo.1];exact hg) hl fun h1=>hs h1.1)
theorem Agree.set {o:DO} {l one two:List Int} (H:FlH o) (hP:RightP o l) (h1:one.length=l.length) (h2:two.length=l.length) {k:Nat} (hk:k<o.irs.length) {k':Int} (hg:k'∈goesL (o.irs.getD k default) k) (h:Agree o l one two k) (hs:setsB (o.irs.getD k default).op=true) (v:Int) :
  Agree o l (one.set (o.irs.getD k default).d.toNat v) (two.set (l.getD (o.irs.getD k default).d.toNat 0).toNat v) k'.toNat:=fun r hl=>by
 have hgo:=H.go k hk k' hg
 have hd:=H.dR hk hs
 have hlen:=hP.len
 have hrl:=(hl.lt H).1
 obtain ⟨d,hdd⟩:∃ d:Nat,(o.irs.getD k default).d=(d:Int):=⟨_,(Int.toNat_of_nonneg hd.1).symm⟩
 rw [hdd,Int.toNat_natCast]
 have hdl:d<l.length:=by omega
 have hi1:=hP.inn d hdl
 have hi2:=hP.inn r (by omega)
 rw [getD_set,getD_set]
 by_cases e:r=d
 ·subst e
  rw [if_pos ⟨rfl,by omega⟩,if_pos ⟨rfl,by omega⟩]
 ·rw [if_neg (fun h=>e h.1),if_neg]
  ·exact h r (.step hk (k:=k'.toNat) (by rw [Int.toNat_of_nonneg hgo.1];exact hg) hl fun h3=>by have:=h3.2;omega)
  ·rintro ⟨h3,h4⟩
   refine hP.apart r d ⟨k,hk,.inr ⟨hs,.inr ⟨by rw [hdd],.inr ⟨k',hg,hl⟩⟩⟩⟩ e ?_
   omega
end Go.Ab
namespace Go.Ab
open Go.Proofs
set_option maxRecDepth 100000
set_option maxHeartbeats 1000000

def FirstP (s:Nat→Nat) (p:Nat):Prop:=bitW s p=false∧∀ q,q<p→bitW s q=true
theorem FirstP.eq {s:Nat→Nat} {p q:Nat} (h:FirstP s p) (k:FirstP s q):p=q:=by
 rcases Nat.lt_trichotomy p q with e|e|e
 ·have:=k.2 p e;rw [h.1] at this;cases this
 ·exact e
 ·have:=h.2 q e;rw [k.1] at this;cases this
open Classical in
noncomputable def firstW (s:Nat→Nat):Nat:=if h:∃ p,FirstP s p then Classical.choose h else 0
theorem FirstP.first {s:Nat→Nat} {p:Nat} (h:FirstP s p):firstW s=p:=by
 have he:∃ p,FirstP s p:=⟨p,h⟩
 unfold firstW
 rw [dif_pos he]
 exact (Classical.choose_spec he).eq h

def takeS (l:List Int) (r:Int) (s:Nat→Nat) (k:Int):Nat→Nat:=if k≠r∧0≤l.getD k.toNat 0 then setW s (l.getD k.toNat 0).toNat else s
def takenW (l:List Int) (r:Int) (ks:List Int):Nat→Nat:=ks.foldl (takeS l r) fun _=>0
theorem takenW_snoc (l:List Int) (r:Int) (ks:List Int) (k:Int):takenW l r (ks++[k])=takeS l r (takenW l r ks) k:=by
 unfold takenW;rw [List.foldl_append];rfl
theorem takeS_lt {l:List Int} {r:Int} {s:Nat→Nat} (h:∀ o,s o<18446744073709551616) (k:Int):∀ o,takeS l r s k o<18446744073709551616:=by
 unfold takeS
 split
 ·exact setW_lt h _
 ·exact h
theorem foldl_inv {α β:Type} {P:β→Prop} {f:β→α→β} (hf:∀ b a,P b→P (f b a)) (l:List α) {b:β} (h:P b):P (l.foldl f b):=by
 induction l generalizing b with
 | nil=>exact h
 | cons a l ih=>exact ih (hf _ _ h)
theorem takenW_lt (l:List Int) (r:Int) (ks:List Int):∀ o,takenW l r ks o<18446744073709551616 :=
 foldl_inv (P:=fun s:Nat→Nat=>∀ o,s o<18446744073709551616) (fun _ k h=>takeS_lt h k) ks (fun _=>by decide)
theorem bit_takenW (l:List Int) (r:Int) (ks:List Int) (q:Nat):bitW (takenW l r ks) q=true↔∃ k∈ks,k≠r∧l.getD k.toNat 0=q:=by
 have key:∀ s,bitW (ks.foldl (takeS l r) s) q=true↔bitW s q=true∨∃ k∈ks,k≠r∧l.getD k.toNat 0=q:=by
  induction ks with
  | nil=>simp
  | cons k ks ih =>
   intro s
   rw [List.foldl_cons,ih]
   simp only [List.mem_cons,exists_eq_or_imp]
   have e:bitW (takeS l r s k) q=true↔bitW s q=true∨(k≠r∧l.getD k.toNat 0=q):=by
    unfold takeS
    split
    ·rename_i h
     rw [bit_setW,Bool.or_eq_true,decide_eq_true_eq]
     refine or_congr Iff.rfl ⟨fun e=>⟨h.1,by omega⟩,fun e=>by omega⟩
    ·rename_i h
     refine ⟨.inl,fun h2=>h2.elim id fun h3=>absurd ⟨h3.1,by omega⟩ h⟩
   rw [e,or_assoc]
 unfold takenW
 rw [key]
 simp [bitW]

theorem nodup_le {α:Type} [DecidableEq α]:∀ {l m:List α},l.Nodup→(∀ x∈l,x∈m)→l.length≤m.length
 | [],_,_,_=>Nat.zero_le _
 | a::l,m,h,hs=>by
  have hm:=hs a (by simp)
  have h1:=List.nodup_cons.1 h
  have:=nodup_le (m:=m.erase a) h1.2 fun x hx=>(List.mem_erase_of_ne (fun e=>by subst e;exact h1.1 hx)).2 (hs x (List.mem_cons_of_mem _ hx))
  rw [List.length_erase_of_mem hm] at this
  have:=List.length_pos_of_mem hm
  simp only [List.length_cons]
  omega
theorem taken_few {l:List Int} {r n p:Nat} {ks:List Int} (hr:r<n) (hk:∀ k∈ks,0≤k∧k<(n:Int)) (h:∀ q,q<p→bitW (takenW l r ks) q=true):p<n:=by
 have h1:=nodup_le (l:=(List.range p).map fun (q:Nat)=>(q:Int)) (m:=((List.range n).erase r).map fun k=>l.getD k 0)
  (by rw [List.Nodup,List.pairwise_map];exact List.nodup_range.imp fun h e=>h (by omega)) fun x hx=>by
  obtain ⟨q,hq,rfl⟩:=List.mem_map.1 hx
  obtain ⟨k,k1,k2,k3⟩:=(bit_takenW _ _ _ _).1 (h q (List.mem_range.1 hq))
  obtain ⟨k4,k5⟩:=hk k k1
  exact List.mem_map.2 ⟨k.toNat,(List.mem_erase_of_ne (by omega)).2 (List.mem_range.2 (by omega)),k3⟩
 rw [List.length_map,List.length_map,List.length_range,List.length_erase_of_mem (List.mem_range.2 hr),List.length_range] at h1
 omega

noncomputable def plc0 (o:DO):List Int:=(liveL o 0).foldl (fun l r=>l.set r.toNat r) (List.replicate o.regs.toNat (-1))
noncomputable def plcI (o:DO) (l:List Int) (r:Nat):List Int:=if 0≤l.getD r 0 then l else l.set r (firstW (takenW l r (listW (colT o r) 250)))
noncomputable def plcK (o:DO):Nat→List Int
 | 0=>plc0 o
 | k+1=>plcI o (plcK o k) k
noncomputable def plcL (o:DO):List Int:=plcK o o.regs.toNat

structure PlcP (o:DO) (k:Nat) (l:List Int):Prop where
 len:l.length=o.regs.toNat
 val:∀ a,a<l.length→l.getD a 0 = -1∨(0≤l.getD a 0∧l.getD a 0<(l.length:Int))
 got:∀ a,a<k→0≤l.getD a 0
 live:∀ r,LiveP o 0 r→l.getD r 0=r
 apart:∀ a b,ColP o a b→a≠b→0≤l.getD a 0→l.getD a 0≠l.getD b 0
theorem getD_foldset (ls:List Int) (hn:∀ r∈ls,0≤r) (l:List Int) (a:Nat):(ls.foldl (fun l r=>l.set r.toNat r) l).length=l.length∧(ls.foldl (fun l r=>l.set r.toNat r) l).getD a 0=if (a:Int)∈ls∧a<l.length then (a:Int) else l.getD a 0:=by
 induction ls generalizing l with
 | nil=>simp
 | cons r ls ih =>
  have h0:=hn r (by simp)
  obtain ⟨i1,i2⟩:=ih (fun x hx=>hn x (List.mem_cons_of_mem _ hx)) (l.set r.toNat r)
  rw [List.foldl_cons,i1,i2,List.length_set,getD_set]
  refine ⟨rfl,?_⟩
  simp only [List.mem_cons]
  by_cases hm:(a:Int)∈ls∧a<l.length
  ·rw [if_pos hm,if_pos ⟨.inr hm.1,hm.2⟩]
  ·rw [if_neg hm]
   by_cases e:a=r.toNat∧r.toNat<l.length
   ·rw [if_pos e,if_pos ⟨.inl (by omega),by omega⟩];omega
   ·rw [if_neg e,if_neg]
    rintro ⟨h1|h1,h2⟩
    ·exact e ⟨by omega,by omega⟩
    ·exact hm ⟨h1,h2⟩
theorem rep_get {n a:Nat} (h:a<n):(List.replicate n (-1:Int)).getD a 0 = -1:=by
 rw [List.getD_eq_getElem?_getD,List.getElem?_replicate,if_pos h];rfl
theorem plc0_P {o:DO} (H:FlH o):PlcP o 0 (plc0 o):=by
 have hlt:=list_lt H 0
 have hr:=H.hr
 have G:=fun a=>getD_foldset (liveL o 0) (fun r hr=>(hlt r hr).1) (List.replicate o.regs.toNat (-1)) a
 simp only [List.length_replicate] at G
 have len:(plc0 o).length=o.regs.toNat:=(G 0).1
 have hm:∀ a:Nat,((a:Int)∈liveL o 0∧a<o.regs.toNat)↔LiveP o 0 a:=fun a=>by
  constructor
  ·rintro ⟨h1,h2⟩;exact (mem_liveL (by omega)).1 h1
  ·intro h;have:=(h.lt H).1;exact ⟨(mem_liveL (by omega)).2 h,by omega⟩
 have g:∀ a,a<o.regs.toNat→(LiveP o 0 a∧(plc0 o).getD a 0=a)∨(¬ LiveP o 0 a∧(plc0 o).getD a 0 = -1):=fun a ha=>by
  have h1:(plc0 o).getD a 0=_:=(G a).2
  by_cases h:(a:Int)∈liveL o 0∧a<o.regs.toNat
  ·rw [if_pos h] at h1;exact .inl ⟨(hm a).1 h,h1⟩
  ·rw [if_neg h,rep_get ha] at h1;exact .inr ⟨fun k=>h ((hm a).2 k),h1⟩
 refine ⟨len,fun a ha=>?_,fun a ha=>by omega,fun r h=>?_,fun a b hc hab h0=>?_⟩
 ·rw [len] at ha ⊢
  rcases g a ha with ⟨_,h⟩|⟨_,h⟩
  ·exact .inr (by omega)
  ·exact .inl h
 ·have:=(h.lt H).1
  rcases g r (by omega) with ⟨_,h1⟩|⟨h1,_⟩
  ·exact h1
  ·exact absurd h h1
 ·have:=hc.lt H
  rcases g a (by omega) with ⟨_,h1⟩|⟨_,h1⟩ <;> rcases g b (by omega) with ⟨_,h2⟩|⟨_,h2⟩ <;> omega
theorem col_nn {o:DO} (H:FlH o) {r:Nat} (hr:r<250):∀ k∈listW (colT o r) 250,0≤k∧k<((o.regs.toNat:Nat):Int):=fun k hk=>by
 have h1:=col_lt H hr hk
 have h2:=(listW_nn k hk).1
 omega
theorem plcI_P {o:DO} (H:FlH o) {k:Nat} {l:List Int} (hk:k<o.regs.toNat) (hp:PlcP o k l) {p:Nat} (hf:FirstP (takenW l k (listW (colT o k) 250)) p) (hn:l.getD k 0<0):PlcP o (k+1) (l.set k p):=by
 have hr:=H.hr
 have len:=hp.len
 have hpn:=taken_few hk (col_nn H (by omega)) hf.2
 have hl1:l.getD k 0 = -1:=by rcases hp.val k (by omega) with h|h <;> omega
 have hnot:∀ b,ColP o k b→b≠k→l.getD b 0≠(p:Int):=fun b hc hb e=>by
  have h1:bitW (takenW l k (listW (colT o k) 250)) p=true:=(bit_takenW _ _ _ _).2 ⟨(b:Int),(mem_colT H (by omega)).2 ⟨b,rfl,hc⟩,by omega,e⟩
  rw [hf.1] at h1;cases h1
 refine ⟨by rw [List.length_set];exact len,fun a ha=>?_,fun a ha=>?_,fun r h=>?_,fun a b hc hab h0=>?_⟩
 ·rw [List.length_set] at ha ⊢
  rw [getD_set]
  by_cases e:a=k∧k<l.length
  ·rw [if_pos e];exact .inr (by omega)
  ·rw [if_neg e];exact hp.val a ha
 ·rw [getD_set]
  by_cases e:a=k∧k<l.length
  ·rw [if_pos e];omega
  ·rw [if_neg e];exact hp.got a (by omega)
 ·rw [getD_set,if_neg]
  ·exact hp.live r h
  ·rintro ⟨rfl,_⟩;have:=hp.live r h;omega
 ·rw [getD_set] at h0 ⊢
  rw [getD_set]
  by_cases e:a=k
  ·subst e
   rw [if_pos ⟨rfl,by omega⟩,if_neg fun h=>hab h.1.symm]
   exact fun e=>hnot b hc (Ne.symm hab) e.symm
  ·rw [if_neg fun h=>e h.1] at h0 ⊢
   by_cases e2:b=k
   ·subst e2
    rw [if_pos ⟨rfl,by omega⟩]
    exact hnot a hc.symm hab
   ·rw [if_neg fun h=>e2 h.1]
    exact hp.apart a b hc hab h0
theorem plcI_keep {o:DO} {k:Nat} {l:List Int} (hp:PlcP o k l) (hn:0≤l.getD k 0):PlcP o (k+1) l :=
 ⟨hp.len,hp.val,fun a ha=>by rcases (by omega:a<k∨a=k) with h|rfl;exact hp.got a h;exact hn,hp.live,hp.apart⟩
theorem exists_first {s:Nat→Nat}:∀ n,(∃ q,q<n∧bitW s q=false)→∃ p,FirstP s p
 | 0,h=>by obtain ⟨q,h,_⟩:=h;omega
 | n+1,h=>by
  by_cases hc:∃ q,q<n∧bitW s q=false
  ·exact exists_first n hc
  ·obtain ⟨q,q1,q2⟩:=h
   have hq:q=n:=by
    rcases (by omega:q<n∨q=n) with h|h
    ·exact absurd ⟨q,h,q2⟩ hc
    ·exact h
   subst hq
   exact ⟨q,q2,fun x hx=>by cases hb:bitW s x;exact absurd ⟨x,hx,hb⟩ hc;rfl⟩
theorem taken_first {o:DO} (H:FlH o) {k:Nat} {l:List Int} (hk:k<o.regs.toNat):∃ p,FirstP (takenW l k (listW (colT o k) 250)) p:=by
 have hr:=H.hr
 refine exists_first o.regs.toNat (Classical.byContradiction fun h=>?_)
 have:=taken_few (l:=l) (p:=o.regs.toNat) hk (col_nn H (r:=k) (by omega)) fun q hq=>by
  cases hb:bitW (takenW l k (listW (colT o k) 250)) q
  ·exact absurd ⟨q,hq,hb⟩ h
  ·rfl
 omega
theorem plcK_P {o:DO} (H:FlH o):∀ k,k≤o.regs.toNat→PlcP o k (plcK o k)
 | 0,_=>plc0_P H
 | k+1,hk=>by
  have ih:=plcK_P H k (by omega)
  unfold plcK plcI
  split
  ·rename_i h;exact plcI_keep ih h
  ·rename_i h
   obtain ⟨p,hp⟩:=taken_first (l:=plcK o k) H (show k<o.regs.toNat by omega)
   rw [hp.first]
   exact plcI_P H (by omega) ih hp (by omega)
theorem plcL_right {o:DO} (HO:OpenP o) (hf:fewN o≤6000) (hs:∀ l∈o.descs,l.length≤1048576∧∀ f∈l,f.small):RightP o (plcL o):=by
 have H:=HO.fl hf hs
 have h:=plcK_P H o.regs.toNat (Nat.le_refl _)
 have h1:=HO.r1
 refine ⟨HO,?_,fun r hr=>?_,h.live,fun a b hc hab=>?_⟩
 ·show ((plcK o o.regs.toNat).length:Int)=_
  rw [h.len];omega
 ·rcases h.val r hr with h2|h2
  ·have:=h.got r (by have:=h.len;show r<_;unfold plcL at hr;omega)
   omega
  ·exact h2
 ·have:=hc.lt H
  exact h.apart a b hc hab (h.got a (by omega))
end Go.Ab
namespace Go.Ab
open Go.Proofs
set_option maxRecDepth 100000
set_option maxHeartbeats 4000000

theorem Mul64_spec (n:Nat) (hn:n≤250):CallsF Tryz.prog 119 [.int .u64 1,.int .u64 n] (.tup [.int .u64 0,.int .u64 n]):=by
 refine callsF_ofS mx Tryz.call119 Tryz.func119 rfl Tryz.ntmps119 Tryz.results119 (by kernel_rfl) (by simp) fun lo=>?_
 repeat'(first|refine vcI ?_|refine And.intro ?_ ?_|(intro hq;(try simp at hq);(try(exfalso;omega));(try(revert hq;intro))))
 refine NEq.tup2 (NEq.of_eq (congrArg (PV.int .u64) ?_)) (NEq.of_eq (congrArg (PV.int .u64) ?_))
 ·revert n;decide +kernel
 ·rw [Int.one_mul];exact wrapU (by omega) (by omega)
theorem Mul_spec (n:Nat) (hn:n≤250):CallsF Tryz.prog 86 [.int .u64 1,.int .u64 n] (.tup [.int .u64 0,.int .u64 n]):=by
 have h:=Mul64_spec n hn
 refine callsF_ofS mx Tryz.call86 Tryz.func86 rfl Tryz.ntmps86 Tryz.results86 (by kernel_rfl) (by simp) fun lo=>?_
 repeat'(first|refine vcI ?_|refine And.intro ?_ ?_|(intro hq;(try simp at hq);(try(exfalso;omega));(try(revert hq;intro))))
 refine CallS.frozen _ h (plainAll rfl) ?_
 repeat'(first|refine vcI ?_|refine And.intro ?_ ?_|(intro hq;(try simp at hq);(try(exfalso;omega));(try(revert hq;intro))))
 exact NEq.tup2 (.refl _) (.refl _)
def rptL (x:Int) (n m:Nat):List Int:=List.replicate m x++List.replicate (n - m) 0
theorem rptL_len (x:Int) {n m:Nat} (h:m≤n):(rptL x n m).length=n:=by unfold rptL;simp;omega
theorem rptL_get (x:Int) (n m i:Nat):(rptL x n m).getD i 0=if i<m then x else 0:=by
 unfold rptL
 rw [List.getD_eq_getElem?_getD,List.getElem?_append]
 by_cases h:i<m
 ·simp [h]
 ·rw [if_neg (by simpa using h),if_neg h]
  by_cases h2:i - m<n - m
  ·simp [h2]
  ·rw [List.getElem?_eq_none (by simp;omega)];rfl
theorem Repeat_spec (x:Int) (n:Nat) (h1:1≤n) (hn:n≤250):CallsO Tryz.prog 40 [ints [x],.int .i64 n] (oints (List.replicate n x)) (fun id ver => .ref id ver [] 1 0 (List.replicate n x).length):=by
 have hm:=Mul_spec n hn
 have hw:IntKind.u64.wrap (n:Int)=(n:Int):=wrapU (by omega) (by omega)
 have hw2:IntKind.i64.wrap (n:Int)=(n:Int):=wrapI (by omega)
 have hw3:IntKind.u64.wrap ((([x]:List Int).length:Nat):Int)=1:=by show IntKind.u64.wrap 1=1;decide
 refine callsO_ofS mx Tryz.call40 Tryz.func40 rfl Tryz.ntmps40 Tryz.results40 (by kernel_rfl) (by simp) fun lo=>?_
 repeat'(first|refine vcI ?_|refine And.intro ?_ ?_|(intro hq;(try simp at hq);(try(exfalso;omega));(try(revert hq;intro))))
 refine CallS.plain [.int .u64 1,.int .u64 n] _ hm (LeL.cons (NEq.of_eq (congrArg (PV.int .u64) hw3)) (LeL.cons (NEq.of_eq (congrArg (PV.int .u64) hw)) LeL.nil)) (fun c hc=>by rcases List.mem_cons.1 hc with rfl|hc;exact trivial;rw [List.mem_singleton] at hc;subst hc;exact trivial) ?_
 repeat'(first|refine vcI ?_|refine And.intro ?_ ?_|(intro hq;(try simp at hq);(try(exfalso;omega));(try(revert hq;intro))))
 rw [hw2]
 refine Exists.intro (oints (List.replicate n 0)) (And.intro ?_ (And.intro (by first|rfl|exact shape_prs (by simp)|exact shape_ints (by simp)|exact shape_odvs (by simp)) ?_))
 ·refine NEq.owns rfl (by simp) fun i o hi ho=>?_
  rw [show (List.replicate n (0:Int)).getD i 0=0 by rw [List.getD_eq_getElem?_getD];simp [List.getElem?_replicate];split <;> rfl]
  obtain rfl:o=0:=by omega
  exact .refl _
 have hlr:(List.replicate n (0:Int)).length=n:=by simp
 repeat'(first|refine vcI ?_|refine And.intro ?_ ?_|(intro hq;(try simp at hq);(try(exfalso;omega));(try(revert hq;intro))))
 ·rename_i i hi o ho
  rfl
 ·rfl
 refine Exists.intro (oints (rptL x n 1)) (And.intro ?_ (And.intro ?_ ?_))
 ·refine NEq.owns rfl (by rw [hlr,rptL_len x h1]) fun i o hi ho=>?_
  rw [rptL_get]
  have hz:(List.replicate n (0:Int)).getD i 0=0:=by rw [List.getD_eq_getElem?_getD];simp [List.getElem?_replicate];split <;> rfl
  have hmin:[x].length.min ((n:Int).toNat - 0)=1:=by show min 1 _=1;omega
  dsimp only
  rw [hz,hmin]
  by_cases h:i<1
  ·obtain rfl:i=0:=by omega
   rw [if_pos ⟨by omega,by omega⟩,if_pos (by omega)];exact .refl _
  ·rw [if_neg (by omega),if_neg h];exact .refl _
 ·exact shape_ints (by rw [hlr,rptL_len x h1])
 rw [show [x].length.min ((n:Int).toNat - 0)=1 by show min 1 _=1;omega]
 repeat'(first|refine vcI ?_|refine And.intro ?_ ?_|(intro hq;(try simp at hq);(try(exfalso;omega));(try(revert hq;intro))))
 refine loopS2 mx (by decide) (by kernel_rfl) (fun (m v7:Nat)=>1≤m∧m≤n) (fun m v7=>[(8,.int .i64 m),(7,.ref (1,30) v7 [] 1 0 n)]) (fun m v7=>[((1,30),⟨v7,oints (rptL x n m)⟩)]) (fun m v7=>n - m) 1 _ ⟨by omega,by omega⟩ ⟨by ((repeat' apply And.intro) <;> (first|exact True.intro|exact NEq.refl _|(refine NEq.int ?_;first|exact rfl|omega|(rw [wrapI (by omega)];first|exact rfl|omega)))),⟨⟨rfl,.refl _⟩,trivial⟩,.nil⟩ ?_
 rintro m v7 nv ⟨hm1,hm2⟩
 have hln:=rptL_len x hm2
 have hmm:(0+(m:Int).toNat - (0+0)).min (0+(n - 0) - (0+(m:Int).toNat))=min m (n - m):=by show min _ _=_;omega
 have hwm:IntKind.i64.wrap ((m:Int)+((0+(m:Int).toNat - (0+0)).min (0+(n - 0) - (0+(m:Int).toNat)):Nat))=((m+min m (n - m):Nat):Int):=by rw [hmm];exact wrapI (by omega)
 repeat'(first|refine vcI ?_|refine And.intro ?_ ?_|(intro hq;(try simp at hq);(try(exfalso;omega));(try(revert hq;intro))))
 ·rfl
 ·rw [hwm]
  refine Exists.intro (m+min m (n - m),v7) ⟨⟨by dsimp only;omega,by dsimp only;omega⟩,(by first|omega|(dsimp only;omega)),⟨by ((repeat' apply And.intro) <;> (first|exact True.intro|exact NEq.refl _|(refine NEq.int ?_;first|exact rfl|omega|(rw [wrapI (by omega)];first|exact rfl|omega)))),⟨⟨rfl,?_⟩,trivial⟩,.nil⟩⟩
  refine NEq.owns rfl (by rw [hln,rptL_len x (by omega)]) fun i o hi ho=>?_
  rw [rptL_get]
  dsimp only
  rw [hmm]
  by_cases hc:m≤i∧i<m+min m (n - m)
  ·rw [if_pos (by omega),if_pos (by omega)]
   show NEq (.int .i64 ((rptL x n m).getD _ 0)) _
   rw [rptL_get,if_pos (by omega)];exact .refl _
  ·rw [if_neg (by omega),rptL_get]
   by_cases h:i<m
   ·rw [if_pos h,if_pos (by omega)];exact .refl _
   ·rw [if_neg h,if_neg (by omega)];exact .refl _
 ·obtain rfl:m=n:=by omega
  rw [show rptL x m m=List.replicate m x by simp [rptL]]
  exact keepS_ints rfl (by simp)
end Go.Ab
namespace Go.Ab
open Go.Proofs
set_option maxRecDepth 100000
set_option maxHeartbeats 4000000

theorem setPut11_spec (ws:Nat→Nat) (hw:∀ o,ws o<18446744073709551616) (r:Nat) (hr:r<256) (v nv:Nat) (S:Hp) (hS:Above 2 S) :
  CallsA Tryz.prog 42 [.ptr (1,11) v [] 0 0,.int .i64 r] ([((1,11),⟨v,.obox 4 (setC ws)⟩)]++S) nv
   fun x hp' nv'=>∃ L',hp'=L'++S∧(x = .tup []∧L'=[((1,11),⟨v,.obox 4 (setC (setW ws r))⟩)]):=by
 have e1:=wrap64_div (r:=r) (by omega)
 have e2:=tmod64 r
 refine callsA_ofS (lv:=2) (by decide) mx Tryz.call42 Tryz.func42 rfl Tryz.ntmps42 Tryz.results42 (by kernel_rfl) (by simp) fun lo=>?_
 repeat'(first|refine vcI ?_|refine And.intro ?_ ?_|(intro hq;(try simp at hq);(try(exfalso;omega));(try(revert hq;intro))))
 ·rw [cW,e1];simp;omega
 ·rw [cW];decide
 ·show 0+(IntKind.i64.wrap ((r:Int).tdiv 64)).toNat*Tryz.prog.cellsOf 66+1≤4
  rw [cW,e1];simp;omega
 refine Exists.intro (PV.tup []) (Exists.intro _ (And.intro ⟨rfl,rfl⟩ (And.intro (.refl _) (And.intro ⟨⟨rfl,.obox fun o ho=>?_⟩,trivial⟩ (.names rfl)))))
 show NEq (if 0+(IntKind.i64.wrap ((r:Int).tdiv 64)).toNat*Tryz.prog.cellsOf 66≤o∧o<0+(IntKind.i64.wrap ((r:Int).tdiv 64)).toNat*Tryz.prog.cellsOf 66+1 then List.getD [PV.int .u64 (IntKind.u64.wrap ((BitVec.ofInt IntKind.u64.bits (ws (0+(IntKind.i64.wrap ((r:Int).tdiv 64)).toNat*Tryz.prog.cellsOf 66):Int) ||| BitVec.ofInt IntKind.u64.bits (IntKind.u64.wrap (1*2 ^ min ((r:Int).tmod 64).toNat IntKind.u64.bits))).toNat:Int))] (o - (0+(IntKind.i64.wrap ((r:Int).tdiv 64)).toNat*Tryz.prog.cellsOf 66)) .undef else .int .u64 (ws o)) (.int .u64 (setW ws r o))
 rw [cW,e1,e2]
 simp only [Int.toNat_natCast,Nat.zero_add,Nat.mul_one]
 rw [or_at (hw _) (Nat.mod_lt _ (by decide))]
 by_cases c:o=r / 64
 ·subst c
  rw [if_pos (by omega),Nat.sub_self]
  simp only [setW,if_true]
  exact .refl _
 ·rw [if_neg (by omega)]
  simp only [setW,if_neg c]
  exact .refl _

theorem put_setI {l:List Int} {a b i:Nat} {c:PV} {v:Int} (hi:i<l.length) (hb:b<1) (hc:NEq c (.int .i64 v)):NEq (if a=i∧0≤b∧b<0+1 then List.getD [c] (b - 0) .undef else .int .i64 (l.getD a 0)) (.int .i64 ((l.set i v).getD a 0)):=by
 obtain rfl:b=0:=by omega
 rw [getD_set]
 by_cases e:a=i
 ·rw [if_pos ⟨e,by omega,by omega⟩,if_pos ⟨e,hi⟩];exact hc
 ·rw [if_neg (fun h=>e h.1),if_neg (fun h=>e h.1)];exact .refl _
theorem view_at {hp:Hp} {r:RId} {v k n i:Nat} {W:Nat→Nat→Nat} (h:lkH hp r=some ⟨v,owW n W⟩):NEq (view (k+2) hp (.ptr r v [] i 0)) (.fptr 4 (setC (W i)) 0):=by
 rw [view,h]
 simp only [if_true,getAt,owW]
 exact NEq.fptr fun o ho => .refl _
noncomputable def plc0K (o:DO) (k:Nat):List Int:=((liveL o 0).take k).foldl (fun l r=>l.set r.toNat r) (List.replicate o.regs.toNat (-1))
theorem plc0K_len (o:DO) (k:Nat):(plc0K o k).length=o.regs.toNat:=by
 have h:=(getD_foldset ((liveL o 0).take k) (fun r hr=>(listW_nn (s:=lvW o 0) (n:=250) r (List.mem_of_mem_take hr)).1) (List.replicate o.regs.toNat (-1)) 0).1
 unfold plc0K
 rw [h];simp
theorem plc0K_succ (o:DO) {k:Nat} (hk:k<(liveL o 0).length):plc0K o (k+1)=(plc0K o k).set ((liveL o 0).getD k 0).toNat ((liveL o 0).getD k 0):=by
 unfold plc0K;rw [take_succD 0 hk,List.foldl_append];rfl
open Classical in
noncomputable def plcE (o:DO):List Int × Int:=if OpenP o then (plcL o,0) else ([],210)
def mem58 (n:Nat) (l:List Int) (W:Nat→Nat→Nat) (v6 v9:Nat):Hp:=[((1,26),⟨v6,oints l⟩),((1,44),⟨v9,owW n W⟩)]
theorem Places_spec (o:DO) (hf:fewN o≤6000) (hs:∀ l∈o.descs,l.length≤1048576∧∀ f∈l,f.small):CallsF Tryz.prog 16 [.agg (dol o)] (ansE (plcE o)):=by
 have ho:=open_spec o hf hs
 refine callsF_ofS mx Tryz.call16 Tryz.func16 rfl Tryz.ntmps16 Tryz.results16 (by kernel_rfl) (by simp) fun lo=>?_
 repeat'(first|refine vcI ?_|refine And.intro ?_ ?_|(intro hq;(try simp at hq);(try(exfalso;omega));(try(revert hq;intro))))
 rw [mk_opt]
 by_cases HO:OpenP o
 ·rw [openR_ok HO] at ho
  refine CallS.frozen (.tup [codeP o (frW o.irs.length fun i=>wordsP (LiveP o i)),.int .i64 0]) ho (plainAll rfl) ?_
  have H:=HO.fl hf hs
  have hrr:=H.hr
  have hr1:=HO.r1
  obtain ⟨n,hn⟩:∃ n:Nat,o.regs=(n:Int):=⟨o.regs.toNat,(Int.toNat_of_nonneg (by omega)).symm⟩
  have hnt:o.regs.toNat=n:=by omega
  have htg:=together_spec o H hr1
  rw [hnt] at htg
  repeat'(first|refine vcI ?_|refine And.intro ?_ ?_|(intro hq;(try simp at hq);(try(exfalso;omega));(try(revert hq;intro))))
  refine Exists.intro (oints [-1]) (And.intro ?_ (And.intro (by first|rfl|exact shape_prs (by simp)|exact shape_ints (by simp)|exact shape_odvs (by simp)) ?_))
  ·exact one_ints _ rfl rfl (.refl _)
  repeat'(first|refine vcI ?_|refine And.intro ?_ ?_|(intro hq;(try simp at hq);(try(exfalso;omega));(try(revert hq;intro))))
  refine CallS.ownInts [ints [-1],.int .i64 n] (List.replicate n (-1)) (Repeat_spec (-1) n (by omega) (by omega)) (LeL.cons (view_ints (k:=7) rfl rfl) (LeL.cons (NEq.of_eq (congrArg (PV.int .i64) hn)) LeL.nil)) ?_
  repeat'(first|refine vcI ?_|refine And.intro ?_ ?_|(intro hq;(try simp at hq);(try(exfalso;omega));(try(revert hq;intro))))
  ·have:=HO.ne;omega
  rw [List.length_replicate]
  refine CallS.ownInts [.fptr 4 (setC (lvW o 0)) 0] (liveL o 0) (setList_spec (lvW o 0) (lvW_lt o 0)) (LeL.cons (.refl _) LeL.nil) ?_
  repeat'(first|refine vcI ?_|refine And.intro ?_ ?_|(intro hq;(try simp at hq);(try(exfalso;omega));(try(revert hq;intro))))
  have hll0:(liveL o 0).length≤250:=listW_len _ _
  have hlt0:∀ j,j<(liveL o 0).length→0≤(liveL o 0).getD j 0∧(liveL o 0).getD j 0<(n:Int):=fun j hj=>by
   have h1:=list_lt H 0 ((liveL o 0).getD j 0) (by rw [List.getD_eq_getElem?_getD];exact getD_mem _ hj)
   omega
  have e0:plc0K o 0=List.replicate n (-1):=by unfold plc0K;rw [hnt];rfl
  refine loopS3 mx (by decide) (by kernel_rfl) (fun (k v32 v6:Nat)=>k≤(liveL o 0).length) (fun k v32 v6=>[(34,.int .i64 k),(33,.int .i64 (liveL o 0).length),(32,.ref (1,32) v32 [] 1 0 (liveL o 0).length),(6,.ref (1,26) v6 [] 1 0 n),(5,.int .i64 0),(4,codeP o (frW o.irs.length fun i=>wordsP (LiveP o i)))]) (fun k v32 v6=>[((1,32),⟨v32,oints (liveL o 0)⟩),((1,26),⟨v6,oints (plc0K o k)⟩)]) (fun k v32 v6=>(liveL o 0).length - k) 0 _ _ (by simp) ⟨by ((repeat' apply And.intro) <;> (first|exact True.intro|exact NEq.refl _|(refine NEq.int ?_;first|exact rfl|omega|(rw [wrapI (by omega)];first|exact rfl|omega)))),⟨⟨rfl,.refl _⟩,⟨rfl,NEq.of_eq (by rw [e0])⟩,trivial⟩,.nil⟩ ?_
  intro k v32 v6 nv hk
  have ek:0+(k:Int).toNat=k:=by omega
  have hwk:IntKind.i64.wrap ((k:Int)+1)=((k+1:Nat):Int):=wrapI (by omega)
  repeat'(first|refine vcI ?_|refine And.intro ?_ ?_|(intro hq;(try simp at hq);(try(exfalso;omega));(try(revert hq;intro))))
  ·rw [ek];exact (hlt0 k (by assumption)).1
  ·rw [ek];have:=(hlt0 k (by assumption)).2;omega
  ·rfl
  ·have hkl:k<(liveL o 0).length:=by assumption
   have hlk:=hlt0 k hkl
   rw [ek]
   refine Exists.intro (oints (plc0K o (k+1))) (And.intro (NEq.owns rfl ((plc0K_len o k).trans (plc0K_len o (k+1)).symm) fun a b ha hb=>?_) (And.intro (shape_ints ((plc0K_len o k).trans (plc0K_len o (k+1)).symm)) ?_))
   ·rw [plc0K_succ o hkl,show 0+((liveL o 0).getD k 0).toNat=((liveL o 0).getD k 0).toNat from Nat.zero_add _]
    exact put_setI (l:=plc0K o k) (i:=((liveL o 0).getD k 0).toNat) (by have:=plc0K_len o k;omega) hb (.refl _)
   repeat'(first|refine vcI ?_|refine And.intro ?_ ?_|(intro hq;(try simp at hq);(try(exfalso;omega));(try(revert hq;intro))))
   exact Exists.intro (k+1,v32,v6) ⟨by dsimp only;omega,(by first|omega|(dsimp only;omega)),⟨by ((repeat' apply And.intro) <;> (first|exact True.intro|exact NEq.refl _|(refine NEq.int ?_;first|exact rfl|omega|(rw [wrapI (by omega)];first|exact rfl|omega)))),⟨⟨rfl,.refl _⟩,⟨rfl,.refl _⟩,trivial⟩,.nil⟩⟩
  obtain rfl:k=(liveL o 0).length:=by omega
  repeat'(first|refine vcI ?_|refine And.intro ?_ ?_|(intro hq;(try simp at hq);(try(exfalso;omega));(try(revert hq;intro))))
  refine CallS.own (owW n (colT o)) (fun id ver => .ref id ver [] 4 0 n) htg (plainAll rfl) ?_
  repeat'(first|refine vcI ?_|refine And.intro ?_ ?_|(intro hq;(try simp at hq);(try(exfalso;omega));(try(revert hq;intro))))
  rw [show plc0K o (liveL o 0).length=plcK o 0 by unfold plc0K plcK plc0;rw [List.take_length]]
  have hP:∀ k,k≤o.regs.toNat→PlcP o k (plcK o k):=fun k hk=>plcK_P H k hk
  have hln:∀ k,k≤n→(plcK o k).length=n:=fun k hk=>by rw [(hP k (by omega)).len,hnt]
  refine loopS3 mx (by decide) (by kernel_rfl) (fun (k v6 v9:Nat)=>k≤n) (fun k v6 v9=>[(47,.int .i64 k),(46,.int .i64 n),(9,.ref (1,44) v9 [] 4 0 n),(6,.ref (1,26) v6 [] 1 0 n),(5,.int .i64 0),(4,codeP o (frW o.irs.length fun i=>wordsP (LiveP o i)))]) (fun k v6 v9=>mem58 n (plcK o k) (colT o) v6 v9) (fun k v6 v9=>n - k) 0 _ _ (by simp) ⟨by ((repeat' apply And.intro) <;> (first|exact True.intro|exact NEq.refl _|(refine NEq.int ?_;first|exact rfl|omega|(rw [wrapI (by omega)];first|exact rfl|omega)))),⟨⟨rfl,.refl _⟩,⟨rfl,.refl _⟩,trivial⟩,.nil⟩ ?_
  intro k v6 v9 nv hk
  have ek:0+(k:Int).toNat=k:=by omega
  have hwk:IntKind.i64.wrap ((k:Int)+1)=((k+1:Nat):Int):=wrapI (by omega)
  have hlk:=hln k hk
  repeat'(first|refine vcI ?_|refine And.intro ?_ ?_|(intro hq;(try simp at hq);(try(exfalso;omega));(try(revert hq;intro))))
  ·have hge:0≤(plcK o k).getD k 0:=by assumption
   have hkn:k<n:=by assumption
   refine Exists.intro (k+1,v6,v9) ⟨by dsimp only;omega,(by first|omega|(dsimp only;omega)),⟨by ((repeat' apply And.intro) <;> (first|exact True.intro|exact NEq.refl _|(refine NEq.int ?_;first|exact rfl|omega|(rw [wrapI (by omega)];first|exact rfl|omega)))),⟨⟨rfl,NEq.of_eq ?_⟩,⟨rfl,.refl _⟩,trivial⟩,.nil⟩⟩
   show oints (plcK o k)=oints (plcI o (plcK o k) k)
   unfold plcI;rw [if_pos hge]
  ·have hlt:(plcK o k).getD k 0<0:=by assumption
   have hkn:k<n:=by assumption
   have hPk:=hP k (by omega)
   refine CallS.ownInts [.fptr 4 (setC (colT o (0+(k:Int).toNat))) 0] (listW (colT o (0+(k:Int).toNat)) 250) (setList_spec _ (togW_lt o _ _)) (LeL.cons (view_at (k:=7) rfl) LeL.nil) ?_
   rw [ek]
   repeat'(first|refine vcI ?_|refine And.intro ?_ ?_|(intro hq;(try simp at hq);(try(exfalso;omega));(try(revert hq;intro))))
   obtain ⟨ks,hks⟩:∃ ks,ks=listW (colT o k) 250:=⟨_,rfl⟩
   have hksl:ks.length≤250:=by rw [hks];exact listW_len _ _
   have hkn2:∀ j,j<ks.length→0≤ks.getD j 0∧ks.getD j 0<(n:Int):=fun j hj=>by
    have h1:=col_nn H (r:=k) (by omega) (ks.getD j 0) (by rw [← hks,List.getD_eq_getElem?_getD];exact getD_mem _ hj)
    omega
   rw [← hks]
   refine loopS5 mx (by decide) (by kernel_rfl) (fun (j v58 v11 v6 v9:Nat)=>j≤ks.length) (fun j v58 v11 v6 v9=>[(60,.int .i64 j),(59,.int .i64 ks.length),(58,.ref (1,58) v58 [] 1 0 ks.length),(10,.int .i64 k),(11,.ptr (1,11) v11 [] 0 0),(47,.int .i64 k),(46,.int .i64 n),(9,.ref (1,44) v9 [] 4 0 n),(6,.ref (1,26) v6 [] 1 0 n),(5,.int .i64 0),(4,codeP o (frW o.irs.length fun i=>wordsP (LiveP o i)))]) (fun j v58 v11 v6 v9=>((1,58),⟨v58,oints ks⟩)::((1,11),⟨v11,.obox 4 (setC (takenW (plcK o k) k (ks.take j)))⟩)::mem58 n (plcK o k) (colT o) v6 v9) (fun j v58 v11 v6 v9=>ks.length - j) 0 _ _ _ _ (by simp) ⟨by ((repeat' apply And.intro) <;> (first|exact True.intro|exact NEq.refl _|(refine NEq.int ?_;first|exact rfl|omega|(rw [wrapI (by omega)];first|exact rfl|omega)))),⟨⟨rfl,.refl _⟩,⟨rfl,.obox ?_⟩,⟨rfl,.refl _⟩,⟨rfl,.refl _⟩,trivial⟩,.nil⟩ ?_
   ·intro q hq
    rcases (by have:q<4:=hq;omega:q=0∨q=1∨q=2∨q=3) with rfl|rfl|rfl|rfl <;> exact .refl _
   intro j v58 v11 v6 v9 nv hj
   have ej:0+(j:Int).toNat=j:=by omega
   have hwj:IntKind.i64.wrap ((j:Int)+1)=((j+1:Nat):Int):=wrapI (by omega)
   repeat'(first|refine vcI ?_|refine And.intro ?_ ?_|(intro hq;(try simp at hq);(try(exfalso;omega));(try(revert hq;intro))))
   iterate 2
    ·rw [ej];exact (hkn2 j (by assumption)).1
    ·rw [ej];have:=(hkn2 j (by assumption)).2;omega
   ·have hjl:j<ks.length:=by assumption
    rename_i hcond
    have hc2:ks.getD j 0≠(k:Int)∧0≤(plcK o k).getD (ks.getD j 0).toNat 0:=hcond
    have hkj:=hkn2 j hjl
    have hv:=hPk.val (ks.getD j 0).toNat (by omega)
    obtain ⟨q,hq⟩:∃ q:Nat,(plcK o k).getD (ks.getD j 0).toNat 0=(q:Int):=⟨_,(Int.toNat_of_nonneg hc2.2).symm⟩
    have hvq:(plcK o k).getD (0+(ks.getD (0+(j:Int).toNat) 0).toNat) 0=(q:Int):=by rw [ej,Nat.zero_add];exact hq
    refine CallS.on1e (r:=(1,11)) (v:=v11) (node' := .obox 4 (setC (takenW (plcK o k) k (ks.take j)))) (args':=[.ptr (1,11) v11 [] 0 0,.int .i64 q]) (n:=2) rfl rfl (LeL.cons (.refl _) (LeL.cons (NEq.of_eq (congrArg (PV.int .i64) hvq)) LeL.nil)) (Above.chk rfl Above.nil) (fun S' hS'=>setPut11_spec _ (takenW_lt _ _ _) q (by omega) v11 _ S' hS') ?_
    rintro x L' nv' ⟨rfl,rfl⟩
    repeat'(first|refine vcI ?_|refine And.intro ?_ ?_|(intro hq;(try simp at hq);(try(exfalso;omega));(try(revert hq;intro))))
    refine Exists.intro (j+1,v58,v11,v6,v9) ⟨by dsimp only;omega,(by first|omega|(dsimp only;omega)),⟨by ((repeat' apply And.intro) <;> (first|exact True.intro|exact NEq.refl _|(refine NEq.int ?_;first|exact rfl|omega|(rw [wrapI (by omega)];first|exact rfl|omega)))),⟨⟨rfl,.refl _⟩,⟨rfl,NEq.of_eq ?_⟩,⟨rfl,.refl _⟩,⟨rfl,.refl _⟩,trivial⟩,.nil⟩⟩
    show PV.obox 4 (setC _)=PV.obox 4 (setC (takenW (plcK o k) k (ks.take (j+1))))
    rw [take_succD 0 hjl,takenW_snoc]
    unfold takeS
    rw [if_pos hc2,hq];rfl
   ·have hjl:j<ks.length:=by assumption
    rename_i hcond
    have hc2:ks.getD j 0≠(k:Int)→(plcK o k).getD (ks.getD j 0).toNat 0<0:=hcond
    refine Exists.intro (j+1,v58,v11,v6,v9) ⟨by dsimp only;omega,(by first|omega|(dsimp only;omega)),⟨by ((repeat' apply And.intro) <;> (first|exact True.intro|exact NEq.refl _|(refine NEq.int ?_;first|exact rfl|omega|(rw [wrapI (by omega)];first|exact rfl|omega)))),⟨⟨rfl,.refl _⟩,⟨rfl,NEq.of_eq ?_⟩,⟨rfl,.refl _⟩,⟨rfl,.refl _⟩,trivial⟩,.nil⟩⟩
    show PV.obox 4 (setC _)=PV.obox 4 (setC (takenW (plcK o k) k (ks.take (j+1))))
    rw [take_succD 0 hjl,takenW_snoc]
    unfold takeS
    rw [if_neg fun h=>by have:=hc2 h.1;omega]
   ·obtain rfl:j=ks.length:=by omega
    rw [List.take_length]
    obtain ⟨s,hsd⟩:∃ s,s=takenW (plcK o k) k ks:=⟨_,rfl⟩
    have hsl:∀ o,s o<18446744073709551616:=by rw [hsd];exact takenW_lt _ _ _
    rw [← hsd]
    have hfew:∀ p,(∀ q,q<p→bitW s q=true)→p<n:=fun p h=>taken_few (l:=plcK o k) (r:=k) (ks:=ks) hkn (by rw [hks];intro x hx;have:=col_nn H (r:=k) (by omega) x hx;omega) (by rw [← hsd];exact h)
    repeat'(first|refine vcI ?_|refine And.intro ?_ ?_|(intro hq;(try simp at hq);(try(exfalso;omega));(try(revert hq;intro))))
    refine loopS4 mx (by decide) (by kernel_rfl) (fun (p v11 v6 v9:Nat)=>∀ q,q<p→bitW s q=true) (fun p v11 v6 v9=>[(14,.int .i64 p),(10,.int .i64 k),(11,.ptr (1,11) v11 [] 0 0),(47,.int .i64 k),(46,.int .i64 n),(9,.ref (1,44) v9 [] 4 0 n),(6,.ref (1,26) v6 [] 1 0 n),(5,.int .i64 0),(4,codeP o (frW o.irs.length fun i=>wordsP (LiveP o i)))]) (fun p v11 v6 v9=>((1,11),⟨v11,.obox 4 (setC s)⟩)::mem58 n (plcK o k) (colT o) v6 v9) (fun p v11 v6 v9=>n - p) 0 _ _ _ (by intro q hq;omega) ⟨by ((repeat' apply And.intro) <;> (first|exact True.intro|exact NEq.refl _|(refine NEq.int ?_;first|exact rfl|omega|(rw [wrapI (by omega)];first|exact rfl|omega)))),⟨⟨rfl,.refl _⟩,⟨rfl,.refl _⟩,⟨rfl,.refl _⟩,trivial⟩,.nil⟩ ?_
    intro p v11 v6 v9 nv hp
    have hpn:=hfew p hp
    have hwp:IntKind.i64.wrap ((p:Int)+1)=((p+1:Nat):Int):=wrapI (by omega)
    repeat'(first|refine vcI ?_|refine And.intro ?_ ?_|(intro hq;(try simp at hq);(try(exfalso;omega));(try(revert hq;intro))))
    have hh:=setHas_spec s hsl p (by omega)
    rcases hb:bitW s p with _|_
    ·rw [hb] at hh
     refine CallS.plain [.fptr 4 (setC s) 0,.int .i64 p] (.bool false) hh (LeL.cons (view_set (k:=7) rfl) (LeL.cons (.refl _) LeL.nil)) trivial ?_
     repeat'(first|refine vcI ?_|refine And.intro ?_ ?_|(intro hq;(try simp at hq);(try(exfalso;omega));(try(revert hq;intro))))
     ·rfl
     have hfs:FirstP s p:=⟨hb,hp⟩
     have hl1:=hln (k+1) (by omega)
     refine Exists.intro (oints (plcK o (k+1))) (And.intro (NEq.owns rfl (hlk.trans hl1.symm) fun a b ha hb=>?_) (And.intro (shape_ints (hlk.trans hl1.symm)) ?_))
     ·rw [show plcK o (k+1)=plcI o (plcK o k) k from rfl]
      unfold plcI
      rw [if_neg (show ¬ 0≤(plcK o k).getD k 0 by omega),← hks,← hsd,hfs.first,ek]
      exact put_setI (l:=plcK o k) (i:=k) (by omega) hb (.refl _)
     repeat'(first|refine vcI ?_|refine And.intro ?_ ?_|(intro hq;(try simp at hq);(try(exfalso;omega));(try(revert hq;intro))))
     exact Exists.intro (k+1,v6,v9) ⟨by dsimp only;omega,(by first|omega|(dsimp only;omega)),⟨by ((repeat' apply And.intro) <;> (first|exact True.intro|exact NEq.refl _|(refine NEq.int ?_;first|exact rfl|omega|(rw [wrapI (by omega)];first|exact rfl|omega)))),⟨⟨rfl,.refl _⟩,⟨rfl,.refl _⟩,trivial⟩,.nil⟩⟩
    ·rw [hb] at hh
     refine CallS.plain [.fptr 4 (setC s) 0,.int .i64 p] (.bool true) hh (LeL.cons (view_set (k:=7) rfl) (LeL.cons (.refl _) LeL.nil)) trivial ?_
     repeat'(first|refine vcI ?_|refine And.intro ?_ ?_|(intro hq;(try simp at hq);(try(exfalso;omega));(try(revert hq;intro))))
     exact Exists.intro (p+1,v11,v6,v9) ⟨fun q hq=>by rcases (by dsimp only at hq;omega:q<p∨q=p) with h|rfl;exact hp q h;exact hb,(by first|omega|(dsimp only;omega)),⟨by ((repeat' apply And.intro) <;> (first|exact True.intro|exact NEq.refl _|(refine NEq.int ?_;first|exact rfl|omega|(rw [wrapI (by omega)];first|exact rfl|omega)))),⟨⟨rfl,.refl _⟩,⟨rfl,.refl _⟩,⟨rfl,.refl _⟩,trivial⟩,.nil⟩⟩
  ·obtain rfl:k=n:=by omega
   rw [show plcE o=(plcL o,0) by unfold plcE;rw [if_pos HO],show plcL o=plcK o k by unfold plcL;rw [hnt]]
   exact NEq.tup2 (view_ints (k:=6) (l:=plcK o k) rfl (hln k (by omega)).symm) (.refl _)
 ·rw [openR_bad HO] at ho
  refine CallS.frozen (.tup [.nilp,.int .i64 210]) ho (plainAll rfl) ?_
  repeat'(first|refine vcI ?_|refine And.intro ?_ ?_|(intro hq;(try simp at hq);(try(exfalso;omega));(try(revert hq;intro))))
  rw [show plcE o=([],210) by unfold plcE;rw [if_neg HO]]
  exact ans_nils 210
end Go.Ab
namespace Go.Ab
open Go.Proofs
set_option maxRecDepth 100000
set_option maxHeartbeats 4000000

end Go.Ab
namespace Go.Ab
open Go.Proofs
set_option maxRecDepth 100000
set_option maxHeartbeats 4000000

end Go.Ab
namespace Go.Ab
open Go.Proofs
set_option maxRecDepth 100000
set_option maxHeartbeats 4000000

end Go.Ab
namespace Go.Ab
open Go.Proofs
set_option maxRecDepth 100000
set_option maxHeartbeats 4000000

def orow {α:Type} [Inhabited α] (sz:Nat) (d:α→List PV) (l:List α):PV := .own sz l.length fun i o=>(d (l.getD i default)).getD o .undef
def frow {α:Type} [Inhabited α] (sz:Nat) (d:α→List PV) (l:List α):PV := .frz sz l.length fun i o=>(d (l.getD i default)).getD o .undef
theorem shape_row {α:Type} [Inhabited α] {sz:Nat} {d:α→List PV} {n:Nat} {l:List α} (h:n=l.length):shapeOf (orow sz d l)=some (true,sz,n):=by subst h;rfl
theorem app_row {α:Type} [Inhabited α] {sz sz' n:Nat} {d:α→List PV} {xs:List α} {y:α} {f:Nat→Nat→PV} (hsz:sz'=sz) (hn:n=xs.length+1) (h1:∀ i o,i<xs.length→o<sz→NEq (f i o) ((d (xs.getD i default)).getD o .undef)) (h2:∀ o,o<sz→NEq (f xs.length o) ((d y).getD o .undef)) :
  NEq (.own sz' n f) (orow sz d (xs++[y])):=by
 subst hsz
 refine NEq.owns rfl (by simp [hn]) fun i o hi ho=>?_
 rw [List.length_append] at hi
 simp only [List.length_singleton] at hi
 rw [getD_app]
 by_cases h:i<xs.length
 ·rw [if_pos h];exact h1 i o h ho
 ·rw [if_neg h]
  obtain rfl:i=xs.length:=by omega
  rw [Nat.sub_self];exact h2 o ho
theorem view_row1 {α:Type} [Inhabited α] {sz:Nat} {d:α→List PV} {k:Nat} {L:Hp} {r:RId} {v n:Nat} {l:List α} (h:lkH L r=some ⟨v,orow sz d l⟩) (hn:n=l.length) (hd:∀ i o,i<l.length→o<sz→NEq (Ab.view k L ((d (l.getD i default)).getD o .undef)) ((d (l.getD i default)).getD o .undef)):NEq (Ab.view (k+1) L (.ref r v [] sz 0 n)) (frow sz d l):=by
 subst hn
 rw [Ab.view,h]
 simp only [if_true,getAt,orow]
 exact NEq.frzs rfl (by simp) fun i o hi ho=>by rw [Nat.zero_add];exact hd i o (by simpa using hi) ho

def renV (l:List Int) (v:DV):DV:=if v.k=1 then { v with n:=l.getD v.n.toNat 0 } else v
end Go.Ab
namespace Go.Ab
open Go.Proofs
set_option maxRecDepth 100000
set_option maxHeartbeats 4000000

def renF (l:List Int) (f:DF):DF:={ f with
 self:=renV l f.self
 holder:=renV l f.holder
 vars:=f.vars.map (renV l)
 stack:=f.stack.map (renV l)
 act:=if f.act=0 then f.act else IntKind.i64.wrap (l.getD (IntKind.i64.wrap (f.act - 1)).toNat 0+1) }
def regV (m:Int) (v:DV):Prop:=v.k=1→0≤v.n∧v.n<m
structure RegsF (m:Int) (f:DF):Prop where
 self:regV m f.self
 holder:regV m f.holder
 vars:∀ v∈f.vars,regV m v
 stack:∀ v∈f.stack,regV m v
 act:f.act≠0→0≤IntKind.i64.wrap (f.act - 1)∧IntKind.i64.wrap (f.act - 1)<m
theorem view_dfl (k:Nat) (hp:Hp) (f:DF) (o:Nat):view (k+1) hp ((dfl f).getD o .undef)=(dfl f).getD o .undef:=by
 match o with
 | 0=>rfl
 | 1=>rfl
 | 2=>rfl
 | 3=>rfl
 | 4=>rfl
 | 5=>rfl
 | 6=>rfl
 | 7=>rfl
 | 8=>rfl
 | 9=>rfl
 | 10=>rfl
 | 11=>rfl
 | 12=>rfl
 | 13=>rfl
 | 14=>rfl
 | 15=>rfl
 | 16=>rfl
 | 17=>rfl
 | o+18=>rfl
end Go.Ab
namespace Go.Ab
open Go.Proofs
set_option maxRecDepth 100000
set_option maxHeartbeats 4000000

theorem view_dil (k:Nat) (hp:Hp) (x:DI) (o:Nat):view (k+1) hp ((dil x).getD o .undef)=(dil x).getD o .undef:=by
 match o with
 | 0=>rfl
 | 1=>rfl
 | 2=>rfl
 | 3=>rfl
 | 4=>rfl
 | 5=>rfl
 | 6=>rfl
 | 7=>rfl
 | 8=>rfl
 | 9=>rfl
 | 10=>rfl
 | 11=>rfl
 | 12=>rfl
 | 13=>rfl
 | 14=>rfl
 | 15=>rfl
 | o+16=>rfl
theorem view_dml (k:Nat) (hp:Hp) (x:DM) (o:Nat):view (k+1) hp ((dml x).getD o .undef)=(dml x).getD o .undef:=by
 match o with
 | 0=>rfl
 | 1=>rfl
 | o+2=>rfl
theorem view_dpl (k:Nat) (hp:Hp) (x:DP) (o:Nat):view (k+1) hp ((dpl x).getD o .undef)=(dpl x).getD o .undef:=by
 match o with
 | 0=>rfl
 | 1=>rfl
 | 2=>rfl
 | 3=>rfl
 | 4=>rfl
 | 5=>rfl
 | 6=>rfl
 | 7=>rfl
 | o+8=>rfl
theorem eachI_spec (l:List DI) (g:FuncId) (c:PV) (p:DI→DI) (hl:l.length≤1048576) (hc:plainArg c) (hp:∀ x∈l,CallsF Tryz.prog g [c,.agg (dil x)] (.agg (dil (p x)))):CallsF Tryz.prog 47 [dis l,.func (.func g) [c] []] (dis (l.map p)):=by
 refine callsF_ofS mx Tryz.call47 Tryz.func47 rfl Tryz.ntmps47 Tryz.results47 (by kernel_rfl) (by simp) fun lo=>?_
 repeat'(first|refine vcI ?_|refine And.intro ?_ ?_|(intro hq;(try simp at hq);(try(exfalso;omega));(try(revert hq;intro))))
 refine ghostS0 5 (1,1000) (by decide) 16 (fun _ _ => .undef) rfl rfl fun v=>?_
 refine loopS2 mx (by decide) (by kernel_rfl) (fun (k v:Nat)=>k≤l.length) (fun k v=>[(10,.int .i64 k),(9,.int .i64 l.length),(8,dis l),(5,.ref (1,1000) v [] 16 0 ((l.take k).map p).length),(1,.func (.func g) [c] [])]) (fun k v=>[((1,1000),⟨v,orow 16 dil ((l.take k).map p)⟩)]) (fun k v=>l.length - k) 0 v (by simp) ⟨by ((repeat' apply And.intro) <;> (first|exact True.intro|exact NEq.refl _|(refine NEq.int ?_;first|exact rfl|omega|(rw [wrapI (by omega)];first|exact rfl|omega)))),⟨⟨rfl,.owns rfl rfl fun i o hi=>absurd hi (by simp)⟩,trivial⟩,.nil⟩ ?_
 clear v
 intro k v nv hk
 have hwk:IntKind.i64.wrap ((k:Int)+1)=((k+1:Nat):Int):=wrapI (by omega)
 have hlk:((l.take k).map p).length=k:=by rw [List.length_map,List.length_take];omega
 have hap:((l.take k).map p).length+(1 - 0)≤1048577:=by omega
 repeat'(first|refine vcI ?_|refine And.intro ?_ ?_|(intro hq;(try simp at hq);(try(exfalso;omega));(try(revert hq;intro))))
 ·have hkl:k<l.length:=by assumption
  have et:(l.take (k+1)).map p=(l.take k).map p++[p (l.getD k default)]:=by rw [take_succD default hkl,List.map_append];rfl
  rw [show Tryz.prog.cellsOf 58=16 by kernel_rfl]
  refine CallS.frozen _ (hp (l.getD k default) (getD_mem default hkl)) (plainCons (plainArg_L hc) (plainCons (plainLB_plainL rfl) plainNil)) ?_
  repeat'(first|refine vcI ?_|refine And.intro ?_ ?_|(intro hq;(try simp at hq);(try(exfalso;omega));(try(revert hq;intro))))
  refine Exists.intro (orow 16 dil [p (l.getD k default)]) (And.intro ?_ (And.intro rfl ?_))
  ·refine NEq.owns rfl rfl fun i q hi hq=>?_
   obtain rfl:i=0:=by simp at hi;omega
   rcases (by omega:q=0∨q=1∨q=2∨q=3∨q=4∨q=5∨q=6∨q=7∨q=8∨q=9∨q=10∨q=11∨q=12∨q=13∨q=14∨q=15) with rfl|rfl|rfl|rfl|rfl|rfl|rfl|rfl|rfl|rfl|rfl|rfl|rfl|rfl|rfl|rfl <;> exact .refl _
  repeat'(first|refine vcI ?_|refine And.intro ?_ ?_|(intro hq;(try simp at hq);(try(exfalso;omega));(try(revert hq;intro))))
  ·rw [show Tryz.prog.bytesOf 58=168 by kernel_rfl];omega
  ·omega
  refine Exists.intro (orow 16 dil ((l.take (k+1)).map p)) (And.intro ?_ (And.intro (shape_row (by rw [et,List.length_append];rfl)) ?_))
  ·rw [et]
   refine app_row rfl rfl (fun i q hi hq=>?_) fun q hq=>?_
   ·dsimp only;rw [if_pos hi];exact .refl _
   ·dsimp only;rw [if_neg (by omega),Nat.sub_self]
    rcases (by omega:q=0∨q=1∨q=2∨q=3∨q=4∨q=5∨q=6∨q=7∨q=8∨q=9∨q=10∨q=11∨q=12∨q=13∨q=14∨q=15) with rfl|rfl|rfl|rfl|rfl|rfl|rfl|rfl|rfl|rfl|rfl|rfl|rfl|rfl|rfl|rfl <;> exact .refl _
  rw [show ((l.take k).map p).length+(1 - 0)=((l.take (k+1)).map p).length by rw [et,List.length_append];rfl]
  repeat'(first|refine vcI ?_|refine And.intro ?_ ?_|(intro hq;(try simp at hq);(try(exfalso;omega));(try(revert hq;intro))))
  exact Exists.intro (k+1,_) ⟨by dsimp only;omega,(by first|omega|(dsimp only;omega)),⟨by ((repeat' apply And.intro) <;> (first|exact True.intro|exact NEq.refl _|(refine NEq.int ?_;first|exact rfl|omega|(rw [wrapI (by omega)];first|exact rfl|omega)))),⟨⟨rfl,.refl _⟩,trivial⟩,.nil⟩⟩
 ·obtain rfl:k=l.length:=by omega
  rw [List.take_length]
  exact view_row1 (k:=8) rfl rfl fun i q hi hq=>NEq.of_eq (view_dil 7 _ _ q)
theorem eachV_spec (l:List DV) (g:FuncId) (c:PV) (p:DV→DV) (hl:l.length≤1048576) (hc:plainArg c) (hp:∀ x∈l,CallsF Tryz.prog g [c,.agg (dvl x)] (.agg (dvl (p x)))):CallsF Tryz.prog 97 [dvs l,.func (.func g) [c] []] (dvs (l.map p)):=by
 refine callsF_ofS mx Tryz.call97 Tryz.func97 rfl Tryz.ntmps97 Tryz.results97 (by kernel_rfl) (by simp) fun lo=>?_
 repeat'(first|refine vcI ?_|refine And.intro ?_ ?_|(intro hq;(try simp at hq);(try(exfalso;omega));(try(revert hq;intro))))
 refine ghostS0 5 (1,1000) (by decide) 6 (fun _ _ => .undef) rfl rfl fun v=>?_
 refine loopS2 mx (by decide) (by kernel_rfl) (fun (k v:Nat)=>k≤l.length) (fun k v=>[(10,.int .i64 k),(9,.int .i64 l.length),(8,dvs l),(5,.ref (1,1000) v [] 6 0 ((l.take k).map p).length),(1,.func (.func g) [c] [])]) (fun k v=>[((1,1000),⟨v,orow 6 dvl ((l.take k).map p)⟩)]) (fun k v=>l.length - k) 0 v (by simp) ⟨by ((repeat' apply And.intro) <;> (first|exact True.intro|exact NEq.refl _|(refine NEq.int ?_;first|exact rfl|omega|(rw [wrapI (by omega)];first|exact rfl|omega)))),⟨⟨rfl,.owns rfl rfl fun i o hi=>absurd hi (by simp)⟩,trivial⟩,.nil⟩ ?_
 clear v
 intro k v nv hk
 have hwk:IntKind.i64.wrap ((k:Int)+1)=((k+1:Nat):Int):=wrapI (by omega)
 have hlk:((l.take k).map p).length=k:=by rw [List.length_map,List.length_take];omega
 have hap:((l.take k).map p).length+(1 - 0)≤1048577:=by omega
 repeat'(first|refine vcI ?_|refine And.intro ?_ ?_|(intro hq;(try simp at hq);(try(exfalso;omega));(try(revert hq;intro))))
 ·have hkl:k<l.length:=by assumption
  have et:(l.take (k+1)).map p=(l.take k).map p++[p (l.getD k default)]:=by rw [take_succD default hkl,List.map_append];rfl
  rw [show Tryz.prog.cellsOf 103=6 by kernel_rfl]
  refine CallS.frozen _ (hp (l.getD k default) (getD_mem default hkl)) (plainCons (plainArg_L hc) (plainCons (plainLB_plainL rfl) plainNil)) ?_
  repeat'(first|refine vcI ?_|refine And.intro ?_ ?_|(intro hq;(try simp at hq);(try(exfalso;omega));(try(revert hq;intro))))
  refine Exists.intro (orow 6 dvl [p (l.getD k default)]) (And.intro ?_ (And.intro rfl ?_))
  ·refine NEq.owns rfl rfl fun i q hi hq=>?_
   obtain rfl:i=0:=by simp at hi;omega
   rcases (by omega:q=0∨q=1∨q=2∨q=3∨q=4∨q=5) with rfl|rfl|rfl|rfl|rfl|rfl <;> exact .refl _
  repeat'(first|refine vcI ?_|refine And.intro ?_ ?_|(intro hq;(try simp at hq);(try(exfalso;omega));(try(revert hq;intro))))
  ·rw [show Tryz.prog.bytesOf 103=56 by kernel_rfl];omega
  ·omega
  refine Exists.intro (orow 6 dvl ((l.take (k+1)).map p)) (And.intro ?_ (And.intro (shape_row (by rw [et,List.length_append];rfl)) ?_))
  ·rw [et]
   refine app_row rfl rfl (fun i q hi hq=>?_) fun q hq=>?_
   ·dsimp only;rw [if_pos hi];exact .refl _
   ·dsimp only;rw [if_neg (by omega),Nat.sub_self]
    rcases (by omega:q=0∨q=1∨q=2∨q=3∨q=4∨q=5) with rfl|rfl|rfl|rfl|rfl|rfl <;> exact .refl _
  rw [show ((l.take k).map p).length+(1 - 0)=((l.take (k+1)).map p).length by rw [et,List.length_append];rfl]
  repeat'(first|refine vcI ?_|refine And.intro ?_ ?_|(intro hq;(try simp at hq);(try(exfalso;omega));(try(revert hq;intro))))
  exact Exists.intro (k+1,_) ⟨by dsimp only;omega,(by first|omega|(dsimp only;omega)),⟨by ((repeat' apply And.intro) <;> (first|exact True.intro|exact NEq.refl _|(refine NEq.int ?_;first|exact rfl|omega|(rw [wrapI (by omega)];first|exact rfl|omega)))),⟨⟨rfl,.refl _⟩,trivial⟩,.nil⟩⟩
 ·obtain rfl:k=l.length:=by omega
  rw [List.take_length]
  exact view_row1 (k:=8) rfl rfl fun i q hi hq=>NEq.of_eq (view_dvl 7 _ _ q)
theorem eachF_spec (l:List DF) (g:FuncId) (c:PV) (p:DF→DF) (hl:l.length≤1048576) (hc:plainArg c) (hp:∀ x∈l,CallsF Tryz.prog g [c,.agg (dfl x)] (.agg (dfl (p x)))):CallsF Tryz.prog 51 [dfs l,.func (.func g) [c] []] (dfs (l.map p)):=by
 refine callsF_ofS mx Tryz.call51 Tryz.func51 rfl Tryz.ntmps51 Tryz.results51 (by kernel_rfl) (by simp) fun lo=>?_
 repeat'(first|refine vcI ?_|refine And.intro ?_ ?_|(intro hq;(try simp at hq);(try(exfalso;omega));(try(revert hq;intro))))
 refine ghostS0 5 (1,1000) (by decide) 18 (fun _ _ => .undef) rfl rfl fun v=>?_
 refine loopS2 mx (by decide) (by kernel_rfl) (fun (k v:Nat)=>k≤l.length) (fun k v=>[(10,.int .i64 k),(9,.int .i64 l.length),(8,dfs l),(5,.ref (1,1000) v [] 18 0 ((l.take k).map p).length),(1,.func (.func g) [c] [])]) (fun k v=>[((1,1000),⟨v,orow 18 dfl ((l.take k).map p)⟩)]) (fun k v=>l.length - k) 0 v (by simp) ⟨by ((repeat' apply And.intro) <;> (first|exact True.intro|exact NEq.refl _|(refine NEq.int ?_;first|exact rfl|omega|(rw [wrapI (by omega)];first|exact rfl|omega)))),⟨⟨rfl,.owns rfl rfl fun i o hi=>absurd hi (by simp)⟩,trivial⟩,.nil⟩ ?_
 clear v
 intro k v nv hk
 have hwk:IntKind.i64.wrap ((k:Int)+1)=((k+1:Nat):Int):=wrapI (by omega)
 have hlk:((l.take k).map p).length=k:=by rw [List.length_map,List.length_take];omega
 have hap:((l.take k).map p).length+(1 - 0)≤1048577:=by omega
 repeat'(first|refine vcI ?_|refine And.intro ?_ ?_|(intro hq;(try simp at hq);(try(exfalso;omega));(try(revert hq;intro))))
 ·have hkl:k<l.length:=by assumption
  have et:(l.take (k+1)).map p=(l.take k).map p++[p (l.getD k default)]:=by rw [take_succD default hkl,List.map_append];rfl
  rw [show Tryz.prog.cellsOf 106=18 by kernel_rfl]
  refine CallS.frozen _ (hp (l.getD k default) (getD_mem default hkl)) (plainCons (plainArg_L hc) (plainCons (plainLB_plainL rfl) plainNil)) ?_
  repeat'(first|refine vcI ?_|refine And.intro ?_ ?_|(intro hq;(try simp at hq);(try(exfalso;omega));(try(revert hq;intro))))
  refine Exists.intro (orow 18 dfl [p (l.getD k default)]) (And.intro ?_ (And.intro rfl ?_))
  ·refine NEq.owns rfl rfl fun i q hi hq=>?_
   obtain rfl:i=0:=by simp at hi;omega
   rcases (by omega:q=0∨q=1∨q=2∨q=3∨q=4∨q=5∨q=6∨q=7∨q=8∨q=9∨q=10∨q=11∨q=12∨q=13∨q=14∨q=15∨q=16∨q=17) with rfl|rfl|rfl|rfl|rfl|rfl|rfl|rfl|rfl|rfl|rfl|rfl|rfl|rfl|rfl|rfl|rfl|rfl <;> exact .refl _
  repeat'(first|refine vcI ?_|refine And.intro ?_ ?_|(intro hq;(try simp at hq);(try(exfalso;omega));(try(revert hq;intro))))
  ·rw [show Tryz.prog.bytesOf 106=192 by kernel_rfl];omega
  ·omega
  refine Exists.intro (orow 18 dfl ((l.take (k+1)).map p)) (And.intro ?_ (And.intro (shape_row (by rw [et,List.length_append];rfl)) ?_))
  ·rw [et]
   refine app_row rfl rfl (fun i q hi hq=>?_) fun q hq=>?_
   ·dsimp only;rw [if_pos hi];exact .refl _
   ·dsimp only;rw [if_neg (by omega),Nat.sub_self]
    rcases (by omega:q=0∨q=1∨q=2∨q=3∨q=4∨q=5∨q=6∨q=7∨q=8∨q=9∨q=10∨q=11∨q=12∨q=13∨q=14∨q=15∨q=16∨q=17) with rfl|rfl|rfl|rfl|rfl|rfl|rfl|rfl|rfl|rfl|rfl|rfl|rfl|rfl|rfl|rfl|rfl|rfl <;> exact .refl _
  rw [show ((l.take k).map p).length+(1 - 0)=((l.take (k+1)).map p).length by rw [et,List.length_append];rfl]
  repeat'(first|refine vcI ?_|refine And.intro ?_ ?_|(intro hq;(try simp at hq);(try(exfalso;omega));(try(revert hq;intro))))
  exact Exists.intro (k+1,_) ⟨by dsimp only;omega,(by first|omega|(dsimp only;omega)),⟨by ((repeat' apply And.intro) <;> (first|exact True.intro|exact NEq.refl _|(refine NEq.int ?_;first|exact rfl|omega|(rw [wrapI (by omega)];first|exact rfl|omega)))),⟨⟨rfl,.refl _⟩,trivial⟩,.nil⟩⟩
 ·obtain rfl:k=l.length:=by omega
  rw [List.take_length]
  exact view_row1 (k:=8) rfl rfl fun i q hi hq=>NEq.of_eq (view_dfl 7 _ _ q)
theorem eachM_spec (l:List DM) (g:FuncId) (p:DM→DM) (hl:l.length≤1048576) (hp:∀ x∈l,CallsF Tryz.prog g [.agg (dml x)] (.agg (dml (p x)))):CallsF Tryz.prog 53 [dms l,.func (.func g) [] []] (dms (l.map p)):=by
 refine callsF_ofS mx Tryz.call53 Tryz.func53 rfl Tryz.ntmps53 Tryz.results53 (by kernel_rfl) (by simp) fun lo=>?_
 repeat'(first|refine vcI ?_|refine And.intro ?_ ?_|(intro hq;(try simp at hq);(try(exfalso;omega));(try(revert hq;intro))))
 refine ghostS0 5 (1,1000) (by decide) 2 (fun _ _ => .undef) rfl rfl fun v=>?_
 refine loopS2 mx (by decide) (by kernel_rfl) (fun (k v:Nat)=>k≤l.length) (fun k v=>[(10,.int .i64 k),(9,.int .i64 l.length),(8,dms l),(5,.ref (1,1000) v [] 2 0 ((l.take k).map p).length),(1,.func (.func g) [] [])]) (fun k v=>[((1,1000),⟨v,orow 2 dml ((l.take k).map p)⟩)]) (fun k v=>l.length - k) 0 v (by simp) ⟨by ((repeat' apply And.intro) <;> (first|exact True.intro|exact NEq.refl _|(refine NEq.int ?_;first|exact rfl|omega|(rw [wrapI (by omega)];first|exact rfl|omega)))),⟨⟨rfl,.owns rfl rfl fun i o hi=>absurd hi (by simp)⟩,trivial⟩,.nil⟩ ?_
 clear v
 intro k v nv hk
 have hwk:IntKind.i64.wrap ((k:Int)+1)=((k+1:Nat):Int):=wrapI (by omega)
 have hlk:((l.take k).map p).length=k:=by rw [List.length_map,List.length_take];omega
 have hap:((l.take k).map p).length+(1 - 0)≤1048577:=by omega
 repeat'(first|refine vcI ?_|refine And.intro ?_ ?_|(intro hq;(try simp at hq);(try(exfalso;omega));(try(revert hq;intro))))
 ·have hkl:k<l.length:=by assumption
  have et:(l.take (k+1)).map p=(l.take k).map p++[p (l.getD k default)]:=by rw [take_succD default hkl,List.map_append];rfl
  rw [show Tryz.prog.cellsOf 112=2 by kernel_rfl]
  refine CallS.frozen _ (hp (l.getD k default) (getD_mem default hkl)) (plainAll rfl) ?_
  repeat'(first|refine vcI ?_|refine And.intro ?_ ?_|(intro hq;(try simp at hq);(try(exfalso;omega));(try(revert hq;intro))))
  refine Exists.intro (orow 2 dml [p (l.getD k default)]) (And.intro ?_ (And.intro rfl ?_))
  ·refine NEq.owns rfl rfl fun i q hi hq=>?_
   obtain rfl:i=0:=by simp at hi;omega
   rcases (by omega:q=0∨q=1) with rfl|rfl <;> exact .refl _
  repeat'(first|refine vcI ?_|refine And.intro ?_ ?_|(intro hq;(try simp at hq);(try(exfalso;omega));(try(revert hq;intro))))
  ·rw [show Tryz.prog.bytesOf 112=32 by kernel_rfl];omega
  ·omega
  refine Exists.intro (orow 2 dml ((l.take (k+1)).map p)) (And.intro ?_ (And.intro (shape_row (by rw [et,List.length_append];rfl)) ?_))
  ·rw [et]
   refine app_row rfl rfl (fun i q hi hq=>?_) fun q hq=>?_
   ·dsimp only;rw [if_pos hi];exact .refl _
   ·dsimp only;rw [if_neg (by omega),Nat.sub_self]
    rcases (by omega:q=0∨q=1) with rfl|rfl <;> exact .refl _
  rw [show ((l.take k).map p).length+(1 - 0)=((l.take (k+1)).map p).length by rw [et,List.length_append];rfl]
  repeat'(first|refine vcI ?_|refine And.intro ?_ ?_|(intro hq;(try simp at hq);(try(exfalso;omega));(try(revert hq;intro))))
  exact Exists.intro (k+1,_) ⟨by dsimp only;omega,(by first|omega|(dsimp only;omega)),⟨by ((repeat' apply And.intro) <;> (first|exact True.intro|exact NEq.refl _|(refine NEq.int ?_;first|exact rfl|omega|(rw [wrapI (by omega)];first|exact rfl|omega)))),⟨⟨rfl,.refl _⟩,trivial⟩,.nil⟩⟩
 ·obtain rfl:k=l.length:=by omega
  rw [List.take_length]
  exact view_row1 (k:=8) rfl rfl fun i q hi hq=>NEq.of_eq (view_dml 7 _ _ q)
theorem eachD_spec (l:List DP) (g:FuncId) (p:DP→DP) (hl:l.length≤1048576) (hp:∀ x∈l,CallsF Tryz.prog g [.agg (dpl x)] (.agg (dpl (p x)))):CallsF Tryz.prog 56 [dps l,.func (.func g) [] []] (dps (l.map p)):=by
 refine callsF_ofS mx Tryz.call56 Tryz.func56 rfl Tryz.ntmps56 Tryz.results56 (by kernel_rfl) (by simp) fun lo=>?_
 repeat'(first|refine vcI ?_|refine And.intro ?_ ?_|(intro hq;(try simp at hq);(try(exfalso;omega));(try(revert hq;intro))))
 refine ghostS0 5 (1,1000) (by decide) 8 (fun _ _ => .undef) rfl rfl fun v=>?_
 refine loopS2 mx (by decide) (by kernel_rfl) (fun (k v:Nat)=>k≤l.length) (fun k v=>[(10,.int .i64 k),(9,.int .i64 l.length),(8,dps l),(5,.ref (1,1000) v [] 8 0 ((l.take k).map p).length),(1,.func (.func g) [] [])]) (fun k v=>[((1,1000),⟨v,orow 8 dpl ((l.take k).map p)⟩)]) (fun k v=>l.length - k) 0 v (by simp) ⟨by ((repeat' apply And.intro) <;> (first|exact True.intro|exact NEq.refl _|(refine NEq.int ?_;first|exact rfl|omega|(rw [wrapI (by omega)];first|exact rfl|omega)))),⟨⟨rfl,.owns rfl rfl fun i o hi=>absurd hi (by simp)⟩,trivial⟩,.nil⟩ ?_
 clear v
 intro k v nv hk
 have hwk:IntKind.i64.wrap ((k:Int)+1)=((k+1:Nat):Int):=wrapI (by omega)
 have hlk:((l.take k).map p).length=k:=by rw [List.length_map,List.length_take];omega
 have hap:((l.take k).map p).length+(1 - 0)≤1048577:=by omega
 repeat'(first|refine vcI ?_|refine And.intro ?_ ?_|(intro hq;(try simp at hq);(try(exfalso;omega));(try(revert hq;intro))))
 ·have hkl:k<l.length:=by assumption
  have et:(l.take (k+1)).map p=(l.take k).map p++[p (l.getD k default)]:=by rw [take_succD default hkl,List.map_append];rfl
  rw [show Tryz.prog.cellsOf 119=8 by kernel_rfl]
  refine CallS.frozen _ (hp (l.getD k default) (getD_mem default hkl)) (plainAll rfl) ?_
  repeat'(first|refine vcI ?_|refine And.intro ?_ ?_|(intro hq;(try simp at hq);(try(exfalso;omega));(try(revert hq;intro))))
  refine Exists.intro (orow 8 dpl [p (l.getD k default)]) (And.intro ?_ (And.intro rfl ?_))
  ·refine NEq.owns rfl rfl fun i q hi hq=>?_
   obtain rfl:i=0:=by simp at hi;omega
   rcases (by omega:q=0∨q=1∨q=2∨q=3∨q=4∨q=5∨q=6∨q=7) with rfl|rfl|rfl|rfl|rfl|rfl|rfl|rfl <;> exact .refl _
  repeat'(first|refine vcI ?_|refine And.intro ?_ ?_|(intro hq;(try simp at hq);(try(exfalso;omega));(try(revert hq;intro))))
  ·rw [show Tryz.prog.bytesOf 119=88 by kernel_rfl];omega
  ·omega
  refine Exists.intro (orow 8 dpl ((l.take (k+1)).map p)) (And.intro ?_ (And.intro (shape_row (by rw [et,List.length_append];rfl)) ?_))
  ·rw [et]
   refine app_row rfl rfl (fun i q hi hq=>?_) fun q hq=>?_
   ·dsimp only;rw [if_pos hi];exact .refl _
   ·dsimp only;rw [if_neg (by omega),Nat.sub_self]
    rcases (by omega:q=0∨q=1∨q=2∨q=3∨q=4∨q=5∨q=6∨q=7) with rfl|rfl|rfl|rfl|rfl|rfl|rfl|rfl <;> exact .refl _
  rw [show ((l.take k).map p).length+(1 - 0)=((l.take (k+1)).map p).length by rw [et,List.length_append];rfl]
  repeat'(first|refine vcI ?_|refine And.intro ?_ ?_|(intro hq;(try simp at hq);(try(exfalso;omega));(try(revert hq;intro))))
  exact Exists.intro (k+1,_) ⟨by dsimp only;omega,(by first|omega|(dsimp only;omega)),⟨by ((repeat' apply And.intro) <;> (first|exact True.intro|exact NEq.refl _|(refine NEq.int ?_;first|exact rfl|omega|(rw [wrapI (by omega)];first|exact rfl|omega)))),⟨⟨rfl,.refl _⟩,trivial⟩,.nil⟩⟩
 ·obtain rfl:k=l.length:=by omega
  rw [List.take_length]
  exact view_row1 (k:=8) rfl rfl fun i q hi hq=>NEq.of_eq (view_dpl 7 _ _ q)
end Go.Ab
namespace Go.Ab
open Go.Proofs
set_option maxRecDepth 100000
set_option maxHeartbeats 4000000

def rnP (cp:PV) (l:List Int):PV := .fptr 2 (rowL [cp,ints l]) 0
theorem valueP_spec (cp:PV) (v:DV) (l:List Int) (h:v.k=1→0≤v.n∧v.n<(l.length:Int)):CallsF Tryz.prog 96 [rnP cp l,.agg (dvl v)] (.agg (dvl (renV l v))):=by
 refine callsF_ofS mx Tryz.call96 Tryz.func96 rfl Tryz.ntmps96 Tryz.results96 (by kernel_rfl) (by simp) fun lo=>?_
 repeat'(first|refine vcI ?_|refine And.intro ?_ ?_|(intro hq;(try simp at hq);(try(exfalso;omega));(try(revert hq;intro))))
 ·have hk:v.k=1:=by assumption
  rw [show Tryz.prog.cellsOf 103=6 by kernel_rfl,show renV l v={ v with n:=l.getD v.n.toNat 0 } by unfold renV;rw [if_pos hk]]
  exact .refl _
 ·have hk:¬ v.k=1:=by assumption
  rw [show Tryz.prog.cellsOf 103=6 by kernel_rfl,show renV l v=v by unfold renV;rw [if_neg hk]]
  exact .refl _
theorem instr1_spec (cp:PV) (r:Int) (l:List Int) (h:0≤r∧r<(l.length:Int)):CallsF Tryz.prog 94 [.int .i64 r,.fptr 1 (fun _=>rnP cp l) 0] (.int .i64 (l.getD r.toNat 0)):=by
 refine callsF_ofS mx Tryz.call94 Tryz.func94 rfl Tryz.ntmps94 Tryz.results94 (by kernel_rfl) (by simp) fun lo=>?_
 repeat'(first|refine vcI ?_|refine And.intro ?_ ?_|(intro hq;(try simp at hq);(try(exfalso;omega));(try(revert hq;intro))))
 exact .refl _
theorem cloneN_spec (l:List Int) (hl:l.length≤1048576):CallsF Tryz.prog 95 [ints l] (ints l):=by
 refine callsF_ofS mx Tryz.call95 Tryz.func95 rfl Tryz.ntmps95 Tryz.results95 (by kernel_rfl) (by simp) fun lo=>?_
 repeat'(first|refine vcI ?_|refine And.intro ?_ ?_|(intro hq;(try simp at hq);(try(exfalso;omega));(try(revert hq;intro))))
 ·refine Exists.intro (PV.own 1 0 fun _ _ => .undef) (And.intro ?_ (And.intro rfl ?_))
  ·exact NEq.owns rfl rfl fun i o hi=>absurd hi (by simp)
  repeat'(first|refine vcI ?_|refine And.intro ?_ ?_|(intro hq;(try simp at hq);(try(exfalso;omega));(try(revert hq;intro))))
  ·rfl
  refine Exists.intro (oints l) (And.intro (NEq.owns rfl (by omega) fun i o hi ho=>?_) (And.intro (shape_ints (by omega)) ?_))
  ·dsimp only
   rw [if_neg (by omega),Nat.sub_zero]
   exact .refl _
  exact view_ints (k:=7) rfl (by omega)
 ·rename_i h1 b h2
  subst h1
  repeat'(first|refine vcI ?_|refine And.intro ?_ ?_|(intro hq;(try simp at hq);(try(exfalso;omega));(try(revert hq;intro))))
  exact .nils
 ·rename_i h1 b h2
  refine Exists.intro (PV.own 1 0 fun _ _ => .undef) (And.intro ?_ (And.intro rfl ?_))
  ·exact NEq.owns rfl rfl fun i o hi=>absurd hi (by simp)
  repeat'(first|refine vcI ?_|refine And.intro ?_ ?_|(intro hq;(try simp at hq);(try(exfalso;omega));(try(revert hq;intro))))
  ·rfl
  refine Exists.intro (oints l) (And.intro (NEq.owns rfl (by omega) fun i o hi ho=>?_) (And.intro (shape_ints (by omega)) ?_))
  ·dsimp only
   rw [if_neg (by omega),Nat.sub_zero]
   exact .refl _
  exact view_ints (k:=7) rfl (by omega)
theorem dry_dsl (v:DS) {o:Nat} (h:o<5):dryCell ((dsl v).getD o .undef)=true:=by
 match o with
 | 0=>rfl
 | 1=>rfl
 | 2=>rfl
 | 3=>rfl
 | 4=>rfl
 | o+5=>omega
theorem view_dsl (k:Nat) (hp:Hp) (x:DS) (o:Nat):view (k+1) hp ((dsl x).getD o .undef)=(dsl x).getD o .undef:=by
 match o with
 | 0=>rfl
 | 1=>rfl
 | 2=>rfl
 | 3=>rfl
 | 4=>rfl
 | o+5=>rfl
theorem cloneS_spec (l:List DS) (hl:l.length≤1048576):CallsF Tryz.prog 55 [dss l] (dss l):=by
 refine callsF_ofS mx Tryz.call55 Tryz.func55 rfl Tryz.ntmps55 Tryz.results55 (by kernel_rfl) (by simp) fun lo=>?_
 repeat'(first|refine vcI ?_|refine And.intro ?_ ?_|(intro hq;(try simp at hq);(try(exfalso;omega));(try(revert hq;intro))))
 ·refine Exists.intro (PV.own 5 0 fun _ _ => .undef) (And.intro ?_ (And.intro rfl ?_))
  ·exact NEq.owns rfl rfl fun i o hi=>absurd hi (by simp)
  repeat'(first|refine vcI ?_|refine And.intro ?_ ?_|(intro hq;(try simp at hq);(try(exfalso;omega));(try(revert hq;intro))))
  ·exact dry_dsl _ (by assumption)
  ·rw [show Tryz.prog.bytesOf 115=56 by kernel_rfl];omega
  ·omega
  refine Exists.intro (orow 5 dsl l) (And.intro (NEq.owns rfl (by omega) fun i o hi ho=>?_) (And.intro (shape_row (by omega)) ?_))
  ·dsimp only
   rw [if_neg (by omega),Nat.sub_zero]
   exact .refl _
  exact view_row1 (k:=8) rfl (by omega) fun i q hi hq=>NEq.of_eq (view_dsl 7 _ _ q)
 ·rename_i h1 b h2
  subst h1
  repeat'(first|refine vcI ?_|refine And.intro ?_ ?_|(intro hq;(try simp at hq);(try(exfalso;omega));(try(revert hq;intro))))
  exact .nils
 ·rename_i h1 b h2
  refine Exists.intro (PV.own 5 0 fun _ _ => .undef) (And.intro ?_ (And.intro rfl ?_))
  ·exact NEq.owns rfl rfl fun i o hi=>absurd hi (by simp)
  repeat'(first|refine vcI ?_|refine And.intro ?_ ?_|(intro hq;(try simp at hq);(try(exfalso;omega));(try(revert hq;intro))))
  ·exact dry_dsl _ (by assumption)
  ·rw [show Tryz.prog.bytesOf 115=56 by kernel_rfl];omega
  ·omega
  refine Exists.intro (orow 5 dsl l) (And.intro (NEq.owns rfl (by omega) fun i o hi ho=>?_) (And.intro (shape_row (by omega)) ?_))
  ·dsimp only
   rw [if_neg (by omega),Nat.sub_zero]
   exact .refl _
  exact view_row1 (k:=8) rfl (by omega) fun i q hi hq=>NEq.of_eq (view_dsl 7 _ _ q)
theorem eachN_spec (l:List Int) (g:FuncId) (c:PV) (p:Int→Int) (hl:l.length≤1048576) (hc:plainArg c) (hp:∀ x∈l,CallsF Tryz.prog g [.int .i64 x,c] (.int .i64 (p x))):CallsF Tryz.prog 93 [ints l,.func (.func g) [] [c]] (ints (l.map p)):=by
 refine callsF_ofS mx Tryz.call93 Tryz.func93 rfl Tryz.ntmps93 Tryz.results93 (by kernel_rfl) (by simp) fun lo=>?_
 repeat'(first|refine vcI ?_|refine And.intro ?_ ?_|(intro hq;(try simp at hq);(try(exfalso;omega));(try(revert hq;intro))))
 refine ghostS0 5 (1,1000) (by decide) 1 (fun _ _ => .undef) rfl rfl fun v=>?_
 refine loopS2 mx (by decide) (by kernel_rfl) (fun (k v:Nat)=>k≤l.length) (fun k v=>[(10,.int .i64 k),(9,.int .i64 l.length),(8,ints l),(5,.ref (1,1000) v [] 1 0 ((l.take k).map p).length),(1,.func (.func g) [] [c])]) (fun k v=>[((1,1000),⟨v,oints ((l.take k).map p)⟩)]) (fun k v=>l.length - k) 0 v (by simp) ⟨by ((repeat' apply And.intro) <;> (first|exact True.intro|exact NEq.refl _|(refine NEq.int ?_;first|exact rfl|omega|(rw [wrapI (by omega)];first|exact rfl|omega)))),⟨⟨rfl,.owns rfl rfl fun i o hi=>absurd hi (by simp)⟩,trivial⟩,.nil⟩ ?_
 clear v
 intro k v nv hk
 have hwk:IntKind.i64.wrap ((k:Int)+1)=((k+1:Nat):Int):=wrapI (by omega)
 have hlk:((l.take k).map p).length=k:=by rw [List.length_map,List.length_take];omega
 have hap:((l.take k).map p).length+(1 - 0)≤1048577:=by omega
 repeat'(first|refine vcI ?_|refine And.intro ?_ ?_|(intro hq;(try simp at hq);(try(exfalso;omega));(try(revert hq;intro))))
 ·have hkl:k<l.length:=by assumption
  have et:(l.take (k+1)).map p=(l.take k).map p++[p (l.getD k 0)]:=by rw [take_succD 0 hkl,List.map_append];rfl
  refine CallS.frozen _ (hp (l.getD k 0) (getD_mem 0 hkl)) (plainCons (plainLB_plainL rfl) (plainCons (plainArg_L hc) plainNil)) ?_
  repeat'(first|refine vcI ?_|refine And.intro ?_ ?_|(intro hq;(try simp at hq);(try(exfalso;omega));(try(revert hq;intro))))
  refine Exists.intro (oints [p (l.getD k 0)]) (And.intro (one_ints _ rfl rfl (.refl _)) (And.intro rfl ?_))
  repeat'(first|refine vcI ?_|refine And.intro ?_ ?_|(intro hq;(try simp at hq);(try(exfalso;omega));(try(revert hq;intro))))
  refine Exists.intro (oints ((l.take (k+1)).map p)) (And.intro ?_ (And.intro (shape_ints (by rw [et,List.length_append];rfl)) ?_))
  ·rw [et];exact app_ints rfl rfl (fun i o hi ho=>by (try dsimp only);rw [if_pos hi];exact .refl _) (fun i o hi ho=>by (try dsimp only);rw [if_neg (by omega),Nat.add_sub_cancel_left];(try rw [cellV_pcell]);(try simp only [Nat.zero_add]);exact .refl _)
  rw [show ((l.take k).map p).length+(1 - 0)=((l.take (k+1)).map p).length by rw [et,List.length_append];rfl]
  repeat'(first|refine vcI ?_|refine And.intro ?_ ?_|(intro hq;(try simp at hq);(try(exfalso;omega));(try(revert hq;intro))))
  exact Exists.intro (k+1,_) ⟨by dsimp only;omega,(by first|omega|(dsimp only;omega)),⟨by ((repeat' apply And.intro) <;> (first|exact True.intro|exact NEq.refl _|(refine NEq.int ?_;first|exact rfl|omega|(rw [wrapI (by omega)];first|exact rfl|omega)))),⟨⟨rfl,.refl _⟩,trivial⟩,.nil⟩⟩
 ·obtain rfl:k=l.length:=by omega
  rw [List.take_length]
  exact view_ints (k:=7) rfl rfl
def drl (fs:List DF):List PV:=[dfs fs]
theorem view_drl {k:Nat} {L:Hp} {r:RId} {v n:Nat} {l:List (List DF)} (h:lkH L r=some ⟨v,orow 1 drl l⟩) (hn:n=l.length):NEq (Ab.view (k+2) L (.ref r v [] 1 0 n)) (dfss l):=by
 subst hn
 rw [Ab.view,h]
 simp only [if_true,getAt,orow]
 refine NEq.frzs rfl (by simp) fun i o hi ho=>?_
 obtain rfl:o=0:=by omega
 rw [Nat.zero_add]
 exact .refl _
theorem eachS_spec (l:List (List DF)) (g:FuncId) (c:PV) (p:List DF→List DF) (hl:l.length≤1048576) (hc:plainArg c) (hp:∀ x∈l,CallsF Tryz.prog g [dfs x,c] (dfs (p x))):CallsF Tryz.prog 49 [dfss l,.func (.func g) [] [c]] (dfss (l.map p)):=by
 refine callsF_ofS mx Tryz.call49 Tryz.func49 rfl Tryz.ntmps49 Tryz.results49 (by kernel_rfl) (by simp) fun lo=>?_
 repeat'(first|refine vcI ?_|refine And.intro ?_ ?_|(intro hq;(try simp at hq);(try(exfalso;omega));(try(revert hq;intro))))
 refine ghostS0 5 (1,1000) (by decide) 1 (fun _ _ => .undef) rfl rfl fun v=>?_
 refine loopS2 mx (by decide) (by kernel_rfl) (fun (k v:Nat)=>k≤l.length) (fun k v=>[(10,.int .i64 k),(9,.int .i64 l.length),(8,dfss l),(5,.ref (1,1000) v [] 1 0 ((l.take k).map p).length),(1,.func (.func g) [] [c])]) (fun k v=>[((1,1000),⟨v,orow 1 drl ((l.take k).map p)⟩)]) (fun k v=>l.length - k) 0 v (by simp) ⟨by ((repeat' apply And.intro) <;> (first|exact True.intro|exact NEq.refl _|(refine NEq.int ?_;first|exact rfl|omega|(rw [wrapI (by omega)];first|exact rfl|omega)))),⟨⟨rfl,.owns rfl rfl fun i o hi=>absurd hi (by simp)⟩,trivial⟩,.nil⟩ ?_
 clear v
 intro k v nv hk
 have hwk:IntKind.i64.wrap ((k:Int)+1)=((k+1:Nat):Int):=wrapI (by omega)
 have hlk:((l.take k).map p).length=k:=by rw [List.length_map,List.length_take];omega
 have hap:((l.take k).map p).length+(1 - 0)≤1048577:=by omega
 repeat'(first|refine vcI ?_|refine And.intro ?_ ?_|(intro hq;(try simp at hq);(try(exfalso;omega));(try(revert hq;intro))))
 ·have hkl:k<l.length:=by assumption
  have et:(l.take (k+1)).map p=(l.take k).map p++[p (l.getD k [])]:=by rw [take_succD [] hkl,List.map_append];rfl
  refine CallS.frozen _ (hp (l.getD k []) (getD_mem [] hkl)) (plainCons (plainLB_plainL rfl) (plainCons (plainArg_L hc) plainNil)) ?_
  repeat'(first|refine vcI ?_|refine And.intro ?_ ?_|(intro hq;(try simp at hq);(try(exfalso;omega));(try(revert hq;intro))))
  refine Exists.intro (orow 1 drl [p (l.getD k [])]) (And.intro ?_ (And.intro rfl ?_))
  ·refine NEq.owns rfl rfl fun i q hi hq=>?_
   obtain rfl:i=0:=by simp at hi;omega
   obtain rfl:q=0:=by omega
   exact .refl _
  repeat'(first|refine vcI ?_|refine And.intro ?_ ?_|(intro hq;(try simp at hq);(try(exfalso;omega));(try(revert hq;intro))))
  ·rw [show Tryz.prog.bytesOf 61=24 by kernel_rfl];omega
  ·omega
  refine Exists.intro (orow 1 drl ((l.take (k+1)).map p)) (And.intro ?_ (And.intro (shape_row (by rw [et,List.length_append];rfl)) ?_))
  ·rw [et]
   refine app_row rfl rfl (fun i q hi hq=>?_) fun q hq=>?_
   ·dsimp only;rw [if_pos hi];exact .refl _
   ·dsimp only;rw [if_neg (by omega),Nat.sub_self]
    obtain rfl:q=0:=by omega
    exact .refl _
  rw [show ((l.take k).map p).length+(1 - 0)=((l.take (k+1)).map p).length by rw [et,List.length_append];rfl]
  repeat'(first|refine vcI ?_|refine And.intro ?_ ?_|(intro hq;(try simp at hq);(try(exfalso;omega));(try(revert hq;intro))))
  exact Exists.intro (k+1,_) ⟨by dsimp only;omega,(by first|omega|(dsimp only;omega)),⟨by ((repeat' apply And.intro) <;> (first|exact True.intro|exact NEq.refl _|(refine NEq.int ?_;first|exact rfl|omega|(rw [wrapI (by omega)];first|exact rfl|omega)))),⟨⟨rfl,.refl _⟩,trivial⟩,.nil⟩⟩
 ·obtain rfl:k=l.length:=by omega
  rw [List.take_length]
  exact view_drl (k:=7) rfl rfl
end Go.Ab
namespace Go.Ab
open Go.Proofs
set_option maxRecDepth 100000
set_option maxHeartbeats 4000000

def fieldC (d a b g:Bool):List PV:=[.bool d,.bool a,.bool b,.bool g]
def fieldAt:Nat→List PV
 | 1=>fieldC true false false false
 | 2=>fieldC true true false false
 | 3=>fieldC false true false false
 | 4=>fieldC true true false false
 | 5=>fieldC false true true false
 | 6=>fieldC true true false true
 | 7=>fieldC true true false true
 | 10=>fieldC false true false false
 | 12=>fieldC true false false false
 | 13=>fieldC true false false false
 | 14=>fieldC true true false false
 | 15=>fieldC false true true false
 | 16=>fieldC false false false true
 | _=>fieldC false false false false
def fieldsL:List PV:=(List.range 17).flatMap fieldAt
theorem fields_spec:CallsF Tryz.prog 92 [] (.agg fieldsL):=callsF_val good 10 10 (by kernel_rfl)
def mxL (l:List Int):Int:=l.foldl max 0
theorem mxL_take {l:List Int} {k:Nat} (hk:k<l.length):mxL (l.take (k+1))=max (mxL (l.take k)) (l.getD k 0):=by
 unfold mxL;rw [take_succD 0 hk,List.foldl_append];rfl
theorem Max_spec (l:List Int) (hl:0<l.length) (hs:l.length≤1048576) (h:∀ x∈l,0≤x):CallsF Tryz.prog 46 [ints l] (.int .i64 (mxL l)):=by
 refine callsF_ofS mx Tryz.call46 Tryz.func46 rfl Tryz.ntmps46 Tryz.results46 (by kernel_rfl) (by simp) fun lo=>?_
 repeat'(first|refine vcI ?_|refine And.intro ?_ ?_|(intro hq;(try simp at hq);(try(exfalso;omega));(try(revert hq;intro))))
 have h1:mxL (l.take 1)=l.getD 0 0:=by
  rw [mxL_take hl]
  have:=h _ (getD_mem 0 hl)
  simp only [List.take_zero]
  show max 0 _=_
  rw [List.getD_eq_getElem?_getD]
  omega
 refine loopS mx (by decide) (by kernel_rfl) (fun (k:Nat)=>1≤k∧k≤l.length) (fun k=>[(4,.int .i64 k),(3,.int .i64 (mxL (l.take k))),(0,ints l)]) (fun _=>[]) (fun k=>l.length - k) 1 ⟨by omega,by omega⟩ ⟨⟨.refl _,by rw [h1];exact .refl _,.refl _,trivial⟩,trivial,.nil⟩ ?_
 rintro k nv ⟨hk1,hk⟩
 have hwk:IntKind.i64.wrap ((k:Int)+1)=((k+1:Nat):Int):=wrapI (by omega)
 repeat'(first|refine vcI ?_|refine And.intro ?_ ?_|(intro hq;(try simp at hq);(try(exfalso;omega));(try(revert hq;intro))))
 ·have hkl:k<l.length:=by assumption
  exact Exists.intro (k+1) ⟨by dsimp only;omega,(by first|omega|(dsimp only;omega)),⟨⟨(by refine NEq.int ?_;first|exact rfl|omega|(rw [wrapI (by omega)];first|exact rfl|omega)),NEq.of_eq (congrArg (PV.int .i64) (by rw [mxL_take hkl];show (if l.getD k 0>mxL (l.take k) then l.getD k 0 else mxL (l.take k))=_;split <;> omega)),.refl _,trivial⟩,trivial,.nil⟩⟩
 ·obtain rfl:k=l.length:=by omega
  rw [List.take_length]
  exact .refl _
theorem frameP_spec (cp:PV) (l:List Int) (f:DF) (hl:l.length≤1048576) (hs:f.small) (h:RegsF l.length f):CallsF Tryz.prog 52 [rnP cp l,.agg (dfl f)] (.agg (dfl (renF l f))):=by
 obtain ⟨hs1,hs2⟩:=hs
 have hv1:=eachV_spec f.vars 96 (rnP cp l) (renV l) hs1 trivial fun x hx=>valueP_spec cp x l (h.vars x hx)
 have hv2:=eachV_spec f.stack 96 (rnP cp l) (renV l) hs2 trivial fun x hx=>valueP_spec cp x l (h.stack x hx)
 have hv3:=valueP_spec cp f.self l h.self
 have hv4:=valueP_spec cp f.holder l h.holder
 refine callsF_ofS mx Tryz.call52 Tryz.func52 rfl Tryz.ntmps52 Tryz.results52 (by kernel_rfl) (by simp) fun lo=>?_
 repeat'(first|refine vcI ?_|refine And.intro ?_ ?_|(intro hq;(try simp at hq);(try(exfalso;omega));(try(revert hq;intro))))
 rw [show Tryz.prog.cellsOf 103=6 by kernel_rfl]
 first
 | refine CallS.frozen _ hv3 (plainAll rfl) ?_
 | refine QS.frozen _ hv3 (plainAll rfl) ?_
 repeat'(first|refine vcI ?_|refine And.intro ?_ ?_|(intro hq;(try simp at hq);(try(exfalso;omega));(try(revert hq;intro))))
 rw [show Tryz.prog.cellsOf 103=6 by kernel_rfl]
 first
 | refine CallS.frozen _ hv4 (plainAll rfl) ?_
 | refine QS.frozen _ hv4 (plainAll rfl) ?_
 repeat'(first|refine vcI ?_|refine And.intro ?_ ?_|(intro hq;(try simp at hq);(try(exfalso;omega));(try(revert hq;intro))))
 first
 | refine CallS.frozen _ hv1 (plainAll rfl) ?_
 | refine QS.frozen _ hv1 (plainAll rfl) ?_
 repeat'(first|refine vcI ?_|refine And.intro ?_ ?_|(intro hq;(try simp at hq);(try(exfalso;omega));(try(revert hq;intro))))
 first
 | refine CallS.frozen _ hv2 (plainAll rfl) ?_
 | refine QS.frozen _ hv2 (plainAll rfl) ?_
 repeat'(first|refine vcI ?_|refine And.intro ?_ ?_|(intro hq;(try simp at hq);(try(exfalso;omega));(try(revert hq;intro))))
 ·exact (h.act (by assumption)).1
 ·exact (h.act (by assumption)).2
 ·have h0:f.act≠0:=by assumption
  rw [show Tryz.prog.cellsOf 106=18 by kernel_rfl,show renF l f={ f with self:=renV l f.self,holder:=renV l f.holder,vars:=f.vars.map (renV l),stack:=f.stack.map (renV l),act:=IntKind.i64.wrap (l.getD (IntKind.i64.wrap (f.act - 1)).toNat 0+1) } by unfold renF;rw [if_neg h0]]
  exact .refl _
 ·have h0:f.act=0:=by assumption
  rw [show Tryz.prog.cellsOf 106=18 by kernel_rfl,show renF l f={ f with self:=renV l f.self,holder:=renV l f.holder,vars:=f.vars.map (renV l),stack:=f.stack.map (renV l) } by unfold renF;rw [if_pos h0]]
  exact .refl _
theorem ren1_spec (cp:PV) (l:List Int) (fs:List DF) (hl:l.length≤1048576) (hfs:fs.length≤1048576) (hs:∀ f∈fs,f.small) (h:∀ f∈fs,RegsF l.length f):CallsF Tryz.prog 50 [dfs fs,.fptr 1 (fun _=>rnP cp l) 0] (dfs (fs.map (renF l))):=by
 have he:=eachF_spec fs 52 (rnP cp l) (renF l) hfs trivial fun f hf=>frameP_spec cp l f hl (hs f hf) (h f hf)
 refine callsF_ofS mx Tryz.call50 Tryz.func50 rfl Tryz.ntmps50 Tryz.results50 (by kernel_rfl) (by simp) fun lo=>?_
 repeat'(first|refine vcI ?_|refine And.intro ?_ ?_|(intro hq;(try simp at hq);(try(exfalso;omega));(try(revert hq;intro))))
 first
 | refine CallS.frozen _ he (plainAll rfl) ?_
 | refine QS.frozen _ he (plainAll rfl) ?_
 repeat'(first|refine vcI ?_|refine And.intro ?_ ?_|(intro hq;(try simp at hq);(try(exfalso;omega));(try(revert hq;intro))))
 exact .refl _
theorem ren2_spec (m:DM) (h:m.slots.length≤1048576):CallsF Tryz.prog 54 [.agg (dml m)] (.agg (dml m)):=by
 have hc:=cloneS_spec m.slots h
 refine callsF_ofS mx Tryz.call54 Tryz.func54 rfl Tryz.ntmps54 Tryz.results54 (by kernel_rfl) (by simp) fun lo=>?_
 repeat'(first|refine vcI ?_|refine And.intro ?_ ?_|(intro hq;(try simp at hq);(try(exfalso;omega));(try(revert hq;intro))))
 first
 | refine CallS.frozen _ hc (plainAll rfl) ?_
 | refine QS.frozen _ hc (plainAll rfl) ?_
 repeat'(first|refine vcI ?_|refine And.intro ?_ ?_|(intro hq;(try simp at hq);(try(exfalso;omega));(try(revert hq;intro))))
 ·kernel_rfl
 show NEq (view 9 _ (PV.agg (List.map _ (List.range (Tryz.prog.cellsOf 112))))) _
 rw [show Tryz.prog.cellsOf 112=2 by kernel_rfl]
 exact .refl _
theorem ren3_spec (d:DP) (h:d.map.slots.length≤1048576):CallsF Tryz.prog 57 [.agg (dpl d)] (.agg (dpl d)):=by
 have hc:=cloneS_spec d.map.slots h
 refine callsF_ofS mx Tryz.call57 Tryz.func57 rfl Tryz.ntmps57 Tryz.results57 (by kernel_rfl) (by simp) fun lo=>?_
 repeat'(first|refine vcI ?_|refine And.intro ?_ ?_|(intro hq;(try simp at hq);(try(exfalso;omega));(try(revert hq;intro))))
 first
 | refine CallS.frozen _ hc (plainAll rfl) ?_
 | refine QS.frozen _ hc (plainAll rfl) ?_
 repeat'(first|refine vcI ?_|refine And.intro ?_ ?_|(intro hq;(try simp at hq);(try(exfalso;omega));(try(revert hq;intro))))
 show NEq (view 9 _ (PV.agg (List.map _ (List.range (Tryz.prog.cellsOf 119))))) _
 rw [show Tryz.prog.cellsOf 119=8 by kernel_rfl]
 exact .refl _
end Go.Ab
namespace Go.Ab
open Go.Proofs
set_option maxRecDepth 100000
set_option maxHeartbeats 4000000

def renA (l:List Int) (rs:List Int):List Int:=rs.map fun r=>l.getD r.toNat 0
def aB (op:Int):Bool:=op == 2||op == 4||op == 14||op == 3||op == 10||op == 5||op == 15||op == 6||op == 7
def bB (op:Int):Bool:=op == 5||op == 15
def gB (op:Int):Bool:=op == 6||op == 7||op == 16
def renI (l:List Int) (x:DI):DI:={ x with
 d:=if setsB x.op=true then l.getD x.d.toNat 0 else x.d
 a:=if aB x.op=true then l.getD x.a.toNat 0 else x.a
 b:=if bB x.op=true then l.getD x.b.toNat 0 else x.b
 n:=if x.op=10∧x.n≠0 then IntKind.i64.wrap (l.getD (IntKind.i64.wrap (x.n - 1)).toNat 0+1) else x.n
 args:=if gB x.op=true then renA l x.args else x.args }
structure RegsI (m:Int) (x:DI):Prop where
 d:setsB x.op=true→0≤x.d∧x.d<m
 a:aB x.op=true→0≤x.a∧x.a<m
 b:bB x.op=true→0≤x.b∧x.b<m
 n:x.op=10→x.n≠0→1≤x.n∧x.n≤m
 args:gB x.op=true→∀ r∈x.args,0≤r∧r<m
end Go.Ab
namespace Go.Ab
open Go.Proofs
set_option maxRecDepth 100000
set_option maxHeartbeats 4000000

def zeroI:List PV:=[.int .i64 0,.int .i64 0,.int .i64 0,.int .i64 0,.int .i64 0,.int .i64 0,.nils,.str ⟨#[]⟩,.int .i64 0,.int .i64 0,.str ⟨#[]⟩,.int .i64 0,.int .i64 0,.int .i64 0,.int .i64 0,.str ⟨#[]⟩]
theorem part_fields (op:Int) (h:1≤op∧op≤16):partPV Tryz.prog 150 fieldsL (op.toNat*Tryz.prog.cellsOf 150)=some (.agg (fieldC (setsB op) (aB op) (bB op) (gB op))):=by
 rw [show Tryz.prog.cellsOf 150=4 by kernel_rfl]
 obtain ⟨n,rfl⟩:=Int.eq_ofNat_of_zero_le (by omega:0≤op)
 have key:∀ n:Nat,1≤n∧n≤16→partPV Tryz.prog 150 fieldsL ((n:Int).toNat*4)=some (.agg (fieldC (setsB n) (aB n) (bB n) (gB n))):=by
  intro n hn
  rcases (by omega:n=1∨n=2∨n=3∨n=4∨n=5∨n=6∨n=7∨n=8∨n=9∨n=10∨n=11∨n=12∨n=13∨n=14∨n=15∨n=16) with rfl|rfl|rfl|rfl|rfl|rfl|rfl|rfl|rfl|rfl|rfl|rfl|rfl|rfl|rfl|rfl <;> kernel_rfl
 exact key n (by omega)
def tm80 (cp:PV) (l:List Int) (v:Nat):Tm:=[(2,.fptr 1 (fun _=>rnP cp l) 0),(3,.ptr (1,3) 1 [] 0 0),(4,.ptr (1,4) 2 [] 0 0),(5,.ptr (1,5) v [] 0 0)]
def mem80 (x:DI) (op:Int) (v:Nat):Hp:=[((1,5),⟨v,.obox 4 (rowL (fieldC (setsB op) (aB op) (bB op) (gB op)))⟩),((1,4),⟨2,.obox 16 (rowL zeroI)⟩),((1,3),⟨1,.obox 16 (rowL (dil x))⟩)]
def trueP {ι:Type} (_:ι):Prop:=True
theorem instr_spec (cp:PV) (l:List Int) (x:DI) (hl:l.length≤1048576) (ha:x.args.length≤1048576) (hop:1≤x.op∧x.op≤16) (h:RegsI l.length x):CallsF Tryz.prog 48 [rnP cp l,.agg (dil x)] (.agg (dil (renI l x))):=by
 refine callsF_ofL Tryz.call48 Tryz.func48 rfl Tryz.ntmps48 Tryz.results48 (by simp) fun lo=>?_
 repeat refine splitL ?_
 refine meetL mx (by decide) trueP (fun _:Unit=>[(2,.ptr (1,2) 0 [] 0 0),(3,.ptr (1,3) 1 [] 0 0),(4,.ptr (1,4) 2 [] 0 0)]) (fun _=>[((1,2),⟨0,.obox 1 fun _=>rnP cp l⟩),((1,4),⟨2,.obox 16 (rowL zeroI)⟩),((1,3),⟨1,.obox 16 (rowL (dil x))⟩)]) (by kernel_rfl) ?_ fun _ nv _=>?_
 ·repeat'(first|refine vcI ?_|refine And.intro ?_ ?_|(intro hq;(try simp at hq);(try(exfalso;omega));(try(revert hq;intro))))
  refine ⟨(),trivial,⟨by ((repeat' apply And.intro) <;> (first|exact True.intro|exact NEq.refl _|(refine NEq.int ?_;first|exact rfl|omega|(rw [wrapI (by omega)];first|exact rfl|omega)))),⟨⟨rfl,.obox ?_⟩,⟨rfl,.refl _⟩,⟨rfl,.refl _⟩,trivial⟩,.nil⟩⟩
  intro q hq
  obtain rfl:q=0:=by have:q<1:=hq;omega
  exact .refl _
 refine freezeL (tm:=[(2,.ptr (1,2) 0 [] 0 0),(3,.ptr (1,3) 1 [] 0 0),(4,.ptr (1,4) 2 [] 0 0)]) 2 9 [((1,2),⟨0,.obox 1 fun _=>rnP cp l⟩)] [((1,4),⟨2,.obox 16 (rowL zeroI)⟩),((1,3),⟨1,.obox 16 (rowL (dil x))⟩)] (.fptr 1 (fun _=>rnP cp l) 0) rfl ?_ ?_
 ·refine view_box (k:=8) rfl fun q hq=>?_
  obtain rfl:q=0:=by have:q<1:=hq;omega
  exact .refl _
 repeat refine splitL ?_
 refine meetL mx (by decide) trueP (fun v:Nat=>tm80 cp l v) (fun v=>mem80 x x.op v) (by kernel_rfl) ?_ fun v nv _=>?_
 ·repeat'(first|refine vcI ?_|refine And.intro ?_ ?_|(intro hq;(try simp at hq);(try(exfalso;omega));(try(revert hq;intro))))
  refine QS.frozen _ fields_spec (plainAll rfl) ?_
  repeat'(first|refine vcI ?_|refine And.intro ?_ ?_|(intro hq;(try simp at hq);(try(exfalso;omega));(try(revert hq;intro))))
  rw [part_fields x.op hop]
  repeat'(first|refine vcI ?_|refine And.intro ?_ ?_|(intro hq;(try simp at hq);(try(exfalso;omega));(try(revert hq;intro))))
  refine ⟨_,trivial,⟨by ((repeat' apply And.intro) <;> (first|exact True.intro|exact NEq.refl _|(refine NEq.int ?_;first|exact rfl|omega|(rw [wrapI (by omega)];first|exact rfl|omega)))),⟨⟨rfl,.obox ?_⟩,⟨rfl,.refl _⟩,⟨rfl,.refl _⟩,trivial⟩,.nil⟩⟩
  intro q hq
  rcases (by have:q<4:=hq;omega:q=0∨q=1∨q=2∨q=3) with rfl|rfl|rfl|rfl <;> exact .refl _
 obtain ⟨x1,hx1⟩:∃ y,y={ x with d:=if setsB x.op=true then l.getD x.d.toNat 0 else x.d }:=⟨_,rfl⟩
 repeat refine splitL ?_
 refine meetL mx (by decide) trueP (fun _:Unit=>(11,.bool (setsB x.op))::tm80 cp l v) (fun _=>mem80 x x.op v) (by kernel_rfl) ?_ fun _ nv _=>?_
 ·repeat'(first|refine vcI ?_|refine And.intro ?_ ?_|(intro hq;(try simp at hq);(try(exfalso;omega));(try(revert hq;intro))))
  exact ⟨(),trivial,⟨by ((repeat' apply And.intro) <;> (first|exact True.intro|exact NEq.refl _|(refine NEq.int ?_;first|exact rfl|omega|(rw [wrapI (by omega)];first|exact rfl|omega)))),⟨⟨rfl,.refl _⟩,⟨rfl,.refl _⟩,⟨rfl,.refl _⟩,trivial⟩,.nil⟩⟩
 refine meetL mx (by decide) trueP (fun _:Unit=>tm80 cp l v) (fun _=>mem80 { x with d:=if setsB x.op=true then l.getD x.d.toNat 0 else x.d } x.op v) (by kernel_rfl) ?_ fun _ nv _=>?_
 ·rcases hb:setsB x.op with _|_
  ·repeat'(first|refine vcI ?_|refine And.intro ?_ ?_|(intro hq;(try simp at hq);(try(exfalso;omega));(try(revert hq;intro))))
   refine ⟨(),trivial,⟨by ((repeat' apply And.intro) <;> (first|exact True.intro|exact NEq.refl _|(refine NEq.int ?_;first|exact rfl|omega|(rw [wrapI (by omega)];first|exact rfl|omega)))),⟨⟨rfl,.refl _⟩,⟨rfl,.refl _⟩,⟨rfl,.refl _⟩,trivial⟩,.nil⟩⟩
  ·repeat'(first|refine vcI ?_|refine And.intro ?_ ?_|(intro hq;(try simp at hq);(try(exfalso;omega));(try(revert hq;intro))))
   ·exact ((h.d) hb).1
   ·exact ((h.d) hb).2
   ·refine ⟨(),trivial,⟨by ((repeat' apply And.intro) <;> (first|exact True.intro|exact NEq.refl _|(refine NEq.int ?_;first|exact rfl|omega|(rw [wrapI (by omega)];first|exact rfl|omega)))),⟨⟨rfl,.refl _⟩,⟨rfl,.refl _⟩,⟨rfl,.obox ?_⟩,trivial⟩,.nil⟩⟩
    intro q hq
    rcases (by have:q<16:=hq;omega:q=0∨q=1∨q=2∨q=3∨q=4∨q=5∨q=6∨q=7∨q=8∨q=9∨q=10∨q=11∨q=12∨q=13∨q=14∨q=15) with rfl|rfl|rfl|rfl|rfl|rfl|rfl|rfl|rfl|rfl|rfl|rfl|rfl|rfl|rfl|rfl <;> exact .refl _
 rw [← hx1]
 have e1:x1.op=x.op∧x1.a=x.a∧x1.b=x.b∧x1.n=x.n∧x1.args=x.args:=by rw [hx1];exact ⟨rfl,rfl,rfl,rfl,rfl⟩
 obtain ⟨x2,hx2⟩:∃ y,y={ x1 with a:=if aB x.op=true then l.getD x1.a.toNat 0 else x1.a }:=⟨_,rfl⟩
 repeat refine splitL ?_
 refine meetL mx (by decide) trueP (fun _:Unit=>(22,.bool (aB x.op))::tm80 cp l v) (fun _=>mem80 x1 x.op v) (by kernel_rfl) ?_ fun _ nv _=>?_
 ·repeat'(first|refine vcI ?_|refine And.intro ?_ ?_|(intro hq;(try simp at hq);(try(exfalso;omega));(try(revert hq;intro))))
  exact ⟨(),trivial,⟨by ((repeat' apply And.intro) <;> (first|exact True.intro|exact NEq.refl _|(refine NEq.int ?_;first|exact rfl|omega|(rw [wrapI (by omega)];first|exact rfl|omega)))),⟨⟨rfl,.refl _⟩,⟨rfl,.refl _⟩,⟨rfl,.refl _⟩,trivial⟩,.nil⟩⟩
 refine meetL mx (by decide) trueP (fun _:Unit=>tm80 cp l v) (fun _=>mem80 { x1 with a:=if aB x.op=true then l.getD x1.a.toNat 0 else x1.a } x.op v) (by kernel_rfl) ?_ fun _ nv _=>?_
 ·rcases hb:aB x.op with _|_
  ·repeat'(first|refine vcI ?_|refine And.intro ?_ ?_|(intro hq;(try simp at hq);(try(exfalso;omega));(try(revert hq;intro))))
   refine ⟨(),trivial,⟨by ((repeat' apply And.intro) <;> (first|exact True.intro|exact NEq.refl _|(refine NEq.int ?_;first|exact rfl|omega|(rw [wrapI (by omega)];first|exact rfl|omega)))),⟨⟨rfl,.refl _⟩,⟨rfl,.refl _⟩,⟨rfl,.refl _⟩,trivial⟩,.nil⟩⟩
  ·repeat'(first|refine vcI ?_|refine And.intro ?_ ?_|(intro hq;(try simp at hq);(try(exfalso;omega));(try(revert hq;intro))))
   ·exact ((fun hb=>e1.2.1▸h.a hb) hb).1
   ·exact ((fun hb=>e1.2.1▸h.a hb) hb).2
   ·refine ⟨(),trivial,⟨by ((repeat' apply And.intro) <;> (first|exact True.intro|exact NEq.refl _|(refine NEq.int ?_;first|exact rfl|omega|(rw [wrapI (by omega)];first|exact rfl|omega)))),⟨⟨rfl,.refl _⟩,⟨rfl,.refl _⟩,⟨rfl,.obox ?_⟩,trivial⟩,.nil⟩⟩
    intro q hq
    rcases (by have:q<16:=hq;omega:q=0∨q=1∨q=2∨q=3∨q=4∨q=5∨q=6∨q=7∨q=8∨q=9∨q=10∨q=11∨q=12∨q=13∨q=14∨q=15) with rfl|rfl|rfl|rfl|rfl|rfl|rfl|rfl|rfl|rfl|rfl|rfl|rfl|rfl|rfl|rfl <;> exact .refl _
 rw [← hx2]
 have e2:x2.op=x.op∧x2.b=x.b∧x2.n=x.n∧x2.args=x.args:=by rw [hx2];exact ⟨e1.1,e1.2.2⟩
 obtain ⟨x3,hx3⟩:∃ y,y={ x2 with b:=if bB x.op=true then l.getD x2.b.toNat 0 else x2.b }:=⟨_,rfl⟩
 repeat refine splitL ?_
 refine meetL mx (by decide) trueP (fun _:Unit=>(33,.bool (bB x.op))::tm80 cp l v) (fun _=>mem80 x2 x.op v) (by kernel_rfl) ?_ fun _ nv _=>?_
 ·repeat'(first|refine vcI ?_|refine And.intro ?_ ?_|(intro hq;(try simp at hq);(try(exfalso;omega));(try(revert hq;intro))))
  exact ⟨(),trivial,⟨by ((repeat' apply And.intro) <;> (first|exact True.intro|exact NEq.refl _|(refine NEq.int ?_;first|exact rfl|omega|(rw [wrapI (by omega)];first|exact rfl|omega)))),⟨⟨rfl,.refl _⟩,⟨rfl,.refl _⟩,⟨rfl,.refl _⟩,trivial⟩,.nil⟩⟩
 refine meetL mx (by decide) trueP (fun _:Unit=>tm80 cp l v) (fun _=>mem80 { x2 with b:=if bB x.op=true then l.getD x2.b.toNat 0 else x2.b } x.op v) (by kernel_rfl) ?_ fun _ nv _=>?_
 ·rcases hb:bB x.op with _|_
  ·repeat'(first|refine vcI ?_|refine And.intro ?_ ?_|(intro hq;(try simp at hq);(try(exfalso;omega));(try(revert hq;intro))))
   refine ⟨(),trivial,⟨by ((repeat' apply And.intro) <;> (first|exact True.intro|exact NEq.refl _|(refine NEq.int ?_;first|exact rfl|omega|(rw [wrapI (by omega)];first|exact rfl|omega)))),⟨⟨rfl,.refl _⟩,⟨rfl,.refl _⟩,⟨rfl,.refl _⟩,trivial⟩,.nil⟩⟩
  ·repeat'(first|refine vcI ?_|refine And.intro ?_ ?_|(intro hq;(try simp at hq);(try(exfalso;omega));(try(revert hq;intro))))
   ·exact ((fun hb=>e2.2.1▸h.b hb) hb).1
   ·exact ((fun hb=>e2.2.1▸h.b hb) hb).2
   ·refine ⟨(),trivial,⟨by ((repeat' apply And.intro) <;> (first|exact True.intro|exact NEq.refl _|(refine NEq.int ?_;first|exact rfl|omega|(rw [wrapI (by omega)];first|exact rfl|omega)))),⟨⟨rfl,.refl _⟩,⟨rfl,.refl _⟩,⟨rfl,.obox ?_⟩,trivial⟩,.nil⟩⟩
    intro q hq
    rcases (by have:q<16:=hq;omega:q=0∨q=1∨q=2∨q=3∨q=4∨q=5∨q=6∨q=7∨q=8∨q=9∨q=10∨q=11∨q=12∨q=13∨q=14∨q=15) with rfl|rfl|rfl|rfl|rfl|rfl|rfl|rfl|rfl|rfl|rfl|rfl|rfl|rfl|rfl|rfl <;> exact .refl _
 rw [← hx3]
 have e3:x3.op=x.op∧x3.n=x.n∧x3.args=x.args:=by rw [hx3];exact ⟨e2.1,e2.2.2⟩
 repeat refine splitL ?_
 refine meetL mx (by decide) trueP (fun _:Unit=>(50,.bool (bif x3.op == 10 then x3.n != 0 else false))::tm80 cp l v) (fun _=>mem80 x3 x.op v) (by kernel_rfl) ?_ fun _ nv _=>?_
 ·repeat'(first|refine vcI ?_|refine And.intro ?_ ?_|(intro hq;(try simp at hq);(try(exfalso;omega));(try(revert hq;intro))))
  exact ⟨(),trivial,⟨by ((repeat' apply And.intro) <;> (first|exact True.intro|exact NEq.refl _|(refine NEq.int ?_;first|exact rfl|omega|(rw [wrapI (by omega)];first|exact rfl|omega)))),⟨⟨rfl,.refl _⟩,⟨rfl,.refl _⟩,⟨rfl,.refl _⟩,trivial⟩,.nil⟩⟩
 obtain ⟨x4,hx4⟩:∃ y,y={ x3 with n:=if (bif x3.op == 10 then x3.n != 0 else false)=true then IntKind.i64.wrap (l.getD (IntKind.i64.wrap (x3.n - 1)).toNat 0+1) else x3.n }:=⟨_,rfl⟩
 refine meetL mx (by decide) trueP (fun _:Unit=>tm80 cp l v) (fun _=>mem80 { x3 with n:=if (bif x3.op == 10 then x3.n != 0 else false)=true then IntKind.i64.wrap (l.getD (IntKind.i64.wrap (x3.n - 1)).toNat 0+1) else x3.n } x.op v) (by kernel_rfl) ?_ fun _ nv _=>?_
 ·have hn:(bif x3.op == 10 then x3.n != 0 else false)=true→1≤x3.n∧x3.n≤l.length:=fun hb=>by
   rw [e3.2.1]
   cases h1:x3.op == 10
   ·rw [h1] at hb;cases hb
   ·rw [h1] at hb
    have h2:x3.n≠0:=by simpa using hb
    have h3:x3.op=10:=by simpa using h1
    exact h.n (by rw [← e3.1];exact h3) (by rw [← e3.2.1];exact h2)
  rcases hb:(bif x3.op == 10 then x3.n != 0 else false) with _|_
  ·repeat'(first|refine vcI ?_|refine And.intro ?_ ?_|(intro hq;(try simp at hq);(try(exfalso;omega));(try(revert hq;intro))))
   refine ⟨(),trivial,⟨by ((repeat' apply And.intro) <;> (first|exact True.intro|exact NEq.refl _|(refine NEq.int ?_;first|exact rfl|omega|(rw [wrapI (by omega)];first|exact rfl|omega)))),⟨⟨rfl,.refl _⟩,⟨rfl,.refl _⟩,⟨rfl,.refl _⟩,trivial⟩,.nil⟩⟩
  ·have h1:=hn hb
   repeat'(first|refine vcI ?_|refine And.intro ?_ ?_|(intro hq;(try simp at hq);(try(exfalso;omega));(try(revert hq;intro))))
   ·rw [wrapI (by omega)];omega
   ·rw [wrapI (by omega)];omega
   ·refine ⟨(),trivial,⟨by ((repeat' apply And.intro) <;> (first|exact True.intro|exact NEq.refl _|(refine NEq.int ?_;first|exact rfl|omega|(rw [wrapI (by omega)];first|exact rfl|omega)))),⟨⟨rfl,.refl _⟩,⟨rfl,.refl _⟩,⟨rfl,.obox ?_⟩,trivial⟩,.nil⟩⟩
    intro q hq
    rcases (by have:q<16:=hq;omega:q=0∨q=1∨q=2∨q=3∨q=4∨q=5∨q=6∨q=7∨q=8∨q=9∨q=10∨q=11∨q=12∨q=13∨q=14∨q=15) with rfl|rfl|rfl|rfl|rfl|rfl|rfl|rfl|rfl|rfl|rfl|rfl|rfl|rfl|rfl|rfl <;> exact .refl _
 rw [← hx4]
 have e4:x4.op=x.op∧x4.args=x.args:=by rw [hx4];exact ⟨e3.1,e3.2.2⟩
 repeat refine splitL ?_
 refine meetL mx (by decide) trueP (fun _:Unit=>(63,.bool (gB x.op))::tm80 cp l v) (fun _=>mem80 x4 x.op v) (by kernel_rfl) ?_ fun _ nv _=>?_
 ·repeat'(first|refine vcI ?_|refine And.intro ?_ ?_|(intro hq;(try simp at hq);(try(exfalso;omega));(try(revert hq;intro))))
  exact ⟨(),trivial,⟨by ((repeat' apply And.intro) <;> (first|exact True.intro|exact NEq.refl _|(refine NEq.int ?_;first|exact rfl|omega|(rw [wrapI (by omega)];first|exact rfl|omega)))),⟨⟨rfl,.refl _⟩,⟨rfl,.refl _⟩,⟨rfl,.refl _⟩,trivial⟩,.nil⟩⟩
 have hx5:renI l x={ x4 with args:=if gB x.op=true then renA l x4.args else x4.args }:=by
  have hb:(bif x.op == 10 then x.n != 0 else false)=decide (x.op=10∧x.n≠0):=by
   by_cases h1:x.op=10
   ·by_cases h2:x.n=0 <;> simp [h1,h2]
   ·simp [h1]
  rw [hx4,hx3,hx2,hx1]
  unfold renI
  simp only [hb,decide_eq_true_eq]
 rw [hx5]
 rcases hb:gB x.op with _|_
 ·have hc:=cloneN_spec x4.args (by rw [e4.2];exact ha)
  refine runS mx (by decide) (by kernel_rfl) ?_
  repeat'(first|refine vcI ?_|refine And.intro ?_ ?_|(intro hq;(try simp at hq);(try(exfalso;omega));(try(revert hq;intro))))
  first
  | refine CallS.frozen _ hc (plainAll rfl) ?_
  | refine QS.frozen _ hc (plainAll rfl) ?_
  repeat'(first|refine vcI ?_|refine And.intro ?_ ?_|(intro hq;(try simp at hq);(try(exfalso;omega));(try(revert hq;intro))))
  rw [show Tryz.prog.cellsOf 58=16 by kernel_rfl]
  exact .refl _
 ·have hg:∀ r∈x4.args,0≤r∧r<(l.length:Int):=by rw [e4.2];exact h.args hb
  have hc:=eachN_spec x4.args 94 (.fptr 1 (fun _=>rnP cp l) 0) (fun r=>l.getD r.toNat 0) (by rw [e4.2];exact ha) trivial fun r hr=>instr1_spec cp r l (hg r hr)
  refine runS mx (by decide) (by kernel_rfl) ?_
  repeat'(first|refine vcI ?_|refine And.intro ?_ ?_|(intro hq;(try simp at hq);(try(exfalso;omega));(try(revert hq;intro))))
  first
  | refine CallS.frozen _ hc (plainAll rfl) ?_
  | refine QS.frozen _ hc (plainAll rfl) ?_
  repeat'(first|refine vcI ?_|refine And.intro ?_ ?_|(intro hq;(try simp at hq);(try(exfalso;omega));(try(revert hq;intro))))
  rw [show Tryz.prog.cellsOf 58=16 by kernel_rfl]
  exact .refl _
end Go.Ab
namespace Go.Ab
open Go.Proofs
set_option maxRecDepth 100000
set_option maxHeartbeats 4000000

theorem Op_use {o:DO} (H:OpenP o) {i:Nat} (hi:i<o.irs.length):∀ r∈usedL (o.irs.getD i default) (o.descs.getD i [])++usesL (o.descs.getD i []),0≤r∧r<o.regs:=fun r hm=>by
 have hsh:=H.sh i hi
 simp only [shapedX,Bool.and_eq_true,decide_eq_true_eq,Bool.not_eq_true'] at hsh
 obtain ⟨s1,s2,s3,s4,s5,s6,s7⟩:=hsh
 have hb:∀ {l},badL o l=false→r∈l→0≤r∧r<o.regs:=fun h1 h2=>by
  have h3:=List.any_eq_false.1 h1 r h2
  simpa only [regB,Bool.not_eq_true',Bool.not_eq_false,Bool.and_eq_true,decide_eq_true_eq] using h3
 rcases List.mem_append.1 hm with h|h
 ·exact hb s5 h
 ·exact hb s7 h
theorem regsF_of {o:DO} (H:OpenP o) {i:Nat} (hi:i<o.irs.length):∀ f∈o.descs.getD i [],RegsF o.regs f:=fun f hf=>by
 have hu:∀ x,usedIn f x→0≤x∧x<o.regs:=fun x hx=>Op_use H hi x (List.mem_append_right _ ((usesL_mem _ x).2 ⟨f,hf,hx⟩))
 have hv:∀ v∈allL f,regV o.regs v:=fun v hv hk=>hu _ (.inl ⟨v,hv,hk,rfl⟩)
 exact ⟨hv _ (by simp [allL]),hv _ (by simp [allL]),fun v h=>hv _ (by simp [allL,h]),fun v h=>hv _ (by simp [allL,h]),fun h=>hu _ (.inr ⟨h,rfl⟩)⟩
theorem regsI_of {o:DO} (H:OpenP o) {i:Nat} (hi:i<o.irs.length):RegsI o.regs (o.irs.getD i default)∧(1≤(o.irs.getD i default).op∧(o.irs.getD i default).op≤16)∧(o.irs.getD i default).args.length≤20:=by
 have hu:=Op_use H hi
 have hsh:=H.sh i hi
 simp only [shapedX,Bool.and_eq_true,decide_eq_true_eq,Bool.not_eq_true'] at hsh
 obtain ⟨s1,s2,s3,s4,s5,s6,s7⟩:=hsh
 generalize o.irs.getD i default=x at *
 have hu2:∀ r∈usedL x (o.descs.getD i []),0≤r∧r<o.regs:=fun r hr=>hu r (List.mem_append_left _ hr)
 clear hu s5 s7
 refine ⟨⟨fun h=>?_,fun h=>?_,fun h=>?_,fun h1 h2=>?_,fun h=>?_⟩,⟨s1,s2⟩,s3⟩
 ·rw [h] at s6
  simpa only [Bool.not_true,Bool.false_or,regB,Bool.and_eq_true,decide_eq_true_eq] using s6
 ·refine hu2 x.a ?_
  simp only [aB,Bool.or_eq_true,beq_iff_eq] at h
  unfold usedL
  split
  ·simp
  ·split
   ·simp
   ·split
    ·simp
    ·split
     ·split <;> simp
     ·omega
 ·refine hu2 x.b ?_
  simp only [bB,Bool.or_eq_true,beq_iff_eq] at h
  unfold usedL
  rw [if_neg (by omega),if_pos (by omega)]
  simp
 ·unfold swB at s4
  rw [if_neg (by simp [goesB,h1]),if_neg (by omega),if_neg (by omega),if_pos h1] at s4
  simp only [Bool.or_eq_false_iff,decide_eq_false_iff_not] at s4
  omega
 ·intro r hr
  refine hu2 r ?_
  simp only [gB,Bool.or_eq_true,beq_iff_eq] at h
  unfold usedL
  rw [if_neg (by omega),if_neg (by omega)]
  by_cases h3:x.op=6∨x.op=7
  ·rw [if_pos h3];simp [hr]
  ·rw [if_neg h3,if_neg (by omega),if_neg (by omega),if_pos (by omega)];exact hr
def tyF (l:List Int) (ts:List DT) (rs:List Int):Nat→DT:=rs.foldl (fun f r q=>if q=(l.getD r.toNat 0).toNat then ts.getD r.toNat default else f q) fun _=>default
theorem tyF_snoc (l:List Int) (ts:List DT) (rs:List Int) (r:Int) (q:Nat):tyF l ts (rs++[r]) q=if q=(l.getD r.toNat 0).toNat then ts.getD r.toNat default else tyF l ts rs q:=by
 unfold tyF;rw [List.foldl_append];rfl
def tysR (l:List Int) (ts:List DT) (rs:List Int) (m:Nat):List DT:=(List.range m).map (tyF l ts rs)
noncomputable def renT (o:DO) (l:List Int) (m:Nat):List (List DT):=(List.range o.irs.length).map fun i=>tysR l (o.types.getD i []) (liveL o i) m
noncomputable def renO (o:DO) (l:List Int):DO:={ o with irs:=o.irs.map (renI l),descs:=o.descs.map fun fs=>fs.map (renF l),types:=renT o l (mxL l+1).toNat,regs:=mxL l+1 }
theorem mxL_le {l:List Int} {b:Int} (h0:0≤b) (h:∀ x∈l,x≤b):0≤mxL l∧mxL l≤b:=by
 have key:∀ (l:List Int) (a:Int),0≤a→a≤b→(∀ x∈l,x≤b)→0≤l.foldl max a∧l.foldl max a≤b:=by
  intro l
  induction l with
  | nil=>intro a h1 h2 _;exact ⟨h1,h2⟩
  | cons x l ih =>
   intro a h1 h2 h3
   rw [List.foldl_cons]
   have:=h3 x (by simp)
   exact ih (max a x) (by omega) (by omega) fun y hy=>h3 y (by simp [hy])
 exact key l 0 (by omega) h0 h
theorem le_mxL {l:List Int} {x:Int} (h:x∈l):x≤mxL l:=by
 have key:∀ (l:List Int) (a:Int),a≤l.foldl max a∧∀ x∈l,x≤l.foldl max a:=by
  intro l
  induction l with
  | nil=>intro a;exact ⟨Int.le_refl _,fun x h=>by cases h⟩
  | cons y l ih =>
   intro a
   rw [List.foldl_cons]
   obtain ⟨h1,h2⟩:=ih (max a y)
   refine ⟨by omega,fun x hx=>?_⟩
   rcases List.mem_cons.1 hx with rfl|hx
   ·omega
   ·exact h2 x hx
 exact (key l 0).2 x h
theorem RightP.ge {o:DO} {l:List Int} (h:RightP o l):∀ x∈l,0≤x∧x<o.regs:=fun x hx=>by
 obtain ⟨i,hi,rfl⟩:=List.mem_iff_getElem.1 hx
 have:=h.inn i hi
 rw [List.getD_eq_getElem?_getD,List.getElem?_eq_getElem hi] at this
 have h2:=h.len
 simp only [Option.getD_some] at this
 omega
end Go.Ab
namespace Go.Ab
open Go.Proofs
set_option maxRecDepth 100000
set_option maxHeartbeats 4000000

noncomputable def cpO (o:DO):PV:=codeP o (frW o.irs.length fun i=>wordsP (LiveP o i))
def zeroO:List PV:=[.int .i64 0,.int .i64 0,.int .i64 0,.int .i64 0,.int .i64 0,.str ⟨#[]⟩,.nils,.nils,.nils,.nils,.nils,.int .i64 0]
def noneO:DO:=⟨0,⟨0,0,0,0,⟨#[]⟩⟩,[],[],[],[],[],0⟩
theorem mk_optF (o:DO):mkV Tryz.prog 32 (rowL (dol o)) 0 = .agg (dol o):=by
 show PV.agg (List.map _ (List.range (Tryz.prog.cellsOf 32)))=_
 rw [cOpt];rfl
noncomputable def rowT (o:DO) (l:List Int) (m:Nat):Nat→Nat→PV:=fun a _=>dts (tysR l (o.types.getD a []) (liveL o a) m)
noncomputable def outF (o:DO) (l:List Int) (i v:Nat):Nat→PV:=fun q=>if q=9 then .ref (1,1000) v [] 1 0 i else rowL (dol (renO o l)) q
theorem shape_dtl (v:DT) (o:Nat):shapeOf ((dtl v).getD o .undef)=none:=by
 match o with
 | 0=>rfl
 | 1=>rfl
 | 2=>rfl
 | 3=>rfl
 | 4=>rfl
 | o+5=>rfl
theorem view_dtl (k:Nat) (hp:Hp) (x:DT) (o:Nat):view (k+1) hp ((dtl x).getD o .undef)=(dtl x).getD o .undef:=by
 match o with
 | 0=>rfl
 | 1=>rfl
 | 2=>rfl
 | 3=>rfl
 | 4=>rfl
 | o+5=>rfl
theorem view_tys {k:Nat} {L:Hp} {r:RId} {v m:Nat} {f:Nat→DT} (h:lkH L r=some ⟨v,.own 5 m fun q c=>(dtl (f q)).getD c .undef⟩):NEq (Ab.view (k+2) L (.ref r v [] 5 0 m)) (dts ((List.range m).map f)):=by
 rw [Ab.view,h]
 simp only [if_true,getAt]
 refine NEq.frzs rfl (by simp) fun q c hq hc=>?_
 have hq':q<m:=by simpa using hq
 have e:((List.range m).map f).getD q default=f q:=by
  rw [List.getD_eq_getElem?_getD,List.getElem?_map,List.getElem?_range hq'];rfl
 rw [Nat.zero_add,view_dtl,e]
 exact .refl _
theorem ty_put (l:List Int) (ts:List DT) {rs:List Int} {k q c n:Nat} {F:Nat→Nat→PV} (hk:k<rs.length) (hc:c<5) (hn:n=5) (hF:∀ j,j<5→F (rs.getD k 0).toNat (0+j)=(dtl (ts.getD (rs.getD k 0).toNat default)).getD j .undef) :
  NEq (if q=0+(l.getD (rs.getD k 0).toNat 0).toNat∧0≤c∧c<0+n then (List.map (fun j=>F (rs.getD k 0).toNat (0+j)) (List.range 5)).getD (c - 0) .undef else (dtl (tyF l ts (rs.take k) q)).getD c .undef) ((dtl (tyF l ts (rs.take (k+1)) q)).getD c .undef):=by
 subst hn
 rw [take_succD 0 hk,tyF_snoc]
 show NEq _ ((dtl (if q=(l.getD (rs.getD k 0).toNat 0).toNat then ts.getD (rs.getD k 0).toNat default else _)).getD c .undef)
 by_cases e:q=(l.getD (rs.getD k 0).toNat 0).toNat
 ·rw [if_pos ⟨by omega,by omega,by omega⟩,if_pos e,Nat.sub_zero,List.getD_eq_getElem?_getD,List.getElem?_map,List.getElem?_range hc]
  exact NEq.of_eq (hF c hc)
 ·rw [if_neg (fun h=>e (by omega)),if_neg e];exact .refl _
theorem view_types {o:DO} {l:List Int} {k vT m:Nat} {L:Hp} (h:lkH L (1,1000)=some ⟨vT,.own 1 o.irs.length (rowT o l m)⟩):NEq (view (k+2) L (.ref (1,1000) vT [] 1 0 o.irs.length)) (dtss (renT o l m)):=by
 rw [Ab.view,h]
 simp only [if_true,getAt]
 refine NEq.frzs rfl (by simp [renT]) fun a b ha hb=>?_
 have ha':a<o.irs.length:=by simpa [renT] using ha
 have e:(renT o l m).getD a []=tysR l (o.types.getD a []) (liveL o a) m:=by
  rw [List.getD_eq_getElem?_getD,renT,List.getElem?_map,List.getElem?_range ha'];rfl
 rw [Nat.zero_add,e]
 exact .refl _
theorem mapD (f:PV→PV) {i:Nat} (l:List PV) (h:i<l.length):(l.map f).getD i .undef=f (l.getD i .undef):=by
 rw [List.getD_eq_getElem?_getD,List.getD_eq_getElem?_getD,List.getElem?_map,List.getElem?_eq_getElem h];rfl
open Classical in
noncomputable def renE (o:DO) (l:List Int):DO × Int:=if chkE o l=0 then (renO o l,0) else (noneO,chkE o l)
def small2 (o:DO):Prop:=(∀ m∈o.maps,m.slots.length≤1048576)∧(∀ d∈o.deps,d.map.slots.length≤1048576)∧o.maps.length≤1048576∧o.deps.length≤1048576
theorem Rename_spec (o:DO) (l:List Int) (hll:l.length≤1048576) (hf:fewN o≤6000) (hs:∀ l∈o.descs,l.length≤1048576∧∀ f∈l,f.small) (h2:small2 o):CallsF Tryz.prog 18 [.agg (dol o),ints l] (.tup [.agg (dol (renE o l).1),.int .i64 (renE o l).2]):=by
 have hp:=placed_spec o l hll hf hs
 refine callsF_ofL Tryz.call18 Tryz.func18 rfl Tryz.ntmps18 Tryz.results18 (by simp) fun lo=>?_
 repeat refine splitL ?_
 refine meetL mx (by decide) trueP (fun _:Unit=>[(1,ints l),(2,.ptr (1,2) 0 [] 0 0),(4,.ptr (1,4) 1 [] 0 0),(5,.int .i64 0)]) (fun _=>[((1,2),⟨0,.obox 12 (rowL (dol o))⟩),((1,4),⟨1,.obox 12 (rowL zeroO)⟩)]) (by kernel_rfl) ?_ fun _ nv _=>?_
 ·repeat'(first|refine vcI ?_|refine And.intro ?_ ?_|(intro hq;(try simp at hq);(try(exfalso;omega));(try(revert hq;intro))))
  refine ⟨(),trivial,⟨by ((repeat' apply And.intro) <;> (first|exact True.intro|exact NEq.refl _|(refine NEq.int ?_;first|exact rfl|omega|(rw [wrapI (by omega)];first|exact rfl|omega)))),⟨⟨rfl,.refl _⟩,⟨rfl,.refl _⟩,trivial⟩,.nil⟩⟩
 refine freezeL (tm:=[(1,ints l),(2,.ptr (1,2) 0 [] 0 0),(4,.ptr (1,4) 1 [] 0 0),(5,.int .i64 0)]) 2 9 [((1,2),⟨0,.obox 12 (rowL (dol o))⟩)] [((1,4),⟨1,.obox 12 (rowL zeroO)⟩)] (.fptr 12 (rowL (dol o)) 0) rfl ?_ ?_
 ·refine view_box (k:=8) rfl ?_
  intro q hq
  rcases (by have:q<12:=hq;omega:q=0∨q=1∨q=2∨q=3∨q=4∨q=5∨q=6∨q=7∨q=8∨q=9∨q=10∨q=11) with rfl|rfl|rfl|rfl|rfl|rfl|rfl|rfl|rfl|rfl|rfl|rfl
  all_goals exact .refl _
 by_cases h:chkE o l=0
 ·rw [placedR_ok h] at hp
  have hP:=(chkE_zero hf hs).1 h
  have H:=hP.op.fl hf hs
  repeat refine splitL ?_
  refine meetL mx (by decide) trueP (fun _:Unit=>[(6,cpO o),(7,.int .i64 0),(1,ints l),(2,.fptr 12 (rowL (dol o)) 0),(4,.ptr (1,4) 1 [] 0 0),(5,.int .i64 0)]) (fun _=>[((1,4),⟨1,.obox 12 (rowL zeroO)⟩)]) (by kernel_rfl) ?_ fun _ nv _=>?_
  ·repeat'(first|refine vcI ?_|refine And.intro ?_ ?_|(intro hq;(try simp at hq);(try(exfalso;omega));(try(revert hq;intro))))
   rw [mk_optF]
   refine CallS.frozen _ hp (plainAll rfl) ?_
   repeat'(first|refine vcI ?_|refine And.intro ?_ ?_|(intro hq;(try simp at hq);(try(exfalso;omega));(try(revert hq;intro))))
   refine ⟨(),trivial,⟨by ((repeat' apply And.intro) <;> (first|exact True.intro|exact NEq.refl _|(refine NEq.int ?_;first|exact rfl|omega|(rw [wrapI (by omega)];first|exact rfl|omega)))),⟨⟨rfl,.refl _⟩,trivial⟩,.nil⟩⟩
  repeat refine splitL ?_
  refine meetL mx (by decide) trueP (fun _:Unit=>[(21,.bool false),(6,cpO o),(1,ints l),(2,.fptr 12 (rowL (dol o)) 0),(4,.ptr (1,4) 1 [] 0 0),(5,.int .i64 0)]) (fun _=>[((1,4),⟨1,.obox 12 (rowL zeroO)⟩)]) (by kernel_rfl) ?_ fun _ nv _=>?_
  ·repeat'(first|refine vcI ?_|refine And.intro ?_ ?_|(intro hq;(try simp at hq);(try(exfalso;omega));(try(revert hq;intro))))
   refine ⟨(),trivial,⟨by ((repeat' apply And.intro) <;> (first|exact True.intro|exact NEq.refl _|(refine NEq.int ?_;first|exact rfl|omega|(rw [wrapI (by omega)];first|exact rfl|omega)))),⟨⟨rfl,.refl _⟩,trivial⟩,.nil⟩⟩
  repeat refine splitL ?_
  refine meetL mx (by decide) trueP (fun _:Unit=>[(6,cpO o),(1,ints l),(2,.fptr 12 (rowL (dol o)) 0),(4,.ptr (1,4) 1 [] 0 0),(5,.int .i64 0)]) (fun _=>[((1,4),⟨1,.obox 12 (rowL zeroO)⟩)]) (by kernel_rfl) ?_ fun _ nv _=>?_
  ·repeat'(first|refine vcI ?_|refine And.intro ?_ ?_|(intro hq;(try simp at hq);(try(exfalso;omega));(try(revert hq;intro))))
   refine ⟨(),trivial,⟨by ((repeat' apply And.intro) <;> (first|exact True.intro|exact NEq.refl _|(refine NEq.int ?_;first|exact rfl|omega|(rw [wrapI (by omega)];first|exact rfl|omega)))),⟨⟨rfl,.refl _⟩,trivial⟩,.nil⟩⟩
  repeat refine splitL ?_
  refine meetL mx (by decide) trueP (fun v:Nat × Nat=>[(8,.ptr (1,8) v.1 [] 0 0),(6,cpO o),(1,ints l),(2,.fptr 12 (rowL (dol o)) 0),(4,.ptr (1,4) 1 [] 0 0),(5,.int .i64 0)]) (fun v=>[((1,8),⟨v.1,.obox 1 fun _ => .ptr (1,27) v.2 [] 0 0⟩),((1,27),⟨v.2,.obox 2 (rowL [cpO o,ints l])⟩),((1,4),⟨1,.obox 12 (rowL zeroO)⟩)]) (by kernel_rfl) ?_ fun v nv9 _=>?_
  ·repeat'(first|refine vcI ?_|refine And.intro ?_ ?_|(intro hq;(try simp at hq);(try(exfalso;omega));(try(revert hq;intro))))
   ·kernel_rfl
   refine ⟨(_,_),trivial,⟨by ((repeat' apply And.intro) <;> (first|exact True.intro|exact NEq.refl _|(refine NEq.int ?_;first|exact rfl|omega|(rw [wrapI (by omega)];first|exact rfl|omega)))),⟨⟨rfl,.obox ?_⟩,⟨rfl,.obox ?_⟩,⟨rfl,.refl _⟩,trivial⟩,.nil⟩⟩
   ·intro q hq
    obtain rfl:q=0:=by have:q<1:=hq;omega
    exact .refl _
   ·intro q hq
    rcases (by have:q<2:=hq;omega:q=0∨q=1) with rfl|rfl <;> exact .refl _
  refine freezeL (tm:=[(8,.ptr (1,8) v.1 [] 0 0),(6,cpO o),(1,ints l),(2,.fptr 12 (rowL (dol o)) 0),(4,.ptr (1,4) 1 [] 0 0),(5,.int .i64 0)]) 8 9 [((1,8),⟨v.1,.obox 1 fun _ => .ptr (1,27) v.2 [] 0 0⟩),((1,27),⟨v.2,.obox 2 (rowL [cpO o,ints l])⟩)] [((1,4),⟨1,.obox 12 (rowL zeroO)⟩)] (.fptr 1 (fun _=>rnP (cpO o) l) 0) rfl ?_ ?_
  ·refine view_box (k:=8) rfl fun q hq=>?_
   obtain rfl:q=0:=by have:q<1:=hq;omega
   show NEq (view 8 _ (.ptr (1,27) v.2 [] 0 0)) (.fptr 2 (rowL [cpO o,ints l]) 0)
   refine view_box (k:=7) rfl fun q hq=>?_
   rcases (by have:q<2:=hq;omega:q=0∨q=1) with rfl|rfl <;> exact .refl _
  have hop:=hP.op
  have hlen:=hP.len
  have hr1:=hop.r1
  have hr2:=hop.r2
  have hge:=hP.ge
  have hd:=hop.hd
  have hM:=Max_spec l (by omega) (by omega) fun x hx=>(hge x hx).1
  have hml:=mxL_le (l:=l) (b:=o.regs - 1) (by omega) fun x hx=>by have:=hge x hx;omega
  have hil:o.irs.length≤600:=hop.le
  have hI:=eachI_spec o.irs 48 (rnP (cpO o) l) (renI l) (by omega) trivial fun x hx=>by
   obtain ⟨i,hi,rfl⟩:=List.mem_iff_getElem.1 hx
   have h3:=regsI_of hop hi
   rw [List.getD_eq_getElem?_getD,List.getElem?_eq_getElem hi,Option.getD_some] at h3
   exact instr_spec _ l _ hll (by omega) h3.2.1 (by rw [hlen];exact h3.1)
  have hS:=eachS_spec o.descs 50 (.fptr 1 (fun _=>rnP (cpO o) l) 0) (fun fs=>fs.map (renF l)) (by omega) trivial fun x hx=>by
   obtain ⟨i,hi,rfl⟩:=List.mem_iff_getElem.1 hx
   have h3:=regsF_of hop (i:=i) (by omega)
   rw [List.getD_eq_getElem?_getD,List.getElem?_eq_getElem hi,Option.getD_some] at h3
   have h4:=hs _ (List.getElem_mem hi)
   exact ren1_spec _ l _ hll h4.1 h4.2 fun f hf=>by rw [hlen];exact h3 f hf
  have hMp:=eachM_spec o.maps 54 id h2.2.2.1 fun m hm=>ren2_spec m (h2.1 m hm)
  have hDp:=eachD_spec o.deps 57 id h2.2.2.2 fun m hm=>ren3_spec m (h2.2.1 m hm)
  rw [List.map_id] at hMp hDp
  have hwm:IntKind.i64.wrap (mxL l+1)=mxL l+1:=wrapI (by omega)
  refine runS mx (by decide) (by kernel_rfl) ?_
  repeat'(first|refine vcI ?_|refine And.intro ?_ ?_|(intro hq;(try simp at hq);(try(exfalso;omega));(try(revert hq;intro))))
  rw [cOpt]
  repeat'(first|refine vcI ?_|refine And.intro ?_ ?_|(intro hq;(try simp at hq);(try(exfalso;omega));(try(revert hq;intro))))
  first
  | refine CallS.frozen _ hM (plainAll rfl) ?_
  | refine QS.frozen _ hM (plainAll rfl) ?_
  repeat'(first|refine vcI ?_|refine And.intro ?_ ?_|(intro hq;(try simp at hq);(try(exfalso;omega));(try(revert hq;intro))))
  rw [hwm]
  first
  | refine CallS.frozen _ hI (plainAll rfl) ?_
  | refine QS.frozen _ hI (plainAll rfl) ?_
  repeat'(first|refine vcI ?_|refine And.intro ?_ ?_|(intro hq;(try simp at hq);(try(exfalso;omega));(try(revert hq;intro))))
  first
  | refine CallS.frozen _ hS (plainAll rfl) ?_
  | refine QS.frozen _ hS (plainAll rfl) ?_
  repeat'(first|refine vcI ?_|refine And.intro ?_ ?_|(intro hq;(try simp at hq);(try(exfalso;omega));(try(revert hq;intro))))
  obtain ⟨m,hm⟩:∃ m:Nat,mxL l+1=(m:Int):=⟨(mxL l+1).toNat,(Int.toNat_of_nonneg (by omega)).symm⟩
  refine ghostC (1,9) 9 (1,1000) (by decide) (by decide) 1 (fun _ _ => .undef) rfl rfl rfl fun v=>?_
  refine loopS2 mx (by decide) (by kernel_rfl) (fun (i vT:Nat)=>i≤o.irs.length) (fun i vT=>[(48,.int .i64 i),(47,.int .i64 o.irs.length),(9,.ptr (1,9) (nv9+1) [] 0 0),(6,cpO o),(1,ints l),(2,.fptr 12 (rowL (dol o)) 0),(4,.ptr (1,4) 1 [] 0 0),(5,.int .i64 0)]) (fun i vT=>[((1,1000),⟨vT,.own 1 i (rowT o l m)⟩),((1,9),⟨nv9+1,.obox 12 (outF o l i vT)⟩),((1,4),⟨1,.obox 12 (rowL zeroO)⟩)]) (fun i vT=>o.irs.length - i) 0 v (by simp) ⟨by ((repeat' apply And.intro) <;> (first|exact True.intro|exact NEq.refl _|(refine NEq.int ?_;first|exact rfl|omega|(rw [wrapI (by omega)];first|exact rfl|omega)))),⟨⟨rfl,.owns rfl rfl fun i o hi=>absurd hi (by simp)⟩,⟨rfl,.obox ?_⟩,⟨rfl,.refl _⟩,trivial⟩,.nil⟩ ?_
  ·intro q hq
   rcases (by have:q<12:=hq;omega:q=0∨q=1∨q=2∨q=3∨q=4∨q=5∨q=6∨q=7∨q=8∨q=9∨q=10∨q=11) with rfl|rfl|rfl|rfl|rfl|rfl|rfl|rfl|rfl|rfl|rfl|rfl
   all_goals exact .refl _
  clear v
  intro i vT nv hi
  have hwi:IntKind.i64.wrap ((i:Int)+1)=((i+1:Nat):Int):=wrapI (by omega)
  have hrr:(renO o l).regs=(m:Int):=hm
  have hmb:m≤250:=by omega
  repeat'(first|refine vcI ?_|refine And.intro ?_ ?_|(intro hq;(try simp at hq);(try(exfalso;omega));(try(revert hq;intro))))
  ·rw [hrr,show Tryz.prog.bytesOf 25=48 by kernel_rfl];omega
  ·rfl
  ·have hin:i<o.irs.length:=by assumption
   rw [hrr]
   obtain ⟨ts,hts⟩:∃ ts,ts=o.types.getD i []:=⟨_,rfl⟩
   obtain ⟨rs,hrs⟩:∃ rs,rs=liveL o i:=⟨_,rfl⟩
   refine Exists.intro (.own 5 m fun q c=>(dtl (tyF l ts (rs.take 0) q)).getD c .undef) (And.intro (NEq.owns rfl (by simp) fun q c hq hc=>?_) (And.intro rfl ?_))
   ·rcases (by have:c<5:=hc;omega:c=0∨c=1∨c=2∨c=3∨c=4) with rfl|rfl|rfl|rfl|rfl <;> exact .refl _
   repeat'(first|refine vcI ?_|refine And.intro ?_ ?_|(intro hq;(try simp at hq);(try(exfalso;omega));(try(revert hq;intro))))
   refine CallS.own (oints (liveL o i)) (fun id ver => .ref id ver [] 1 0 (liveL o i).length) (setList_spec _ (wordsP_lt _)) (plainAll rfl) ?_
   rw [← hrs]
   repeat'(first|refine vcI ?_|refine And.intro ?_ ?_|(intro hq;(try simp at hq);(try(exfalso;omega));(try(revert hq;intro))))
   have hrl:rs.length≤250:=by rw [hrs];exact listW_len _ _
   have hrb:∀ k,k<rs.length→0≤rs.getD k 0∧rs.getD k 0<(l.length:Int):=fun k hk=>by
    have h1:rs.getD k 0∈liveL o i:=by rw [← hrs,List.getD_eq_getElem?_getD];exact getD_mem _ hk
    obtain ⟨q,q1,q2,q3⟩:=mem_listW.1 h1
    have:=(((bit_wordsP _ _).1 q2).lt H).1
    omega
   have hlb:∀ k,k<rs.length→0≤l.getD (rs.getD k 0).toNat 0∧l.getD (rs.getD k 0).toNat 0<(m:Int):=fun k hk=>by
    have h1:=hrb k hk
    have h3:l.getD (rs.getD k 0).toNat 0∈l:=by rw [List.getD_eq_getElem?_getD];exact getD_mem _ (by omega)
    have h4:=hge _ h3
    have h5:=le_mxL h3
    omega
   have htl:((ts.length:Nat):Int)=o.regs:=by rw [hts];exact hop.ty i hin
   refine loopES4 (fun (k v60 v53 vT:Nat)=>k≤rs.length) (fun k v60 v53 vT=>[(62,.int .i64 k),(61,.int .i64 rs.length),(60,.ref (1,60) v60 [] 1 0 rs.length),(11,.ref (1,53) v53 [] 5 0 m),(10,.int .i64 i),(48,.int .i64 i),(47,.int .i64 o.irs.length),(9,.ptr (1,9) (nv9+1) [] 0 0),(6,cpO o),(1,ints l),(2,.fptr 12 (rowL (dol o)) 0),(4,.ptr (1,4) 1 [] 0 0),(5,.int .i64 0)]) (fun k v60 v53 vT=>[((1,60),⟨v60,oints rs⟩),((1,53),⟨v53,.own 5 m fun q c=>(dtl (tyF l ts (rs.take k) q)).getD c .undef⟩),((1,1000),⟨vT,.own 1 i (rowT o l m)⟩),((1,9),⟨nv9+1,.obox 12 (outF o l i vT)⟩),((1,4),⟨1,.obox 12 (rowL zeroO)⟩)]) (fun k v60 v53 vT=>rs.length - k) 0 _ _ _ (by simp) ⟨by ((repeat' apply And.intro) <;> (first|exact True.intro|exact NEq.refl _|(refine NEq.int ?_;first|exact rfl|omega|(rw [wrapI (by omega)];first|exact rfl|omega)))),⟨⟨rfl,.refl _⟩,⟨rfl,.refl _⟩,⟨rfl,.refl _⟩,⟨rfl,.refl _⟩,⟨rfl,.refl _⟩,trivial⟩,.nil⟩ ?_
   intro k v60 v53 vT nv hk
   have hwk:IntKind.i64.wrap ((k:Int)+1)=((k+1:Nat):Int):=wrapI (by omega)
   by_cases hkr:k<rs.length
   ·refine evS mx (by decide) (by kernel_rfl) ?_
    repeat'(first|refine vcI ?_|refine And.intro ?_ ?_|(intro hq;(try simp at hq);(try(exfalso;omega));(try(revert hq;intro))))
    all_goals try rw [show 0+(k:Int).toNat=k by omega]
    ·exact (hrb k hkr).1
    ·exact (hrb k hkr).2
    ·rw [hop.ht];omega
    ·exact (hrb k hkr).1
    ·have:=(hrb k hkr).2;show _<(((o.types.getD i []).length:Nat):Int);rw [← hts];omega
    ·exact (hlb k hkr).1
    ·have:=(hlb k hkr).2;omega
    ·exact shape_dtl _ _
    ·rw [show Tryz.prog.cellsOf 25=5 by kernel_rfl]
     refine Exists.intro (.own 5 m fun q c=>(dtl (tyF l ts (rs.take (k+1)) q)).getD c .undef) (And.intro (NEq.owns rfl rfl fun q c hq hc=>?_) (And.intro rfl ?_))
     ·refine ty_put (F:=fun a b=>(dtl ((o.types.getD i []).getD a default)).getD b .undef) (n:=(List.map (fun j=>(fun a b=>(dtl ((o.types.getD i []).getD a default)).getD b .undef) (rs.getD k 0).toNat (0+j)) (List.range 5)).length) l ts hkr hc (by rw [List.length_map,List.length_range]) ?_
      intro j hj
      rw [hts,Nat.zero_add]
     repeat'(first|refine vcI ?_|refine And.intro ?_ ?_|(intro hq;(try simp at hq);(try(exfalso;omega));(try(revert hq;intro))))
     exact Exists.intro (k+1,v60,v53,vT) ⟨by dsimp only;omega,(by first|omega|(dsimp only;omega)),⟨by ((repeat' apply And.intro) <;> (first|exact True.intro|exact NEq.refl _|(refine NEq.int ?_;first|exact rfl|omega|(rw [wrapI (by omega)];first|exact rfl|omega)))),⟨⟨rfl,.refl _⟩,⟨rfl,.refl _⟩,⟨rfl,.refl _⟩,⟨rfl,.refl _⟩,⟨rfl,.refl _⟩,trivial⟩,.nil⟩⟩
   ·obtain rfl:k=rs.length:=by omega
    refine freezeE (1,53) 11 9 (dts (tysR l (o.types.getD i []) (liveL o i) m)) rfl rfl ?_ ?_
    ·rw [← hts,← hrs,List.take_length]
     exact view_tys (k:=7) rfl
    refine evS mx (by decide) (by kernel_rfl) ?_
    repeat'(first|refine vcI ?_|refine And.intro ?_ ?_|(intro hq;(try simp at hq);(try(exfalso;omega));(try(revert hq;intro))))
    rw [show Tryz.prog.cellsOf 59=1 by kernel_rfl]
    repeat'(first|refine vcI ?_|refine And.intro ?_ ?_|(intro hq;(try simp at hq);(try(exfalso;omega));(try(revert hq;intro))))
    refine Exists.intro (.own 1 1 fun _ _=>dts (tysR l (o.types.getD i []) (liveL o i) m)) (And.intro ?_ (And.intro rfl ?_))
    ·refine NEq.owns rfl rfl fun a b ha hb=>?_
     obtain rfl:a=0:=by have:a<1:=ha;omega
     obtain rfl:b=0:=by have:b<1:=hb;omega
     exact .refl _
    repeat'(first|refine vcI ?_|refine And.intro ?_ ?_|(intro hq;(try simp at hq);(try(exfalso;omega));(try(revert hq;intro))))
    ·rw [show Tryz.prog.bytesOf 59=24 by kernel_rfl];omega
    ·omega
    refine Exists.intro (.own 1 (i+1) (rowT o l m)) (And.intro ?_ (And.intro rfl ?_))
    ·refine NEq.owns rfl rfl fun a b ha hb=>?_
     obtain rfl:b=0:=by have:b<1:=hb;omega
     by_cases e:a<i
     ·dsimp only;rw [if_pos e];exact .refl _
     ·obtain rfl:a=i:=by have:a<i+(1 - 0):=ha;omega
      dsimp only;rw [if_neg e];exact .refl _
    repeat'(first|refine vcI ?_|refine And.intro ?_ ?_|(intro hq;(try simp at hq);(try(exfalso;omega));(try(revert hq;intro))))
    refine Exists.intro (i+1,_) ⟨by dsimp only;omega,(by first|omega|(dsimp only;omega)),⟨by ((repeat' apply And.intro) <;> (first|exact True.intro|exact NEq.refl _|(refine NEq.int ?_;first|exact rfl|omega|(rw [wrapI (by omega)];first|exact rfl|omega)))),⟨⟨rfl,.refl _⟩,⟨rfl,.obox ?_⟩,⟨rfl,.refl _⟩,trivial⟩,.nil⟩⟩
    intro q hq
    rcases (by have:q<12:=hq;omega:q=0∨q=1∨q=2∨q=3∨q=4∨q=5∨q=6∨q=7∨q=8∨q=9∨q=10∨q=11) with rfl|rfl|rfl|rfl|rfl|rfl|rfl|rfl|rfl|rfl|rfl|rfl
    all_goals exact .refl _
  ·first
   | refine CallS.frozen _ hMp (plainAll rfl) ?_
   | refine QS.frozen _ hMp (plainAll rfl) ?_
   repeat'(first|refine vcI ?_|refine And.intro ?_ ?_|(intro hq;(try simp at hq);(try(exfalso;omega));(try(revert hq;intro))))
   first
   | refine CallS.frozen _ hDp (plainAll rfl) ?_
   | refine QS.frozen _ hDp (plainAll rfl) ?_
   repeat'(first|refine vcI ?_|refine And.intro ?_ ?_|(intro hq;(try simp at hq);(try(exfalso;omega));(try(revert hq;intro))))
   obtain rfl:i=o.irs.length:=by omega
   rw [show renE o l=(renO o l,0) by unfold renE;rw [if_pos h]]
   show NEq (view 9 _ (.tup [.agg (List.map _ (List.range (Tryz.prog.cellsOf 32))),_])) _
   rw [cOpt]
   refine NEq.tup2 (.agg rfl ?_) (.refl _)
   intro q hq
   rcases (by have:q<12:=hq;omega:q=0∨q=1∨q=2∨q=3∨q=4∨q=5∨q=6∨q=7∨q=8∨q=9∨q=10∨q=11) with rfl|rfl|rfl|rfl|rfl|rfl|rfl|rfl|rfl|rfl|rfl|rfl
   all_goals try exact .refl _
   show NEq _ (dtss (renT o l (mxL l+1).toNat))
   rw [mapD _ _ (by rw [List.length_map,List.length_range];omega)]
   show NEq (view 7 _ (.ref (1,1000) vT [] 1 0 o.irs.length)) (dtss (renT o l (mxL l+1).toNat))
   rw [show (mxL l+1).toNat=m by omega]
   exact view_types rfl
 ·rw [placedR_bad rfl h] at hp
  refine runS mx (by decide) (by kernel_rfl) ?_
  repeat'(first|refine vcI ?_|refine And.intro ?_ ?_|(intro hq;(try simp at hq);(try(exfalso;omega));(try(revert hq;intro))))
  rw [mk_optF,show renE o l=(noneO,chkE o l) by unfold renE;rw [if_neg h]]
  refine CallS.frozen _ hp (plainAll rfl) ?_
  repeat'(first|refine vcI ?_|refine And.intro ?_ ?_|(intro hq;(try simp at hq);(try(exfalso;omega));(try(revert hq;intro))))
  ·kernel_rfl
  show NEq (view 9 _ (.tup [.agg (List.map _ (List.range (Tryz.prog.cellsOf 32))),_])) _
  rw [cOpt]
  refine NEq.tup2 (.agg rfl ?_) (.refl _)
  intro q hq
  rcases (by have:q<12:=hq;omega:q=0∨q=1∨q=2∨q=3∨q=4∨q=5∨q=6∨q=7∨q=8∨q=9∨q=10∨q=11) with rfl|rfl|rfl|rfl|rfl|rfl|rfl|rfl|rfl|rfl|rfl|rfl
  all_goals first
  | exact .refl _
  | exact .nils
end Go.Ab
namespace Go.Proofs.YtbclepldghjacaaGreat.Common
open Go Go.Ab Go.Proofs
open Go.ChangeShapes Go.WideShapes Go.ChangeAt Go.RowKit
set_option maxRecDepth 100000

theorem rSlots2:Reads Tryz.prog 110 (List DS) (fun l=>[dss l]) (fun l=>l.length≤1048576) :=
 Reads.less (Reads.slice (default:DS) Tryz.underlying110 (by rw [cSlot];decide) rSlot) (fun l=>l) fun l hl=>⟨hl.1,LeL.sliceP cSlot rfl fun i o hi ho => .refl _⟩
theorem rMap2:Reads Tryz.prog 112 DM dml (fun m=>m.slots.length≤1048576) :=
 Reads.less (Reads.struct Tryz.underlying112 (by kernel_rfl) (RFs.cons rfl c1 rInt (RFs.cons rfl cSlots rSlots2 (RFs.nil _)))) (fun (v:Int × List DS × Unit)=>⟨v.1,v.2.1⟩) fun v hv=>⟨hv.2.1,LeL.same rfl⟩
theorem rMaps2:Reads Tryz.prog 26 (List DM) (fun l=>[dms l]) (fun l=>l.length≤1048576∧∀ m∈l,m.slots.length≤1048576) :=
 Reads.less (Reads.slice (default:DM) Tryz.underlying26 (by rw [cMap];decide) rMap2) (fun l=>l) fun l hl=>⟨hl,LeL.sliceP cMap rfl fun i o hi ho => .refl _⟩
theorem rDep2:Reads Tryz.prog 119 DP dpl (fun d=>d.map.slots.length≤1048576) :=
 Reads.less (Reads.struct Tryz.underlying119 (by kernel_rfl) (RFs.cons rfl c1 rInt (RFs.cons rfl cB rBool (RFs.cons rfl cMap rMap2 (RFs.cons rfl c1 rInt (RFs.cons rfl cVal rVal (RFs.nil _))))))) (fun (v:Int × Bool × DM × Int × (Int × Int × ByteArray) × Unit)=>⟨v.1,v.2.1,v.2.2.1,v.2.2.2.1,v.2.2.2.2.1.1,v.2.2.2.2.1.2.1,v.2.2.2.2.1.2.2⟩) fun v hv=>⟨hv.2.2.1,LeL.same rfl⟩
theorem rDeps2:Reads Tryz.prog 30 (List DP) (fun l=>[dps l]) (fun l=>l.length≤1048576∧∀ d∈l,d.map.slots.length≤1048576) :=
 Reads.less (Reads.slice (default:DP) Tryz.underlying30 (by rw [cDep];decide) rDep2) (fun l=>l) fun l hl=>⟨hl,LeL.sliceP cDep rfl fun i o hi ho => .refl _⟩
theorem rOpt2:Reads Tryz.prog 32 DO dol (fun o=>o.small∧small2 o) :=
 Reads.less (Reads.struct Tryz.underlying32 (by kernel_rfl) (RFs.cons rfl c1 rInt (RFs.cons rfl cTy rTy (RFs.cons rfl cMaps rMaps2 (RFs.cons rfl cIrs rIrs (RFs.cons rfl cFramess rFramess (RFs.cons rfl cTyss rTyss (RFs.cons rfl cDeps rDeps2 (RFs.cons rfl c1 rInt (RFs.nil _))))))))))
  (fun (v:Int × DT × List DM × List DI × List (List DF) × List (List DT) × List DP × Int × Unit)=>⟨v.1,v.2.1,v.2.2.1,v.2.2.2.1,v.2.2.2.2.1,v.2.2.2.2.2.1,v.2.2.2.2.2.2.1,v.2.2.2.2.2.2.2.1⟩) fun v hv=>⟨⟨⟨hv.2.2.2.1.1,hv.2.2.2.2.1.1,hv.2.2.2.2.2.1.1,hv.2.2.2.1.2,hv.2.2.2.2.1.2,hv.2.2.2.2.2.1.2⟩,hv.2.2.1.2,hv.2.2.2.2.2.2.1.2,hv.2.2.1.1,hv.2.2.2.2.2.2.1.1⟩,LeL.same rfl⟩
end Go.Proofs.YtbclepldghjacaaGreat.Common
namespace Go.Ab
open Go.Proofs
set_option maxRecDepth 100000
set_option maxHeartbeats 1000000

theorem listW_nodup (s:Nat→Nat):∀ n,(listW s n).Nodup
 | 0=>by simp [listW]
 | n+1=>by
  cases h:bitW s n
  ·rw [listW_no h];exact listW_nodup s n
  ·rw [listW_yes h,List.nodup_append]
   refine ⟨listW_nodup s n,by simp,fun a ha b hb=>?_⟩
   have:=listW_nn a ha
   rw [List.mem_singleton] at hb
   omega
end Go.Ab
namespace Go.Ab
open Go.Proofs
set_option maxRecDepth 100000
set_option maxHeartbeats 4000000

theorem gdm {α:Type} {d:α} {l:List α} {k:Nat} (hk:k<l.length):l.getD k d∈l:=by
 rw [List.getD_eq_getElem?_getD];exact getD_mem _ hk
theorem getD_map1 {α β:Type} (f:α→β) {l:List α} {k:Nat} (a:α) (b:β) (hk:k<l.length):(l.map f).getD k b=f (l.getD k a):=by
 rw [List.getD_eq_getElem?_getD,List.getD_eq_getElem?_getD,List.getElem?_map,List.getElem?_eq_getElem hk];rfl
def plI (l:List Int) (r:Int):Int:=l.getD r.toNat 0
section
variable {o:DO} {l:List Int}
theorem RightP.pl (hP:RightP o l) {r:Int} (h:0≤r∧r<o.regs):0≤plI l r∧plI l r<o.regs∧plI l r≤mxL l:=by
 have h1:=hP.len
 have h2:plI l r∈l:=gdm (by omega)
 have h3:=hP.ge _ h2
 exact ⟨h3.1,h3.2,le_mxL h2⟩
theorem act_ren (hP:RightP o l) {f:DF} (h:f.act≠0) (hr:0≤IntKind.i64.wrap (f.act - 1)∧IntKind.i64.wrap (f.act - 1)<o.regs):(renF l f).act≠0∧IntKind.i64.wrap ((renF l f).act - 1)=plI l (IntKind.i64.wrap (f.act - 1)):=by
 have h1:=hP.pl hr
 have h2:=hP.op.r2
 have e:(renF l f).act=plI l (IntKind.i64.wrap (f.act - 1))+1:=by
  show (if f.act=0 then f.act else IntKind.i64.wrap (plI l (IntKind.i64.wrap (f.act - 1))+1))=_
  rw [if_neg h];exact wrapI (by omega)
 rw [e]
 refine ⟨by omega,?_⟩
 rw [show plI l (IntKind.i64.wrap (f.act - 1))+1 - 1=plI l (IntKind.i64.wrap (f.act - 1)) by omega]
 exact wrapI (by omega)
theorem act_zero {f:DF} (h:f.act=0):(renF l f).act=0:=by
 show (if f.act=0 then f.act else _)=_
 rw [if_pos h];exact h
theorem renV_k (v:DV):(renV l v).k=v.k:=by unfold renV;split <;> rfl
theorem renV_n {v:DV} (h:v.k=1):(renV l v).n=plI l v.n:=by unfold renV;rw [if_pos h];rfl
theorem allL_ren (f:DF):allL (renF l f)=(allL f).map (renV l):=by simp [allL,renF]
theorem used_ren1 (hP:RightP o l) {fs:List DF} (hF:∀ f∈fs,RegsF o.regs f) (x:Int):x∈usesL (fs.map (renF l))↔∃ r∈usesL fs,plI l r=x:=by
 rw [usesL_mem]
 simp only [List.mem_map]
 constructor
 ·rintro ⟨_,⟨f,hf,rfl⟩,h⟩
  rcases h with ⟨v,hv,hk,rfl⟩|⟨ha,rfl⟩
  ·rw [allL_ren] at hv
   obtain ⟨u,hu,rfl⟩:=List.mem_map.1 hv
   rw [renV_k] at hk
   exact ⟨u.n,(usesL_mem _ _).2 ⟨f,hf,.inl ⟨u,hu,hk,rfl⟩⟩,(renV_n hk).symm⟩
  ·by_cases h0:f.act=0
   ·exact absurd (act_zero h0) ha
   ·have h1:=act_ren hP h0 ((hF f hf).act h0)
    exact ⟨_,(usesL_mem _ _).2 ⟨f,hf,.inr ⟨h0,rfl⟩⟩,h1.2.symm⟩
 ·rintro ⟨r,hr,rfl⟩
  obtain ⟨f,hf,h⟩:=(usesL_mem _ _).1 hr
  refine ⟨_,⟨f,hf,rfl⟩,?_⟩
  rcases h with ⟨u,hu,hk,rfl⟩|⟨h0,rfl⟩
  ·exact .inl ⟨renV l u,by rw [allL_ren];exact List.mem_map.2 ⟨u,hu,rfl⟩,by rw [renV_k];exact hk,renV_n hk⟩
  ·have h1:=act_ren hP h0 ((hF f hf).act h0)
   exact .inr ⟨h1.1,h1.2⟩
theorem used_ren (hP:RightP o l) {x:DI} {fs:List DF} (hI:RegsI o.regs x) (hF:∀ f∈fs,RegsF o.regs f) (hw:x.op=13→0≤x.m∧x.m<fs.length∧(fs.getD x.m.toNat default).act≠0):usedL (renI l x) (fs.map (renF l))=(usedL x fs).map (plI l):=by
 have hop:(renI l x).op=x.op:=rfl
 have hm:(renI l x).m=x.m:=rfl
 have ha:aB x.op=true→(renI l x).a=plI l x.a:=fun h=>by show (if _ then _ else _)=_;rw [if_pos h];rfl
 have hb:bB x.op=true→(renI l x).b=plI l x.b:=fun h=>by show (if _ then _ else _)=_;rw [if_pos h];rfl
 have hg:gB x.op=true→(renI l x).args=x.args.map (plI l):=fun h=>by show (if _ then _ else _)=_;rw [if_pos h];rfl
 unfold usedL
 rw [hop,hm]
 split
 ·rw [ha (by rename_i h;simp only [aB,Bool.or_eq_true,beq_iff_eq];omega)];rfl
 ·split
  ·rw [ha (by rename_i h;simp only [aB,Bool.or_eq_true,beq_iff_eq];omega),hb (by rename_i h;simp only [bB,Bool.or_eq_true,beq_iff_eq];omega)];rfl
  ·split
   ·rw [ha (by rename_i h;simp only [aB,Bool.or_eq_true,beq_iff_eq];omega),hg (by rename_i h;simp only [gB,Bool.or_eq_true,beq_iff_eq];omega)];rfl
   ·split
    ·rename_i h
     rw [ha (by simp only [aB,Bool.or_eq_true,beq_iff_eq];omega)]
     by_cases h0:x.n=0
     ·rw [if_pos h0,if_pos (show (renI l x).n=0 by show (if _ then _ else _)=_;rw [if_neg (fun k=>k.2 h0)];exact h0)];rfl
     ·have h1:=hI.n h h0
      have hr2:=hP.op.r2
      have w1:IntKind.i64.wrap (x.n - 1)=x.n - 1:=wrapI (by omega)
      have h2:=hP.pl (r:=x.n - 1) (by omega)
      have e:(renI l x).n=plI l (x.n - 1)+1:=by
       show (if _ then IntKind.i64.wrap (plI l (IntKind.i64.wrap (x.n - 1))+1) else _)=_
       rw [if_pos ⟨h,h0⟩,w1];exact wrapI (by omega)
      rw [if_neg h0,e,if_neg (by omega),w1,show plI l (x.n - 1)+1 - 1=plI l (x.n - 1) by omega,wrapI (by omega)];rfl
    ·split
     ·rename_i h
      obtain ⟨m1,m2,m3⟩:=hw h
      have hl:x.m.toNat<fs.length:=by omega
      rw [List.length_map,if_pos ⟨m1,m2⟩,if_pos ⟨m1,m2⟩,getD_map1 _ default default hl]
      rw [(act_ren hP m3 ((hF _ (gdm hl)).act m3)).2];rfl
     ·split
      ·exact hg (by rename_i h;simp only [gB,Bool.or_eq_true,beq_iff_eq];omega)
      ·rfl
theorem Op_13 (H:OpenP o) {i:Nat} (hi:i<o.irs.length) (h:(o.irs.getD i default).op=13):0≤(o.irs.getD i default).m∧(o.irs.getD i default).m<(o.descs.getD i []).length∧((o.descs.getD i []).getD (o.irs.getD i default).m.toNat default).act≠0:=by
 have hsh:=H.sh i hi
 simp only [shapedX,Bool.and_eq_true,decide_eq_true_eq,Bool.not_eq_true'] at hsh
 obtain ⟨s1,s2,s3,s4,s5,s6,s7⟩:=hsh
 unfold swB at s4
 rw [if_neg (by rw [show goesB (o.irs.getD i default).op=false by rw [h];rfl];simp),if_neg (by omega),if_pos h] at s4
 simp only [Bool.or_eq_false_iff,Bool.not_eq_false',insB,decide_eq_true_eq,beq_eq_false_iff_ne] at s4
 exact ⟨s4.1.1,s4.1.2,s4.2⟩
theorem ren_at (hP:RightP o l) {i:Nat} (hi:i<o.irs.length):(renO o l).irs.getD i default=renI l (o.irs.getD i default)∧(renO o l).descs.getD i []=(o.descs.getD i []).map (renF l) :=
 ⟨getD_map1 _ default default hi,getD_map1 _ [] [] (by have:=hP.op.hd;omega)⟩
theorem own_ren (hP:RightP o l) {i:Nat} (hi:i<o.irs.length) (x:Int):x∈usedL ((renO o l).irs.getD i default) ((renO o l).descs.getD i [])++usesL ((renO o l).descs.getD i [])↔∃ r∈usedL (o.irs.getD i default) (o.descs.getD i [])++usesL (o.descs.getD i []),plI l r=x:=by
 obtain ⟨e1,e2⟩:=ren_at hP hi
 have hF:=regsF_of hP.op hi
 rw [e1,e2,used_ren hP (regsI_of hP.op hi).1 hF (Op_13 hP.op hi)]
 simp only [List.mem_append,List.mem_map,used_ren1 hP hF]
 constructor
 ·rintro (⟨r,h,rfl⟩|⟨r,h,rfl⟩)
  ·exact ⟨r,.inl h,rfl⟩
  ·exact ⟨r,.inr h,rfl⟩
 ·rintro ⟨r,h|h,rfl⟩
  ·exact .inl ⟨r,h,rfl⟩
  ·exact .inr ⟨r,h,rfl⟩
theorem ren_regs:(renO o l).regs=mxL l+1:=rfl
theorem reg_ren {x:Int} (h:0≤x∧x<o.regs∧x≤mxL l):regB (renO o l) x=true:=by
 unfold regB
 rw [ren_regs,decide_eq_true h.1,decide_eq_true (show x<mxL l+1 by omega)];rfl
theorem ren_open (hP:RightP o l):OpenP (renO o l):=by
 have H:=hP.op
 have hlen:=hP.len
 have hr1:=H.r1
 have hr2:=H.r2
 have hge:=hP.ge
 have hml:=mxL_le (l:=l) (b:=o.regs - 1) (by omega) fun x hx=>by have:=hge x hx;omega
 have hil:(renO o l).irs.length=o.irs.length:=by simp [renO]
 refine ⟨by rw [hil];exact H.ne,by rw [hil];exact H.le,by simp [renO,H.hd],by simp [renO,renT],by rw [ren_regs];omega,by rw [ren_regs];omega,fun i hi=>?_,fun i hi=>?_,?_⟩
 ·rw [hil] at hi
  have e:(renO o l).types.getD i []=tysR l (o.types.getD i []) (liveL o i) (mxL l+1).toNat:=by
   show (renT o l _).getD i []=_
   rw [List.getD_eq_getElem?_getD,renT,List.getElem?_map,List.getElem?_range hi];rfl
  rw [e,ren_regs]
  simp only [tysR,List.length_map,List.length_range]
  omega
 ·rw [hil] at hi
  obtain ⟨e1,e2⟩:=ren_at hP hi
  have hI:=(regsI_of H hi).1
  have hF:=regsF_of H hi
  have hown:=own_ren hP hi
  have huse:=Op_use H hi
  have h13:=Op_13 H hi
  have hsh:=H.sh i hi
  rw [e1,e2] at hown ⊢
  simp only [shapedX,Bool.and_eq_true,decide_eq_true_eq,Bool.not_eq_true'] at hsh ⊢
  obtain ⟨s1,s2,s3,s4,s5,s6,s7⟩:=hsh
  have hbad:∀ L:List Int,(∀ x∈L,x∈usedL (renI l (o.irs.getD i default)) ((o.descs.getD i []).map (renF l))++usesL ((o.descs.getD i []).map (renF l)))→badL (renO o l) L=false:=fun L hL=>by
   refine List.any_eq_false.2 fun x hx=>?_
   obtain ⟨r,hr,rfl⟩:=(hown x).1 (hL x hx)
   have h1:=hP.pl (huse r hr)
   rw [reg_ren h1];simp
  refine ⟨s1,s2,?_,?_,hbad _ fun x hx=>List.mem_append_left _ hx,?_,hbad _ fun x hx=>List.mem_append_right _ hx⟩
  ·show (if _ then renA l _ else _).length≤20
   split
   ·rw [renA,List.length_map];exact s3
   ·exact s3
  ·generalize o.irs.getD i default=x at *
   generalize o.descs.getD i []=fs at *
   have hopx:(renI l x).op=x.op:=rfl
   have hmx:(renI l x).m=x.m:=rfl
   have hnx:x.op≠10→(renI l x).n=x.n:=fun h=>by show (if _ then _ else _)=_;rw [if_neg (fun k=>h k.1)]
   have hga:∀ k,k<fs.length→((fs.map (renF l)).getD k default).up=(fs.getD k default).up∧((((fs.map (renF l)).getD k default).act == 0)=((fs.getD k default).act == 0)):=fun k hk=>by
    rw [getD_map1 _ default default hk]
    refine ⟨rfl,?_⟩
    by_cases h0:(fs.getD k default).act=0
    ·rw [act_zero h0,h0]
    ·have h1:=act_ren hP h0 ((hF _ (gdm hk)).act h0)
     rw [beq_eq_false_iff_ne.2 h0,beq_eq_false_iff_ne.2 h1.1]
   unfold swB at s4 ⊢
   rw [hopx,hmx,hil,List.length_map]
   by_cases h10:x.op=10
   ·rw [if_neg (by simp [goesB,h10]),if_neg (by omega),if_neg (by omega),if_pos h10]
    rw [ren_regs]
    by_cases h0:x.n=0
    ·have e:(renI l x).n=0:=by show (if _ then _ else _)=_;rw [if_neg (fun k=>k.2 h0)];exact h0
     rw [e]
     simp only [Bool.or_eq_false_iff,decide_eq_false_iff_not]
     omega
    ·have h1:=hI.n h10 h0
     have w1:IntKind.i64.wrap (x.n - 1)=x.n - 1:=wrapI (by omega)
     have h2:=hP.pl (r:=x.n - 1) (by omega)
     have e:(renI l x).n=plI l (x.n - 1)+1:=by
      show (if _ then IntKind.i64.wrap (plI l (IntKind.i64.wrap (x.n - 1))+1) else _)=_
      rw [if_pos ⟨h10,h0⟩,w1];exact wrapI (by omega)
     rw [e]
     simp only [Bool.or_eq_false_iff,decide_eq_false_iff_not]
     omega
   ·rw [hnx h10]
    split at s4
    ·cases s4
    ·rename_i hg
     rw [if_neg hg]
     split at s4
     ·rename_i h12
      rw [if_pos h12]
      simp only [Bool.or_eq_false_iff,Bool.not_eq_false'] at s4
      have hin:0≤x.n∧x.n<fs.length:=by simpa [insB] using s4.1
      have g1:=hga x.n.toNat (by omega)
      rw [g1.1,s4.1]
      simp only [Bool.not_true,Bool.false_or]
      cases hu:insB fs.length (fs.getD x.n.toNat default).up
      ·rfl
      ·have hin2:0≤(fs.getD x.n.toNat default).up∧(fs.getD x.n.toNat default).up<fs.length:=by simpa [insB] using hu
       have g2:=hga (fs.getD x.n.toNat default).up.toNat (by omega)
       rw [g2.2]
       have s5:=s4.2
       rw [hu] at s5
       exact s5
     ·rename_i h12
      rw [if_neg h12]
      split at s4
      ·rename_i h13'
       rw [if_pos h13']
       have h3:=h13 h13'
       rw [(hga x.m.toNat (by omega)).2]
       exact s4
      ·rename_i h13'
       rw [if_neg h13',if_neg h10]
  ·cases hs:setsB (o.irs.getD i default).op with
   | false=>rw [show (renI l (o.irs.getD i default)).op=(o.irs.getD i default).op from rfl,hs];rfl
   | true =>
    have h1:=hP.pl (hI.d hs)
    have e:(renI l (o.irs.getD i default)).d=plI l (o.irs.getD i default).d:=by show (if _ then _ else _)=_;rw [if_pos hs];rfl
    rw [e]
    rw [reg_ren h1];simp
 ·rw [hil,(ren_at hP (by have:=H.ne;omega)).1]
  exact H.la
theorem goes_ren {x:DI} (i:Nat):goesL (renI l x) i=goesL x i:=by
 unfold goesL
 have hopx:(renI l x).op=x.op:=rfl
 rw [hopx]
 by_cases h:x.op=10
 ·have h9:¬ x.op=9:=by omega
  simp only [if_neg h9,if_pos (show x.op=10∨x.op=11 from .inl h)]
 ·have hnx:(renI l x).n=x.n:=by show (if _ then _ else _)=_;rw [if_neg (fun k=>h k.1)]
  rw [hnx]
theorem ren_live (hP:RightP o l) (H:FlH o) {i q:Nat}:LiveP (renO o l) i q↔∃ r:Nat,LiveP o i r∧plI l r=q:=by
 have hil:(renO o l).irs.length=o.irs.length:=by simp [renO]
 constructor
 ·intro h
  induction h with
  | use hi hu =>
   rw [hil] at hi
   obtain ⟨r,hr,e⟩:=(own_ren hP hi _).1 hu
   have h1:=H.use hi r hr
   obtain ⟨k,rfl⟩:=Int.eq_ofNat_of_zero_le h1.1
   exact ⟨k,.use hi hr,e⟩
  | @step i k q hi hk hl hd ih =>
   rw [hil] at hi
   obtain ⟨r,hr,e⟩:=ih
   rw [(ren_at hP hi).1] at hk hd
   rw [goes_ren] at hk
   refine ⟨r,.step hi hk hr fun hh=>hd ⟨hh.1,?_⟩,e⟩
   show (if _ then plI l _ else _)=_
   rw [if_pos hh.1,hh.2];exact e
 ·rintro ⟨r,h,e⟩
  induction h generalizing q with
  | use hi hu=>exact .use (by rw [hil];exact hi) ((own_ren hP hi _).2 ⟨_,hu,e⟩)
  | @step i k r hi hk hl hd ih =>
   have hk':=H.go i hi k hk
   refine .step (by rw [hil];exact hi) (by rw [(ren_at hP hi).1,goes_ren];exact hk) (ih e) fun hh=>?_
   rw [(ren_at hP hi).1] at hh
   have hs:setsB (o.irs.getD i default).op=true:=hh.1
   have hd2:(renI l (o.irs.getD i default)).d=plI l (o.irs.getD i default).d:=by show (if _ then plI l _ else _)=_;rw [if_pos hs]
   have hdr:=(regsI_of hP.op hi).1.d hs
   obtain ⟨d,hdd⟩:=Int.eq_ofNat_of_zero_le hdr.1
   have hne:d≠r:=fun e2=>hd ⟨hs,by rw [hdd,e2]⟩
   have hc:ColP o d r:=⟨i,hi,.inr ⟨hs,.inl ⟨hdd.symm,.inr ⟨k,hk,by rw [Int.toNat_natCast];exact hl⟩⟩⟩⟩
   refine hP.apart d r hc hne ?_
   have e3:=hh.2
   rw [hd2,hdd] at e3
   show plI l d=plI l r
   rw [e3,e]
theorem live_mem (H:FlH o) {i:Nat} {x:Int}:x∈liveL o i↔∃ r:Nat,LiveP o i r∧(r:Int)=x:=by
 constructor
 ·intro h
  obtain ⟨q,q1,q2,q3⟩:=mem_listW.1 h
  exact ⟨q,(bit_wordsP _ _).1 q2,q3.symm⟩
 ·rintro ⟨r,h,rfl⟩
  have:=(h.lt H).1
  have:=H.hr
  exact (mem_liveL (by omega)).2 h
theorem ren_list (hP:RightP o l) (H:FlH o) (H':FlH (renO o l)) (i:Nat):(∀ r∈liveL o i,plI l r∈liveL (renO o l) i)∧(liveL (renO o l) i).length=(liveL o i).length:=by
 have h1:∀ r∈liveL o i,plI l r∈liveL (renO o l) i:=fun x hx=>by
  obtain ⟨r,hr,rfl⟩:=(live_mem H).1 hx
  have h2:=hP.pl (r:=(r:Int)) ⟨by omega,(hr.lt H).1⟩
  obtain ⟨q,hq⟩:=Int.eq_ofNat_of_zero_le h2.1
  exact (live_mem H').2 ⟨q,(ren_live hP H).2 ⟨r,hr,hq⟩,hq.symm⟩
 refine ⟨h1,?_⟩
 have hnd:((liveL o i).map (plI l)).Nodup:=by
  rw [List.Nodup,List.pairwise_map]
  refine List.Pairwise.imp_of_mem (fun ha hb hab=>?_) (listW_nodup _ 250)
  obtain ⟨p,hp,rfl⟩:=(live_mem H).1 ha
  obtain ⟨q,hq,rfl⟩:=(live_mem H).1 hb
  exact hP.apart p q ⟨i,(hp.lt H).2,.inl ⟨hp,hq⟩⟩ (by omega)
 have a1:=nodup_len hnd (m:=liveL (renO o l) i) fun x hx=>by
  obtain ⟨r,hr,rfl⟩:=List.mem_map.1 hx;exact h1 r hr
 have a2:(liveL (renO o l) i).length≤_:=nodup_len (listW_nodup _ 250:(liveL (renO o l) i).Nodup) (m:=(liveL o i).map (plI l)) fun x hx=>by
  obtain ⟨q,hq,rfl⟩:=(live_mem H').1 hx
  obtain ⟨r,hr,e⟩:=(ren_live hP H).1 hq
  exact List.mem_map.2 ⟨r,(live_mem H).2 ⟨r,hr,rfl⟩,e⟩
 rw [List.length_map] at a1 a2
 omega
theorem sumL_map2 {α β:Type} {f:β→Nat} {g:α→Nat} {h:α→β} {l:List α} (e:∀ x∈l,f (h x)=g x):sumL f (l.map h)=sumL g l:=by
 unfold sumL
 rw [List.map_map]
 congr 1
 exact List.map_congr_left e
theorem sumL_le2 {α:Type} (d:α) {f:α→Nat} {b c:Nat} {l:List α} (hc:l.length≤c) (h:∀ x∈l,f x=b):sumL f l=l.length*b:=by
 unfold sumL
 rw [List.map_congr_left h,List.map_const',List.sum_replicate_nat]
theorem ren_few (hP:RightP o l) (hf:fewN o≤6000):fewN (renO o l)≤6000:=by
 have H:=hP.op
 have hlen:=hP.len
 have hr2:=H.r2
 have hge:=hP.ge
 have hml:=mxL_le (l:=l) (b:=o.regs - 1) (by have:=H.r1;omega) fun x hx=>by have:=hge x hx;omega
 have e1:sumL (fun x:DI=>x.args.length) (o.irs.map (renI l))=sumL (fun x:DI=>x.args.length) o.irs:=sumL_map2 fun x _=>by
  show (if _ then renA l _ else _).length=_
  split
  ·rw [renA,List.length_map]
  ·rfl
 have e2:sumL frN (o.descs.map fun fs=>fs.map (renF l))=sumL frN o.descs:=sumL_map2 fun fs _=>by
  unfold frN
  rw [List.length_map,sumL_map2 (g:=fun f=>f.vars.length+f.stack.length) fun f _=>by simp [renF]]
 have e3:sumL List.length (renT o l (mxL l+1).toNat)=o.irs.length*(mxL l+1).toNat:=by
  rw [sumL_le2 [] (b:=(mxL l+1).toNat) (Nat.le_refl _) fun x hx=>by
   obtain ⟨i,_,rfl⟩:=List.mem_map.1 hx
   simp [tysR]]
  simp [renT]
 have e4:sumL List.length o.types=o.types.length*o.regs.toNat:=sumL_le2 [] (Nat.le_refl _) fun x hx=>by
  obtain ⟨i,hi,rfl⟩:=List.mem_iff_getElem.1 hx
  have h1:=H.ty i (by have:=H.ht;omega)
  rw [List.getD_eq_getElem?_getD,List.getElem?_eq_getElem hi,Option.getD_some] at h1
  omega
 have e5:o.irs.length*(mxL l+1).toNat≤o.types.length*o.regs.toNat:=by rw [H.ht];exact Nat.mul_le_mul_left _ (by omega)
 have e6:(renT o l (mxL l+1).toNat).length=o.irs.length:=by simp [renT]
 have ht:=H.ht
 unfold fewN at hf ⊢
 show (o.irs.map (renI l)).length+(o.descs.map fun fs=>fs.map (renF l)).length+(renT o l (mxL l+1).toNat).length+sumL (fun x:DI=>x.args.length) (o.irs.map (renI l))+sumL List.length (renT o l (mxL l+1).toNat)+sumL frN (o.descs.map fun fs=>fs.map (renF l))≤6000
 rw [e1,e2,e3,e6,List.length_map,List.length_map]
 omega
end
end Go.Ab
namespace Go.Ab
open Go.Proofs
set_option maxRecDepth 100000
set_option maxHeartbeats 8000000

theorem widthL_mx {l:List Int} (h:∀ x∈l,0≤x∧x<1000) (h0:0<l.length):widthL l=mxL l+1:=by
 have key:∀ (l:List Int) (a:Int),(∀ x∈l,0≤x∧x<1000)→l.foldl (fun n x=>if IntKind.i64.wrap (x+1)>n then IntKind.i64.wrap (x+1) else n) (a+1)=l.foldl max a+1:=by
  intro l
  induction l with
  | nil=>intro a _;rfl
  | cons x l ih =>
   intro a hx
   have h1:=hx x (by simp)
   rw [List.foldl_cons,List.foldl_cons,wrapI (by omega),show (if x+1>a+1 then x+1 else a+1)=max a x+1 by split <;> omega]
   exact ih _ fun y hy=>hx y (by simp [hy])
 cases l with
 | nil=>cases h0
 | cons x l =>
  have hx:=h x (by simp)
  unfold widthL mxL
  rw [List.foldl_cons,List.foldl_cons,wrapI (by omega),show (if x+1>0 then x+1 else 0)=max 0 x+1 by split <;> omega]
  exact key _ _ fun y hy=>h y (by simp [hy])
theorem mkV_opt (f:Nat→PV) (off:Nat):mkV Tryz.prog 32 f off = .agg (List.map (fun j=>f (off+j)) (List.range 12)):=by
 show PV.agg (List.map _ (List.range (Tryz.prog.cellsOf 32)))=_
 rw [cOpt]
theorem ren_small {o:DO} {l:List Int} (hs:∀ x∈o.descs,x.length≤1048576∧∀ f∈x,f.small):∀ x∈(renO o l).descs,x.length≤1048576∧∀ f∈x,f.small:=fun x hx=>by
 obtain ⟨fs,hf,rfl⟩:=List.mem_map.1 hx
 obtain ⟨h1,h2⟩:=hs fs hf
 refine ⟨by rw [List.length_map];exact h1,fun f hf=>?_⟩
 obtain ⟨g,hg,rfl⟩:=List.mem_map.1 hf
 have:=h2 g hg
 exact ⟨by simp only [renF,List.length_map];exact this.1,by simp only [renF,List.length_map];exact this.2⟩
theorem RenamedLaw_spec (o:DO) (ho:o.small) (h2:small2 o) (l:List Int) (hll:l.length≤1048576) (i:Int):CallsF Tryz.prog 5 [.agg (dol o),ints l,.int .i64 i] (.bool true):=by
 have haw:=awake_spec
 have hfs:=few_spec o ho
 refine callsF_ofS mx Tryz.call5 Tryz.func5 rfl Tryz.ntmps5 Tryz.results5 (by kernel_rfl) (by simp) fun lo=>?_
 repeat'(first|refine vcI ?_|refine And.intro ?_ ?_|(intro hq;(try simp at hq);(try(exfalso;omega));(try(revert hq;intro))))
 first
 | refine CallS.frozen _ haw (plainAll rfl) ?_
 | refine QS.frozen _ haw (plainAll rfl) ?_
 repeat'(first|refine vcI ?_|refine And.intro ?_ ?_|(intro hq;(try simp at hq);(try(exfalso;omega));(try(revert hq;intro))))
 rw [mk_opt]
 rcases hfew:fewB o with _|_
 ·rw [hfew] at hfs
  first
  | refine CallS.frozen _ hfs (plainAll rfl) ?_
  | refine QS.frozen _ hfs (plainAll rfl) ?_
  repeat'(first|refine vcI ?_|refine And.intro ?_ ?_|(intro hq;(try simp at hq);(try(exfalso;omega));(try(revert hq;intro))))
  exact .refl _
 ·rw [hfew] at hfs
  have hf:fewN o≤6000:=by simp only [fewB,Bool.and_eq_true,decide_eq_true_eq] at hfew;exact hfew.1
  have hs:=ho.2.2.2.2.1
  have c1:=Places_spec o hf hs
  first
  | refine CallS.frozen _ hfs (plainAll rfl) ?_
  | refine QS.frozen _ hfs (plainAll rfl) ?_
  repeat'(first|refine vcI ?_|refine And.intro ?_ ?_|(intro hq;(try simp at hq);(try(exfalso;omega));(try(revert hq;intro))))
  ·exact .refl _
  rw [mk_opt]
  by_cases HO:OpenP o
  ·have hpr:=plcL_right HO hf hs
   have hr1:=HO.r1
   have hr2:=HO.r2
   have hplen:=hpr.len
   have hpl:(plcL o).length≤1048576:=by omega
   have hge:=hpr.ge
   have hc0:=(chkE_zero hf hs).2 hpr
   have c2:=Rename_spec o (plcL o) hpl hf hs h2
   have eq1:renE o (plcL o)=(renO o (plcL o),0):=by unfold renE;rw [if_pos hc0]
   have HQ:=ren_open hpr
   have hqf:=ren_few hpr hf
   have hqs:=ren_small (l:=plcL o) hs
   have hqr:=plcL_right HQ hqf hqs
   have c3:=Places_spec (renO o (plcL o)) hqf hqs
   rw [show plcE o=(plcL o,0) by unfold plcE;rw [if_pos HO]] at c1
   rw [eq1] at c2
   rw [show plcE (renO o (plcL o))=(plcL (renO o (plcL o)),0) by unfold plcE;rw [if_pos HQ]] at c3
   have hml:=mxL_le (l:=plcL o) (b:=o.regs - 1) (by omega) fun x hx=>by have:=hge x hx;omega
   have hw1:widthL (plcL o)=mxL (plcL o)+1:=widthL_mx (fun x hx=>by have:=hge x hx;omega) (by omega)
   have hqge:=hqr.ge
   have hqlen:=hqr.len
   have hregs:(renO o (plcL o)).regs=mxL (plcL o)+1:=rfl
   have hqm:=mxL_le (l:=plcL (renO o (plcL o))) (b:=(renO o (plcL o)).regs - 1) (by omega) fun x hx=>by have:=hqge x hx;omega
   have hw2:widthL (plcL (renO o (plcL o)))=mxL (plcL (renO o (plcL o)))+1:=widthL_mx (fun x hx=>by have:=hqge x hx;omega) (by omega)
   have w1:=width_spec (plcL o) hpl
   have w2:=width_spec (plcL (renO o (plcL o))) (by omega)
   have b1:decide (widthL (plcL (renO o (plcL o)))>widthL (plcL o))=false:=decide_eq_false (by omega)
   have b2:((renO o (plcL o)).regs != widthL (plcL o))=false:=by rw [hregs,hw1];exact bne_self_eq_false _
   have c4:=Rename_spec o l hll hf hs h2
   have c5:=Check_spec o l hll hf hs
   generalize hQ:renO o (plcL o)=Q at *
   generalize hP:plcL o=P at *
   generalize hO:plcL Q=O at *
   first
   | refine CallS.frozen _ c1 (plainAll rfl) ?_
   | refine QS.frozen _ c1 (plainAll rfl) ?_
   repeat'(first|refine vcI ?_|refine And.intro ?_ ?_|(intro hq;(try simp at hq);(try(exfalso;omega));(try(revert hq;intro))))
   rw [mk_opt]
   first
   | refine CallS.frozen _ c2 (plainAll rfl) ?_
   | refine QS.frozen _ c2 (plainAll rfl) ?_
   repeat'(first|refine vcI ?_|refine And.intro ?_ ?_|(intro hq;(try simp at hq);(try(exfalso;omega));(try(revert hq;intro))))
   rw [mkV_opt]
   first
   | refine CallS.frozen _ c3 (plainAll rfl) ?_
   | refine QS.frozen _ c3 (plainAll rfl) ?_
   repeat'(first|refine vcI ?_|refine And.intro ?_ ?_|(intro hq;(try simp at hq);(try(exfalso;omega));(try(revert hq;intro))))
   first
   | refine CallS.frozen _ w2 (plainAll rfl) ?_
   | refine QS.frozen _ w2 (plainAll rfl) ?_
   repeat'(first|refine vcI ?_|refine And.intro ?_ ?_|(intro hq;(try simp at hq);(try(exfalso;omega));(try(revert hq;intro))))
   first
   | refine CallS.frozen _ w1 (plainAll rfl) ?_
   | refine QS.frozen _ w1 (plainAll rfl) ?_
   repeat'(first|refine vcI ?_|refine And.intro ?_ ?_|(intro hq;(try simp at hq);(try(exfalso;omega));(try(revert hq;intro))))
   conv=>whnf
   rw [b1]
   first
   | refine CallS.frozen _ w1 (plainAll rfl) ?_
   | refine QS.frozen _ w1 (plainAll rfl) ?_
   repeat'(first|refine vcI ?_|refine And.intro ?_ ?_|(intro hq;(try simp at hq);(try(exfalso;omega));(try(revert hq;intro))))
   conv=>whnf
   rw [b2]
   repeat'(first|refine vcI ?_|refine And.intro ?_ ?_|(intro hq;(try simp at hq);(try(exfalso;omega));(try(revert hq;intro))))
   try rw [mk_opt]
   by_cases hc:chkE o l=0
   ·have hP2:=(chkE_zero hf hs).1 hc
    have H:=HO.fl hf hs
    have HR:=ren_open hP2
    have hrf:=ren_few hP2 hf
    have hrs:=ren_small (l:=l) hs
    have H':=HR.fl hrf hrs
    have hlen:=hP2.len
    have eq2:renE o l=(renO o l,0):=by unfold renE;rw [if_pos hc]
    have c6:=Live_spec o i hf hs
    have c7:=Live_spec (renO o l) i hrf hrs
    rw [eq2] at c4
    obtain ⟨a,b,e,ea,eb,hm,hn,hlv,hl250⟩:∃ a b e,liveE o i=(a,e)∧liveE (renO o l) i=(b,e)∧(∀ r∈a,plI l r∈b)∧b.length=a.length∧(∀ x∈a,0≤x∧x<(l.length:Int))∧a.length≤250:=by
     by_cases hi:0≤i∧i<(o.irs.length:Int)
     ·obtain ⟨hm,hn⟩:=ren_list hP2 H H' i.toNat
      exact ⟨liveL o i.toNat,liveL (renO o l) i.toNat,0,by unfold liveE;rw [if_pos HO,if_pos hi],by unfold liveE;rw [if_pos HR,if_pos ⟨hi.1,by simp only [renO,List.length_map];exact hi.2⟩],hm,hn,fun x hx=>by
       obtain ⟨r,hr,rfl⟩:=(live_mem H).1 hx
       have:=(hr.lt H).1
       omega,listW_len _ _⟩
     ·exact ⟨[],[],3,(by unfold liveE;rw [if_pos HO,if_neg hi]),(by unfold liveE;rw [if_pos HR,if_neg (by simp only [renO,List.length_map];exact hi)]),(fun r hr=>nomatch hr),rfl,(fun r hr=>nomatch hr),Nat.zero_le _⟩
    rw [ea] at c6
    rw [eb] at c7
    generalize renO o l=R at *
    first
    | refine CallS.frozen _ c4 (plainAll rfl) ?_
    | refine QS.frozen _ c4 (plainAll rfl) ?_
    repeat'(first|refine vcI ?_|refine And.intro ?_ ?_|(intro hq;(try simp at hq);(try(exfalso;omega));(try(revert hq;intro))))
    rw [mk_opt]
    first
    | refine CallS.frozen _ c6 (plainAll rfl) ?_
    | refine QS.frozen _ c6 (plainAll rfl) ?_
    repeat'(first|refine vcI ?_|refine And.intro ?_ ?_|(intro hq;(try simp at hq);(try(exfalso;omega));(try(revert hq;intro))))
    rw [mkV_opt]
    first
    | refine CallS.frozen _ c7 (plainAll rfl) ?_
    | refine QS.frozen _ c7 (plainAll rfl) ?_
    repeat'(first|refine vcI ?_|refine And.intro ?_ ?_|(intro hq;(try simp at hq);(try(exfalso;omega));(try(revert hq;intro))))
    ·simp
    ·simp
    refine loopS mx (by decide) (by kernel_rfl) (fun (k:Nat)=>k≤a.length) (fun k=>[(18,.int .i64 k),(15,ints a),(16,ints b),(1,ints l),(7,.bool true)]) (fun k=>[]) (fun k=>a.length - k) 0 (by simp) ⟨by ((repeat' apply And.intro) <;> (first|exact True.intro|exact NEq.refl _|(refine NEq.int ?_;first|exact rfl|omega|(rw [wrapI (by omega)];first|exact rfl|omega)))),trivial,.nil⟩ ?_
    intro k nv hk
    have hwk:IntKind.i64.wrap ((k:Int)+1)=((k+1:Nat):Int):=wrapI (by omega)
    repeat'(first|refine vcI ?_|refine And.intro ?_ ?_|(intro hq;(try simp at hq);(try(exfalso;omega));(try(revert hq;intro))))
    ·rename_i h1
     exact (hlv _ (gdm h1)).1
    ·rename_i h1
     exact (hlv _ (gdm h1)).2
    ·rename_i h1
     have hh:=has_spec b (plI l (a.getD k 0))
     rw [List.contains_iff_mem.2 (hm _ (gdm h1))] at hh
     first
     | refine CallS.frozen _ hh (plainAll rfl) ?_
     | refine QS.frozen _ hh (plainAll rfl) ?_
     repeat'(first|refine vcI ?_|refine And.intro ?_ ?_|(intro hq;(try simp at hq);(try(exfalso;omega));(try(revert hq;intro))))
     exact Exists.intro (k+1) ⟨by dsimp only;omega,(by first|omega|(dsimp only;omega)),⟨by ((repeat' apply And.intro) <;> (first|exact True.intro|exact NEq.refl _|(refine NEq.int ?_;first|exact rfl|omega|(rw [wrapI (by omega)];first|exact rfl|omega)))),trivial,.nil⟩⟩
    ·exact .refl _
   ·have eq2:renE o l=(noneO,chkE o l):=by unfold renE;rw [if_neg hc]
    rw [eq2] at c4
    generalize chkE o l=e at *
    first
    | refine CallS.frozen _ c4 (plainAll rfl) ?_
    | refine QS.frozen _ c4 (plainAll rfl) ?_
    repeat'(first|refine vcI ?_|refine And.intro ?_ ?_|(intro hq;(try simp at hq);(try(exfalso;omega));(try(revert hq;intro))))
    try rw [cOpt]
    first
    | refine CallS.frozen _ c5 (plainAll rfl) ?_
    | refine QS.frozen _ c5 (plainAll rfl) ?_
    repeat'(first|refine vcI ?_|refine And.intro ?_ ?_|(intro hq;(try simp at hq);(try(exfalso;omega));(try(revert hq;intro))))
    rw [beq_self_eq_true]
    exact .refl _
  ·rw [show plcE o=([],210) by unfold plcE;rw [if_neg HO]] at c1
   first
   | refine CallS.frozen _ c1 (plainAll rfl) ?_
   | refine QS.frozen _ c1 (plainAll rfl) ?_
   repeat'(first|refine vcI ?_|refine And.intro ?_ ?_|(intro hq;(try simp at hq);(try(exfalso;omega));(try(revert hq;intro))))
   exact .refl _
end Go.Ab
namespace Go.Proofs.YtbclepldghjacaaGreat.regsRenamed
open Go Go.Ab Go.Proofs
open Go.Proofs.YtbclepldghjacaaGreat.Common
open Go.ChangeShapes Go.WideShapes Go.ChangeAt Go.RowKit
set_option maxRecDepth 100000

theorem params:∀ t∈Tryz.f5.params.toList,t<Tryz.prog.types.size:=by
 have h:Tryz.f5.params.toList.all (fun t=>Nat.blt t Tryz.prog.types.size)=true:=by kernel_rfl
 intro t ht
 simpa [Nat.blt_eq] using List.all_eq_true.1 h t ht

theorem contract (H:Type) (enc:TypeId × Value→H) (W:World) (base:Nat) (args:Array Value) (ds gs:List (DataW H)) (before:List MemPlace)
  (hval:∀ (j:Nat) t v,Tryz.f5.params[j]?=some t→args[j]?=some v→Value.okWide Tryz.prog W .any base t v)
  (hW:DataW.Whole enc Tryz.prog Tryz.f5.params.toList Rows.regsRenamedSpec.vars false W args.toList ds gs before) (hk:Rows.uptoSmall H (ds++gs)=true) :
  Calls Tryz.prog 5 args W fun e W'=>∃ v,e = .returned v∧Rows.regsRenamedSpec.post enc Tryz.prog Tryz.f5 false true false false W args v W':=by
 have hW':=hW
 obtain ⟨p,q,hA0,hV,rfl,hfz,hnd⟩:=hW
 have hA:DataW.TrodAll enc Tryz.prog W 0 (fun _=>true) true Tryz.f5.params.toList args.toList ds p:=hA0
 rw [Tryz.params5] at hA hval
 obtain ⟨v0,vs0,d0,ds0,p0,q0,hargs,rfl,rfl,h0,r0⟩:=trodAll_cons hA
 obtain ⟨v1,vs1,d1,ds1,p1,q1,rfl,rfl,rfl,h1,r1⟩:=trodAll_cons r0
 obtain ⟨v2,vs2,d2,ds2,p2,q2,rfl,rfl,rfl,h2,r2⟩:=trodAll_cons r1
 obtain ⟨rfl,rfl,rfl⟩:=trodAll_nil r2
 obtain rfl:args=#[v0,v1,v2]:=by cases args;simp_all
 obtain ⟨rfl,rfl⟩:=trodVars_none hV
 have hs:=small (by simpa using hk)
 obtain ⟨o,ho,e0⟩:=rOpt2.argStruct Tryz.underlying32 (hval 0 _ v0 rfl rfl) h0 (hs _ (by simp))
 obtain ⟨l,hl,e1⟩:=rInts.argSlice Tryz.underlying35 ints (fun _=>rfl) (hval 1 _ v1 rfl rfl) h1 (hs _ (by simp))
 obtain ⟨i,hi,e2⟩:=Reads.argInt Tryz.underlying3 (hval 2 _ v2 rfl rfl) h2 (hs _ (by simp))
 exact law_of laidOut rowed sizes params rfl rfl rfl Tryz.underlying4 hW' (RenamedLaw_spec o ho.1 ho.2 l hl i) (.cons0 e0 (.cons0 e1 (.cons0 e2 .nil0)))

theorem lifted (os:Os) (started:os.Started) (H:Type) (enc:TypeId × Value→H) (F:Stop.Interp) :
  ReturnsInHanded {} Tryz.checked os 5 .any ((Rows.OpenSpec.upto Rows.regsRenamedSpec).pre6 enc Tryz.prog Tryz.f5 Rows.regsRenamedUptoRow.domain false) (((Rows.OpenSpec.upto Rows.regsRenamedSpec).at F).post enc Tryz.prog Tryz.f5 false true false false):=by
 refine returnsInHanded_of_cond (C:=Tryz.checked) (s:=Rows.OpenSpec.upto Rows.regsRenamedSpec) (k:=Rows.uptoSmall) rfl own started (by kernel_rfl) Tryz.func5
  (OpenSpec.witness (enc:=enc) (C:=Tryz.checked) (s:=Rows.OpenSpec.upto Rows.regsRenamedSpec) (k:=Rows.uptoSmall) rfl false ⟨#[],#[.agg #[.int .i64 0,.int .i64 0,.int .i64 0,.int .i64 0,.int .i64 0,.string ⟨#[]⟩,.slice none 0 0,.slice none 0 0,.slice none 0 0,.slice none 0 0,.slice none 0 0,.int .i64 0],.slice none 0 0,.int .i64 0],[]⟩ 8 (by kernel_rfl) (by kernel_rfl) (by kernel_rfl)
   (x:=([.agg [.lit (.int .i64 0),.agg [.lit (.int .i64 0),.lit (.int .i64 0),.agg [.lit (.int .i64 0),.lit (.int .i64 0),.lit (.string [])]],.nil,.nil,.nil,.nil,.nil,.lit (.int .i64 0)],.nil,.lit (.int .i64 0)],[],[])) (by kernel_rfl) rfl (by kernel_rfl)) ?_
 intro W base args ds gs before hval hW _ hk _
 exact contract H enc W base args ds gs before hval hW hk

theorem proved:Rows.RegsRenamedUptoSaid :=
 OpenClaim.holds_of_cond 5 Tryz.f5 rfl rfl rfl rfl rfl rfl rfl ⟨rfl,rfl,rfl,rfl,rfl⟩ rfl rfl rfl rfl rfl (by kernel_rfl) Tryz.func5 (by kernel_rfl)
  (of_decide_eq_true (by kernel_rfl)) (by unfold Func.isWrapper;first|(rw [if_pos (by decide +kernel)];kernel_rfl)|(rw [if_neg (by decide +kernel)];exact ⟨rfl,rfl⟩))
  (fun os started H enc _ F=>lifted os started H enc F)
#print axioms proved
end Go.Proofs.YtbclepldghjacaaGreat.regsRenamed
