/- Registers that meet. -/
import Derived.Test.YtbclepldghjacaaGreatA3
import Derived.Shelf.Sort.Plain
import Derived.Test.YtbclepldghjacaaGreatProg
import Derived.Shelf.Slices.In.SortNone
set_option linter.unusedVariables false
set_option linter.unusedSimpArgs false
namespace Go.Ab
open Go.Proofs
set_option maxRecDepth 100000
set_option maxHeartbeats 1000000

theorem LeHp.nodup {L:Hp} (h:(L.map (·.1)).Nodup):LeHp L L:=by
 have key:∀ (M L:Hp),(L.map (·.1)).Nodup→(∀ x∈M,x∈L)→LeHp L M:=by
  intro M
  induction M with
  | nil=>intro L _ _;trivial
  | cons x M ih =>
   intro L hn hm
   refine ⟨?_,ih L hn fun y hy=>hm y (List.mem_cons_of_mem _ hy)⟩
   have hx:=hm x (by simp)
   have:lkH L x.1=some x.2:=by
    clear ih hm
    induction L with
    | nil=>cases hx
    | cons y L ih2 =>
     obtain ⟨k,v⟩:=y
     simp only [List.map_cons,List.nodup_cons] at hn
     simp only [lkH]
     rcases List.mem_cons.1 hx with rfl|hx'
     ·simp
     ·rw [if_neg (fun e=>hn.1 (by rw [← e];exact List.mem_map_of_mem hx'))]
      exact ih2 hn.2 hx'
   rw [this]
   exact ⟨rfl,.refl _⟩
 exact key L L h fun _ h=>h
theorem Keeps.rfl' {S L:Hp}:Keeps S L L := .same fun _ h=>h
theorem YieldS.mono {P:Program} {S:Hp} {r:RId} {v:Nat} {args:List PV} {L:Hp} {nv:Nat} {K K':PV→Hp→Nat→Prop} (h:YieldS P S r v args L nv K) (hk:∀ x L nv,K x L nv→K' x L nv):YieldS P S r v args L nv K' :=
 ⟨YieldA.mono h.out fun x hp nv ⟨L',h1,h2⟩=>⟨L',h1,by rw [fz_eq] at h2 ⊢;exact hk _ _ _ h2⟩⟩

inductive VPtr:PV→DV→Prop
 | self (f:DF):VPtr (.fptr 18 (fun o=>(dfl f).getD o .undef) 2) f.self
 | holder (f:DF):VPtr (.fptr 18 (fun o=>(dfl f).getD o .undef) 8) f.holder
 | elem (x:DV):VPtr (.fptr 6 (fun o=>(dvl x).getD o .undef) 0) x

theorem copied_spec (l:List DF) (hl:l.length≤1048576∧∀ f∈l,f.small):CallsF Tryz.prog 102 [dfs l] (dfs l):=by
 refine callsF_ofS mx Tryz.call102 Tryz.func102 rfl Tryz.ntmps102 Tryz.results102 (by kernel_rfl) (by simp) fun lo=>?_
 repeat'(first|refine vcI ?_|refine And.intro ?_ ?_|(intro hq;(try simp at hq);(try(exfalso;omega));(try(revert hq;intro))))
 refine CallS.frozen (dfs l) (eachFr_spec l hl) (plainAll rfl) ?_
 repeat'(first|refine vcI ?_|refine And.intro ?_ ?_|(intro hq;(try simp at hq);(try(exfalso;omega));(try(revert hq;intro))))
 exact .refl _
theorem values_spec (l:List DF):CallsF Tryz.prog 101 [dfs l] (.func (.func 121) [] [.fptr 1 (fun _=>dfs l) 0]):=by
 refine callsF_ofS mx Tryz.call101 Tryz.func101 rfl Tryz.ntmps101 Tryz.results101 (by kernel_rfl) (by simp) fun lo=>?_
 repeat'(first|refine vcI ?_|refine And.intro ?_ ?_|(intro hq;(try simp at hq);(try(exfalso;omega));(try(revert hq;intro))))
 refine NEq.clos (NEq.fptr fun o ho=>?_)
 obtain rfl:o=0:=by omega
 exact .refl _

theorem values1_spec (fs:List DF) (hf:fs.length≤1048576∧∀ f∈fs,f.small) (id:RId) (v nv0:Nat) (L0 S:Hp) (Inv:List DV→Hp→Prop) (h0:Inv [] L0) (hnd:∀ p L,Inv p L→(L.map (·.1)).Nodup)
  (hst:∀ pre L nv p x i,Inv pre L→VPtr p x→YieldS Tryz.prog S id v [.int .i64 i,p] L nv fun y L' _=>y = .bool true∧Inv (pre++[x]) L') :
  CallsA Tryz.prog 121 [.sref .loop id v,.fptr 1 (fun _=>dfs fs) 0] (L0++S) nv0 fun _ hp' _=>∃ L',hp'=L'++S∧Inv (fs.flatMap allL) L':=by
 obtain ⟨hl,hs⟩:=hf
 refine callsA_ofS (lv:=2) (by decide) mx Tryz.call121 Tryz.func121 rfl Tryz.ntmps121 Tryz.results121 (by kernel_rfl) (by simp) fun lo=>?_
 repeat'(first|refine vcI ?_|refine And.intro ?_ ?_|(intro hq;(try simp at hq);(try(exfalso;omega));(try(revert hq;intro))))
 refine loopS2 mx (by decide) (by kernel_rfl) (fun (k:Nat) (L:Hp)=>k≤fs.length∧Inv ((fs.take k).flatMap allL) L) (fun k L=>[(9,.int .i64 k),(8,.int .i64 fs.length),(0,.sref .loop id v),(1,.fptr 1 (fun _=>dfs fs) 0)]) (fun k L=>L) (fun k L=>fs.length - k) 0 L0 ⟨by simp,by simpa using h0⟩ ⟨by ((repeat' apply And.intro) <;> (first|exact True.intro|exact NEq.refl _|(refine NEq.int ?_;first|exact rfl|omega|(rw [wrapI (by omega)];first|exact rfl|omega)))),.nodup (hnd _ _ h0),.rfl'⟩ ?_
 rintro k L nv ⟨hk,hI⟩
 repeat'(first|refine vcI ?_|refine And.intro ?_ ?_|(intro hq;(try simp at hq);(try(exfalso;omega));(try(revert hq;intro))))
 ·rename_i hlt
  refine YieldS.mono (hst _ _ _ _ _ _ hI (.self (fs.getD (k:Int).toNat default))) ?_
  rintro y L1 nv1 ⟨rfl,hI1⟩
  repeat'(first|refine vcI ?_|refine And.intro ?_ ?_|(intro hq;(try simp at hq);(try(exfalso;omega));(try(revert hq;intro))))
  ·refine YieldS.mono (hst _ _ _ _ _ _ hI1 (.holder (fs.getD (k:Int).toNat default))) ?_
   rintro y L2 nv2 ⟨rfl,hI2⟩
   have hm:=hs _ (getD_mem default hlt)
   repeat'(first|refine vcI ?_|refine And.intro ?_ ?_|(intro hq;(try simp at hq);(try(exfalso;omega));(try(revert hq;intro))))
   refine loopS2 mx (by decide) (by kernel_rfl) (fun (j:Nat) (L:Hp)=>j≤(fs.getD (k:Int).toNat default).vars.length∧Inv ((fs.take k).flatMap allL++[(fs.getD (k:Int).toNat default).self]++[(fs.getD (k:Int).toNat default).holder]++(fs.getD (k:Int).toNat default).vars.take j) L) (fun j L=>[(36,.int .i64 j),(35,.int .i64 (fs.getD (k:Int).toNat default).vars.length),(3,.int .i64 k),(4,.fptr 18 (fun o=>(dfl (fs.getD (k:Int).toNat default)).getD o .undef) 0),(9,.int .i64 k),(8,.int .i64 fs.length),(0,.sref .loop id v),(1,.fptr 1 (fun _=>dfs fs) 0)]) (fun j L=>L) (fun j L=>(fs.getD (k:Int).toNat default).vars.length - j) 0 L2 ⟨by simp,by simpa using hI2⟩ ⟨by ((repeat' apply And.intro) <;> (first|exact True.intro|exact NEq.refl _|(refine NEq.int ?_;first|exact rfl|omega|(rw [wrapI (by omega)];first|exact rfl|omega)))),.nodup (hnd _ _ hI2),.rfl'⟩ ?_
   rintro j L nv ⟨hj,hI⟩
   repeat'(first|refine vcI ?_|refine And.intro ?_ ?_|(intro hq;(try simp at hq);(try(exfalso;omega));(try(revert hq;intro))))
   ·rename_i hjl
    show (j:Int)<(((fs[k]?.getD default).vars.length:Nat):Int)
    omega
   ·rename_i hjl0
    have hjl:j<(fs.getD (k:Int).toNat default).vars.length:=hjl0
    refine YieldS.mono (hst _ _ _ _ _ _ hI (.elem ((fs.getD (k:Int).toNat default).vars.getD (j:Int).toNat default))) ?_
    rintro y L3 nv3 ⟨rfl,hI3⟩
    repeat'(first|refine vcI ?_|refine And.intro ?_ ?_|(intro hq;(try simp at hq);(try(exfalso;omega));(try(revert hq;intro))))
    have hI4:Inv ((fs.take k).flatMap allL++[(fs.getD (k:Int).toNat default).self]++[(fs.getD (k:Int).toNat default).holder]++(fs.getD (k:Int).toNat default).vars.take (j+1)) L3:=by
     rw [take_succD default hjl,← List.append_assoc];exact hI3
    exact Exists.intro (j+1,L3) ⟨⟨by omega,hI4⟩,(by first|omega|(dsimp only;omega)),⟨⟨(by refine NEq.int ?_;first|exact rfl|omega|(rw [wrapI (by omega)];first|exact rfl|omega)),.refl _,.refl _,.refl _,.refl _,.refl _,.refl _,.refl _,trivial⟩,.nodup (hnd _ _ hI4),.rfl'⟩⟩
   ·rename_i hjl0 _
    have hjl:(fs.getD (k:Int).toNat default).vars.length≤j:=hjl0
    obtain rfl:j=(fs.getD (k:Int).toNat default).vars.length:=by omega
    rw [List.take_length] at hI
    repeat'(first|refine vcI ?_|refine And.intro ?_ ?_|(intro hq;(try simp at hq);(try(exfalso;omega));(try(revert hq;intro))))
    refine loopS2 mx (by decide) (by kernel_rfl) (fun (j:Nat) (L:Hp)=>j≤(fs.getD (k:Int).toNat default).stack.length∧Inv ((fs.take k).flatMap allL++[(fs.getD (k:Int).toNat default).self]++[(fs.getD (k:Int).toNat default).holder]++(fs.getD (k:Int).toNat default).vars++(fs.getD (k:Int).toNat default).stack.take j) L) (fun j L=>[(55,.int .i64 j),(54,.int .i64 (fs.getD (k:Int).toNat default).stack.length),(3,.int .i64 k),(4,.fptr 18 (fun o=>(dfl (fs.getD (k:Int).toNat default)).getD o .undef) 0),(9,.int .i64 k),(8,.int .i64 fs.length),(0,.sref .loop id v),(1,.fptr 1 (fun _=>dfs fs) 0)]) (fun j L=>L) (fun j L=>(fs.getD (k:Int).toNat default).stack.length - j) 0 L ⟨by simp,by simpa using hI⟩ ⟨by ((repeat' apply And.intro) <;> (first|exact True.intro|exact NEq.refl _|(refine NEq.int ?_;first|exact rfl|omega|(rw [wrapI (by omega)];first|exact rfl|omega)))),.nodup (hnd _ _ hI),.rfl'⟩ ?_
    rintro j L nv ⟨hj2,hI⟩
    repeat'(first|refine vcI ?_|refine And.intro ?_ ?_|(intro hq;(try simp at hq);(try(exfalso;omega));(try(revert hq;intro))))
    ·rename_i hjl
     show (j:Int)<(((fs[k]?.getD default).stack.length:Nat):Int)
     omega
    ·rename_i hjl0
     have hjl:j<(fs.getD (k:Int).toNat default).stack.length:=hjl0
     refine YieldS.mono (hst _ _ _ _ _ _ hI (.elem ((fs.getD (k:Int).toNat default).stack.getD (j:Int).toNat default))) ?_
     rintro y L3 nv3 ⟨rfl,hI3⟩
     repeat'(first|refine vcI ?_|refine And.intro ?_ ?_|(intro hq;(try simp at hq);(try(exfalso;omega));(try(revert hq;intro))))
     have hI4:Inv ((fs.take k).flatMap allL++[(fs.getD (k:Int).toNat default).self]++[(fs.getD (k:Int).toNat default).holder]++(fs.getD (k:Int).toNat default).vars++(fs.getD (k:Int).toNat default).stack.take (j+1)) L3:=by
      rw [take_succD default hjl,← List.append_assoc];exact hI3
     exact Exists.intro (j+1,L3) ⟨⟨by omega,hI4⟩,(by first|omega|(dsimp only;omega)),⟨⟨(by refine NEq.int ?_;first|exact rfl|omega|(rw [wrapI (by omega)];first|exact rfl|omega)),.refl _,.refl _,.refl _,.refl _,.refl _,.refl _,.refl _,trivial⟩,.nodup (hnd _ _ hI4),.rfl'⟩⟩
    ·rename_i hjl0
     have hjl:(fs.getD (k:Int).toNat default).stack.length≤j:=hjl0
     obtain rfl:j=(fs.getD (k:Int).toNat default).stack.length:=by omega
     rw [List.take_length] at hI
     repeat'(first|refine vcI ?_|refine And.intro ?_ ?_|(intro hq;(try simp at hq);(try(exfalso;omega));(try(revert hq;intro))))
     have hI4:Inv ((fs.take (k+1)).flatMap allL) L:=by
      rw [take_succD default hlt,List.flatMap_append]
      simpa [allL] using hI
     exact Exists.intro (k+1,L) ⟨⟨by omega,hI4⟩,(by first|omega|(dsimp only;omega)),⟨⟨(by refine NEq.int ?_;first|exact rfl|omega|(rw [wrapI (by omega)];first|exact rfl|omega)),.refl _,.refl _,.refl _,trivial⟩,.nodup (hnd _ _ hI4),.rfl'⟩⟩
 ·rename_i hlt
  obtain rfl:k=fs.length:=by omega
  rw [List.take_length] at hI
  exact ⟨.tup [],L,hI,.refl _,.nodup (hnd _ _ hI),.rfl'⟩
end Go.Ab
namespace Go.Proofs
open Go.Shelf
def Tryz.lays189_ren:Go.Shelf.Ren:=⟨fun|189=>84|125=>117|257=>116|128=>135|129=>136|294=>126|295=>127|296=>128|297=>129|298=>130|299=>131|216=>132|300=>133|301=>134|328=>138|329=>139|330=>140|331=>141|332=>142|215=>143|343=>144|n=>n,fun|28=>35|3=>3|46=>143|0=>0|51=>170|53=>66|4=>4|183=>182|182=>181|131=>187|5=>5|9=>9|218=>192|222=>196|228=>198|229=>199|n=>n,fun|n=>n⟩
theorem Tryz.lays189:Go.Proofs.Lays.n189 Tryz.prog Tryz.lays189_ren:={
 mixed:=by kernel_rfl
 f125:=Tryz.func117.trans (congrArg some (by kernel_rfl))
 f128:=Tryz.func135.trans (congrArg some (by kernel_rfl))
 f129:=Tryz.func136.trans (congrArg some (by kernel_rfl))
 f189:=Tryz.func84.trans (congrArg some (by kernel_rfl))
 f215:=Tryz.func143.trans (congrArg some (by kernel_rfl))
 f216:=Tryz.func132.trans (congrArg some (by kernel_rfl))
 f257:=Tryz.func116.trans (congrArg some (by kernel_rfl))
 f294:=Tryz.func126.trans (congrArg some (by kernel_rfl))
 f295:=Tryz.func127.trans (congrArg some (by kernel_rfl))
 f296:=Tryz.func128.trans (congrArg some (by kernel_rfl))
 f297:=Tryz.func129.trans (congrArg some (by kernel_rfl))
 f298:=Tryz.func130.trans (congrArg some (by kernel_rfl))
 f299:=Tryz.func131.trans (congrArg some (by kernel_rfl))
 f300:=Tryz.func133.trans (congrArg some (by kernel_rfl))
 f301:=Tryz.func134.trans (congrArg some (by kernel_rfl))
 f328:=Tryz.func138.trans (congrArg some (by kernel_rfl))
 f329:=Tryz.func139.trans (congrArg some (by kernel_rfl))
 f330:=Tryz.func140.trans (congrArg some (by kernel_rfl))
 f331:=Tryz.func141.trans (congrArg some (by kernel_rfl))
 f332:=Tryz.func142.trans (congrArg some (by kernel_rfl))
 f343:=Tryz.func144.trans (congrArg some (by kernel_rfl))
 t0:=Tryz.underlying0
 a0:=Tryz.isAgg0
 z0:=Tryz.sizeOf0
 v0:=Tryz.zeroValue0
 t3:=Tryz.underlying3
 a3:=Tryz.isAgg3
 z3:=Tryz.sizeOf3
 v3:=Tryz.zeroValue3
 t4:=Tryz.underlying4
 a4:=Tryz.isAgg4
 z4:=Tryz.sizeOf4
 v4:=Tryz.zeroValue4
 t5:=Tryz.underlying5
 a5:=Tryz.isAgg5
 z5:=Tryz.sizeOf5
 v5:=Tryz.zeroValue5
 t9:=Tryz.underlying9
 a9:=Tryz.isAgg9
 z9:=Tryz.sizeOf9
 v9:=Tryz.zeroValue9
 t28:=Tryz.underlying35
 a28:=Tryz.isAgg35
 z28:=Tryz.sizeOf35
 v28:=Tryz.zeroValue35
 t46:=Tryz.underlying143
 a46:=Tryz.isAgg143
 z46:=Tryz.sizeOf143
 v46:=Tryz.zeroValue143
 t51:=Tryz.underlying170
 a51:=Tryz.isAgg170
 z51:=Tryz.sizeOf170
 v51:=Tryz.zeroValue170
 t53:=Tryz.underlying66
 a53:=Tryz.isAgg66
 z53:=Tryz.sizeOf66
 v53:=Tryz.zeroValue66
 t131:=Tryz.underlying187
 a131:=Tryz.isAgg187
 z131:=Tryz.sizeOf187
 v131:=Tryz.zeroValue187
 t182:=Tryz.underlying181
 a182:=Tryz.isAgg181
 z182:=Tryz.sizeOf181
 v182:=Tryz.zeroValue181
 t183:=Tryz.underlying182
 a183:=Tryz.isAgg182
 z183:=Tryz.sizeOf182
 v183:=Tryz.zeroValue182
 t218:=Tryz.underlying192
 a218:=Tryz.isAgg192
 z218:=Tryz.sizeOf192
 v218:=Tryz.zeroValue192
 t222:=Tryz.underlying196
 a222:=Tryz.isAgg196
 z222:=Tryz.sizeOf196
 v222:=Tryz.zeroValue196
 t228:=Tryz.underlying198
 a228:=Tryz.isAgg198
 z228:=Tryz.sizeOf198
 v228:=Tryz.zeroValue198
 t229:=Tryz.underlying199
 a229:=Tryz.isAgg199
 z229:=Tryz.sizeOf199
 v229:=Tryz.zeroValue199 }
end Go.Proofs
namespace Go.Ab
open Go.Proofs
set_option maxRecDepth 100000
set_option maxHeartbeats 1000000

theorem growB {w:World} {B:Blocks} {H:Roots} {V:Nat→Prop} (hr:HR w B H V) (os:Array Obj):HR (Go.Sort.grow w os) B H V∧Mono w B H V (Go.Sort.grow w os) B H V:=by
 have hold:∀ r p b,B r p=some b→b<w.heap.size:=fun r p b h=>(hr.dom r p b h).1
 have hm:Mono w B H V (Go.Sort.grow w os) B H V:=by
  refine ⟨by simp,fun k hk hf=>⟨hf,Go.Sort.heap_grow_old w os hk⟩,fun r p b _ hb=>⟨hb,Go.Sort.heap_grow_old w os (hold _ _ _ hb)⟩,fun r p b hb => .inr ⟨r,p,hb⟩,fun k s hs=>?_,fun _ h=>h,fun r rt h => .inr ⟨rt,h,rfl,fun _ _ h=>⟨h,rfl⟩⟩,rfl,rfl,rfl⟩
  have hk:=shape_lt hs
  simp only [World.shape?] at hs ⊢
  rw [Go.Sort.heap_grow_old w os hk]
  exact hs
 refine ⟨⟨fun r rt h=>(hr.root r rt h).mono hm (fun t s _=>⟨rfl,fun b hb=>Go.Sort.heap_grow_old w os (hold _ _ _ hb)⟩),hr.ver,fun r p b h=>?_,hr.lev,hr.inj⟩,hm⟩
 obtain ⟨h1,h2⟩:=hr.dom r p b h
 exact ⟨by simp;omega,h2⟩
theorem aheadB {w:World} {B:Blocks} {H:Roots} {V:Nat→Prop} (hr:HR w B H V) (n:Nat):HR (Go.Sort.ahead w n) B H V∧Mono w B H V (Go.Sort.ahead w n) B H V:=by
 have hm:Mono w B H V (Go.Sort.ahead w n) B H V:=⟨Nat.le_refl _,fun _ _ h=>⟨h,rfl⟩,fun _ _ _ _ h=>⟨h,rfl⟩,fun r p _ h => .inr ⟨r,p,h⟩,fun _ _ h=>h,fun _ h=>h,fun _ rt h => .inr ⟨rt,h,rfl,fun _ _ h=>⟨h,rfl⟩⟩,rfl,rfl,rfl⟩
 exact ⟨⟨fun r rt h=>(hr.root r rt h).mono hm (fun _ _ _=>⟨rfl,fun _ _=>rfl⟩),hr.ver,hr.dom,hr.lev,hr.inj⟩,hm⟩

theorem putRow_putBlock {w:World} {b:Nat} {cs:Array Value} {e:TypeId} (hh:w.heap[b]?=some (.cells cs e (0,0))) (off:Nat) (zs:List Int) (hfit:off+zs.length≤cs.size) :
  Go.Sort.putRow (Value.int .i64) w b off zs.toArray=World.putBlock w b (putCells cs off (zs.map (Value.int .i64))):=by
 unfold Go.Sort.putRow Go.Sort.mapBlock World.putBlock
 congr 1
 apply Array.ext_getElem?
 intro k
 simp only [Array.getElem?_modify]
 by_cases hk:b=k
 ·subst hk
  simp only [if_true,hh,Option.map_some,Go.Sort.onCells]
  congr 2
  apply Array.ext_getElem?
  intro j
  symm
  have hsz:=putCells_size cs off (zs.map (Value.int .i64))
  by_cases hj:j<cs.size
  ·have h1:=putCells_getD cs off (zs.map (Value.int .i64)) j (by simpa using hfit)
   rw [Array.getD_eq_getD_getElem?,Array.getElem?_eq_getElem (by rw [hsz];exact hj),Option.getD_some] at h1
   rw [Array.getElem?_eq_getElem (by rw [hsz];exact hj),h1]
   simp only [Go.Sort.putCells,Array.getElem?_mapIdx,Array.getElem?_eq_getElem hj,Option.map_some,List.size_toArray,List.length_map]
   congr 1
   by_cases c:off≤j∧j<off+zs.length
   ·rw [if_pos c,if_pos c]
    have hlt:j - off<zs.length:=by omega
    simp [hlt]
   ·rw [if_neg c,if_neg c]
    simp [Array.getD_eq_getD_getElem?,hj]
  ·rw [Array.getElem?_eq_none (by rw [hsz];omega),Array.getElem?_eq_none (by simp [Go.Sort.putCells];omega)]
 ·simp [hk]

def sortI (zs:List Int):List Int:=zs.mergeSort fun x y=>decide (x≤y)
theorem sortI_len (zs:List Int):(sortI zs).length=zs.length:=List.length_mergeSort ..

theorem sort_spec (zs:List Int) (hz:zs.length<1099511627776) (r:RId) (v nv:Nat) (S:Hp):CallsA Tryz.prog 84 [.ref r v [] 1 0 zs.length] ([(r,⟨v,oints zs⟩)]++S) nv
  fun x hp' nv'=>∃ L',hp'=L'++S∧(x = .tup []∧L'=[(r,⟨v,oints (sortI zs)⟩)]):=by
 refine ⟨Tryz.call84,fun w B cs hr ha=>?_⟩
 have hsz:cs.size=1:=by have:=ha.len;simpa using this.symm
 obtain ⟨vx,rfl⟩:∃ vx,cs=#[vx]:=⟨cs[0],by apply Array.ext <;> simp_all⟩
 have hv:=ha.val 0 (by simp)
 simp only [List.getD_cons_zero,Array.getD_eq_getD_getElem?] at hv
 have hH:lkH ([(r,(⟨v,oints zs⟩:Root))]++S) r=some ⟨v,oints zs⟩:=by simp [lkH]
 have stay:sortI zs=zs→∀ (p:Option Addr) cap,vx = .slice p 0 cap→Calls Tryz.prog 84 #[vx] w fun e w'=>∃ val B' res hp' nv',e = .returned val∧(∃ L',hp'=L'++S∧(res = .tup []∧L'=[(r,(⟨v,oints (sortI zs)⟩:Root))]))∧VR w' B' (lkH hp') (·<nv') res val∧HR w' B' (lkH hp') (·<nv')∧Mono w B (lkH ([(r,(⟨v,oints zs⟩:Root))]++S)) (·<nv) w' B' (lkH hp') (·<nv'):=by
  intro he p cap hvx
  subst hvx
  refine (Any.slices_Sort_int_none Tryz.lays189 p cap w).mono fun e w' ⟨h1,h2⟩=>?_
  subst h1 h2
  rw [he]
  exact ⟨_,B,.tup [],_,nv,rfl,⟨_,rfl,rfl,rfl⟩,.tup (by simp) (fun i hi=>absurd hi (by simp)),hr,Mono.refl ..⟩
 have hsort0:zs.length=0→sortI zs=zs:=fun h=>by
  have:zs=[]:=List.eq_nil_of_length_eq_zero h
  subst this;exact List.mergeSort_nil
 have hvx:∃ vx',vx'=vx∧VR w B (lkH ([(r,(⟨v,oints zs⟩:Root))]++S)) (·<nv) (.ref r v [] 1 0 zs.length) vx':=⟨vx,rfl,by simpa using hv⟩
 obtain ⟨vx',hvx',hv'⟩:=hvx
 cases hv' with
 | ref hver h =>
  obtain ⟨n',hat,hlo,hhi,hx⟩:=h _ hH rfl
  have hn':n'=zs.length:=by
   have:=hat.2
   simp only [getAt,oints,shapeOf,Option.some.injEq,Prod.mk.injEq,true_and] at this
   exact this.symm
  subst hn'
  rcases hx with ⟨b,A,cap,e,m,hB,hvv,hcap,hA,hsh,hm⟩|⟨hB,⟨A,hvv⟩,h0⟩
  ·rw [Nat.sub_zero] at hvv
   by_cases h0:zs.length=0
   ·rw [h0] at hvv
    exact stay (hsort0 h0) (some A) cap (hvx'▸hvv)
   ·have hA':=hA (by omega)
    rw [Nat.zero_mul] at hA'
    subst hA'
    have hroot:=hr.root r _ hH
    unfold oints at hroot
    generalize hN:zs.length=N at hroot
    cases hroot with
    | own hT =>
     cases hT with
     | nil hB'=>exact absurd hN h0
     | leaf hl=>cases hl
     | @own _ _ _ cap' b' Ad _ cs0 e' hAd hB' hh hc hn hmx hcells =>
      subst hN
      rw [hB] at hB'
      cases hB'
      have hcell:∀ j,j<zs.length→cs0[j]?=some (Value.int .i64 (zs.getD j 0)):=fun j hj=>by
       have h1:=hcells j 0 hj (by decide)
       have h2:cs0.getD (j*1+0) Go.undef=Value.int .i64 (zs.getD j 0):=by
        generalize cs0.getD (j*1+0) Go.undef=u at h1
        cases h1 with
        | leaf hl=>cases hl;rfl
       have hlt:j<cs0.size:=by have:=hc.1;omega
       rw [Nat.mul_one,Nat.add_zero,Array.getD_eq_getD_getElem?,Array.getElem?_eq_getElem hlt,Option.getD_some] at h2
       rw [Array.getElem?_eq_getElem hlt,h2]
      have hfit:0+zs.length≤cs0.size:=by have:=hc.1;omega
      have hHolds:Go.Sort.Holds (Value.int .i64) w b 0 zs.toArray:=fun j hj=>by
       have hj':j<zs.length:=by simpa using hj
       refine ⟨?_,?_⟩
       ·simp only [World.cell?,hh,Nat.zero_add]
        rw [if_neg (by simp),hcell j hj']
        simp [List.getD_eq_getElem?_getD,hj']
       ·simp [World.frozen?,hh]
      subst hvx'
      rw [hvv]
      refine (Any.slices_Sort_int Tryz.lays189 b 0 cap zs w hHolds (lt_of_get hh) (by omega)).mono fun e w' ⟨h1,n,os,h2⟩=>?_
      have hh2:(Go.Sort.ahead w n).heap[b]?=some (.cells cs0 e' (0,0)):=hh
      have h3:w'=Go.Sort.grow (World.putBlock (Go.Sort.ahead w n) b (putCells cs0 0 ((sortI zs).map (Value.int .i64)))) os:=by
       rw [h2,putRow_putBlock hh2 0 _ (by rw [List.length_mergeSort];exact hfit)];rfl
      obtain ⟨hr1,hm1⟩:=aheadB hr n
      obtain ⟨hr2,hm2⟩:=rows_put hr1 hH (p:=[]) (sz:=1) (n:=zs.length) (f:=fun i _ => .int .i64 (zs.getD i 0)) hat rfl hB hh2 (by simpa using hfit) (lo:=0) (k:=zs.length) (by simp) (c:=fun i _ => .int .i64 ((sortI zs).getD i 0)) (vs:=(sortI zs).map (Value.int .i64)) (by simp [sortI_len]) (fun u hu=>by
        obtain ⟨z,_,rfl⟩:=List.mem_map.1 hu;rfl) (fun i o hi ho=>by
        obtain rfl:o=0:=by omega
        have hi':i<(sortI zs).length:=by rw [sortI_len];exact hi
        have:((sortI zs).map (Value.int .i64)).getD (i*1+0) Go.undef=Value.int .i64 ((sortI zs).getD i 0):=by
         simp [hi']
        rw [this]
        exact .int _ _) (fun i o _ _ _=>rfl)
      rw [Nat.zero_mul] at hr2 hm2
      obtain ⟨hr3,hm3⟩:=growB hr2 os
      rw [← h3] at hr3 hm3
      have hmono:=(hm1.trans hm2).trans hm3
      have hle:Le [(0,.tup [])] (setH ([(r,(⟨v,oints zs⟩:Root))]++S) r (some ⟨v,updAt (setRows 0 zs.length fun i _ => .int .i64 ((sortI zs).getD i 0)) (oints zs) []⟩)) nv [(0,.tup [])] ([(r,(⟨v,oints (sortI zs)⟩:Root))]++S) nv:=by
       refine ⟨fun _ => .inr (.refl _),fun r' rt' h'=>?_,Nat.le_refl _⟩
       simp only [List.singleton_append,lkH] at h'
       by_cases e:r'=r
       ·rw [if_pos e] at h'
        cases h'
        refine ⟨⟨v,updAt (setRows 0 zs.length fun i _ => .int .i64 ((sortI zs).getD i 0)) (oints zs) []⟩,by rw [lookH_setH,if_pos e],rfl,?_⟩
        show NEq (.own 1 zs.length fun i o=>if 0≤i∧i<0+zs.length then .int .i64 ((sortI zs).getD (i - 0) 0) else .int .i64 (zs.getD i 0)) _
        refine NEq.owns rfl (by rw [sortI_len]) fun i o hi ho=>?_
        rw [if_pos ⟨Nat.zero_le _,by rw [sortI_len] at hi;omega⟩,Nat.sub_zero]
        exact .refl _
       ·rw [if_neg e] at h'
        exact ⟨rt',by rw [lookH_setH,if_neg e];simp only [List.singleton_append,lkH,if_neg e];exact h',rfl,.refl _⟩
      have hs:SR ⟨1,0⟩ [(0,.tup [])] _ nv w' B { tmps:=#[.tuple #[]],defers:=[] }:=⟨⟨fun t=>by
       simp only [lk]
       split
       ·rename_i h0;subst h0;exact .tup (by simp) (fun i hi=>absurd hi (by simp))
       ·exact .undef _,rfl,.nil (Nat.zero_le _)⟩,hr3⟩
      obtain ⟨g1,g2⟩:=hle.sound hs
      have g3:=g1.tm.val 0
      exact ⟨.tuple #[],_,.tup [],_,nv,h1,⟨_,rfl,rfl,rfl⟩,by simpa [lk] using g3,g1.hp,hmono.trans g2⟩
  ·have h0':zs.length=0:=h0
   exact stay (hsort0 h0') A 0 (hvx'▸hvv)
end Go.Ab
namespace Go.Ab
open Go.Proofs
set_option maxRecDepth 100000
set_option maxHeartbeats 1000000

def omS (ks:List Int):PV := .omap (encS ks) (List.range ks.length) ks.length
theorem om_ins (ks:List Int) (n:Int):PV.omap (updE (encS ks) (.int .i64 n) (.bool true)) (updBs (encS ks) (List.range ks.length) ks.length (.int .i64 n)) (updCl (encS ks) ks.length (.int .i64 n))=omS (insS ks n):=by
 unfold omS
 rw [upd_enc]
 unfold updBs updCl
 rw [find_enc]
 unfold insS
 by_cases h:n∈ks
 ·simp only [if_pos h]
 ·simp only [if_neg h,List.length_append,List.length_singleton,List.range_succ]
def insV (ks:List Int) (v:DV):List Int:=if v.k=1 then insS ks v.n else ks
def insF (ks:List Int) (f:DF):List Int:=if f.act=0 then ks else insS ks (IntKind.i64.wrap (f.act - 1))
def symKs (fs:List DF):List Int:=fs.foldl insF ((fs.flatMap allL).foldl insV [])

theorem insS_nodup {ks:List Int} {n:Int} (h:ks.Nodup):(insS ks n).Nodup:=by
 unfold insS
 split
 ·exact h
 ·rename_i hn
  exact List.nodup_append.2 ⟨h,by simp,fun a ha b hb=>by simp at hb;subst hb;exact fun e=>hn (e▸ha)⟩
theorem insS_len (ks:List Int) (n:Int):(insS ks n).length≤ks.length+1:=by unfold insS;split <;> simp
theorem insV_nodup (l:List DV):∀ ks:List Int,ks.Nodup→(l.foldl insV ks).Nodup:=by
 induction l with
 | nil=>intro ks h;exact h
 | cons v l ih=>intro ks h;exact ih _ (by unfold insV;split;exact insS_nodup h;exact h)
theorem insF_nodup (l:List DF):∀ ks:List Int,ks.Nodup→(l.foldl insF ks).Nodup:=by
 induction l with
 | nil=>intro ks h;exact h
 | cons v l ih=>intro ks h;exact ih _ (by unfold insF;split;exact h;exact insS_nodup h)
theorem symKs_nodup (fs:List DF):(symKs fs).Nodup:=insF_nodup _ _ (insV_nodup _ _ List.nodup_nil)
theorem insV_len (l:List DV):∀ ks:List Int,(l.foldl insV ks).length≤ks.length+l.length:=by
 induction l with
 | nil=>intro ks;simp
 | cons v l ih =>
  intro ks
  have h1:=ih (insV ks v)
  have h2:(insV ks v).length≤ks.length+1:=by unfold insV;split;exact insS_len _ _;omega
  simp only [List.foldl_cons,List.length_cons];omega
theorem insF_len (l:List DF):∀ ks:List Int,(l.foldl insF ks).length≤ks.length+l.length:=by
 induction l with
 | nil=>intro ks;simp
 | cons v l ih =>
  intro ks
  have h1:=ih (insF ks v)
  have h2:(insF ks v).length≤ks.length+1:=by unfold insF;split;omega;exact insS_len _ _
  simp only [List.foldl_cons,List.length_cons];omega
theorem flat_len (fs:List DF):(fs.flatMap allL).length=sumL (fun f=>f.vars.length+f.stack.length) fs+2*fs.length:=by
 induction fs with
 | nil=>rfl
 | cons f fs ih =>
  rw [List.flatMap_cons,List.length_append,ih,allL_len]
  simp only [sumL,List.map_cons,List.sum_cons,List.length_cons];omega
theorem symKs_len (fs:List DF) (hN:frN fs≤6000):(symKs fs).length≤30000:=by
 have h1:=insF_len fs ((fs.flatMap allL).foldl insV [])
 have h2:=insV_len (fs.flatMap allL) []
 have h3:=flat_len fs
 unfold frN at hN
 unfold symKs
 simp only [List.length_nil] at h2
 omega

theorem nodup_len {α:Type} [DecidableEq α]:∀ {l m:List α},l.Nodup→(∀ x∈l,x∈m)→l.length≤m.length
 | [],m,_,_=>by simp
 | x::l,m,h,hs=>by
  obtain ⟨hx,hl⟩:=List.nodup_cons.1 h
  have hm:=hs x (by simp)
  have h1:=nodup_len (l:=l) (m:=m.erase x) hl fun y hy=>(List.mem_erase_of_ne (fun e=>hx (by subst e;exact hy))).2 (hs y (List.mem_cons_of_mem _ hy))
  rw [List.length_erase_of_mem hm] at h1
  have h2:=List.length_pos_of_mem hm
  rw [List.length_cons];omega
theorem seen_len {n:Nat} {seen:List Nat} (h1:seen.Nodup) (h2:∀ x∈seen,x<n):seen.length≤n:=by
 have:=nodup_len (m:=List.range n) h1 fun x hx=>List.mem_range.2 (h2 x hx)
 simpa using this

theorem mem_leftI {n i:Nat} {seen:List Nat} (h:i∈leftI (List.range n) seen):i<n∧i ∉ seen:=by
 unfold leftI at h
 rw [List.length_range,List.mem_filter,List.mem_range] at h
 refine ⟨h.1,fun hs=>?_⟩
 have:=h.2
 rw [show (List.range n).getD i 0=i by simp [h.1]] at this
 simp [hs] at this
theorem seen_perm {ks:List Int} {seen:List Nat} (h1:seen.Nodup) (h2:∀ x∈seen,x<ks.length) (h:leftI (List.range ks.length) seen=[]):(seen.map fun b=>ks.getD b 0).Perm ks:=by
 have hmem:∀ i,i<ks.length→i∈seen:=fun i hi=>by
  by_cases c:i∈seen
  ·exact c
  ·have:i∈leftI (List.range ks.length) seen:=by
    unfold leftI
    rw [List.length_range,List.mem_filter,List.mem_range]
    refine ⟨hi,?_⟩
    rw [show (List.range ks.length).getD i 0=i by simp [hi]]
    simp [c]
   rw [h] at this;cases this
 have hp:seen.Perm (List.range ks.length):=(List.perm_ext_iff_of_nodup h1 List.nodup_range).2 fun a=>⟨fun ha=>List.mem_range.2 (h2 a ha),fun ha=>hmem a (List.mem_range.1 ha)⟩
 have hm:=hp.map fun b=>ks.getD b 0
 have e:(List.range ks.length).map (fun b=>ks.getD b 0)=ks:=by
  apply List.ext_getElem
  ·simp
  ·intro i h1 h2
   simp at h1
   simp [h2]
 rwa [e] at hm
theorem sortI_perm {l m:List Int} (h:l.Perm m):sortI l=sortI m:=by
 have tr:∀ a b c:Int,decide (a≤b)=true→decide (b≤c)=true→decide (a≤c)=true:=fun a b c h1 h2=>by simp at *;omega
 have tot:∀ a b:Int,(decide (a≤b)||decide (b≤a))=true:=fun a b=>by simp;omega
 refine List.Perm.eq_of_pairwise (le:=fun a b=>a≤b) (fun a b _ _ h1 h2=>Int.le_antisymm h1 h2) ?_ ?_ (((List.mergeSort_perm l _).trans h).trans (List.mergeSort_perm m _).symm)
 ·exact (List.pairwise_mergeSort tr tot l).imp fun h=>by simpa using h
 ·exact (List.pairwise_mergeSort tr tot m).imp fun h=>by simpa using h
theorem sort_at {P:Program} {f:FuncId} {r:RId} {v n m:Nat} {L:Hp} {nv:Nat} {R:PV→Hp→Nat→Prop} (e:n=m) (h:CallsA P f [.ref r v [] 1 0 m] L nv R):CallsA P f [.ref r v [] 1 0 n] L nv R:=e▸h

theorem entry_enc {ks:List Int} {seen:List Nat} {i:Nat} (hi:i<ks.length):entryE (encS ks) (List.range ks.length) (seen++[i])=some (.tup [.int .i64 (ks.getD i 0),.bool true]):=by
 have h1:(List.range ks.length).idxOf? i=some i:=by
  rw [List.idxOf?,List.findIdx?_eq_some_iff_getElem]
  refine ⟨by simpa using hi,by simp,fun j hj=>?_⟩
  simp;omega
 unfold entryE
 rw [List.getLast?_append]
 simp [h1,encS,hi]

theorem rangeValues {lv:Nat} {nt:FS} {S L:Hp} {tm:Tm} {nv:Nat} {Q:Post} {g:Operand} {ps:Array Tmp} {assign body:Code} (fs:List DF) (hf:fs.length≤1048576∧∀ f∈fs,f.small)
  (hg:ev tm g = .func (.func 121) [] [.fptr 1 (fun _=>dfs fs) 0]) {σ:Type} (step:σ→DV→σ) (s0:σ) (mem:σ→Hp)
  (hL:∀ j,j≠(1,1001)→lkH (mem s0) j=lkH L j) (hnd:∀ s,(((1,1001):RId)::(mem s).map (·.1)).Nodup)
  (hround:∀ s x p i nv',VPtr p x→YieldS Tryz.prog S (1,1001) nv [.int .i64 i,p] (((1,1001),⟨nv,.oloop ⟨.ready,none,nt.n,ps,assign,body⟩ (lk tm)⟩)::mem s) nv'
   fun y L' _=>y = .bool true∧L'=((1,1001),⟨nv,.oloop ⟨.ready,none,nt.n,ps,assign,body⟩ (lk tm)⟩)::mem (step s x))
  (k:∀ nv',delS (mem ((fs.flatMap allL).foldl step s0)) (1,1001) fun L'=>Q .normal tm (((1,1001),⟨nv,.oloop ⟨.exhausted,none,nt.n,ps,assign,body⟩ (lk tm)⟩)::L') nv') :
  Ev Tryz.prog lv nt none (.rangeFunc g ps assign body) tm (L++S) nv (liftQ S Q):=by
 refine rangeS (1,1001) (by decide) hg (fun _ hp' _=>∃ L',hp'=L'++S∧L'=((1,1001),⟨nv,.oloop ⟨.ready,none,nt.n,ps,assign,body⟩ (lk tm)⟩)::mem ((fs.flatMap allL).foldl step s0)) (((1,1001),⟨nv,.oloop ⟨.ready,none,nt.n,ps,assign,body⟩ (lk tm)⟩)::mem s0) (fun j=>?_) ?_ ?_
 ·simp only [lkH]
  by_cases e:j=(1,1001)
  ·rw [if_pos e,if_pos e]
  ·rw [if_neg e,if_neg e,hL j e]
 ·refine values1_spec fs hf (1,1001) nv (nv+1) _ S (fun pre L=>L=((1,1001),⟨nv,.oloop ⟨.ready,none,nt.n,ps,assign,body⟩ (lk tm)⟩)::mem (pre.foldl step s0)) rfl (fun p L h=>by subst h;exact hnd _) fun pre L nv' p x i h hv=>?_
  subst h
  refine YieldS.mono (hround (pre.foldl step s0) x p i nv' hv) fun y L' nv2 ⟨h1,h2⟩=>⟨h1,?_⟩
  rw [List.foldl_append]
  exact h2
 ·rintro res hp' nv' ⟨L',rfl,rfl⟩
  refine ⟨_,Rep.mk' S _,?_⟩
  exact ⟨rfl,(fun h=>by cases h),k nv'⟩

theorem symUses_spec (fs:List DF) (hf:fs.length≤1048576∧∀ f∈fs,f.small) (hN:frN fs≤6000):CallsF Tryz.prog 61 [dfs fs] (ints (sortI (symKs fs))):=by
 refine callsF_ofS mx Tryz.call61 Tryz.func61 rfl Tryz.ntmps61 Tryz.results61 (by kernel_rfl) (by simp) fun lo=>?_
 repeat'(first|refine vcI ?_|refine And.intro ?_ ?_|(intro hq;(try simp at hq);(try(exfalso;omega));(try(revert hq;intro))))
 refine Exists.intro (omS []) (And.intro rfl ?_)
 repeat'(first|refine vcI ?_|refine And.intro ?_ ?_|(intro hq;(try simp at hq);(try(exfalso;omega));(try(revert hq;intro))))
 refine CallS.frozen (dfs fs) (copied_spec fs hf) (plainAll rfl) ?_
 repeat'(first|refine vcI ?_|refine And.intro ?_ ?_|(intro hq;(try simp at hq);(try(exfalso;omega));(try(revert hq;intro))))
 refine CallS.frozen (.func (.func 121) [] [.fptr 1 (fun _=>dfs fs) 0]) (values_spec fs) (plainAll rfl) ?_
 refine lessS (tm':=[(13,.func (.func 121) [] [.fptr 1 (fun _=>dfs fs) 0]),(3,.ptr (1,3) 2 [] 0 0),(0,dfs fs)]) (L':=[((1,10),⟨1,omS []⟩),((1,3),⟨2,.obox 1 fun _ => .sref .map (1,10) 1⟩)]) ⟨by ((repeat' apply And.intro) <;> (first|exact True.intro|exact NEq.refl _|(refine NEq.int ?_;first|exact rfl|omega|(rw [wrapI (by omega)];first|exact rfl|omega)))),?_,.nil⟩ ?_
 ·refine ⟨⟨rfl,.refl _⟩,⟨rfl,.obox fun o ho=>?_⟩,trivial⟩
  obtain rfl:o=0:=by have:o<1:=ho;omega
  exact .refl _
 refine rangeValues fs hf ?_ insV [] (fun ks=>[((1,10),⟨1,omS ks⟩),((1,3),⟨2,.obox 1 fun _ => .sref .map (1,10) 1⟩)]) ?_ ?_ ?_ ?_
 ·rfl
 ·intro j hj;rfl
 ·intro s;simp
 ·intro ks x p i nv' hp
  refine yieldS_of mx (lvb:=1) (by decide) rfl rfl rfl (by kernel_rfl) (by kernel_rfl) (by kernel_rfl) fun l lo=>?_
  cases hp with
  | self f =>
   repeat'(first|refine vcI ?_|refine And.intro ?_ ?_|(intro hq;(try simp at hq);(try(exfalso;omega));(try(revert hq;intro))))
   ·exact sorts_enc ks _
   ·rename_i hk
    refine Exists.intro (omS (insS ks f.self.n)) (And.intro (om_ins ks _) ?_)
    have e:insS ks f.self.n=insV ks f.self:=(if_pos hk).symm
    rw [e]
    exact ⟨rfl,rfl,rfl,rfl⟩
   ·rename_i hk
    have e:ks=insV ks f.self:=(if_neg hk).symm
    exact congrArg (fun t=>_::[((1,10),(⟨1,omS t⟩:Root)),_]) e
  | holder f =>
   repeat'(first|refine vcI ?_|refine And.intro ?_ ?_|(intro hq;(try simp at hq);(try(exfalso;omega));(try(revert hq;intro))))
   ·exact sorts_enc ks _
   ·rename_i hk
    refine Exists.intro (omS (insS ks f.holder.n)) (And.intro (om_ins ks _) ?_)
    have e:insS ks f.holder.n=insV ks f.holder:=(if_pos hk).symm
    rw [e]
    exact ⟨rfl,rfl,rfl,rfl⟩
   ·rename_i hk
    have e:ks=insV ks f.holder:=(if_neg hk).symm
    exact congrArg (fun t=>_::[((1,10),(⟨1,omS t⟩:Root)),_]) e
  | elem x =>
   repeat'(first|refine vcI ?_|refine And.intro ?_ ?_|(intro hq;(try simp at hq);(try(exfalso;omega));(try(revert hq;intro))))
   ·exact sorts_enc ks _
   ·rename_i hk
    refine Exists.intro (omS (insS ks x.n)) (And.intro (om_ins ks _) ?_)
    have e:insS ks x.n=insV ks x:=(if_pos hk).symm
    rw [e]
    exact ⟨rfl,rfl,rfl,rfl⟩
   ·rename_i hk
    have e:ks=insV ks x:=(if_neg hk).symm
    exact congrArg (fun t=>_::[((1,10),(⟨1,omS t⟩:Root)),_]) e
 ·intro nv'
  repeat'(first|refine vcI ?_|refine And.intro ?_ ?_|(intro hq;(try simp at hq);(try(exfalso;omega));(try(revert hq;intro))))
  have hK0:∃ K0,K0=(fs.flatMap allL).foldl insV []:=⟨_,rfl⟩
  obtain ⟨K0,hK0⟩:=hK0
  refine loopS mx (by decide) (by kernel_rfl) (fun j:Nat=>j≤fs.length) (fun j=>[(28,.int .i64 j),(27,.int .i64 fs.length),(26,dfs fs),(3,.ptr (1,3) 2 [] 0 0)]) (fun j=>[((1,10),⟨1,omS ((fs.take j).foldl insF K0)⟩),((1,3),⟨2,.obox 1 fun _ => .sref .map (1,10) 1⟩)]) (fun j=>fs.length - j) 0 (by simp) ⟨by ((repeat' apply And.intro) <;> (first|exact True.intro|exact NEq.refl _|(refine NEq.int ?_;first|exact rfl|omega|(rw [wrapI (by omega)];first|exact rfl|omega)))),⟨⟨rfl,by rw [hK0];exact .refl _⟩,⟨rfl,.refl _⟩,trivial⟩,.nil⟩ ?_
  intro j nv hj
  repeat'(first|refine vcI ?_|refine And.intro ?_ ?_|(intro hq;(try simp at hq);(try(exfalso;omega));(try(revert hq;intro))))
  ·exact sorts_enc _ _
  ·rename_i hjl hact
   have e:(fs.take (j+1)).foldl insF K0=insF ((fs.take j).foldl insF K0) (fs.getD (j:Int).toNat default):=foldl_take default _ _ hjl
   have e2:insF ((fs.take j).foldl insF K0) (fs.getD (j:Int).toNat default)=insS ((fs.take j).foldl insF K0) (IntKind.i64.wrap ((fs.getD (j:Int).toNat default).act - 1)):=if_neg hact
   refine Exists.intro (omS ((fs.take (j+1)).foldl insF K0)) (And.intro ((om_ins _ _).trans (congrArg omS (e.trans e2).symm)) ?_)
   repeat'(first|refine vcI ?_|refine And.intro ?_ ?_|(intro hq;(try simp at hq);(try(exfalso;omega));(try(revert hq;intro))))
   exact Exists.intro (j+1) ⟨by omega,(by first|omega|(dsimp only;omega)),⟨⟨(by refine NEq.int ?_;first|exact rfl|omega|(rw [wrapI (by omega)];first|exact rfl|omega)),.refl _,.refl _,.refl _,trivial⟩,⟨⟨rfl,.refl _⟩,⟨rfl,.refl _⟩,trivial⟩,.nil⟩⟩
  ·rename_i hjl hact
   have e:(fs.take (j+1)).foldl insF K0=insF ((fs.take j).foldl insF K0) (fs.getD (j:Int).toNat default):=foldl_take default _ _ hjl
   have e2:insF ((fs.take j).foldl insF K0) (fs.getD (j:Int).toNat default)=(fs.take j).foldl insF K0:=if_pos hact
   exact Exists.intro (j+1) ⟨by omega,(by first|omega|(dsimp only;omega)),⟨⟨(by refine NEq.int ?_;first|exact rfl|omega|(rw [wrapI (by omega)];first|exact rfl|omega)),.refl _,.refl _,.refl _,trivial⟩,⟨⟨rfl,NEq.of_eq (congrArg omS (e.trans e2).symm)⟩,⟨rfl,.refl _⟩,trivial⟩,.nil⟩⟩
  ·rename_i hjl
   obtain rfl:j=fs.length:=by omega
   rw [List.take_length]
   have hks:∃ ks,ks=fs.foldl insF K0:=⟨_,rfl⟩
   obtain ⟨ks,hks⟩:=hks
   rw [← hks]
   have hnd:ks.Nodup:=by rw [hks,hK0];exact symKs_nodup fs
   have hkl:ks.length≤30000:=by rw [hks,hK0];exact symKs_len fs hN
   refine Exists.intro (PV.oiter (.sref .map (1,10) 1) ks.length [] ks.length) (And.intro rfl ?_)
   refine ghostS0 8 (1,1000) (by decide) 1 (fun _ _ => .undef) rfl rfl fun v=>?_
   refine loopS2 mx (by decide) (by kernel_rfl) (fun (seen:List Nat) (v:Nat)=>seen.Nodup∧∀ x∈seen,x<ks.length) (fun seen v=>[(8,.ref (1,1000) v [] 1 0 seen.length),(41,.sref .iter (1,41) (nv+1+1+1))]) (fun seen v=>[((1,1000),⟨v,oints (seen.map fun b=>ks.getD b 0)⟩),((1,41),⟨nv+1+1+1,.oiter (.sref .map (1,10) 1) ks.length seen ks.length⟩),((1,10),⟨1,omS ks⟩),((1,3),⟨2,.obox 1 fun _ => .sref .map (1,10) 1⟩)]) (fun seen v=>ks.length - seen.length) [] v ⟨List.nodup_nil,fun x hx=>absurd hx (by simp)⟩ ⟨?_,?_,.nil⟩ ?_
   ·exact ⟨.refl _,.refl _,trivial⟩
   ·exact ⟨⟨rfl,.owns rfl rfl fun i o hi=>absurd hi (by simp)⟩,⟨rfl,.refl _⟩,⟨rfl,.refl _⟩,⟨rfl,.refl _⟩,trivial⟩
   clear v hj hjl
   rintro seen v nv2 ⟨hs1,hs2⟩
   have hsl:seen.length≤ks.length:=seen_len hs1 hs2
   repeat'(first|refine vcI ?_|refine And.intro ?_ ?_|(intro hq;(try simp at hq);(try(exfalso;omega));(try(revert hq;intro))))
   ·rename_i _ hno _
    have hperm:=seen_perm hs1 hs2 hno
    have hol:(seen.map fun b=>ks.getD b 0).length≤30000:=by rw [List.length_map];omega
    repeat'(first|refine vcI ?_|refine And.intro ?_ ?_|(intro hq;(try simp at hq);(try(exfalso;omega));(try(revert hq;intro))))
    refine CallS.onA (L0:=[((1,1000),⟨v,oints (seen.map fun b=>ks.getD b 0)⟩)]) (M:=[((1,41),⟨nv+1+1+1,.oiter (.sref .map (1,10) 1) ks.length seen ks.length⟩),((1,10),⟨1,omS ks⟩),((1,3),⟨2,.obox 1 fun _ => .sref .map (1,10) 1⟩)]) (sort_at (by simp) (sort_spec _ (by omega) _ _ _ _)) (fun r=>rfl) ?_
    rintro x L' nv' ⟨rfl,rfl⟩
    repeat'(first|refine vcI ?_|refine And.intro ?_ ?_|(intro hq;(try simp at hq);(try(exfalso;omega));(try(revert hq;intro))))
    rw [sortI_perm hperm]
    have e:ks=symKs fs:=by rw [hks,hK0];rfl
    rw [← e]
    refine view_ints rfl ?_
    rw [sortI_len,← hperm.length_eq,List.length_map]
   ·rename_i _ _ i hi
    obtain ⟨hi1,hi2⟩:=mem_leftI hi
    refine Exists.intro (PV.oiter (.sref .map (1,10) 1) ks.length (seen++[i]) ks.length) (And.intro (by rw [show (List.range ks.length).getD i 0=i by simp [hi1]]) ?_)
    repeat'(first|refine vcI ?_|refine And.intro ?_ ?_|(intro hq;(try simp at hq);(try(exfalso;omega));(try(revert hq;intro))))
    rename_i o ho
    rw [entry_enc hi1] at ho
    subst ho
    repeat'(first|refine vcI ?_|refine And.intro ?_ ?_|(intro hq;(try simp at hq);(try(exfalso;omega));(try(revert hq;intro))))
    refine Exists.intro (oints [ks.getD i 0]) (And.intro ?_ (And.intro (by first|rfl|exact shape_prs (by simp)|exact shape_ints (by simp)|exact shape_odvs (by simp)) ?_))
    ·refine NEq.owns rfl rfl fun i o hi ho=>?_
     obtain rfl:i=0:=by simpa using hi
     obtain rfl:o=0:=by omega
     exact .refl _
    have hol:(seen.map fun b=>ks.getD b 0).length≤30000:=by rw [List.length_map];omega
    repeat'(first|refine vcI ?_|refine And.intro ?_ ?_|(intro hq;(try simp at hq);(try(exfalso;omega));(try(revert hq;intro))))
    ·simp
    refine Exists.intro (oints ((seen.map fun b=>ks.getD b 0)++[ks.getD i 0])) (And.intro ?_ (And.intro (shape_ints (by simp)) ?_))
    ·exact app_ints rfl (by simp) (fun i o hi ho=>by (try dsimp only);rw [if_pos hi];exact .refl _) (fun i o hi ho=>by (try dsimp only);rw [if_neg (by omega),Nat.add_sub_cancel_left];(try rw [cellV_pcell]);(try simp only [Nat.zero_add]);exact .refl _)
    repeat'(first|refine vcI ?_|refine And.intro ?_ ?_|(intro hq;(try simp at hq);(try(exfalso;omega));(try(revert hq;intro))))
    have hs1':(seen++[i]).Nodup:=List.nodup_append.2 ⟨hs1,by simp,fun a ha b hb=>by simp at hb;subst hb;exact fun e=>hi2 (e▸ha)⟩
    have hs2':∀ x∈seen++[i],x<ks.length:=fun x hx=>(List.mem_append.1 hx).elim (hs2 x) fun h=>by simp at h;omega
    have hl':=seen_len hs1' hs2'
    rw [List.length_append,List.length_singleton] at hl'
    refine Exists.intro (seen++[i],_) ⟨⟨hs1',hs2'⟩,by simp;omega,⟨?_,⟨⟨rfl,?_⟩,⟨rfl,.refl _⟩,⟨rfl,.refl _⟩,⟨rfl,.refl _⟩,trivial⟩,.nil⟩⟩
    ·exact ⟨.refs rfl rfl (by simp),.refl _,trivial⟩
    ·rw [List.map_append];exact .refl _
end Go.Ab
namespace Go.Ab
open Go.Proofs
set_option maxRecDepth 100000
set_option maxHeartbeats 1000000

theorem putL_mem {l:List Int} {n x:Int}:x∈putL l n↔x∈l∨x=n:=by
 induction l with
 | nil=>simp [putL]
 | cons y l ih =>
  simp only [putL]
  split
  ·rw [List.mem_cons,ih,List.mem_cons];exact or_assoc.symm
  ·split
   ·rename_i h;subst h;simp only [List.mem_cons]
    constructor
    ·exact .inl
    ·rintro (h|h)
     ·exact h
     ·exact .inl h
   ·simp only [List.mem_cons]
    constructor
    ·rintro (h|h)
     ·exact .inr h
     ·exact .inl h
    ·rintro (h|h)
     ·exact .inr h
     ·exact .inl h
theorem putL_sorted {l:List Int} {n:Int} (h:l.Pairwise (·<·)):(putL l n).Pairwise (·<·):=by
 induction l with
 | nil=>simp [putL]
 | cons y l ih =>
  obtain ⟨h1,h2⟩:=List.pairwise_cons.1 h
  simp only [putL]
  split
  ·rename_i hy
   refine List.pairwise_cons.2 ⟨fun a ha=>?_,ih h2⟩
   rcases putL_mem.1 ha with ha|rfl
   ·exact h1 a ha
   ·exact hy
  ·split
   ·exact h
   ·rename_i a b
    refine List.pairwise_cons.2 ⟨fun c hc=>?_,h⟩
    rcases List.mem_cons.1 hc with rfl|hc
    ·omega
    ·have:=h1 c hc;omega

def usedIn (f:DF) (x:Int):Prop:=(∃ v∈allL f,v.k=1∧v.n=x)∨(f.act≠0∧IntKind.i64.wrap (f.act - 1)=x)
theorem useV_mem (l:List DV) (out:List Int) (x:Int):x∈l.foldl useV out↔x∈out∨∃ v∈l,v.k=1∧v.n=x:=by
 induction l generalizing out with
 | nil=>simp
 | cons v l ih =>
  rw [List.foldl_cons,ih]
  unfold useV
  by_cases h:v.k=1
  ·rw [if_pos h,putL_mem]
   constructor
   ·rintro ((h1|h1)|⟨u,h1,h2⟩)
    ·exact .inl h1
    ·exact .inr ⟨v,by simp,h,h1.symm⟩
    ·exact .inr ⟨u,List.mem_cons_of_mem _ h1,h2⟩
   ·rintro (h1|⟨u,h1,h2,h3⟩)
    ·exact .inl (.inl h1)
    ·rcases List.mem_cons.1 h1 with rfl|h1
     ·exact .inl (.inr h3.symm)
     ·exact .inr ⟨u,h1,h2,h3⟩
  ·rw [if_neg h]
   constructor
   ·rintro (h1|⟨u,h1,h2⟩)
    ·exact .inl h1
    ·exact .inr ⟨u,List.mem_cons_of_mem _ h1,h2⟩
   ·rintro (h1|⟨u,h1,h2,h3⟩)
    ·exact .inl h1
    ·rcases List.mem_cons.1 h1 with rfl|h1
     ·exact absurd h2 h
     ·exact .inr ⟨u,h1,h2,h3⟩
theorem useF_mem (out:List Int) (f:DF) (x:Int):x∈useF out f↔x∈out∨usedIn f x:=by
 unfold useF useA usedIn
 by_cases h:f.act=0
 ·rw [if_pos h,useV_mem];simp [h]
 ·rw [if_neg h,putL_mem,useV_mem]
  simp only [h,ne_eq,not_false_eq_true,true_and,or_assoc,eq_comm (a:=x)]
theorem usesL_mem (fs:List DF) (x:Int):x∈usesL fs↔∃ f∈fs,usedIn f x:=by
 have key:∀ (fs:List DF) (out:List Int),x∈fs.foldl useF out↔x∈out∨∃ f∈fs,usedIn f x:=by
  intro fs
  induction fs with
  | nil=>intro out;simp
  | cons f fs ih =>
   intro out
   rw [List.foldl_cons,ih,useF_mem]
   simp only [List.mem_cons,exists_eq_or_imp,or_assoc]
 rw [usesL,key];simp
theorem insV_mem (l:List DV) (out:List Int) (x:Int):x∈l.foldl insV out↔x∈out∨∃ v∈l,v.k=1∧v.n=x:=by
 induction l generalizing out with
 | nil=>simp
 | cons v l ih =>
  rw [List.foldl_cons,ih]
  unfold insV
  by_cases h:v.k=1
  ·rw [if_pos h,mem_ins];simp only [List.mem_cons,exists_eq_or_imp,h,true_and,or_assoc,eq_comm (a:=x)]
  ·rw [if_neg h];simp only [List.mem_cons,exists_eq_or_imp,h,false_and,false_or]
theorem insF_mem (l:List DF) (out:List Int) (x:Int):x∈l.foldl insF out↔x∈out∨∃ f∈l,f.act≠0∧IntKind.i64.wrap (f.act - 1)=x:=by
 induction l generalizing out with
 | nil=>simp
 | cons v l ih =>
  rw [List.foldl_cons,ih]
  unfold insF
  by_cases h:v.act=0
  ·rw [if_pos h];simp only [List.mem_cons,exists_eq_or_imp,h,ne_eq,not_true_eq_false,false_and,false_or]
  ·rw [if_neg h,mem_ins];simp only [List.mem_cons,exists_eq_or_imp,h,ne_eq,not_false_eq_true,true_and,or_assoc,eq_comm (a:=x)]
theorem symKs_mem (fs:List DF) (x:Int):x∈symKs fs↔∃ f∈fs,usedIn f x:=by
 unfold symKs usedIn
 rw [insF_mem,insV_mem]
 constructor
 ·rintro ((h|⟨v,hv,h⟩)|⟨f,hf,h⟩)
  ·cases h
  ·obtain ⟨f,hf,hv⟩:=List.mem_flatMap.1 hv
   exact ⟨f,hf,.inl ⟨v,hv,h⟩⟩
  ·exact ⟨f,hf,.inr h⟩
 ·rintro ⟨f,hf,⟨v,hv,h⟩|h⟩
  ·exact .inl (.inr ⟨v,List.mem_flatMap.2 ⟨f,hf,hv⟩,h⟩)
  ·exact .inr ⟨f,hf,h⟩
theorem usesL_sorted (fs:List DF):(usesL fs).Pairwise (·<·):=by
 have h1:∀ (l:List DV) (out:List Int),out.Pairwise (·<·)→(l.foldl useV out).Pairwise (·<·):=by
  intro l
  induction l with
  | nil=>intro out h;exact h
  | cons v l ih=>intro out h;exact ih _ (by unfold useV;split;exact putL_sorted h;exact h)
 have h2:∀ (l:List DF) (out:List Int),out.Pairwise (·<·)→(l.foldl useF out).Pairwise (·<·):=by
  intro l
  induction l with
  | nil=>intro out h;exact h
  | cons v l ih=>intro out h;exact ih _ (by unfold useF useA;split;exact h1 _ _ h;exact putL_sorted (h1 _ _ h))
 exact h2 fs [] List.Pairwise.nil
theorem sortI_sorted {l:List Int} (h:l.Pairwise (·<·)):sortI l=l:=by
 unfold sortI
 exact List.mergeSort_of_pairwise (h.imp fun h=>by simp;omega)
theorem symUses_eq (fs:List DF):sortI (symKs fs)=usesL fs:=by
 have hp:(symKs fs).Perm (usesL fs):=(List.perm_ext_iff_of_nodup (symKs_nodup fs) ((usesL_sorted fs).imp fun h=>Int.ne_of_lt h)).2 fun a=>by rw [symKs_mem,usesL_mem]
 rw [sortI_perm hp,sortI_sorted (usesL_sorted fs)]
theorem symUses (fs:List DF) (hf:fs.length≤1048576∧∀ f∈fs,f.small) (hN:frN fs≤6000):CallsF Tryz.prog 61 [dfs fs] (ints (usesL fs)):=symUses_eq fs▸symUses_spec fs hf hN
end Go.Ab
namespace Go.Ab

def viewX:Nat→Roots→PV→PV
 | 0,_,_ => .undef
 | k+1,H,x=>match x with
  | .ref r ver p sz lo hi=>match H r with
   | some rt=>match Nat.beq rt.ver ver with
    | true=>match getAt rt.node p with
     | .own _ _ f => .frz sz (hi - lo) fun i o=>viewX k H (f (lo+i) o)
     | _ => .undef
    | false => .undef
   | none => .undef
  | .ptr r ver p i o=>match H r with
   | some rt=>match Nat.beq rt.ver ver with
    | true=>match getAt rt.node p with
     | .own sz _ f => .fptr sz (fun j=>viewX k H (f i j)) o
     | .obox sz c => .fptr sz (fun j=>viewX k H (c j)) o
     | _ => .undef
    | false => .undef
   | none => .undef
  | .agg l => .agg (l.map (viewX k H))
  | .tup l => .tup (l.map (viewX k H))
  | .func fn l l' => .func fn (l.map (viewX k H)) (l'.map (viewX k H))
  | .int ik n => .int ik n
  | .bool b => .bool b
  | .str s => .str s
  | .nilp => .nilp
  | .nilf => .nilf
  | .nilm => .nilm
  | .nili => .nili
  | .nils => .nils
  | _ => .undef

def neqX:Nat→PV→PV→Bool
 | 0,_,_=>false
 | k+1,x,y=>match x,y with
  | .int i a,.int j b=>decide (i=j)&&decide (a=b)
  | .bool a,.bool b=>a == b
  | .nilf,.nilf=>true
  | .nils,.nils=>true
  | .nilp,.nilp=>true
  | .func (.func f) l l',.func (.func g) m m'=>Nat.beq f g&&(Nat.beq l.length m.length&&(l.zip m).all fun p=>neqX k p.1 p.2)&&(Nat.beq l'.length m'.length&&(l'.zip m').all fun p=>neqX k p.1 p.2)
  | .agg l,.agg m=>Nat.beq l.length m.length&&(l.zip m).all fun p=>neqX k p.1 p.2
  | .fptr sz c o,.fptr sz' c' o'=>Nat.beq sz sz'&&Nat.beq o o'&&(List.range sz).all fun j=>neqX k (c j) (c' j)
  | .frz sz n c,.frz sz' n' c'=>Nat.beq sz sz'&&Nat.beq n n'&&(List.range n).all fun i=>(List.range sz).all fun j=>neqX k (c i j) (c' i j)
  | _,_=>false


theorem zip_all {l m:List PV} {k:Nat} (h:(Nat.beq l.length m.length&&(l.zip m).all fun p=>neqX k p.1 p.2)=true):l.length=m.length∧∀ i,i<l.length→neqX k (l.getD i .undef) (m.getD i .undef)=true:=by
 rw [Bool.and_eq_true] at h
 have h1:=Nat.eq_of_beq_eq_true h.1
 refine ⟨h1,fun i hi=>?_⟩
 have:=List.all_eq_true.1 h.2 (l.getD i .undef,m.getD i .undef) (by
  rw [List.getD_eq_getElem?_getD,List.getD_eq_getElem?_getD,List.getElem?_eq_getElem hi,List.getElem?_eq_getElem (h1▸hi)]
  exact List.mem_iff_getElem.2 ⟨i,by simp;omega,by simp⟩)
 exact this

theorem neqX_sound:∀ (k:Nat) (x y:PV),neqX k x y=true→NEq x y:=by
 intro k
 induction k with
 | zero=>intro x y h;cases h
 | succ k ih =>
  intro x y h
  unfold neqX at h
  split at h
  ·simp only [Bool.and_eq_true,decide_eq_true_eq] at h;obtain ⟨rfl,rfl⟩:=h;exact .refl _
  ·have:=eq_of_beq h;subst this;exact .refl _
  ·exact .refl _
  ·exact .refl _
  ·exact .refl _
  ·rw [Bool.and_eq_true,Bool.and_eq_true] at h
   obtain ⟨⟨h1,h2⟩,h3⟩:=h
   obtain rfl:=Nat.eq_of_beq_eq_true h1
   obtain ⟨a1,a2⟩:=zip_all h2
   obtain ⟨b1,b2⟩:=zip_all h3
   exact .func a1 b1 (fun i hi=>ih _ _ (a2 i hi)) (fun i hi=>ih _ _ (b2 i hi))
  ·obtain ⟨a1,a2⟩:=zip_all h
   exact .agg a1 fun i hi=>ih _ _ (a2 i hi)
  ·rw [Bool.and_eq_true,Bool.and_eq_true] at h
   obtain ⟨⟨h1,h2⟩,h3⟩:=h
   obtain rfl:=Nat.eq_of_beq_eq_true h1
   obtain rfl:=Nat.eq_of_beq_eq_true h2
   exact .fptr fun j hj=>ih _ _ (List.all_eq_true.1 h3 j (List.mem_range.2 hj))
  ·rw [Bool.and_eq_true,Bool.and_eq_true] at h
   obtain ⟨⟨h1,h2⟩,h3⟩:=h
   obtain rfl:=Nat.eq_of_beq_eq_true h1
   obtain rfl:=Nat.eq_of_beq_eq_true h2
   exact .frz fun i j hi hj=>ih _ _ (List.all_eq_true.1 (List.all_eq_true.1 h3 i (List.mem_range.2 hi)) j (List.mem_range.2 hj))
  ·cases h

theorem viewX_less:∀ (k:Nat) (hp:Hp) (x y:PV) (n:Nat),neqX n (viewX k (lkH hp) x) y=true→NEq (view k hp x) y:=by
 intro k
 induction k with
 | zero =>
  intro hp x y n h
  cases n with
  | zero=>cases h
  | succ n=>simp [viewX,neqX] at h
 | succ k ih =>
  intro hp x y n h
  cases n with
  | zero=>cases h
  | succ n =>
   unfold viewX at h
   have lst:∀ {l m:List PV},(Nat.beq (l.map (viewX k (lkH hp))).length m.length&&((l.map (viewX k (lkH hp))).zip m).all fun p=>neqX n p.1 p.2)=true→(l.map (view k hp)).length=m.length∧∀ i,i<(l.map (view k hp)).length→NEq ((l.map (view k hp)).getD i .undef) (m.getD i .undef):=by
    intro l m h
    obtain ⟨h1,h2⟩:=zip_all h
    refine ⟨by simpa using h1,fun i hi=>?_⟩
    have hi':i<l.length:=by simpa using hi
    have:=h2 i (by simpa using hi')
    have e1:(l.map (viewX k (lkH hp))).getD i .undef=viewX k (lkH hp) (l.getD i .undef):=by simp [hi']
    have e2:(l.map (view k hp)).getD i .undef=view k hp (l.getD i .undef):=by simp [hi']
    rw [e1] at this
    rw [e2]
    exact ih _ _ _ _ this
   cases x with
   | ref r ver p sz lo hi =>
    simp only [view] at h ⊢
    cases hr:lkH hp r with
    | none=>rw [hr] at h;simp [neqX] at h
    | some rt =>
     rw [hr] at h
     simp only at h ⊢
     cases hb:Nat.beq rt.ver ver with
     | false=>rw [hb] at h;simp [neqX] at h
     | true =>
      rw [hb] at h
      rw [if_pos (Nat.eq_of_beq_eq_true hb)]
      simp only at h
      split at h
      ·rename_i f hg
       rw [hg]
       simp only
       cases y with
       | frz sz' n' g =>
        simp only [neqX,Bool.and_eq_true] at h
        obtain ⟨⟨h1,h2⟩,h3⟩:=h
        obtain rfl:=Nat.eq_of_beq_eq_true h1
        obtain rfl:=Nat.eq_of_beq_eq_true h2
        exact .frz fun i j hi hj=>ih _ _ _ _ (List.all_eq_true.1 (List.all_eq_true.1 h3 i (List.mem_range.2 hi)) j (List.mem_range.2 hj))
       | _=>simp [neqX] at h
      ·simp [neqX] at h
   | ptr r ver p i o =>
    simp only [view] at h ⊢
    cases hr:lkH hp r with
    | none=>rw [hr] at h;simp [neqX] at h
    | some rt =>
     rw [hr] at h
     simp only at h ⊢
     cases hb:Nat.beq rt.ver ver with
     | false=>rw [hb] at h;simp [neqX] at h
     | true =>
      rw [hb] at h
      rw [if_pos (Nat.eq_of_beq_eq_true hb)]
      simp only at h
      split at h
      ·rename_i sz f hg
       rw [hg]
       simp only
       cases y with
       | fptr sz' c' o' =>
        simp only [neqX,Bool.and_eq_true] at h
        obtain ⟨⟨h1,h2⟩,h3⟩:=h
        obtain rfl:=Nat.eq_of_beq_eq_true h1
        obtain rfl:=Nat.eq_of_beq_eq_true h2
        exact .fptr fun j hj=>ih _ _ _ _ (List.all_eq_true.1 h3 j (List.mem_range.2 hj))
       | _=>simp [neqX] at h
      ·rename_i sz f hg
       rw [hg]
       simp only
       cases y with
       | fptr sz' c' o' =>
        simp only [neqX,Bool.and_eq_true] at h
        obtain ⟨⟨h1,h2⟩,h3⟩:=h
        obtain rfl:=Nat.eq_of_beq_eq_true h1
        obtain rfl:=Nat.eq_of_beq_eq_true h2
        exact .fptr fun j hj=>ih _ _ _ _ (List.all_eq_true.1 h3 j (List.mem_range.2 hj))
       | _=>simp [neqX] at h
      ·simp [neqX] at h
   | agg l =>
    simp only [view] at h ⊢
    cases y with
    | agg m=>simp only [neqX] at h;obtain ⟨a,b⟩:=lst h;exact .agg a b
    | _=>simp [neqX] at h
   | func fn l l' =>
    simp only [view] at h ⊢
    cases y with
    | func fn' m m' =>
     cases fn <;> cases fn' <;> simp only [neqX] at h <;> try (cases h;done)
     rw [Bool.and_eq_true,Bool.and_eq_true] at h
     obtain ⟨⟨h1,h2⟩,h3⟩:=h
     obtain rfl:=Nat.eq_of_beq_eq_true h1
     obtain ⟨a1,a2⟩:=lst h2
     obtain ⟨b1,b2⟩:=lst h3
     exact .func a1 b1 a2 b2
    | _=>cases fn <;> simp [neqX] at h
   | tup l=>simp [neqX] at h
   | int ik m=>exact neqX_sound _ _ _ h
   | bool b=>exact neqX_sound _ _ _ h
   | str s=>exact neqX_sound _ _ _ h
   | nilp=>exact neqX_sound _ _ _ h
   | nilf=>exact neqX_sound _ _ _ h
   | nilm=>exact neqX_sound _ _ _ h
   | nili=>exact neqX_sound _ _ _ h
   | nils=>exact neqX_sound _ _ _ h
   | _=>simp [neqX] at h

theorem callsF_val {P:Program} (hP:goodP P=true) {f:FuncId} {args:List PV} {res:PV} (n m:Nat) (h:funX P n f args .nil 0 (fun x H _=>match neqX m (viewX 9 H.roots x) res with|true=>some true|false=>none)=some true):CallsF P f args res:=by
 obtain ⟨x,H',nv',h1,h2,hp',hl⟩:=funX_ok hP n _ _ _ _ _ _ ⟨[],by funext r;simp [lkH,HT.roots,Tr.get_nil]⟩ h
 refine callsF_of_X h2 hl (viewX_less 9 hp' x res m ?_)
 rw [hl]
 cases hb:neqX m (viewX 9 H'.roots x) res with
 | true=>rfl
 | false=>rw [hb] at h1;cases h1
end Go.Ab
namespace Go.Ab
open Classical
open Go.Proofs
set_option maxRecDepth 100000
set_option maxHeartbeats 1000000

def bitsK {β:Type} (ws:Nat→Nat):Nat→List Int→(List Int→β)→β
 | 0,acc,k=>k acc
 | r+1,acc,k=>match bitW ws r with
  | true=>bitsK ws r (Int.ofNat r::acc) k
  | false=>bitsK ws r acc k
theorem bitsK_eq {β:Type} (ws:Nat→Nat):∀ (n:Nat) (acc:List Int) (k:List Int→β),bitsK ws n acc k=k (listW ws n++acc):=by
 intro n
 induction n with
 | zero=>intro acc k;rfl
 | succ n ih =>
  intro acc k
  unfold bitsK
  cases h:bitW ws n with
  | true=>simp only [ih,listW_yes h,List.append_assoc,List.singleton_append];rfl
  | false=>simp only [ih,listW_no h]

def wordX {β:Type} (x:PV) (k:Nat→Option β):Option β:=match x with
 | .int ik z=>match ik with
  | .u64=>match z with
   | .ofNat m=>match Nat.blt m 18446744073709551616 with
    | true=>natK m k
    | false=>none
   | .negSucc _=>none
  | _=>none
 | _=>none
theorem wordX_iff {β:Type} {x:PV} {k:Nat→Option β} {y:β} (h:wordX x k=some y):∃ m:Nat,x = .int .u64 m∧m<18446744073709551616∧k m=some y:=by
 unfold wordX at h
 split at h
 ·split at h
  ·split at h
   ·split at h
    ·rename_i hb
     exact ⟨_,rfl,by simpa [Nat.blt_eq] using hb,by rwa [natK_eq] at h⟩
    ·cases h
   ·cases h
  ·cases h
 ·cases h
def ws4 (a b c d:Nat):Nat→Nat
 | 0=>a
 | 1=>b
 | 2=>c
 | 3=>d
 | _=>0
def cellsX {β:Type} (x:PV) (H:HT) (k:(Nat→PV)→Option β):Option β:=match x with
 | .fptr sz c o=>match o with
  | 0=>match Nat.beq sz 4 with
   | true=>k c
   | false=>none
  | _=>none
 | .ptr r v p i o=>match o with
  | 0=>match H.roots r with
   | some ⟨v',node⟩=>match Nat.beq v' v with
    | true=>match getAt node p with
     | .own sz _ f=>match Nat.beq sz 4 with
      | true=>k (f i)
      | false=>none
     | .obox sz c=>match Nat.beq sz 4 with
      | true=>k c
      | false=>none
     | _=>none
    | false=>none
   | none=>none
  | _=>none
 | _=>none
theorem cellsX_iff {β:Type} {x:PV} {H:HT} {k:(Nat→PV)→Option β} {y:β} {hp:Hp} (hh:lkH hp=H.roots) (h:cellsX x H k=some y):∃ c,k c=some y∧(view 9 hp x = .fptr 4 c 0∨view 9 hp x = .fptr 4 (fun j=>view 8 hp (c j)) 0):=by
 unfold cellsX at h
 split at h
 ·split at h
  ·split at h
   ·rename_i hb
    obtain rfl:=Nat.eq_of_beq_eq_true hb
    exact ⟨_,h,.inl rfl⟩
   ·cases h
  ·cases h
 ·split at h
  ·split at h
   ·rename_i hr
    split at h
    ·rename_i hb
     obtain rfl:=Nat.eq_of_beq_eq_true hb
     split at h
     ·split at h
      ·rename_i hg _ hb
       obtain rfl:=Nat.eq_of_beq_eq_true hb
       refine ⟨_,h,.inr ?_⟩
       rw [view,hh,hr]
       simp only [if_true]
       rw [hg]
      ·cases h
     ·split at h
      ·rename_i hg _ hb
       obtain rfl:=Nat.eq_of_beq_eq_true hb
       refine ⟨_,h,.inr ?_⟩
       rw [view,hh,hr]
       simp only [if_true]
       rw [hg]
      ·cases h
     ·cases h
    ·cases h
   ·cases h
  ·cases h
 ·cases h

def listX {β:Type} (ags:List PV) (H:HT) (nv:Nat) (k:PV→HT→Nat→Option β):Option β:=match ags with
 | [x]=>cellsX x H fun c=>wordX (c 0) fun w0=>wordX (c 1) fun w1=>wordX (c 2) fun w2=>wordX (c 3) fun w3=>bitsK (ws4 w0 w1 w2 w3) 250 [] fun l=>natK l.length fun n=>natK (nv+1) fun lv=>match Nat.blt lv 1000000000 with
  | true=>H.putK (lv,999998) (some ⟨nv,.own 1 n fun i _ => .int .i64 (l.getD i 0)⟩) fun H=>k (.ref (lv,999998) nv [] 1 0 n) H lv
  | false=>none
 | _=>none

def ovL {β:Type} (call:CallX β):CallX β:=fun f ags H nv k=>match Nat.beq f 32 with
 | true=>listX ags H nv k
 | false=>call f ags H nv k

theorem ovL_ok {β:Type} (call:CallX β) (h:CallOK Tryz.prog call):CallOK Tryz.prog (ovL call):=by
 intro f ags H nv k y hl hk
 unfold ovL at hk
 split at hk
 ·rename_i hf
  obtain rfl:=Nat.eq_of_beq_eq_true hf
  obtain ⟨hp,hh⟩:=hl
  unfold listX at hk
  split at hk
  ·rename_i x
   obtain ⟨c,hk,hv⟩:=cellsX_iff hh hk
   obtain ⟨w0,e0,l0,hk⟩:=wordX_iff hk
   obtain ⟨w1,e1,l1,hk⟩:=wordX_iff hk
   obtain ⟨w2,e2,l2,hk⟩:=wordX_iff hk
   obtain ⟨w3,e3,l3,hk⟩:=wordX_iff hk
   rw [bitsK_eq,List.append_nil,natK_eq,natK_eq] at hk
   split at hk
   ·rename_i hb
    obtain ⟨H',h1,h2⟩:=HT.putK_spec H (nv+1,999998) (some ⟨nv,.own 1 (listW (ws4 w0 w1 w2 w3) 250).length fun i _ => .int .i64 ((listW (ws4 w0 w1 w2 w3) 250).getD i 0)⟩) (fun H=>k (.ref (nv+1,999998) nv [] 1 0 (listW (ws4 w0 w1 w2 w3) 250).length) H (nv+1)) (by simpa [Nat.blt_eq] using hb)
    rw [h1] at hk
    have hcell:∀ j,j<4→c j=setC (ws4 w0 w1 w2 w3) j:=fun j hj=>by
     match j,hj with
     | 0,_=>exact e0
     | 1,_=>exact e1
     | 2,_=>exact e2
     | 3,_=>exact e3
    have hq:NEq (view 9 hp x) (.fptr 4 (setC (ws4 w0 w1 w2 w3)) 0):=by
     rcases hv with hv|hv <;> rw [hv]
     ·exact .fptr fun j hj=>by rw [hcell j hj];exact .refl _
     ·exact .fptr fun j hj=>by rw [hcell j hj];exact .refl _
    refine ⟨_,H',nv+1,hk,callsX_of_O (id:=(nv+1,999998)) (by simp) hh ((setList_spec (ws4 w0 w1 w2 w3) fun o=>?_).less (.cons hq .nil)) (fun i o hi=>trivial) h2,setH hp (nv+1,999998) (some ⟨nv,.own 1 (listW (ws4 w0 w1 w2 w3) 250).length fun i _ => .int .i64 ((listW (ws4 w0 w1 w2 w3) 250).getD i 0)⟩),?_⟩
    ·match o with
     | 0=>exact l0
     | 1=>exact l1
     | 2=>exact l2
     | 3=>exact l3
     | _+4=>exact Nat.zero_lt_succ _
    ·rw [h2];funext j;rw [lookH_setH,hh]
   ·cases hk
  ·cases hk
 ·exact h _ _ _ _ _ _ hl hk

theorem good:goodP Tryz.prog=true:=by kernel_rfl
end Go.Ab
namespace Go.Ab
open Go.Proofs
set_option maxRecDepth 100000
set_option maxHeartbeats 1000000

def fnV (k:Nat):PV := .func (.func k) [] []
def rowC (u:PV) (s f g:Bool):List PV:=[u,.bool s,.bool f,.bool g]
def uNone:PV:=fnV 109
def uA:PV:=fnV 106
def uAB:PV:=fnV 107
def uAll:PV:=fnV 108
def uRet:PV := .func (.func 110) [] [.fptr 1 (fun _=>uA) 0]
def uBlk:PV:=fnV 111
def uDrop:PV:=fnV 112
def rowAt:Nat→List PV
 | 1=>rowC uNone true true false
 | 2=>rowC uA true true false
 | 3=>rowC uA false true true
 | 4=>rowC uA true true false
 | 5=>rowC uAB false true false
 | 6=>rowC uAll true true true
 | 7=>rowC uAll true true false
 | 8=>rowC uNone false true false
 | 9=>rowC uNone false false true
 | 10=>rowC uRet false false false
 | 11=>rowC uNone false false false
 | 12=>rowC uNone true true false
 | 13=>rowC uBlk true true false
 | 14=>rowC uA true true false
 | 15=>rowC uAB false true false
 | 16=>rowC uDrop false true false
 | _=>rowC .nilf false false false
def rowsL:List PV:=(List.range 17).flatMap rowAt
def codeL (o:DO) (lv:PV):List PV:=dol o++(rowsL++[lv])

theorem table_spec:CallsF Tryz.prog 76 [] (.agg rowsL):=callsF_val good 10 10 (by kernel_rfl)
end Go.Ab
namespace Go.Ab
open Go.Proofs
set_option maxRecDepth 100000
set_option maxHeartbeats 1000000

def codeC (o:DO) (lv:PV):Nat→PV:=fun j=>(codeL o lv).getD j .undef
def codeP (o:DO) (lv:PV):PV := .fptr 81 (codeC o lv) 0

theorem uNone_spec (p:PV) (i:Int):CallsF Tryz.prog 109 [p,.int .i64 i] (ints []):=by
 refine callsF_ofS mx Tryz.call109 Tryz.func109 rfl Tryz.ntmps109 Tryz.results109 (by kernel_rfl) (by simp) fun lo=>?_
 repeat'(first|refine vcI ?_|refine And.intro ?_ ?_|(intro hq;(try simp at hq);(try(exfalso;omega));(try(revert hq;intro))))
 exact .nils
theorem uA_spec (o:DO) (lv:PV) (i:Nat) (hi:i<o.irs.length) (hl:o.irs.length≤1048576):CallsF Tryz.prog 106 [codeP o lv,.int .i64 i] (ints [(o.irs.getD i default).a]):=by
 refine callsF_ofS mx Tryz.call106 Tryz.func106 rfl Tryz.ntmps106 Tryz.results106 (by kernel_rfl) (by simp) fun lo=>?_
 repeat'(first|refine vcI ?_|refine And.intro ?_ ?_|(intro hq;(try simp at hq);(try(exfalso;omega));(try(revert hq;intro))))
 ·refine Exists.intro (oints [(o.irs.getD i default).a]) (And.intro ?_ (And.intro (by first|rfl|exact shape_prs (by simp)|exact shape_ints (by simp)|exact shape_odvs (by simp)) ?_))
  ·exact one_ints _ rfl rfl (.refl _)
  exact view_ints rfl rfl
theorem uAB_spec (o:DO) (lv:PV) (i:Nat) (hi:i<o.irs.length) (hl:o.irs.length≤1048576):CallsF Tryz.prog 107 [codeP o lv,.int .i64 i] (ints [(o.irs.getD i default).a,(o.irs.getD i default).b]):=by
 refine callsF_ofS mx Tryz.call107 Tryz.func107 rfl Tryz.ntmps107 Tryz.results107 (by kernel_rfl) (by simp) fun lo=>?_
 repeat'(first|refine vcI ?_|refine And.intro ?_ ?_|(intro hq;(try simp at hq);(try(exfalso;omega));(try(revert hq;intro))))
 ·refine Exists.intro (oints [(o.irs.getD i default).a,(o.irs.getD i default).b]) (And.intro ?_ (And.intro (by first|rfl|exact shape_prs (by simp)|exact shape_ints (by simp)|exact shape_odvs (by simp)) ?_))
  ·exact two_ints _ _ rfl rfl (.refl _) (.refl _)
  exact view_ints rfl rfl
theorem uDrop_spec (o:DO) (lv:PV) (i:Nat) (hi:i<o.irs.length) (hl:o.irs.length≤1048576):CallsF Tryz.prog 112 [codeP o lv,.int .i64 i] (ints (o.irs.getD i default).args):=by
 refine callsF_ofS mx Tryz.call112 Tryz.func112 rfl Tryz.ntmps112 Tryz.results112 (by kernel_rfl) (by simp) fun lo=>?_
 repeat'(first|refine vcI ?_|refine And.intro ?_ ?_|(intro hq;(try simp at hq);(try(exfalso;omega));(try(revert hq;intro))))
 exact .refl _
theorem uAll_spec (o:DO) (lv:PV) (i:Nat) (hi:i<o.irs.length) (hl:o.irs.length≤1048576) (ha:(o.irs.getD i default).args.length≤1048576):CallsF Tryz.prog 108 [codeP o lv,.int .i64 i] (ints ((o.irs.getD i default).a::(o.irs.getD i default).args)):=by
 have ha':(o.irs.getD (i:Int).toNat default).args.length≤1048576:=ha
 refine callsF_ofS mx Tryz.call108 Tryz.func108 rfl Tryz.ntmps108 Tryz.results108 (by kernel_rfl) (by simp) fun lo=>?_
 repeat'(first|refine vcI ?_|refine And.intro ?_ ?_|(intro hq;(try simp at hq);(try(exfalso;omega));(try(revert hq;intro))))
 ·rfl
 refine Exists.intro (oints ([(o.irs.getD i default).a]++(o.irs.getD i default).args)) (And.intro ?_ (And.intro (shape_ints (by rw [List.length_append];rfl)) ?_))
 ·refine NEq.owns rfl (by rw [List.length_append];rfl) fun j q hj hq=>?_
  obtain rfl:q=0:=by omega
  rw [getD_app]
  show NEq (if j<1 then _ else _) _
  by_cases c:j<1
  ·rw [if_pos c]
   obtain rfl:j=0:=by omega
   exact .refl _
  ·rw [if_neg c,if_neg (by simpa using c)]
   exact .refl _
 ·refine view_ints rfl ?_
  rw [List.length_cons];exact Nat.add_comm ..
theorem uRet_spec (o:DO) (lv:PV) (i:Nat) (hi:i<o.irs.length) (hl:o.irs.length≤1048576):CallsF Tryz.prog 110 [codeP o lv,.int .i64 i,.fptr 1 (fun _=>uA) 0] (ints (if (o.irs.getD i default).n=0 then [(o.irs.getD i default).a] else [(o.irs.getD i default).a,IntKind.i64.wrap ((o.irs.getD i default).n - 1)])):=by
 refine callsF_ofS mx Tryz.call110 Tryz.func110 rfl Tryz.ntmps110 Tryz.results110 (by kernel_rfl) (by simp) fun lo=>?_
 repeat'(first|refine vcI ?_|refine And.intro ?_ ?_|(intro hq;(try simp at hq);(try(exfalso;omega));(try(revert hq;intro))))
 ·rename_i h
  have h':¬ (o.irs.getD i default).n=0:=h
  rw [if_neg h']
  refine Exists.intro (oints [(o.irs.getD i default).a,IntKind.i64.wrap ((o.irs.getD i default).n - 1)]) (And.intro ?_ (And.intro (by first|rfl|exact shape_prs (by simp)|exact shape_ints (by simp)|exact shape_odvs (by simp)) ?_))
  ·exact two_ints _ _ rfl rfl (.refl _) (.refl _)
  exact view_ints rfl rfl
 ·rename_i h
  have h':(o.irs.getD i default).n=0:=h
  rw [if_pos h']
  refine CallS.frozen (ints [(o.irs.getD i default).a]) (uA_spec o lv i hi hl) (plainAll rfl) ?_
  repeat'(first|refine vcI ?_|refine And.intro ?_ ?_|(intro hq;(try simp at hq);(try(exfalso;omega));(try(revert hq;intro))))
  exact .refl _
theorem uBlk_spec (o:DO) (lv:PV) (i:Nat) (hi:i<o.irs.length) (hl:o.irs.length≤1048576) (hd:i<o.descs.length) (hdl:o.descs.length≤1048576) (hm:0≤(o.irs.getD i default).m∧(o.irs.getD i default).m<((o.descs.getD i []).length:Int)) (hml:(o.descs.getD i []).length≤1048576):CallsF Tryz.prog 111 [codeP o lv,.int .i64 i] (ints [IntKind.i64.wrap (((o.descs.getD i []).getD (o.irs.getD i default).m.toNat default).act - 1)]):=by
 refine callsF_ofS mx Tryz.call111 Tryz.func111 rfl Tryz.ntmps111 Tryz.results111 (by kernel_rfl) (by simp) fun lo=>?_
 repeat'(first|refine vcI ?_|refine And.intro ?_ ?_|(intro hq;(try simp at hq);(try(exfalso;omega));(try(revert hq;intro))))
 ·exact hm.1
 ·exact hm.2
 ·refine Exists.intro (oints [IntKind.i64.wrap (((o.descs.getD i []).getD (o.irs.getD i default).m.toNat default).act - 1)]) (And.intro ?_ (And.intro (by first|rfl|exact shape_prs (by simp)|exact shape_ints (by simp)|exact shape_odvs (by simp)) ?_))
  ·exact one_ints _ rfl rfl (.refl _)
  exact view_ints rfl rfl
end Go.Ab
namespace Go.Ab
open Go.Proofs
set_option maxRecDepth 100000
set_option maxHeartbeats 1000000

def insB (n:Nat) (i:Int):Bool:=decide (0≤i∧i<n)
theorem insideIr_spec (l:List DI) (i:Int):CallsF Tryz.prog 31 [dis l,.int .i64 i] (.bool (insB l.length i)):=by
 refine callsF_ofS mx Tryz.call31 Tryz.func31 rfl Tryz.ntmps31 Tryz.results31 (by kernel_rfl) (by simp) fun lo=>?_
 repeat'(first|refine vcI ?_|refine And.intro ?_ ?_|(intro hq;(try simp at hq);(try(exfalso;omega));(try(revert hq;intro))))
 all_goals
  (refine NEq.of_eq ?_;show PV.bool _=PV.bool _;congr 1)
  unfold insB
  by_cases h1:0≤i <;> by_cases h2:i<(l.length:Int) <;> simp [h1,h2] <;> omega
theorem insideFrame_spec (l:List DF) (i:Int):CallsF Tryz.prog 113 [dfs l,.int .i64 i] (.bool (insB l.length i)):=by
 refine callsF_ofS mx Tryz.call113 Tryz.func113 rfl Tryz.ntmps113 Tryz.results113 (by kernel_rfl) (by simp) fun lo=>?_
 repeat'(first|refine vcI ?_|refine And.intro ?_ ?_|(intro hq;(try simp at hq);(try(exfalso;omega));(try(revert hq;intro))))
 all_goals
  (refine NEq.of_eq ?_;show PV.bool _=PV.bool _;congr 1)
  unfold insB
  by_cases h1:0≤i <;> by_cases h2:i<(l.length:Int) <;> simp [h1,h2] <;> omega
end Go.Ab
namespace Go.Ab
open Go.Proofs
set_option maxRecDepth 100000
set_option maxHeartbeats 1000000

def regB (o:DO) (r:Int):Bool:=decide (0≤r)&&decide (r<o.regs)
theorem reg_spec (o:DO) (lv:PV) (r:Int):CallsF Tryz.prog 91 [codeP o lv,.int .i64 r] (.bool (regB o r)):=by
 refine callsF_ofS mx Tryz.call91 Tryz.func91 rfl Tryz.ntmps91 Tryz.results91 (by kernel_rfl) (by simp) fun lo=>?_
 repeat'(first|refine vcI ?_|refine And.intro ?_ ?_|(intro hq;(try simp at hq);(try(exfalso;omega));(try(revert hq;intro))))
 (refine NEq.of_eq ?_;show PV.bool _=PV.bool _;congr 1)
 rw [bif_and];rfl
theorem bad_spec (o:DO) (lv:PV) (r:Int):CallsF Tryz.prog 114 [.int .i64 r,.fptr 1 (fun _=>codeP o lv) 0] (.bool (!regB o r)):=by
 refine callsF_ofS mx Tryz.call114 Tryz.func114 rfl Tryz.ntmps114 Tryz.results114 (by kernel_rfl) (by simp) fun lo=>?_
 repeat'(first|refine vcI ?_|refine And.intro ?_ ?_|(intro hq;(try simp at hq);(try(exfalso;omega));(try(revert hq;intro))))
 refine CallS.frozen (.bool (regB o r)) (reg_spec o lv r) (plainAll rfl) ?_
 repeat'(first|refine vcI ?_|refine And.intro ?_ ?_|(intro hq;(try simp at hq);(try(exfalso;omega));(try(revert hq;intro))))
 exact .refl _
def idxN (p:Int→Bool) (l:List Int):Int:=match l.findIdx? p with
 | some i=>i
 | none => -1
theorem idxN_take {p:Int→Bool} {l:List Int} {k:Nat} (hk:k<l.length) (hn:(l.take k).any p=false):(p (l.getD k 0)=true→idxN p l=k)∧(p (l.getD k 0)=false→(l.take (k+1)).any p=false):=by
 constructor
 ·intro h
  have:l.findIdx? p=some k:=by
   rw [List.findIdx?_eq_some_iff_getElem]
   refine ⟨hk,by simpa [List.getD_eq_getElem?_getD,hk] using h,fun j hj=>?_⟩
   rw [List.any_eq_false] at hn
   exact hn l[j] (List.mem_iff_getElem.2 ⟨j,by simp;omega,by simp⟩)
  simp [idxN,this]
 ·intro h
  rw [List.take_add_one,List.any_append,hn]
  simp [hk]
  simpa [List.getD_eq_getElem?_getD,hk] using h
theorem idxN_none {p:Int→Bool} {l:List Int} (h:l.any p=false):idxN p l = -1:=by
 have:l.findIdx? p=none:=by
  rw [List.findIdx?_eq_none_iff]
  intro x hx
  have:=List.any_eq_false.1 h x hx
  simpa using this
 simp [idxN,this]
theorem idxN_any (l:List Int) (p:Int→Bool):decide (idxN p l≥0)=l.any p:=by
 unfold idxN
 cases h:l.findIdx? p with
 | some i =>
  have:l.any p=true:=by
   rw [List.findIdx?_eq_some_iff_getElem] at h
   obtain ⟨h1,h2,_⟩:=h
   exact List.any_eq_true.2 ⟨_,List.getElem_mem h1,h2⟩
  rw [this]
  simp
 | none =>
  have:l.any p=false:=by
   rw [List.findIdx?_eq_none_iff] at h
   exact List.any_eq_false.2 fun x hx=>by rw [h x hx];simp
  rw [this]
  simp
theorem IndexFuncN (l:List Int) (g:FuncId) (c:PV) (p:Int→Bool) (hc:plainArg c) (hp:∀ x,CallsF Tryz.prog g [.int .i64 x,c] (.bool (p x))):CallsF Tryz.prog 120 [ints l,.func (.func g) [] [c]] (.int .i64 (idxN p l)):=by
 refine callsF_ofS mx Tryz.call120 Tryz.func120 rfl Tryz.ntmps120 Tryz.results120 (by kernel_rfl) (by simp) fun lo=>?_
 repeat'(first|refine vcI ?_|refine And.intro ?_ ?_|(intro hq;(try simp at hq);(try(exfalso;omega));(try(revert hq;intro))))
 rename_i hlen
 refine loopS mx (by decide) (by kernel_rfl) (fun k:Nat=>k≤l.length∧(l.take k).any p=false) (fun k=>[(8,.int .i64 k),(7,.int .i64 l.length),(0,ints l),(1,.func (.func g) [] [c])]) (fun _=>[]) (fun k=>l.length - k) 0 (by simp) ⟨by ((repeat' apply And.intro) <;> (first|exact True.intro|exact NEq.refl _|(refine NEq.int ?_;first|exact rfl|omega|(rw [wrapI (by omega)];first|exact rfl|omega)))),trivial,.nil⟩ ?_
 intro k nv ⟨hk,hn⟩
 repeat'(first|refine vcI ?_|refine And.intro ?_ ?_|(intro hq;(try simp at hq);(try(exfalso;omega));(try(revert hq;intro))))
 ·rename_i h1
  have hi:=idxN_take h1 hn
  refine CallS.frozen (.bool (p (l.getD k 0))) (hp (l.getD k 0)) (plainCons (plainLB_plainL rfl) (plainCons (plainArg_L hc) plainNil)) ?_
  repeat'(first|refine vcI ?_|refine And.intro ?_ ?_|(intro hq;(try simp at hq);(try(exfalso;omega));(try(revert hq;intro))))
  ·rename_i h2
   refine NEq.int ?_
   exact (hi.1 h2).symm
  ·rename_i h2
   exact Exists.intro (k+1) ⟨⟨h1,hi.2 h2⟩,(by first|omega|(dsimp only;omega)),⟨by ((repeat' apply And.intro) <;> (first|exact True.intro|exact NEq.refl _|(refine NEq.int ?_;first|exact rfl|omega|(rw [wrapI (by omega)];first|exact rfl|omega)))),trivial,.nil⟩⟩
 ·rename_i h1
  rw [List.take_of_length_le h1] at hn
  refine NEq.int ?_
  exact (idxN_none hn).symm
theorem ContainsFuncN (l:List Int) (g:FuncId) (c:PV) (p:Int→Bool) (hc:plainArg c) (hp:∀ x,CallsF Tryz.prog g [.int .i64 x,c] (.bool (p x))):CallsF Tryz.prog 89 [ints l,.func (.func g) [] [c]] (.bool (l.any p)):=by
 refine callsF_ofS mx Tryz.call89 Tryz.func89 rfl Tryz.ntmps89 Tryz.results89 (by kernel_rfl) (by simp) fun lo=>?_
 refine CallS.frozen (.int .i64 (idxN p l)) (IndexFuncN l g c p hc hp) (plainCons (plainLB_plainL rfl) (plainCons ⟨fun _ h=>(by cases h),fun x h=>(by rw [List.mem_singleton] at h;subst h;exact hc)⟩ plainNil)) ?_
 repeat'(first|refine vcI ?_|refine And.intro ?_ ?_|(intro hq;(try simp at hq);(try(exfalso;omega));(try(revert hq;intro))))
 (refine NEq.of_eq ?_;show PV.bool _=PV.bool _;congr 1)
 exact idxN_any l p
theorem badAny_spec (o:DO) (lv:PV) (l:List Int):CallsF Tryz.prog 89 [ints l,.func (.func 114) [] [.fptr 1 (fun _=>codeP o lv) 0]] (.bool (l.any fun r=>!regB o r)) :=
 ContainsFuncN l _ _ _ trivial (bad_spec o lv)
end Go.Ab
namespace Go.Ab
open Go.Proofs
set_option maxRecDepth 100000
set_option maxHeartbeats 1000000

theorem cRow:Tryz.prog.cellsOf 71=4:=by kernel_rfl
def fallsB (op:Int):Bool:=!(op == 9||op == 10||op == 11)
def goesB (op:Int):Bool:=op == 3||op == 6||op == 9
def usesF (op:Int):PV:=(rowAt op.toNat).getD 0 .undef
def rowF (op:Int):List PV:=[usesF op,.bool (setsB op),.bool (fallsB op),.bool (goesB op)]
theorem ops {p:Nat→Prop} (h:∀ n,n<17→1≤n→p n) {op:Int} (ho:1≤op∧op≤16):p op.toNat:=h _ (by omega) (by omega)
theorem row_cell (o:DO) (lv:PV) {op:Int} (h:1≤op∧op≤16) {off q:Nat} (hq:q<4) (hoff:off=12+op.toNat*4+q):codeC o lv off=(rowF op).getD q .undef:=by
 subst hoff
 obtain ⟨n,rfl⟩:∃ n:Nat,op=n:=⟨op.toNat,(Int.toNat_of_nonneg (by omega)).symm⟩
 have hn:1≤n∧n≤16:=by omega
 rcases (by omega:n=1∨n=2∨n=3∨n=4∨n=5∨n=6∨n=7∨n=8∨n=9∨n=10∨n=11∨n=12∨n=13∨n=14∨n=15∨n=16) with rfl|rfl|rfl|rfl|rfl|rfl|rfl|rfl|rfl|rfl|rfl|rfl|rfl|rfl|rfl|rfl <;>
  (rcases (by omega:q=0∨q=1∨q=2∨q=3) with rfl|rfl|rfl|rfl <;> rfl)
theorem mk_usesF (o:DO) (lv:PV) {op:Int} {off:Nat} (h:1≤op∧op≤16) (hoff:off=12+op.toNat*4):mkV Tryz.prog 69 (codeC o lv) off=usesF op:=by
 show codeC o lv off=_
 rw [row_cell o lv h (q:=0) (by omega) (by omega)];rfl
theorem row_list (o:DO) (lv:PV) {op:Int} {off:Nat} (h:1≤op∧op≤16) (hoff:off=12+op.toNat*4):List.map (fun j=>codeC o lv (off+j)) (List.range 4)=rowF op:=by
 show [codeC o lv (off+0),codeC o lv (off+1),codeC o lv (off+2),codeC o lv (off+3)]=_
 rw [row_cell o lv h (q:=0) (by omega) (by omega),row_cell o lv h (q:=1) (by omega) (by omega),row_cell o lv h (q:=2) (by omega) (by omega),row_cell o lv h (q:=3) (by omega) (by omega)]
 rfl
theorem row_cells {op:Int} (h:1≤op∧op≤16):allCells (rowF op)=true:=by
 obtain ⟨n,rfl⟩:∃ n:Nat,op=n:=⟨op.toNat,(Int.toNat_of_nonneg (by omega)).symm⟩
 have hn:1≤n∧n≤16:=by omega
 rcases (by omega:n=1∨n=2∨n=3∨n=4∨n=5∨n=6∨n=7∨n=8∨n=9∨n=10∨n=11∨n=12∨n=13∨n=14∨n=15∨n=16) with rfl|rfl|rfl|rfl|rfl|rfl|rfl|rfl|rfl|rfl|rfl|rfl|rfl|rfl|rfl|rfl <;> rfl
theorem usesF_fn {op:Int} (h:1≤op∧op≤16) (hne:op≠10):∃ fn,usesF op = .func (.func fn) [] []:=by
 obtain ⟨n,rfl⟩:∃ n:Nat,op=n:=⟨op.toNat,(Int.toNat_of_nonneg (by omega)).symm⟩
 have hn:1≤n∧n≤16∧n≠10:=by omega
 rcases (by omega:n=1∨n=2∨n=3∨n=4∨n=5∨n=6∨n=7∨n=8∨n=9∨n=11∨n=12∨n=13∨n=14∨n=15∨n=16) with rfl|rfl|rfl|rfl|rfl|rfl|rfl|rfl|rfl|rfl|rfl|rfl|rfl|rfl|rfl <;> exact ⟨_,rfl⟩
theorem usedL_len (x:DI) (fs:List DF) {b:Nat} (h:x.args.length≤b):(usedL x fs).length≤b+2:=by
 unfold usedL
 (repeat' split) <;> (try simp only [List.length_cons,List.length_nil]) <;> omega
theorem uses_of (o:DO) (lv:PV) (i:Nat) (hi:i<o.irs.length) (hl:o.irs.length≤1048576) (hd:i<o.descs.length) (hdl:o.descs.length≤1048576) (hml:(o.descs.getD i []).length≤1048576) (ha:(o.irs.getD i default).args.length≤1048576)
  (hop:1≤(o.irs.getD i default).op∧(o.irs.getD i default).op≤16) (hne:(o.irs.getD i default).op≠10) :
  ∃ fn,usesF (o.irs.getD i default).op = .func (.func fn) [] []∧(((o.irs.getD i default).op=13→0≤(o.irs.getD i default).m∧(o.irs.getD i default).m<((o.descs.getD i []).length:Int))→CallsF Tryz.prog fn [codeP o lv,.int .i64 i] (ints (usedL (o.irs.getD i default) (o.descs.getD i [])))):=by
 have e:∀ {u:List Int} {fn},usedL (o.irs.getD i default) (o.descs.getD i [])=u→usesF (o.irs.getD i default).op = .func (.func fn) [] []→CallsF Tryz.prog fn [codeP o lv,.int .i64 i] (ints u)→∃ fn,usesF (o.irs.getD i default).op = .func (.func fn) [] []∧(((o.irs.getD i default).op=13→0≤(o.irs.getD i default).m∧(o.irs.getD i default).m<((o.descs.getD i []).length:Int))→CallsF Tryz.prog fn [codeP o lv,.int .i64 i] (ints (usedL (o.irs.getD i default) (o.descs.getD i [])))):=fun h1 h2 h4=>⟨_,h2,fun _=>h1▸h4⟩
 rcases (by omega:(o.irs.getD i default).op=1∨(o.irs.getD i default).op=2∨(o.irs.getD i default).op=3∨(o.irs.getD i default).op=4∨(o.irs.getD i default).op=5∨(o.irs.getD i default).op=6∨(o.irs.getD i default).op=7∨(o.irs.getD i default).op=8∨(o.irs.getD i default).op=9∨(o.irs.getD i default).op=11∨(o.irs.getD i default).op=12∨(o.irs.getD i default).op=13∨(o.irs.getD i default).op=14∨(o.irs.getD i default).op=15∨(o.irs.getD i default).op=16) with h|h|h|h|h|h|h|h|h|h|h|h|h|h|h
 ·exact e (by simp only [usedL,h];simp) (by rw [h];rfl) (uNone_spec _ _)
 ·exact e (by simp only [usedL,h];simp) (by rw [h];rfl) (uA_spec o lv i hi hl)
 ·exact e (by simp only [usedL,h];simp) (by rw [h];rfl) (uA_spec o lv i hi hl)
 ·exact e (by simp only [usedL,h];simp) (by rw [h];rfl) (uA_spec o lv i hi hl)
 ·exact e (by simp only [usedL,h];simp) (by rw [h];rfl) (uAB_spec o lv i hi hl)
 ·exact e (by simp only [usedL,h];simp) (by rw [h];rfl) (uAll_spec o lv i hi hl ha)
 ·exact e (by simp only [usedL,h];simp) (by rw [h];rfl) (uAll_spec o lv i hi hl ha)
 ·exact e (by simp only [usedL,h];simp) (by rw [h];rfl) (uNone_spec _ _)
 ·exact e (by simp only [usedL,h];simp) (by rw [h];rfl) (uNone_spec _ _)
 ·exact e (by simp only [usedL,h];simp) (by rw [h];rfl) (uNone_spec _ _)
 ·exact e (by simp only [usedL,h];simp) (by rw [h];rfl) (uNone_spec _ _)
 ·exact ⟨_,by rw [h];rfl,fun hm=>by rw [show usedL (o.irs.getD i default) (o.descs.getD i [])=[IntKind.i64.wrap (((o.descs.getD i []).getD (o.irs.getD i default).m.toNat default).act - 1)] by simp only [usedL,h];simp only [hm h];simp];exact uBlk_spec o lv i hi hl hd hdl (hm h) hml⟩
 ·exact e (by simp only [usedL,h];simp) (by rw [h];rfl) (uA_spec o lv i hi hl)
 ·exact e (by simp only [usedL,h];simp) (by rw [h];rfl) (uAB_spec o lv i hi hl)
 ·exact e (by simp only [usedL,h];simp) (by rw [h];rfl) (uDrop_spec o lv i hi hl)
theorem uses_ret (o:DO) (lv:PV) (i:Nat) (hi:i<o.irs.length) (hl:o.irs.length≤1048576) (h:(o.irs.getD i default).op=10):CallsF Tryz.prog 110 [codeP o lv,.int .i64 i,.fptr 1 (fun _=>uA) 0] (ints (usedL (o.irs.getD i default) (o.descs.getD i []))):=by
 rw [show usedL (o.irs.getD i default) (o.descs.getD i [])=if (o.irs.getD i default).n=0 then [(o.irs.getD i default).a] else [(o.irs.getD i default).a,IntKind.i64.wrap ((o.irs.getD i default).n - 1)] by simp only [usedL,h];simp]
 exact uRet_spec o lv i hi hl
end Go.Ab
namespace Go.Ab
open Go.Proofs
set_option maxRecDepth 100000
set_option maxHeartbeats 4000000

def badP (o:DO) (lv:PV):PV := .func (.func 114) [] [.fptr 1 (fun _=>codeP o lv) 0]
def swB (o:DO) (x:DI) (fs:List DF):Bool :=
 if goesB x.op&&!insB o.irs.length x.n then true
 else if x.op=12 then !insB fs.length x.n||(insB fs.length (fs.getD x.n.toNat default).up&&(fs.getD (fs.getD x.n.toNat default).up.toNat default).act == 0)
 else if x.op=13 then !insB fs.length x.m||(fs.getD x.m.toNat default).act == 0
 else if x.op=10 then decide (x.n<0)||decide (x.n>o.regs)
 else false
def badL (o:DO) (l:List Int):Bool:=l.any fun r=>!regB o r
def shapedX (o:DO) (x:DI) (fs:List DF):Bool:=decide (1≤x.op)&&(decide (x.op≤16)&&(decide (x.args.length≤20)&&(!swB o x fs&&(!badL o (usedL x fs)&&((!setsB x.op||regB o x.d)&&!badL o (usesL fs))))))
theorem bad_view {o:DO} {lv:PV} {hp:Hp} {r:RId} {v k:Nat} {c:Nat→PV} (h:lkH hp r=some ⟨v,.obox 1 c⟩) (hc:c 0=codeP o lv):NEq (view (k+3) hp (.func (.func 114) [] [.ptr r v [] 0 0])) (badP o lv):=by
 refine .clos ?_
 rw [view,h]
 simp only [if_true,getAt]
 refine .fptr fun q hq=>?_
 obtain rfl:q=0:=by omega
 rw [hc]
 exact .refl _
theorem badL_spec (o:DO) (lv:PV) {l:List Int} {b:Bool} (h:badL o l=b):CallsF Tryz.prog 89 [ints l,badP o lv] (.bool b):=h▸badAny_spec o lv l
theorem regB_spec (o:DO) (lv:PV) {r:Int} {b:Bool} (h:regB o r=b):CallsF Tryz.prog 91 [codeP o lv,.int .i64 r] (.bool b):=h▸reg_spec o lv r
theorem insIr_spec (l:List DI) {i:Int} {b:Bool} (h:insB l.length i=b):CallsF Tryz.prog 31 [dis l,.int .i64 i] (.bool b):=h▸insideIr_spec l i
theorem insFr_spec (l:List DF) {i:Int} {b:Bool} (h:insB l.length i=b):CallsF Tryz.prog 113 [dfs l,.int .i64 i] (.bool b):=h▸insideFrame_spec l i
section
variable {o:DO} {x:DI} {fs:List DF}
theorem shX_args (h:¬ x.args.length≤20):shapedX o x fs=false:=by simp [shapedX,h]
theorem shX_sw (h:swB o x fs=true):shapedX o x fs=false:=by simp [shapedX,h]
theorem shX_bad (h:badL o (usedL x fs)=true):shapedX o x fs=false:=by simp [shapedX,h]
theorem shX_reg (h:setsB x.op=true) (h2:regB o x.d=false):shapedX o x fs=false:=by simp [shapedX,h,h2]
theorem shX_uses (h:badL o (usesL fs)=true):shapedX o x fs=false:=by simp [shapedX,h]
theorem shX_ok (h1:1≤x.op) (h2:x.op≤16) (h3:x.args.length≤20) (h4:swB o x fs=false) (h5:badL o (usedL x fs)=false) (h6:setsB x.op=true→regB o x.d=true) (h7:badL o (usesL fs)=false):shapedX o x fs=true:=by
 simp only [shapedX,h1,h2,h3,h4,h5,h7,decide_true,Bool.true_and,Bool.not_false,Bool.and_true]
 cases hs:setsB x.op with
 | false=>rfl
 | true=>simp [h6 hs]
end
structure ShH (o:DO) (i:Nat) (k:Int) (u:List Int):Prop where
 hi:i<o.irs.length
 hil:o.irs.length≤6000
 hd:i<o.descs.length
 hdl:o.descs.length≤6000
 hop:(o.irs.getD i default).op=k
 hU:usedL (o.irs.getD i default) (o.descs.getD i [])=u
 hfs:(o.descs.getD i []).length≤1048576∧∀ f∈o.descs.getD i [],f.small
 hfN:frN (o.descs.getD i [])≤6000
 ha:(o.irs.getD i default).args.length≤6000
end Go.Ab
namespace Go.Ab
open Go.Proofs
set_option maxRecDepth 100000
set_option maxHeartbeats 4000000

theorem shaped_out (o:DO) (lv:PV) (i:Nat) (hi:i<o.irs.length) (hil:o.irs.length≤6000) (hd:i<o.descs.length) (hdl:o.descs.length≤6000) (ha:(o.irs.getD i default).args.length≤6000) (hop:(o.irs.getD i default).op<1∨16<(o.irs.getD i default).op):CallsF Tryz.prog 77 [codeP o lv,.int .i64 i] (.bool (shapedX o (o.irs.getD i default) (o.descs.getD i []))):=by
 have hop1:(o.irs[i]?.getD default).op<1∨16<(o.irs[i]?.getD default).op:=hop
 have ha1:(o.irs[i]?.getD default).args.length≤6000:=ha
 have hres:shapedX o (o.irs.getD i default) (o.descs.getD i [])=false:=by
  unfold shapedX
  rcases hop with h|h
  ·rw [decide_eq_false (show ¬ 1≤(o.irs.getD i default).op by omega)];rfl
  ·rw [decide_eq_false (show ¬ (o.irs.getD i default).op≤16 by omega),Bool.false_and,Bool.and_false]
 rw [hres]
 refine callsF_ofS mx Tryz.call77 Tryz.func77 rfl Tryz.ntmps77 Tryz.results77 (by kernel_rfl) (by simp) fun lo=>?_
 repeat'(first|refine vcI ?_|refine And.intro ?_ ?_|(intro hq;(try simp at hq);(try(exfalso;omega));(try(revert hq;intro))))
 all_goals (refine NEq.of_eq ?_;show PV.bool _=PV.bool _;congr 1)

theorem rowF_eq (op:Int):rowF op=[usesF op,.bool (setsB op),.bool (fallsB op),.bool (goesB op)]:=rfl
structure ShG (o:DO) (i:Nat):Prop where
 hi:i<o.irs.length
 hil:o.irs.length≤6000
 hd:i<o.descs.length
 hdl:o.descs.length≤6000
 hop:1≤(o.irs.getD i default).op∧(o.irs.getD i default).op≤16
 hfs:(o.descs.getD i []).length≤1048576∧∀ f∈o.descs.getD i [],f.small
 hfN:frN (o.descs.getD i [])≤6000
 ha:(o.irs.getD i default).args.length≤6000
theorem shaped_nF (o:DO) (lv:PV) (i:Nat) (H:ShG o i) (h10:(o.irs.getD i default).op≠10) (h12:(o.irs.getD i default).op≠12) (h13:(o.irs.getD i default).op≠13) (hgo:goesB (o.irs.getD i default).op=false) (hst:setsB (o.irs.getD i default).op=false):CallsF Tryz.prog 77 [codeP o lv,.int .i64 i] (.bool (shapedX o (o.irs.getD i default) (o.descs.getD i []))):=by
 have hi:=H.hi
 have hil:=H.hil
 have hd:=H.hd
 have hdl:=H.hdl
 have hop2:=H.hop
 have hop1:1≤(o.irs[i]?.getD default).op∧(o.irs[i]?.getD default).op≤16:=hop2
 have ha1:(o.irs[i]?.getD default).args.length≤6000:=H.ha
 obtain ⟨us,hus⟩:∃ us,us=usedL (o.irs.getD i default) (o.descs.getD i []):=⟨_,rfl⟩
 obtain ⟨ws,hws⟩:∃ ws,ws=usesL (o.descs.getD i []):=⟨_,rfl⟩
 have hU2:CallsF Tryz.prog 61 [dfs (o.descs.getD i [])] (ints ws):=by rw [hws];exact symUses _ H.hfs H.hfN
 refine callsF_ofS mx Tryz.call77 Tryz.func77 rfl Tryz.ntmps77 Tryz.results77 (by kernel_rfl) (by simp) fun lo=>?_
 repeat'(first|refine vcI ?_|refine And.intro ?_ ?_|(intro hq;(try simp at hq);(try(exfalso;omega));(try(revert hq;intro))))
 ·simp;omega
 ·have h20:¬ (o.irs.getD i default).args.length≤20:=by
   show ¬ (o.irs[i]?.getD default).args.length≤20
   omega
  repeat'(first|refine vcI ?_|refine And.intro ?_ ?_|(intro hq;(try simp at hq);(try(exfalso;omega));(try(revert hq;intro))))
  (refine NEq.of_eq ?_;show PV.bool _=PV.bool _;congr 1)
  exact (shX_args h20).symm
 ·show 0≤(o.irs.getD i default).op;omega
 ·show (o.irs.getD i default).op<_;omega
 ·rw [cRow];decide
 ·rw [cRow];show 0+12+(o.irs.getD i default).op.toNat*4+4≤81;omega
 ·rw [cRow];decide
 ·rw [cRow,row_list o lv hop2 (by show 0+12+(o.irs.getD i default).op.toNat*4=_;omega)];exact row_cells hop2
 ·rw [List.length_map,List.length_range,cRow];decide
 have h20:(o.irs.getD i default).args.length≤20:=by
  show (o.irs[i]?.getD default).args.length≤20
  omega
 rw [cRow,row_list o lv hop2 (by show 0+12+(o.irs.getD i default).op.toNat*4=_;omega)]
 obtain ⟨fn,hu1,hu2⟩:=uses_of o lv i hi (by omega) hd (by omega) H.hfs.1 (by omega) hop2 h10
 rw [← hus] at hu2
 rw [rowF_eq,hu1]
 have n12:¬ (o.irs[i]?.getD default).op=12:=h12
 have n13:¬ (o.irs[i]?.getD default).op=13:=h13
 have n10:¬ (o.irs[i]?.getD default).op=10:=h10
 have hcu:=hu2 fun h=>absurd h h13
 have hsw0:(goesB (o.irs.getD i default).op&&!insB o.irs.length (o.irs.getD i default).n)=false→swB o (o.irs.getD i default) (o.descs.getD i [])=false:=fun h=>by unfold swB;rw [h,if_neg (by simp),if_neg h12,if_neg h13,if_neg h10]
 have hsw:=hsw0 (by rw [hgo];rfl)
 rw [hgo,hst]
 repeat'(first|refine vcI ?_|refine And.intro ?_ ?_|(intro hq;(try simp at hq);(try(exfalso;omega));(try(revert hq;intro))))
 refine QS.frozen (ints us) hcu (plainAll rfl) ?_
 repeat'(first|refine vcI ?_|refine And.intro ?_ ?_|(intro hq;(try simp at hq);(try(exfalso;omega));(try(revert hq;intro))))
 rcases hbu:badL o us with _|_
 ·refine CallS.plain [ints us,badP o lv] (.bool false) (badL_spec o lv hbu) (LeL.cons (.refl _) (LeL.cons (bad_view rfl rfl) LeL.nil)) trivial ?_
  repeat'(first|refine vcI ?_|refine And.intro ?_ ?_|(intro hq;(try simp at hq);(try(exfalso;omega));(try(revert hq;intro))))
  refine QS.frozen (ints ws) hU2 (plainAll rfl) ?_
  repeat'(first|refine vcI ?_|refine And.intro ?_ ?_|(intro hq;(try simp at hq);(try(exfalso;omega));(try(revert hq;intro))))
  rcases hbw:badL o ws with _|_
  ·refine CallS.plain [ints ws,badP o lv] (.bool false) (badL_spec o lv hbw) (LeL.cons (.refl _) (LeL.cons (bad_view rfl rfl) LeL.nil)) trivial ?_
   repeat'(first|refine vcI ?_|refine And.intro ?_ ?_|(intro hq;(try simp at hq);(try(exfalso;omega));(try(revert hq;intro))))
   (refine NEq.of_eq ?_;show PV.bool _=PV.bool _;congr 1)
   exact (shX_ok hop2.1 hop2.2 h20 hsw (by rw [← hus];exact hbu) (fun h=>by rw [hst] at h;cases h) (by rw [← hws];exact hbw)).symm
  ·refine CallS.plain [ints ws,badP o lv] (.bool true) (badL_spec o lv hbw) (LeL.cons (.refl _) (LeL.cons (bad_view rfl rfl) LeL.nil)) trivial ?_
   repeat'(first|refine vcI ?_|refine And.intro ?_ ?_|(intro hq;(try simp at hq);(try(exfalso;omega));(try(revert hq;intro))))
   (refine NEq.of_eq ?_;show PV.bool _=PV.bool _;congr 1)
   exact (shX_uses (by rw [← hws];exact hbw)).symm
 ·refine CallS.plain [ints us,badP o lv] (.bool true) (badL_spec o lv hbu) (LeL.cons (.refl _) (LeL.cons (bad_view rfl rfl) LeL.nil)) trivial ?_
  repeat'(first|refine vcI ?_|refine And.intro ?_ ?_|(intro hq;(try simp at hq);(try(exfalso;omega));(try(revert hq;intro))))
  (refine NEq.of_eq ?_;show PV.bool _=PV.bool _;congr 1)
  exact (shX_bad (by rw [← hus];exact hbu)).symm
theorem shaped_gF (o:DO) (lv:PV) (i:Nat) (H:ShG o i) (h10:(o.irs.getD i default).op≠10) (h12:(o.irs.getD i default).op≠12) (h13:(o.irs.getD i default).op≠13) (hgo:goesB (o.irs.getD i default).op=true) (hin:insB o.irs.length (o.irs.getD i default).n=true) (hst:setsB (o.irs.getD i default).op=false):CallsF Tryz.prog 77 [codeP o lv,.int .i64 i] (.bool (shapedX o (o.irs.getD i default) (o.descs.getD i []))):=by
 have hi:=H.hi
 have hil:=H.hil
 have hd:=H.hd
 have hdl:=H.hdl
 have hop2:=H.hop
 have hop1:1≤(o.irs[i]?.getD default).op∧(o.irs[i]?.getD default).op≤16:=hop2
 have ha1:(o.irs[i]?.getD default).args.length≤6000:=H.ha
 obtain ⟨us,hus⟩:∃ us,us=usedL (o.irs.getD i default) (o.descs.getD i []):=⟨_,rfl⟩
 obtain ⟨ws,hws⟩:∃ ws,ws=usesL (o.descs.getD i []):=⟨_,rfl⟩
 have hU2:CallsF Tryz.prog 61 [dfs (o.descs.getD i [])] (ints ws):=by rw [hws];exact symUses _ H.hfs H.hfN
 refine callsF_ofS mx Tryz.call77 Tryz.func77 rfl Tryz.ntmps77 Tryz.results77 (by kernel_rfl) (by simp) fun lo=>?_
 repeat'(first|refine vcI ?_|refine And.intro ?_ ?_|(intro hq;(try simp at hq);(try(exfalso;omega));(try(revert hq;intro))))
 ·simp;omega
 ·have h20:¬ (o.irs.getD i default).args.length≤20:=by
   show ¬ (o.irs[i]?.getD default).args.length≤20
   omega
  repeat'(first|refine vcI ?_|refine And.intro ?_ ?_|(intro hq;(try simp at hq);(try(exfalso;omega));(try(revert hq;intro))))
  (refine NEq.of_eq ?_;show PV.bool _=PV.bool _;congr 1)
  exact (shX_args h20).symm
 ·show 0≤(o.irs.getD i default).op;omega
 ·show (o.irs.getD i default).op<_;omega
 ·rw [cRow];decide
 ·rw [cRow];show 0+12+(o.irs.getD i default).op.toNat*4+4≤81;omega
 ·rw [cRow];decide
 ·rw [cRow,row_list o lv hop2 (by show 0+12+(o.irs.getD i default).op.toNat*4=_;omega)];exact row_cells hop2
 ·rw [List.length_map,List.length_range,cRow];decide
 have h20:(o.irs.getD i default).args.length≤20:=by
  show (o.irs[i]?.getD default).args.length≤20
  omega
 rw [cRow,row_list o lv hop2 (by show 0+12+(o.irs.getD i default).op.toNat*4=_;omega)]
 obtain ⟨fn,hu1,hu2⟩:=uses_of o lv i hi (by omega) hd (by omega) H.hfs.1 (by omega) hop2 h10
 rw [← hus] at hu2
 rw [rowF_eq,hu1]
 have n12:¬ (o.irs[i]?.getD default).op=12:=h12
 have n13:¬ (o.irs[i]?.getD default).op=13:=h13
 have n10:¬ (o.irs[i]?.getD default).op=10:=h10
 have hcu:=hu2 fun h=>absurd h h13
 have hsw0:(goesB (o.irs.getD i default).op&&!insB o.irs.length (o.irs.getD i default).n)=false→swB o (o.irs.getD i default) (o.descs.getD i [])=false:=fun h=>by unfold swB;rw [h,if_neg (by simp),if_neg h12,if_neg h13,if_neg h10]
 have hsw:=hsw0 (by rw [hgo,hin];rfl)
 rw [hgo,hst]
 repeat'(first|refine vcI ?_|refine And.intro ?_ ?_|(intro hq;(try simp at hq);(try(exfalso;omega));(try(revert hq;intro))))
 refine CallS.frozen (.bool true) (insIr_spec o.irs hin) (plainAll rfl) ?_
 repeat'(first|refine vcI ?_|refine And.intro ?_ ?_|(intro hq;(try simp at hq);(try(exfalso;omega));(try(revert hq;intro))))
 refine QS.frozen (ints us) hcu (plainAll rfl) ?_
 repeat'(first|refine vcI ?_|refine And.intro ?_ ?_|(intro hq;(try simp at hq);(try(exfalso;omega));(try(revert hq;intro))))
 rcases hbu:badL o us with _|_
 ·refine CallS.plain [ints us,badP o lv] (.bool false) (badL_spec o lv hbu) (LeL.cons (.refl _) (LeL.cons (bad_view rfl rfl) LeL.nil)) trivial ?_
  repeat'(first|refine vcI ?_|refine And.intro ?_ ?_|(intro hq;(try simp at hq);(try(exfalso;omega));(try(revert hq;intro))))
  refine QS.frozen (ints ws) hU2 (plainAll rfl) ?_
  repeat'(first|refine vcI ?_|refine And.intro ?_ ?_|(intro hq;(try simp at hq);(try(exfalso;omega));(try(revert hq;intro))))
  rcases hbw:badL o ws with _|_
  ·refine CallS.plain [ints ws,badP o lv] (.bool false) (badL_spec o lv hbw) (LeL.cons (.refl _) (LeL.cons (bad_view rfl rfl) LeL.nil)) trivial ?_
   repeat'(first|refine vcI ?_|refine And.intro ?_ ?_|(intro hq;(try simp at hq);(try(exfalso;omega));(try(revert hq;intro))))
   (refine NEq.of_eq ?_;show PV.bool _=PV.bool _;congr 1)
   exact (shX_ok hop2.1 hop2.2 h20 hsw (by rw [← hus];exact hbu) (fun h=>by rw [hst] at h;cases h) (by rw [← hws];exact hbw)).symm
  ·refine CallS.plain [ints ws,badP o lv] (.bool true) (badL_spec o lv hbw) (LeL.cons (.refl _) (LeL.cons (bad_view rfl rfl) LeL.nil)) trivial ?_
   repeat'(first|refine vcI ?_|refine And.intro ?_ ?_|(intro hq;(try simp at hq);(try(exfalso;omega));(try(revert hq;intro))))
   (refine NEq.of_eq ?_;show PV.bool _=PV.bool _;congr 1)
   exact (shX_uses (by rw [← hws];exact hbw)).symm
 ·refine CallS.plain [ints us,badP o lv] (.bool true) (badL_spec o lv hbu) (LeL.cons (.refl _) (LeL.cons (bad_view rfl rfl) LeL.nil)) trivial ?_
  repeat'(first|refine vcI ?_|refine And.intro ?_ ?_|(intro hq;(try simp at hq);(try(exfalso;omega));(try(revert hq;intro))))
  (refine NEq.of_eq ?_;show PV.bool _=PV.bool _;congr 1)
  exact (shX_bad (by rw [← hus];exact hbu)).symm
theorem shaped_nT (o:DO) (lv:PV) (i:Nat) (H:ShG o i) (h10:(o.irs.getD i default).op≠10) (h12:(o.irs.getD i default).op≠12) (h13:(o.irs.getD i default).op≠13) (hgo:goesB (o.irs.getD i default).op=false) (hst:setsB (o.irs.getD i default).op=true):CallsF Tryz.prog 77 [codeP o lv,.int .i64 i] (.bool (shapedX o (o.irs.getD i default) (o.descs.getD i []))):=by
 have hi:=H.hi
 have hil:=H.hil
 have hd:=H.hd
 have hdl:=H.hdl
 have hop2:=H.hop
 have hop1:1≤(o.irs[i]?.getD default).op∧(o.irs[i]?.getD default).op≤16:=hop2
 have ha1:(o.irs[i]?.getD default).args.length≤6000:=H.ha
 obtain ⟨us,hus⟩:∃ us,us=usedL (o.irs.getD i default) (o.descs.getD i []):=⟨_,rfl⟩
 obtain ⟨ws,hws⟩:∃ ws,ws=usesL (o.descs.getD i []):=⟨_,rfl⟩
 have hU2:CallsF Tryz.prog 61 [dfs (o.descs.getD i [])] (ints ws):=by rw [hws];exact symUses _ H.hfs H.hfN
 refine callsF_ofS mx Tryz.call77 Tryz.func77 rfl Tryz.ntmps77 Tryz.results77 (by kernel_rfl) (by simp) fun lo=>?_
 repeat'(first|refine vcI ?_|refine And.intro ?_ ?_|(intro hq;(try simp at hq);(try(exfalso;omega));(try(revert hq;intro))))
 ·simp;omega
 ·have h20:¬ (o.irs.getD i default).args.length≤20:=by
   show ¬ (o.irs[i]?.getD default).args.length≤20
   omega
  repeat'(first|refine vcI ?_|refine And.intro ?_ ?_|(intro hq;(try simp at hq);(try(exfalso;omega));(try(revert hq;intro))))
  (refine NEq.of_eq ?_;show PV.bool _=PV.bool _;congr 1)
  exact (shX_args h20).symm
 ·show 0≤(o.irs.getD i default).op;omega
 ·show (o.irs.getD i default).op<_;omega
 ·rw [cRow];decide
 ·rw [cRow];show 0+12+(o.irs.getD i default).op.toNat*4+4≤81;omega
 ·rw [cRow];decide
 ·rw [cRow,row_list o lv hop2 (by show 0+12+(o.irs.getD i default).op.toNat*4=_;omega)];exact row_cells hop2
 ·rw [List.length_map,List.length_range,cRow];decide
 have h20:(o.irs.getD i default).args.length≤20:=by
  show (o.irs[i]?.getD default).args.length≤20
  omega
 rw [cRow,row_list o lv hop2 (by show 0+12+(o.irs.getD i default).op.toNat*4=_;omega)]
 obtain ⟨fn,hu1,hu2⟩:=uses_of o lv i hi (by omega) hd (by omega) H.hfs.1 (by omega) hop2 h10
 rw [← hus] at hu2
 rw [rowF_eq,hu1]
 have n12:¬ (o.irs[i]?.getD default).op=12:=h12
 have n13:¬ (o.irs[i]?.getD default).op=13:=h13
 have n10:¬ (o.irs[i]?.getD default).op=10:=h10
 have hcu:=hu2 fun h=>absurd h h13
 have hsw0:(goesB (o.irs.getD i default).op&&!insB o.irs.length (o.irs.getD i default).n)=false→swB o (o.irs.getD i default) (o.descs.getD i [])=false:=fun h=>by unfold swB;rw [h,if_neg (by simp),if_neg h12,if_neg h13,if_neg h10]
 have hsw:=hsw0 (by rw [hgo];rfl)
 rw [hgo,hst]
 repeat'(first|refine vcI ?_|refine And.intro ?_ ?_|(intro hq;(try simp at hq);(try(exfalso;omega));(try(revert hq;intro))))
 refine QS.frozen (ints us) hcu (plainAll rfl) ?_
 repeat'(first|refine vcI ?_|refine And.intro ?_ ?_|(intro hq;(try simp at hq);(try(exfalso;omega));(try(revert hq;intro))))
 rcases hbu:badL o us with _|_
 ·refine CallS.plain [ints us,badP o lv] (.bool false) (badL_spec o lv hbu) (LeL.cons (.refl _) (LeL.cons (bad_view rfl rfl) LeL.nil)) trivial ?_
  repeat'(first|refine vcI ?_|refine And.intro ?_ ?_|(intro hq;(try simp at hq);(try(exfalso;omega));(try(revert hq;intro))))
  rcases hbr:regB o (o.irs.getD i default).d with _|_
  ·refine CallS.frozen (.bool false) (regB_spec o lv hbr) (plainAll rfl) ?_
   repeat'(first|refine vcI ?_|refine And.intro ?_ ?_|(intro hq;(try simp at hq);(try(exfalso;omega));(try(revert hq;intro))))
   (refine NEq.of_eq ?_;show PV.bool _=PV.bool _;congr 1)
   exact (shX_reg hst hbr).symm
  ·refine CallS.frozen (.bool true) (regB_spec o lv hbr) (plainAll rfl) ?_
   repeat'(first|refine vcI ?_|refine And.intro ?_ ?_|(intro hq;(try simp at hq);(try(exfalso;omega));(try(revert hq;intro))))
   refine QS.frozen (ints ws) hU2 (plainAll rfl) ?_
   repeat'(first|refine vcI ?_|refine And.intro ?_ ?_|(intro hq;(try simp at hq);(try(exfalso;omega));(try(revert hq;intro))))
   rcases hbw:badL o ws with _|_
   ·refine CallS.plain [ints ws,badP o lv] (.bool false) (badL_spec o lv hbw) (LeL.cons (.refl _) (LeL.cons (bad_view rfl rfl) LeL.nil)) trivial ?_
    repeat'(first|refine vcI ?_|refine And.intro ?_ ?_|(intro hq;(try simp at hq);(try(exfalso;omega));(try(revert hq;intro))))
    (refine NEq.of_eq ?_;show PV.bool _=PV.bool _;congr 1)
    exact (shX_ok hop2.1 hop2.2 h20 hsw (by rw [← hus];exact hbu) (fun _=>hbr) (by rw [← hws];exact hbw)).symm
   ·refine CallS.plain [ints ws,badP o lv] (.bool true) (badL_spec o lv hbw) (LeL.cons (.refl _) (LeL.cons (bad_view rfl rfl) LeL.nil)) trivial ?_
    repeat'(first|refine vcI ?_|refine And.intro ?_ ?_|(intro hq;(try simp at hq);(try(exfalso;omega));(try(revert hq;intro))))
    (refine NEq.of_eq ?_;show PV.bool _=PV.bool _;congr 1)
    exact (shX_uses (by rw [← hws];exact hbw)).symm
 ·refine CallS.plain [ints us,badP o lv] (.bool true) (badL_spec o lv hbu) (LeL.cons (.refl _) (LeL.cons (bad_view rfl rfl) LeL.nil)) trivial ?_
  repeat'(first|refine vcI ?_|refine And.intro ?_ ?_|(intro hq;(try simp at hq);(try(exfalso;omega));(try(revert hq;intro))))
  (refine NEq.of_eq ?_;show PV.bool _=PV.bool _;congr 1)
  exact (shX_bad (by rw [← hus];exact hbu)).symm
theorem shaped_gT (o:DO) (lv:PV) (i:Nat) (H:ShG o i) (h10:(o.irs.getD i default).op≠10) (h12:(o.irs.getD i default).op≠12) (h13:(o.irs.getD i default).op≠13) (hgo:goesB (o.irs.getD i default).op=true) (hin:insB o.irs.length (o.irs.getD i default).n=true) (hst:setsB (o.irs.getD i default).op=true):CallsF Tryz.prog 77 [codeP o lv,.int .i64 i] (.bool (shapedX o (o.irs.getD i default) (o.descs.getD i []))):=by
 have hi:=H.hi
 have hil:=H.hil
 have hd:=H.hd
 have hdl:=H.hdl
 have hop2:=H.hop
 have hop1:1≤(o.irs[i]?.getD default).op∧(o.irs[i]?.getD default).op≤16:=hop2
 have ha1:(o.irs[i]?.getD default).args.length≤6000:=H.ha
 obtain ⟨us,hus⟩:∃ us,us=usedL (o.irs.getD i default) (o.descs.getD i []):=⟨_,rfl⟩
 obtain ⟨ws,hws⟩:∃ ws,ws=usesL (o.descs.getD i []):=⟨_,rfl⟩
 have hU2:CallsF Tryz.prog 61 [dfs (o.descs.getD i [])] (ints ws):=by rw [hws];exact symUses _ H.hfs H.hfN
 refine callsF_ofS mx Tryz.call77 Tryz.func77 rfl Tryz.ntmps77 Tryz.results77 (by kernel_rfl) (by simp) fun lo=>?_
 repeat'(first|refine vcI ?_|refine And.intro ?_ ?_|(intro hq;(try simp at hq);(try(exfalso;omega));(try(revert hq;intro))))
 ·simp;omega
 ·have h20:¬ (o.irs.getD i default).args.length≤20:=by
   show ¬ (o.irs[i]?.getD default).args.length≤20
   omega
  repeat'(first|refine vcI ?_|refine And.intro ?_ ?_|(intro hq;(try simp at hq);(try(exfalso;omega));(try(revert hq;intro))))
  (refine NEq.of_eq ?_;show PV.bool _=PV.bool _;congr 1)
  exact (shX_args h20).symm
 ·show 0≤(o.irs.getD i default).op;omega
 ·show (o.irs.getD i default).op<_;omega
 ·rw [cRow];decide
 ·rw [cRow];show 0+12+(o.irs.getD i default).op.toNat*4+4≤81;omega
 ·rw [cRow];decide
 ·rw [cRow,row_list o lv hop2 (by show 0+12+(o.irs.getD i default).op.toNat*4=_;omega)];exact row_cells hop2
 ·rw [List.length_map,List.length_range,cRow];decide
 have h20:(o.irs.getD i default).args.length≤20:=by
  show (o.irs[i]?.getD default).args.length≤20
  omega
 rw [cRow,row_list o lv hop2 (by show 0+12+(o.irs.getD i default).op.toNat*4=_;omega)]
 obtain ⟨fn,hu1,hu2⟩:=uses_of o lv i hi (by omega) hd (by omega) H.hfs.1 (by omega) hop2 h10
 rw [← hus] at hu2
 rw [rowF_eq,hu1]
 have n12:¬ (o.irs[i]?.getD default).op=12:=h12
 have n13:¬ (o.irs[i]?.getD default).op=13:=h13
 have n10:¬ (o.irs[i]?.getD default).op=10:=h10
 have hcu:=hu2 fun h=>absurd h h13
 have hsw0:(goesB (o.irs.getD i default).op&&!insB o.irs.length (o.irs.getD i default).n)=false→swB o (o.irs.getD i default) (o.descs.getD i [])=false:=fun h=>by unfold swB;rw [h,if_neg (by simp),if_neg h12,if_neg h13,if_neg h10]
 have hsw:=hsw0 (by rw [hgo,hin];rfl)
 rw [hgo,hst]
 repeat'(first|refine vcI ?_|refine And.intro ?_ ?_|(intro hq;(try simp at hq);(try(exfalso;omega));(try(revert hq;intro))))
 refine CallS.frozen (.bool true) (insIr_spec o.irs hin) (plainAll rfl) ?_
 repeat'(first|refine vcI ?_|refine And.intro ?_ ?_|(intro hq;(try simp at hq);(try(exfalso;omega));(try(revert hq;intro))))
 refine QS.frozen (ints us) hcu (plainAll rfl) ?_
 repeat'(first|refine vcI ?_|refine And.intro ?_ ?_|(intro hq;(try simp at hq);(try(exfalso;omega));(try(revert hq;intro))))
 rcases hbu:badL o us with _|_
 ·refine CallS.plain [ints us,badP o lv] (.bool false) (badL_spec o lv hbu) (LeL.cons (.refl _) (LeL.cons (bad_view rfl rfl) LeL.nil)) trivial ?_
  repeat'(first|refine vcI ?_|refine And.intro ?_ ?_|(intro hq;(try simp at hq);(try(exfalso;omega));(try(revert hq;intro))))
  rcases hbr:regB o (o.irs.getD i default).d with _|_
  ·refine CallS.frozen (.bool false) (regB_spec o lv hbr) (plainAll rfl) ?_
   repeat'(first|refine vcI ?_|refine And.intro ?_ ?_|(intro hq;(try simp at hq);(try(exfalso;omega));(try(revert hq;intro))))
   (refine NEq.of_eq ?_;show PV.bool _=PV.bool _;congr 1)
   exact (shX_reg hst hbr).symm
  ·refine CallS.frozen (.bool true) (regB_spec o lv hbr) (plainAll rfl) ?_
   repeat'(first|refine vcI ?_|refine And.intro ?_ ?_|(intro hq;(try simp at hq);(try(exfalso;omega));(try(revert hq;intro))))
   refine QS.frozen (ints ws) hU2 (plainAll rfl) ?_
   repeat'(first|refine vcI ?_|refine And.intro ?_ ?_|(intro hq;(try simp at hq);(try(exfalso;omega));(try(revert hq;intro))))
   rcases hbw:badL o ws with _|_
   ·refine CallS.plain [ints ws,badP o lv] (.bool false) (badL_spec o lv hbw) (LeL.cons (.refl _) (LeL.cons (bad_view rfl rfl) LeL.nil)) trivial ?_
    repeat'(first|refine vcI ?_|refine And.intro ?_ ?_|(intro hq;(try simp at hq);(try(exfalso;omega));(try(revert hq;intro))))
    (refine NEq.of_eq ?_;show PV.bool _=PV.bool _;congr 1)
    exact (shX_ok hop2.1 hop2.2 h20 hsw (by rw [← hus];exact hbu) (fun _=>hbr) (by rw [← hws];exact hbw)).symm
   ·refine CallS.plain [ints ws,badP o lv] (.bool true) (badL_spec o lv hbw) (LeL.cons (.refl _) (LeL.cons (bad_view rfl rfl) LeL.nil)) trivial ?_
    repeat'(first|refine vcI ?_|refine And.intro ?_ ?_|(intro hq;(try simp at hq);(try(exfalso;omega));(try(revert hq;intro))))
    (refine NEq.of_eq ?_;show PV.bool _=PV.bool _;congr 1)
    exact (shX_uses (by rw [← hws];exact hbw)).symm
 ·refine CallS.plain [ints us,badP o lv] (.bool true) (badL_spec o lv hbu) (LeL.cons (.refl _) (LeL.cons (bad_view rfl rfl) LeL.nil)) trivial ?_
  repeat'(first|refine vcI ?_|refine And.intro ?_ ?_|(intro hq;(try simp at hq);(try(exfalso;omega));(try(revert hq;intro))))
  (refine NEq.of_eq ?_;show PV.bool _=PV.bool _;congr 1)
  exact (shX_bad (by rw [← hus];exact hbu)).symm
theorem shaped_go (o:DO) (lv:PV) (i:Nat) (H:ShG o i) (h10:(o.irs.getD i default).op≠10) (hgo:goesB (o.irs.getD i default).op=true) (hin:insB o.irs.length (o.irs.getD i default).n=false):CallsF Tryz.prog 77 [codeP o lv,.int .i64 i] (.bool (shapedX o (o.irs.getD i default) (o.descs.getD i []))):=by
 have hi:=H.hi
 have hil:=H.hil
 have hd:=H.hd
 have hdl:=H.hdl
 have hop2:=H.hop
 have hop1:1≤(o.irs[i]?.getD default).op∧(o.irs[i]?.getD default).op≤16:=hop2
 have ha1:(o.irs[i]?.getD default).args.length≤6000:=H.ha
 obtain ⟨us,hus⟩:∃ us,us=usedL (o.irs.getD i default) (o.descs.getD i []):=⟨_,rfl⟩
 obtain ⟨ws,hws⟩:∃ ws,ws=usesL (o.descs.getD i []):=⟨_,rfl⟩
 have hU2:CallsF Tryz.prog 61 [dfs (o.descs.getD i [])] (ints ws):=by rw [hws];exact symUses _ H.hfs H.hfN
 refine callsF_ofS mx Tryz.call77 Tryz.func77 rfl Tryz.ntmps77 Tryz.results77 (by kernel_rfl) (by simp) fun lo=>?_
 repeat'(first|refine vcI ?_|refine And.intro ?_ ?_|(intro hq;(try simp at hq);(try(exfalso;omega));(try(revert hq;intro))))
 ·simp;omega
 ·have h20:¬ (o.irs.getD i default).args.length≤20:=by
   show ¬ (o.irs[i]?.getD default).args.length≤20
   omega
  repeat'(first|refine vcI ?_|refine And.intro ?_ ?_|(intro hq;(try simp at hq);(try(exfalso;omega));(try(revert hq;intro))))
  (refine NEq.of_eq ?_;show PV.bool _=PV.bool _;congr 1)
  exact (shX_args h20).symm
 ·show 0≤(o.irs.getD i default).op;omega
 ·show (o.irs.getD i default).op<_;omega
 ·rw [cRow];decide
 ·rw [cRow];show 0+12+(o.irs.getD i default).op.toNat*4+4≤81;omega
 ·rw [cRow];decide
 ·rw [cRow,row_list o lv hop2 (by show 0+12+(o.irs.getD i default).op.toNat*4=_;omega)];exact row_cells hop2
 ·rw [List.length_map,List.length_range,cRow];decide
 have h20:(o.irs.getD i default).args.length≤20:=by
  show (o.irs[i]?.getD default).args.length≤20
  omega
 rw [cRow,row_list o lv hop2 (by show 0+12+(o.irs.getD i default).op.toNat*4=_;omega)]
 obtain ⟨fn,hu1,hu2⟩:=uses_of o lv i hi (by omega) hd (by omega) H.hfs.1 (by omega) hop2 h10
 rw [← hus] at hu2
 rw [rowF_eq,hu1]
 have hsw:swB o (o.irs.getD i default) (o.descs.getD i [])=true:=by unfold swB;rw [hgo,hin];rfl
 rw [hgo]
 repeat'(first|refine vcI ?_|refine And.intro ?_ ?_|(intro hq;(try simp at hq);(try(exfalso;omega));(try(revert hq;intro))))
 refine CallS.frozen (.bool false) (insIr_spec o.irs hin) (plainAll rfl) ?_
 repeat'(first|refine vcI ?_|refine And.intro ?_ ?_|(intro hq;(try simp at hq);(try(exfalso;omega));(try(revert hq;intro))))
 (refine NEq.of_eq ?_;show PV.bool _=PV.bool _;congr 1)
 exact (shX_sw hsw).symm
theorem shaped_10 (o:DO) (lv:PV) (i:Nat) (H:ShG o i) (h10:(o.irs.getD i default).op=10):CallsF Tryz.prog 77 [codeP o lv,.int .i64 i] (.bool (shapedX o (o.irs.getD i default) (o.descs.getD i []))):=by
 have hi:=H.hi
 have hil:=H.hil
 have hd:=H.hd
 have hdl:=H.hdl
 have hop2:=H.hop
 have hop1:1≤(o.irs[i]?.getD default).op∧(o.irs[i]?.getD default).op≤16:=hop2
 have ha1:(o.irs[i]?.getD default).args.length≤6000:=H.ha
 obtain ⟨us,hus⟩:∃ us,us=usedL (o.irs.getD i default) (o.descs.getD i []):=⟨_,rfl⟩
 obtain ⟨ws,hws⟩:∃ ws,ws=usesL (o.descs.getD i []):=⟨_,rfl⟩
 have hU2:CallsF Tryz.prog 61 [dfs (o.descs.getD i [])] (ints ws):=by rw [hws];exact symUses _ H.hfs H.hfN
 refine callsF_ofS mx Tryz.call77 Tryz.func77 rfl Tryz.ntmps77 Tryz.results77 (by kernel_rfl) (by simp) fun lo=>?_
 repeat'(first|refine vcI ?_|refine And.intro ?_ ?_|(intro hq;(try simp at hq);(try(exfalso;omega));(try(revert hq;intro))))
 ·simp;omega
 ·have h20:¬ (o.irs.getD i default).args.length≤20:=by
   show ¬ (o.irs[i]?.getD default).args.length≤20
   omega
  repeat'(first|refine vcI ?_|refine And.intro ?_ ?_|(intro hq;(try simp at hq);(try(exfalso;omega));(try(revert hq;intro))))
  (refine NEq.of_eq ?_;show PV.bool _=PV.bool _;congr 1)
  exact (shX_args h20).symm
 ·show 0≤(o.irs.getD i default).op;omega
 ·show (o.irs.getD i default).op<_;omega
 ·rw [cRow];decide
 ·rw [cRow];show 0+12+(o.irs.getD i default).op.toNat*4+4≤81;omega
 ·rw [cRow];decide
 ·rw [cRow,row_list o lv hop2 (by show 0+12+(o.irs.getD i default).op.toNat*4=_;omega)];exact row_cells hop2
 ·rw [List.length_map,List.length_range,cRow];decide
 have h20:(o.irs.getD i default).args.length≤20:=by
  show (o.irs[i]?.getD default).args.length≤20
  omega
 rw [cRow,row_list o lv hop2 (by show 0+12+(o.irs.getD i default).op.toNat*4=_;omega)]
 have hcu:=uses_ret o lv i hi (by omega) h10
 rw [← hus] at hcu
 have hst:setsB (o.irs.getD i default).op=false:=by rw [h10];rfl
 have hop4:(o.irs[i]?.getD default).op=10:=h10
 have hop3:(o.irs.getD (i:Int).toNat default).op=10:=h10
 rw [show rowF (o.irs.getD i default).op=[uRet,.bool false,.bool false,.bool false] by rw [h10];rfl,hop3]
 repeat'(first|refine vcI ?_|refine And.intro ?_ ?_|(intro hq;(try simp at hq);(try(exfalso;omega));(try(revert hq;intro))))
 ·rename_i h0
  show (((o.irs.getD (i:Int).toNat default).op == 10) == true&&(((o.irs.getD (i:Int).toNat default).op == 10) == true&&decide ((o.irs.getD (i:Int).toNat default).n<0) == false))=true
  have h1:¬ (o.irs.getD (i:Int).toNat default).n<0:=by
   show ¬ (o.irs[i]?.getD default).n<0
   omega
  rw [hop3,decide_eq_false h1];rfl
 ·rename_i h0
  have hsw:swB o (o.irs.getD i default) (o.descs.getD i [])=true:=by
   unfold swB
   rw [h10]
   show (decide ((o.irs.getD i default).n<0)||decide ((o.irs.getD i default).n>o.regs))=true
   rw [Bool.or_eq_true,decide_eq_true_eq,decide_eq_true_eq]
   exact h0.2
  repeat'(first|refine vcI ?_|refine And.intro ?_ ?_|(intro hq;(try simp at hq);(try(exfalso;omega));(try(revert hq;intro))))
  (refine NEq.of_eq ?_;show PV.bool _=PV.bool _;congr 1)
  exact (shX_sw hsw).symm
 ·rename_i h0 _
  have hsw:swB o (o.irs.getD i default) (o.descs.getD i [])=false:=by
   unfold swB
   rw [h10]
   show (decide ((o.irs.getD i default).n<0)||decide ((o.irs.getD i default).n>o.regs))=false
   have h1:=h0 hop4
   have h2:0≤(o.irs.getD i default).n∧(o.irs.getD i default).n≤o.regs:=h1
   rw [decide_eq_false (by omega),decide_eq_false (by omega)];rfl
  refine QS.frozen (ints us) hcu (plainAll rfl) ?_
  repeat'(first|refine vcI ?_|refine And.intro ?_ ?_|(intro hq;(try simp at hq);(try(exfalso;omega));(try(revert hq;intro))))
  rcases hbu:badL o us with _|_
  ·refine CallS.plain [ints us,badP o lv] (.bool false) (badL_spec o lv hbu) (LeL.cons (.refl _) (LeL.cons (bad_view rfl rfl) LeL.nil)) trivial ?_
   repeat'(first|refine vcI ?_|refine And.intro ?_ ?_|(intro hq;(try simp at hq);(try(exfalso;omega));(try(revert hq;intro))))
   refine QS.frozen (ints ws) hU2 (plainAll rfl) ?_
   repeat'(first|refine vcI ?_|refine And.intro ?_ ?_|(intro hq;(try simp at hq);(try(exfalso;omega));(try(revert hq;intro))))
   rcases hbw:badL o ws with _|_
   ·refine CallS.plain [ints ws,badP o lv] (.bool false) (badL_spec o lv hbw) (LeL.cons (.refl _) (LeL.cons (bad_view rfl rfl) LeL.nil)) trivial ?_
    repeat'(first|refine vcI ?_|refine And.intro ?_ ?_|(intro hq;(try simp at hq);(try(exfalso;omega));(try(revert hq;intro))))
    (refine NEq.of_eq ?_;show PV.bool _=PV.bool _;congr 1)
    exact (shX_ok hop2.1 hop2.2 h20 hsw (by rw [← hus];exact hbu) (fun h=>by rw [hst] at h;cases h) (by rw [← hws];exact hbw)).symm
   ·refine CallS.plain [ints ws,badP o lv] (.bool true) (badL_spec o lv hbw) (LeL.cons (.refl _) (LeL.cons (bad_view rfl rfl) LeL.nil)) trivial ?_
    repeat'(first|refine vcI ?_|refine And.intro ?_ ?_|(intro hq;(try simp at hq);(try(exfalso;omega));(try(revert hq;intro))))
    (refine NEq.of_eq ?_;show PV.bool _=PV.bool _;congr 1)
    exact (shX_uses (by rw [← hws];exact hbw)).symm
  ·refine CallS.plain [ints us,badP o lv] (.bool true) (badL_spec o lv hbu) (LeL.cons (.refl _) (LeL.cons (bad_view rfl rfl) LeL.nil)) trivial ?_
   repeat'(first|refine vcI ?_|refine And.intro ?_ ?_|(intro hq;(try simp at hq);(try(exfalso;omega));(try(revert hq;intro))))
   (refine NEq.of_eq ?_;show PV.bool _=PV.bool _;congr 1)
   exact (shX_bad (by rw [← hus];exact hbu)).symm
end Go.Ab
namespace Go.Ab
open Go.Proofs
set_option maxRecDepth 100000
set_option maxHeartbeats 4000000
theorem shaped_12 (o:DO) (lv:PV) (i:Nat) (H:ShG o i) (h1:(o.irs.getD i default).op=12):CallsF Tryz.prog 77 [codeP o lv,.int .i64 i] (.bool (shapedX o (o.irs.getD i default) (o.descs.getD i []))):=by
 have hi:=H.hi
 have hil:=H.hil
 have hd:=H.hd
 have hdl:=H.hdl
 have hop2:=H.hop
 have hop1:1≤(o.irs[i]?.getD default).op∧(o.irs[i]?.getD default).op≤16:=hop2
 have ha1:(o.irs[i]?.getD default).args.length≤6000:=H.ha
 obtain ⟨us,hus⟩:∃ us,us=usedL (o.irs.getD i default) (o.descs.getD i []):=⟨_,rfl⟩
 obtain ⟨ws,hws⟩:∃ ws,ws=usesL (o.descs.getD i []):=⟨_,rfl⟩
 have hU2:CallsF Tryz.prog 61 [dfs (o.descs.getD i [])] (ints ws):=by rw [hws];exact symUses _ H.hfs H.hfN
 refine callsF_ofS mx Tryz.call77 Tryz.func77 rfl Tryz.ntmps77 Tryz.results77 (by kernel_rfl) (by simp) fun lo=>?_
 repeat'(first|refine vcI ?_|refine And.intro ?_ ?_|(intro hq;(try simp at hq);(try(exfalso;omega));(try(revert hq;intro))))
 ·simp;omega
 ·have h20:¬ (o.irs.getD i default).args.length≤20:=by
   show ¬ (o.irs[i]?.getD default).args.length≤20
   omega
  repeat'(first|refine vcI ?_|refine And.intro ?_ ?_|(intro hq;(try simp at hq);(try(exfalso;omega));(try(revert hq;intro))))
  (refine NEq.of_eq ?_;show PV.bool _=PV.bool _;congr 1)
  exact (shX_args h20).symm
 ·show 0≤(o.irs.getD i default).op;omega
 ·show (o.irs.getD i default).op<_;omega
 ·rw [cRow];decide
 ·rw [cRow];show 0+12+(o.irs.getD i default).op.toNat*4+4≤81;omega
 ·rw [cRow];decide
 ·rw [cRow,row_list o lv hop2 (by show 0+12+(o.irs.getD i default).op.toNat*4=_;omega)];exact row_cells hop2
 ·rw [List.length_map,List.length_range,cRow];decide
 have h20:(o.irs.getD i default).args.length≤20:=by
  show (o.irs[i]?.getD default).args.length≤20
  omega
 rw [cRow,row_list o lv hop2 (by show 0+12+(o.irs.getD i default).op.toNat*4=_;omega)]
 have h10:(o.irs.getD i default).op≠10:=by omega
 obtain ⟨fn,hu1,hu2⟩:=uses_of o lv i hi (by omega) hd (by omega) H.hfs.1 (by omega) hop2 h10
 rw [← hus] at hu2
 rw [rowF_eq,hu1]
 have hop4:(o.irs[i]?.getD default).op=12:=h1
 have hop3:(o.irs.getD (i:Int).toNat default).op=12:=h1
 have hst:setsB (o.irs.getD i default).op=true:=by rw [h1];rfl
 rw [show goesB (o.irs.getD i default).op=false by rw [h1];rfl,hst]
 try rw [hop3]
 repeat'(first|refine vcI ?_|refine And.intro ?_ ?_|(intro hq;(try simp at hq);(try(exfalso;omega));(try(revert hq;intro))))
 have hcu:=hu2 fun h=>by omega
 rcases hins:insB (o.descs.getD i []).length (o.irs.getD i default).n with _|_
 ·have hsw:swB o (o.irs.getD i default) (o.descs.getD i [])=true:=by unfold swB;rw [h1,hins];rfl
  refine CallS.frozen (.bool false) (insFr_spec (o.descs.getD i []) hins) (plainAll rfl) ?_
  repeat'(first|refine vcI ?_|refine And.intro ?_ ?_|(intro hq;(try simp at hq);(try(exfalso;omega));(try(revert hq;intro))))
  (refine NEq.of_eq ?_;show PV.bool _=PV.bool _;congr 1)
  exact (shX_sw hsw).symm
 ·have hm:0≤(o.irs.getD i default).n∧(o.irs.getD i default).n<((o.descs.getD i []).length:Int):=by simpa [insB] using hins
  refine CallS.frozen (.bool true) (insFr_spec (o.descs.getD i []) hins) (plainAll rfl) ?_
  repeat'(first|refine vcI ?_|refine And.intro ?_ ?_|(intro hq;(try simp at hq);(try(exfalso;omega));(try(revert hq;intro))))
  ·exact hm.1
  ·exact hm.2
  rcases hins2:insB (o.descs.getD i []).length ((o.descs.getD i []).getD (o.irs.getD i default).n.toNat default).up with _|_
  ·have hsw:swB o (o.irs.getD i default) (o.descs.getD i [])=false:=by unfold swB;rw [h1,hins,hins2];rfl
   refine CallS.frozen (.bool false) (insFr_spec (o.descs.getD i []) hins2) (plainAll rfl) ?_
   repeat'(first|refine vcI ?_|refine And.intro ?_ ?_|(intro hq;(try simp at hq);(try(exfalso;omega));(try(revert hq;intro))))
   refine QS.frozen (ints us) hcu (plainAll rfl) ?_
   repeat'(first|refine vcI ?_|refine And.intro ?_ ?_|(intro hq;(try simp at hq);(try(exfalso;omega));(try(revert hq;intro))))
   rcases hbu:badL o us with _|_
   ·refine CallS.plain [ints us,badP o lv] (.bool false) (badL_spec o lv hbu) (LeL.cons (.refl _) (LeL.cons (bad_view rfl rfl) LeL.nil)) trivial ?_
    repeat'(first|refine vcI ?_|refine And.intro ?_ ?_|(intro hq;(try simp at hq);(try(exfalso;omega));(try(revert hq;intro))))
    rcases hbr:regB o (o.irs.getD i default).d with _|_
    ·refine CallS.frozen (.bool false) (regB_spec o lv hbr) (plainAll rfl) ?_
     repeat'(first|refine vcI ?_|refine And.intro ?_ ?_|(intro hq;(try simp at hq);(try(exfalso;omega));(try(revert hq;intro))))
     (refine NEq.of_eq ?_;show PV.bool _=PV.bool _;congr 1)
     exact (shX_reg hst hbr).symm
    ·refine CallS.frozen (.bool true) (regB_spec o lv hbr) (plainAll rfl) ?_
     repeat'(first|refine vcI ?_|refine And.intro ?_ ?_|(intro hq;(try simp at hq);(try(exfalso;omega));(try(revert hq;intro))))
     refine QS.frozen (ints ws) hU2 (plainAll rfl) ?_
     repeat'(first|refine vcI ?_|refine And.intro ?_ ?_|(intro hq;(try simp at hq);(try(exfalso;omega));(try(revert hq;intro))))
     rcases hbw:badL o ws with _|_
     ·refine CallS.plain [ints ws,badP o lv] (.bool false) (badL_spec o lv hbw) (LeL.cons (.refl _) (LeL.cons (bad_view rfl rfl) LeL.nil)) trivial ?_
      repeat'(first|refine vcI ?_|refine And.intro ?_ ?_|(intro hq;(try simp at hq);(try(exfalso;omega));(try(revert hq;intro))))
      (refine NEq.of_eq ?_;show PV.bool _=PV.bool _;congr 1)
      exact (shX_ok hop2.1 hop2.2 h20 hsw (by rw [← hus];exact hbu) (fun _=>hbr) (by rw [← hws];exact hbw)).symm
     ·refine CallS.plain [ints ws,badP o lv] (.bool true) (badL_spec o lv hbw) (LeL.cons (.refl _) (LeL.cons (bad_view rfl rfl) LeL.nil)) trivial ?_
      repeat'(first|refine vcI ?_|refine And.intro ?_ ?_|(intro hq;(try simp at hq);(try(exfalso;omega));(try(revert hq;intro))))
      (refine NEq.of_eq ?_;show PV.bool _=PV.bool _;congr 1)
      exact (shX_uses (by rw [← hws];exact hbw)).symm
   ·refine CallS.plain [ints us,badP o lv] (.bool true) (badL_spec o lv hbu) (LeL.cons (.refl _) (LeL.cons (bad_view rfl rfl) LeL.nil)) trivial ?_
    repeat'(first|refine vcI ?_|refine And.intro ?_ ?_|(intro hq;(try simp at hq);(try(exfalso;omega));(try(revert hq;intro))))
    (refine NEq.of_eq ?_;show PV.bool _=PV.bool _;congr 1)
    exact (shX_bad (by rw [← hus];exact hbu)).symm
  ·have hm2:0≤((o.descs.getD i []).getD (o.irs.getD i default).n.toNat default).up∧((o.descs.getD i []).getD (o.irs.getD i default).n.toNat default).up<((o.descs.getD i []).length:Int):=by simpa [insB] using hins2
   refine CallS.frozen (.bool true) (insFr_spec (o.descs.getD i []) hins2) (plainAll rfl) ?_
   repeat'(first|refine vcI ?_|refine And.intro ?_ ?_|(intro hq;(try simp at hq);(try(exfalso;omega));(try(revert hq;intro))))
   ·exact hm.1
   ·exact hm.2
   ·exact hm2.1
   ·exact hm2.2
   ·have hact:((o.descs.getD i []).getD ((o.descs.getD i []).getD (o.irs.getD i default).n.toNat default).up.toNat default).act=0:=by
     show ((o.descs[i]?.getD [])[((o.descs[i]?.getD [])[(o.irs[i]?.getD default).n.toNat]?.getD default).up.toNat]?.getD default).act=0
     assumption
    have hsw:swB o (o.irs.getD i default) (o.descs.getD i [])=true:=by
     unfold swB;rw [h1,hins,hins2,hact];rfl
    repeat'(first|refine vcI ?_|refine And.intro ?_ ?_|(intro hq;(try simp at hq);(try(exfalso;omega));(try(revert hq;intro))))
    (refine NEq.of_eq ?_;show PV.bool _=PV.bool _;congr 1)
    exact (shX_sw hsw).symm
   ·have hact:¬ ((o.descs.getD i []).getD ((o.descs.getD i []).getD (o.irs.getD i default).n.toNat default).up.toNat default).act=0:=by
     show ¬ ((o.descs[i]?.getD [])[((o.descs[i]?.getD [])[(o.irs[i]?.getD default).n.toNat]?.getD default).up.toNat]?.getD default).act=0
     assumption
    have hsw:swB o (o.irs.getD i default) (o.descs.getD i [])=false:=by
     unfold swB;rw [h1,hins,hins2]
     show (((o.descs.getD i []).getD ((o.descs.getD i []).getD (o.irs.getD i default).n.toNat default).up.toNat default).act == 0)=false
     simpa using hact
    refine QS.frozen (ints us) hcu (plainAll rfl) ?_
    repeat'(first|refine vcI ?_|refine And.intro ?_ ?_|(intro hq;(try simp at hq);(try(exfalso;omega));(try(revert hq;intro))))
    rcases hbu:badL o us with _|_
    ·refine CallS.plain [ints us,badP o lv] (.bool false) (badL_spec o lv hbu) (LeL.cons (.refl _) (LeL.cons (bad_view rfl rfl) LeL.nil)) trivial ?_
     repeat'(first|refine vcI ?_|refine And.intro ?_ ?_|(intro hq;(try simp at hq);(try(exfalso;omega));(try(revert hq;intro))))
     rcases hbr:regB o (o.irs.getD i default).d with _|_
     ·refine CallS.frozen (.bool false) (regB_spec o lv hbr) (plainAll rfl) ?_
      repeat'(first|refine vcI ?_|refine And.intro ?_ ?_|(intro hq;(try simp at hq);(try(exfalso;omega));(try(revert hq;intro))))
      (refine NEq.of_eq ?_;show PV.bool _=PV.bool _;congr 1)
      exact (shX_reg hst hbr).symm
     ·refine CallS.frozen (.bool true) (regB_spec o lv hbr) (plainAll rfl) ?_
      repeat'(first|refine vcI ?_|refine And.intro ?_ ?_|(intro hq;(try simp at hq);(try(exfalso;omega));(try(revert hq;intro))))
      refine QS.frozen (ints ws) hU2 (plainAll rfl) ?_
      repeat'(first|refine vcI ?_|refine And.intro ?_ ?_|(intro hq;(try simp at hq);(try(exfalso;omega));(try(revert hq;intro))))
      rcases hbw:badL o ws with _|_
      ·refine CallS.plain [ints ws,badP o lv] (.bool false) (badL_spec o lv hbw) (LeL.cons (.refl _) (LeL.cons (bad_view rfl rfl) LeL.nil)) trivial ?_
       repeat'(first|refine vcI ?_|refine And.intro ?_ ?_|(intro hq;(try simp at hq);(try(exfalso;omega));(try(revert hq;intro))))
       (refine NEq.of_eq ?_;show PV.bool _=PV.bool _;congr 1)
       exact (shX_ok hop2.1 hop2.2 h20 hsw (by rw [← hus];exact hbu) (fun _=>hbr) (by rw [← hws];exact hbw)).symm
      ·refine CallS.plain [ints ws,badP o lv] (.bool true) (badL_spec o lv hbw) (LeL.cons (.refl _) (LeL.cons (bad_view rfl rfl) LeL.nil)) trivial ?_
       repeat'(first|refine vcI ?_|refine And.intro ?_ ?_|(intro hq;(try simp at hq);(try(exfalso;omega));(try(revert hq;intro))))
       (refine NEq.of_eq ?_;show PV.bool _=PV.bool _;congr 1)
       exact (shX_uses (by rw [← hws];exact hbw)).symm
    ·refine CallS.plain [ints us,badP o lv] (.bool true) (badL_spec o lv hbu) (LeL.cons (.refl _) (LeL.cons (bad_view rfl rfl) LeL.nil)) trivial ?_
     repeat'(first|refine vcI ?_|refine And.intro ?_ ?_|(intro hq;(try simp at hq);(try(exfalso;omega));(try(revert hq;intro))))
     (refine NEq.of_eq ?_;show PV.bool _=PV.bool _;congr 1)
     exact (shX_bad (by rw [← hus];exact hbu)).symm
theorem shaped_13 (o:DO) (lv:PV) (i:Nat) (H:ShG o i) (h1:(o.irs.getD i default).op=13):CallsF Tryz.prog 77 [codeP o lv,.int .i64 i] (.bool (shapedX o (o.irs.getD i default) (o.descs.getD i []))):=by
 have hi:=H.hi
 have hil:=H.hil
 have hd:=H.hd
 have hdl:=H.hdl
 have hop2:=H.hop
 have hop1:1≤(o.irs[i]?.getD default).op∧(o.irs[i]?.getD default).op≤16:=hop2
 have ha1:(o.irs[i]?.getD default).args.length≤6000:=H.ha
 obtain ⟨us,hus⟩:∃ us,us=usedL (o.irs.getD i default) (o.descs.getD i []):=⟨_,rfl⟩
 obtain ⟨ws,hws⟩:∃ ws,ws=usesL (o.descs.getD i []):=⟨_,rfl⟩
 have hU2:CallsF Tryz.prog 61 [dfs (o.descs.getD i [])] (ints ws):=by rw [hws];exact symUses _ H.hfs H.hfN
 refine callsF_ofS mx Tryz.call77 Tryz.func77 rfl Tryz.ntmps77 Tryz.results77 (by kernel_rfl) (by simp) fun lo=>?_
 repeat'(first|refine vcI ?_|refine And.intro ?_ ?_|(intro hq;(try simp at hq);(try(exfalso;omega));(try(revert hq;intro))))
 ·simp;omega
 ·have h20:¬ (o.irs.getD i default).args.length≤20:=by
   show ¬ (o.irs[i]?.getD default).args.length≤20
   omega
  repeat'(first|refine vcI ?_|refine And.intro ?_ ?_|(intro hq;(try simp at hq);(try(exfalso;omega));(try(revert hq;intro))))
  (refine NEq.of_eq ?_;show PV.bool _=PV.bool _;congr 1)
  exact (shX_args h20).symm
 ·show 0≤(o.irs.getD i default).op;omega
 ·show (o.irs.getD i default).op<_;omega
 ·rw [cRow];decide
 ·rw [cRow];show 0+12+(o.irs.getD i default).op.toNat*4+4≤81;omega
 ·rw [cRow];decide
 ·rw [cRow,row_list o lv hop2 (by show 0+12+(o.irs.getD i default).op.toNat*4=_;omega)];exact row_cells hop2
 ·rw [List.length_map,List.length_range,cRow];decide
 have h20:(o.irs.getD i default).args.length≤20:=by
  show (o.irs[i]?.getD default).args.length≤20
  omega
 rw [cRow,row_list o lv hop2 (by show 0+12+(o.irs.getD i default).op.toNat*4=_;omega)]
 have h10:(o.irs.getD i default).op≠10:=by omega
 obtain ⟨fn,hu1,hu2⟩:=uses_of o lv i hi (by omega) hd (by omega) H.hfs.1 (by omega) hop2 h10
 rw [← hus] at hu2
 rw [rowF_eq,hu1]
 have hop4:(o.irs[i]?.getD default).op=13:=h1
 have hop3:(o.irs.getD (i:Int).toNat default).op=13:=h1
 have hst:setsB (o.irs.getD i default).op=true:=by rw [h1];rfl
 rw [show goesB (o.irs.getD i default).op=false by rw [h1];rfl,hst]
 try rw [hop3]
 repeat'(first|refine vcI ?_|refine And.intro ?_ ?_|(intro hq;(try simp at hq);(try(exfalso;omega));(try(revert hq;intro))))
 try rw [hop3]
 rcases hins:insB (o.descs.getD i []).length (o.irs.getD i default).m with _|_
 ·have hsw:swB o (o.irs.getD i default) (o.descs.getD i [])=true:=by unfold swB;rw [h1,hins];rfl
  refine CallS.frozen (.bool false) (insFr_spec (o.descs.getD i []) hins) (plainAll rfl) ?_
  repeat'(first|refine vcI ?_|refine And.intro ?_ ?_|(intro hq;(try simp at hq);(try(exfalso;omega));(try(revert hq;intro))))
  (refine NEq.of_eq ?_;show PV.bool _=PV.bool _;congr 1)
  exact (shX_sw hsw).symm
 ·have hm:0≤(o.irs.getD i default).m∧(o.irs.getD i default).m<((o.descs.getD i []).length:Int):=by simpa [insB] using hins
  have hcu:=hu2 fun _=>hm
  refine CallS.frozen (.bool true) (insFr_spec (o.descs.getD i []) hins) (plainAll rfl) ?_
  repeat'(first|refine vcI ?_|refine And.intro ?_ ?_|(intro hq;(try simp at hq);(try(exfalso;omega));(try(revert hq;intro))))
  ·exact hm.1
  ·exact hm.2
  ·have hact:((o.descs.getD i []).getD (o.irs.getD i default).m.toNat default).act=0:=by
    show ((o.descs[i]?.getD [])[(o.irs[i]?.getD default).m.toNat]?.getD default).act=0
    assumption
   have hsw:swB o (o.irs.getD i default) (o.descs.getD i [])=true:=by
    unfold swB;rw [h1,hins,hact];rfl
   repeat'(first|refine vcI ?_|refine And.intro ?_ ?_|(intro hq;(try simp at hq);(try(exfalso;omega));(try(revert hq;intro))))
   (refine NEq.of_eq ?_;show PV.bool _=PV.bool _;congr 1)
   exact (shX_sw hsw).symm
  ·have hact:¬ ((o.descs.getD i []).getD (o.irs.getD i default).m.toNat default).act=0:=by
    show ¬ ((o.descs[i]?.getD [])[(o.irs[i]?.getD default).m.toNat]?.getD default).act=0
    assumption
   have hsw:swB o (o.irs.getD i default) (o.descs.getD i [])=false:=by
    unfold swB;rw [h1,hins]
    show (((o.descs.getD i []).getD (o.irs.getD i default).m.toNat default).act == 0)=false
    simpa using hact
   refine QS.frozen (ints us) hcu (plainAll rfl) ?_
   repeat'(first|refine vcI ?_|refine And.intro ?_ ?_|(intro hq;(try simp at hq);(try(exfalso;omega));(try(revert hq;intro))))
   rcases hbu:badL o us with _|_
   ·refine CallS.plain [ints us,badP o lv] (.bool false) (badL_spec o lv hbu) (LeL.cons (.refl _) (LeL.cons (bad_view rfl rfl) LeL.nil)) trivial ?_
    repeat'(first|refine vcI ?_|refine And.intro ?_ ?_|(intro hq;(try simp at hq);(try(exfalso;omega));(try(revert hq;intro))))
    rcases hbr:regB o (o.irs.getD i default).d with _|_
    ·refine CallS.frozen (.bool false) (regB_spec o lv hbr) (plainAll rfl) ?_
     repeat'(first|refine vcI ?_|refine And.intro ?_ ?_|(intro hq;(try simp at hq);(try(exfalso;omega));(try(revert hq;intro))))
     (refine NEq.of_eq ?_;show PV.bool _=PV.bool _;congr 1)
     exact (shX_reg hst hbr).symm
    ·refine CallS.frozen (.bool true) (regB_spec o lv hbr) (plainAll rfl) ?_
     repeat'(first|refine vcI ?_|refine And.intro ?_ ?_|(intro hq;(try simp at hq);(try(exfalso;omega));(try(revert hq;intro))))
     refine QS.frozen (ints ws) hU2 (plainAll rfl) ?_
     repeat'(first|refine vcI ?_|refine And.intro ?_ ?_|(intro hq;(try simp at hq);(try(exfalso;omega));(try(revert hq;intro))))
     rcases hbw:badL o ws with _|_
     ·refine CallS.plain [ints ws,badP o lv] (.bool false) (badL_spec o lv hbw) (LeL.cons (.refl _) (LeL.cons (bad_view rfl rfl) LeL.nil)) trivial ?_
      repeat'(first|refine vcI ?_|refine And.intro ?_ ?_|(intro hq;(try simp at hq);(try(exfalso;omega));(try(revert hq;intro))))
      (refine NEq.of_eq ?_;show PV.bool _=PV.bool _;congr 1)
      exact (shX_ok hop2.1 hop2.2 h20 hsw (by rw [← hus];exact hbu) (fun _=>hbr) (by rw [← hws];exact hbw)).symm
     ·refine CallS.plain [ints ws,badP o lv] (.bool true) (badL_spec o lv hbw) (LeL.cons (.refl _) (LeL.cons (bad_view rfl rfl) LeL.nil)) trivial ?_
      repeat'(first|refine vcI ?_|refine And.intro ?_ ?_|(intro hq;(try simp at hq);(try(exfalso;omega));(try(revert hq;intro))))
      (refine NEq.of_eq ?_;show PV.bool _=PV.bool _;congr 1)
      exact (shX_uses (by rw [← hws];exact hbw)).symm
   ·refine CallS.plain [ints us,badP o lv] (.bool true) (badL_spec o lv hbu) (LeL.cons (.refl _) (LeL.cons (bad_view rfl rfl) LeL.nil)) trivial ?_
    repeat'(first|refine vcI ?_|refine And.intro ?_ ?_|(intro hq;(try simp at hq);(try(exfalso;omega));(try(revert hq;intro))))
    (refine NEq.of_eq ?_;show PV.bool _=PV.bool _;congr 1)
    exact (shX_bad (by rw [← hus];exact hbu)).symm
theorem shaped_spec (o:DO) (lv:PV) (i:Nat) (hi:i<o.irs.length) (hd:i<o.descs.length) (hf:fewN o≤6000) (hs:∀ l∈o.descs,l.length≤1048576∧∀ f∈l,f.small):CallsF Tryz.prog 77 [codeP o lv,.int .i64 i] (.bool (shapedX o (o.irs.getD i default) (o.descs.getD i []))):=by
 have hil:o.irs.length≤6000:=by unfold fewN at hf;omega
 have hdl:o.descs.length≤6000:=by unfold fewN at hf;omega
 have ha:(o.irs.getD i default).args.length≤6000:=by
  have:=sumL_mem (f:=fun x:DI=>x.args.length) (getD_mem default hi)
  rw [List.getD_eq_getElem?_getD]
  unfold fewN at hf;omega
 have hfN:frN (o.descs.getD i [])≤6000:=by
  have:=sumL_mem (f:=frN) (getD_mem [] hd)
  rw [List.getD_eq_getElem?_getD]
  unfold fewN at hf;omega
 by_cases hop:(o.irs.getD i default).op<1∨16<(o.irs.getD i default).op
 ·exact shaped_out o lv i hi hil hd hdl ha hop
 have H:ShG o i:=⟨hi,hil,hd,hdl,by omega,hs _ (getD_mem [] hd),hfN,ha⟩
 by_cases h10:(o.irs.getD i default).op=10
 ·exact shaped_10 o lv i H h10
 by_cases h12:(o.irs.getD i default).op=12
 ·exact shaped_12 o lv i H h12
 by_cases h13:(o.irs.getD i default).op=13
 ·exact shaped_13 o lv i H h13
 rcases hgo:goesB (o.irs.getD i default).op with _|_
 ·rcases hst:setsB (o.irs.getD i default).op with _|_
  ·exact shaped_nF o lv i H h10 h12 h13 hgo hst
  ·exact shaped_nT o lv i H h10 h12 h13 hgo hst
 ·rcases hin:insB o.irs.length (o.irs.getD i default).n with _|_
  ·exact shaped_go o lv i H h10 hgo hin
  ·rcases hst:setsB (o.irs.getD i default).op with _|_
   ·exact shaped_gF o lv i H h10 h12 h13 hgo hin hst
   ·exact shaped_gT o lv i H h10 h12 h13 hgo hin hst
end Go.Ab
namespace Go.Ab
open Go.Proofs
set_option maxRecDepth 100000
set_option maxHeartbeats 1000000

theorem sortNil_spec:CallsF Tryz.prog 84 [.nils] (.tup []):=by
 refine ⟨Tryz.call84,fun w B cs hr ha=>?_⟩
 have hsz:cs.size=1:=by have:=ha.len;simpa using this.symm
 obtain ⟨vx,rfl⟩:∃ vx,cs=#[vx]:=⟨cs[0],by apply Array.ext <;> simp_all⟩
 have hv:=ha.val 0 (by simp)
 simp only [List.getD_cons_zero,Array.getD_eq_getD_getElem?] at hv
 have hv':VR w B H0 V0 .nils vx:=by simpa using hv
 cases hv'
 refine (Any.slices_Sort_int_none Tryz.lays189 none 0 w).mono fun e w' ⟨h1,h2⟩=>?_
 subst h1 h2
 exact ⟨_,B,rfl,.tup (by simp) (fun i hi=>absurd hi (by simp)),Mono.refl ..⟩
theorem compactNil_spec:CallsF Tryz.prog 85 [.nils] .nils:=by
 refine callsF_ofS mx Tryz.call85 Tryz.func85 rfl Tryz.ntmps85 Tryz.results85 (by kernel_rfl) (by simp) fun lo=>?_
 repeat'(first|refine vcI ?_|refine And.intro ?_ ?_|(intro hq;(try simp at hq);(try(exfalso;omega));(try(revert hq;intro))))
 exact .refl _
theorem compact1_27 (x:Int) (v nv:Nat) (S:Hp):CallsA Tryz.prog 85 [.ref (1,27) v [] 1 0 1] ([((1,27),⟨v,oints [x]⟩)]++S) nv
  fun y hp' nv'=>∃ L',hp'=L'++S∧(y = .ref (1,27) v [] 1 0 1∧L'=[((1,27),⟨v,oints [x]⟩)]):=by
 refine callsA_ofS (lv:=2) (by decide) mx Tryz.call85 Tryz.func85 rfl Tryz.ntmps85 Tryz.results85 (by kernel_rfl) (by simp) fun lo=>?_
 repeat'(first|refine vcI ?_|refine And.intro ?_ ?_|(intro hq;(try simp at hq);(try(exfalso;omega));(try(revert hq;intro))))
 exact ⟨_,_,⟨rfl,rfl⟩,.refl _,⟨⟨rfl,.refl _⟩,trivial⟩,.names rfl⟩
theorem compact1_41 (x:Int) (v nv:Nat) (S:Hp):CallsA Tryz.prog 85 [.ref (1,41) v [] 1 0 1] ([((1,41),⟨v,oints [x]⟩)]++S) nv
  fun y hp' nv'=>∃ L',hp'=L'++S∧(y = .ref (1,41) v [] 1 0 1∧L'=[((1,41),⟨v,oints [x]⟩)]):=by
 refine callsA_ofS (lv:=2) (by decide) mx Tryz.call85 Tryz.func85 rfl Tryz.ntmps85 Tryz.results85 (by kernel_rfl) (by simp) fun lo=>?_
 repeat'(first|refine vcI ?_|refine And.intro ?_ ?_|(intro hq;(try simp at hq);(try(exfalso;omega));(try(revert hq;intro))))
 exact ⟨_,_,⟨rfl,rfl⟩,.refl _,⟨⟨rfl,.refl _⟩,trivial⟩,.names rfl⟩
theorem compact2_27 (x y:Int) (v nv:Nat) (S:Hp):CallsA Tryz.prog 85 [.ref (1,27) v [] 1 0 2] ([((1,27),⟨v,oints [x,y]⟩)]++S) nv
  fun z hp' nv'=>∃ L',hp'=L'++S∧(z = .ref (1,27) v [] 1 0 (if x=y then 1 else 2)∧L'=[((1,27),⟨v,oints (if x=y then [x,0] else [x,y])⟩)]):=by
 refine callsA_ofS (lv:=2) (by decide) mx Tryz.call85 Tryz.func85 rfl Tryz.ntmps85 Tryz.results85 (by kernel_rfl) (by simp) fun lo=>?_
 repeat'(first|refine vcI ?_|refine And.intro ?_ ?_|(intro hq;(try simp at hq);(try(exfalso;omega));(try(revert hq;intro))))
 refine loopS mx (by decide) (by kernel_rfl) (fun k:Nat=>k=1∨(k=2∧x≠y)) (fun k=>[(3,.int .i64 k),(0,.ref (1,27) v [] 1 0 2)]) (fun _=>[((1,27),⟨v,oints [x,y]⟩)]) (fun k=>2 - k) 1 (.inl rfl) ⟨by ((repeat' apply And.intro) <;> (first|exact True.intro|exact NEq.refl _|(refine NEq.int ?_;first|exact rfl|omega|(rw [wrapI (by omega)];first|exact rfl|omega)))),⟨⟨rfl,.refl _⟩,trivial⟩,.names rfl⟩ ?_
 rintro k nv (rfl|⟨rfl,hne⟩)
 ·repeat'(first|refine vcI ?_|refine And.intro ?_ ?_|(intro hq;(try simp at hq);(try(exfalso;omega));(try(revert hq;intro))))
  ·decide
  ·decide
  ·rename_i hxy
   have hxy':x=y:=Eq.symm hxy
   subst hxy'
   refine loopS mx (by decide) (by kernel_rfl) (fun _:Unit=>True) (fun _=>[(5,.int .i64 1),(4,.ref (1,27) v [] 1 1 2),(3,.int .i64 1),(0,.ref (1,27) v [] 1 0 2)]) (fun _=>[((1,27),⟨v,oints [x,x]⟩)]) (fun _=>0) () trivial ⟨by ((repeat' apply And.intro) <;> (first|exact True.intro|exact NEq.refl _|(refine NEq.int ?_;first|exact rfl|omega|(rw [wrapI (by omega)];first|exact rfl|omega)))),⟨⟨rfl,.refl _⟩,trivial⟩,.names rfl⟩ ?_
   intro u nv _
   repeat'(first|refine vcI ?_|refine And.intro ?_ ?_|(intro hq;(try simp at hq);(try(exfalso;omega));(try(revert hq;intro))))
   ·rfl
   refine Exists.intro (oints [x,0]) (And.intro ?_ (And.intro (by first|rfl|exact shape_prs (by simp)|exact shape_ints (by simp)|exact shape_odvs (by simp)) ?_))
   ·refine NEq.owns rfl rfl fun i o hi ho=>?_
    obtain rfl:o=0:=by omega
    obtain rfl|rfl:i=0∨i=1:=by simp at hi;omega
    ·exact .refl _
    ·exact .refl _
   repeat'(first|refine vcI ?_|refine And.intro ?_ ?_|(intro hq;(try simp at hq);(try(exfalso;omega));(try(revert hq;intro))))
   rw [if_pos rfl,if_pos rfl]
   exact ⟨_,_,⟨rfl,rfl⟩,.refl _,⟨⟨rfl,.refl _⟩,trivial⟩,.names rfl⟩
  ·rename_i hxy
   have hxy':¬ x=y:=fun e=>hxy (Eq.symm e)
   exact Exists.intro 2 ⟨.inr ⟨rfl,hxy'⟩,(by first|omega|(dsimp only;omega)),⟨⟨(by refine NEq.int ?_;first|exact rfl|omega|(rw [wrapI (by omega)];first|exact rfl|omega)),.refl _,trivial⟩,⟨⟨rfl,.refl _⟩,trivial⟩,.names rfl⟩⟩
 ·repeat'(first|refine vcI ?_|refine And.intro ?_ ?_|(intro hq;(try simp at hq);(try(exfalso;omega));(try(revert hq;intro))))
  rw [if_neg hne,if_neg hne]
  exact ⟨_,_,⟨rfl,rfl⟩,.refl _,⟨⟨rfl,.refl _⟩,trivial⟩,.names rfl⟩
end Go.Ab
namespace Go.Ab
open Go.Proofs
set_option maxRecDepth 100000
set_option maxHeartbeats 4000000

def goesL (x:DI) (i:Nat):List Int :=
 if x.op=9 then [x.n] else if x.op=10∨x.op=11 then []
 else if x.op=3∨x.op=6 then (if x.n=(i:Int)+1 then [(i:Int)+1] else if x.n<(i:Int)+1 then [x.n,(i:Int)+1] else [(i:Int)+1,x.n])
 else [(i:Int)+1]
def padL (x:DI) (i:Nat):List Int:=if (x.op=3∨x.op=6)∧x.n=(i:Int)+1 then [0] else []
theorem keepS_pre {L:Hp} {r:RId} {v n m:Nat} {l:List Int} (h:lkH L r=some ⟨v,oints l⟩) (hn:n=m):keepS (fun id ver => .ref id ver [] 1 0 m) (oints l) (.ref r v [] 1 0 n) L :=
 .inl ⟨r,v,_,h,setH L r none,fun j=>lookH_setH L r j none,fun id ver=>⟨.refs rfl rfl hn,KpR_ints⟩⟩
theorem sortI_one (x:Int):sortI [x]=[x]:=sortI_sorted (by simp)
theorem sortI_two (x y:Int):sortI [x,y]=if y<x then [y,x] else [x,y]:=by
 by_cases h:y<x
 ·rw [if_pos h,sortI_perm (List.Perm.swap y x []),sortI_sorted (by simp [h])]
 ·rw [if_neg h]
  by_cases e:x=y
  ·subst e
   exact (List.mergeSort_of_pairwise (by simp):sortI [x,x]=[x,x])
  ·exact sortI_sorted (by simp;omega)

theorem nexts_f (o:DO) (lv:PV) (i:Nat) (hi:i<o.irs.length) (hil:o.irs.length≤6000) (hop:1≤(o.irs.getD i default).op∧(o.irs.getD i default).op≤16) (hne:(o.irs.getD i default).op≠3∧(o.irs.getD i default).op≠6∧(o.irs.getD i default).op≠9∧(o.irs.getD i default).op≠10∧(o.irs.getD i default).op≠11):CallsO Tryz.prog 38 [codeP o lv,.int .i64 i] (oints (goesL (o.irs.getD i default) i++padL (o.irs.getD i default) i)) (fun id ver => .ref id ver [] 1 0 (goesL (o.irs.getD i default) i).length):=by
 obtain ⟨k3,k6,k9,k10,k11⟩:=hne
 have w1:IntKind.i64.wrap ((i:Int)+1)=(i:Int)+1:=wrapI (by omega)
 have e1:goesL (o.irs.getD i default) i=[(i:Int)+1]:=by unfold goesL;rw [if_neg k9,if_neg (by omega),if_neg (by omega)]
 have e2:padL (o.irs.getD i default) i=[]:=by unfold padL;rw [if_neg (by omega)]
 have hf:fallsB (o.irs.getD i default).op=true:=by simp only [fallsB,beq_eq_false_iff_ne.2 k9,beq_eq_false_iff_ne.2 k10,beq_eq_false_iff_ne.2 k11];rfl
 have hg:goesB (o.irs.getD i default).op=false:=by simp only [goesB,beq_eq_false_iff_ne.2 k3,beq_eq_false_iff_ne.2 k6,beq_eq_false_iff_ne.2 k9];rfl
 obtain ⟨fn,hfn⟩:=usesF_fn hop k10
 rw [e1,e2]
 refine callsO_ofS mx Tryz.call38 Tryz.func38 rfl Tryz.ntmps38 Tryz.results38 (by kernel_rfl) (by simp) fun lo=>?_
 repeat'(first|refine vcI ?_|refine And.intro ?_ ?_|(intro hq;(try simp at hq);(try(exfalso;omega));(try(revert hq;intro))))
 ·show 0≤(o.irs.getD i default).op;omega
 ·show (o.irs.getD i default).op<_;omega
 ·rw [cRow];decide
 ·rw [cRow];show 0+12+(o.irs.getD i default).op.toNat*4+4≤81;omega
 ·rw [cRow];decide
 ·rw [cRow,row_list o lv hop (by show 0+12+(o.irs.getD i default).op.toNat*4=_;omega)];exact row_cells hop
 ·rw [List.length_map,List.length_range,cRow];decide
 rw [cRow,row_list o lv hop (by show 0+12+(o.irs.getD i default).op.toNat*4=_;omega),rowF_eq,hfn,hf,hg]
 repeat'(first|refine vcI ?_|refine And.intro ?_ ?_|(intro hq;(try simp at hq);(try(exfalso;omega));(try(revert hq;intro))))
 refine Exists.intro (oints [(i:Int)+1]) (And.intro ?_ (And.intro (by first|rfl|exact shape_prs (by simp)|exact shape_ints (by simp)|exact shape_odvs (by simp)) ?_))
 ·exact one_ints _ rfl rfl (by exact NEq.int w1)
 repeat'(first|refine vcI ?_|refine And.intro ?_ ?_|(intro hq;(try simp at hq);(try(exfalso;omega));(try(revert hq;intro))))
 refine Exists.intro (oints [(i:Int)+1]) (And.intro ?_ (And.intro (by first|rfl|exact shape_prs (by simp)|exact shape_ints (by simp)|exact shape_odvs (by simp)) ?_))
 ·exact one_ints _ rfl rfl (.refl _)
 repeat'(first|refine vcI ?_|refine And.intro ?_ ?_|(intro hq;(try simp at hq);(try(exfalso;omega));(try(revert hq;intro))))
 refine CallS.onA (L0:=[((1,27),⟨_,oints [(i:Int)+1]⟩)]) (M:=_) (sort_at rfl (sort_spec [(i:Int)+1] (by simp) (1,27) _ _ _)) (fun r=>rfl) ?_
 rintro x L' nv' ⟨rfl,rfl⟩
 rw [sortI_one]
 repeat'(first|refine vcI ?_|refine And.intro ?_ ?_|(intro hq;(try simp at hq);(try(exfalso;omega));(try(revert hq;intro))))
 refine CallS.onA (L0:=[((1,27),⟨_,oints [(i:Int)+1]⟩)]) (M:=_) (compact1_27 ((i:Int)+1) _ _ _) (fun r=>rfl) ?_
 rintro x L' nv' ⟨rfl,rfl⟩
 repeat'(first|refine vcI ?_|refine And.intro ?_ ?_|(intro hq;(try simp at hq);(try(exfalso;omega));(try(revert hq;intro))))
 exact keepS_pre rfl rfl

theorem nexts_3 (o:DO) (lv:PV) (i:Nat) (hi:i<o.irs.length) (hil:o.irs.length≤6000) (hop:(o.irs.getD i default).op=3):CallsO Tryz.prog 38 [codeP o lv,.int .i64 i] (oints (goesL (o.irs.getD i default) i++padL (o.irs.getD i default) i)) (fun id ver => .ref id ver [] 1 0 (goesL (o.irs.getD i default) i).length):=by
 have hop1:(o.irs[i]?.getD default).op=3:=hop
 have hop2:(o.irs.getD (i:Int).toNat default).op=3:=hop
 have w1:IntKind.i64.wrap ((i:Int)+1)=(i:Int)+1:=wrapI (by omega)
 refine callsO_ofS mx Tryz.call38 Tryz.func38 rfl Tryz.ntmps38 Tryz.results38 (by kernel_rfl) (by simp) fun lo=>?_
 repeat'(first|refine vcI ?_|refine And.intro ?_ ?_|(intro hq;(try simp at hq);(try(exfalso;omega));(try(revert hq;intro))))
 ·rw [hop2];decide
 ·rw [cRow];decide
 ·rw [hop2];rfl
 ·rw [List.length_map,List.length_range,cRow];decide
 rw [hop2]
 repeat'(first|refine vcI ?_|refine And.intro ?_ ?_|(intro hq;(try simp at hq);(try(exfalso;omega));(try(revert hq;intro))))
 refine Exists.intro (oints [(i:Int)+1]) (And.intro ?_ (And.intro (by first|rfl|exact shape_prs (by simp)|exact shape_ints (by simp)|exact shape_odvs (by simp)) ?_))
 ·exact one_ints _ rfl rfl (by exact NEq.int w1)
 repeat'(first|refine vcI ?_|refine And.intro ?_ ?_|(intro hq;(try simp at hq);(try(exfalso;omega));(try(revert hq;intro))))
 refine Exists.intro (oints [(i:Int)+1]) (And.intro ?_ (And.intro (by first|rfl|exact shape_prs (by simp)|exact shape_ints (by simp)|exact shape_odvs (by simp)) ?_))
 ·exact one_ints _ rfl rfl (.refl _)
 repeat'(first|refine vcI ?_|refine And.intro ?_ ?_|(intro hq;(try simp at hq);(try(exfalso;omega));(try(revert hq;intro))))
 refine Exists.intro (oints [(o.irs.getD i default).n]) (And.intro ?_ (And.intro (by first|rfl|exact shape_prs (by simp)|exact shape_ints (by simp)|exact shape_odvs (by simp)) ?_))
 ·exact one_ints _ rfl rfl (.refl _)
 repeat'(first|refine vcI ?_|refine And.intro ?_ ?_|(intro hq;(try simp at hq);(try(exfalso;omega));(try(revert hq;intro))))
 refine Exists.intro (oints [(i:Int)+1,(o.irs.getD i default).n]) (And.intro ?_ (And.intro (by first|rfl|exact shape_prs (by simp)|exact shape_ints (by simp)|exact shape_odvs (by simp)) ?_))
 ·exact two_ints _ _ rfl rfl (.refl _) (.refl _)
 repeat'(first|refine vcI ?_|refine And.intro ?_ ?_|(intro hq;(try simp at hq);(try(exfalso;omega));(try(revert hq;intro))))
 refine CallS.onA (L0:=[((1,27),⟨_,oints [(i:Int)+1,(o.irs.getD i default).n]⟩)]) (M:=_) (sort_at rfl (sort_spec [(i:Int)+1,(o.irs.getD i default).n] (by simp) (1,27) _ _ _)) (fun r=>rfl) ?_
 rintro x L' nv' ⟨rfl,rfl⟩
 rcases (by omega:(o.irs.getD i default).n=(i:Int)+1∨(o.irs.getD i default).n<(i:Int)+1∨(i:Int)+1<(o.irs.getD i default).n) with hn|hn|hn
 ·have e1:goesL (o.irs.getD i default) i=[(i:Int)+1]:=by unfold goesL;rw [if_neg (by omega),if_neg (by omega),if_pos (by omega),if_pos hn]
  have e2:padL (o.irs.getD i default) i=[0]:=by unfold padL;rw [if_pos ⟨by omega,hn⟩]
  have es:sortI [(i:Int)+1,(o.irs.getD i default).n]=[(i:Int)+1,(i:Int)+1]:=by rw [sortI_two];rw [hn,if_neg (by omega)]
  rw [e1,e2,es]
  repeat'(first|refine vcI ?_|refine And.intro ?_ ?_|(intro hq;(try simp at hq);(try(exfalso;omega));(try(revert hq;intro))))
  refine CallS.onA (L0:=[((1,27),⟨_,oints [(i:Int)+1,(i:Int)+1]⟩)]) (M:=_) (compact2_27 ((i:Int)+1) ((i:Int)+1) _ _ _) (fun r=>rfl) ?_
  rintro x L' nv' ⟨rfl,rfl⟩
  rw [if_pos rfl,if_pos rfl]
  repeat'(first|refine vcI ?_|refine And.intro ?_ ?_|(intro hq;(try simp at hq);(try(exfalso;omega));(try(revert hq;intro))))
  exact keepS_pre rfl rfl
 ·have e1:goesL (o.irs.getD i default) i=[(o.irs.getD i default).n,(i:Int)+1]:=by unfold goesL;rw [if_neg (by omega),if_neg (by omega),if_pos (by omega),if_neg (by omega),if_pos hn]
  have e2:padL (o.irs.getD i default) i=[]:=by unfold padL;rw [if_neg (fun h=>by omega)]
  have es:sortI [(i:Int)+1,(o.irs.getD i default).n]=[(o.irs.getD i default).n,(i:Int)+1]:=by rw [sortI_two];rw [if_pos hn]
  rw [e1,e2,es]
  repeat'(first|refine vcI ?_|refine And.intro ?_ ?_|(intro hq;(try simp at hq);(try(exfalso;omega));(try(revert hq;intro))))
  refine CallS.onA (L0:=[((1,27),⟨_,oints [(o.irs.getD i default).n,(i:Int)+1]⟩)]) (M:=_) (compact2_27 ((o.irs.getD i default).n) ((i:Int)+1) _ _ _) (fun r=>rfl) ?_
  rintro x L' nv' ⟨rfl,rfl⟩
  rw [if_neg (by omega),if_neg (by omega)]
  repeat'(first|refine vcI ?_|refine And.intro ?_ ?_|(intro hq;(try simp at hq);(try(exfalso;omega));(try(revert hq;intro))))
  exact keepS_pre rfl rfl
 ·have e1:goesL (o.irs.getD i default) i=[(i:Int)+1,(o.irs.getD i default).n]:=by unfold goesL;rw [if_neg (by omega),if_neg (by omega),if_pos (by omega),if_neg (by omega),if_neg (by omega)]
  have e2:padL (o.irs.getD i default) i=[]:=by unfold padL;rw [if_neg (fun h=>by omega)]
  have es:sortI [(i:Int)+1,(o.irs.getD i default).n]=[(i:Int)+1,(o.irs.getD i default).n]:=by rw [sortI_two];rw [if_neg (by omega)]
  rw [e1,e2,es]
  repeat'(first|refine vcI ?_|refine And.intro ?_ ?_|(intro hq;(try simp at hq);(try(exfalso;omega));(try(revert hq;intro))))
  refine CallS.onA (L0:=[((1,27),⟨_,oints [(i:Int)+1,(o.irs.getD i default).n]⟩)]) (M:=_) (compact2_27 ((i:Int)+1) ((o.irs.getD i default).n) _ _ _) (fun r=>rfl) ?_
  rintro x L' nv' ⟨rfl,rfl⟩
  rw [if_neg (by omega),if_neg (by omega)]
  repeat'(first|refine vcI ?_|refine And.intro ?_ ?_|(intro hq;(try simp at hq);(try(exfalso;omega));(try(revert hq;intro))))
  exact keepS_pre rfl rfl

theorem nexts_6 (o:DO) (lv:PV) (i:Nat) (hi:i<o.irs.length) (hil:o.irs.length≤6000) (hop:(o.irs.getD i default).op=6):CallsO Tryz.prog 38 [codeP o lv,.int .i64 i] (oints (goesL (o.irs.getD i default) i++padL (o.irs.getD i default) i)) (fun id ver => .ref id ver [] 1 0 (goesL (o.irs.getD i default) i).length):=by
 have hop1:(o.irs[i]?.getD default).op=6:=hop
 have hop2:(o.irs.getD (i:Int).toNat default).op=6:=hop
 have w1:IntKind.i64.wrap ((i:Int)+1)=(i:Int)+1:=wrapI (by omega)
 refine callsO_ofS mx Tryz.call38 Tryz.func38 rfl Tryz.ntmps38 Tryz.results38 (by kernel_rfl) (by simp) fun lo=>?_
 repeat'(first|refine vcI ?_|refine And.intro ?_ ?_|(intro hq;(try simp at hq);(try(exfalso;omega));(try(revert hq;intro))))
 ·rw [hop2];decide
 ·rw [cRow];decide
 ·rw [hop2];rfl
 ·rw [List.length_map,List.length_range,cRow];decide
 rw [hop2]
 repeat'(first|refine vcI ?_|refine And.intro ?_ ?_|(intro hq;(try simp at hq);(try(exfalso;omega));(try(revert hq;intro))))
 refine Exists.intro (oints [(i:Int)+1]) (And.intro ?_ (And.intro (by first|rfl|exact shape_prs (by simp)|exact shape_ints (by simp)|exact shape_odvs (by simp)) ?_))
 ·exact one_ints _ rfl rfl (by exact NEq.int w1)
 repeat'(first|refine vcI ?_|refine And.intro ?_ ?_|(intro hq;(try simp at hq);(try(exfalso;omega));(try(revert hq;intro))))
 refine Exists.intro (oints [(i:Int)+1]) (And.intro ?_ (And.intro (by first|rfl|exact shape_prs (by simp)|exact shape_ints (by simp)|exact shape_odvs (by simp)) ?_))
 ·exact one_ints _ rfl rfl (.refl _)
 repeat'(first|refine vcI ?_|refine And.intro ?_ ?_|(intro hq;(try simp at hq);(try(exfalso;omega));(try(revert hq;intro))))
 refine Exists.intro (oints [(o.irs.getD i default).n]) (And.intro ?_ (And.intro (by first|rfl|exact shape_prs (by simp)|exact shape_ints (by simp)|exact shape_odvs (by simp)) ?_))
 ·exact one_ints _ rfl rfl (.refl _)
 repeat'(first|refine vcI ?_|refine And.intro ?_ ?_|(intro hq;(try simp at hq);(try(exfalso;omega));(try(revert hq;intro))))
 refine Exists.intro (oints [(i:Int)+1,(o.irs.getD i default).n]) (And.intro ?_ (And.intro (by first|rfl|exact shape_prs (by simp)|exact shape_ints (by simp)|exact shape_odvs (by simp)) ?_))
 ·exact two_ints _ _ rfl rfl (.refl _) (.refl _)
 repeat'(first|refine vcI ?_|refine And.intro ?_ ?_|(intro hq;(try simp at hq);(try(exfalso;omega));(try(revert hq;intro))))
 refine CallS.onA (L0:=[((1,27),⟨_,oints [(i:Int)+1,(o.irs.getD i default).n]⟩)]) (M:=_) (sort_at rfl (sort_spec [(i:Int)+1,(o.irs.getD i default).n] (by simp) (1,27) _ _ _)) (fun r=>rfl) ?_
 rintro x L' nv' ⟨rfl,rfl⟩
 rcases (by omega:(o.irs.getD i default).n=(i:Int)+1∨(o.irs.getD i default).n<(i:Int)+1∨(i:Int)+1<(o.irs.getD i default).n) with hn|hn|hn
 ·have e1:goesL (o.irs.getD i default) i=[(i:Int)+1]:=by unfold goesL;rw [if_neg (by omega),if_neg (by omega),if_pos (by omega),if_pos hn]
  have e2:padL (o.irs.getD i default) i=[0]:=by unfold padL;rw [if_pos ⟨by omega,hn⟩]
  have es:sortI [(i:Int)+1,(o.irs.getD i default).n]=[(i:Int)+1,(i:Int)+1]:=by rw [sortI_two];rw [hn,if_neg (by omega)]
  rw [e1,e2,es]
  repeat'(first|refine vcI ?_|refine And.intro ?_ ?_|(intro hq;(try simp at hq);(try(exfalso;omega));(try(revert hq;intro))))
  refine CallS.onA (L0:=[((1,27),⟨_,oints [(i:Int)+1,(i:Int)+1]⟩)]) (M:=_) (compact2_27 ((i:Int)+1) ((i:Int)+1) _ _ _) (fun r=>rfl) ?_
  rintro x L' nv' ⟨rfl,rfl⟩
  rw [if_pos rfl,if_pos rfl]
  repeat'(first|refine vcI ?_|refine And.intro ?_ ?_|(intro hq;(try simp at hq);(try(exfalso;omega));(try(revert hq;intro))))
  exact keepS_pre rfl rfl
 ·have e1:goesL (o.irs.getD i default) i=[(o.irs.getD i default).n,(i:Int)+1]:=by unfold goesL;rw [if_neg (by omega),if_neg (by omega),if_pos (by omega),if_neg (by omega),if_pos hn]
  have e2:padL (o.irs.getD i default) i=[]:=by unfold padL;rw [if_neg (fun h=>by omega)]
  have es:sortI [(i:Int)+1,(o.irs.getD i default).n]=[(o.irs.getD i default).n,(i:Int)+1]:=by rw [sortI_two];rw [if_pos hn]
  rw [e1,e2,es]
  repeat'(first|refine vcI ?_|refine And.intro ?_ ?_|(intro hq;(try simp at hq);(try(exfalso;omega));(try(revert hq;intro))))
  refine CallS.onA (L0:=[((1,27),⟨_,oints [(o.irs.getD i default).n,(i:Int)+1]⟩)]) (M:=_) (compact2_27 ((o.irs.getD i default).n) ((i:Int)+1) _ _ _) (fun r=>rfl) ?_
  rintro x L' nv' ⟨rfl,rfl⟩
  rw [if_neg (by omega),if_neg (by omega)]
  repeat'(first|refine vcI ?_|refine And.intro ?_ ?_|(intro hq;(try simp at hq);(try(exfalso;omega));(try(revert hq;intro))))
  exact keepS_pre rfl rfl
 ·have e1:goesL (o.irs.getD i default) i=[(i:Int)+1,(o.irs.getD i default).n]:=by unfold goesL;rw [if_neg (by omega),if_neg (by omega),if_pos (by omega),if_neg (by omega),if_neg (by omega)]
  have e2:padL (o.irs.getD i default) i=[]:=by unfold padL;rw [if_neg (fun h=>by omega)]
  have es:sortI [(i:Int)+1,(o.irs.getD i default).n]=[(i:Int)+1,(o.irs.getD i default).n]:=by rw [sortI_two];rw [if_neg (by omega)]
  rw [e1,e2,es]
  repeat'(first|refine vcI ?_|refine And.intro ?_ ?_|(intro hq;(try simp at hq);(try(exfalso;omega));(try(revert hq;intro))))
  refine CallS.onA (L0:=[((1,27),⟨_,oints [(i:Int)+1,(o.irs.getD i default).n]⟩)]) (M:=_) (compact2_27 ((i:Int)+1) ((o.irs.getD i default).n) _ _ _) (fun r=>rfl) ?_
  rintro x L' nv' ⟨rfl,rfl⟩
  rw [if_neg (by omega),if_neg (by omega)]
  repeat'(first|refine vcI ?_|refine And.intro ?_ ?_|(intro hq;(try simp at hq);(try(exfalso;omega));(try(revert hq;intro))))
  exact keepS_pre rfl rfl

theorem nexts_9 (o:DO) (lv:PV) (i:Nat) (hi:i<o.irs.length) (hil:o.irs.length≤6000) (hop:(o.irs.getD i default).op=9):CallsO Tryz.prog 38 [codeP o lv,.int .i64 i] (oints (goesL (o.irs.getD i default) i++padL (o.irs.getD i default) i)) (fun id ver => .ref id ver [] 1 0 (goesL (o.irs.getD i default) i).length):=by
 have hop1:(o.irs[i]?.getD default).op=9:=hop
 have hop2:(o.irs.getD (i:Int).toNat default).op=9:=hop
 have w1:IntKind.i64.wrap ((i:Int)+1)=(i:Int)+1:=wrapI (by omega)
 have e1:goesL (o.irs.getD i default) i=[(o.irs.getD i default).n]:=by simp only [goesL,hop];simp
 have e2:padL (o.irs.getD i default) i=[]:=by simp only [padL,hop];simp
 rw [e1,e2]
 refine callsO_ofS mx Tryz.call38 Tryz.func38 rfl Tryz.ntmps38 Tryz.results38 (by kernel_rfl) (by simp) fun lo=>?_
 repeat'(first|refine vcI ?_|refine And.intro ?_ ?_|(intro hq;(try simp at hq);(try(exfalso;omega));(try(revert hq;intro))))
 ·rw [hop2];decide
 ·rw [cRow];decide
 ·rw [hop2];rfl
 ·rw [List.length_map,List.length_range,cRow];decide
 rw [hop2]
 repeat'(first|refine vcI ?_|refine And.intro ?_ ?_|(intro hq;(try simp at hq);(try(exfalso;omega));(try(revert hq;intro))))
 refine Exists.intro (oints [(o.irs.getD i default).n]) (And.intro ?_ (And.intro (by first|rfl|exact shape_prs (by simp)|exact shape_ints (by simp)|exact shape_odvs (by simp)) ?_))
 ·exact one_ints _ rfl rfl (.refl _)
 repeat'(first|refine vcI ?_|refine And.intro ?_ ?_|(intro hq;(try simp at hq);(try(exfalso;omega));(try(revert hq;intro))))
 refine Exists.intro (oints [(o.irs.getD i default).n]) (And.intro ?_ (And.intro (by first|rfl|exact shape_prs (by simp)|exact shape_ints (by simp)|exact shape_odvs (by simp)) ?_))
 ·exact one_ints _ rfl rfl (.refl _)
 repeat'(first|refine vcI ?_|refine And.intro ?_ ?_|(intro hq;(try simp at hq);(try(exfalso;omega));(try(revert hq;intro))))
 refine CallS.onA (L0:=[((1,41),⟨_,oints [(o.irs.getD i default).n]⟩)]) (M:=_) (sort_at rfl (sort_spec [(o.irs.getD i default).n] (by simp) (1,41) _ _ _)) (fun r=>rfl) ?_
 rintro x L' nv' ⟨rfl,rfl⟩
 rw [sortI_one]
 repeat'(first|refine vcI ?_|refine And.intro ?_ ?_|(intro hq;(try simp at hq);(try(exfalso;omega));(try(revert hq;intro))))
 refine CallS.onA (L0:=[((1,41),⟨_,oints [(o.irs.getD i default).n]⟩)]) (M:=_) (compact1_41 (o.irs.getD i default).n _ _ _) (fun r=>rfl) ?_
 rintro x L' nv' ⟨rfl,rfl⟩
 repeat'(first|refine vcI ?_|refine And.intro ?_ ?_|(intro hq;(try simp at hq);(try(exfalso;omega));(try(revert hq;intro))))
 exact keepS_pre rfl rfl

theorem nexts_10 (o:DO) (lv:PV) (i:Nat) (hi:i<o.irs.length) (hil:o.irs.length≤6000) (hop:(o.irs.getD i default).op=10):CallsO Tryz.prog 38 [codeP o lv,.int .i64 i] (oints (goesL (o.irs.getD i default) i++padL (o.irs.getD i default) i)) (fun id ver => .ref id ver [] 1 0 (goesL (o.irs.getD i default) i).length):=by
 have hop1:(o.irs[i]?.getD default).op=10:=hop
 have hop2:(o.irs.getD (i:Int).toNat default).op=10:=hop
 have w1:IntKind.i64.wrap ((i:Int)+1)=(i:Int)+1:=wrapI (by omega)
 have e1:goesL (o.irs.getD i default) i=[]:=by simp only [goesL,hop];simp
 have e2:padL (o.irs.getD i default) i=[]:=by simp only [padL,hop];simp
 rw [e1,e2]
 refine callsO_ofS mx Tryz.call38 Tryz.func38 rfl Tryz.ntmps38 Tryz.results38 (by kernel_rfl) (by simp) fun lo=>?_
 repeat'(first|refine vcI ?_|refine And.intro ?_ ?_|(intro hq;(try simp at hq);(try(exfalso;omega));(try(revert hq;intro))))
 ·rw [hop2];decide
 ·rw [cRow];decide
 ·rw [hop2];rfl
 ·rw [List.length_map,List.length_range,cRow];decide
 rw [hop2]
 repeat'(first|refine vcI ?_|refine And.intro ?_ ?_|(intro hq;(try simp at hq);(try(exfalso;omega));(try(revert hq;intro))))
 refine CallS.frozen (.tup []) sortNil_spec (plainAll rfl) ?_
 repeat'(first|refine vcI ?_|refine And.intro ?_ ?_|(intro hq;(try simp at hq);(try(exfalso;omega));(try(revert hq;intro))))
 refine CallS.frozen .nils compactNil_spec (plainAll rfl) ?_
 repeat'(first|refine vcI ?_|refine And.intro ?_ ?_|(intro hq;(try simp at hq);(try(exfalso;omega));(try(revert hq;intro))))
 exact keepS_nil

theorem nexts_11 (o:DO) (lv:PV) (i:Nat) (hi:i<o.irs.length) (hil:o.irs.length≤6000) (hop:(o.irs.getD i default).op=11):CallsO Tryz.prog 38 [codeP o lv,.int .i64 i] (oints (goesL (o.irs.getD i default) i++padL (o.irs.getD i default) i)) (fun id ver => .ref id ver [] 1 0 (goesL (o.irs.getD i default) i).length):=by
 have hop1:(o.irs[i]?.getD default).op=11:=hop
 have hop2:(o.irs.getD (i:Int).toNat default).op=11:=hop
 have w1:IntKind.i64.wrap ((i:Int)+1)=(i:Int)+1:=wrapI (by omega)
 have e1:goesL (o.irs.getD i default) i=[]:=by simp only [goesL,hop];simp
 have e2:padL (o.irs.getD i default) i=[]:=by simp only [padL,hop];simp
 rw [e1,e2]
 refine callsO_ofS mx Tryz.call38 Tryz.func38 rfl Tryz.ntmps38 Tryz.results38 (by kernel_rfl) (by simp) fun lo=>?_
 repeat'(first|refine vcI ?_|refine And.intro ?_ ?_|(intro hq;(try simp at hq);(try(exfalso;omega));(try(revert hq;intro))))
 ·rw [hop2];decide
 ·rw [cRow];decide
 ·rw [hop2];rfl
 ·rw [List.length_map,List.length_range,cRow];decide
 rw [hop2]
 repeat'(first|refine vcI ?_|refine And.intro ?_ ?_|(intro hq;(try simp at hq);(try(exfalso;omega));(try(revert hq;intro))))
 refine CallS.frozen (.tup []) sortNil_spec (plainAll rfl) ?_
 repeat'(first|refine vcI ?_|refine And.intro ?_ ?_|(intro hq;(try simp at hq);(try(exfalso;omega));(try(revert hq;intro))))
 refine CallS.frozen .nils compactNil_spec (plainAll rfl) ?_
 repeat'(first|refine vcI ?_|refine And.intro ?_ ?_|(intro hq;(try simp at hq);(try(exfalso;omega));(try(revert hq;intro))))
 exact keepS_nil

theorem nexts_spec (o:DO) (lv:PV) (i:Nat) (hi:i<o.irs.length) (hil:o.irs.length≤6000) (hop:1≤(o.irs.getD i default).op∧(o.irs.getD i default).op≤16):CallsO Tryz.prog 38 [codeP o lv,.int .i64 i] (oints (goesL (o.irs.getD i default) i++padL (o.irs.getD i default) i)) (fun id ver => .ref id ver [] 1 0 (goesL (o.irs.getD i default) i).length):=by
 by_cases h3:(o.irs.getD i default).op=3
 ·exact nexts_3 o lv i hi hil h3
 by_cases h6:(o.irs.getD i default).op=6
 ·exact nexts_6 o lv i hi hil h6
 by_cases h9:(o.irs.getD i default).op=9
 ·exact nexts_9 o lv i hi hil h9
 by_cases h10:(o.irs.getD i default).op=10
 ·exact nexts_10 o lv i hi hil h10
 by_cases h11:(o.irs.getD i default).op=11
 ·exact nexts_11 o lv i hi hil h11
 exact nexts_f o lv i hi hil hop ⟨h3,h6,h9,h10,h11⟩
end Go.Ab
namespace Go.Ab
open Go.Proofs
set_option maxRecDepth 100000
set_option maxHeartbeats 1000000

def two2 (a b:List Int):PV := .frz 1 2 fun i _=>match i with|0=>ints a|_=>ints b
theorem Grow_spec (n:Nat) (h0:0<n) (hn:n≤1048576):CallsO Tryz.prog 137 [.nils,.int .i64 n] (oints (List.replicate n 0)) (fun id ver => .ref id ver [] 1 0 0):=by
 have w0:IntKind.i64.wrap (0 - 0)=0:=rfl
 have w1:IntKind.i64.wrap ((n:Int) - IntKind.i64.wrap (0 - 0))=n:=by rw [w0];exact wrapI (by omega)
 have w2:IntKind.i64.wrap ((n:Int) - IntKind.i64.wrap 0)=n:=w1
 have hlen:(List.replicate n (0:Int)).length=n:=List.length_replicate ..
 refine callsO_ofS mx Tryz.call137 Tryz.func137 rfl Tryz.ntmps137 Tryz.results137 (by kernel_rfl) (by simp) fun lo=>?_
 repeat'(first|refine vcI ?_|refine And.intro ?_ ?_|(intro hq;(try simp at hq);(try(exfalso;omega));(try(revert hq;intro))))
 rw [w1]
 refine Exists.intro (oints (List.replicate n 0)) (And.intro ?_ (And.intro (shape_ints (by rw [hlen];rfl)) ?_))
 ·refine NEq.owns rfl (by rw [hlen];rfl) fun i o hi ho=>?_
  obtain rfl:o=0:=by omega
  rw [hlen] at hi
  have:(List.replicate n (0:Int)).getD i 0=0:=by simp [hi]
  rw [this]
  exact .refl _
 repeat'(first|refine vcI ?_|refine And.intro ?_ ?_|(intro hq;(try simp at hq);(try(exfalso;omega));(try(revert hq;intro))))
 exact keepS_pre rfl rfl
theorem Grow0_spec:CallsF Tryz.prog 137 [.nils,.int .i64 0] .nils:=by
 refine callsF_ofS mx Tryz.call137 Tryz.func137 rfl Tryz.ntmps137 Tryz.results137 (by kernel_rfl) (by simp) fun lo=>?_
 repeat'(first|refine vcI ?_|refine And.intro ?_ ?_|(intro hq;(try simp at hq);(try(exfalso;omega));(try(revert hq;intro))))
 exact .refl _
theorem Concat_spec (a b:List Int) (ha:a.length≤40000) (hb:b.length≤40000) (h0:0<a.length+b.length):CallsO Tryz.prog 125 [two2 a b] (oints (a++b)) (fun id ver => .ref id ver [] 1 0 (a++b).length):=by
 refine callsO_ofS mx Tryz.call125 Tryz.func125 rfl Tryz.ntmps125 Tryz.results125 (by kernel_rfl) (by simp) fun lo=>?_
 repeat'(first|refine vcI ?_|refine And.intro ?_ ?_|(intro hq;(try simp at hq);(try(exfalso;omega));(try(revert hq;intro))))
 have wa:IntKind.i64.wrap (a.length:Int)=a.length:=wrapI (by omega)
 have wb:IntKind.i64.wrap ((a.length:Int)+b.length)=(a.length:Int)+b.length:=wrapI (by omega)
 refine loopS2 mx (by decide) (by kernel_rfl) (fun (k z:Nat)=>k≤2∧z=(if k=0 then 0 else if k=1 then a.length else a.length+b.length)) (fun k z=>[(11,.int .i64 k),(10,.int .i64 2),(9,two2 a b),(3,.int .i64 z),(0,two2 a b)]) (fun _ _=>[]) (fun k _=>2 - k) 0 0 ⟨by simp,rfl⟩ ⟨by ((repeat' apply And.intro) <;> (first|exact True.intro|exact NEq.refl _|(refine NEq.int ?_;first|exact rfl|omega|(rw [wrapI (by omega)];first|exact rfl|omega)))),trivial,.nil⟩ ?_
 rintro k z nv ⟨hk,hz⟩
 rcases (by omega:k=0∨k=1∨k=2) with rfl|rfl|rfl
 ·obtain rfl:z=0:=hz
  repeat'(first|refine vcI ?_|refine And.intro ?_ ?_|(intro hq;(try simp at hq);(try(exfalso;omega));(try(revert hq;intro))))
  exact Exists.intro (1,a.length) ⟨⟨by omega,rfl⟩,(by first|omega|(dsimp only;omega)),⟨by ((repeat' apply And.intro) <;> (first|exact True.intro|exact NEq.refl _|(refine NEq.int ?_;first|exact rfl|omega|(rw [wrapI (by omega)];first|exact rfl|omega)))),trivial,.nil⟩⟩
 ·obtain rfl:z=a.length:=hz
  repeat'(first|refine vcI ?_|refine And.intro ?_ ?_|(intro hq;(try simp at hq);(try(exfalso;omega));(try(revert hq;intro))))
  exact Exists.intro (2,a.length+b.length) ⟨⟨by omega,rfl⟩,(by first|omega|(dsimp only;omega)),⟨by ((repeat' apply And.intro) <;> (first|exact True.intro|exact NEq.refl _|(refine NEq.int ?_;first|exact rfl|omega|(rw [wrapI (by omega)];first|exact rfl|omega)))),trivial,.nil⟩⟩
 ·obtain rfl:z=a.length+b.length:=hz
  repeat'(first|refine vcI ?_|refine And.intro ?_ ?_|(intro hq;(try simp at hq);(try(exfalso;omega));(try(revert hq;intro))))
  refine CallS.own (oints (List.replicate (a.length+b.length) 0)) (fun id ver => .ref id ver [] 1 0 0) (Grow_spec (a.length+b.length) h0 (by omega)) (plainAll rfl) ?_
  repeat'(first|refine vcI ?_|refine And.intro ?_ ?_|(intro hq;(try simp at hq);(try(exfalso;omega));(try(revert hq;intro))))
  refine loopS3 mx (by decide) (by kernel_rfl) (fun (k z v:Nat)=>k≤2∧z=(if k=0 then 0 else if k=1 then a.length else a.length+b.length)) (fun k z v=>[(27,.int .i64 k),(26,.int .i64 2),(25,two2 a b),(6,.ref (1,24) v [] 1 0 z)]) (fun k z v=>[((1,24),⟨v,oints ((a++b).take z++List.replicate (a.length+b.length - z) 0)⟩)]) (fun k z v=>2 - k) 0 0 _ ⟨by simp,rfl⟩ ⟨by ((repeat' apply And.intro) <;> (first|exact True.intro|exact NEq.refl _|(refine NEq.int ?_;first|exact rfl|omega|(rw [wrapI (by omega)];first|exact rfl|omega)))),⟨⟨rfl,?_⟩,trivial⟩,.nil⟩ ?_
  ·exact .refl _
  rintro k z v nv ⟨hk,hz⟩
  rcases (by omega:k=0∨k=1∨k=2) with rfl|rfl|rfl
  ·obtain rfl:z=0:=hz
   repeat'(first|refine vcI ?_|refine And.intro ?_ ?_|(intro hq;(try simp at hq);(try(exfalso;omega));(try(revert hq;intro))))
   ·rfl
   ·rename_i h
    subst h
    exact Exists.intro (1,0,v) ⟨⟨by omega,rfl⟩,(by first|omega|(dsimp only;omega)),⟨⟨(by refine NEq.int ?_;first|exact rfl|omega|(rw [wrapI (by omega)];first|exact rfl|omega)),.refl _,.refl _,.refl _,trivial⟩,⟨⟨rfl,.refl _⟩,trivial⟩,.nil⟩⟩
   ·simp
   ·rfl
   refine Exists.intro (oints ((a++b).take a.length++List.replicate (a.length+b.length - a.length) 0)) (And.intro ?_ (And.intro (shape_ints (by simp)) ?_))
   ·refine NEq.owns rfl (by simp) fun i o hi ho=>?_
    obtain rfl:o=0:=by omega
    simp only [List.take_zero,List.nil_append,List.take_left] at hi ⊢
    rw [getD_app]
    by_cases c:i<a.length
    ·rw [if_pos c,if_pos ⟨Nat.zero_le _,by omega⟩];exact .refl _
    ·rw [if_neg c,if_neg (by omega)]
     have hi':i<a.length+b.length:=by simpa using hi
     have e1:(List.replicate (a.length+b.length - 0) (0:Int)).getD i 0=0:=by simp [hi']
     have e2:(List.replicate (a.length+b.length - a.length) (0:Int)).getD (i - a.length) 0=0:=by
      rw [List.getD_eq_getElem?_getD,List.getElem?_replicate]
      split <;> rfl
     rw [e1,e2];exact .refl _
   repeat'(first|refine vcI ?_|refine And.intro ?_ ?_|(intro hq;(try simp at hq);(try(exfalso;omega));(try(revert hq;intro))))
   exact Exists.intro (1,a.length,v) ⟨⟨by omega,rfl⟩,(by first|omega|(dsimp only;omega)),⟨⟨(by refine NEq.int ?_;first|exact rfl|omega|(rw [wrapI (by omega)];first|exact rfl|omega)),.refl _,.refl _,.refs rfl rfl (by simp),trivial⟩,⟨⟨rfl,.refl _⟩,trivial⟩,.nil⟩⟩
  ·obtain rfl:z=a.length:=hz
   by_cases hb0:b=[]
   ·subst hb0
    repeat'(first|refine vcI ?_|refine And.intro ?_ ?_|(intro hq;(try simp at hq);(try(exfalso;omega));(try(revert hq;intro))))
    ·simp
    ·rw [bInt];simp;omega
    ·simp;omega
    refine Exists.intro (oints ((a++[]).take (a.length+([]:List Int).length)++List.replicate (a.length+([]:List Int).length - (a.length+([]:List Int).length)) 0)) (And.intro ?_ (And.intro (shape_ints (by simp)) ?_))
    ·refine NEq.owns rfl (by simp) fun i o hi ho=>?_
     obtain rfl:o=0:=by omega
     have hi':i<a.length:=by simpa using hi
     dsimp only
     rw [if_pos (by simpa using hi')]
     refine NEq.int ?_
     simp
    repeat'(first|refine vcI ?_|refine And.intro ?_ ?_|(intro hq;(try simp at hq);(try(exfalso;omega));(try(revert hq;intro))))
    exact Exists.intro (2,a.length+([]:List Int).length,_) ⟨⟨by omega,rfl⟩,(by first|omega|(dsimp only;omega)),⟨⟨(by refine NEq.int ?_;first|exact rfl|omega|(rw [wrapI (by omega)];first|exact rfl|omega)),.refl _,.refl _,.refs rfl rfl (by simp),trivial⟩,⟨⟨rfl,.refl _⟩,trivial⟩,.nil⟩⟩
   ·repeat'(first|refine vcI ?_|refine And.intro ?_ ?_|(intro hq;(try simp at hq);(try(exfalso;omega));(try(revert hq;intro))))
    all_goals first|(exfalso;exact hb0 (by assumption))|skip
    ·rfl
    ·simp
    ·rfl
    refine Exists.intro (oints ((a++b).take (a.length+b.length)++List.replicate (a.length+b.length - (a.length+b.length)) 0)) (And.intro ?_ (And.intro (shape_ints (by simp)) ?_))
    ·refine NEq.owns rfl (by simp) fun i o hi ho=>?_
     obtain rfl:o=0:=by omega
     have hi':i<a.length+b.length:=by simpa using hi
     have et:(a++b).take (a.length+b.length)=a++b:=List.take_of_length_le (by simp)
     rw [Nat.sub_self,List.replicate_zero,List.append_nil,et,getD_app,List.take_left]
     dsimp only
     rw [getD_app]
     by_cases c:i<a.length
     ·rw [if_neg (by omega),if_pos c,if_pos c];exact .refl _
     ·rw [if_pos ⟨by omega,by omega⟩,if_neg c];exact .refl _
    repeat'(first|refine vcI ?_|refine And.intro ?_ ?_|(intro hq;(try simp at hq);(try(exfalso;omega));(try(revert hq;intro))))
    exact Exists.intro (2,a.length+b.length,v) ⟨⟨by omega,rfl⟩,(by first|omega|(dsimp only;omega)),⟨⟨(by refine NEq.int ?_;first|exact rfl|omega|(rw [wrapI (by omega)];first|exact rfl|omega)),.refl _,.refl _,.refs rfl rfl rfl,trivial⟩,⟨⟨rfl,.refl _⟩,trivial⟩,.nil⟩⟩
  ·obtain rfl:z=a.length+b.length:=hz
   have et:(a++b).take (a.length+b.length)=a++b:=List.take_of_length_le (by simp)
   rw [Nat.sub_self,List.replicate_zero,List.append_nil,et]
   repeat'(first|refine vcI ?_|refine And.intro ?_ ?_|(intro hq;(try simp at hq);(try(exfalso;omega));(try(revert hq;intro))))
   exact keepS_pre rfl (by simp)
theorem Concat0_spec:CallsO Tryz.prog 125 [two2 [] []] (oints []) (fun id ver => .ref id ver [] 1 0 0):=by
 refine callsO_ofS mx Tryz.call125 Tryz.func125 rfl Tryz.ntmps125 Tryz.results125 (by kernel_rfl) (by simp) fun lo=>?_
 repeat'(first|refine vcI ?_|refine And.intro ?_ ?_|(intro hq;(try simp at hq);(try(exfalso;omega));(try(revert hq;intro))))
 refine loopS mx (by decide) (by kernel_rfl) (fun (k:Nat)=>k≤2) (fun k=>[(11,.int .i64 k),(10,.int .i64 2),(9,two2 [] []),(3,.int .i64 0),(0,two2 [] [])]) (fun _=>[]) (fun k=>2 - k) 0 (by simp) ⟨by ((repeat' apply And.intro) <;> (first|exact True.intro|exact NEq.refl _|(refine NEq.int ?_;first|exact rfl|omega|(rw [wrapI (by omega)];first|exact rfl|omega)))),trivial,.nil⟩ ?_
 intro k nv hk
 rcases (by omega:k=0∨k=1∨k=2) with rfl|rfl|rfl
 ·repeat'(first|refine vcI ?_|refine And.intro ?_ ?_|(intro hq;(try simp at hq);(try(exfalso;omega));(try(revert hq;intro))))
  exact Exists.intro 1 ⟨by omega,(by first|omega|(dsimp only;omega)),⟨by ((repeat' apply And.intro) <;> (first|exact True.intro|exact NEq.refl _|(refine NEq.int ?_;first|exact rfl|omega|(rw [wrapI (by omega)];first|exact rfl|omega)))),trivial,.nil⟩⟩
 ·repeat'(first|refine vcI ?_|refine And.intro ?_ ?_|(intro hq;(try simp at hq);(try(exfalso;omega));(try(revert hq;intro))))
  exact Exists.intro 2 ⟨by omega,(by first|omega|(dsimp only;omega)),⟨by ((repeat' apply And.intro) <;> (first|exact True.intro|exact NEq.refl _|(refine NEq.int ?_;first|exact rfl|omega|(rw [wrapI (by omega)];first|exact rfl|omega)))),trivial,.nil⟩⟩
 ·repeat'(first|refine vcI ?_|refine And.intro ?_ ?_|(intro hq;(try simp at hq);(try(exfalso;omega));(try(revert hq;intro))))
  refine CallS.frozen .nils Grow0_spec (plainAll rfl) ?_
  repeat'(first|refine vcI ?_|refine And.intro ?_ ?_|(intro hq;(try simp at hq);(try(exfalso;omega));(try(revert hq;intro))))
  refine ghostS0 6 (1,33) (by decide) 1 (fun _ _ => .undef) rfl rfl fun v=>?_
  refine loopS2 mx (by decide) (by kernel_rfl) (fun (k v:Nat)=>k≤2) (fun k v=>[(27,.int .i64 k),(26,.int .i64 2),(25,two2 [] []),(6,.ref (1,33) v [] 1 0 0)]) (fun k v=>[((1,33),⟨v,oints []⟩)]) (fun k v=>2 - k) 0 v (by simp) ⟨by ((repeat' apply And.intro) <;> (first|exact True.intro|exact NEq.refl _|(refine NEq.int ?_;first|exact rfl|omega|(rw [wrapI (by omega)];first|exact rfl|omega)))),⟨⟨rfl,.owns rfl rfl fun i o hi=>absurd hi (by simp)⟩,trivial⟩,.nil⟩ ?_
  intro k v nv hk
  rcases (by omega:k=0∨k=1∨k=2) with rfl|rfl|rfl
  ·repeat'(first|refine vcI ?_|refine And.intro ?_ ?_|(intro hq;(try simp at hq);(try(exfalso;omega));(try(revert hq;intro))))
   refine Exists.intro (oints []) (And.intro ?_ (And.intro rfl ?_))
   ·exact NEq.owns rfl rfl fun i o hi=>absurd hi (by simp)
   repeat'(first|refine vcI ?_|refine And.intro ?_ ?_|(intro hq;(try simp at hq);(try(exfalso;omega));(try(revert hq;intro))))
   exact Exists.intro (1,_) ⟨by omega,(by first|omega|(dsimp only;omega)),⟨⟨(by refine NEq.int ?_;first|exact rfl|omega|(rw [wrapI (by omega)];first|exact rfl|omega)),.refl _,.refl _,.refs rfl rfl rfl,trivial⟩,⟨⟨rfl,.refl _⟩,trivial⟩,.nil⟩⟩
  ·repeat'(first|refine vcI ?_|refine And.intro ?_ ?_|(intro hq;(try simp at hq);(try(exfalso;omega));(try(revert hq;intro))))
   refine Exists.intro (oints []) (And.intro ?_ (And.intro rfl ?_))
   ·exact NEq.owns rfl rfl fun i o hi=>absurd hi (by simp)
   repeat'(first|refine vcI ?_|refine And.intro ?_ ?_|(intro hq;(try simp at hq);(try(exfalso;omega));(try(revert hq;intro))))
   exact Exists.intro (2,_) ⟨by omega,(by first|omega|(dsimp only;omega)),⟨⟨(by refine NEq.int ?_;first|exact rfl|omega|(rw [wrapI (by omega)];first|exact rfl|omega)),.refl _,.refl _,.refs rfl rfl rfl,trivial⟩,⟨⟨rfl,.refl _⟩,trivial⟩,.nil⟩⟩
  ·repeat'(first|refine vcI ?_|refine And.intro ?_ ?_|(intro hq;(try simp at hq);(try(exfalso;omega));(try(revert hq;intro))))
   exact keepS_pre rfl rfl
theorem ConcatAll_spec (a b:List Int) (ha:a.length≤40000) (hb:b.length≤40000):CallsO Tryz.prog 125 [two2 a b] (oints (a++b)) (fun id ver => .ref id ver [] 1 0 (a++b).length):=by
 by_cases h:0<a.length+b.length
 ·exact Concat_spec a b ha hb h
 ·have h1:a=[]:=List.eq_nil_of_length_eq_zero (by omega)
  have h2:b=[]:=List.eq_nil_of_length_eq_zero (by omega)
  subst h1 h2
  exact Concat0_spec
end Go.Ab
namespace Go.Ab
open Go.Proofs
set_option maxRecDepth 100000
set_option maxHeartbeats 1000000

theorem setPut5_spec (ws:Nat→Nat) (hw:∀ o,ws o<18446744073709551616) (r:Nat) (hr:r<256) (v nv:Nat) (S:Hp) (hS:Above 2 S) :
  CallsA Tryz.prog 42 [.ptr (1,5) v [] 0 0,.int .i64 r] ([((1,5),⟨v,.obox 4 (setC ws)⟩)]++S) nv
   fun x hp' nv'=>∃ L',hp'=L'++S∧(x = .tup []∧L'=[((1,5),⟨v,.obox 4 (setC (setW ws r))⟩)]):=by
 have e1:=wrap64_div (r:=r) (by omega)
 have e2:=tmod64 r
 refine callsA_ofS (lv:=2) (by decide) mx Tryz.call42 Tryz.func42 rfl Tryz.ntmps42 Tryz.results42 (by kernel_rfl) (by simp) fun lo=>?_
 repeat'(first|refine vcI ?_|refine And.intro ?_ ?_|(intro hq;(try simp at hq);(try(exfalso;omega));(try(revert hq;intro))))
 ·rw [cW,e1];simp;omega
 ·rw [cW];decide
 ·show 0+(IntKind.i64.wrap ((r:Int).tdiv 64)).toNat*Tryz.prog.cellsOf 66+1≤4
  rw [cW,e1];simp;omega
 refine Exists.intro (PV.tup []) (Exists.intro _ (And.intro ⟨rfl,rfl⟩ (And.intro (.refl _) (And.intro ⟨⟨rfl,.obox fun o ho=>?_⟩,trivial⟩ (.names rfl)))))
 show NEq (if 0+(IntKind.i64.wrap ((r:Int).tdiv 64)).toNat*Tryz.prog.cellsOf 66≤o∧o<0+(IntKind.i64.wrap ((r:Int).tdiv 64)).toNat*Tryz.prog.cellsOf 66+1 then List.getD [PV.int .u64 (IntKind.u64.wrap ((BitVec.ofInt IntKind.u64.bits (ws (0+(IntKind.i64.wrap ((r:Int).tdiv 64)).toNat*Tryz.prog.cellsOf 66):Int) ||| BitVec.ofInt IntKind.u64.bits (IntKind.u64.wrap (1*2 ^ min ((r:Int).tmod 64).toNat IntKind.u64.bits))).toNat:Int))] (o - (0+(IntKind.i64.wrap ((r:Int).tdiv 64)).toNat*Tryz.prog.cellsOf 66)) .undef else .int .u64 (ws o)) (.int .u64 (setW ws r o))
 rw [cW,e1,e2]
 simp only [Int.toNat_natCast,Nat.zero_add,Nat.mul_one]
 rw [or_at (hw _) (Nat.mod_lt _ (by decide))]
 by_cases c:o=r / 64
 ·subst c
  rw [if_pos (by omega),Nat.sub_self]
  simp only [setW,if_true]
  exact .refl _
 ·rw [if_neg (by omega)]
  simp only [setW,if_neg c]
  exact .refl _
end Go.Ab
namespace Go.Ab
open Go.Proofs
set_option maxRecDepth 100000
set_option maxHeartbeats 4000000

theorem CallS.ownInts {P:Program} {S:Hp} {id:RId} {ver:Nat} {f:FuncId} {args:List PV} {L:Hp} {nv:Nat} {K:PV→Hp→Nat→Prop} (args':List PV) (l:List Int) (h:CallsO P f args' (oints l) (fun id ver => .ref id ver [] 1 0 l.length)) (ha:LeL (args.map (view 9 (L++S))) args')
  (k:delS L id fun L=>fz (.ref id ver [] 1 0 l.length) fun x=>K x ((id,⟨ver,oints l⟩)::L) nv):CallS P S id ver f args L nv K :=
 .ownPlain args' 1 l.length (fun i _ => .int .i64 (l.getD i 0)) (fun id ver => .ref id ver [] 1 0 l.length) h ha trivial (fun i o hi=>trivial) k
theorem QS.ownInts {P:Program} {S:Hp} {id:RId} {ver:Nat} {f:FuncId} {args:List PV} {L:Hp} {K:PV→Hp→Prop} (args':List PV) (l:List Int) (h:CallsO P f args' (oints l) (fun id ver => .ref id ver [] 1 0 l.length)) (ha:LeL (args.map (view 9 (L++S))) args')
  (k:delS L id fun L=>fz (.ref id ver [] 1 0 l.length) fun x=>K x ((id,⟨ver,oints l⟩)::L)):QS P S id ver [] f args L K :=
 .ownPlain args' 1 l.length (fun i _ => .int .i64 (l.getD i 0)) (fun id ver => .ref id ver [] 1 0 l.length) rfl h ha trivial (fun i o hi=>trivial) k
theorem put_at {P:Program} {f:FuncId} {p:PV} {x:Int} {n:Nat} {L:Hp} {nv:Nat} {R:PV→Hp→Nat→Prop} (e:x=(n:Int)) (h:CallsA P f [p,.int .i64 (n:Int)] L nv R):CallsA P f [p,.int .i64 x] L nv R:=e▸h
def setOf (l:List Int):Nat→Nat:=l.foldl (fun ws r=>setW ws r.toNat) fun _=>0
theorem setW_lt {ws:Nat→Nat} (h:∀ o,ws o<18446744073709551616) (r:Nat):∀ o,setW ws r o<18446744073709551616:=fun o=>by
 unfold setW
 split
 ·have hj2:2 ^ (r % 64)<18446744073709551616:=Nat.pow_lt_pow_right (a:=2) (by decide) (show r % 64<64 from Nat.mod_lt _ (by decide))
  exact Nat.or_lt_two_pow (n:=64) (h o) hj2
 ·exact h o
theorem setOf_lt (l:List Int):∀ o,setOf l o<18446744073709551616:=by
 have key:∀ (l:List Int) (ws:Nat→Nat),(∀ o,ws o<18446744073709551616)→∀ o,l.foldl (fun ws r=>setW ws r.toNat) ws o<18446744073709551616:=by
  intro l
  induction l with
  | nil=>intro ws h;exact h
  | cons r l ih=>intro ws h;exact ih _ (setW_lt h _)
 exact key l _ fun o=>by decide
theorem setOf_take {l:List Int} {k:Nat} (hk:k<l.length):setOf (l.take (k+1))=setW (setOf (l.take k)) (l.getD k 0).toNat:=by
 unfold setOf
 rw [take_succD 0 hk,List.foldl_append];rfl
theorem own_spec (o:DO) (lv:PV) (i:Nat) (hi:i<o.irs.length) (hd:i<o.descs.length) (hf:fewN o≤6000) (hr:o.regs≤250) (hs:∀ l∈o.descs,l.length≤1048576∧∀ f∈l,f.small) (hsh:shapedX o (o.irs.getD i default) (o.descs.getD i [])=true) :
  CallsF Tryz.prog 115 [codeP o lv,.int .i64 i] (aggW (setOf (usedL (o.irs.getD i default) (o.descs.getD i [])++usesL (o.descs.getD i [])))):=by
 have hil:o.irs.length≤6000:=by unfold fewN at hf;omega
 have hdl:o.descs.length≤6000:=by unfold fewN at hf;omega
 have ha:(o.irs.getD i default).args.length≤6000:=by
  have:=sumL_mem (f:=fun x:DI=>x.args.length) (getD_mem default hi)
  rw [List.getD_eq_getElem?_getD]
  unfold fewN at hf;omega
 have hfN:frN (o.descs.getD i [])≤6000:=by
  have:=sumL_mem (f:=frN) (getD_mem [] hd)
  rw [List.getD_eq_getElem?_getD]
  unfold fewN at hf;omega
 simp only [shapedX,Bool.and_eq_true,decide_eq_true_eq,Bool.not_eq_true'] at hsh
 obtain ⟨s1,s2,s3,s4,s5,s6,s7⟩:=hsh
 have hv:∀ r∈usedL (o.irs.getD i default) (o.descs.getD i [])++usesL (o.descs.getD i []),0≤r∧r<250:=fun r hm=>by
  have hb:∀ {l},badL o l=false→r∈l→0≤r∧r<250:=fun h1 h2=>by
   have h3:=List.any_eq_false.1 h1 r h2
   simp only [regB,Bool.not_eq_true',Bool.not_eq_false,Bool.and_eq_true,decide_eq_true_eq] at h3
   omega
  rcases List.mem_append.1 hm with h|h
  ·exact hb s5 h
  ·exact hb s7 h
 have hm:(o.irs.getD i default).op=13→0≤(o.irs.getD i default).m∧(o.irs.getD i default).m<((o.descs.getD i []).length:Int):=fun h=>by
  have h1:(!insB (o.descs.getD i []).length (o.irs.getD i default).m||((o.descs.getD i []).getD (o.irs.getD i default).m.toNat default).act == 0)=false:=by
   have h2:=s4
   unfold swB at h2
   rw [h] at h2
   exact h2
  have h3:=(Bool.or_eq_false_iff.1 h1).1
  simpa [insB] using h3
 have hfs:=hs _ (getD_mem [] hd)
 obtain ⟨u,hu⟩:∃ u,u=usedL (o.irs.getD i default) (o.descs.getD i []):=⟨_,rfl⟩
 rw [← hu] at hv ⊢
 have hlu:u.length≤6002:=by rw [hu];exact usedL_len _ _ ha
 have hls:(usesL (o.descs.getD i [])).length≤30000:=by
  rw [← symUses_eq,sortI_len];exact symKs_len _ hfN
 obtain ⟨l,hl⟩:∃ l,l=u++usesL (o.descs.getD i []):=⟨_,rfl⟩
 have hll:l.length≤40000:=by rw [hl,List.length_append];omega
 rw [← hl] at hv ⊢
 refine callsF_ofS mx Tryz.call115 Tryz.func115 rfl Tryz.ntmps115 Tryz.results115 (by kernel_rfl) (by simp) fun lo=>?_
 repeat'(first|refine vcI ?_|refine And.intro ?_ ?_|(intro hq;(try simp at hq);(try(exfalso;omega));(try(revert hq;intro))))
 ·show 0≤(o.irs.getD i default).op;omega
 ·show (o.irs.getD i default).op<_;omega
 ·rw [cRow];decide
 ·rw [cRow];show 0+12+(o.irs.getD i default).op.toNat*4+0≤81;omega
 ·show 0+12+(o.irs.getD i default).op.toNat*Tryz.prog.cellsOf 71+0+Tryz.prog.cellsOf 69≤81
  rw [cRow,show Tryz.prog.cellsOf 69=1 by kernel_rfl];omega
 ·rw [show Tryz.prog.cellsOf 69=1 by kernel_rfl];decide
 rw [mk_usesF o lv (op:=(o.irs.getD i default).op) ⟨s1,s2⟩ (by rw [cRow];show 0+12+(o.irs.getD i default).op.toNat*4+0=_;omega)]
 by_cases h10:(o.irs.getD i default).op=10
 ·have hcu:=uses_ret o lv i hi (by omega) h10
  rw [← hu] at hcu
  rw [show usesF (o.irs.getD i default).op=uRet by rw [h10];rfl]
  repeat'(first|refine vcI ?_|refine And.intro ?_ ?_|(intro hq;(try simp at hq);(try(exfalso;omega));(try(revert hq;intro))))
  refine QS.frozen (ints u) hcu (plainAll rfl) ?_
  repeat'(first|refine vcI ?_|refine And.intro ?_ ?_|(intro hq;(try simp at hq);(try(exfalso;omega));(try(revert hq;intro))))
  refine QS.frozen (ints (usesL (o.descs.getD i []))) (symUses _ hfs hfN) (plainAll rfl) ?_
  repeat'(first|refine vcI ?_|refine And.intro ?_ ?_|(intro hq;(try simp at hq);(try(exfalso;omega));(try(revert hq;intro))))
  refine QS.ownInts [two2 u (usesL (o.descs.getD i []))] l (by rw [hl];exact ConcatAll_spec u (usesL (o.descs.getD i [])) (by omega) (by omega)) ?_ ?_
  ·refine LeL.cons ?_ LeL.nil
   refine NEq.frzs rfl rfl fun j q hj hq=>?_
   obtain rfl:q=0:=by omega
   obtain rfl|rfl:j=0∨j=1:=by omega
   ·exact .refl _
   ·exact .refl _
  repeat'(first|refine vcI ?_|refine And.intro ?_ ?_|(intro hq;(try simp at hq);(try(exfalso;omega));(try(revert hq;intro))))
  refine loopS2 mx (by decide) (by kernel_rfl) (fun (k v:Nat)=>k≤l.length) (fun k v=>[(40,.int .i64 k),(39,.int .i64 l.length),(38,.ref (1,38) v [] 1 0 l.length),(5,.ptr (1,5) 1 [] 0 0),(4,.ptr (1,4) 0 [] 0 0)]) (fun k v=>[((1,38),⟨v,oints l⟩),((1,5),⟨1,.obox 4 (setC (setOf (l.take k)))⟩),((1,4),⟨0,.obox 4 fun _ => .undef⟩)]) (fun k v=>l.length - k) 0 _ (by simp) ⟨by ((repeat' apply And.intro) <;> (first|exact True.intro|exact NEq.refl _|(refine NEq.int ?_;first|exact rfl|omega|(rw [wrapI (by omega)];first|exact rfl|omega)))),?_,.nil⟩ ?_
  ·refine ⟨⟨rfl,.refl _⟩,⟨rfl,.obox fun q hq=>?_⟩,⟨rfl,.obox fun q hq=>?_⟩,trivial⟩
   ·rcases (by have:q<4:=hq;omega:q=0∨q=1∨q=2∨q=3) with rfl|rfl|rfl|rfl <;> exact .refl _
   ·refine .undef ?_
    rcases (by have:q<4:=hq;omega:q=0∨q=1∨q=2∨q=3) with rfl|rfl|rfl|rfl <;> rfl
  intro k v nv hk
  repeat'(first|refine vcI ?_|refine And.intro ?_ ?_|(intro hq;(try simp at hq);(try(exfalso;omega));(try(revert hq;intro))))
  ·rename_i hlt
   obtain ⟨r0,r1⟩:=hv _ (getD_mem 0 hlt)
   have est:=setOf_take hlt
   refine CallS.onA (L0:=[((1,5),⟨1,.obox 4 (setC (setOf (l.take k)))⟩)]) (M:=[((1,38),⟨v,oints l⟩),((1,4),⟨0,.obox 4 fun _ => .undef⟩)]) (put_at (show (l.getD (0+(k:Int).toNat) 0)=(((l[k]?.getD 0).toNat:Nat):Int) by rw [Nat.zero_add];show l[k]?.getD 0=_;omega) (setPut5_spec (setOf (l.take k)) (setOf_lt _) ((l[k]?.getD 0).toNat) (by omega) 1 _ _ (Above.chk rfl Above.nil))) (fun r=>by simp only [lkH,List.cons_append,List.nil_append];split <;> split <;> simp_all) ?_
   rintro x L' nv' ⟨rfl,rfl⟩
   repeat'(first|refine vcI ?_|refine And.intro ?_ ?_|(intro hq;(try simp at hq);(try(exfalso;omega));(try(revert hq;intro))))
   refine Exists.intro (k+1,v) ⟨by omega,(by first|omega|(dsimp only;omega)),⟨⟨(by refine NEq.int ?_;first|exact rfl|omega|(rw [wrapI (by omega)];first|exact rfl|omega)),.refl _,.refl _,.refl _,.refl _,trivial⟩,⟨⟨rfl,.refl _⟩,⟨rfl,?_⟩,⟨rfl,.refl _⟩,trivial⟩,.nil⟩⟩
   show NEq _ (.obox 4 (setC (setOf (l.take (k+1)))))
   rw [est]
   exact .refl _
  ·rename_i hlt
   obtain rfl:k=l.length:=by omega
   rw [List.take_length]
   refine NEq.aggL ?_
   ((repeat' apply And.intro) <;> (first|exact True.intro|exact NEq.refl _))
 ·obtain ⟨fn,hu1,hu2⟩:=uses_of o lv i hi (by omega) hd (by omega) hfs.1 (by omega) ⟨s1,s2⟩ h10
  rw [← hu] at hu2
  have hcu:=hu2 hm
  rw [hu1]
  repeat'(first|refine vcI ?_|refine And.intro ?_ ?_|(intro hq;(try simp at hq);(try(exfalso;omega));(try(revert hq;intro))))
  refine QS.frozen (ints u) hcu (plainAll rfl) ?_
  repeat'(first|refine vcI ?_|refine And.intro ?_ ?_|(intro hq;(try simp at hq);(try(exfalso;omega));(try(revert hq;intro))))
  refine QS.frozen (ints (usesL (o.descs.getD i []))) (symUses _ hfs hfN) (plainAll rfl) ?_
  repeat'(first|refine vcI ?_|refine And.intro ?_ ?_|(intro hq;(try simp at hq);(try(exfalso;omega));(try(revert hq;intro))))
  refine QS.ownInts [two2 u (usesL (o.descs.getD i []))] l (by rw [hl];exact ConcatAll_spec u (usesL (o.descs.getD i [])) (by omega) (by omega)) ?_ ?_
  ·refine LeL.cons ?_ LeL.nil
   refine NEq.frzs rfl rfl fun j q hj hq=>?_
   obtain rfl:q=0:=by omega
   obtain rfl|rfl:j=0∨j=1:=by omega
   ·exact .refl _
   ·exact .refl _
  repeat'(first|refine vcI ?_|refine And.intro ?_ ?_|(intro hq;(try simp at hq);(try(exfalso;omega));(try(revert hq;intro))))
  refine loopS2 mx (by decide) (by kernel_rfl) (fun (k v:Nat)=>k≤l.length) (fun k v=>[(40,.int .i64 k),(39,.int .i64 l.length),(38,.ref (1,38) v [] 1 0 l.length),(5,.ptr (1,5) 1 [] 0 0),(4,.ptr (1,4) 0 [] 0 0)]) (fun k v=>[((1,38),⟨v,oints l⟩),((1,5),⟨1,.obox 4 (setC (setOf (l.take k)))⟩),((1,4),⟨0,.obox 4 fun _ => .undef⟩)]) (fun k v=>l.length - k) 0 _ (by simp) ⟨by ((repeat' apply And.intro) <;> (first|exact True.intro|exact NEq.refl _|(refine NEq.int ?_;first|exact rfl|omega|(rw [wrapI (by omega)];first|exact rfl|omega)))),?_,.nil⟩ ?_
  ·refine ⟨⟨rfl,.refl _⟩,⟨rfl,.obox fun q hq=>?_⟩,⟨rfl,.obox fun q hq=>?_⟩,trivial⟩
   ·rcases (by have:q<4:=hq;omega:q=0∨q=1∨q=2∨q=3) with rfl|rfl|rfl|rfl <;> exact .refl _
   ·refine .undef ?_
    rcases (by have:q<4:=hq;omega:q=0∨q=1∨q=2∨q=3) with rfl|rfl|rfl|rfl <;> rfl
  intro k v nv hk
  repeat'(first|refine vcI ?_|refine And.intro ?_ ?_|(intro hq;(try simp at hq);(try(exfalso;omega));(try(revert hq;intro))))
  ·rename_i hlt
   obtain ⟨r0,r1⟩:=hv _ (getD_mem 0 hlt)
   have est:=setOf_take hlt
   refine CallS.onA (L0:=[((1,5),⟨1,.obox 4 (setC (setOf (l.take k)))⟩)]) (M:=[((1,38),⟨v,oints l⟩),((1,4),⟨0,.obox 4 fun _ => .undef⟩)]) (put_at (show (l.getD (0+(k:Int).toNat) 0)=(((l[k]?.getD 0).toNat:Nat):Int) by rw [Nat.zero_add];show l[k]?.getD 0=_;omega) (setPut5_spec (setOf (l.take k)) (setOf_lt _) ((l[k]?.getD 0).toNat) (by omega) 1 _ _ (Above.chk rfl Above.nil))) (fun r=>by simp only [lkH,List.cons_append,List.nil_append];split <;> split <;> simp_all) ?_
   rintro x L' nv' ⟨rfl,rfl⟩
   repeat'(first|refine vcI ?_|refine And.intro ?_ ?_|(intro hq;(try simp at hq);(try(exfalso;omega));(try(revert hq;intro))))
   refine Exists.intro (k+1,v) ⟨by omega,(by first|omega|(dsimp only;omega)),⟨⟨(by refine NEq.int ?_;first|exact rfl|omega|(rw [wrapI (by omega)];first|exact rfl|omega)),.refl _,.refl _,.refl _,.refl _,trivial⟩,⟨⟨rfl,.refl _⟩,⟨rfl,?_⟩,⟨rfl,.refl _⟩,trivial⟩,.nil⟩⟩
   show NEq _ (.obox 4 (setC (setOf (l.take (k+1)))))
   rw [est]
   exact .refl _
  ·rename_i hlt
   obtain rfl:k=l.length:=by omega
   rw [List.take_length]
   refine NEq.aggL ?_
   ((repeat' apply And.intro) <;> (first|exact True.intro|exact NEq.refl _))
end Go.Ab
namespace Go.Ab
open Go.Proofs
set_option maxRecDepth 100000
set_option maxHeartbeats 1000000

theorem bit_setW (ws:Nat→Nat) (r q:Nat):bitW (setW ws r) q=(bitW ws q||decide (q=r)):=by
 unfold bitW setW
 by_cases h:q / 64=r / 64
 ·rw [if_pos h,Nat.testBit_or,Nat.testBit_two_pow]
  congr 1
  rw [Bool.eq_iff_iff]
  simp only [decide_eq_true_eq]
  omega
 ·rw [if_neg h,decide_eq_false (fun e=>h (by rw [e])),Bool.or_false]
theorem bit_joinW (ws us:Nat→Nat) {q:Nat} (hq:q<256):bitW (joinW ws us 4) q=(bitW ws q||bitW us q):=by
 unfold bitW joinW
 rw [if_pos (by omega),Nat.testBit_or]
theorem bit_setOf {l:List Int} (hl:∀ r∈l,0≤r) (q:Nat):bitW (setOf l) q=decide ((q:Int)∈l):=by
 have key:∀ (l:List Int) (ws:Nat→Nat),(∀ r∈l,0≤r)→bitW (l.foldl (fun ws r=>setW ws r.toNat) ws) q=(bitW ws q||decide ((q:Int)∈l)):=by
  intro l
  induction l with
  | nil=>intro ws _;simp
  | cons r l ih =>
   intro ws h
   rw [List.foldl_cons,ih _ fun x hx=>h x (List.mem_cons_of_mem _ hx),bit_setW,Bool.or_assoc]
   congr 1
   have hr:=h r (by simp)
   rw [Bool.eq_iff_iff]
   simp only [Bool.or_eq_true,decide_eq_true_eq,List.mem_cons]
   constructor
   ·rintro (h1|h1)
    ·exact .inl (by omega)
    ·exact .inr h1
   ·rintro (h1|h1)
    ·exact .inl (by omega)
    ·exact .inr h1
 unfold setOf
 rw [key l _ hl]
 simp [bitW]
def clrW (ws:Nat→Nat) (r:Nat):Nat→Nat:=fun o=>if o=r / 64 then ws o &&& (18446744073709551615 ^^^ 2 ^ (r % 64)) else ws o

inductive LiveP (o:DO):Nat→Nat→Prop
 | use {i r:Nat} (hi:i<o.irs.length) (h:(r:Int)∈usedL (o.irs.getD i default) (o.descs.getD i [])++usesL (o.descs.getD i [])):LiveP o i r
 | step {i k r:Nat} (hi:i<o.irs.length) (hk:(k:Int)∈goesL (o.irs.getD i default) i) (h:LiveP o k r) (hd:¬ (setsB (o.irs.getD i default).op=true∧(o.irs.getD i default).d=(r:Int))):LiveP o i r

open Classical in
noncomputable def wd (p:Nat→Prop) (o:Nat):Nat→Nat
 | 0=>0
 | j+1=>wd p o j ||| (if p (64*o+j) then 2 ^ j else 0)
theorem wd_lt (p:Nat→Prop) (o:Nat):∀ n,wd p o n<2 ^ n
 | 0=>by simp [wd]
 | n+1=>by
  unfold wd
  have h:=wd_lt p o n
  have h1:wd p o n<2 ^ (n+1):=Nat.lt_of_lt_of_le h (Nat.pow_le_pow_right (by decide) (by omega))
  refine Nat.or_lt_two_pow h1 ?_
  split
  ·exact Nat.pow_lt_pow_right (by decide) (by omega)
  ·exact Nat.two_pow_pos _
theorem wd_bit (p:Nat→Prop) (o:Nat):∀ (n j:Nat),(wd p o n).testBit j=true↔j<n∧p (64*o+j)
 | 0,j=>by simp [wd]
 | n+1,j=>by
  unfold wd
  rw [Nat.testBit_or,Bool.or_eq_true,wd_bit p o n j]
  split
  ·rename_i h
   rw [Nat.testBit_two_pow,decide_eq_true_eq]
   constructor
   ·rintro (⟨h1,h2⟩|rfl)
    ·exact ⟨by omega,h2⟩
    ·exact ⟨by omega,h⟩
   ·rintro ⟨h1,h2⟩
    by_cases e:n=j
    ·exact .inr e
    ·exact .inl ⟨by omega,h2⟩
  ·rename_i h
   constructor
   ·rintro (⟨h1,h2⟩|h1)
    ·exact ⟨by omega,h2⟩
    ·simp at h1
   ·rintro ⟨h1,h2⟩
    by_cases e:n=j
    ·subst e;exact absurd h2 h
    ·exact .inl ⟨by omega,h2⟩
noncomputable def wordsP (p:Nat→Prop):Nat→Nat:=fun o=>wd p o 64
theorem wordsP_lt (p:Nat→Prop) (o:Nat):wordsP p o<18446744073709551616:=wd_lt p o 64
theorem bit_wordsP (p:Nat→Prop) (q:Nat):bitW (wordsP p) q=true↔p q:=by
 unfold bitW wordsP
 rw [wd_bit]
 have e:64*(q / 64)+q % 64=q:=Nat.div_add_mod q 64
 rw [e]
 exact ⟨fun h=>h.2,fun h=>⟨Nat.mod_lt _ (by decide),h⟩⟩
theorem words_ext {ws us:Nat→Nat} (hw:∀ o,ws o<18446744073709551616) (hu:∀ o,us o<18446744073709551616) (h:∀ q,q<256→bitW ws q=bitW us q) {o:Nat} (ho:o<4):ws o=us o:=by
 apply Nat.eq_of_testBit_eq
 intro j
 by_cases hj:j<64
 ·have:=h (64*o+j) (by omega)
  unfold bitW at this
  rw [show (64*o+j) / 64=o by omega,show (64*o+j) % 64=j by omega] at this
  exact this
 ·rw [Nat.testBit_lt_two_pow (Nat.lt_of_lt_of_le (hw o) (Nat.pow_le_pow_right (n:=2) (by decide) (show 64≤j by omega))),Nat.testBit_lt_two_pow (Nat.lt_of_lt_of_le (hu o) (Nat.pow_le_pow_right (n:=2) (by decide) (show 64≤j by omega)))]
end Go.Ab
namespace Go.Ab
open Go.Proofs
set_option maxRecDepth 100000
set_option maxHeartbeats 1000000

def frW (n:Nat) (W:Nat→Nat→Nat):PV := .frz 4 n fun i o => .int .u64 (W i o)
def owW (n:Nat) (W:Nat→Nat→Nat):PV := .own 4 n fun i o => .int .u64 (W i o)
theorem view_row (k:Nat) (hp:Hp) (i:Nat):∀ x∈rowAt i,view (k+2) hp x=x:=by
 have key:∀ (u:PV) (s f g:Bool),view (k+2) hp u=u→∀ x∈rowC u s f g,view (k+2) hp x=x:=by
  intro u s f g hu x hx
  simp only [rowC,List.mem_cons,List.not_mem_nil,or_false] at hx
  rcases hx with rfl|rfl|rfl|rfl
  ·exact hu
  ·rfl
  ·rfl
  ·rfl
 unfold rowAt
 split <;> exact key _ _ _ _ rfl
theorem view_rows (k:Nat) (hp:Hp):∀ x∈rowsL,view (k+2) hp x=x:=fun x hx=>by
 obtain ⟨i,_,h⟩:=List.mem_flatMap.1 hx
 exact view_row k hp i x h
theorem view_dol (k:Nat) (hp:Hp) (o:DO):∀ x∈dol o,view (k+2) hp x=x:=fun x hx=>by
 simp only [dol,List.mem_cons,List.not_mem_nil,or_false] at hx
 rcases hx with rfl|rfl|rfl|rfl|rfl|rfl|rfl|rfl|rfl|rfl|rfl|rfl <;> rfl
theorem rowsL_len:rowsL.length=68:=by decide
theorem view_code {L:Hp} {o:DO} {n vc vl:Nat} {W:Nat→Nat→Nat} (rc rl:RId) (h1:lkH L rc=some ⟨vc,.obox 81 (codeC o (.ref rl vl [] 4 0 n))⟩) (h2:lkH L rl=some ⟨vl,owW n W⟩) (k:Nat):NEq (view (k+5) L (.ptr rc vc [] 0 0)) (codeP o (frW n W)):=by
 rw [view,h1]
 simp only [if_true,getAt]
 refine NEq.fptr fun j hj=>?_
 unfold codeC codeL
 have hl1:(dol o).length=12:=rfl
 have hl2:=rowsL_len
 by_cases c:j<12
 ·have e:∀ lv,(dol o++(rowsL++[lv])).getD j .undef=(dol o).getD j .undef:=fun lv=>by rw [getD_appD,if_pos (by omega)]
  rw [e,e,view_dol (k+2) L o _ (by rw [List.getD_eq_getElem?_getD];exact getD_mem _ (by omega))]
  exact .refl _
 ·by_cases c2:j<80
  ·have e:∀ lv,(dol o++(rowsL++[lv])).getD j .undef=rowsL.getD (j - 12) .undef:=fun lv=>by rw [getD_appD,if_neg (by omega),getD_appD,if_pos (by omega),hl1]
   rw [e,e,view_rows (k+2) L _ (by rw [List.getD_eq_getElem?_getD];exact getD_mem _ (by omega))]
   exact .refl _
  ·obtain rfl:j=80:=by omega
   have e:∀ lv,(dol o++(rowsL++[lv])).getD 80 .undef=lv:=fun lv=>by rw [getD_appD,if_neg (by omega),getD_appD,if_neg (by omega),hl1,hl2];rfl
   rw [e,e,view,h2]
   simp only [if_true,getAt,owW]
   exact NEq.frzs rfl (by simp) fun i q _ _=>by rw [Nat.zero_add];exact .refl _
end Go.Ab
namespace Go.Ab
open Go.Proofs
set_option maxRecDepth 100000
set_option maxHeartbeats 1000000

def scQ (S:Hp) {ι:Type} (l:Nat) (I:ι→Prop) (tmS:ι→Tm) (LS:ι→Hp) (Q:Post):Post:=fun e tm L nv=>match e with
 | .goto l'=>l'=l∧∃ j,I j∧LeS S tm L (tmS j) (LS j)
 | e=>Q e tm L nv
theorem scopeS {P:Program} {lv:Nat} {nt:FS} {ro:Option Nat} {S:Hp} {tm:Tm} {L:Hp} {nv:Nat} {Q:Post} {c rest:Code} (hmx:P.follows .mixedOrders=true) (hlv:lv≠0) (hok:okS nt c=true) (hok2:okS nt rest=true) (l:Nat) (hf:findLabel c l=some rest)
  {ι:Type} (I:ι→Prop) (tmS:ι→Tm) (LS:ι→Hp) (μ:ι→Nat)
  (first:codeR P lv nt ro S c tm L nv (scQ S l I tmS LS Q))
  (pass:∀ i nv,I i→codeR P lv nt ro S rest (tmS i) (LS i) nv (scQ S l (fun j=>I j∧μ j<μ i) tmS LS Q)):Ev P lv nt ro (.scope c) tm (L++S) nv (liftQ S Q):=by
 have lift:∀ {tm1:Tm} {L1 hp1:Hp} {nv1:Nat} {j:ι},Rep S L1 hp1→LeS S tm1 L1 (tmS j) (LS j)→Le tm1 hp1 nv1 (tmS j) (LS j++S) nv1:=fun h1 h3=>by
  have h5:=h3.le (nv:=0)
  exact ⟨h5.tm,fun r rt hr=>by rw [h1.eq];exact h5.hp r rt hr,Nat.le_refl _⟩
 refine Ev.scope (ι:={i:ι // I i}) l hf (fun i=>tmS i.1) (fun i=>LS i.1++S) (fun i=>μ i.1) ?_ ?_
 ·refine (codeR_sound hmx hlv c hok tm L (L++S) nv _ (Rep.mk' S L) first).mono fun e tm1 hp1 nv1 hq=>?_
  obtain ⟨L1,h1,h2⟩:=hq
  cases e with
  | goto l'=>obtain ⟨e1,j,hj,hle⟩:=h2;exact ⟨e1,⟨j,hj⟩,lift h1 hle⟩
  | _=>exact ⟨L1,h1,h2⟩
 ·rintro ⟨i,hi⟩ nv0
  refine (codeR_sound hmx hlv rest hok2 (tmS i) (LS i) (LS i++S) nv0 _ (Rep.mk' S (LS i)) (pass i nv0 hi)).mono fun e tm1 hp1 nv1 hq=>?_
  obtain ⟨L1,h1,h2⟩:=hq
  cases e with
  | goto l'=>obtain ⟨e1,j,⟨hj,hlt⟩,hle⟩:=h2;exact ⟨e1,⟨j,hj⟩,lift h1 hle,hlt⟩
  | _=>exact ⟨L1,h1,h2⟩

theorem scopeS' {P:Program} {lv:Nat} {nt:FS} {ro:Option Nat} {S:Hp} {tm:Tm} {L:Hp} {nv:Nat} {Q:Post} {c:Code} (hmx:P.follows .mixedOrders=true) (hlv:lv≠0) (hok:okS nt c=true) (l:Nat) (hok2:okS nt ((findLabel c l).getD .skip)=true) (hf:(findLabel c l).isSome=true)
  {ι:Type} (I:ι→Prop) (tmS:ι→Tm) (LS:ι→Hp) (μ:ι→Nat)
  (first:codeR P lv nt ro S c tm L nv (scQ S l I tmS LS Q))
  (pass:∀ i nv,I i→codeR P lv nt ro S ((findLabel c l).getD .skip) (tmS i) (LS i) nv (scQ S l (fun j=>I j∧μ j<μ i) tmS LS Q)):Ev P lv nt ro (.scope c) tm (L++S) nv (liftQ S Q):=by
 obtain ⟨rest,hr⟩:=Option.isSome_iff_exists.1 hf
 rw [hr] at hok2 pass
 exact scopeS hmx hlv hok hok2 l hr I tmS LS μ first pass

theorem setJoin26_spec (ws us:Nat→Nat) (hw:∀ o,ws o<18446744073709551616) (hu:∀ o,us o<18446744073709551616) (v nv:Nat) (S:Hp) (hS:Above 3 S) :
  CallsA Tryz.prog 88 [.ptr (2,6) v [] 0 0,aggW us] ([((2,6),⟨v,.obox 4 (setC ws)⟩)]++S) nv
   fun x hp' nv'=>∃ L',hp'=L'++S∧(x = .tup []∧L'=[((2,6),⟨v,.obox 4 (setC (joinW ws us 4))⟩)]):=by
 refine callsA_ofS (lv:=3) (by decide) mx Tryz.call88 Tryz.func88 rfl Tryz.ntmps88 Tryz.results88 (by kernel_rfl) (by simp) fun lo=>?_
 repeat'(first|refine vcI ?_|refine And.intro ?_ ?_|(intro hq;(try simp at hq);(try(exfalso;omega));(try(revert hq;intro))))
 refine loopS mx (by decide) (by kernel_rfl) (fun k:Nat=>k≤4) (fun k=>[(5,.int .i64 k),(0,.ptr (2,6) v [] 0 0),(3,.ptr (3,3) nv [] 0 0)]) (fun k=>[((3,3),⟨nv,.obox 4 (setC us)⟩),((2,6),⟨v,.obox 4 (setC (joinW ws us k))⟩)]) (fun k=>4 - k) 0 (by simp) ?_ ?_
 ·refine ⟨by ((repeat' apply And.intro) <;> (first|exact True.intro|exact NEq.refl _|(refine NEq.int ?_;first|exact rfl|omega|(rw [wrapI (by omega)];first|exact rfl|omega)))),⟨⟨rfl,.obox fun o ho=>?_⟩,⟨rfl,?_⟩,trivial⟩,.chk hS rfl⟩
  ·have ho':o<4:=ho
   rcases (by omega:o=0∨o=1∨o=2∨o=3) with rfl|rfl|rfl|rfl <;> exact .refl _
  ·rw [joinW_zero];exact .refl _
 intro k nv hk
 repeat'(first|refine vcI ?_|refine And.intro ?_ ?_|(intro hq;(try simp at hq);(try(exfalso;omega));(try(revert hq;intro))))
 ·rw [cW];show 0+k*1+1≤4;omega
 ·rw [cW];decide
 ·rw [cW];show 0+k*1+1≤4;omega
 ·rw [cW];decide
 ·show 0+k*Tryz.prog.cellsOf 66+1≤4
  rw [cW];omega
 ·refine Exists.intro (k+1) ⟨by omega,(by first|omega|(dsimp only;omega)),⟨⟨(by refine NEq.int ?_;first|exact rfl|omega|(rw [wrapI (by omega)];first|exact rfl|omega)),.refl _,.refl _,trivial⟩,⟨⟨rfl,.refl _⟩,⟨rfl,.obox fun o ho=>?_⟩,trivial⟩,.chk hS rfl⟩⟩
  show NEq (if 0+k*Tryz.prog.cellsOf 66≤o∧o<0+k*Tryz.prog.cellsOf 66+1 then List.getD [PV.int .u64 (IntKind.u64.wrap ((BitVec.ofInt IntKind.u64.bits (joinW ws us k (0+k*Tryz.prog.cellsOf 66):Int) ||| BitVec.ofInt IntKind.u64.bits (us (0+k*Tryz.prog.cellsOf 66):Int)).toNat:Int))] (o - (0+k*Tryz.prog.cellsOf 66)) .undef else .int .u64 (joinW ws us k o)) (.int .u64 (joinW ws us (k+1) o))
  rw [cW]
  simp only [Nat.zero_add,Nat.mul_one]
  have ek:joinW ws us k k=ws k:=by simp [joinW]
  rw [ek,orr_at (hw _) (hu _)]
  by_cases c:o=k
  ·subst c
   rw [if_pos (by omega),Nat.sub_self]
   have e5:joinW ws us (o+1) o=ws o ||| us o:=by simp [joinW]
   rw [e5]
   exact .refl _
  ·rw [if_neg (by omega)]
   have e5:joinW ws us (k+1) o=joinW ws us k o:=by
    unfold joinW
    by_cases c2:o<k
    ·rw [if_pos c2,if_pos (by omega)]
    ·rw [if_neg c2,if_neg (by omega)]
   rw [e5]
   exact .refl _
 ·obtain rfl:k=4:=by omega
  exact Exists.intro (PV.tup []) (Exists.intro _ (And.intro ⟨rfl,rfl⟩ (And.intro (.refl _) (And.intro ⟨⟨rfl,.refl _⟩,trivial⟩ (.chk hS rfl)))))
end Go.Ab
namespace Go.Ab
open Go.Proofs
set_option maxRecDepth 100000
set_option maxHeartbeats 1000000

def useW (o:DO) (i:Nat):Nat→Nat:=setOf (usedL (o.irs.getD i default) (o.descs.getD i [])++usesL (o.descs.getD i []))
structure FlH (o:DO):Prop where
 hf:fewN o≤6000
 hr:o.regs≤250
 hd:o.descs.length=o.irs.length
 hs:∀ l∈o.descs,l.length≤1048576∧∀ f∈l,f.small
 sh:∀ i,i<o.irs.length→shapedX o (o.irs.getD i default) (o.descs.getD i [])=true
 ne:0<o.irs.length
 go:∀ i,i<o.irs.length→∀ k∈goesL (o.irs.getD i default) i,0≤k∧k<(o.irs.length:Int)

theorem FlH.use {o:DO} (H:FlH o) {i:Nat} (hi:i<o.irs.length):∀ r∈usedL (o.irs.getD i default) (o.descs.getD i [])++usesL (o.descs.getD i []),0≤r∧r<250:=fun r hm=>by
 have hsh:=H.sh i hi
 have hr:=H.hr
 simp only [shapedX,Bool.and_eq_true,decide_eq_true_eq,Bool.not_eq_true'] at hsh
 obtain ⟨s1,s2,s3,s4,s5,s6,s7⟩:=hsh
 have hb:∀ {l},badL o l=false→r∈l→0≤r∧r<250:=fun h1 h2=>by
  have h3:=List.any_eq_false.1 h1 r h2
  simp only [regB,Bool.not_eq_true',Bool.not_eq_false,Bool.and_eq_true,decide_eq_true_eq] at h3
  omega
 rcases List.mem_append.1 hm with h|h
 ·exact hb s5 h
 ·exact hb s7 h
theorem FlH.op {o:DO} (H:FlH o) {i:Nat} (hi:i<o.irs.length):1≤(o.irs.getD i default).op∧(o.irs.getD i default).op≤16:=by
 have hsh:=H.sh i hi
 simp only [shapedX,Bool.and_eq_true,decide_eq_true_eq,Bool.not_eq_true'] at hsh
 exact ⟨hsh.1,hsh.2.1⟩
theorem FlH.d {o:DO} (H:FlH o) {i:Nat} (hi:i<o.irs.length) (hs:setsB (o.irs.getD i default).op=true):0≤(o.irs.getD i default).d∧(o.irs.getD i default).d<250:=by
 have hsh:=H.sh i hi
 have hr:=H.hr
 simp only [shapedX,Bool.and_eq_true,decide_eq_true_eq,Bool.not_eq_true'] at hsh
 obtain ⟨s1,s2,s3,s4,s5,s6,s7⟩:=hsh
 rw [hs] at s6
 simp only [Bool.not_true,Bool.false_or,regB,Bool.and_eq_true,decide_eq_true_eq] at s6
 omega
theorem useW_lt (o:DO) (i:Nat):∀ q,useW o i q<18446744073709551616:=setOf_lt _
theorem bit_useW {o:DO} (H:FlH o) {i:Nat} (hi:i<o.irs.length) (q:Nat):bitW (useW o i) q=true↔(q:Int)∈usedL (o.irs.getD i default) (o.descs.getD i [])++usesL (o.descs.getD i []):=by
 unfold useW
 rw [bit_setOf (fun r h=>(H.use hi r h).1),decide_eq_true_eq]

theorem joinW_lt {ws us:Nat→Nat} (hw:∀ o,ws o<18446744073709551616) (hu:∀ o,us o<18446744073709551616) (k:Nat):∀ o,joinW ws us k o<18446744073709551616:=fun o=>by
 unfold joinW
 split
 ·exact Nat.or_lt_two_pow (n:=64) (hw o) (hu o)
 ·exact hw o
theorem clrW_lt {ws:Nat→Nat} (hw:∀ o,ws o<18446744073709551616) (r:Nat):∀ o,clrW ws r o<18446744073709551616:=fun o=>by
 unfold clrW
 split
 ·exact Nat.lt_of_le_of_lt Nat.and_le_left (hw o)
 ·exact hw o
theorem bit_clrW (ws:Nat→Nat) (r q:Nat):bitW (clrW ws r) q=(bitW ws q&&!decide (q=r)):=by
 unfold bitW clrW
 by_cases h:q / 64=r / 64
 ·rw [if_pos h,Nat.testBit_and,Nat.testBit_xor,Nat.testBit_two_pow,show (18446744073709551615:Nat)=2 ^ 64 - 1 from rfl,Nat.testBit_two_pow_sub_one,decide_eq_true (show q % 64<64 from Nat.mod_lt _ (by decide)),Bool.true_xor]
  congr 2
  rw [Bool.eq_iff_iff]
  simp only [decide_eq_true_eq]
  omega
 ·rw [if_neg h,decide_eq_false (fun e=>h (by rw [e])),Bool.not_false,Bool.and_true]

def joinL (W:Nat→Nat→Nat) (l:List Int):Nat→Nat:=l.foldl (fun s k=>joinW s (W k.toNat) 4) fun _=>0
theorem joinL_snoc (W:Nat→Nat→Nat) (l:List Int) (k:Int):joinL W (l++[k])=joinW (joinL W l) (W k.toNat) 4:=by
 unfold joinL;rw [List.foldl_append];rfl
theorem joinL_lt {W:Nat→Nat→Nat} (hW:∀ i q,W i q<18446744073709551616) (l:List Int):∀ q,joinL W l q<18446744073709551616:=by
 have key:∀ (l:List Int) (ws:Nat→Nat),(∀ o,ws o<18446744073709551616)→∀ o,l.foldl (fun s k=>joinW s (W k.toNat) 4) ws o<18446744073709551616:=by
  intro l
  induction l with
  | nil=>intro ws h;exact h
  | cons k l ih=>intro ws h;exact ih _ (joinW_lt h (hW _) 4)
 exact key l _ fun _=>by decide
theorem bit_joinL (W:Nat→Nat→Nat) {q:Nat} (hq:q<256) (l:List Int):bitW (joinL W l) q=true↔∃ k∈l,bitW (W k.toNat) q=true:=by
 have key:∀ (l:List Int) (ws:Nat→Nat),bitW (l.foldl (fun s k=>joinW s (W k.toNat) 4) ws) q=true↔bitW ws q=true∨∃ k∈l,bitW (W k.toNat) q=true:=by
  intro l
  induction l with
  | nil=>intro ws;simp
  | cons k l ih =>
   intro ws
   rw [List.foldl_cons,ih,bit_joinW _ _ hq,Bool.or_eq_true]
   simp only [List.mem_cons,exists_eq_or_imp,or_assoc]
 unfold joinL
 rw [key]
 simp [bitW]

def stepW (o:DO) (W:Nat→Nat→Nat) (i:Nat):Nat→Nat:=joinW (if setsB (o.irs.getD i default).op=true then clrW (joinL W (goesL (o.irs.getD i default) i)) (o.irs.getD i default).d.toNat else joinL W (goesL (o.irs.getD i default) i)) (useW o i) 4
theorem stepW_lt {o:DO} {W:Nat→Nat→Nat} (hW:∀ i q,W i q<18446744073709551616) (i:Nat):∀ q,stepW o W i q<18446744073709551616:=by
 refine joinW_lt ?_ (useW_lt o i) 4
 split
 ·exact clrW_lt (joinL_lt hW _) _
 ·exact joinL_lt hW _
theorem bit_stepW {o:DO} (H:FlH o) (W:Nat→Nat→Nat) {i:Nat} (hi:i<o.irs.length) {q:Nat} (hq:q<256):bitW (stepW o W i) q=true↔(q:Int)∈usedL (o.irs.getD i default) (o.descs.getD i [])++usesL (o.descs.getD i [])∨(∃ k∈goesL (o.irs.getD i default) i,bitW (W k.toNat) q=true)∧¬ (setsB (o.irs.getD i default).op=true∧(o.irs.getD i default).d=(q:Int)):=by
 unfold stepW
 rw [bit_joinW _ _ hq,Bool.or_eq_true,bit_useW H hi,or_comm]
 refine or_congr Iff.rfl ?_
 by_cases hs:setsB (o.irs.getD i default).op=true
 ·have hd:=H.d hi hs
  rw [if_pos hs,bit_clrW,Bool.and_eq_true,bit_joinL W hq,Bool.not_eq_true',decide_eq_false_iff_not]
  refine and_congr Iff.rfl (not_congr ?_)
  constructor
  ·intro e;exact ⟨hs,by omega⟩
  ·rintro ⟨_,e⟩;omega
 ·rw [if_neg hs,bit_joinL W hq]
  exact ⟨fun h=>⟨h,fun h2=>hs h2.1⟩,fun h=>h.1⟩

structure InvW (o:DO) (W:Nat→Nat→Nat):Prop where
 lt:∀ i q,W i q<18446744073709551616
 inn:∀ i,i<o.irs.length→∀ r,r<256→bitW (W i) r=true→LiveP o i r
 pre:∀ i,i<o.irs.length→∀ r,r<256→bitW (W i) r=true→bitW (stepW o W i) r=true
theorem InvW.zero (o:DO):InvW o fun _ _=>0:=⟨fun _ _=>by decide,fun _ _ _ _ h=>by simp [bitW] at h,fun _ _ _ _ h=>by simp [bitW] at h⟩
def updW (W:Nat→Nat→Nat) (i:Nat) (s:Nat→Nat):Nat→Nat→Nat:=fun j q=>if j=i then s q else W j q
theorem bit_updW (W:Nat→Nat→Nat) (i:Nat) (s:Nat→Nat) (j r:Nat):bitW (updW W i s j) r=if j=i then bitW s r else bitW (W j) r:=by
 unfold updW bitW
 split <;> rfl
theorem InvW.upd {o:DO} (H:FlH o) {W:Nat→Nat→Nat} (h:InvW o W) {i:Nat} (hi:i<o.irs.length):InvW o (updW W i (stepW o W i)):=by
 have up:∀ j r,j<o.irs.length→r<256→bitW (W j) r=true→bitW (updW W i (stepW o W i) j) r=true:=fun j r hj hr hb=>by
  rw [bit_updW]
  split
  ·rename_i e;subst e;exact h.pre j hj r hr hb
  ·exact hb
 have mono:∀ j r,j<o.irs.length→r<256→bitW (stepW o W j) r=true→bitW (stepW o (updW W i (stepW o W i)) j) r=true:=fun j r hj hr hb=>by
  rw [bit_stepW H _ hj hr] at hb ⊢
  rcases hb with hb|⟨⟨k,hk,hb⟩,hn⟩
  ·exact .inl hb
  ·have:=H.go j hj k hk
   exact .inr ⟨⟨k,hk,up _ _ (by omega) hr hb⟩,hn⟩
 refine ⟨fun j q=>?_,fun j hj r hr hb=>?_,fun j hj r hr hb=>?_⟩
 ·unfold updW
  split
  ·exact stepW_lt h.lt i q
  ·exact h.lt j q
 ·rw [bit_updW] at hb
  split at hb
  ·rename_i e
   subst e
   rw [bit_stepW H _ hj hr] at hb
   rcases hb with hb|⟨⟨k,hk,hb⟩,hn⟩
   ·exact .use hj hb
   ·have hg:=H.go j hj k hk
    exact .step hj (k:=k.toNat) (by rw [Int.toNat_of_nonneg hg.1];exact hk) (h.inn _ (by omega) r hr hb) hn
  ·exact h.inn j hj r hr hb
 ·rw [bit_updW] at hb
  split at hb
  ·rename_i e;subst e;exact mono j r hj hr hb
  ·exact mono j r hj hr (h.pre j hj r hr hb)

def unset (n:Nat) (W:Nat→Nat→Nat):Nat:=((List.range n).flatMap fun i=>(List.range 256).map fun r=>(i,r)).countP fun p=>!bitW (W p.1) p.2
theorem countP_lt_of {α:Type} {p q:α→Bool}:∀ {l:List α},(∀ x∈l,p x=true→q x=true)→(∃ x∈l,q x=true∧p x=false)→l.countP p<l.countP q
 | [],_,⟨_,h,_⟩=>absurd h (by simp)
 | a::l,h,⟨x,hx,h1,h2⟩=>by
  have hle:l.countP p≤l.countP q:=List.countP_mono_left fun y hy=>h y (List.mem_cons_of_mem _ hy)
  rw [List.countP_cons,List.countP_cons]
  rcases List.mem_cons.1 hx with rfl|hx
  ·rw [h1,h2];simp;omega
  ·have:=countP_lt_of (l:=l) (fun y hy=>h y (List.mem_cons_of_mem _ hy)) ⟨x,hx,h1,h2⟩
   have ha:=h a (by simp)
   cases hpa:p a
   ·simp;omega
   ·rw [ha hpa];simp;omega
theorem unset_upd {o:DO} {W:Nat→Nat→Nat} (h:InvW o W) {i:Nat} (hi:i<o.irs.length) (hne:∃ q,q<4∧stepW o W i q≠W i q):unset o.irs.length (updW W i (stepW o W i))<unset o.irs.length W:=by
 obtain ⟨q,hq,hne⟩:=hne
 have hd:∃ r,r<256∧bitW (stepW o W i) r≠bitW (W i) r:=by
  refine Classical.byContradiction fun hc=>hne (words_ext (stepW_lt h.lt i) (h.lt i) (fun r hr=>?_) hq)
  exact Classical.byContradiction fun h2=>hc ⟨r,hr,h2⟩
 obtain ⟨r,hr,hb⟩:=hd
 have h0:bitW (W i) r=false:=by
  cases hc:bitW (W i) r
  ·rfl
  ·exact absurd ((h.pre i hi r hr hc).trans hc.symm) hb
 have h1:bitW (stepW o W i) r=true:=by
  rw [h0] at hb
  simpa using hb
 unfold unset
 refine countP_lt_of (fun x hx hp=>?_) ⟨(i,r),?_,?_,?_⟩
 ·obtain ⟨j,hj,hx⟩:=List.mem_flatMap.1 hx
  obtain ⟨r',hr',rfl⟩:=List.mem_map.1 hx
  simp only [Bool.not_eq_true'] at hp ⊢
  rw [bit_updW] at hp
  split at hp
  ·rename_i e
   subst e
   cases hc:bitW (W j) r'
   ·rfl
   ·rw [h.pre j hi r' (List.mem_range.1 hr') hc] at hp;cases hp
  ·exact hp
 ·exact List.mem_flatMap.2 ⟨i,List.mem_range.2 hi,List.mem_map.2 ⟨r,List.mem_range.2 hr,rfl⟩⟩
 ·simp [h0]
 ·show (!bitW (updW W i (stepW o W i) i) r)=false
  rw [bit_updW,if_pos rfl,h1];rfl
theorem InvW.done {o:DO} (H:FlH o) {W:Nat→Nat→Nat} (h:InvW o W) (he:∀ i,i<o.irs.length→∀ q,q<4→stepW o W i q=W i q) {i:Nat} (hi:i<o.irs.length) {q:Nat} (hq:q<4):W i q=wordsP (LiveP o i) q:=by
 have key:∀ {i r:Nat},LiveP o i r→r<256→bitW (W i) r=true:=by
  intro i r hl
  induction hl with
  | @use i r hi hu =>
   intro hr
   have e:bitW (stepW o W i) r=bitW (W i) r:=by unfold bitW;rw [he i hi _ (by omega)]
   rw [← e,bit_stepW H W hi hr]
   exact .inl hu
  | @step i k r hi hk _ hd ih =>
   intro hr
   have e:bitW (stepW o W i) r=bitW (W i) r:=by unfold bitW;rw [he i hi _ (by omega)]
   rw [← e,bit_stepW H W hi hr]
   exact .inr ⟨⟨k,hk,ih hr⟩,hd⟩
 refine words_ext (h.lt i) (wordsP_lt _) (fun r hr=>?_) hq
 rw [Bool.eq_iff_iff,bit_wordsP]
 exact ⟨fun hb=>h.inn i hi r hr hb,fun hl=>key hl hr⟩
end Go.Ab
namespace Go.Ab
open Go.Proofs
set_option maxRecDepth 100000
set_option maxHeartbeats 4000000

theorem Goes_spec (x:DI) (i:Nat) (hi:i≤1048576):CallsO Tryz.prog 39 [.agg (dil x),.int .i64 i] (oints (goesL x i)) (fun id ver => .ref id ver [] 1 0 (goesL x i).length):=by
 have hw:IntKind.i64.wrap ((i:Int)+1)=(i:Int)+1:=wrapI (by omega)
 refine callsO_ofS mx Tryz.call39 Tryz.func39 rfl Tryz.ntmps39 Tryz.results39 (by kernel_rfl) (by simp) fun lo=>?_
 repeat'(first|refine vcI ?_|refine And.intro ?_ ?_|(intro hq;(try simp at hq);(try(exfalso;omega));(try(revert hq;intro))))
 ·rw [show goesL x i=[x.n] by simp [goesL, *]]
  refine Exists.intro (oints [x.n]) (And.intro ?_ (And.intro (by first|rfl|exact shape_prs (by simp)|exact shape_ints (by simp)|exact shape_odvs (by simp)) ?_))
  ·exact one_ints _ rfl rfl (.refl _)
  exact keepS_ints rfl rfl
 iterate 2
  ·rw [show goesL x i=[] by simp [goesL, *]]
   exact keepS_nil
 iterate 2
  ·rw [show goesL x i=[(i:Int)+1] by rename_i h;rw [hw] at h;simp [goesL, *]]
   refine Exists.intro (oints [(i:Int)+1]) (And.intro ?_ (And.intro (by first|rfl|exact shape_prs (by simp)|exact shape_ints (by simp)|exact shape_odvs (by simp)) ?_))
   ·exact one_ints _ rfl rfl (NEq.of_eq (congrArg (PV.int .i64) hw))
   exact keepS_ints rfl rfl
  ·rw [show goesL x i=[x.n,(i:Int)+1] by rename_i h0 h;rw [hw] at h h0;simp [goesL, *]]
   refine Exists.intro (oints [x.n,(i:Int)+1]) (And.intro ?_ (And.intro (by first|rfl|exact shape_prs (by simp)|exact shape_ints (by simp)|exact shape_odvs (by simp)) ?_))
   ·exact two_ints _ _ rfl rfl (.refl _) (NEq.of_eq (congrArg (PV.int .i64) hw))
   exact keepS_ints rfl rfl
  ·rw [show goesL x i=[(i:Int)+1,x.n] by rename_i h0 h;rw [hw] at h h0;simp [goesL, *]]
   refine Exists.intro (oints [(i:Int)+1,x.n]) (And.intro ?_ (And.intro (by first|rfl|exact shape_prs (by simp)|exact shape_ints (by simp)|exact shape_odvs (by simp)) ?_))
   ·exact two_ints _ _ rfl rfl (NEq.of_eq (congrArg (PV.int .i64) hw)) (.refl _)
   exact keepS_ints rfl rfl
 ·rw [show goesL x i=[(i:Int)+1] by simp [goesL, *]]
  refine Exists.intro (oints [(i:Int)+1]) (And.intro ?_ (And.intro (by first|rfl|exact shape_prs (by simp)|exact shape_ints (by simp)|exact shape_odvs (by simp)) ?_))
  ·exact one_ints _ rfl rfl (NEq.of_eq (congrArg (PV.int .i64) hw))
  exact keepS_ints rfl rfl
theorem inside_spec (l:List Int) (n:Int) (hl:l.length≤1048576):CallsF Tryz.prog 64 [ints l,.int .i64 n] (.bool (l.all fun r=>decide (0≤r)&&decide (r<n))):=by
 refine callsF_ofS mx Tryz.call64 Tryz.func64 rfl Tryz.ntmps64 Tryz.results64 (by kernel_rfl) (by simp) fun lo=>?_
 refine loopS mx (by decide) (by kernel_rfl) (fun k:Nat=>k≤l.length∧∀ r∈l.take k,0≤r∧r<n) (fun k=>[(5,.int .i64 k),(0,ints l),(1,.int .i64 n)]) (fun _=>[]) (fun k=>l.length - k) 0 (by simp) ⟨by ((repeat' apply And.intro) <;> (first|exact True.intro|exact NEq.refl _|(refine NEq.int ?_;first|exact rfl|omega|(rw [wrapI (by omega)];first|exact rfl|omega)))),trivial,.nil⟩ ?_
 rintro k nv ⟨hk,hI⟩
 have hwk:IntKind.i64.wrap ((k:Int)+1)=((k+1:Nat):Int):=wrapI (by omega)
 repeat'(first|refine vcI ?_|refine And.intro ?_ ?_|(intro hq;(try simp at hq);(try(exfalso;omega));(try(revert hq;intro))))
 ·rename_i hkl hbad
  (refine NEq.of_eq ?_;show PV.bool _=PV.bool _;congr 1)
  symm
  rw [List.all_eq_false]
  refine ⟨l[k]?.getD 0,getD_mem 0 hkl,?_⟩
  simp
  omega
 ·rename_i hkl hgood
  refine Exists.intro (k+1) ⟨⟨by omega,fun r hr=>?_⟩,(by first|omega|(dsimp only;omega)),⟨by ((repeat' apply And.intro) <;> (first|exact True.intro|exact NEq.refl _|(refine NEq.int ?_;first|exact rfl|omega|(rw [wrapI (by omega)];first|exact rfl|omega)))),trivial,.nil⟩⟩
  rw [take_succD 0 hkl,List.mem_append,List.mem_singleton] at hr
  rcases hr with hr|rfl
  ·exact hI r hr
  ·exact hgood
 ·obtain rfl:k=l.length:=by omega
  rw [List.take_length] at hI
  (refine NEq.of_eq ?_;show PV.bool _=PV.bool _;congr 1)
  symm
  rw [List.all_eq_true]
  intro r hr
  simpa using hI r hr
def framedB (x:DI) (fs:List DF):Bool :=
 if x.op=12 then insB fs.length x.n&&(!insB fs.length (fs.getD x.n.toNat default).up||(fs.getD (fs.getD x.n.toNat default).up.toNat default).act != 0)
 else if x.op=13 then insB fs.length x.m&&(fs.getD x.m.toNat default).act != 0
 else true
theorem framed_spec (x:DI) (fs:List DF) (hl:fs.length≤1048576):CallsF Tryz.prog 79 [.agg (dil x),dfs fs] (.bool (framedB x fs)):=by
 refine callsF_ofS mx Tryz.call79 Tryz.func79 rfl Tryz.ntmps79 Tryz.results79 (by kernel_rfl) (by simp) fun lo=>?_
 repeat'(first|refine vcI ?_|refine And.intro ?_ ?_|(intro hq;(try simp at hq);(try(exfalso;omega));(try(revert hq;intro))))
 all_goals try first|omega|(simp;omega)
 all_goals
  (refine NEq.of_eq ?_;show PV.bool _=PV.bool _;congr 1)
  unfold framedB insB
  first|rw [if_pos (by assumption)]|rw [if_neg (by assumption),if_pos (by assumption)]|rw [if_neg (by assumption),if_neg (by assumption)]
  try (rw [Bool.eq_iff_iff];simp only [List.getD_eq_getElem?_getD,Bool.and_eq_true,Bool.or_eq_true,Bool.not_eq_true',decide_eq_true_eq,decide_eq_false_iff_not,bne_iff_ne,ne_eq,Bool.cond_eq_ite,Bool.if_true_left,Bool.if_false_right,iff_true,true_iff,false_iff,Bool.false_eq_true,Bool.true_eq_false])
  try omega
end Go.Ab
namespace Go.Ab
open Go.Proofs
set_option maxRecDepth 100000
set_option maxHeartbeats 1000000

def bbN (n m:Nat) (W:Nat→Nat→Bool):PV := .own 1 n fun a _ => .own 1 m fun r _ => .bool (W a r)
def setB (W:Nat→Nat→Bool) (i r:Nat):Nat→Nat→Bool:=fun a q=>if a=i∧q=r then true else W a q
def ownL (o:DO) (i:Nat):List Int:=usedL (o.irs.getD i default) (o.descs.getD i [])++usesL (o.descs.getD i [])
structure LvI (o:DO) (W:Nat→Nat→Bool):Prop where
 own:∀ i,i<o.irs.length→∀ r:Nat,(r:Int)∈ownL o i→W i r=true
 sound:∀ i,i<o.irs.length→∀ r,W i r=true→LiveP o i r
def ClP (o:DO) (W:Nat→Nat→Bool) (i:Nat) (k:Int) (r:Nat):Prop:=W k.toNat r=true→¬ (setsB (o.irs.getD i default).op=true∧(o.irs.getD i default).d=r)→W i r=true
def unsetB (o:DO) (W:Nat→Nat→Bool):Nat:=((List.range o.irs.length).flatMap fun i=>(List.range o.regs.toNat).map fun r=>(i,r)).countP fun p=>!W p.1 p.2
theorem unsetB_set {o:DO} {W:Nat→Nat→Bool} {i r:Nat} (hi:i<o.irs.length) (hr:r<o.regs.toNat) (h:W i r=false):unsetB o (setB W i r)<unsetB o W:=by
 refine countP_lt_of (fun x _ hx=>?_) ⟨(i,r),?_,by simpa using h,by simp [setB]⟩
 ·simp only [setB,Bool.not_eq_true'] at hx ⊢
  split at hx
  ·cases hx
  ·exact hx
 ·simp only [List.mem_flatMap,List.mem_range,List.mem_map]
  exact ⟨i,hi,r,hr,rfl⟩
structure RdP (o:DO) (W0 W:Nat→Nat→Bool) (b:Bool) (D:Nat→Int→Nat→Prop):Prop where
 inv:LvI o W
 no:b=false→W=W0∧∀ i k r,D i k r→ClP o W0 i k r
 yes:b=true→unsetB o W<unsetB o W0
theorem RdP.less {o:DO} {W0 W:Nat→Nat→Bool} {b:Bool} {D D':Nat→Int→Nat→Prop} (h:RdP o W0 W b D) (hd:∀ i k r,D' i k r→D i k r):RdP o W0 W b D' :=
 ⟨h.inv,fun hb=>⟨(h.no hb).1,fun i k r hD=>(h.no hb).2 i k r (hd i k r hD)⟩,h.yes⟩
theorem RdP.put {o:DO} {W0 W:Nat→Nat→Bool} {b:Bool} {D D':Nat→Int→Nat→Prop} (h:RdP o W0 W b D) {i r:Nat} {k:Int} (hi:i<o.irs.length) (hr:r<o.regs.toNat) (hk:k∈goesL (o.irs.getD i default) i) (hk2:0≤k∧k<(o.irs.length:Int))
  (h1:W k.toNat r=true) (h2:W i r=false) (h3:¬ (setsB (o.irs.getD i default).op=true∧(o.irs.getD i default).d=r)):RdP o W0 (setB W i r) true D':=by
 refine ⟨⟨fun a ha q hq=>?_,fun a ha q hq=>?_⟩,fun h=>(by cases h),fun _=>?_⟩
 ·unfold setB;split
  ·rfl
  ·exact h.inv.own a ha q hq
 ·unfold setB at hq;split at hq
  ·rename_i e
   obtain ⟨rfl,rfl⟩:=e
   exact .step hi (k:=k.toNat) (by rw [Int.toNat_of_nonneg hk2.1];exact hk) (h.inv.sound k.toNat (by omega) q h1) h3
  ·exact h.inv.sound a ha q hq
 ·have h4:=unsetB_set hi hr h2
  cases b
  ·have:=(h.no rfl).1;subst this;exact h4
  ·exact Nat.lt_trans h4 (h.yes rfl)
theorem RdP.skip {o:DO} {W0 W:Nat→Nat→Bool} {b:Bool} {D D':Nat→Int→Nat→Prop} (h:RdP o W0 W b D) {i r:Nat} {k:Int} (hc:ClP o W i k r) (hD:∀ a c q,D' a c q→D a c q∨(a=i∧c=k∧q=r)):RdP o W0 W b D' :=
 ⟨h.inv,fun hb=>⟨(h.no hb).1,fun a c q hd=>by
  rcases hD a c q hd with h1|⟨rfl,rfl,rfl⟩
  ·exact (h.no hb).2 a c q h1
  ·have:=(h.no hb).1;subst this;exact hc⟩,h.yes⟩
theorem LvI.done {o:DO} (H:FlH o) {W:Nat→Nat→Bool} (h:LvI o W) (hc:∀ i,i<o.irs.length→∀ k∈goesL (o.irs.getD i default) i,∀ r,r<o.regs.toNat→ClP o W i k r) (hlt:∀ i r,LiveP o i r→(r:Int)<o.regs) {i:Nat} (hi:i<o.irs.length) (r:Nat):W i r=true↔LiveP o i r:=by
 refine ⟨h.sound i hi r,fun hl=>?_⟩
 induction hl with
 | use hi hu=>exact h.own _ hi _ hu
 | @step i k r hi hk hl hs ih =>
  have hgo:=H.go i hi _ hk
  have:=hlt _ _ hl
  exact hc i hi _ hk r (by omega) (by simpa using ih (by omega)) hs
end Go.Ab
namespace Go.Ab
open Go.Proofs
set_option maxRecDepth 100000
set_option maxHeartbeats 4000000

def mem0 (o:DO) (vc vl:Nat) (W:Nat→Nat→Nat):Hp:=[((1,45),⟨vc,.obox 81 (codeC o (.ref (1,43) vl [] 4 0 o.irs.length))⟩),((1,43),⟨vl,owW o.irs.length W⟩)]
def mem1 (o:DO) (vc vl v:Nat) (W U:Nat→Nat→Nat):Hp:=((2,16),⟨v,owW o.irs.length U⟩)::mem0 o vc vl W
theorem leafyW (us:Nat→Nat):leafyL (aggW us):=by
 unfold aggW
 intro x hx
 simp only [List.mem_cons,List.not_mem_nil,or_false] at hx
 rcases hx with rfl|rfl|rfl|rfl <;> trivial
theorem row_at {k a b w w':Nat} {us:Nat→Nat} (hb:b<4) (h:w'=if a=k then us b else w):NEq (if a=0+(k:Int).toNat∧0≤b∧b<0+4 then List.getD [PV.int .u64 (us 0),PV.int .u64 (us 1),PV.int .u64 (us 2),PV.int .u64 (us 3)] (b - 0) .undef else .int .u64 w) (.int .u64 w'):=by
 rw [Int.toNat_natCast,Nat.zero_add]
 by_cases e:a=k
 ·rw [if_pos ⟨e,by omega,by omega⟩,h,if_pos e]
  rcases (by omega:b=0∨b=1∨b=2∨b=3) with rfl|rfl|rfl|rfl <;> exact .refl _
 ·rw [if_neg (fun h=>e h.1),h,if_neg e]
  exact .refl _
theorem CallS.nexts {S:Hp} {id:RId} {ver:Nat} {args:List PV} {L:Hp} {nv:Nat} {K:PV→Hp→Nat→Prop} (o:DO) (lv:PV) (i:Nat) (hi:i<o.irs.length) (hil:o.irs.length≤6000) (hop:1≤(o.irs.getD i default).op∧(o.irs.getD i default).op≤16) (ha:LeL (args.map (view 9 (L++S))) [codeP o lv,.int .i64 i])
  (k:delS L id fun L=>fz (.ref id ver [] 1 0 (goesL (o.irs.getD i default) i).length) fun x=>K x ((id,⟨ver,oints (goesL (o.irs.getD i default) i++padL (o.irs.getD i default) i)⟩)::L) nv):CallS Tryz.prog S id ver 38 args L nv K :=
 .ownPlain _ 1 _ (fun j _ => .int .i64 ((goesL (o.irs.getD i default) i++padL (o.irs.getD i default) i).getD j 0)) _ (nexts_spec o lv i hi hil hop) ha trivial (fun i o hi=>trivial) k
theorem getD_app0 (a b:List Int) {k:Nat} (hk:k<a.length):(a++b).getD k 0=a.getD k 0:=by
 rw [List.getD_eq_getElem?_getD,List.getElem?_append_left hk,List.getD_eq_getElem?_getD]
theorem mk_sets {vc:Nat} (o:DO) (lv:PV) (op:Int) {off:Nat} (h:1≤op∧op≤16) (hoff:off=12+op.toNat*4+1):mkV Tryz.prog 4 (fun j=>cellV (1,45) vc [] 0 j (codeC o lv j)) off = .bool (setsB op):=by
 subst hoff
 have key:∀ n:Nat,1≤n∧n≤16→mkV Tryz.prog 4 (fun j=>cellV (1,45) vc [] 0 j (codeC o lv j)) (12+n*4+1) = .bool (setsB (n:Int)):=by
  intro n hn
  rcases (by omega:n=1∨n=2∨n=3∨n=4∨n=5∨n=6∨n=7∨n=8∨n=9∨n=10∨n=11∨n=12∨n=13∨n=14∨n=15∨n=16) with rfl|rfl|rfl|rfl|rfl|rfl|rfl|rfl|rfl|rfl|rfl|rfl|rfl|rfl|rfl|rfl <;> rfl
 have h2:=key op.toNat (by omega)
 rw [Int.toNat_of_nonneg (by omega)] at h2
 exact h2
theorem wdiv64 {d:Int} (h:0≤d∧d<250):IntKind.i64.wrap (d.tdiv 64)=((d.toNat / 64:Nat):Int):=by
 have:=wrap64_div (r:=d.toNat) (by omega)
 rw [Int.toNat_of_nonneg h.1] at this
 exact this
theorem andNot_at {w j:Nat} (hw:w<18446744073709551616) (hj:j<64):IntKind.u64.wrap ((BitVec.ofInt IntKind.u64.bits (w:Int) &&& ~~~ BitVec.ofInt IntKind.u64.bits (IntKind.u64.wrap (1*2 ^ min j IntKind.u64.bits))).toNat:Int)=((w &&& (18446744073709551615 ^^^ 2 ^ j):Nat):Int):=by
 have hb:IntKind.u64.bits=64:=rfl
 rw [hb,Nat.min_eq_left (by omega),Int.one_mul]
 have hj2:2 ^ j<18446744073709551616:=Nat.pow_lt_pow_right (a:=2) (by decide) hj
 have h1:(2:Int) ^ j=((2 ^ j:Nat):Int):=by norm_cast
 rw [h1]
 generalize hp:2 ^ j=p at *
 have h3:IntKind.u64.wrap (p:Int)=p:=wrapU (by omega) (by omega)
 rw [h3,BitVec.ofInt_natCast,BitVec.ofInt_natCast]
 have h4:(BitVec.ofNat 64 w &&& ~~~BitVec.ofNat 64 p).toNat=w &&& (18446744073709551615 ^^^ p):=by
  apply Nat.eq_of_testBit_eq
  intro i
  rw [BitVec.testBit_toNat,BitVec.getLsbD_and,BitVec.getLsbD_not,Nat.testBit_and,Nat.testBit_xor,show (18446744073709551615:Nat)=2 ^ 64 - 1 from rfl,Nat.testBit_two_pow_sub_one,BitVec.getLsbD_ofNat,BitVec.getLsbD_ofNat]
  by_cases hi:i<64
  ·simp only [hi,decide_true,Bool.true_and,Bool.true_xor]
  ·rw [Nat.testBit_lt_two_pow (Nat.lt_of_lt_of_le hw (Nat.pow_le_pow_right (n:=2) (by decide) (show 64≤i by omega)))]
   simp only [hi,decide_false,Bool.false_and]
 rw [h4]
 have h5:w &&& (18446744073709551615 ^^^ p)≤w:=Nat.and_le_left
 generalize w &&& (18446744073709551615 ^^^ p)=q at *
 exact wrapU (by omega) (by omega)
theorem clr_node {d:Int} (h:0≤d∧d<250) {J J':Nat→Nat} (hJ:∀ o,J o<18446744073709551616) (e:J=J') (b:Nat):(if 0+(IntKind.i64.wrap (d.tdiv 64)).toNat*Tryz.prog.cellsOf 66≤b∧b<0+(IntKind.i64.wrap (d.tdiv 64)).toNat*Tryz.prog.cellsOf 66+1 then List.getD [PV.int .u64 (IntKind.u64.wrap ((BitVec.ofInt IntKind.u64.bits (J (0+(IntKind.i64.wrap (d.tdiv 64)).toNat*Tryz.prog.cellsOf 66):Int) &&& ~~~ BitVec.ofInt IntKind.u64.bits (IntKind.u64.wrap (1*2 ^ min (d.tmod 64).toNat IntKind.u64.bits))).toNat:Int))] (b - (0+(IntKind.i64.wrap (d.tdiv 64)).toNat*Tryz.prog.cellsOf 66)) .undef else .int .u64 (J b)) = .int .u64 (clrW J' d.toNat b):=by
 subst e
 have em:(d.tmod 64).toNat=d.toNat % 64:=by
  have:=tmod64 d.toNat
  rw [Int.toNat_of_nonneg h.1] at this
  rw [this];omega
 rw [cW,wdiv64 h,em]
 simp only [Int.toNat_natCast,Nat.zero_add,Nat.mul_one]
 rw [andNot_at (hJ _) (Nat.mod_lt _ (by decide))]
 by_cases c:b=d.toNat / 64
 ·subst c
  rw [if_pos (by omega),Nat.sub_self]
  simp only [clrW,if_true]
  rfl
 ·rw [if_neg (by omega)]
  simp only [clrW,if_neg c]
theorem ne4 {f g:Nat→Nat} (h:¬ (f 0:Int)=(g 0:Int)∨¬ (f 1:Int)=(g 1:Int)∨¬ (f 2:Int)=(g 2:Int)∨¬ (f 3:Int)=(g 3:Int)):∃ q,q<4∧f q≠g q:=by
 rcases h with h|h|h|h
 ·exact ⟨0,by omega,by omega⟩
 ·exact ⟨1,by omega,by omega⟩
 ·exact ⟨2,by omega,by omega⟩
 ·exact ⟨3,by omega,by omega⟩
theorem eq4 {f g:Nat→Nat} (h:(f 0:Int)=(g 0:Int)∧(f 1:Int)=(g 1:Int)∧(f 2:Int)=(g 2:Int)∧(f 3:Int)=(g 3:Int)) (q:Nat) (hq:q<4):f q=g q:=by
 obtain ⟨h0,h1,h2,h3⟩:=h
 rcases (by omega:q=0∨q=1∨q=2∨q=3) with rfl|rfl|rfl|rfl <;> omega
theorem CallS.on1e {P:Program} {S L:Hp} {id r:RId} {v:Nat} {node node':PV} {ver nv n:Nat} {f:FuncId} {args args':List PV} {K:PV→Hp→Nat→Prop} {R:PV→Hp→Nat→Prop} (hr:lkS L r=some ⟨v,node⟩) (he:node=node') (ha:LeL args args') (hA:Above n (L++S))
  (h:∀ S',Above n S'→CallsA P f args' ([(r,⟨v,node'⟩)]++S') nv fun x hp' nv'=>∃ L',hp'=L'++S'∧R x L' nv')
  (k:delS L r fun M=>∀ x L' nv',R x L' nv'→fz x fun x=>K x (L'++M) nv'):CallS P S id ver f args L nv K:=by
 subst he
 exact CallS.on1 hr hA (fun S' hS'=>(h S' hS').less ha) k
theorem flow_spec (o:DO) (H:FlH o) (vc vl nv:Nat) (S:Hp) (hS:Above 2 S):CallsA Tryz.prog 78 [.ptr (1,45) vc [] 0 0] (mem0 o vc vl (fun _ _=>0)++S) nv
  fun x hp' nv'=>∃ L',hp'=L'++S∧(x = .tup []∧L'=mem0 o vc vl fun i=>wordsP (LiveP o i)):=by
 have hil:o.irs.length≤6000:=by have:=H.hf;unfold fewN at this;omega
 have hn:=H.ne
 refine callsA_ofS (lv:=2) (by decide) mx Tryz.call78 Tryz.func78 rfl Tryz.ntmps78 Tryz.results78 (by kernel_rfl) (by simp) fun lo=>?_
 refine scopeS' mx (by decide) ?hok 0 ?hok2 ?hf (fun p:(Nat→Nat→Nat) × Nat=>InvW o p.1) (fun p=>[(2,.ref (2,16) p.2 [] 4 0 o.irs.length),(0,.ptr (1,45) vc [] 0 0)]) (fun p=>mem1 o vc vl p.2 p.1 (useW o)) (fun p=>unset o.irs.length p.1) ?first ?pass
 case hf=>kernel_rfl
 case hok=>kernel_rfl
 case hok2=>kernel_rfl
 case first =>
  repeat'(first|refine vcI ?_|refine And.intro ?_ ?_|(intro hq;(try simp at hq);(try(exfalso;omega));(try(revert hq;intro))))
  ·rw [show Tryz.prog.bytesOf 68=32 by kernel_rfl];omega
  ·rfl
  refine Exists.intro (owW o.irs.length fun _ _=>0) (And.intro ?_ (And.intro ?_ ?_))
  ·refine NEq.owns rfl (by simp) fun i q hi hq=>?_
   rcases (by have:q<4:=hq;omega:q=0∨q=1∨q=2∨q=3) with rfl|rfl|rfl|rfl <;> exact .refl _
  ·rfl
  repeat'(first|refine vcI ?_|refine And.intro ?_ ?_|(intro hq;(try simp at hq);(try(exfalso;omega));(try(revert hq;intro))))
  refine loopS2 mx (by decide) (by kernel_rfl) (fun (k v:Nat)=>k≤o.irs.length) (fun k v=>[(23,.int .i64 k),(22,.int .i64 o.irs.length),(2,.ref (2,16) v [] 4 0 o.irs.length),(0,.ptr (1,45) vc [] 0 0)]) (fun k v=>((2,16),⟨v,owW o.irs.length fun i q=>if i<k then useW o i q else 0⟩)::mem0 o vc vl fun _ _=>0) (fun k v=>o.irs.length - k) 0 _ (by simp) ⟨by ((repeat' apply And.intro) <;> (first|exact True.intro|exact NEq.refl _|(refine NEq.int ?_;first|exact rfl|omega|(rw [wrapI (by omega)];first|exact rfl|omega)))),?_,.chk hS rfl⟩ ?_
  ·exact ⟨⟨rfl,.refl _⟩,⟨rfl,.refl _⟩,⟨rfl,.refl _⟩,trivial⟩
  intro k v nv hk
  repeat'(first|refine vcI ?_|refine And.intro ?_ ?_|(intro hq;(try simp at hq);(try(exfalso;omega));(try(revert hq;intro))))
  ·rename_i hlt
   have hview:NEq (view 9 ((((2,16),⟨v,owW o.irs.length fun i q=>if i<k then useW o i q else 0⟩)::mem0 o vc vl fun _ _=>0)++S) (.ptr (1,45) vc [] 0 0)) (codeP o (frW o.irs.length fun _ _=>0)):=view_code (1,45) (1,43) rfl rfl 4
   refine CallS.plain [codeP o (frW o.irs.length fun _ _=>0),.int .i64 k] (aggW (useW o k)) (own_spec o _ k hlt (by rw [H.hd];exact hlt) H.hf H.hr H.hs (H.sh k hlt)) (LeL.cons hview (LeL.cons (.refl _) LeL.nil)) (leafyW _) ?_
   repeat'(first|refine vcI ?_|refine And.intro ?_ ?_|(intro hq;(try simp at hq);(try(exfalso;omega));(try(revert hq;intro))))
   ·rfl
   refine Exists.intro (owW o.irs.length fun i q=>if i<k+1 then useW o i q else 0) (And.intro ?_ (And.intro rfl ?_))
   ·refine NEq.owns rfl rfl fun a b ha hb=>row_at hb ?_
    show (if a<k+1 then useW o a b else 0)=_
    by_cases e:a=k
    ·rw [if_pos e,if_pos (by omega),e]
    ·rw [if_neg e]
     exact ite_congr (by rw [eq_iff_iff];omega) (fun _=>rfl) fun _=>rfl
   have hw:IntKind.i64.wrap ((k:Int)+1)=((k+1:Nat):Int):=wrapI (by omega)
   repeat'(first|refine vcI ?_|refine And.intro ?_ ?_|(intro hq;(try simp at hq);(try(exfalso;omega));(try(revert hq;intro))))
   refine Exists.intro (k+1,v) ⟨by dsimp only;omega,(by first|omega|(dsimp only;omega)),⟨by ((repeat' apply And.intro) <;> (first|exact True.intro|exact NEq.refl _|(refine NEq.int ?_;first|exact rfl|omega|(rw [wrapI (by omega)];first|exact rfl|omega)))),⟨⟨rfl,.refl _⟩,⟨rfl,.refl _⟩,⟨rfl,.refl _⟩,trivial⟩,.chk hS rfl⟩⟩
  ·rename_i hge
   obtain rfl:k=o.irs.length:=by omega
   have hw:IntKind.i64.wrap ((o.irs.length:Int) - 1)=(o.irs.length:Int) - 1:=by rw [IntKind.wrap_i64];omega
   repeat'(first|refine vcI ?_|refine And.intro ?_ ?_|(intro hq;(try simp at hq);(try(exfalso;omega));(try(revert hq;intro))))
   refine loopS3 mx (by decide) (by kernel_rfl) (fun (j:Nat) (W':Nat→Nat→Nat) (b:Bool)=>j≤o.irs.length∧InvW o W'∧(b=true→unset o.irs.length W'<unset o.irs.length (fun _ _=>0))∧(b=false→W'=(fun _ _=>0)∧∀ m,j≤m→m<o.irs.length→∀ q,q<4→stepW o (fun _ _=>0) m q=(fun _ _=>0) m q)) (fun j W' b=>[(5,.int .i64 ((j:Int) - 1)),(4,.bool b),(2,.ref (2,16) v [] 4 0 o.irs.length),(0,.ptr (1,45) vc [] 0 0)]) (fun j W' b=>mem1 o vc vl v W' (useW o)) (fun j W' b=>j) o.irs.length (fun _ _=>0) false ⟨Nat.le_refl _,(InvW.zero o),(by simp),fun _=>⟨rfl,fun m h1 h2=>by omega⟩⟩ ⟨by ((repeat' apply And.intro) <;> (first|exact True.intro|exact NEq.refl _|(refine NEq.int ?_;first|exact rfl|omega|(rw [wrapI (by omega)];first|exact rfl|omega)))),⟨⟨rfl,NEq.owns rfl rfl fun i q hi hq=>NEq.of_eq (by dsimp only;rw [if_pos hi])⟩,⟨rfl,.refl _⟩,⟨rfl,.refl _⟩,trivial⟩,.chk hS rfl⟩ ?_
   intro j W' b nv ⟨hj,hI,hb1,hb0⟩
   rcases j with _|i
   ·repeat'(first|refine vcI ?_|refine And.intro ?_ ?_|(intro hq;(try simp at hq);(try(exfalso;omega));(try(revert hq;intro))))
    ·exact Exists.intro (W',v) ⟨hI,⟨by ((repeat' apply And.intro) <;> (first|exact True.intro|exact NEq.refl _|(refine NEq.int ?_;first|exact rfl|omega|(rw [wrapI (by omega)];first|exact rfl|omega)))),⟨⟨rfl,.refl _⟩,⟨rfl,.refl _⟩,⟨rfl,.refl _⟩,trivial⟩,.chk hS rfl⟩⟩
    ·obtain ⟨rfl,hst⟩:=hb0 ‹_›
     refine Exists.intro (PV.tup []) (Exists.intro _ (And.intro ⟨rfl,rfl⟩ (And.intro (.refl _) (And.intro ⟨⟨rfl,.refl _⟩,⟨rfl,?_⟩,trivial⟩ (.chk hS rfl)))))
     refine NEq.owns rfl rfl fun i q hi hq=>NEq.of_eq ?_
     rw [InvW.done H hI (fun i hi q hq=>hst i (Nat.zero_le _) hi q hq) hi hq]
   have hil':i<o.irs.length:=by omega
   have e5:((i+1:Nat):Int) - 1=(i:Int):=by omega
   rw [e5]
   have hw2:IntKind.i64.wrap ((i:Int) - 1)=(i:Int) - 1:=by rw [IntKind.wrap_i64];omega
   repeat'(first|refine vcI ?_|refine And.intro ?_ ?_|(intro hq;(try simp at hq);(try(exfalso;omega));(try(revert hq;intro))))
   refine CallS.nexts o (frW o.irs.length W') i hil' hil (H.op hil') (LeL.cons (view_code (1,45) (1,43) rfl rfl 4) (LeL.cons (.refl _) LeL.nil)) ?_
   repeat'(first|refine vcI ?_|refine And.intro ?_ ?_|(intro hq;(try simp at hq);(try(exfalso;omega));(try(revert hq;intro))))
   obtain ⟨g,hg⟩:∃ g,g=goesL (o.irs.getD i default) i:=⟨_,rfl⟩
   obtain ⟨pd,hpd⟩:∃ pd,pd=padL (o.irs.getD i default) i:=⟨_,rfl⟩
   have hgl:g.length≤2:=by rw [hg];unfold goesL;split <;> (try split) <;> (try split) <;> (try split) <;> (try split) <;> simp
   have hgk:∀ k,k<g.length→0≤(g++pd).getD k 0∧(g++pd).getD k 0<(o.irs.length:Int):=fun k hk=>by
    rw [getD_app0 _ _ hk]
    have hm:g.getD k 0∈goesL (o.irs.getD i default) i:=by rw [← hg,List.getD_eq_getElem?_getD];exact getD_mem _ hk
    exact H.go i hil' _ hm
   rw [← hg,← hpd]
   refine loopS3 mx (by decide) (by kernel_rfl) (fun (k v6 v46:Nat)=>k≤g.length) (fun k v6 v46=>[(48,.int .i64 k),(47,.int .i64 g.length),(46,.ref (2,46) v46 [] 1 0 g.length),(6,.ptr (2,6) v6 [] 0 0),(5,.int .i64 i),(4,.bool b),(2,.ref (2,16) v [] 4 0 o.irs.length),(0,.ptr (1,45) vc [] 0 0)]) (fun k v6 v46=>((2,6),⟨v6,.obox 4 (setC (joinL W' (g.take k)))⟩)::((2,46),⟨v46,oints (g++pd)⟩)::mem1 o vc vl v W' (useW o)) (fun k v6 v46=>g.length - k) 0 _ _ (by simp) ⟨by ((repeat' apply And.intro) <;> (first|exact True.intro|exact NEq.refl _|(refine NEq.int ?_;first|exact rfl|omega|(rw [wrapI (by omega)];first|exact rfl|omega)))),?_,.chk hS rfl⟩ ?_
   ·refine ⟨⟨rfl,.obox fun q hq=>?_⟩,⟨rfl,.refl _⟩,⟨rfl,.refl _⟩,⟨rfl,.refl _⟩,⟨rfl,.refl _⟩,trivial⟩
    rcases (by have:q<4:=hq;omega:q=0∨q=1∨q=2∨q=3) with rfl|rfl|rfl|rfl <;> exact .refl _
   intro k v6 v46 nv hk
   repeat'(first|refine vcI ?_|refine And.intro ?_ ?_|(intro hq;(try simp at hq);(try(exfalso;omega));(try(revert hq;intro))))
   ·have h1:=hgk k (by assumption)
    rw [Int.toNat_natCast,Nat.zero_add];omega
   ·have h1:=hgk k (by assumption)
    rw [Int.toNat_natCast,Nat.zero_add];omega
   ·rename_i hlt
    refine CallS.onA (L0:=[((2,6),⟨v6,.obox 4 (setC (joinL W' (g.take k)))⟩)]) (M:=((2,46),⟨v46,oints (g++pd)⟩)::mem1 o vc vl v W' (useW o)) ((setJoin26_spec (joinL W' (g.take k)) (W' (0+((g++pd).getD (0+(k:Int).toNat) 0).toNat)) (joinL_lt hI.lt _) (hI.lt _) v6 _ _ (Above.chk rfl (hS.mono (by decide)))).less ?_) (fun r=>?_) ?_
    ·refine LeL.cons (.refl _) (LeL.cons ?_ LeL.nil)
     show NEq (.agg (List.map _ (List.range (Tryz.prog.cellsOf 68)))) _
     rw [show Tryz.prog.cellsOf 68=4 by kernel_rfl]
     exact .refl _
    ·rfl
    rintro x L' nv' ⟨rfl,rfl⟩
    have hw:IntKind.i64.wrap ((k:Int)+1)=((k+1:Nat):Int):=wrapI (by omega)
    repeat'(first|refine vcI ?_|refine And.intro ?_ ?_|(intro hq;(try simp at hq);(try(exfalso;omega));(try(revert hq;intro))))
    refine Exists.intro (k+1,v6,v46) ⟨by dsimp only;omega,(by first|omega|(dsimp only;omega)),⟨by ((repeat' apply And.intro) <;> (first|exact True.intro|exact NEq.refl _|(refine NEq.int ?_;first|exact rfl|omega|(rw [wrapI (by omega)];first|exact rfl|omega)))),⟨⟨rfl,?_⟩,⟨rfl,.refl _⟩,⟨rfl,.refl _⟩,⟨rfl,.refl _⟩,⟨rfl,.refl _⟩,trivial⟩,.chk hS rfl⟩⟩
    show NEq _ (.obox 4 (setC (joinL W' (g.take (k+1)))))
    rw [take_succD 0 hlt,joinL_snoc,Int.toNat_natCast,Nat.zero_add,Nat.zero_add,getD_app0 _ _ hlt]
    exact .refl _
   ·show 0≤(o.irs.getD i default).op;have:=H.op hil';omega
   ·show (o.irs.getD i default).op<_;have:=H.op hil';omega
   ·rw [cRow];decide
   ·rw [cRow];show 0+12+(o.irs.getD i default).op.toNat*4+1≤81;have:=H.op hil';omega
   ·show 0+12+(o.irs.getD i default).op.toNat*Tryz.prog.cellsOf 71+1+Tryz.prog.cellsOf 4≤81
    rw [cRow,show Tryz.prog.cellsOf 4=1 by kernel_rfl];have:=H.op hil';omega
   ·rw [show Tryz.prog.cellsOf 4=1 by kernel_rfl];decide
   rw [mk_sets o _ _ (H.op hil') (by rw [cRow];show 0+12+(o.irs.getD i default).op.toNat*4+1=_;omega)]
   repeat'(first|refine vcI ?_|refine And.intro ?_ ?_|(intro hq;(try simp at hq);(try(exfalso;omega));(try(revert hq;intro))))
   ·have hd0:=H.d hil' (by assumption)
    show 0≤IntKind.i64.wrap ((o.irs.getD i default).d.tdiv 64)
    rw [wdiv64 hd0];omega
   ·have hd0:=H.d hil' (by assumption)
    show IntKind.i64.wrap ((o.irs.getD i default).d.tdiv 64)<4
    rw [wdiv64 hd0];omega
   ·rw [cW];decide
   ·have hd0:=H.d hil' (by assumption)
    show 0+(IntKind.i64.wrap ((o.irs.getD i default).d.tdiv 64)).toNat*Tryz.prog.cellsOf 66+Tryz.prog.cellsOf 66≤4
    rw [cW,wdiv64 hd0];omega
   ·rw [cW];decide
   ·have hd0:=H.d hil' (by assumption)
    show 0≤(o.irs.getD i default).d.tmod 64
    exact Int.tmod_nonneg _ hd0.1
   ·have hd0:=H.d hil' (by assumption)
    show 0≤IntKind.i64.wrap ((o.irs.getD i default).d.tdiv 64)
    rw [wdiv64 hd0];omega
   ·have hd0:=H.d hil' (by assumption)
    show IntKind.i64.wrap ((o.irs.getD i default).d.tdiv 64)<4
    rw [wdiv64 hd0];omega
   ·rw [cW];decide
   ·have hd0:=H.d hil' (by assumption)
    show 0+(IntKind.i64.wrap ((o.irs.getD i default).d.tdiv 64)).toNat*Tryz.prog.cellsOf 66+1≤4
    rw [cW,wdiv64 hd0];omega
   ·have hkg:k=g.length:=by omega
    have hsb:setsB (o.irs.getD i default).op=true:=by assumption
    refine CallS.on1e (r:=(2,6)) (v:=v6) (node' := .obox 4 (setC (clrW (joinL W' g) (o.irs.getD i default).d.toNat))) (n:=3) rfl ?_ ?_ (Above.chk rfl (hS.mono (by decide))) (fun S' hS'=>setJoin26_spec (clrW (joinL W' g) (o.irs.getD i default).d.toNat) (useW o (0+(i:Int).toNat)) (clrW_lt (joinL_lt hI.lt _) _) (useW_lt o _) v6 _ S' hS') ?_
    ·exact congrArg (PV.obox 4) (funext fun b=>clr_node (H.d hil' (by assumption)) (joinL_lt hI.lt (g.take k)) (by rw [hkg,List.take_length]) b)
    ·refine LeL.cons (.refl _) (LeL.cons ?_ LeL.nil)
     show NEq (.agg (List.map _ (List.range (Tryz.prog.cellsOf 68)))) _
     rw [show Tryz.prog.cellsOf 68=4 by kernel_rfl]
     exact .refl _
    rintro x L' nv' ⟨rfl,rfl⟩
    have ei:0+(i:Int).toNat=i:=by omega
    have es:stepW o W' i=joinW (clrW (joinL W' g) (o.irs.getD i default).d.toNat) (useW o i) 4:=(by unfold stepW;rw [if_pos hsb,← hg])
    rw [ei]
    rw [← es]
    repeat'(first|refine vcI ?_|refine And.intro ?_ ?_|(intro hq;(try simp at hq);(try(exfalso;omega));(try(revert hq;intro))))
    ·rfl
    ·have hne:∃ q,q<4∧stepW o W' i q≠W' i q:=ne4 (by assumption)
     refine Exists.intro (owW o.irs.length (updW W' i (stepW o W' i))) (And.intro ?_ (And.intro rfl ?_))
     ·rw [show Tryz.prog.cellsOf 68=4 by kernel_rfl]
      refine NEq.owns rfl rfl fun a b ha hb=>row_at (us:=stepW o W' i) hb ?_
      rfl
     repeat'(first|refine vcI ?_|refine And.intro ?_ ?_|(intro hq;(try simp at hq);(try(exfalso;omega));(try(revert hq;intro))))
     have hlt:=unset_upd hI hil' hne
     refine Exists.intro (i,updW W' i (stepW o W' i),true) ⟨⟨by dsimp only;omega,hI.upd H hil',fun _=>?_,by simp⟩,(by first|omega|(dsimp only;omega)),⟨by ((repeat' apply And.intro) <;> (first|exact True.intro|exact NEq.refl _|(refine NEq.int ?_;first|exact rfl|omega|(rw [wrapI (by omega)];first|exact rfl|omega)))),⟨⟨rfl,.refl _⟩,⟨rfl,.refl _⟩,⟨rfl,.refl _⟩,trivial⟩,.chk hS rfl⟩⟩
     cases hbb:b
     ·rw [(hb0 hbb).1] at hlt ⊢;exact hlt
     ·exact Nat.lt_trans hlt (hb1 hbb)
    ·have heq:∀ q,q<4→stepW o W' i q=W' i q:=eq4 (by assumption)
     refine Exists.intro (i,W',b) ⟨⟨by dsimp only;omega,hI,hb1,fun hbb=>⟨(hb0 hbb).1,fun m h1 h2=>?_⟩⟩,(by first|omega|(dsimp only;omega)),⟨by ((repeat' apply And.intro) <;> (first|exact True.intro|exact NEq.refl _|(refine NEq.int ?_;first|exact rfl|omega|(rw [wrapI (by omega)];first|exact rfl|omega)))),⟨⟨rfl,.refl _⟩,⟨rfl,.refl _⟩,⟨rfl,.refl _⟩,trivial⟩,.chk hS rfl⟩⟩
     by_cases e:m=i
     ·subst e;rw [← (hb0 hbb).1];exact heq
     ·exact (hb0 hbb).2 m (by omega) h2
   ·have hkg:k=g.length:=by omega
    have hsf:setsB (o.irs.getD i default).op=false:=by assumption
    have hsb:¬ setsB (o.irs.getD i default).op=true:=by rw [hsf];simp
    repeat'(first|refine vcI ?_|refine And.intro ?_ ?_|(intro hq;(try simp at hq);(try(exfalso;omega));(try(revert hq;intro))))
    refine CallS.on1e (r:=(2,6)) (v:=v6) (node' := .obox 4 (setC (joinL W' g))) (n:=3) rfl ?_ ?_ (Above.chk rfl (hS.mono (by decide))) (fun S' hS'=>setJoin26_spec (joinL W' g) (useW o (0+(i:Int).toNat)) (joinL_lt hI.lt _) (useW_lt o _) v6 _ S' hS') ?_
    ·rw [hkg,List.take_length]
    ·refine LeL.cons (.refl _) (LeL.cons ?_ LeL.nil)
     show NEq (.agg (List.map _ (List.range (Tryz.prog.cellsOf 68)))) _
     rw [show Tryz.prog.cellsOf 68=4 by kernel_rfl]
     exact .refl _
    rintro x L' nv' ⟨rfl,rfl⟩
    have ei:0+(i:Int).toNat=i:=by omega
    have es:stepW o W' i=joinW (joinL W' g) (useW o i) 4:=(by unfold stepW;rw [if_neg hsb,← hg])
    rw [ei]
    rw [← es]
    repeat'(first|refine vcI ?_|refine And.intro ?_ ?_|(intro hq;(try simp at hq);(try(exfalso;omega));(try(revert hq;intro))))
    ·rfl
    ·have hne:∃ q,q<4∧stepW o W' i q≠W' i q:=ne4 (by assumption)
     refine Exists.intro (owW o.irs.length (updW W' i (stepW o W' i))) (And.intro ?_ (And.intro rfl ?_))
     ·rw [show Tryz.prog.cellsOf 68=4 by kernel_rfl]
      refine NEq.owns rfl rfl fun a b ha hb=>row_at (us:=stepW o W' i) hb ?_
      rfl
     repeat'(first|refine vcI ?_|refine And.intro ?_ ?_|(intro hq;(try simp at hq);(try(exfalso;omega));(try(revert hq;intro))))
     have hlt:=unset_upd hI hil' hne
     refine Exists.intro (i,updW W' i (stepW o W' i),true) ⟨⟨by dsimp only;omega,hI.upd H hil',fun _=>?_,by simp⟩,(by first|omega|(dsimp only;omega)),⟨by ((repeat' apply And.intro) <;> (first|exact True.intro|exact NEq.refl _|(refine NEq.int ?_;first|exact rfl|omega|(rw [wrapI (by omega)];first|exact rfl|omega)))),⟨⟨rfl,.refl _⟩,⟨rfl,.refl _⟩,⟨rfl,.refl _⟩,trivial⟩,.chk hS rfl⟩⟩
     cases hbb:b
     ·rw [(hb0 hbb).1] at hlt ⊢;exact hlt
     ·exact Nat.lt_trans hlt (hb1 hbb)
    ·have heq:∀ q,q<4→stepW o W' i q=W' i q:=eq4 (by assumption)
     refine Exists.intro (i,W',b) ⟨⟨by dsimp only;omega,hI,hb1,fun hbb=>⟨(hb0 hbb).1,fun m h1 h2=>?_⟩⟩,(by first|omega|(dsimp only;omega)),⟨by ((repeat' apply And.intro) <;> (first|exact True.intro|exact NEq.refl _|(refine NEq.int ?_;first|exact rfl|omega|(rw [wrapI (by omega)];first|exact rfl|omega)))),⟨⟨rfl,.refl _⟩,⟨rfl,.refl _⟩,⟨rfl,.refl _⟩,trivial⟩,.chk hS rfl⟩⟩
     by_cases e:m=i
     ·subst e;rw [← (hb0 hbb).1];exact heq
     ·exact (hb0 hbb).2 m (by omega) h2
 case pass =>
  rintro ⟨W,v⟩ nv hW
  have hw:IntKind.i64.wrap ((o.irs.length:Int) - 1)=(o.irs.length:Int) - 1:=by rw [IntKind.wrap_i64];omega
  repeat'(first|refine vcI ?_|refine And.intro ?_ ?_|(intro hq;(try simp at hq);(try(exfalso;omega));(try(revert hq;intro))))
  refine loopS3 mx (by decide) (by kernel_rfl) (fun (j:Nat) (W':Nat→Nat→Nat) (b:Bool)=>j≤o.irs.length∧InvW o W'∧(b=true→unset o.irs.length W'<unset o.irs.length W)∧(b=false→W'=W∧∀ m,j≤m→m<o.irs.length→∀ q,q<4→stepW o W m q=W m q)) (fun j W' b=>[(5,.int .i64 ((j:Int) - 1)),(4,.bool b),(2,.ref (2,16) v [] 4 0 o.irs.length),(0,.ptr (1,45) vc [] 0 0)]) (fun j W' b=>mem1 o vc vl v W' (useW o)) (fun j W' b=>j) o.irs.length W false ⟨Nat.le_refl _,hW,(by simp),fun _=>⟨rfl,fun m h1 h2=>by omega⟩⟩ ⟨by ((repeat' apply And.intro) <;> (first|exact True.intro|exact NEq.refl _|(refine NEq.int ?_;first|exact rfl|omega|(rw [wrapI (by omega)];first|exact rfl|omega)))),⟨⟨rfl,.refl _⟩,⟨rfl,.refl _⟩,⟨rfl,.refl _⟩,trivial⟩,.chk hS rfl⟩ ?_
  intro j W' b nv ⟨hj,hI,hb1,hb0⟩
  rcases j with _|i
  ·repeat'(first|refine vcI ?_|refine And.intro ?_ ?_|(intro hq;(try simp at hq);(try(exfalso;omega));(try(revert hq;intro))))
   ·exact Exists.intro (W',v) ⟨⟨hI,hb1 (by assumption)⟩,⟨by ((repeat' apply And.intro) <;> (first|exact True.intro|exact NEq.refl _|(refine NEq.int ?_;first|exact rfl|omega|(rw [wrapI (by omega)];first|exact rfl|omega)))),⟨⟨rfl,.refl _⟩,⟨rfl,.refl _⟩,⟨rfl,.refl _⟩,trivial⟩,.chk hS rfl⟩⟩
   ·obtain ⟨rfl,hst⟩:=hb0 ‹_›
    refine Exists.intro (PV.tup []) (Exists.intro _ (And.intro ⟨rfl,rfl⟩ (And.intro (.refl _) (And.intro ⟨⟨rfl,.refl _⟩,⟨rfl,?_⟩,trivial⟩ (.chk hS rfl)))))
    refine NEq.owns rfl rfl fun i q hi hq=>NEq.of_eq ?_
    rw [InvW.done H hI (fun i hi q hq=>hst i (Nat.zero_le _) hi q hq) hi hq]
  have hil':i<o.irs.length:=by omega
  have e5:((i+1:Nat):Int) - 1=(i:Int):=by omega
  rw [e5]
  have hw2:IntKind.i64.wrap ((i:Int) - 1)=(i:Int) - 1:=by rw [IntKind.wrap_i64];omega
  repeat'(first|refine vcI ?_|refine And.intro ?_ ?_|(intro hq;(try simp at hq);(try(exfalso;omega));(try(revert hq;intro))))
  refine CallS.nexts o (frW o.irs.length W') i hil' hil (H.op hil') (LeL.cons (view_code (1,45) (1,43) rfl rfl 4) (LeL.cons (.refl _) LeL.nil)) ?_
  repeat'(first|refine vcI ?_|refine And.intro ?_ ?_|(intro hq;(try simp at hq);(try(exfalso;omega));(try(revert hq;intro))))
  obtain ⟨g,hg⟩:∃ g,g=goesL (o.irs.getD i default) i:=⟨_,rfl⟩
  obtain ⟨pd,hpd⟩:∃ pd,pd=padL (o.irs.getD i default) i:=⟨_,rfl⟩
  have hgl:g.length≤2:=by rw [hg];unfold goesL;split <;> (try split) <;> (try split) <;> (try split) <;> (try split) <;> simp
  have hgk:∀ k,k<g.length→0≤(g++pd).getD k 0∧(g++pd).getD k 0<(o.irs.length:Int):=fun k hk=>by
   rw [getD_app0 _ _ hk]
   have hm:g.getD k 0∈goesL (o.irs.getD i default) i:=by rw [← hg,List.getD_eq_getElem?_getD];exact getD_mem _ hk
   exact H.go i hil' _ hm
  rw [← hg,← hpd]
  refine loopS3 mx (by decide) (by kernel_rfl) (fun (k v6 v46:Nat)=>k≤g.length) (fun k v6 v46=>[(48,.int .i64 k),(47,.int .i64 g.length),(46,.ref (2,46) v46 [] 1 0 g.length),(6,.ptr (2,6) v6 [] 0 0),(5,.int .i64 i),(4,.bool b),(2,.ref (2,16) v [] 4 0 o.irs.length),(0,.ptr (1,45) vc [] 0 0)]) (fun k v6 v46=>((2,6),⟨v6,.obox 4 (setC (joinL W' (g.take k)))⟩)::((2,46),⟨v46,oints (g++pd)⟩)::mem1 o vc vl v W' (useW o)) (fun k v6 v46=>g.length - k) 0 _ _ (by simp) ⟨by ((repeat' apply And.intro) <;> (first|exact True.intro|exact NEq.refl _|(refine NEq.int ?_;first|exact rfl|omega|(rw [wrapI (by omega)];first|exact rfl|omega)))),?_,.chk hS rfl⟩ ?_
  ·refine ⟨⟨rfl,.obox fun q hq=>?_⟩,⟨rfl,.refl _⟩,⟨rfl,.refl _⟩,⟨rfl,.refl _⟩,⟨rfl,.refl _⟩,trivial⟩
   rcases (by have:q<4:=hq;omega:q=0∨q=1∨q=2∨q=3) with rfl|rfl|rfl|rfl <;> exact .refl _
  intro k v6 v46 nv hk
  repeat'(first|refine vcI ?_|refine And.intro ?_ ?_|(intro hq;(try simp at hq);(try(exfalso;omega));(try(revert hq;intro))))
  ·have h1:=hgk k (by assumption)
   rw [Int.toNat_natCast,Nat.zero_add];omega
  ·have h1:=hgk k (by assumption)
   rw [Int.toNat_natCast,Nat.zero_add];omega
  ·rename_i hlt
   refine CallS.onA (L0:=[((2,6),⟨v6,.obox 4 (setC (joinL W' (g.take k)))⟩)]) (M:=((2,46),⟨v46,oints (g++pd)⟩)::mem1 o vc vl v W' (useW o)) ((setJoin26_spec (joinL W' (g.take k)) (W' (0+((g++pd).getD (0+(k:Int).toNat) 0).toNat)) (joinL_lt hI.lt _) (hI.lt _) v6 _ _ (Above.chk rfl (hS.mono (by decide)))).less ?_) (fun r=>?_) ?_
   ·refine LeL.cons (.refl _) (LeL.cons ?_ LeL.nil)
    show NEq (.agg (List.map _ (List.range (Tryz.prog.cellsOf 68)))) _
    rw [show Tryz.prog.cellsOf 68=4 by kernel_rfl]
    exact .refl _
   ·rfl
   rintro x L' nv' ⟨rfl,rfl⟩
   have hw:IntKind.i64.wrap ((k:Int)+1)=((k+1:Nat):Int):=wrapI (by omega)
   repeat'(first|refine vcI ?_|refine And.intro ?_ ?_|(intro hq;(try simp at hq);(try(exfalso;omega));(try(revert hq;intro))))
   refine Exists.intro (k+1,v6,v46) ⟨by dsimp only;omega,(by first|omega|(dsimp only;omega)),⟨by ((repeat' apply And.intro) <;> (first|exact True.intro|exact NEq.refl _|(refine NEq.int ?_;first|exact rfl|omega|(rw [wrapI (by omega)];first|exact rfl|omega)))),⟨⟨rfl,?_⟩,⟨rfl,.refl _⟩,⟨rfl,.refl _⟩,⟨rfl,.refl _⟩,⟨rfl,.refl _⟩,trivial⟩,.chk hS rfl⟩⟩
   show NEq _ (.obox 4 (setC (joinL W' (g.take (k+1)))))
   rw [take_succD 0 hlt,joinL_snoc,Int.toNat_natCast,Nat.zero_add,Nat.zero_add,getD_app0 _ _ hlt]
   exact .refl _
  ·show 0≤(o.irs.getD i default).op;have:=H.op hil';omega
  ·show (o.irs.getD i default).op<_;have:=H.op hil';omega
  ·rw [cRow];decide
  ·rw [cRow];show 0+12+(o.irs.getD i default).op.toNat*4+1≤81;have:=H.op hil';omega
  ·show 0+12+(o.irs.getD i default).op.toNat*Tryz.prog.cellsOf 71+1+Tryz.prog.cellsOf 4≤81
   rw [cRow,show Tryz.prog.cellsOf 4=1 by kernel_rfl];have:=H.op hil';omega
  ·rw [show Tryz.prog.cellsOf 4=1 by kernel_rfl];decide
  rw [mk_sets o _ _ (H.op hil') (by rw [cRow];show 0+12+(o.irs.getD i default).op.toNat*4+1=_;omega)]
  repeat'(first|refine vcI ?_|refine And.intro ?_ ?_|(intro hq;(try simp at hq);(try(exfalso;omega));(try(revert hq;intro))))
  ·have hd0:=H.d hil' (by assumption)
   show 0≤IntKind.i64.wrap ((o.irs.getD i default).d.tdiv 64)
   rw [wdiv64 hd0];omega
  ·have hd0:=H.d hil' (by assumption)
   show IntKind.i64.wrap ((o.irs.getD i default).d.tdiv 64)<4
   rw [wdiv64 hd0];omega
  ·rw [cW];decide
  ·have hd0:=H.d hil' (by assumption)
   show 0+(IntKind.i64.wrap ((o.irs.getD i default).d.tdiv 64)).toNat*Tryz.prog.cellsOf 66+Tryz.prog.cellsOf 66≤4
   rw [cW,wdiv64 hd0];omega
  ·rw [cW];decide
  ·have hd0:=H.d hil' (by assumption)
   show 0≤(o.irs.getD i default).d.tmod 64
   exact Int.tmod_nonneg _ hd0.1
  ·have hd0:=H.d hil' (by assumption)
   show 0≤IntKind.i64.wrap ((o.irs.getD i default).d.tdiv 64)
   rw [wdiv64 hd0];omega
  ·have hd0:=H.d hil' (by assumption)
   show IntKind.i64.wrap ((o.irs.getD i default).d.tdiv 64)<4
   rw [wdiv64 hd0];omega
  ·rw [cW];decide
  ·have hd0:=H.d hil' (by assumption)
   show 0+(IntKind.i64.wrap ((o.irs.getD i default).d.tdiv 64)).toNat*Tryz.prog.cellsOf 66+1≤4
   rw [cW,wdiv64 hd0];omega
  ·have hkg:k=g.length:=by omega
   have hsb:setsB (o.irs.getD i default).op=true:=by assumption
   refine CallS.on1e (r:=(2,6)) (v:=v6) (node' := .obox 4 (setC (clrW (joinL W' g) (o.irs.getD i default).d.toNat))) (n:=3) rfl ?_ ?_ (Above.chk rfl (hS.mono (by decide))) (fun S' hS'=>setJoin26_spec (clrW (joinL W' g) (o.irs.getD i default).d.toNat) (useW o (0+(i:Int).toNat)) (clrW_lt (joinL_lt hI.lt _) _) (useW_lt o _) v6 _ S' hS') ?_
   ·exact congrArg (PV.obox 4) (funext fun b=>clr_node (H.d hil' (by assumption)) (joinL_lt hI.lt (g.take k)) (by rw [hkg,List.take_length]) b)
   ·refine LeL.cons (.refl _) (LeL.cons ?_ LeL.nil)
    show NEq (.agg (List.map _ (List.range (Tryz.prog.cellsOf 68)))) _
    rw [show Tryz.prog.cellsOf 68=4 by kernel_rfl]
    exact .refl _
   rintro x L' nv' ⟨rfl,rfl⟩
   have ei:0+(i:Int).toNat=i:=by omega
   have es:stepW o W' i=joinW (clrW (joinL W' g) (o.irs.getD i default).d.toNat) (useW o i) 4:=(by unfold stepW;rw [if_pos hsb,← hg])
   rw [ei]
   rw [← es]
   repeat'(first|refine vcI ?_|refine And.intro ?_ ?_|(intro hq;(try simp at hq);(try(exfalso;omega));(try(revert hq;intro))))
   ·rfl
   ·have hne:∃ q,q<4∧stepW o W' i q≠W' i q:=ne4 (by assumption)
    refine Exists.intro (owW o.irs.length (updW W' i (stepW o W' i))) (And.intro ?_ (And.intro rfl ?_))
    ·rw [show Tryz.prog.cellsOf 68=4 by kernel_rfl]
     refine NEq.owns rfl rfl fun a b ha hb=>row_at (us:=stepW o W' i) hb ?_
     rfl
    repeat'(first|refine vcI ?_|refine And.intro ?_ ?_|(intro hq;(try simp at hq);(try(exfalso;omega));(try(revert hq;intro))))
    have hlt:=unset_upd hI hil' hne
    refine Exists.intro (i,updW W' i (stepW o W' i),true) ⟨⟨by dsimp only;omega,hI.upd H hil',fun _=>?_,by simp⟩,(by first|omega|(dsimp only;omega)),⟨by ((repeat' apply And.intro) <;> (first|exact True.intro|exact NEq.refl _|(refine NEq.int ?_;first|exact rfl|omega|(rw [wrapI (by omega)];first|exact rfl|omega)))),⟨⟨rfl,.refl _⟩,⟨rfl,.refl _⟩,⟨rfl,.refl _⟩,trivial⟩,.chk hS rfl⟩⟩
    cases hbb:b
    ·rw [(hb0 hbb).1] at hlt ⊢;exact hlt
    ·exact Nat.lt_trans hlt (hb1 hbb)
   ·have heq:∀ q,q<4→stepW o W' i q=W' i q:=eq4 (by assumption)
    refine Exists.intro (i,W',b) ⟨⟨by dsimp only;omega,hI,hb1,fun hbb=>⟨(hb0 hbb).1,fun m h1 h2=>?_⟩⟩,(by first|omega|(dsimp only;omega)),⟨by ((repeat' apply And.intro) <;> (first|exact True.intro|exact NEq.refl _|(refine NEq.int ?_;first|exact rfl|omega|(rw [wrapI (by omega)];first|exact rfl|omega)))),⟨⟨rfl,.refl _⟩,⟨rfl,.refl _⟩,⟨rfl,.refl _⟩,trivial⟩,.chk hS rfl⟩⟩
    by_cases e:m=i
    ·subst e;rw [← (hb0 hbb).1];exact heq
    ·exact (hb0 hbb).2 m (by omega) h2
  ·have hkg:k=g.length:=by omega
   have hsf:setsB (o.irs.getD i default).op=false:=by assumption
   have hsb:¬ setsB (o.irs.getD i default).op=true:=by rw [hsf];simp
   repeat'(first|refine vcI ?_|refine And.intro ?_ ?_|(intro hq;(try simp at hq);(try(exfalso;omega));(try(revert hq;intro))))
   refine CallS.on1e (r:=(2,6)) (v:=v6) (node' := .obox 4 (setC (joinL W' g))) (n:=3) rfl ?_ ?_ (Above.chk rfl (hS.mono (by decide))) (fun S' hS'=>setJoin26_spec (joinL W' g) (useW o (0+(i:Int).toNat)) (joinL_lt hI.lt _) (useW_lt o _) v6 _ S' hS') ?_
   ·rw [hkg,List.take_length]
   ·refine LeL.cons (.refl _) (LeL.cons ?_ LeL.nil)
    show NEq (.agg (List.map _ (List.range (Tryz.prog.cellsOf 68)))) _
    rw [show Tryz.prog.cellsOf 68=4 by kernel_rfl]
    exact .refl _
   rintro x L' nv' ⟨rfl,rfl⟩
   have ei:0+(i:Int).toNat=i:=by omega
   have es:stepW o W' i=joinW (joinL W' g) (useW o i) 4:=(by unfold stepW;rw [if_neg hsb,← hg])
   rw [ei]
   rw [← es]
   repeat'(first|refine vcI ?_|refine And.intro ?_ ?_|(intro hq;(try simp at hq);(try(exfalso;omega));(try(revert hq;intro))))
   ·rfl
   ·have hne:∃ q,q<4∧stepW o W' i q≠W' i q:=ne4 (by assumption)
    refine Exists.intro (owW o.irs.length (updW W' i (stepW o W' i))) (And.intro ?_ (And.intro rfl ?_))
    ·rw [show Tryz.prog.cellsOf 68=4 by kernel_rfl]
     refine NEq.owns rfl rfl fun a b ha hb=>row_at (us:=stepW o W' i) hb ?_
     rfl
    repeat'(first|refine vcI ?_|refine And.intro ?_ ?_|(intro hq;(try simp at hq);(try(exfalso;omega));(try(revert hq;intro))))
    have hlt:=unset_upd hI hil' hne
    refine Exists.intro (i,updW W' i (stepW o W' i),true) ⟨⟨by dsimp only;omega,hI.upd H hil',fun _=>?_,by simp⟩,(by first|omega|(dsimp only;omega)),⟨by ((repeat' apply And.intro) <;> (first|exact True.intro|exact NEq.refl _|(refine NEq.int ?_;first|exact rfl|omega|(rw [wrapI (by omega)];first|exact rfl|omega)))),⟨⟨rfl,.refl _⟩,⟨rfl,.refl _⟩,⟨rfl,.refl _⟩,trivial⟩,.chk hS rfl⟩⟩
    cases hbb:b
    ·rw [(hb0 hbb).1] at hlt ⊢;exact hlt
    ·exact Nat.lt_trans hlt (hb1 hbb)
   ·have heq:∀ q,q<4→stepW o W' i q=W' i q:=eq4 (by assumption)
    refine Exists.intro (i,W',b) ⟨⟨by dsimp only;omega,hI,hb1,fun hbb=>⟨(hb0 hbb).1,fun m h1 h2=>?_⟩⟩,(by first|omega|(dsimp only;omega)),⟨by ((repeat' apply And.intro) <;> (first|exact True.intro|exact NEq.refl _|(refine NEq.int ?_;first|exact rfl|omega|(rw [wrapI (by omega)];first|exact rfl|omega)))),⟨⟨rfl,.refl _⟩,⟨rfl,.refl _⟩,⟨rfl,.refl _⟩,trivial⟩,.chk hS rfl⟩⟩
    by_cases e:m=i
    ·subst e;rw [← (hb0 hbb).1];exact heq
    ·exact (hb0 hbb).2 m (by omega) h2
end Go.Ab
namespace Go.Ab
open Go.Proofs
set_option maxRecDepth 100000
set_option maxHeartbeats 4000000

structure OpenP (o:DO):Prop where
 ne:0<o.irs.length
 le:o.irs.length≤600
 hd:o.descs.length=o.irs.length
 ht:o.types.length=o.irs.length
 r1:1≤o.regs
 r2:o.regs≤250
 ty:∀ i,i<o.irs.length→(((o.types.getD i []).length:Nat):Int)=o.regs
 sh:∀ i,i<o.irs.length→shapedX o (o.irs.getD i default) (o.descs.getD i [])=true
 la:fallsB (o.irs.getD (o.irs.length - 1) default).op=false

theorem OpenP.fl {o:DO} (H:OpenP o) (hf:fewN o≤6000) (hs:∀ l∈o.descs,l.length≤1048576∧∀ f∈l,f.small):FlH o:=by
 refine ⟨hf,H.r2,H.hd,hs,H.sh,H.ne,fun i hi k hk=>?_⟩
 have hsh:=H.sh i hi
 simp only [shapedX,Bool.and_eq_true,decide_eq_true_eq,Bool.not_eq_true'] at hsh
 obtain ⟨s1,s2,s3,s4,s5,s6,s7⟩:=hsh
 have hn:goesB (o.irs.getD i default).op=true→0≤(o.irs.getD i default).n∧(o.irs.getD i default).n<(o.irs.length:Int):=fun hg=>by
  unfold swB at s4
  rw [hg] at s4
  cases hb:insB o.irs.length (o.irs.getD i default).n
  ·rw [hb] at s4;simp at s4
  ·simpa [insB] using hb
 have hf1:fallsB (o.irs.getD i default).op=true→(i:Int)+1<(o.irs.length:Int):=fun h1=>by
  have:i≠o.irs.length - 1:=fun e=>by rw [e,H.la] at h1;cases h1
  have:=H.ne
  omega
 unfold goesL at hk
 unfold goesB at hn
 unfold fallsB at hf1
 generalize (o.irs.getD i default).op=op at *
 split at hk
 ·rename_i e;subst e
  simp only [List.mem_singleton] at hk
  subst hk
  exact hn rfl
 ·split at hk
  ·simp at hk
  ·rename_i e1 e2
   have hf2:=hf1 (by simp;omega)
   split at hk
   ·rename_i e3
    have hn2:=hn (by rcases e3 with rfl|rfl <;> rfl)
    split at hk
    ·simp only [List.mem_singleton] at hk;subst hk;omega
    ·split at hk
     ·simp only [List.mem_cons,List.not_mem_nil,or_false] at hk
      rcases hk with rfl|rfl <;> omega
     ·simp only [List.mem_cons,List.not_mem_nil,or_false] at hk
      rcases hk with rfl|rfl <;> omega
   ·simp only [List.mem_singleton] at hk;subst hk;omega

open Classical in
noncomputable def openR (o:DO):PV:=if OpenP o then .tup [codeP o (frW o.irs.length fun i=>wordsP (LiveP o i)),.int .i64 0] else .tup [.nilp,.int .i64 210]
theorem openR_ok {o:DO} (H:OpenP o):openR o = .tup [codeP o (frW o.irs.length fun i=>wordsP (LiveP o i)),.int .i64 0]:=if_pos H
theorem openR_bad {o:DO} (H:¬ OpenP o):openR o = .tup [.nilp,.int .i64 210]:=if_neg H

theorem mk_falls {vc:Nat} (o:DO) (lv:PV) (op:Int) {off:Nat} (h:1≤op∧op≤16) (hoff:off=12+op.toNat*4+2):mkV Tryz.prog 4 (fun j=>cellV (1,45) vc [] 0 j (codeC o lv j)) off = .bool (fallsB op):=by
 subst hoff
 have key:∀ n:Nat,1≤n∧n≤16→mkV Tryz.prog 4 (fun j=>cellV (1,45) vc [] 0 j (codeC o lv j)) (12+n*4+2) = .bool (fallsB (n:Int)):=by
  intro n hn
  rcases (by omega:n=1∨n=2∨n=3∨n=4∨n=5∨n=6∨n=7∨n=8∨n=9∨n=10∨n=11∨n=12∨n=13∨n=14∨n=15∨n=16) with rfl|rfl|rfl|rfl|rfl|rfl|rfl|rfl|rfl|rfl|rfl|rfl|rfl|rfl|rfl|rfl <;> rfl
 have h2:=key op.toNat (by omega)
 rw [Int.toNat_of_nonneg (by omega)] at h2
 exact h2
def mem46 (o:DO) (vc vl:Nat):Hp:=[((1,45),⟨vc,.obox 81 (codeC o (.ref (1,43) vl [] 4 0 o.irs.length))⟩),((1,43),⟨vl,owW o.irs.length fun _ _=>0⟩),((1,1),⟨0,.obox 12 (rowL (dol o))⟩)]
theorem open_spec (o:DO) (hf:fewN o≤6000) (hs:∀ l∈o.descs,l.length≤1048576∧∀ f∈l,f.small):CallsF Tryz.prog 30 [.agg (dol o)] (openR o):=by
 have hil:o.irs.length≤6000:=by unfold fewN at hf;omega
 have hdl:o.descs.length≤6000:=by unfold fewN at hf;omega
 have htl:o.types.length≤6000:=by unfold fewN at hf;omega
 refine callsF_ofS mx Tryz.call30 Tryz.func30 rfl Tryz.ntmps30 Tryz.results30 (by kernel_rfl) (by simp) fun lo=>?_
 repeat'(first|refine vcI ?_|refine And.intro ?_ ?_|(intro hq;(try simp at hq);(try(exfalso;omega));(try(revert hq;intro))))
 ·simp;omega
 ·simp;omega
 ·rw [openR_bad fun H=>by have h1:=H.ne;have h2:=H.le;have h3:=H.hd;have h4:=H.ht;have h5:=H.r1;have h6:=H.r2;omega];exact .refl _
 ·refine QS.frozen (.agg rowsL) table_spec (plainAll rfl) ?_
  repeat'(first|refine vcI ?_|refine And.intro ?_ ?_|(intro hq;(try simp at hq);(try(exfalso;omega));(try(revert hq;intro))))
  ·rw [show Tryz.prog.bytesOf 68=32 by kernel_rfl];omega
  ·rfl
  ·kernel_rfl
  rw [show Tryz.prog.cellsOf 32=12 by kernel_rfl]
  repeat'(first|refine vcI ?_|refine And.intro ?_ ?_|(intro hq;(try simp at hq);(try(exfalso;omega));(try(revert hq;intro))))
  have hcon:0<o.irs.length∧o.irs.length≤600∧o.descs.length=o.irs.length∧o.types.length=o.irs.length∧1≤o.regs∧o.regs≤250:=by omega
  obtain ⟨c1,c2,c3,c4,c5,c6⟩:=hcon
  refine loopS3 mx (by decide) (by kernel_rfl) (fun (k vc vl:Nat)=>k≤o.irs.length∧∀ i,i<k→(((o.types.getD i []).length:Nat):Int)=o.regs∧shapedX o (o.irs.getD i default) (o.descs.getD i [])=true) (fun k vc vl=>[(47,.int .i64 k),(46,.int .i64 o.irs.length),(5,.ptr (1,45) vc [] 0 0),(4,.int .i64 o.irs.length),(1,.ptr (1,1) 0 [] 0 0)]) (fun k vc vl=>mem46 o vc vl) (fun k vc vl=>o.irs.length - k) 0 _ _ ⟨by simp,fun i hi=>by omega⟩ ⟨by ((repeat' apply And.intro) <;> (first|exact True.intro|exact NEq.refl _|(refine NEq.int ?_;first|exact rfl|omega|(rw [wrapI (by omega)];first|exact rfl|omega)))),⟨⟨rfl,.obox ?_⟩,⟨rfl,NEq.owns rfl (by simp) ?_⟩,⟨rfl,.refl _⟩,trivial⟩,.nil⟩ ?_
  ·intro q hq
   exact NEq.of_eq (congrArg (fun l=>rowL l q) (by rfl:_=codeL o (.ref (1,43) _ [] 4 0 o.irs.length)))
  ·intro i q hi hq
   rcases (by have:q<4:=hq;omega:q=0∨q=1∨q=2∨q=3) with rfl|rfl|rfl|rfl <;> exact .refl _
  rintro k vc vl nv ⟨hk,hI⟩
  repeat'(first|refine vcI ?_|refine And.intro ?_ ?_|(intro hq;(try simp at hq);(try(exfalso;omega));(try(revert hq;intro))))
  ·rename_i hlt hty
   have hview:NEq (view 9 (mem46 o vc vl++[]) (.ptr (1,45) vc [] 0 0)) (codeP o (frW o.irs.length fun _ _=>0)):=view_code (1,45) (1,43) rfl rfl 4
   have hk2:k<o.irs.length:=by omega
   have hty2:(((o.types.getD (k:Int).toNat []).length:Nat):Int)=o.regs:=by first|exact hty|exact hlt
   have hbt:((((o.types.getD (k:Int).toNat []).length:Nat):Int) != o.regs)=false:=by rw [hty2];simp
   rw [hbt]
   have hspec:=shaped_spec o (frW o.irs.length fun _ _=>0) k hk2 (by omega) hf hs
   rcases hsx:shapedX o (o.irs.getD k default) (o.descs.getD k []) with _|_
   ·rw [hsx] at hspec
    refine CallS.plain [codeP o (frW o.irs.length fun _ _=>0),.int .i64 k] (.bool false) hspec ?_ trivial ?_
    ·exact LeL.cons hview (LeL.cons (.refl _) LeL.nil)
    repeat'(first|refine vcI ?_|refine And.intro ?_ ?_|(intro hq;(try simp at hq);(try(exfalso;omega));(try(revert hq;intro))))
    rw [openR_bad fun H=>by have h1:=H.sh k hk2;rw [hsx] at h1;cases h1]
    exact .refl _
   ·rw [hsx] at hspec
    refine CallS.plain [codeP o (frW o.irs.length fun _ _=>0),.int .i64 k] (.bool true) hspec ?_ trivial ?_
    ·exact LeL.cons hview (LeL.cons (.refl _) LeL.nil)
    have hw:IntKind.i64.wrap ((k:Int)+1)=((k+1:Nat):Int):=wrapI (by omega)
    repeat'(first|refine vcI ?_|refine And.intro ?_ ?_|(intro hq;(try simp at hq);(try(exfalso;omega));(try(revert hq;intro))))
    refine Exists.intro (k+1,vc,vl) ⟨⟨by dsimp only;omega,fun i hi=>?_⟩,(by first|omega|(dsimp only;omega)),⟨by ((repeat' apply And.intro) <;> (first|exact True.intro|exact NEq.refl _|(refine NEq.int ?_;first|exact rfl|omega|(rw [wrapI (by omega)];first|exact rfl|omega)))),⟨⟨rfl,.refl _⟩,⟨rfl,.refl _⟩,⟨rfl,.refl _⟩,trivial⟩,.nil⟩⟩
    by_cases e:i=k
    ·subst e;exact ⟨hty2,hsx⟩
    ·exact hI i (by omega)
  ·rw [openR_bad fun H=>absurd (H.ty k (by omega)) (by assumption)]
   exact .refl _
  all_goals
   obtain rfl:k=o.irs.length:=by omega
   have hwn:IntKind.i64.wrap ((o.irs.length:Int) - 1)=((o.irs.length - 1:Nat):Int):=by rw [IntKind.wrap_i64];omega
   obtain ⟨hty,hsx⟩:=hI (o.irs.length - 1) (by omega)
   have hop:1≤(o.irs.getD (o.irs.length - 1) default).op∧(o.irs.getD (o.irs.length - 1) default).op≤16:=by
    simp only [shapedX,Bool.and_eq_true,decide_eq_true_eq,Bool.not_eq_true'] at hsx
    exact ⟨hsx.1,hsx.2.1⟩
   try rw [hwn]
   try rw [Int.toNat_natCast]
   try rw [cRow]
   try rw [show Tryz.prog.cellsOf 4=1 by kernel_rfl]
  ·omega
  ·omega
  ·omega
  ·show _<(17:Int);omega
  ·decide
  ·show 0+12+(o.irs.getD (o.irs.length - 1) default).op.toNat*4+2≤81;omega
  ·show 0+12+(o.irs.getD (o.irs.length - 1) default).op.toNat*4+2+1≤81;omega
  ·decide
  rw [mk_falls o _ _ hop (by show 0+12+(o.irs.getD (o.irs.length - 1) default).op.toNat*4+2=_;omega)]
  repeat'(first|refine vcI ?_|refine And.intro ?_ ?_|(intro hq;(try simp at hq);(try(exfalso;omega));(try(revert hq;intro))))
  ·rw [openR_bad fun H=>by have h1:=H.la;simp_all]
   exact .refl _
  ·have HO:OpenP o:=⟨c1,c2,c3,c4,c5,c6,fun i hi=>(hI i hi).1,fun i hi=>(hI i hi).2,by assumption⟩
   refine CallS.onA (L0:=mem0 o vc vl fun _ _=>0) (M:=[((1,1),⟨0,.obox 12 (rowL (dol o))⟩)]) (flow_spec o (HO.fl hf hs) vc vl _ _ (Above.chk rfl Above.nil)) (fun r=>rfl) ?_
   rintro x L' nv' ⟨rfl,rfl⟩
   repeat'(first|refine vcI ?_|refine And.intro ?_ ?_|(intro hq;(try simp at hq);(try(exfalso;omega));(try(revert hq;intro))))
   rw [openR_ok HO]
   exact NEq.tup2 (view_code (1,45) (1,43) rfl rfl 3) (.refl _)
 ·rw [openR_bad fun H=>by have h1:=H.ne;have h2:=H.le;have h3:=H.hd;have h4:=H.ht;have h5:=H.r1;have h6:=H.r2;omega];exact .refl _
 ·rw [openR_bad fun H=>by have h1:=H.ne;have h2:=H.le;have h3:=H.hd;have h4:=H.ht;have h5:=H.r1;have h6:=H.r2;omega];exact .refl _
end Go.Ab
namespace Go.Ab
open Go.Proofs
set_option maxRecDepth 100000
set_option maxHeartbeats 4000000

noncomputable def liveL (o:DO) (i:Nat):List Int:=listW (wordsP (LiveP o i)) 250
def ansE (x:List Int × Int):PV := .tup [ints x.1,.int .i64 x.2]

theorem ans_nils (e:Int):NEq (.tup [.nils,.int .i64 e]) (ansE ([],e)):=NEq.tup2 .nils (.refl _)
theorem insB_yes {n:Nat} {i:Int} (h:0≤i∧i<(n:Int)):insB n i=true:=by simp [insB,h]
theorem insB_no {n:Nat} {i:Int} (h:¬ (0≤i∧i<(n:Int))):insB n i=false:=by simp only [insB,h,decide_false]

theorem cOpt:Tryz.prog.cellsOf 32=12:=by kernel_rfl
theorem mk_opt (o:DO) (r:RId) (v:Nat):mkV Tryz.prog 32 (fun j=>cellV r v [] 0 j (rowL (dol o) j)) 0 = .agg (dol o):=by
 show PV.agg (List.map _ (List.range (Tryz.prog.cellsOf 32)))=_
 rw [cOpt];rfl
theorem mem_listW {ws:Nat→Nat} {n:Nat} {r:Int}:r∈listW ws n↔∃ q:Nat,q<n∧bitW ws q=true∧r=q:=by
 induction n with
 | zero=>simp [listW]
 | succ n ih =>
  cases h:bitW ws n
  ·rw [listW_no h,ih]
   constructor
   ·rintro ⟨q,h1,h2⟩;exact ⟨q,by omega,h2⟩
   ·rintro ⟨q,h1,h2,h3⟩
    by_cases e:q=n
    ·subst e;rw [h] at h2;cases h2
    ·exact ⟨q,by omega,h2,h3⟩
  ·rw [listW_yes h,List.mem_append,ih]
   constructor
   ·rintro (⟨q,h1,h2⟩|h1)
    ·exact ⟨q,by omega,h2⟩
    ·rw [List.mem_singleton] at h1;exact ⟨n,by omega,h,h1⟩
   ·rintro ⟨q,h1,h2,h3⟩
    by_cases e:q=n
    ·subst e;exact .inr (by rw [h3];simp)
    ·exact .inl ⟨q,by omega,h2,h3⟩
theorem mem_liveL {o:DO} {i:Nat} {r:Nat} (hr:r<250):(r:Int)∈liveL o i↔LiveP o i r:=by
 unfold liveL
 rw [mem_listW]
 constructor
 ·rintro ⟨q,h1,h2,h3⟩
  have:r=q:=by omega
  subst this
  exact (bit_wordsP _ _).1 h2
 ·intro h
  exact ⟨r,hr,(bit_wordsP _ _).2 h,rfl⟩
theorem goesL_len (x:DI) (i:Nat):(goesL x i).length≤2:=by
 unfold goesL;split <;> (try split) <;> (try split) <;> (try split) <;> (try split) <;> simp
end Go.Ab
namespace Go.Ab
open Go.Proofs
set_option maxRecDepth 100000
set_option maxHeartbeats 1000000

theorem joinAt_spec (n i:Nat) (hi:i<n) (W:Nat→Nat→Nat) (us:Nat→Nat) (hw:∀ a o,W a o<18446744073709551616) (hu:∀ o,us o<18446744073709551616) (v nv:Nat) (S:Hp) (hS:Above 3 S) :
  CallsA Tryz.prog 88 [.ptr (1,14) v [] i 0,aggW us] ([((1,14),⟨v,owW n W⟩)]++S) nv
   fun x hp' nv'=>∃ L',hp'=L'++S∧(x = .tup []∧L'=[((1,14),⟨v,owW n (updW W i (joinW (W i) us 4))⟩)]):=by
 refine callsA_ofS (lv:=3) (by decide) mx Tryz.call88 Tryz.func88 rfl Tryz.ntmps88 Tryz.results88 (by kernel_rfl) (by simp) fun lo=>?_
 repeat'(first|refine vcI ?_|refine And.intro ?_ ?_|(intro hq;(try simp at hq);(try(exfalso;omega));(try(revert hq;intro))))
 refine loopS mx (by decide) (by kernel_rfl) (fun k:Nat=>k≤4) (fun k=>[(5,.int .i64 k),(0,.ptr (1,14) v [] i 0),(3,.ptr (3,3) nv [] 0 0)]) (fun k=>[((3,3),⟨nv,.obox 4 (setC us)⟩),((1,14),⟨v,owW n (updW W i (joinW (W i) us k))⟩)]) (fun k=>4 - k) 0 (by simp) ?_ ?_
 ·refine ⟨by ((repeat' apply And.intro) <;> (first|exact True.intro|exact NEq.refl _|(refine NEq.int ?_;first|exact rfl|omega|(rw [wrapI (by omega)];first|exact rfl|omega)))),⟨⟨rfl,.obox fun o ho=>?_⟩,⟨rfl,NEq.owns rfl rfl fun a o ha ho=>NEq.of_eq ?_⟩,trivial⟩,.chk hS rfl⟩
  ·have ho':o<4:=ho
   rcases (by omega:o=0∨o=1∨o=2∨o=3) with rfl|rfl|rfl|rfl <;> exact .refl _
  ·unfold updW
   split
   ·rename_i e;subst e;simp [joinW]
   ·rfl
 intro k nv hk
 repeat'(first|refine vcI ?_|refine And.intro ?_ ?_|(intro hq;(try simp at hq);(try(exfalso;omega));(try(revert hq;intro))))
 ·rw [cW];omega
 ·rw [cW];decide
 ·rw [cW];omega
 ·rw [cW];decide
 ·show 0+(k:Int).toNat*Tryz.prog.cellsOf 66+1≤4
  rw [cW];omega
 ·rfl
 ·refine Exists.intro (owW n (updW W i (joinW (W i) us (k+1)))) (And.intro (NEq.owns rfl rfl fun a b ha hb=>NEq.of_eq ?_) (And.intro rfl ?_))
  ·show (if a=i∧0+(k:Int).toNat*Tryz.prog.cellsOf 66≤b∧b<0+(k:Int).toNat*Tryz.prog.cellsOf 66+1 then List.getD [PV.int .u64 (IntKind.u64.wrap ((BitVec.ofInt IntKind.u64.bits (updW W i (joinW (W i) us k) i (0+(k:Int).toNat*Tryz.prog.cellsOf 66):Int) ||| BitVec.ofInt IntKind.u64.bits (us (0+(k:Int).toNat*Tryz.prog.cellsOf 66):Int)).toNat:Int))] (b - (0+(k:Int).toNat*Tryz.prog.cellsOf 66)) .undef else .int .u64 (updW W i (joinW (W i) us k) a b)) = .int .u64 (updW W i (joinW (W i) us (k+1)) a b)
   rw [cW]
   simp only [Int.toNat_natCast,Nat.zero_add,Nat.mul_one]
   have ek:updW W i (joinW (W i) us k) i k=W i k:=by simp [updW,joinW]
   rw [ek,orr_at (hw _ _) (hu _)]
   by_cases c:a=i∧b=k
   ·obtain ⟨rfl,rfl⟩:=c
    rw [if_pos (by omega),Nat.sub_self]
    simp [updW,joinW]
   ·rw [if_neg (by omega)]
    unfold updW
    by_cases e:a=i
    ·rw [if_pos e,if_pos e]
     have hbk:b≠k:=fun h=>c ⟨e,h⟩
     unfold joinW
     by_cases c2:b<k
     ·rw [if_pos c2,if_pos (by omega)]
     ·rw [if_neg c2,if_neg (by omega)]
    ·rw [if_neg e,if_neg e]
  have hw1:IntKind.i64.wrap ((k:Int)+1)=((k+1:Nat):Int):=wrapI (by omega)
  repeat'(first|refine vcI ?_|refine And.intro ?_ ?_|(intro hq;(try simp at hq);(try(exfalso;omega));(try(revert hq;intro))))
  exact Exists.intro (k+1) ⟨by dsimp only;omega,(by first|omega|(dsimp only;omega)),⟨by ((repeat' apply And.intro) <;> (first|exact True.intro|exact NEq.refl _|(refine NEq.int ?_;first|exact rfl|omega|(rw [wrapI (by omega)];first|exact rfl|omega)))),⟨⟨rfl,.refl _⟩,⟨rfl,.refl _⟩,trivial⟩,.chk hS rfl⟩⟩
 ·obtain rfl:k=4:=by omega
  exact Exists.intro (PV.tup []) (Exists.intro _ (And.intro ⟨rfl,rfl⟩ (And.intro (.refl _) (And.intro ⟨⟨rfl,.refl _⟩,trivial⟩ (.chk hS rfl)))))
theorem putAt_spec (n i:Nat) (hi:i<n) (W:Nat→Nat→Nat) (hw:∀ a o,W a o<18446744073709551616) (r:Nat) (hr:r<256) (v nv:Nat) (S:Hp) (hS:Above 3 S) :
  CallsA Tryz.prog 42 [.ptr (1,14) v [] i 0,.int .i64 r] ([((1,14),⟨v,owW n W⟩)]++S) nv
   fun x hp' nv'=>∃ L',hp'=L'++S∧(x = .tup []∧L'=[((1,14),⟨v,owW n (updW W i (setW (W i) r))⟩)]):=by
 have e1:=wrap64_div (r:=r) (by omega)
 have e2:=tmod64 r
 refine callsA_ofS (lv:=3) (by decide) mx Tryz.call42 Tryz.func42 rfl Tryz.ntmps42 Tryz.results42 (by kernel_rfl) (by simp) fun lo=>?_
 repeat'(first|refine vcI ?_|refine And.intro ?_ ?_|(intro hq;(try simp at hq);(try(exfalso;omega));(try(revert hq;intro))))
 ·rw [cW,e1];omega
 ·rw [cW];decide
 ·show 0+(IntKind.i64.wrap ((r:Int).tdiv 64)).toNat*Tryz.prog.cellsOf 66+1≤4
  rw [cW,e1];omega
 ·rfl
 refine Exists.intro (owW n (updW W i (setW (W i) r))) (And.intro (NEq.owns rfl rfl fun a b ha hb=>NEq.of_eq ?_) (And.intro rfl ?_))
 ·show (if a=i∧0+(IntKind.i64.wrap ((r:Int).tdiv 64)).toNat*Tryz.prog.cellsOf 66≤b∧b<0+(IntKind.i64.wrap ((r:Int).tdiv 64)).toNat*Tryz.prog.cellsOf 66+1 then List.getD [PV.int .u64 (IntKind.u64.wrap ((BitVec.ofInt IntKind.u64.bits (W i (0+(IntKind.i64.wrap ((r:Int).tdiv 64)).toNat*Tryz.prog.cellsOf 66):Int) ||| BitVec.ofInt IntKind.u64.bits (IntKind.u64.wrap (1*2 ^ min ((r:Int).tmod 64).toNat IntKind.u64.bits))).toNat:Int))] (b - (0+(IntKind.i64.wrap ((r:Int).tdiv 64)).toNat*Tryz.prog.cellsOf 66)) .undef else .int .u64 (W a b)) = .int .u64 (updW W i (setW (W i) r) a b)
  rw [cW,e1,e2]
  simp only [Int.toNat_natCast,Nat.zero_add,Nat.mul_one]
  rw [or_at (hw _ _) (Nat.mod_lt _ (by decide))]
  by_cases c:a=i∧b=r / 64
  ·obtain ⟨rfl,rfl⟩:=c
   rw [if_pos (by omega),Nat.sub_self]
   simp [updW,setW]
  ·rw [if_neg (by omega)]
   unfold updW
   by_cases e:a=i
   ·rw [if_pos e,e]
    have hbk:b≠r / 64:=fun h=>c ⟨e,h⟩
    unfold setW
    rw [if_neg hbk]
   ·rw [if_neg e]
 repeat'(first|refine vcI ?_|refine And.intro ?_ ?_|(intro hq;(try simp at hq);(try(exfalso;omega));(try(revert hq;intro))))
 exact Exists.intro (PV.tup []) (Exists.intro _ (And.intro ⟨rfl,rfl⟩ (And.intro (.refl _) (And.intro ⟨⟨rfl,.refl _⟩,trivial⟩ (.chk hS rfl)))))
end Go.Ab
namespace Go.Ab
open Go.Proofs
set_option maxRecDepth 100000
set_option maxHeartbeats 4000000

def putsW (W:Nat→Nat→Nat) (r:Nat) (l:List Int):Nat→Nat→Nat:=l.foldl (fun W k=>updW W k.toNat (setW (W k.toNat) r)) W
def meetW (W:Nat→Nat→Nat) (s:Nat→Nat) (l:List Int):Nat→Nat→Nat:=l.foldl (fun W r=>putsW (updW W r.toNat (joinW (W r.toNat) s 4)) r.toNat (listW s 250)) W
theorem putsW_snoc (W:Nat→Nat→Nat) (r:Nat) (l:List Int) (k:Int):putsW W r (l++[k])=updW (putsW W r l) k.toNat (setW (putsW W r l k.toNat) r):=by
 unfold putsW;rw [List.foldl_append];rfl
theorem meetW_snoc (W:Nat→Nat→Nat) (s:Nat→Nat) (l:List Int) (r:Int):meetW W s (l++[r])=putsW (updW (meetW W s l) r.toNat (joinW (meetW W s l r.toNat) s 4)) r.toNat (listW s 250):=by
 unfold meetW;rw [List.foldl_append];rfl
theorem updW_lt {W:Nat→Nat→Nat} {i:Nat} {s:Nat→Nat} (h:∀ a o,W a o<18446744073709551616) (hs:∀ o,s o<18446744073709551616):∀ a o,updW W i s a o<18446744073709551616:=fun a o=>by
 unfold updW;split
 ·exact hs o
 ·exact h a o
theorem putsW_lt {W:Nat→Nat→Nat} (r:Nat) (h:∀ a o,W a o<18446744073709551616) (l:List Int):∀ a o,putsW W r l a o<18446744073709551616:=by
 unfold putsW
 induction l generalizing W with
 | nil=>exact h
 | cons k l ih=>exact ih (updW_lt h (setW_lt (h _) r))
theorem meetW_lt {W:Nat→Nat→Nat} {s:Nat→Nat} (h:∀ a o,W a o<18446744073709551616) (hs:∀ o,s o<18446744073709551616) (l:List Int):∀ a o,meetW W s l a o<18446744073709551616:=by
 unfold meetW
 induction l generalizing W with
 | nil=>exact h
 | cons k l ih=>exact ih (putsW_lt _ (updW_lt h (joinW_lt (h _) hs 4)) _)
theorem bit_putsW (W:Nat→Nat→Nat) (r:Nat) {a b:Nat} (l:List Int) (hl:∀ k∈l,0≤k):bitW (putsW W r l a) b=true↔bitW (W a) b=true∨(b=r∧(a:Int)∈l):=by
 unfold putsW
 induction l generalizing W with
 | nil=>simp
 | cons k l ih =>
  have hk:=hl k (by simp)
  rw [List.foldl_cons,ih _ fun x hx=>hl x (List.mem_cons_of_mem _ hx),bit_updW]
  by_cases e:a=k.toNat
  ·subst e
   rw [if_pos rfl,bit_setW,Bool.or_eq_true,decide_eq_true_eq]
   have:((k.toNat:Nat):Int)=k:=Int.toNat_of_nonneg hk
   simp only [this,List.mem_cons,true_or,and_true]
   constructor
   ·rintro ((h|h)|h)
    ·exact .inl h
    ·exact .inr h
    ·exact .inr h.1
   ·rintro (h|h)
    ·exact .inl (.inl h)
    ·exact .inl (.inr h)
  ·rw [if_neg e]
   have:¬ (a:Int)=k:=by omega
   simp only [List.mem_cons,this,false_or]
theorem mem_listS {s:Nat→Nat} {a:Nat} (ha:a<250):(a:Int)∈listW s 250↔bitW s a=true:=by
 rw [mem_listW]
 constructor
 ·rintro ⟨q,_,h2,h3⟩;obtain rfl:a=q:=by omega
  exact h2
 ·intro h;exact ⟨a,ha,h,rfl⟩
theorem listW_nn {s:Nat→Nat} {n:Nat}:∀ k∈listW s n,0≤k∧k<(n:Int):=fun k hk=>by
 obtain ⟨q,h1,_,rfl⟩:=mem_listW.1 hk
 omega
theorem bit_meetW (W:Nat→Nat→Nat) (s:Nat→Nat) {a b:Nat} (ha:a<250) (hb:b<256) (l:List Int) (hl:∀ k∈l,0≤k):bitW (meetW W s l a) b=true↔bitW (W a) b=true∨((a:Int)∈l∧bitW s b=true)∨(bitW s a=true∧(b:Int)∈l):=by
 unfold meetW
 induction l generalizing W with
 | nil=>simp
 | cons k l ih =>
  have hk:=hl k (by simp)
  rw [List.foldl_cons,ih _ fun x hx=>hl x (List.mem_cons_of_mem _ hx),bit_putsW _ _ _ fun x hx=>(listW_nn x hx).1,bit_updW,mem_listS ha]
  have hkn:((k.toNat:Nat):Int)=k:=Int.toNat_of_nonneg hk
  have eb:b=k.toNat↔(b:Int)=k:=by omega
  have ea:a=k.toNat↔(a:Int)=k:=by omega
  rw [eb]
  simp only [List.mem_cons]
  by_cases e:a=k.toNat
  ·have e2:=ea.1 e
   rw [if_pos e,bit_joinW _ _ hb,Bool.or_eq_true,← e]
   simp only [e2,true_or,true_and]
   constructor
   ·rintro (((h|h)|⟨h1,h2⟩)|⟨h1,h2⟩|⟨h1,h2⟩)
    ·exact .inl h
    ·exact .inr (.inl h)
    ·exact .inr (.inr ⟨h2,.inl h1⟩)
    ·exact .inr (.inl h2)
    ·exact .inr (.inr ⟨h1,.inr h2⟩)
   ·rintro (h|h|⟨h1,h2|h2⟩)
    ·exact .inl (.inl (.inl h))
    ·exact .inl (.inl (.inr h))
    ·exact .inl (.inr ⟨h2,h1⟩)
    ·exact .inr (.inr ⟨h1,h2⟩)
  ·have e2:¬ (a:Int)=k:=fun h=>e (ea.2 h)
   rw [if_neg e]
   simp only [e2,false_or]
   constructor
   ·rintro ((h|⟨h1,h2⟩)|⟨h1,h2⟩|⟨h1,h2⟩)
    ·exact .inl h
    ·exact .inr (.inr ⟨h2,.inl h1⟩)
    ·exact .inr (.inl ⟨h1,h2⟩)
    ·exact .inr (.inr ⟨h1,.inr h2⟩)
   ·rintro (h|⟨h1,h2⟩|⟨h1,h2|h2⟩)
    ·exact .inl (.inl h)
    ·exact .inr (.inl ⟨h1,h2⟩)
    ·exact .inl (.inr ⟨h2,h1⟩)
    ·exact .inr (.inr ⟨h1,h2⟩)

theorem mk_set (s:Nat→Nat) (r:RId) (v i:Nat):mkV Tryz.prog 68 (fun j=>cellV r v [] i j (setC s j)) 0=aggW s:=by
 show PV.agg (List.map _ (List.range (Tryz.prog.cellsOf 68)))=_
 rw [show Tryz.prog.cellsOf 68=4 by kernel_rfl];rfl
theorem view_set {hp:Hp} {r:RId} {v k:Nat} {s:Nat→Nat} (h:lkH hp r=some ⟨v,.obox 4 (setC s)⟩):NEq (view (k+2) hp (.ptr r v [] 0 0)) (.fptr 4 (setC s) 0):=by
 rw [view,h]
 simp only [if_true,getAt]
 exact NEq.fptr fun o ho => .refl _
def mem50 (n v vo:Nat) (W:Nat→Nat→Nat):Hp:=[((1,14),⟨v,owW n W⟩),((1,3),⟨vo,.obox 1 fun _ => .ref (1,14) v [] 4 0 n⟩)]
theorem meet_spec (n:Nat) (hn:n≤250) (W:Nat→Nat→Nat) (s:Nat→Nat) (hW:∀ a o,W a o<18446744073709551616) (hs:∀ o,s o<18446744073709551616) (l:List Int) (hll:l.length≤1048576) (hl:∀ r∈l,0≤r∧r<(n:Int)) (hsn:∀ r∈listW s 250,r<(n:Int)) (v vo nv:Nat) (S:Hp) (hS:Above 2 S) :
  CallsA Tryz.prog 87 [ints l,aggW s,.ptr (1,3) vo [] 0 0] (mem50 n v vo W++S) nv
   fun x hp' nv'=>∃ L',hp'=L'++S∧(x = .tup []∧L'=mem50 n v vo (meetW W s l)):=by
 refine callsA_ofS (lv:=2) (by decide) mx Tryz.call87 Tryz.func87 rfl Tryz.ntmps87 Tryz.results87 (by kernel_rfl) (by simp) fun lo=>?_
 repeat'(first|refine vcI ?_|refine And.intro ?_ ?_|(intro hq;(try simp at hq);(try(exfalso;omega));(try(revert hq;intro))))
 refine loopS2 mx (by decide) (by kernel_rfl) (fun (k v4:Nat)=>k≤l.length) (fun k v4=>[(11,.int .i64 k),(10,.int .i64 l.length),(9,ints l),(4,.ptr (2,4) v4 [] 0 0),(2,.ptr (1,3) vo [] 0 0)]) (fun k v4=>((2,4),⟨v4,.obox 4 (setC s)⟩)::mem50 n v vo (meetW W s (l.take k))) (fun k v4=>l.length - k) 0 _ (by simp) ⟨by ((repeat' apply And.intro) <;> (first|exact True.intro|exact NEq.refl _|(refine NEq.int ?_;first|exact rfl|omega|(rw [wrapI (by omega)];first|exact rfl|omega)))),⟨⟨rfl,.obox ?_⟩,⟨rfl,.refl _⟩,⟨rfl,.refl _⟩,trivial⟩,.chk hS rfl⟩ ?_
 ·intro o ho
  rcases (by have:o<4:=ho;omega:o=0∨o=1∨o=2∨o=3) with rfl|rfl|rfl|rfl <;> exact .refl _
 intro k v4 nv hk
 repeat'(first|refine vcI ?_|refine And.intro ?_ ?_|(intro hq;(try simp at hq);(try(exfalso;omega));(try(revert hq;intro))))
 ·have h1:=hl _ (getD_mem 0 (by omega:k<l.length));exact h1.1
 ·have h1:=hl _ (getD_mem 0 (by omega:k<l.length));show l[k]?.getD 0<_;omega
 ·have hlt:k<l.length:=by assumption
  obtain ⟨r0,r1⟩:=hl _ (getD_mem 0 hlt)
  obtain ⟨r,hr⟩:∃ r:Nat,l.getD (k:Int).toNat 0=(r:Int):=⟨_,(Int.toNat_of_nonneg r0).symm⟩
  have hrn:r<n:=by have:l[k]?.getD 0=(r:Int):=hr;omega
  have esn:l.take (k+1)=l.take k++[(r:Int)]:=by rw [take_succD 0 hlt];congr 2
  obtain ⟨Wk,hWk⟩:∃ Wk,Wk=meetW W s (l.take k):=⟨_,rfl⟩
  have hWl:∀ a o,Wk a o<18446744073709551616:=by rw [hWk];exact meetW_lt hW hs _
  rw [mk_set,hr,← hWk]
  refine CallS.on1e (r:=(1,14)) (v:=v) (node':=owW n Wk) (n:=3) rfl rfl (LeL.refl _) (Above.chk rfl (hS.mono (by decide))) (fun S' hS'=>joinAt_spec n (0+(r:Int).toNat) (by omega) Wk s hWl hs v _ S' hS') ?_
  rintro x L' nv' ⟨rfl,rfl⟩
  repeat'(first|refine vcI ?_|refine And.intro ?_ ?_|(intro hq;(try simp at hq);(try(exfalso;omega));(try(revert hq;intro))))
  refine CallS.ownInts [.fptr 4 (setC s) 0] (listW s 250) (setList_spec s hs) ?_ ?_
  ·exact LeL.cons (view_set (k:=7) rfl) LeL.nil
  repeat'(first|refine vcI ?_|refine And.intro ?_ ?_|(intro hq;(try simp at hq);(try(exfalso;omega));(try(revert hq;intro))))
  have hlen:=listW_len s 250
  refine loopS3 mx (by decide) (by kernel_rfl) (fun (j v20 v4:Nat)=>j≤(listW s 250).length) (fun j v20 v4=>[(22,.int .i64 j),(21,.int .i64 (listW s 250).length),(20,.ref (2,20) v20 [] 1 0 (listW s 250).length),(6,.int .i64 r),(11,.int .i64 k),(10,.int .i64 l.length),(9,ints l),(4,.ptr (2,4) v4 [] 0 0),(2,.ptr (1,3) vo [] 0 0)]) (fun j v20 v4=>((2,20),⟨v20,oints (listW s 250)⟩)::((2,4),⟨v4,.obox 4 (setC s)⟩)::mem50 n v vo (putsW (updW Wk (0+(r:Int).toNat) (joinW (Wk (0+(r:Int).toNat)) s 4)) r ((listW s 250).take j))) (fun j v20 v4=>(listW s 250).length - j) 0 _ v4 (by simp) ⟨by ((repeat' apply And.intro) <;> (first|exact True.intro|exact NEq.refl _|(refine NEq.int ?_;first|exact rfl|omega|(rw [wrapI (by omega)];first|exact rfl|omega)))),⟨⟨rfl,.refl _⟩,⟨rfl,.refl _⟩,⟨rfl,.refl _⟩,⟨rfl,.refl _⟩,trivial⟩,.chk hS rfl⟩ ?_
  intro j v20 v4 nv hj
  repeat'(first|refine vcI ?_|refine And.intro ?_ ?_|(intro hq;(try simp at hq);(try(exfalso;omega));(try(revert hq;intro))))
  ·have h1:=listW_nn (s:=s) (n:=250) _ (getD_mem 0 (by omega:0+(j:Int).toNat<(listW s 250).length));exact h1.1
  ·have h1:=hsn _ (getD_mem 0 (by omega:0+(j:Int).toNat<(listW s 250).length));show (listW s 250)[0+(j:Int).toNat]?.getD 0<_;omega
  ·have hjl:j<(listW s 250).length:=by assumption
   have ejj:0+(j:Int).toNat=j:=by omega
   obtain ⟨q0,q1⟩:=listW_nn (s:=s) (n:=250) _ (getD_mem 0 hjl)
   have q2:=hsn _ (getD_mem 0 hjl)
   obtain ⟨q,hq⟩:∃ q:Nat,(listW s 250).getD j 0=(q:Int):=⟨_,(Int.toNat_of_nonneg q0).symm⟩
   have hqn:q<n:=by have:(listW s 250)[j]?.getD 0=(q:Int):=hq;omega
   have esj:(listW s 250).take (j+1)=(listW s 250).take j++[(q:Int)]:=by rw [take_succD 0 hjl];congr 2
   obtain ⟨Wj,hWj⟩:∃ Wj,Wj=putsW (updW Wk (0+(r:Int).toNat) (joinW (Wk (0+(r:Int).toNat)) s 4)) r ((listW s 250).take j):=⟨_,rfl⟩
   have hWjl:∀ a o,Wj a o<18446744073709551616:=by rw [hWj];exact putsW_lt _ (updW_lt hWl (joinW_lt (hWl _) hs 4)) _
   rw [ejj,hq,← hWj]
   refine CallS.on1e (r:=(1,14)) (v:=v) (node':=owW n Wj) (n:=3) rfl rfl (LeL.refl _) (Above.chk rfl (hS.mono (by decide))) (fun S' hS'=>putAt_spec n (0+(q:Int).toNat) (by omega) Wj hWjl r (by omega) v _ S' hS') ?_
   rintro x L' nv' ⟨rfl,rfl⟩
   have hw1:IntKind.i64.wrap ((j:Int)+1)=((j+1:Nat):Int):=wrapI (by omega)
   repeat'(first|refine vcI ?_|refine And.intro ?_ ?_|(intro hq;(try simp at hq);(try(exfalso;omega));(try(revert hq;intro))))
   refine Exists.intro (j+1,v20,v4) ⟨by dsimp only;omega,(by first|omega|(dsimp only;omega)),⟨by ((repeat' apply And.intro) <;> (first|exact True.intro|exact NEq.refl _|(refine NEq.int ?_;first|exact rfl|omega|(rw [wrapI (by omega)];first|exact rfl|omega)))),⟨⟨rfl,.refl _⟩,⟨rfl,.refl _⟩,⟨rfl,?_⟩,⟨rfl,.refl _⟩,trivial⟩,.chk hS rfl⟩⟩
   show NEq _ (owW n (putsW (updW Wk (0+(r:Int).toNat) (joinW (Wk (0+(r:Int).toNat)) s 4)) r ((listW s 250).take (j+1))))
   rw [esj,putsW_snoc,← hWj,Int.toNat_natCast,Nat.zero_add]
   exact .refl _
  ·have hw1:IntKind.i64.wrap ((k:Int)+1)=((k+1:Nat):Int):=wrapI (by omega)
   obtain rfl:j=(listW s 250).length:=by omega
   repeat'(first|refine vcI ?_|refine And.intro ?_ ?_|(intro hq;(try simp at hq);(try(exfalso;omega));(try(revert hq;intro))))
   refine Exists.intro (k+1,v4) ⟨by dsimp only;omega,(by first|omega|(dsimp only;omega)),⟨by ((repeat' apply And.intro) <;> (first|exact True.intro|exact NEq.refl _|(refine NEq.int ?_;first|exact rfl|omega|(rw [wrapI (by omega)];first|exact rfl|omega)))),⟨⟨rfl,.refl _⟩,⟨rfl,?_⟩,⟨rfl,.refl _⟩,trivial⟩,.chk hS rfl⟩⟩
   show NEq _ (owW n (meetW W s (l.take (k+1))))
   rw [esn,meetW_snoc,← hWk,List.take_length,Int.toNat_natCast,Nat.zero_add]
   exact .refl _
 ·obtain rfl:k=l.length:=by omega
  refine Exists.intro (PV.tup []) (Exists.intro _ (And.intro ⟨rfl,rfl⟩ (And.intro (.refl _) (And.intro ⟨⟨rfl,?_⟩,⟨rfl,.refl _⟩,trivial⟩ (.chk hS rfl)))))
  rw [List.take_length]
  exact .refl _
end Go.Ab
