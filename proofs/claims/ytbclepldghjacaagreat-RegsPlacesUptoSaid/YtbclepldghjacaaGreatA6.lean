/- proteuslaw21.RegsPlaces is true whatever the input, and the input reads as it did, where what it reads is of bulk at most 1048576. -/
import Derived.Test.YtbclepldghjacaaGreatA5
import Derived.Test.YtbclepldghjacaaGreatW1
set_option linter.unusedVariables false
set_option linter.unusedSimpArgs false
namespace Go.Ab
open Go.Proofs
set_option maxRecDepth 100000
set_option maxHeartbeats 4000000

def zeroI:List PV:=[.int .i64 0,.int .i64 0,.int .i64 0,.int .i64 0,.int .i64 0,.int .i64 0,.nils,.str ⟨#[]⟩,.int .i64 0,.int .i64 0,.str ⟨#[]⟩,.int .i64 0,.int .i64 0,.int .i64 0,.int .i64 0,.str ⟨#[]⟩]
theorem part_fields (op:Int) (h:1≤op∧op≤16):partPV Tryz.prog 150 fieldsL (op.toNat*Tryz.prog.cellsOf 150)=some (.agg (fieldC (setsB op) (aB op) (bB op) (gB op))):=by
 rw [show Tryz.prog.cellsOf 150=4 by kernel_rfl]
 obtain ⟨n,rfl⟩:=Int.eq_ofNat_of_zero_le (by omega:0≤op)
 have key:∀ n:Nat,1≤n∧n≤16→partPV Tryz.prog 150 fieldsL ((n:Int).toNat*4)=some (.agg (fieldC (setsB n) (aB n) (bB n) (gB n))):=by
  intro n hn
  rcases (by omega:n=1∨n=2∨n=3∨n=4∨n=5∨n=6∨n=7∨n=8∨n=9∨n=10∨n=11∨n=12∨n=13∨n=14∨n=15∨n=16) with rfl|rfl|rfl|rfl|rfl|rfl|rfl|rfl|rfl|rfl|rfl|rfl|rfl|rfl|rfl|rfl <;> kernel_rfl
 exact key n (by omega)
def tm80 (cp:PV) (l:List Int) (v:Nat):Tm:=[(2,.fptr 1 (fun _=>rnP cp l) 0),(3,.ptr (1,3) 1 [] 0 0),(4,.ptr (1,4) 2 [] 0 0),(5,.ptr (1,5) v [] 0 0)]
def mem80 (x:DI) (op:Int) (v:Nat):Hp:=[((1,5),⟨v,.obox 4 (rowL (fieldC (setsB op) (aB op) (bB op) (gB op)))⟩),((1,4),⟨2,.obox 16 (rowL zeroI)⟩),((1,3),⟨1,.obox 16 (rowL (dil x))⟩)]
def trueP {ι:Type} (_:ι):Prop:=True
theorem instr_spec (cp:PV) (l:List Int) (x:DI) (hl:l.length≤1048576) (ha:x.args.length≤1048576) (hop:1≤x.op∧x.op≤16) (h:RegsI l.length x):CallsF Tryz.prog 48 [rnP cp l,.agg (dil x)] (.agg (dil (renI l x))):=by
 refine callsF_ofL Tryz.call48 Tryz.func48 rfl Tryz.ntmps48 Tryz.results48 (by simp) fun lo=>?_
 repeat refine splitL ?_
 refine meetL mx (by decide) trueP (fun _:Unit=>[(2,.ptr (1,2) 0 [] 0 0),(3,.ptr (1,3) 1 [] 0 0),(4,.ptr (1,4) 2 [] 0 0)]) (fun _=>[((1,2),⟨0,.obox 1 fun _=>rnP cp l⟩),((1,4),⟨2,.obox 16 (rowL zeroI)⟩),((1,3),⟨1,.obox 16 (rowL (dil x))⟩)]) (by kernel_rfl) ?_ fun _ nv _=>?_
 ·repeat'(first|refine vcI ?_|refine And.intro ?_ ?_|(intro hq;(try simp at hq);(try(exfalso;omega));(try(revert hq;intro))))
  refine ⟨(),trivial,⟨by ((repeat' apply And.intro) <;> (first|exact True.intro|exact NEq.refl _|(refine NEq.int ?_;first|exact rfl|omega|(rw [wrapI (by omega)];first|exact rfl|omega)))),⟨⟨rfl,.obox ?_⟩,⟨rfl,.refl _⟩,⟨rfl,.refl _⟩,trivial⟩,.nil⟩⟩
  intro q hq
  obtain rfl:q=0:=by have:q<1:=hq;omega
  exact .refl _
 refine freezeL (tm:=[(2,.ptr (1,2) 0 [] 0 0),(3,.ptr (1,3) 1 [] 0 0),(4,.ptr (1,4) 2 [] 0 0)]) 2 9 [((1,2),⟨0,.obox 1 fun _=>rnP cp l⟩)] [((1,4),⟨2,.obox 16 (rowL zeroI)⟩),((1,3),⟨1,.obox 16 (rowL (dil x))⟩)] (.fptr 1 (fun _=>rnP cp l) 0) rfl ?_ ?_
 ·refine view_box (k:=8) rfl fun q hq=>?_
  obtain rfl:q=0:=by have:q<1:=hq;omega
  exact .refl _
 repeat refine splitL ?_
 refine meetL mx (by decide) trueP (fun v:Nat=>tm80 cp l v) (fun v=>mem80 x x.op v) (by kernel_rfl) ?_ fun v nv _=>?_
 ·repeat'(first|refine vcI ?_|refine And.intro ?_ ?_|(intro hq;(try simp at hq);(try(exfalso;omega));(try(revert hq;intro))))
  refine QS.frozen _ fields_spec (plainAll rfl) ?_
  repeat'(first|refine vcI ?_|refine And.intro ?_ ?_|(intro hq;(try simp at hq);(try(exfalso;omega));(try(revert hq;intro))))
  rw [part_fields x.op hop]
  repeat'(first|refine vcI ?_|refine And.intro ?_ ?_|(intro hq;(try simp at hq);(try(exfalso;omega));(try(revert hq;intro))))
  refine ⟨_,trivial,⟨by ((repeat' apply And.intro) <;> (first|exact True.intro|exact NEq.refl _|(refine NEq.int ?_;first|exact rfl|omega|(rw [wrapI (by omega)];first|exact rfl|omega)))),⟨⟨rfl,.obox ?_⟩,⟨rfl,.refl _⟩,⟨rfl,.refl _⟩,trivial⟩,.nil⟩⟩
  intro q hq
  rcases (by have:q<4:=hq;omega:q=0∨q=1∨q=2∨q=3) with rfl|rfl|rfl|rfl <;> exact .refl _
 obtain ⟨x1,hx1⟩:∃ y,y={ x with d:=if setsB x.op=true then l.getD x.d.toNat 0 else x.d }:=⟨_,rfl⟩
 repeat refine splitL ?_
 refine meetL mx (by decide) trueP (fun _:Unit=>(11,.bool (setsB x.op))::tm80 cp l v) (fun _=>mem80 x x.op v) (by kernel_rfl) ?_ fun _ nv _=>?_
 ·repeat'(first|refine vcI ?_|refine And.intro ?_ ?_|(intro hq;(try simp at hq);(try(exfalso;omega));(try(revert hq;intro))))
  exact ⟨(),trivial,⟨by ((repeat' apply And.intro) <;> (first|exact True.intro|exact NEq.refl _|(refine NEq.int ?_;first|exact rfl|omega|(rw [wrapI (by omega)];first|exact rfl|omega)))),⟨⟨rfl,.refl _⟩,⟨rfl,.refl _⟩,⟨rfl,.refl _⟩,trivial⟩,.nil⟩⟩
 refine meetL mx (by decide) trueP (fun _:Unit=>tm80 cp l v) (fun _=>mem80 { x with d:=if setsB x.op=true then l.getD x.d.toNat 0 else x.d } x.op v) (by kernel_rfl) ?_ fun _ nv _=>?_
 ·rcases hb:setsB x.op with _|_
  ·repeat'(first|refine vcI ?_|refine And.intro ?_ ?_|(intro hq;(try simp at hq);(try(exfalso;omega));(try(revert hq;intro))))
   refine ⟨(),trivial,⟨by ((repeat' apply And.intro) <;> (first|exact True.intro|exact NEq.refl _|(refine NEq.int ?_;first|exact rfl|omega|(rw [wrapI (by omega)];first|exact rfl|omega)))),⟨⟨rfl,.refl _⟩,⟨rfl,.refl _⟩,⟨rfl,.refl _⟩,trivial⟩,.nil⟩⟩
  ·repeat'(first|refine vcI ?_|refine And.intro ?_ ?_|(intro hq;(try simp at hq);(try(exfalso;omega));(try(revert hq;intro))))
   ·exact ((h.d) hb).1
   ·exact ((h.d) hb).2
   ·refine ⟨(),trivial,⟨by ((repeat' apply And.intro) <;> (first|exact True.intro|exact NEq.refl _|(refine NEq.int ?_;first|exact rfl|omega|(rw [wrapI (by omega)];first|exact rfl|omega)))),⟨⟨rfl,.refl _⟩,⟨rfl,.refl _⟩,⟨rfl,.obox ?_⟩,trivial⟩,.nil⟩⟩
    intro q hq
    rcases (by have:q<16:=hq;omega:q=0∨q=1∨q=2∨q=3∨q=4∨q=5∨q=6∨q=7∨q=8∨q=9∨q=10∨q=11∨q=12∨q=13∨q=14∨q=15) with rfl|rfl|rfl|rfl|rfl|rfl|rfl|rfl|rfl|rfl|rfl|rfl|rfl|rfl|rfl|rfl <;> exact .refl _
 rw [← hx1]
 have e1:x1.op=x.op∧x1.a=x.a∧x1.b=x.b∧x1.n=x.n∧x1.args=x.args:=by rw [hx1];exact ⟨rfl,rfl,rfl,rfl,rfl⟩
 obtain ⟨x2,hx2⟩:∃ y,y={ x1 with a:=if aB x.op=true then l.getD x1.a.toNat 0 else x1.a }:=⟨_,rfl⟩
 repeat refine splitL ?_
 refine meetL mx (by decide) trueP (fun _:Unit=>(22,.bool (aB x.op))::tm80 cp l v) (fun _=>mem80 x1 x.op v) (by kernel_rfl) ?_ fun _ nv _=>?_
 ·repeat'(first|refine vcI ?_|refine And.intro ?_ ?_|(intro hq;(try simp at hq);(try(exfalso;omega));(try(revert hq;intro))))
  exact ⟨(),trivial,⟨by ((repeat' apply And.intro) <;> (first|exact True.intro|exact NEq.refl _|(refine NEq.int ?_;first|exact rfl|omega|(rw [wrapI (by omega)];first|exact rfl|omega)))),⟨⟨rfl,.refl _⟩,⟨rfl,.refl _⟩,⟨rfl,.refl _⟩,trivial⟩,.nil⟩⟩
 refine meetL mx (by decide) trueP (fun _:Unit=>tm80 cp l v) (fun _=>mem80 { x1 with a:=if aB x.op=true then l.getD x1.a.toNat 0 else x1.a } x.op v) (by kernel_rfl) ?_ fun _ nv _=>?_
 ·rcases hb:aB x.op with _|_
  ·repeat'(first|refine vcI ?_|refine And.intro ?_ ?_|(intro hq;(try simp at hq);(try(exfalso;omega));(try(revert hq;intro))))
   refine ⟨(),trivial,⟨by ((repeat' apply And.intro) <;> (first|exact True.intro|exact NEq.refl _|(refine NEq.int ?_;first|exact rfl|omega|(rw [wrapI (by omega)];first|exact rfl|omega)))),⟨⟨rfl,.refl _⟩,⟨rfl,.refl _⟩,⟨rfl,.refl _⟩,trivial⟩,.nil⟩⟩
  ·repeat'(first|refine vcI ?_|refine And.intro ?_ ?_|(intro hq;(try simp at hq);(try(exfalso;omega));(try(revert hq;intro))))
   ·exact ((fun hb=>e1.2.1▸h.a hb) hb).1
   ·exact ((fun hb=>e1.2.1▸h.a hb) hb).2
   ·refine ⟨(),trivial,⟨by ((repeat' apply And.intro) <;> (first|exact True.intro|exact NEq.refl _|(refine NEq.int ?_;first|exact rfl|omega|(rw [wrapI (by omega)];first|exact rfl|omega)))),⟨⟨rfl,.refl _⟩,⟨rfl,.refl _⟩,⟨rfl,.obox ?_⟩,trivial⟩,.nil⟩⟩
    intro q hq
    rcases (by have:q<16:=hq;omega:q=0∨q=1∨q=2∨q=3∨q=4∨q=5∨q=6∨q=7∨q=8∨q=9∨q=10∨q=11∨q=12∨q=13∨q=14∨q=15) with rfl|rfl|rfl|rfl|rfl|rfl|rfl|rfl|rfl|rfl|rfl|rfl|rfl|rfl|rfl|rfl <;> exact .refl _
 rw [← hx2]
 have e2:x2.op=x.op∧x2.b=x.b∧x2.n=x.n∧x2.args=x.args:=by rw [hx2];exact ⟨e1.1,e1.2.2⟩
 obtain ⟨x3,hx3⟩:∃ y,y={ x2 with b:=if bB x.op=true then l.getD x2.b.toNat 0 else x2.b }:=⟨_,rfl⟩
 repeat refine splitL ?_
 refine meetL mx (by decide) trueP (fun _:Unit=>(33,.bool (bB x.op))::tm80 cp l v) (fun _=>mem80 x2 x.op v) (by kernel_rfl) ?_ fun _ nv _=>?_
 ·repeat'(first|refine vcI ?_|refine And.intro ?_ ?_|(intro hq;(try simp at hq);(try(exfalso;omega));(try(revert hq;intro))))
  exact ⟨(),trivial,⟨by ((repeat' apply And.intro) <;> (first|exact True.intro|exact NEq.refl _|(refine NEq.int ?_;first|exact rfl|omega|(rw [wrapI (by omega)];first|exact rfl|omega)))),⟨⟨rfl,.refl _⟩,⟨rfl,.refl _⟩,⟨rfl,.refl _⟩,trivial⟩,.nil⟩⟩
 refine meetL mx (by decide) trueP (fun _:Unit=>tm80 cp l v) (fun _=>mem80 { x2 with b:=if bB x.op=true then l.getD x2.b.toNat 0 else x2.b } x.op v) (by kernel_rfl) ?_ fun _ nv _=>?_
 ·rcases hb:bB x.op with _|_
  ·repeat'(first|refine vcI ?_|refine And.intro ?_ ?_|(intro hq;(try simp at hq);(try(exfalso;omega));(try(revert hq;intro))))
   refine ⟨(),trivial,⟨by ((repeat' apply And.intro) <;> (first|exact True.intro|exact NEq.refl _|(refine NEq.int ?_;first|exact rfl|omega|(rw [wrapI (by omega)];first|exact rfl|omega)))),⟨⟨rfl,.refl _⟩,⟨rfl,.refl _⟩,⟨rfl,.refl _⟩,trivial⟩,.nil⟩⟩
  ·repeat'(first|refine vcI ?_|refine And.intro ?_ ?_|(intro hq;(try simp at hq);(try(exfalso;omega));(try(revert hq;intro))))
   ·exact ((fun hb=>e2.2.1▸h.b hb) hb).1
   ·exact ((fun hb=>e2.2.1▸h.b hb) hb).2
   ·refine ⟨(),trivial,⟨by ((repeat' apply And.intro) <;> (first|exact True.intro|exact NEq.refl _|(refine NEq.int ?_;first|exact rfl|omega|(rw [wrapI (by omega)];first|exact rfl|omega)))),⟨⟨rfl,.refl _⟩,⟨rfl,.refl _⟩,⟨rfl,.obox ?_⟩,trivial⟩,.nil⟩⟩
    intro q hq
    rcases (by have:q<16:=hq;omega:q=0∨q=1∨q=2∨q=3∨q=4∨q=5∨q=6∨q=7∨q=8∨q=9∨q=10∨q=11∨q=12∨q=13∨q=14∨q=15) with rfl|rfl|rfl|rfl|rfl|rfl|rfl|rfl|rfl|rfl|rfl|rfl|rfl|rfl|rfl|rfl <;> exact .refl _
 rw [← hx3]
 have e3:x3.op=x.op∧x3.n=x.n∧x3.args=x.args:=by rw [hx3];exact ⟨e2.1,e2.2.2⟩
 repeat refine splitL ?_
 refine meetL mx (by decide) trueP (fun _:Unit=>(50,.bool (bif x3.op == 10 then x3.n != 0 else false))::tm80 cp l v) (fun _=>mem80 x3 x.op v) (by kernel_rfl) ?_ fun _ nv _=>?_
 ·repeat'(first|refine vcI ?_|refine And.intro ?_ ?_|(intro hq;(try simp at hq);(try(exfalso;omega));(try(revert hq;intro))))
  exact ⟨(),trivial,⟨by ((repeat' apply And.intro) <;> (first|exact True.intro|exact NEq.refl _|(refine NEq.int ?_;first|exact rfl|omega|(rw [wrapI (by omega)];first|exact rfl|omega)))),⟨⟨rfl,.refl _⟩,⟨rfl,.refl _⟩,⟨rfl,.refl _⟩,trivial⟩,.nil⟩⟩
 obtain ⟨x4,hx4⟩:∃ y,y={ x3 with n:=if (bif x3.op == 10 then x3.n != 0 else false)=true then IntKind.i64.wrap (l.getD (IntKind.i64.wrap (x3.n - 1)).toNat 0+1) else x3.n }:=⟨_,rfl⟩
 refine meetL mx (by decide) trueP (fun _:Unit=>tm80 cp l v) (fun _=>mem80 { x3 with n:=if (bif x3.op == 10 then x3.n != 0 else false)=true then IntKind.i64.wrap (l.getD (IntKind.i64.wrap (x3.n - 1)).toNat 0+1) else x3.n } x.op v) (by kernel_rfl) ?_ fun _ nv _=>?_
 ·have hn:(bif x3.op == 10 then x3.n != 0 else false)=true→1≤x3.n∧x3.n≤l.length:=fun hb=>by
   rw [e3.2.1]
   cases h1:x3.op == 10
   ·rw [h1] at hb;cases hb
   ·rw [h1] at hb
    have h2:x3.n≠0:=by simpa using hb
    have h3:x3.op=10:=by simpa using h1
    exact h.n (by rw [← e3.1];exact h3) (by rw [← e3.2.1];exact h2)
  rcases hb:(bif x3.op == 10 then x3.n != 0 else false) with _|_
  ·repeat'(first|refine vcI ?_|refine And.intro ?_ ?_|(intro hq;(try simp at hq);(try(exfalso;omega));(try(revert hq;intro))))
   refine ⟨(),trivial,⟨by ((repeat' apply And.intro) <;> (first|exact True.intro|exact NEq.refl _|(refine NEq.int ?_;first|exact rfl|omega|(rw [wrapI (by omega)];first|exact rfl|omega)))),⟨⟨rfl,.refl _⟩,⟨rfl,.refl _⟩,⟨rfl,.refl _⟩,trivial⟩,.nil⟩⟩
  ·have h1:=hn hb
   repeat'(first|refine vcI ?_|refine And.intro ?_ ?_|(intro hq;(try simp at hq);(try(exfalso;omega));(try(revert hq;intro))))
   ·rw [wrapI (by omega)];omega
   ·rw [wrapI (by omega)];omega
   ·refine ⟨(),trivial,⟨by ((repeat' apply And.intro) <;> (first|exact True.intro|exact NEq.refl _|(refine NEq.int ?_;first|exact rfl|omega|(rw [wrapI (by omega)];first|exact rfl|omega)))),⟨⟨rfl,.refl _⟩,⟨rfl,.refl _⟩,⟨rfl,.obox ?_⟩,trivial⟩,.nil⟩⟩
    intro q hq
    rcases (by have:q<16:=hq;omega:q=0∨q=1∨q=2∨q=3∨q=4∨q=5∨q=6∨q=7∨q=8∨q=9∨q=10∨q=11∨q=12∨q=13∨q=14∨q=15) with rfl|rfl|rfl|rfl|rfl|rfl|rfl|rfl|rfl|rfl|rfl|rfl|rfl|rfl|rfl|rfl <;> exact .refl _
 rw [← hx4]
 have e4:x4.op=x.op∧x4.args=x.args:=by rw [hx4];exact ⟨e3.1,e3.2.2⟩
 repeat refine splitL ?_
 refine meetL mx (by decide) trueP (fun _:Unit=>(63,.bool (gB x.op))::tm80 cp l v) (fun _=>mem80 x4 x.op v) (by kernel_rfl) ?_ fun _ nv _=>?_
 ·repeat'(first|refine vcI ?_|refine And.intro ?_ ?_|(intro hq;(try simp at hq);(try(exfalso;omega));(try(revert hq;intro))))
  exact ⟨(),trivial,⟨by ((repeat' apply And.intro) <;> (first|exact True.intro|exact NEq.refl _|(refine NEq.int ?_;first|exact rfl|omega|(rw [wrapI (by omega)];first|exact rfl|omega)))),⟨⟨rfl,.refl _⟩,⟨rfl,.refl _⟩,⟨rfl,.refl _⟩,trivial⟩,.nil⟩⟩
 have hx5:renI l x={ x4 with args:=if gB x.op=true then renA l x4.args else x4.args }:=by
  have hb:(bif x.op == 10 then x.n != 0 else false)=decide (x.op=10∧x.n≠0):=by
   by_cases h1:x.op=10
   ·by_cases h2:x.n=0 <;> simp [h1,h2]
   ·simp [h1]
  rw [hx4,hx3,hx2,hx1]
  unfold renI
  simp only [hb,decide_eq_true_eq]
 rw [hx5]
 rcases hb:gB x.op with _|_
 ·have hc:=cloneN_spec x4.args (by rw [e4.2];exact ha)
  refine runS mx (by decide) (by kernel_rfl) ?_
  repeat'(first|refine vcI ?_|refine And.intro ?_ ?_|(intro hq;(try simp at hq);(try(exfalso;omega));(try(revert hq;intro))))
  first
  | refine CallS.frozen _ hc (plainAll rfl) ?_
  | refine QS.frozen _ hc (plainAll rfl) ?_
  repeat'(first|refine vcI ?_|refine And.intro ?_ ?_|(intro hq;(try simp at hq);(try(exfalso;omega));(try(revert hq;intro))))
  rw [show Tryz.prog.cellsOf 58=16 by kernel_rfl]
  exact .refl _
 ·have hg:∀ r∈x4.args,0≤r∧r<(l.length:Int):=by rw [e4.2];exact h.args hb
  have hc:=eachN_spec x4.args 94 (.fptr 1 (fun _=>rnP cp l) 0) (fun r=>l.getD r.toNat 0) (by rw [e4.2];exact ha) trivial fun r hr=>instr1_spec cp r l (hg r hr)
  refine runS mx (by decide) (by kernel_rfl) ?_
  repeat'(first|refine vcI ?_|refine And.intro ?_ ?_|(intro hq;(try simp at hq);(try(exfalso;omega));(try(revert hq;intro))))
  first
  | refine CallS.frozen _ hc (plainAll rfl) ?_
  | refine QS.frozen _ hc (plainAll rfl) ?_
  repeat'(first|refine vcI ?_|refine And.intro ?_ ?_|(intro hq;(try simp at hq);(try(exfalso;omega));(try(revert hq;intro))))
  rw [show Tryz.prog.cellsOf 58=16 by kernel_rfl]
  exact .refl _
end Go.Ab
namespace Go.Ab
open Go.Proofs
set_option maxRecDepth 100000
set_option maxHeartbeats 4000000

theorem Op_use {o:DO} (H:OpenP o) {i:Nat} (hi:i<o.irs.length):∀ r∈usedL (o.irs.getD i default) (o.descs.getD i [])++usesL (o.descs.getD i []),0≤r∧r<o.regs:=fun r hm=>by
 have hsh:=H.sh i hi
 simp only [shapedX,Bool.and_eq_true,decide_eq_true_eq,Bool.not_eq_true'] at hsh
 obtain ⟨s1,s2,s3,s4,s5,s6,s7⟩:=hsh
 have hb:∀ {l},badL o l=false→r∈l→0≤r∧r<o.regs:=fun h1 h2=>by
  have h3:=List.any_eq_false.1 h1 r h2
  simpa only [regB,Bool.not_eq_true',Bool.not_eq_false,Bool.and_eq_true,decide_eq_true_eq] using h3
 rcases List.mem_append.1 hm with h|h
 ·exact hb s5 h
 ·exact hb s7 h
theorem regsF_of {o:DO} (H:OpenP o) {i:Nat} (hi:i<o.irs.length):∀ f∈o.descs.getD i [],RegsF o.regs f:=fun f hf=>by
 have hu:∀ x,usedIn f x→0≤x∧x<o.regs:=fun x hx=>Op_use H hi x (List.mem_append_right _ ((usesL_mem _ x).2 ⟨f,hf,hx⟩))
 have hv:∀ v∈allL f,regV o.regs v:=fun v hv hk=>hu _ (.inl ⟨v,hv,hk,rfl⟩)
 exact ⟨hv _ (by simp [allL]),hv _ (by simp [allL]),fun v h=>hv _ (by simp [allL,h]),fun v h=>hv _ (by simp [allL,h]),fun h=>hu _ (.inr ⟨h,rfl⟩)⟩
theorem regsI_of {o:DO} (H:OpenP o) {i:Nat} (hi:i<o.irs.length):RegsI o.regs (o.irs.getD i default)∧(1≤(o.irs.getD i default).op∧(o.irs.getD i default).op≤16)∧(o.irs.getD i default).args.length≤20:=by
 have hu:=Op_use H hi
 have hsh:=H.sh i hi
 simp only [shapedX,Bool.and_eq_true,decide_eq_true_eq,Bool.not_eq_true'] at hsh
 obtain ⟨s1,s2,s3,s4,s5,s6,s7⟩:=hsh
 generalize o.irs.getD i default=x at *
 have hu2:∀ r∈usedL x (o.descs.getD i []),0≤r∧r<o.regs:=fun r hr=>hu r (List.mem_append_left _ hr)
 clear hu s5 s7
 refine ⟨⟨fun h=>?_,fun h=>?_,fun h=>?_,fun h1 h2=>?_,fun h=>?_⟩,⟨s1,s2⟩,s3⟩
 ·rw [h] at s6
  simpa only [Bool.not_true,Bool.false_or,regB,Bool.and_eq_true,decide_eq_true_eq] using s6
 ·refine hu2 x.a ?_
  simp only [aB,Bool.or_eq_true,beq_iff_eq] at h
  unfold usedL
  split
  ·simp
  ·split
   ·simp
   ·split
    ·simp
    ·split
     ·split <;> simp
     ·omega
 ·refine hu2 x.b ?_
  simp only [bB,Bool.or_eq_true,beq_iff_eq] at h
  unfold usedL
  rw [if_neg (by omega),if_pos (by omega)]
  simp
 ·unfold swB at s4
  rw [if_neg (by simp [goesB,h1]),if_neg (by omega),if_neg (by omega),if_pos h1] at s4
  simp only [Bool.or_eq_false_iff,decide_eq_false_iff_not] at s4
  omega
 ·intro r hr
  refine hu2 r ?_
  simp only [gB,Bool.or_eq_true,beq_iff_eq] at h
  unfold usedL
  rw [if_neg (by omega),if_neg (by omega)]
  by_cases h3:x.op=6∨x.op=7
  ·rw [if_pos h3];simp [hr]
  ·rw [if_neg h3,if_neg (by omega),if_neg (by omega),if_pos (by omega)];exact hr
def tyF (l:List Int) (ts:List DT) (rs:List Int):Nat→DT:=rs.foldl (fun f r q=>if q=(l.getD r.toNat 0).toNat then ts.getD r.toNat default else f q) fun _=>default
theorem tyF_snoc (l:List Int) (ts:List DT) (rs:List Int) (r:Int) (q:Nat):tyF l ts (rs++[r]) q=if q=(l.getD r.toNat 0).toNat then ts.getD r.toNat default else tyF l ts rs q:=by
 unfold tyF;rw [List.foldl_append];rfl
def tysR (l:List Int) (ts:List DT) (rs:List Int) (m:Nat):List DT:=(List.range m).map (tyF l ts rs)
noncomputable def renT (o:DO) (l:List Int) (m:Nat):List (List DT):=(List.range o.irs.length).map fun i=>tysR l (o.types.getD i []) (liveL o i) m
noncomputable def renO (o:DO) (l:List Int):DO:={ o with irs:=o.irs.map (renI l),descs:=o.descs.map fun fs=>fs.map (renF l),types:=renT o l (mxL l+1).toNat,regs:=mxL l+1 }
theorem mxL_le {l:List Int} {b:Int} (h0:0≤b) (h:∀ x∈l,x≤b):0≤mxL l∧mxL l≤b:=by
 have key:∀ (l:List Int) (a:Int),0≤a→a≤b→(∀ x∈l,x≤b)→0≤l.foldl max a∧l.foldl max a≤b:=by
  intro l
  induction l with
  | nil=>intro a h1 h2 _;exact ⟨h1,h2⟩
  | cons x l ih =>
   intro a h1 h2 h3
   rw [List.foldl_cons]
   have:=h3 x (by simp)
   exact ih (max a x) (by omega) (by omega) fun y hy=>h3 y (by simp [hy])
 exact key l 0 (by omega) h0 h
theorem le_mxL {l:List Int} {x:Int} (h:x∈l):x≤mxL l:=by
 have key:∀ (l:List Int) (a:Int),a≤l.foldl max a∧∀ x∈l,x≤l.foldl max a:=by
  intro l
  induction l with
  | nil=>intro a;exact ⟨Int.le_refl _,fun x h=>by cases h⟩
  | cons y l ih =>
   intro a
   rw [List.foldl_cons]
   obtain ⟨h1,h2⟩:=ih (max a y)
   refine ⟨by omega,fun x hx=>?_⟩
   rcases List.mem_cons.1 hx with rfl|hx
   ·omega
   ·exact h2 x hx
 exact (key l 0).2 x h
theorem RightP.ge {o:DO} {l:List Int} (h:RightP o l):∀ x∈l,0≤x∧x<o.regs:=fun x hx=>by
 obtain ⟨i,hi,rfl⟩:=List.mem_iff_getElem.1 hx
 have:=h.inn i hi
 rw [List.getD_eq_getElem?_getD,List.getElem?_eq_getElem hi] at this
 have h2:=h.len
 simp only [Option.getD_some] at this
 omega
end Go.Ab
namespace Go.Ab
open Go.Proofs
set_option maxRecDepth 100000
set_option maxHeartbeats 4000000

noncomputable def cpO (o:DO):PV:=codeP o (frW o.irs.length fun i=>wordsP (LiveP o i))
def zeroO:List PV:=[.int .i64 0,.int .i64 0,.int .i64 0,.int .i64 0,.int .i64 0,.str ⟨#[]⟩,.nils,.nils,.nils,.nils,.nils,.int .i64 0]
def noneO:DO:=⟨0,⟨0,0,0,0,⟨#[]⟩⟩,[],[],[],[],[],0⟩
theorem mk_optF (o:DO):mkV Tryz.prog 32 (rowL (dol o)) 0 = .agg (dol o):=by
 show PV.agg (List.map _ (List.range (Tryz.prog.cellsOf 32)))=_
 rw [cOpt];rfl
noncomputable def rowT (o:DO) (l:List Int) (m:Nat):Nat→Nat→PV:=fun a _=>dts (tysR l (o.types.getD a []) (liveL o a) m)
noncomputable def outF (o:DO) (l:List Int) (i v:Nat):Nat→PV:=fun q=>if q=9 then .ref (1,1000) v [] 1 0 i else rowL (dol (renO o l)) q
theorem shape_dtl (v:DT) (o:Nat):shapeOf ((dtl v).getD o .undef)=none:=by
 match o with
 | 0=>rfl
 | 1=>rfl
 | 2=>rfl
 | 3=>rfl
 | 4=>rfl
 | o+5=>rfl
theorem view_dtl (k:Nat) (hp:Hp) (x:DT) (o:Nat):view (k+1) hp ((dtl x).getD o .undef)=(dtl x).getD o .undef:=by
 match o with
 | 0=>rfl
 | 1=>rfl
 | 2=>rfl
 | 3=>rfl
 | 4=>rfl
 | o+5=>rfl
theorem view_tys {k:Nat} {L:Hp} {r:RId} {v m:Nat} {f:Nat→DT} (h:lkH L r=some ⟨v,.own 5 m fun q c=>(dtl (f q)).getD c .undef⟩):NEq (Ab.view (k+2) L (.ref r v [] 5 0 m)) (dts ((List.range m).map f)):=by
 rw [Ab.view,h]
 simp only [if_true,getAt]
 refine NEq.frzs rfl (by simp) fun q c hq hc=>?_
 have hq':q<m:=by simpa using hq
 have e:((List.range m).map f).getD q default=f q:=by
  rw [List.getD_eq_getElem?_getD,List.getElem?_map,List.getElem?_range hq'];rfl
 rw [Nat.zero_add,view_dtl,e]
 exact .refl _
theorem ty_put (l:List Int) (ts:List DT) {rs:List Int} {k q c n:Nat} {F:Nat→Nat→PV} (hk:k<rs.length) (hc:c<5) (hn:n=5) (hF:∀ j,j<5→F (rs.getD k 0).toNat (0+j)=(dtl (ts.getD (rs.getD k 0).toNat default)).getD j .undef) :
  NEq (if q=0+(l.getD (rs.getD k 0).toNat 0).toNat∧0≤c∧c<0+n then (List.map (fun j=>F (rs.getD k 0).toNat (0+j)) (List.range 5)).getD (c - 0) .undef else (dtl (tyF l ts (rs.take k) q)).getD c .undef) ((dtl (tyF l ts (rs.take (k+1)) q)).getD c .undef):=by
 subst hn
 rw [take_succD 0 hk,tyF_snoc]
 show NEq _ ((dtl (if q=(l.getD (rs.getD k 0).toNat 0).toNat then ts.getD (rs.getD k 0).toNat default else _)).getD c .undef)
 by_cases e:q=(l.getD (rs.getD k 0).toNat 0).toNat
 ·rw [if_pos ⟨by omega,by omega,by omega⟩,if_pos e,Nat.sub_zero,List.getD_eq_getElem?_getD,List.getElem?_map,List.getElem?_range hc]
  exact NEq.of_eq (hF c hc)
 ·rw [if_neg (fun h=>e (by omega)),if_neg e];exact .refl _
theorem view_types {o:DO} {l:List Int} {k vT m:Nat} {L:Hp} (h:lkH L (1,1000)=some ⟨vT,.own 1 o.irs.length (rowT o l m)⟩):NEq (view (k+2) L (.ref (1,1000) vT [] 1 0 o.irs.length)) (dtss (renT o l m)):=by
 rw [Ab.view,h]
 simp only [if_true,getAt]
 refine NEq.frzs rfl (by simp [renT]) fun a b ha hb=>?_
 have ha':a<o.irs.length:=by simpa [renT] using ha
 have e:(renT o l m).getD a []=tysR l (o.types.getD a []) (liveL o a) m:=by
  rw [List.getD_eq_getElem?_getD,renT,List.getElem?_map,List.getElem?_range ha'];rfl
 rw [Nat.zero_add,e]
 exact .refl _
theorem mapD (f:PV→PV) {i:Nat} (l:List PV) (h:i<l.length):(l.map f).getD i .undef=f (l.getD i .undef):=by
 rw [List.getD_eq_getElem?_getD,List.getD_eq_getElem?_getD,List.getElem?_map,List.getElem?_eq_getElem h];rfl
open Classical in
noncomputable def renE (o:DO) (l:List Int):DO × Int:=if chkE o l=0 then (renO o l,0) else (noneO,chkE o l)
def small2 (o:DO):Prop:=(∀ m∈o.maps,m.slots.length≤1048576)∧(∀ d∈o.deps,d.map.slots.length≤1048576)∧o.maps.length≤1048576∧o.deps.length≤1048576
theorem Rename_spec (o:DO) (l:List Int) (hll:l.length≤1048576) (hf:fewN o≤6000) (hs:∀ l∈o.descs,l.length≤1048576∧∀ f∈l,f.small) (h2:small2 o):CallsF Tryz.prog 18 [.agg (dol o),ints l] (.tup [.agg (dol (renE o l).1),.int .i64 (renE o l).2]):=by
 have hp:=placed_spec o l hll hf hs
 refine callsF_ofL Tryz.call18 Tryz.func18 rfl Tryz.ntmps18 Tryz.results18 (by simp) fun lo=>?_
 repeat refine splitL ?_
 refine meetL mx (by decide) trueP (fun _:Unit=>[(1,ints l),(2,.ptr (1,2) 0 [] 0 0),(4,.ptr (1,4) 1 [] 0 0),(5,.int .i64 0)]) (fun _=>[((1,2),⟨0,.obox 12 (rowL (dol o))⟩),((1,4),⟨1,.obox 12 (rowL zeroO)⟩)]) (by kernel_rfl) ?_ fun _ nv _=>?_
 ·repeat'(first|refine vcI ?_|refine And.intro ?_ ?_|(intro hq;(try simp at hq);(try(exfalso;omega));(try(revert hq;intro))))
  refine ⟨(),trivial,⟨by ((repeat' apply And.intro) <;> (first|exact True.intro|exact NEq.refl _|(refine NEq.int ?_;first|exact rfl|omega|(rw [wrapI (by omega)];first|exact rfl|omega)))),⟨⟨rfl,.refl _⟩,⟨rfl,.refl _⟩,trivial⟩,.nil⟩⟩
 refine freezeL (tm:=[(1,ints l),(2,.ptr (1,2) 0 [] 0 0),(4,.ptr (1,4) 1 [] 0 0),(5,.int .i64 0)]) 2 9 [((1,2),⟨0,.obox 12 (rowL (dol o))⟩)] [((1,4),⟨1,.obox 12 (rowL zeroO)⟩)] (.fptr 12 (rowL (dol o)) 0) rfl ?_ ?_
 ·refine view_box (k:=8) rfl ?_
  intro q hq
  rcases (by have:q<12:=hq;omega:q=0∨q=1∨q=2∨q=3∨q=4∨q=5∨q=6∨q=7∨q=8∨q=9∨q=10∨q=11) with rfl|rfl|rfl|rfl|rfl|rfl|rfl|rfl|rfl|rfl|rfl|rfl
  all_goals exact .refl _
 by_cases h:chkE o l=0
 ·rw [placedR_ok h] at hp
  have hP:=(chkE_zero hf hs).1 h
  have H:=hP.op.fl hf hs
  repeat refine splitL ?_
  refine meetL mx (by decide) trueP (fun _:Unit=>[(6,cpO o),(7,.int .i64 0),(1,ints l),(2,.fptr 12 (rowL (dol o)) 0),(4,.ptr (1,4) 1 [] 0 0),(5,.int .i64 0)]) (fun _=>[((1,4),⟨1,.obox 12 (rowL zeroO)⟩)]) (by kernel_rfl) ?_ fun _ nv _=>?_
  ·repeat'(first|refine vcI ?_|refine And.intro ?_ ?_|(intro hq;(try simp at hq);(try(exfalso;omega));(try(revert hq;intro))))
   rw [mk_optF]
   refine CallS.frozen _ hp (plainAll rfl) ?_
   repeat'(first|refine vcI ?_|refine And.intro ?_ ?_|(intro hq;(try simp at hq);(try(exfalso;omega));(try(revert hq;intro))))
   refine ⟨(),trivial,⟨by ((repeat' apply And.intro) <;> (first|exact True.intro|exact NEq.refl _|(refine NEq.int ?_;first|exact rfl|omega|(rw [wrapI (by omega)];first|exact rfl|omega)))),⟨⟨rfl,.refl _⟩,trivial⟩,.nil⟩⟩
  repeat refine splitL ?_
  refine meetL mx (by decide) trueP (fun _:Unit=>[(21,.bool false),(6,cpO o),(1,ints l),(2,.fptr 12 (rowL (dol o)) 0),(4,.ptr (1,4) 1 [] 0 0),(5,.int .i64 0)]) (fun _=>[((1,4),⟨1,.obox 12 (rowL zeroO)⟩)]) (by kernel_rfl) ?_ fun _ nv _=>?_
  ·repeat'(first|refine vcI ?_|refine And.intro ?_ ?_|(intro hq;(try simp at hq);(try(exfalso;omega));(try(revert hq;intro))))
   refine ⟨(),trivial,⟨by ((repeat' apply And.intro) <;> (first|exact True.intro|exact NEq.refl _|(refine NEq.int ?_;first|exact rfl|omega|(rw [wrapI (by omega)];first|exact rfl|omega)))),⟨⟨rfl,.refl _⟩,trivial⟩,.nil⟩⟩
  repeat refine splitL ?_
  refine meetL mx (by decide) trueP (fun _:Unit=>[(6,cpO o),(1,ints l),(2,.fptr 12 (rowL (dol o)) 0),(4,.ptr (1,4) 1 [] 0 0),(5,.int .i64 0)]) (fun _=>[((1,4),⟨1,.obox 12 (rowL zeroO)⟩)]) (by kernel_rfl) ?_ fun _ nv _=>?_
  ·repeat'(first|refine vcI ?_|refine And.intro ?_ ?_|(intro hq;(try simp at hq);(try(exfalso;omega));(try(revert hq;intro))))
   refine ⟨(),trivial,⟨by ((repeat' apply And.intro) <;> (first|exact True.intro|exact NEq.refl _|(refine NEq.int ?_;first|exact rfl|omega|(rw [wrapI (by omega)];first|exact rfl|omega)))),⟨⟨rfl,.refl _⟩,trivial⟩,.nil⟩⟩
  repeat refine splitL ?_
  refine meetL mx (by decide) trueP (fun v:Nat × Nat=>[(8,.ptr (1,8) v.1 [] 0 0),(6,cpO o),(1,ints l),(2,.fptr 12 (rowL (dol o)) 0),(4,.ptr (1,4) 1 [] 0 0),(5,.int .i64 0)]) (fun v=>[((1,8),⟨v.1,.obox 1 fun _ => .ptr (1,27) v.2 [] 0 0⟩),((1,27),⟨v.2,.obox 2 (rowL [cpO o,ints l])⟩),((1,4),⟨1,.obox 12 (rowL zeroO)⟩)]) (by kernel_rfl) ?_ fun v nv9 _=>?_
  ·repeat'(first|refine vcI ?_|refine And.intro ?_ ?_|(intro hq;(try simp at hq);(try(exfalso;omega));(try(revert hq;intro))))
   ·kernel_rfl
   refine ⟨(_,_),trivial,⟨by ((repeat' apply And.intro) <;> (first|exact True.intro|exact NEq.refl _|(refine NEq.int ?_;first|exact rfl|omega|(rw [wrapI (by omega)];first|exact rfl|omega)))),⟨⟨rfl,.obox ?_⟩,⟨rfl,.obox ?_⟩,⟨rfl,.refl _⟩,trivial⟩,.nil⟩⟩
   ·intro q hq
    obtain rfl:q=0:=by have:q<1:=hq;omega
    exact .refl _
   ·intro q hq
    rcases (by have:q<2:=hq;omega:q=0∨q=1) with rfl|rfl <;> exact .refl _
  refine freezeL (tm:=[(8,.ptr (1,8) v.1 [] 0 0),(6,cpO o),(1,ints l),(2,.fptr 12 (rowL (dol o)) 0),(4,.ptr (1,4) 1 [] 0 0),(5,.int .i64 0)]) 8 9 [((1,8),⟨v.1,.obox 1 fun _ => .ptr (1,27) v.2 [] 0 0⟩),((1,27),⟨v.2,.obox 2 (rowL [cpO o,ints l])⟩)] [((1,4),⟨1,.obox 12 (rowL zeroO)⟩)] (.fptr 1 (fun _=>rnP (cpO o) l) 0) rfl ?_ ?_
  ·refine view_box (k:=8) rfl fun q hq=>?_
   obtain rfl:q=0:=by have:q<1:=hq;omega
   show NEq (view 8 _ (.ptr (1,27) v.2 [] 0 0)) (.fptr 2 (rowL [cpO o,ints l]) 0)
   refine view_box (k:=7) rfl fun q hq=>?_
   rcases (by have:q<2:=hq;omega:q=0∨q=1) with rfl|rfl <;> exact .refl _
  have hop:=hP.op
  have hlen:=hP.len
  have hr1:=hop.r1
  have hr2:=hop.r2
  have hge:=hP.ge
  have hd:=hop.hd
  have hM:=Max_spec l (by omega) (by omega) fun x hx=>(hge x hx).1
  have hml:=mxL_le (l:=l) (b:=o.regs - 1) (by omega) fun x hx=>by have:=hge x hx;omega
  have hil:o.irs.length≤600:=hop.le
  have hI:=eachI_spec o.irs 48 (rnP (cpO o) l) (renI l) (by omega) trivial fun x hx=>by
   obtain ⟨i,hi,rfl⟩:=List.mem_iff_getElem.1 hx
   have h3:=regsI_of hop hi
   rw [List.getD_eq_getElem?_getD,List.getElem?_eq_getElem hi,Option.getD_some] at h3
   exact instr_spec _ l _ hll (by omega) h3.2.1 (by rw [hlen];exact h3.1)
  have hS:=eachS_spec o.descs 50 (.fptr 1 (fun _=>rnP (cpO o) l) 0) (fun fs=>fs.map (renF l)) (by omega) trivial fun x hx=>by
   obtain ⟨i,hi,rfl⟩:=List.mem_iff_getElem.1 hx
   have h3:=regsF_of hop (i:=i) (by omega)
   rw [List.getD_eq_getElem?_getD,List.getElem?_eq_getElem hi,Option.getD_some] at h3
   have h4:=hs _ (List.getElem_mem hi)
   exact ren1_spec _ l _ hll h4.1 h4.2 fun f hf=>by rw [hlen];exact h3 f hf
  have hMp:=eachM_spec o.maps 54 id h2.2.2.1 fun m hm=>ren2_spec m (h2.1 m hm)
  have hDp:=eachD_spec o.deps 57 id h2.2.2.2 fun m hm=>ren3_spec m (h2.2.1 m hm)
  rw [List.map_id] at hMp hDp
  have hwm:IntKind.i64.wrap (mxL l+1)=mxL l+1:=wrapI (by omega)
  refine runS mx (by decide) (by kernel_rfl) ?_
  repeat'(first|refine vcI ?_|refine And.intro ?_ ?_|(intro hq;(try simp at hq);(try(exfalso;omega));(try(revert hq;intro))))
  rw [cOpt]
  repeat'(first|refine vcI ?_|refine And.intro ?_ ?_|(intro hq;(try simp at hq);(try(exfalso;omega));(try(revert hq;intro))))
  first
  | refine CallS.frozen _ hM (plainAll rfl) ?_
  | refine QS.frozen _ hM (plainAll rfl) ?_
  repeat'(first|refine vcI ?_|refine And.intro ?_ ?_|(intro hq;(try simp at hq);(try(exfalso;omega));(try(revert hq;intro))))
  rw [hwm]
  first
  | refine CallS.frozen _ hI (plainAll rfl) ?_
  | refine QS.frozen _ hI (plainAll rfl) ?_
  repeat'(first|refine vcI ?_|refine And.intro ?_ ?_|(intro hq;(try simp at hq);(try(exfalso;omega));(try(revert hq;intro))))
  first
  | refine CallS.frozen _ hS (plainAll rfl) ?_
  | refine QS.frozen _ hS (plainAll rfl) ?_
  repeat'(first|refine vcI ?_|refine And.intro ?_ ?_|(intro hq;(try simp at hq);(try(exfalso;omega));(try(revert hq;intro))))
  obtain ⟨m,hm⟩:∃ m:Nat,mxL l+1=(m:Int):=⟨(mxL l+1).toNat,(Int.toNat_of_nonneg (by omega)).symm⟩
  refine ghostC (1,9) 9 (1,1000) (by decide) (by decide) 1 (fun _ _ => .undef) rfl rfl rfl fun v=>?_
  refine loopS2 mx (by decide) (by kernel_rfl) (fun (i vT:Nat)=>i≤o.irs.length) (fun i vT=>[(48,.int .i64 i),(47,.int .i64 o.irs.length),(9,.ptr (1,9) (nv9+1) [] 0 0),(6,cpO o),(1,ints l),(2,.fptr 12 (rowL (dol o)) 0),(4,.ptr (1,4) 1 [] 0 0),(5,.int .i64 0)]) (fun i vT=>[((1,1000),⟨vT,.own 1 i (rowT o l m)⟩),((1,9),⟨nv9+1,.obox 12 (outF o l i vT)⟩),((1,4),⟨1,.obox 12 (rowL zeroO)⟩)]) (fun i vT=>o.irs.length - i) 0 v (by simp) ⟨by ((repeat' apply And.intro) <;> (first|exact True.intro|exact NEq.refl _|(refine NEq.int ?_;first|exact rfl|omega|(rw [wrapI (by omega)];first|exact rfl|omega)))),⟨⟨rfl,.owns rfl rfl fun i o hi=>absurd hi (by simp)⟩,⟨rfl,.obox ?_⟩,⟨rfl,.refl _⟩,trivial⟩,.nil⟩ ?_
  ·intro q hq
   rcases (by have:q<12:=hq;omega:q=0∨q=1∨q=2∨q=3∨q=4∨q=5∨q=6∨q=7∨q=8∨q=9∨q=10∨q=11) with rfl|rfl|rfl|rfl|rfl|rfl|rfl|rfl|rfl|rfl|rfl|rfl
   all_goals exact .refl _
  clear v
  intro i vT nv hi
  have hwi:IntKind.i64.wrap ((i:Int)+1)=((i+1:Nat):Int):=wrapI (by omega)
  have hrr:(renO o l).regs=(m:Int):=hm
  have hmb:m≤250:=by omega
  repeat'(first|refine vcI ?_|refine And.intro ?_ ?_|(intro hq;(try simp at hq);(try(exfalso;omega));(try(revert hq;intro))))
  ·rw [hrr,show Tryz.prog.bytesOf 25=48 by kernel_rfl];omega
  ·rfl
  ·have hin:i<o.irs.length:=by assumption
   rw [hrr]
   obtain ⟨ts,hts⟩:∃ ts,ts=o.types.getD i []:=⟨_,rfl⟩
   obtain ⟨rs,hrs⟩:∃ rs,rs=liveL o i:=⟨_,rfl⟩
   refine Exists.intro (.own 5 m fun q c=>(dtl (tyF l ts (rs.take 0) q)).getD c .undef) (And.intro (NEq.owns rfl (by simp) fun q c hq hc=>?_) (And.intro rfl ?_))
   ·rcases (by have:c<5:=hc;omega:c=0∨c=1∨c=2∨c=3∨c=4) with rfl|rfl|rfl|rfl|rfl <;> exact .refl _
   repeat'(first|refine vcI ?_|refine And.intro ?_ ?_|(intro hq;(try simp at hq);(try(exfalso;omega));(try(revert hq;intro))))
   refine CallS.own (oints (liveL o i)) (fun id ver => .ref id ver [] 1 0 (liveL o i).length) (setList_spec _ (wordsP_lt _)) (plainAll rfl) ?_
   rw [← hrs]
   repeat'(first|refine vcI ?_|refine And.intro ?_ ?_|(intro hq;(try simp at hq);(try(exfalso;omega));(try(revert hq;intro))))
   have hrl:rs.length≤250:=by rw [hrs];exact listW_len _ _
   have hrb:∀ k,k<rs.length→0≤rs.getD k 0∧rs.getD k 0<(l.length:Int):=fun k hk=>by
    have h1:rs.getD k 0∈liveL o i:=by rw [← hrs,List.getD_eq_getElem?_getD];exact getD_mem _ hk
    obtain ⟨q,q1,q2,q3⟩:=mem_listW.1 h1
    have:=(((bit_wordsP _ _).1 q2).lt H).1
    omega
   have hlb:∀ k,k<rs.length→0≤l.getD (rs.getD k 0).toNat 0∧l.getD (rs.getD k 0).toNat 0<(m:Int):=fun k hk=>by
    have h1:=hrb k hk
    have h3:l.getD (rs.getD k 0).toNat 0∈l:=by rw [List.getD_eq_getElem?_getD];exact getD_mem _ (by omega)
    have h4:=hge _ h3
    have h5:=le_mxL h3
    omega
   have htl:((ts.length:Nat):Int)=o.regs:=by rw [hts];exact hop.ty i hin
   refine loopES4 (fun (k v60 v53 vT:Nat)=>k≤rs.length) (fun k v60 v53 vT=>[(62,.int .i64 k),(61,.int .i64 rs.length),(60,.ref (1,60) v60 [] 1 0 rs.length),(11,.ref (1,53) v53 [] 5 0 m),(10,.int .i64 i),(48,.int .i64 i),(47,.int .i64 o.irs.length),(9,.ptr (1,9) (nv9+1) [] 0 0),(6,cpO o),(1,ints l),(2,.fptr 12 (rowL (dol o)) 0),(4,.ptr (1,4) 1 [] 0 0),(5,.int .i64 0)]) (fun k v60 v53 vT=>[((1,60),⟨v60,oints rs⟩),((1,53),⟨v53,.own 5 m fun q c=>(dtl (tyF l ts (rs.take k) q)).getD c .undef⟩),((1,1000),⟨vT,.own 1 i (rowT o l m)⟩),((1,9),⟨nv9+1,.obox 12 (outF o l i vT)⟩),((1,4),⟨1,.obox 12 (rowL zeroO)⟩)]) (fun k v60 v53 vT=>rs.length - k) 0 _ _ _ (by simp) ⟨by ((repeat' apply And.intro) <;> (first|exact True.intro|exact NEq.refl _|(refine NEq.int ?_;first|exact rfl|omega|(rw [wrapI (by omega)];first|exact rfl|omega)))),⟨⟨rfl,.refl _⟩,⟨rfl,.refl _⟩,⟨rfl,.refl _⟩,⟨rfl,.refl _⟩,⟨rfl,.refl _⟩,trivial⟩,.nil⟩ ?_
   intro k v60 v53 vT nv hk
   have hwk:IntKind.i64.wrap ((k:Int)+1)=((k+1:Nat):Int):=wrapI (by omega)
   by_cases hkr:k<rs.length
   ·refine evS mx (by decide) (by kernel_rfl) ?_
    repeat'(first|refine vcI ?_|refine And.intro ?_ ?_|(intro hq;(try simp at hq);(try(exfalso;omega));(try(revert hq;intro))))
    all_goals try rw [show 0+(k:Int).toNat=k by omega]
    ·exact (hrb k hkr).1
    ·exact (hrb k hkr).2
    ·rw [hop.ht];omega
    ·exact (hrb k hkr).1
    ·have:=(hrb k hkr).2;show _<(((o.types.getD i []).length:Nat):Int);rw [← hts];omega
    ·exact (hlb k hkr).1
    ·have:=(hlb k hkr).2;omega
    ·exact shape_dtl _ _
    ·rw [show Tryz.prog.cellsOf 25=5 by kernel_rfl]
     refine Exists.intro (.own 5 m fun q c=>(dtl (tyF l ts (rs.take (k+1)) q)).getD c .undef) (And.intro (NEq.owns rfl rfl fun q c hq hc=>?_) (And.intro rfl ?_))
     ·refine ty_put (F:=fun a b=>(dtl ((o.types.getD i []).getD a default)).getD b .undef) (n:=(List.map (fun j=>(fun a b=>(dtl ((o.types.getD i []).getD a default)).getD b .undef) (rs.getD k 0).toNat (0+j)) (List.range 5)).length) l ts hkr hc (by rw [List.length_map,List.length_range]) ?_
      intro j hj
      rw [hts,Nat.zero_add]
     repeat'(first|refine vcI ?_|refine And.intro ?_ ?_|(intro hq;(try simp at hq);(try(exfalso;omega));(try(revert hq;intro))))
     exact Exists.intro (k+1,v60,v53,vT) ⟨by dsimp only;omega,(by first|omega|(dsimp only;omega)),⟨by ((repeat' apply And.intro) <;> (first|exact True.intro|exact NEq.refl _|(refine NEq.int ?_;first|exact rfl|omega|(rw [wrapI (by omega)];first|exact rfl|omega)))),⟨⟨rfl,.refl _⟩,⟨rfl,.refl _⟩,⟨rfl,.refl _⟩,⟨rfl,.refl _⟩,⟨rfl,.refl _⟩,trivial⟩,.nil⟩⟩
   ·obtain rfl:k=rs.length:=by omega
    refine freezeE (1,53) 11 9 (dts (tysR l (o.types.getD i []) (liveL o i) m)) rfl rfl ?_ ?_
    ·rw [← hts,← hrs,List.take_length]
     exact view_tys (k:=7) rfl
    refine evS mx (by decide) (by kernel_rfl) ?_
    repeat'(first|refine vcI ?_|refine And.intro ?_ ?_|(intro hq;(try simp at hq);(try(exfalso;omega));(try(revert hq;intro))))
    rw [show Tryz.prog.cellsOf 59=1 by kernel_rfl]
    repeat'(first|refine vcI ?_|refine And.intro ?_ ?_|(intro hq;(try simp at hq);(try(exfalso;omega));(try(revert hq;intro))))
    refine Exists.intro (.own 1 1 fun _ _=>dts (tysR l (o.types.getD i []) (liveL o i) m)) (And.intro ?_ (And.intro rfl ?_))
    ·refine NEq.owns rfl rfl fun a b ha hb=>?_
     obtain rfl:a=0:=by have:a<1:=ha;omega
     obtain rfl:b=0:=by have:b<1:=hb;omega
     exact .refl _
    repeat'(first|refine vcI ?_|refine And.intro ?_ ?_|(intro hq;(try simp at hq);(try(exfalso;omega));(try(revert hq;intro))))
    ·rw [show Tryz.prog.bytesOf 59=24 by kernel_rfl];omega
    ·omega
    refine Exists.intro (.own 1 (i+1) (rowT o l m)) (And.intro ?_ (And.intro rfl ?_))
    ·refine NEq.owns rfl rfl fun a b ha hb=>?_
     obtain rfl:b=0:=by have:b<1:=hb;omega
     by_cases e:a<i
     ·dsimp only;rw [if_pos e];exact .refl _
     ·obtain rfl:a=i:=by have:a<i+(1 - 0):=ha;omega
      dsimp only;rw [if_neg e];exact .refl _
    repeat'(first|refine vcI ?_|refine And.intro ?_ ?_|(intro hq;(try simp at hq);(try(exfalso;omega));(try(revert hq;intro))))
    refine Exists.intro (i+1,_) ⟨by dsimp only;omega,(by first|omega|(dsimp only;omega)),⟨by ((repeat' apply And.intro) <;> (first|exact True.intro|exact NEq.refl _|(refine NEq.int ?_;first|exact rfl|omega|(rw [wrapI (by omega)];first|exact rfl|omega)))),⟨⟨rfl,.refl _⟩,⟨rfl,.obox ?_⟩,⟨rfl,.refl _⟩,trivial⟩,.nil⟩⟩
    intro q hq
    rcases (by have:q<12:=hq;omega:q=0∨q=1∨q=2∨q=3∨q=4∨q=5∨q=6∨q=7∨q=8∨q=9∨q=10∨q=11) with rfl|rfl|rfl|rfl|rfl|rfl|rfl|rfl|rfl|rfl|rfl|rfl
    all_goals exact .refl _
  ·first
   | refine CallS.frozen _ hMp (plainAll rfl) ?_
   | refine QS.frozen _ hMp (plainAll rfl) ?_
   repeat'(first|refine vcI ?_|refine And.intro ?_ ?_|(intro hq;(try simp at hq);(try(exfalso;omega));(try(revert hq;intro))))
   first
   | refine CallS.frozen _ hDp (plainAll rfl) ?_
   | refine QS.frozen _ hDp (plainAll rfl) ?_
   repeat'(first|refine vcI ?_|refine And.intro ?_ ?_|(intro hq;(try simp at hq);(try(exfalso;omega));(try(revert hq;intro))))
   obtain rfl:i=o.irs.length:=by omega
   rw [show renE o l=(renO o l,0) by unfold renE;rw [if_pos h]]
   show NEq (view 9 _ (.tup [.agg (List.map _ (List.range (Tryz.prog.cellsOf 32))),_])) _
   rw [cOpt]
   refine NEq.tup2 (.agg rfl ?_) (.refl _)
   intro q hq
   rcases (by have:q<12:=hq;omega:q=0∨q=1∨q=2∨q=3∨q=4∨q=5∨q=6∨q=7∨q=8∨q=9∨q=10∨q=11) with rfl|rfl|rfl|rfl|rfl|rfl|rfl|rfl|rfl|rfl|rfl|rfl
   all_goals try exact .refl _
   show NEq _ (dtss (renT o l (mxL l+1).toNat))
   rw [mapD _ _ (by rw [List.length_map,List.length_range];omega)]
   show NEq (view 7 _ (.ref (1,1000) vT [] 1 0 o.irs.length)) (dtss (renT o l (mxL l+1).toNat))
   rw [show (mxL l+1).toNat=m by omega]
   exact view_types rfl
 ·rw [placedR_bad rfl h] at hp
  refine runS mx (by decide) (by kernel_rfl) ?_
  repeat'(first|refine vcI ?_|refine And.intro ?_ ?_|(intro hq;(try simp at hq);(try(exfalso;omega));(try(revert hq;intro))))
  rw [mk_optF,show renE o l=(noneO,chkE o l) by unfold renE;rw [if_neg h]]
  refine CallS.frozen _ hp (plainAll rfl) ?_
  repeat'(first|refine vcI ?_|refine And.intro ?_ ?_|(intro hq;(try simp at hq);(try(exfalso;omega));(try(revert hq;intro))))
  ·kernel_rfl
  show NEq (view 9 _ (.tup [.agg (List.map _ (List.range (Tryz.prog.cellsOf 32))),_])) _
  rw [cOpt]
  refine NEq.tup2 (.agg rfl ?_) (.refl _)
  intro q hq
  rcases (by have:q<12:=hq;omega:q=0∨q=1∨q=2∨q=3∨q=4∨q=5∨q=6∨q=7∨q=8∨q=9∨q=10∨q=11) with rfl|rfl|rfl|rfl|rfl|rfl|rfl|rfl|rfl|rfl|rfl|rfl
  all_goals first
  | exact .refl _
  | exact .nils
end Go.Ab
namespace Go.Proofs.YtbclepldghjacaaGreat.Common
open Go Go.Ab Go.Proofs
open Go.ChangeShapes Go.WideShapes Go.ChangeAt Go.RowKit
set_option maxRecDepth 100000

theorem rSlots2:Reads Tryz.prog 110 (List DS) (fun l=>[dss l]) (fun l=>l.length≤1048576) :=
 Reads.less (Reads.slice (default:DS) Tryz.underlying110 (by rw [cSlot];decide) rSlot) (fun l=>l) fun l hl=>⟨hl.1,LeL.sliceP cSlot rfl fun i o hi ho => .refl _⟩
theorem rMap2:Reads Tryz.prog 112 DM dml (fun m=>m.slots.length≤1048576) :=
 Reads.less (Reads.struct Tryz.underlying112 (by kernel_rfl) (RFs.cons rfl c1 rInt (RFs.cons rfl cSlots rSlots2 (RFs.nil _)))) (fun (v:Int × List DS × Unit)=>⟨v.1,v.2.1⟩) fun v hv=>⟨hv.2.1,LeL.same rfl⟩
theorem rMaps2:Reads Tryz.prog 26 (List DM) (fun l=>[dms l]) (fun l=>l.length≤1048576∧∀ m∈l,m.slots.length≤1048576) :=
 Reads.less (Reads.slice (default:DM) Tryz.underlying26 (by rw [cMap];decide) rMap2) (fun l=>l) fun l hl=>⟨hl,LeL.sliceP cMap rfl fun i o hi ho => .refl _⟩
theorem rDep2:Reads Tryz.prog 119 DP dpl (fun d=>d.map.slots.length≤1048576) :=
 Reads.less (Reads.struct Tryz.underlying119 (by kernel_rfl) (RFs.cons rfl c1 rInt (RFs.cons rfl cB rBool (RFs.cons rfl cMap rMap2 (RFs.cons rfl c1 rInt (RFs.cons rfl cVal rVal (RFs.nil _))))))) (fun (v:Int × Bool × DM × Int × (Int × Int × ByteArray) × Unit)=>⟨v.1,v.2.1,v.2.2.1,v.2.2.2.1,v.2.2.2.2.1.1,v.2.2.2.2.1.2.1,v.2.2.2.2.1.2.2⟩) fun v hv=>⟨hv.2.2.1,LeL.same rfl⟩
theorem rDeps2:Reads Tryz.prog 30 (List DP) (fun l=>[dps l]) (fun l=>l.length≤1048576∧∀ d∈l,d.map.slots.length≤1048576) :=
 Reads.less (Reads.slice (default:DP) Tryz.underlying30 (by rw [cDep];decide) rDep2) (fun l=>l) fun l hl=>⟨hl,LeL.sliceP cDep rfl fun i o hi ho => .refl _⟩
theorem rOpt2:Reads Tryz.prog 32 DO dol (fun o=>o.small∧small2 o) :=
 Reads.less (Reads.struct Tryz.underlying32 (by kernel_rfl) (RFs.cons rfl c1 rInt (RFs.cons rfl cTy rTy (RFs.cons rfl cMaps rMaps2 (RFs.cons rfl cIrs rIrs (RFs.cons rfl cFramess rFramess (RFs.cons rfl cTyss rTyss (RFs.cons rfl cDeps rDeps2 (RFs.cons rfl c1 rInt (RFs.nil _))))))))))
  (fun (v:Int × DT × List DM × List DI × List (List DF) × List (List DT) × List DP × Int × Unit)=>⟨v.1,v.2.1,v.2.2.1,v.2.2.2.1,v.2.2.2.2.1,v.2.2.2.2.2.1,v.2.2.2.2.2.2.1,v.2.2.2.2.2.2.2.1⟩) fun v hv=>⟨⟨⟨hv.2.2.2.1.1,hv.2.2.2.2.1.1,hv.2.2.2.2.2.1.1,hv.2.2.2.1.2,hv.2.2.2.2.1.2,hv.2.2.2.2.2.1.2⟩,hv.2.2.1.2,hv.2.2.2.2.2.2.1.2,hv.2.2.1.1,hv.2.2.2.2.2.2.1.1⟩,LeL.same rfl⟩
end Go.Proofs.YtbclepldghjacaaGreat.Common
namespace Go.Ab
open Go.Proofs
set_option maxRecDepth 100000
set_option maxHeartbeats 4000000

def mwL (l:List Int):Int:=l.foldl (fun a x=>max a (x+1)) 0
def outR (o:DO) (m:Int):Nat→PV:=rowL (dol { o with regs:=m })
theorem getDm {α:Type} {d:α} {l:List α} {k:Nat} (hk:k<l.length):l.getD k d∈l:=by
 rw [List.getD_eq_getElem?_getD];exact getD_mem _ hk
theorem mwL_eq {l:List Int} (h0:0<l.length) (h:∀ x∈l,0≤x):mwL l=mxL l+1:=by
 have key:∀ (l:List Int) (a:Int),l.foldl (fun a x=>max a (x+1)) (a+1)=l.foldl max a+1:=by
  intro l
  induction l with
  | nil=>intro a;rfl
  | cons x l ih=>intro a;rw [List.foldl_cons,List.foldl_cons,show max (a+1) (x+1)=max a x+1 by omega];exact ih _
 cases l with
 | nil=>cases h0
 | cons x l =>
  have hx:=h x (by simp)
  unfold mwL mxL
  rw [List.foldl_cons,List.foldl_cons,show max 0 (x+1)=max 0 x+1 by omega]
  exact key _ _
def rowI (o:DO) (l:List Int):Nat→Nat→PV:=fun a q=>(dil (renI l (o.irs.getD a default))).getD q .undef
def rowD (o:DO) (l:List Int):Nat→Nat→PV:=fun a _=>dfs ((o.descs.getD a []).map (renF l))
def outG (o:DO) (m:Int) (a b c vI vD vT:Nat):Nat→PV:=fun q=>if q=7 then .ref (1,1000) vI [] 16 0 a else if q=8 then .ref (1,1001) vD [] 1 0 b else if q=9 then .ref (1,1002) vT [] 1 0 c else rowL (dol { o with regs:=m }) q
theorem view_own {k:Nat} {L:Hp} {r:RId} {v n n' sz:Nat} {f g:Nat→Nat→PV} (h:lkH L r=some ⟨v,.own sz n f⟩) (hn:n=n') (hf:∀ a q,a<n→q<sz→NEq (view k L (f a q)) (g a q)):NEq (Ab.view (k+1) L (.ref r v [] sz 0 n)) (.frz sz n' g):=by
 subst hn
 rw [Ab.view,h]
 simp only [if_true,getAt]
 exact NEq.frzs rfl (by simp) fun a b ha hb=>by rw [Nat.zero_add];exact hf a b (by simpa using ha) hb
theorem ty_put2 (l:List Int) (ts:List DT) {R:List Int} {r:Int} {q c n:Nat} {F:Nat→Nat→PV} (hc:c<5) (hn:n=5) (hF:∀ j,j<5→F r.toNat (0+j)=(dtl (ts.getD r.toNat default)).getD j .undef) :
  NEq (if q=0+(l.getD r.toNat 0).toNat∧0≤c∧c<0+n then (List.map (fun j=>F r.toNat (0+j)) (List.range 5)).getD (c - 0) .undef else (dtl (tyF l ts R q)).getD c .undef) ((dtl (tyF l ts (R++[r]) q)).getD c .undef):=by
 subst hn
 rw [tyF_snoc]
 by_cases e:q=(l.getD r.toNat 0).toNat
 ·rw [if_pos ⟨by omega,by omega,by omega⟩,if_pos e,Nat.sub_zero,List.getD_eq_getElem?_getD,List.getElem?_map,List.getElem?_range hc]
  exact NEq.of_eq (hF c hc)
 ·rw [if_neg (fun h=>e (by omega)),if_neg e];exact .refl _
theorem RRename_spec (o:DO) (l:List Int) (hll:l.length≤1048576) (hf:fewN o≤6000) (hs:∀ l∈o.descs,l.length≤1048576∧∀ f∈l,f.small) (hl:o.irs.length≤1048576∧o.descs.length≤1048576∧o.types.length≤1048576):CallsF Tryz.prog 19 [.agg (dol o),ints l] (.tup [.agg (dol (renE o l).1),.int .i64 (renE o l).2]):=by
 have hp:=RCheck_spec o l hll hf hs hl
 by_cases h:chkE o l=0
 ·rw [h] at hp
  have hP:=(chkE_zero hf hs).1 h
  have hop:=hP.op
  have H:=hop.fl hf hs
  have hlen:=hP.len
  have hr1:=hop.r1
  have hr2:=hop.r2
  have hge:=hP.ge
  have hd:=hop.hd
  have hml:=mxL_le (l:=l) (b:=o.regs - 1) (by omega) fun x hx=>by have:=hge x hx;omega
  have hil:o.irs.length≤600:=hop.le
  have hlo:=LiveOf_spec o H hop.r1
  obtain ⟨mr,hmr⟩:∃ m:Nat,o.regs=(m:Int):=⟨o.regs.toNat,(Int.toNat_of_nonneg (by omega)).symm⟩
  have hmt:o.regs.toNat=mr:=by omega
  rw [hmt] at hlo
  refine callsF_ofS mx Tryz.call19 Tryz.func19 rfl Tryz.ntmps19 Tryz.results19 (by kernel_rfl) (by simp) fun lo=>?_
  repeat'(first|refine vcI ?_|refine And.intro ?_ ?_|(intro hq;(try simp at hq);(try(exfalso;omega));(try(revert hq;intro))))
  rw [mk_opt]
  refine CallS.frozen _ hp (plainAll rfl) ?_
  repeat'(first|refine vcI ?_|refine And.intro ?_ ?_|(intro hq;(try simp at hq);(try(exfalso;omega));(try(revert hq;intro))))
  refine CallS.ownPlain [.fptr 12 (rowL (dol o)) 0] 1 o.irs.length (fun a _ => .own 1 mr fun r _ => .bool (lvB o a r)) (fun id ver => .ref id ver [] 1 0 o.irs.length) hlo (LeL.cons (view_opt rfl) LeL.nil) trivial (fun i o hi=>fun _ _ _=>trivial) ?_
  repeat'(first|refine vcI ?_|refine And.intro ?_ ?_|(intro hq;(try simp at hq);(try(exfalso;omega));(try(revert hq;intro))))
  refine loopS3 mx (by decide) (by kernel_rfl) (fun (k v20 v8:Nat)=>k≤mr) (fun k v20 v8=>[(9,.int .i64 k),(7,.ref (1,20) v20 [] 1 0 o.irs.length),(8,.ptr (1,8) v8 [] 0 0),(2,.ptr (1,2) 0 [] 0 0),(4,.ptr (1,4) 1 [] 0 0),(1,ints l)]) (fun k v20 v8=>[((1,8),⟨v8,.obox 12 (outR o (mwL (l.take k)))⟩),((1,20),⟨v20,bbN o.irs.length mr (lvB o)⟩),((1,2),⟨0,.obox 12 (rowL (dol o))⟩),((1,4),⟨1,.obox 12 (rowL zeroO)⟩)]) (fun k v20 v8=>mr - k) 0 _ _ (by simp) ⟨by ((repeat' apply And.intro) <;> (first|exact True.intro|exact NEq.refl _|(refine NEq.int ?_;first|exact rfl|omega|(rw [wrapI (by omega)];first|exact rfl|omega)))),⟨⟨rfl,.obox ?_⟩,⟨rfl,.refl _⟩,⟨rfl,.refl _⟩,⟨rfl,.refl _⟩,trivial⟩,.nil⟩ ?_
  ·intro q hq
   rcases (by have:q<12:=hq;omega:q=0∨q=1∨q=2∨q=3∨q=4∨q=5∨q=6∨q=7∨q=8∨q=9∨q=10∨q=11) with rfl|rfl|rfl|rfl|rfl|rfl|rfl|rfl|rfl|rfl|rfl|rfl
   all_goals exact .refl _
  intro k v20 v8 nv hk
  have hwk:IntKind.i64.wrap ((k:Int)+1)=((k+1:Nat):Int):=wrapI (by omega)
  repeat'(first|refine vcI ?_|refine And.intro ?_ ?_|(intro hq;(try simp at hq);(try(exfalso;omega));(try(revert hq;intro))))
  ·have hkl:k<l.length:=by omega
   have hb:=hge (l.getD k 0) (by rw [List.getD_eq_getElem?_getD];exact getD_mem _ hkl)
   have hwl:IntKind.i64.wrap (l.getD k 0+1)=l.getD k 0+1:=wrapI (by omega)
   have ew:mwL (l.take (k+1))=if IntKind.i64.wrap (l.getD k 0+1)>mwL (l.take k) then IntKind.i64.wrap (l.getD k 0+1) else mwL (l.take k):=by
    unfold mwL;rw [take_succD 0 hkl,List.foldl_append,hwl];show max _ _=_;split <;> omega
   refine Exists.intro (k+1,v20,v8) ⟨by dsimp only;omega,(by first|omega|(dsimp only;omega)),⟨by ((repeat' apply And.intro) <;> (first|exact True.intro|exact NEq.refl _|(refine NEq.int ?_;first|exact rfl|omega|(rw [wrapI (by omega)];first|exact rfl|omega)))),⟨⟨rfl,.obox ?_⟩,⟨rfl,.refl _⟩,⟨rfl,.refl _⟩,⟨rfl,.refl _⟩,trivial⟩,.nil⟩⟩
   dsimp only
   rw [ew]
   intro q hq
   rcases (by have:q<12:=hq;omega:q=0∨q=1∨q=2∨q=3∨q=4∨q=5∨q=6∨q=7∨q=8∨q=9∨q=10∨q=11) with rfl|rfl|rfl|rfl|rfl|rfl|rfl|rfl|rfl|rfl|rfl|rfl
   all_goals exact .refl _
  ·obtain rfl:k=mr:=by omega
   rw [List.take_of_length_le (by omega)]
   obtain ⟨m,hm⟩:∃ m:Nat,mxL l+1=(m:Int):=⟨(mxL l+1).toNat,(Int.toNat_of_nonneg (by omega)).symm⟩
   have hmw:mwL l=(m:Int):=by rw [mwL_eq (by omega) fun x hx=>(hge x hx).1];exact hm
   rw [hmw]
   refine ghostC (1,8) 7 (1,1000) (by decide) (by decide) 16 (fun _ _ => .undef) rfl rfl rfl fun vI=>?_
   refine ghostC (1,8) 8 (1,1001) (by decide) (by decide) 1 (fun _ _ => .undef) rfl rfl rfl fun vD=>?_
   refine ghostC (1,8) 9 (1,1002) (by decide) (by decide) 1 (fun _ _ => .undef) rfl rfl rfl fun vT=>?_
   refine loopS4 mx (by decide) (by kernel_rfl) (fun (i vI vD vT:Nat)=>i≤o.irs.length) (fun i vI vD vT=>[(10,.int .i64 i),(7,.ref (1,20) v20 [] 1 0 o.irs.length),(8,.ptr (1,8) v8 [] 0 0),(2,.ptr (1,2) 0 [] 0 0),(4,.ptr (1,4) 1 [] 0 0),(1,ints l)]) (fun i vI vD vT=>[((1,1000),⟨vI,.own 16 i (rowI o l)⟩),((1,1001),⟨vD,.own 1 i (rowD o l)⟩),((1,1002),⟨vT,.own 1 i (rowT o l m)⟩),((1,8),⟨v8,.obox 12 (outG o m i i i vI vD vT)⟩),((1,20),⟨v20,bbN o.irs.length k (lvB o)⟩),((1,2),⟨0,.obox 12 (rowL (dol o))⟩),((1,4),⟨1,.obox 12 (rowL zeroO)⟩)]) (fun i vI vD vT=>o.irs.length - i) 0 vI vD vT (by simp) ⟨by ((repeat' apply And.intro) <;> (first|exact True.intro|exact NEq.refl _|(refine NEq.int ?_;first|exact rfl|omega|(rw [wrapI (by omega)];first|exact rfl|omega)))),⟨⟨rfl,.owns rfl rfl fun i o hi=>absurd hi (by simp)⟩,⟨rfl,.owns rfl rfl fun i o hi=>absurd hi (by simp)⟩,⟨rfl,.owns rfl rfl fun i o hi=>absurd hi (by simp)⟩,⟨rfl,.obox ?_⟩,⟨rfl,.refl _⟩,⟨rfl,.refl _⟩,⟨rfl,.refl _⟩,trivial⟩,.nil⟩ ?_
   ·intro q hq
    rcases (by have:q<12:=hq;omega:q=0∨q=1∨q=2∨q=3∨q=4∨q=5∨q=6∨q=7∨q=8∨q=9∨q=10∨q=11) with rfl|rfl|rfl|rfl|rfl|rfl|rfl|rfl|rfl|rfl|rfl|rfl
    all_goals exact .refl _
   clear vI vD vT
   intro i vI vD vT nv hi
   have hwi:IntKind.i64.wrap ((i:Int)+1)=((i+1:Nat):Int):=wrapI (by omega)
   repeat'(first|refine vcI ?_|refine And.intro ?_ ?_|(intro hq;(try simp at hq);(try(exfalso;omega));(try(revert hq;intro))))
   ·have hin:i<o.irs.length:=by assumption
    have h3:=regsI_of hop hin
    have h4:=regsF_of hop hin
    have h5:=hs _ (getDm (d:=[]) (by omega:i<o.descs.length))
    have hI:=renamedR_spec l (o.irs.getD i default) hll (by omega) (by rw [hlen];exact h3.1)
    have hF:=RenameFrames_spec l (o.descs.getD i []) hll h5.1 h5.2 fun f hf=>by rw [hlen];exact h4 f hf
    rw [show Tryz.prog.cellsOf 58=16 by kernel_rfl]
    first
    | refine CallS.frozen _ hI (plainAll rfl) ?_
    | refine QS.frozen _ hI (plainAll rfl) ?_
    repeat'(first|refine vcI ?_|refine And.intro ?_ ?_|(intro hq;(try simp at hq);(try(exfalso;omega));(try(revert hq;intro))))
    ·rw [show Tryz.prog.bytesOf 58=168 by kernel_rfl];omega
    ·omega
    refine Exists.intro (.own 16 (i+1) (rowI o l)) (And.intro ?_ (And.intro rfl ?_))
    ·refine NEq.owns rfl rfl fun a q ha hq=>?_
     by_cases e:a<i
     ·dsimp only;rw [if_pos e];exact .refl _
     ·obtain rfl:a=i:=by have:a<i+(1 - 0):=ha;omega
      dsimp only;rw [if_neg e,Nat.sub_self]
      rcases (by omega:q=0∨q=1∨q=2∨q=3∨q=4∨q=5∨q=6∨q=7∨q=8∨q=9∨q=10∨q=11∨q=12∨q=13∨q=14∨q=15) with rfl|rfl|rfl|rfl|rfl|rfl|rfl|rfl|rfl|rfl|rfl|rfl|rfl|rfl|rfl|rfl <;> exact .refl _
    repeat'(first|refine vcI ?_|refine And.intro ?_ ?_|(intro hq;(try simp at hq);(try(exfalso;omega));(try(revert hq;intro))))
    first
    | refine CallS.frozen _ hF (plainAll rfl) ?_
    | refine QS.frozen _ hF (plainAll rfl) ?_
    repeat'(first|refine vcI ?_|refine And.intro ?_ ?_|(intro hq;(try simp at hq);(try(exfalso;omega));(try(revert hq;intro))))
    ·rw [show Tryz.prog.bytesOf 61=24 by kernel_rfl];omega
    ·omega
    refine Exists.intro (.own 1 (i+1) (rowD o l)) (And.intro ?_ (And.intro rfl ?_))
    ·refine NEq.owns rfl rfl fun a q ha hq=>?_
     obtain rfl:q=0:=by have:q<1:=hq;omega
     by_cases e:a<i
     ·dsimp only;rw [if_pos e];exact .refl _
     ·obtain rfl:a=i:=by have:a<i+(1 - 0):=ha;omega
      dsimp only;rw [if_neg e,Nat.sub_self]
      exact .refl _
    have hmb:m≤250:=by omega
    repeat'(first|refine vcI ?_|refine And.intro ?_ ?_|(intro hq;(try simp at hq);(try(exfalso;omega));(try(revert hq;intro))))
    ·rw [show Tryz.prog.bytesOf 25=48 by kernel_rfl];show (m:Int)*_≤_;omega
    ·rfl
    obtain ⟨ts,hts⟩:∃ ts,ts=o.types.getD i []:=⟨_,rfl⟩
    have htl:((ts.length:Nat):Int)=o.regs:=by rw [hts];exact hop.ty i hin
    refine Exists.intro (.own 5 m fun q c=>(dtl (tyF l ts (rowLs o i 0) q)).getD c .undef) (And.intro (NEq.owns rfl (by simp) fun q c hq hc=>?_) (And.intro rfl ?_))
    ·rcases (by have:c<5:=hc;omega:c=0∨c=1∨c=2∨c=3∨c=4) with rfl|rfl|rfl|rfl|rfl <;> exact .refl _
    repeat'(first|refine vcI ?_|refine And.intro ?_ ?_|(intro hq;(try simp at hq);(try(exfalso;omega));(try(revert hq;intro))))
    refine loopES4 (fun (r v11 vI vD:Nat)=>r≤k) (fun r v11 vI vD=>[(12,.int .i64 r),(11,.ref (1,74) v11 [] 5 0 m),(10,.int .i64 i),(7,.ref (1,20) v20 [] 1 0 o.irs.length),(8,.ptr (1,8) v8 [] 0 0),(2,.ptr (1,2) 0 [] 0 0),(4,.ptr (1,4) 1 [] 0 0),(1,ints l)]) (fun r v11 vI vD=>[((1,74),⟨v11,.own 5 m fun q c=>(dtl (tyF l ts (rowLs o i r) q)).getD c .undef⟩),((1,1000),⟨vI,.own 16 (i+1) (rowI o l)⟩),((1,1001),⟨vD,.own 1 (i+1) (rowD o l)⟩),((1,1002),⟨vT,.own 1 i (rowT o l m)⟩),((1,8),⟨v8,.obox 12 (outG o m (i+1) (i+1) i vI vD vT)⟩),((1,20),⟨v20,bbN o.irs.length k (lvB o)⟩),((1,2),⟨0,.obox 12 (rowL (dol o))⟩),((1,4),⟨1,.obox 12 (rowL zeroO)⟩)]) (fun r v11 vI vD=>k - r) 0 _ _ _ (by simp) ⟨by ((repeat' apply And.intro) <;> (first|exact True.intro|exact NEq.refl _|(refine NEq.int ?_;first|exact rfl|omega|(rw [wrapI (by omega)];first|exact rfl|omega)))),⟨⟨rfl,.refl _⟩,⟨rfl,.refl _⟩,⟨rfl,.refl _⟩,⟨rfl,.refl _⟩,⟨rfl,.obox ?_⟩,⟨rfl,.refl _⟩,⟨rfl,.refl _⟩,⟨rfl,.refl _⟩,trivial⟩,.nil⟩ ?_
    ·intro q hq
     rcases (by have:q<12:=hq;omega:q=0∨q=1∨q=2∨q=3∨q=4∨q=5∨q=6∨q=7∨q=8∨q=9∨q=10∨q=11) with rfl|rfl|rfl|rfl|rfl|rfl|rfl|rfl|rfl|rfl|rfl|rfl
     all_goals exact .refl _
    intro r v11 vI vD nv hr
    have hwr:IntKind.i64.wrap ((r:Int)+1)=((r+1:Nat):Int):=wrapI (by omega)
    by_cases hrk:r<k
    ·have hrl:r<l.length:=by omega
     have hlx:l.getD r 0∈l:=getDm hrl
     have hlb:=hge _ hlx
     have hlm:=le_mxL hlx
     have e0:0+((r:Nat):Int).toNat=r:=by omega
     refine evS mx (by decide) (by kernel_rfl) ?_
     repeat'(first|refine vcI ?_|refine And.intro ?_ ?_|(intro hq;(try simp at hq);(try(exfalso;omega));(try(revert hq;intro))))
     ·rw [hop.ht];omega
     ·show _<(((o.types.getD i []).length:Nat):Int);rw [← hts];omega
     ·exact hlb.1
     ·show l.getD r 0<_;omega
     ·exact shape_dtl _ _
     ·have hv:lvB o i r=true:=by assumption
      have es:rowLs o i (r+1)=rowLs o i r++[(r:Int)]:=by rw [rowLs_succ,if_pos hv]
      rw [show Tryz.prog.cellsOf 25=5 by kernel_rfl]
      refine Exists.intro (.own 5 m fun q c=>(dtl (tyF l ts (rowLs o i (r+1)) q)).getD c .undef) (And.intro (NEq.owns rfl rfl fun q c hq hc=>?_) (And.intro rfl ?_))
      ·rw [es]
       refine ty_put2 (r:=(r:Int)) (F:=fun a b=>(dtl ((o.types.getD i []).getD a default)).getD b .undef) (n:=(List.map (fun j=>(fun a b=>(dtl ((o.types.getD i []).getD a default)).getD b .undef) r (0+j)) (List.range 5)).length) l ts hc (by rw [List.length_map,List.length_range]) ?_
       intro j hj
       rw [hts,Nat.zero_add]
      repeat'(first|refine vcI ?_|refine And.intro ?_ ?_|(intro hq;(try simp at hq);(try(exfalso;omega));(try(revert hq;intro))))
      exact Exists.intro (r+1,v11,vI,vD) ⟨by dsimp only;omega,(by first|omega|(dsimp only;omega)),⟨by ((repeat' apply And.intro) <;> (first|exact True.intro|exact NEq.refl _|(refine NEq.int ?_;first|exact rfl|omega|(rw [wrapI (by omega)];first|exact rfl|omega)))),⟨⟨rfl,.refl _⟩,⟨rfl,.refl _⟩,⟨rfl,.refl _⟩,⟨rfl,.refl _⟩,⟨rfl,.refl _⟩,⟨rfl,.refl _⟩,⟨rfl,.refl _⟩,⟨rfl,.refl _⟩,trivial⟩,.nil⟩⟩
     ·have hv:lvB o i r=false:=by assumption
      have es:rowLs o i (r+1)=rowLs o i r:=by rw [rowLs_succ,if_neg (by rw [hv];decide)]
      refine Exists.intro (r+1,v11,vI,vD) ⟨by dsimp only;omega,(by first|omega|(dsimp only;omega)),?_⟩
      dsimp only
      rw [es]
      exact ⟨by ((repeat' apply And.intro) <;> (first|exact True.intro|exact NEq.refl _|(refine NEq.int ?_;first|exact rfl|omega|(rw [wrapI (by omega)];first|exact rfl|omega)))),⟨⟨rfl,.refl _⟩,⟨rfl,.refl _⟩,⟨rfl,.refl _⟩,⟨rfl,.refl _⟩,⟨rfl,.refl _⟩,⟨rfl,.refl _⟩,⟨rfl,.refl _⟩,⟨rfl,.refl _⟩,trivial⟩,.nil⟩
    ·obtain rfl:r=k:=by omega
     refine freezeE (1,74) 11 9 (dts (tysR l (o.types.getD i []) (liveL o i) m)) rfl rfl ?_ ?_
     ·have e1:rowLs o i r=liveL o i:=by rw [← hmt];exact rowLs_live H hin
      rw [← hts,← e1]
      exact view_tys (k:=7) rfl
     refine evS mx (by decide) (by kernel_rfl) ?_
     repeat'(first|refine vcI ?_|refine And.intro ?_ ?_|(intro hq;(try simp at hq);(try(exfalso;omega));(try(revert hq;intro))))
     rw [show Tryz.prog.cellsOf 59=1 by kernel_rfl]
     repeat'(first|refine vcI ?_|refine And.intro ?_ ?_|(intro hq;(try simp at hq);(try(exfalso;omega));(try(revert hq;intro))))
     refine Exists.intro (.own 1 1 fun _ _=>dts (tysR l (o.types.getD i []) (liveL o i) m)) (And.intro ?_ (And.intro rfl ?_))
     ·refine NEq.owns rfl rfl fun a b ha hb=>?_
      obtain rfl:a=0:=by have:a<1:=ha;omega
      obtain rfl:b=0:=by have:b<1:=hb;omega
      exact .refl _
     repeat'(first|refine vcI ?_|refine And.intro ?_ ?_|(intro hq;(try simp at hq);(try(exfalso;omega));(try(revert hq;intro))))
     ·rw [show Tryz.prog.bytesOf 59=24 by kernel_rfl];omega
     ·omega
     refine Exists.intro (.own 1 (i+1) (rowT o l m)) (And.intro ?_ (And.intro rfl ?_))
     ·refine NEq.owns rfl rfl fun a b ha hb=>?_
      obtain rfl:b=0:=by have:b<1:=hb;omega
      by_cases e:a<i
      ·dsimp only;rw [if_pos e];exact .refl _
      ·obtain rfl:a=i:=by have:a<i+(1 - 0):=ha;omega
       dsimp only;rw [if_neg e];exact .refl _
     repeat'(first|refine vcI ?_|refine And.intro ?_ ?_|(intro hq;(try simp at hq);(try(exfalso;omega));(try(revert hq;intro))))
     refine Exists.intro (i+1,_,_,_) ⟨by dsimp only;omega,(by first|omega|(dsimp only;omega)),⟨by ((repeat' apply And.intro) <;> (first|exact True.intro|exact NEq.refl _|(refine NEq.int ?_;first|exact rfl|omega|(rw [wrapI (by omega)];first|exact rfl|omega)))),⟨⟨rfl,.refl _⟩,⟨rfl,.refl _⟩,⟨rfl,.refl _⟩,⟨rfl,.obox ?_⟩,⟨rfl,.refl _⟩,⟨rfl,.refl _⟩,⟨rfl,.refl _⟩,trivial⟩,.nil⟩⟩
     intro q hq
     rcases (by have:q<12:=hq;omega:q=0∨q=1∨q=2∨q=3∨q=4∨q=5∨q=6∨q=7∨q=8∨q=9∨q=10∨q=11) with rfl|rfl|rfl|rfl|rfl|rfl|rfl|rfl|rfl|rfl|rfl|rfl
     all_goals exact .refl _
   ·obtain rfl:i=o.irs.length:=by omega
    rw [show renE o l=(renO o l,0) by unfold renE;rw [if_pos h]]
    show NEq (view 9 _ (.tup [.agg (List.map _ (List.range (Tryz.prog.cellsOf 32))),_])) _
    rw [cOpt]
    refine NEq.tup2 (.agg rfl ?_) (.refl _)
    intro q hq
    rcases (by have:q<12:=hq;omega:q=0∨q=1∨q=2∨q=3∨q=4∨q=5∨q=6∨q=7∨q=8∨q=9∨q=10∨q=11) with rfl|rfl|rfl|rfl|rfl|rfl|rfl|rfl|rfl|rfl|rfl|rfl
    all_goals try exact .refl _
    ·show NEq _ (dis (o.irs.map (renI l)))
     rw [mapD _ _ (by rw [List.length_map,List.length_range];omega)]
     show NEq (view 7 _ (.ref (1,1000) vI [] 16 0 o.irs.length)) _
     refine view_own rfl (by simp) fun a q ha hq=>?_
     have e:(o.irs.map (renI l)).getD a default=renI l (o.irs.getD a default):=by
      rw [List.getD_eq_getElem?_getD,List.getD_eq_getElem?_getD,List.getElem?_map,List.getElem?_eq_getElem ha];rfl
     rw [e]
     exact NEq.of_eq (view_dil 5 _ _ q)
    ·show NEq _ (dfss (o.descs.map fun fs=>fs.map (renF l)))
     rw [mapD _ _ (by rw [List.length_map,List.length_range];omega)]
     show NEq (view 7 _ (.ref (1,1001) vD [] 1 0 o.irs.length)) _
     refine view_own rfl (by simp [hd]) fun a q ha hq=>?_
     have e:(o.descs.map fun fs=>fs.map (renF l)).getD a []=(o.descs.getD a []).map (renF l):=by
      rw [List.getD_eq_getElem?_getD,List.getD_eq_getElem?_getD,List.getElem?_map,List.getElem?_eq_getElem (by omega)];rfl
     rw [e]
     exact .refl _
    ·show NEq _ (dtss (renT o l (mxL l+1).toNat))
     rw [mapD _ _ (by rw [List.length_map,List.length_range];omega)]
     show NEq (view 7 _ (.ref (1,1002) vT [] 1 0 o.irs.length)) _
     rw [show (mxL l+1).toNat=m by omega]
     refine view_own rfl (by simp [renT]) fun a q ha hq=>?_
     have e:(renT o l m).getD a []=tysR l (o.types.getD a []) (liveL o a) m:=by
      rw [List.getD_eq_getElem?_getD,renT,List.getElem?_map,List.getElem?_range ha];rfl
     rw [e]
     exact .refl _
    ·show NEq (.int .i64 m) (.int .i64 (mxL l+1))
     rw [hm];exact .refl _
 ·refine callsF_ofS mx Tryz.call19 Tryz.func19 rfl Tryz.ntmps19 Tryz.results19 (by kernel_rfl) (by simp) fun lo=>?_
  repeat'(first|refine vcI ?_|refine And.intro ?_ ?_|(intro hq;(try simp at hq);(try(exfalso;omega));(try(revert hq;intro))))
  rw [mk_opt,show renE o l=(noneO,chkE o l) by unfold renE;rw [if_neg h]]
  refine CallS.frozen _ hp (plainAll rfl) ?_
  repeat'(first|refine vcI ?_|refine And.intro ?_ ?_|(intro hq;(try simp at hq);(try(exfalso;omega));(try(revert hq;intro))))
  ·kernel_rfl
  show NEq (view 9 _ (.tup [.agg (List.map _ (List.range (Tryz.prog.cellsOf 32))),_])) _
  rw [cOpt]
  refine NEq.tup2 (.agg rfl ?_) (.refl _)
  intro q hq
  rcases (by have:q<12:=hq;omega:q=0∨q=1∨q=2∨q=3∨q=4∨q=5∨q=6∨q=7∨q=8∨q=9∨q=10∨q=11) with rfl|rfl|rfl|rfl|rfl|rfl|rfl|rfl|rfl|rfl|rfl|rfl
  all_goals first
  | exact .refl _
  | exact .nils
end Go.Ab
namespace Go.Ab
open Go.Proofs
set_option maxRecDepth 100000
set_option maxHeartbeats 4000000

theorem eqPV_dvl (a b:DV):eqPV Tryz.prog 100 103 (.agg (dvl a)) (.agg (dvl b))=some ((a.k == b.k)&&((a.n == b.n)&&((a.m == b.m)&&(((a.vk == b.vk)&&((a.vn == b.vn)&&((a.vs.toList == b.vs.toList)&&true)))&&true)))):=by kernel_rfl
theorem eqPV_self (a:DV):eqPV Tryz.prog 100 103 (.agg (dvl a)) (.agg (dvl a))=some true:=by
 rw [eqPV_dvl];simp
theorem selfV_spec (l : List DV) : CallsF Tryz.prog 105 [dvs l, dvs l] (.bool true) := by
  refine callsF_ofS mx Tryz.call105 Tryz.func105 rfl Tryz.ntmps105 Tryz.results105 (by kernel_rfl) (by simp) fun lo => ?_
  repeat'(first|refine vcI ?_|refine And.intro ?_ ?_|(intro hq;(try simp at hq);(try(exfalso;omega));(try(revert hq;intro))))
  refine loopS mx (by decide) (by kernel_rfl) (fun k : Nat => k ≤ l.length) (fun k => [(5, .int .i64 k), (0, dvs l), (1, dvs l)]) (fun _ => []) (fun k => l.length - k) 0 (by simp) ⟨by ((repeat' apply And.intro) <;> (first | exact True.intro | exact NEq.refl _ | (refine NEq.int ?_; first | exact rfl | omega | (rw [wrapI (by omega)]; first | exact rfl | omega)))), trivial, .nil⟩ ?_
  intro k nv hk
  have hwk : IntKind.i64.wrap ((k : Int) + 1) = ((k + 1 : Nat) : Int) := wrapI (by have : l.length ≤ 140737488355328 := by assumption
                                                                                   omega)
  repeat'(first|refine vcI ?_|refine And.intro ?_ ?_|(intro hq;(try simp at hq);(try(exfalso;omega));(try(revert hq;intro))))
  · rw [mk_sv, show Tryz.prog.cellsOf 103 = 6 by kernel_rfl]
    conv => whnf
    rw [opB_eq true rfl rfl rfl (by kernel_rfl) (eqPV_self _)]
    repeat'(first|refine vcI ?_|refine And.intro ?_ ?_|(intro hq;(try simp at hq);(try(exfalso;omega));(try(revert hq;intro))))
    exact Exists.intro (k + 1) ⟨by dsimp only; omega, (by first | omega | (dsimp only; omega)), ⟨by ((repeat' apply And.intro) <;> (first | exact True.intro | exact NEq.refl _ | (refine NEq.int ?_; first | exact rfl | omega | (rw [wrapI (by omega)]; first | exact rfl | omega)))), trivial, .nil⟩⟩
  · repeat'(first|refine vcI ?_|refine And.intro ?_ ?_|(intro hq;(try simp at hq);(try(exfalso;omega));(try(revert hq;intro))))
    exact .refl _
theorem mk_tyF (l:List DT) (k:Nat):mkV Tryz.prog 25 (fun q=>(dtl (l.getD (k:Int).toNat default)).getD q .undef) 0 = .agg (dtl (l.getD k default)):=by
 show PV.agg (List.map _ (List.range (Tryz.prog.cellsOf 25)))=_
 rw [show Tryz.prog.cellsOf 25=5 by kernel_rfl];rfl
theorem eqPV_dtl (a b:DT):eqPV Tryz.prog 100 25 (.agg (dtl a)) (.agg (dtl b))=some ((a.k == b.k)&&((a.n == b.n)&&(((a.vk == b.vk)&&((a.vn == b.vn)&&((a.vs.toList == b.vs.toList)&&true)))&&true))):=by kernel_rfl
theorem eqPV_selfT (a:DT):eqPV Tryz.prog 100 25 (.agg (dtl a)) (.agg (dtl a))=some true:=by
 rw [eqPV_dtl];simp
theorem selfT_spec (l : List DT) : CallsF Tryz.prog 67 [dts l, dts l] (.bool true) := by
  refine callsF_ofS mx Tryz.call67 Tryz.func67 rfl Tryz.ntmps67 Tryz.results67 (by kernel_rfl) (by simp) fun lo => ?_
  repeat'(first|refine vcI ?_|refine And.intro ?_ ?_|(intro hq;(try simp at hq);(try(exfalso;omega));(try(revert hq;intro))))
  refine loopS mx (by decide) (by kernel_rfl) (fun k : Nat => k ≤ l.length) (fun k => [(5, .int .i64 k), (0, dts l), (1, dts l)]) (fun _ => []) (fun k => l.length - k) 0 (by simp) ⟨by ((repeat' apply And.intro) <;> (first | exact True.intro | exact NEq.refl _ | (refine NEq.int ?_; first | exact rfl | omega | (rw [wrapI (by omega)]; first | exact rfl | omega)))), trivial, .nil⟩ ?_
  intro k nv hk
  have hwk : IntKind.i64.wrap ((k : Int) + 1) = ((k + 1 : Nat) : Int) := wrapI (by have : l.length ≤ 140737488355328 := by assumption
                                                                                   omega)
  repeat'(first|refine vcI ?_|refine And.intro ?_ ?_|(intro hq;(try simp at hq);(try(exfalso;omega));(try(revert hq;intro))))
  · rw [mk_tyF, show Tryz.prog.cellsOf 25 = 5 by kernel_rfl]
    conv => whnf
    rw [opB_eq true rfl rfl rfl (by kernel_rfl) (eqPV_selfT _)]
    repeat'(first|refine vcI ?_|refine And.intro ?_ ?_|(intro hq;(try simp at hq);(try(exfalso;omega));(try(revert hq;intro))))
    exact Exists.intro (k + 1) ⟨by dsimp only; omega, (by first | omega | (dsimp only; omega)), ⟨by ((repeat' apply And.intro) <;> (first | exact True.intro | exact NEq.refl _ | (refine NEq.int ?_; first | exact rfl | omega | (rw [wrapI (by omega)]; first | exact rfl | omega)))), trivial, .nil⟩⟩
  · repeat'(first|refine vcI ?_|refine And.intro ?_ ?_|(intro hq;(try simp at hq);(try(exfalso;omega));(try(revert hq;intro))))
    exact .refl _
theorem eqPV_selfVal (k n:Int) (s:ByteArray):eqPV Tryz.prog 100 23 (.agg [.int .i64 k,.int .i64 n,.str s]) (.agg [.int .i64 k,.int .i64 n,.str s])=some true:=by
 rw [show eqPV Tryz.prog 100 23 (.agg [.int .i64 k,.int .i64 n,.str s]) (.agg [.int .i64 k,.int .i64 n,.str s])=some ((k == k)&&((n == n)&&((s.toList == s.toList)&&true))) by kernel_rfl];simp
theorem selfI_spec (x:DI):CallsF Tryz.prog 65 [.agg (dil x),.agg (dil x)] (.bool true):=by
 have hsa:=sameInts_spec x.args x.args
 rw [decide_eq_true rfl] at hsa
 refine callsF_ofS mx Tryz.call65 Tryz.func65 rfl Tryz.ntmps65 Tryz.results65 (by kernel_rfl) (by simp) fun lo=>?_
 repeat'(first|refine vcI ?_|refine And.intro ?_ ?_|(intro hq;(try simp at hq);(try(exfalso;omega));(try(revert hq;intro))))
 conv=>whnf
 rw [show Tryz.prog.cellsOf 23=3 by kernel_rfl]
 conv=>whnf
 simp only [beq_self_eq_true,bne_self_eq_false,cond_true,cond_false]
 rw [binT_eq3 (m:=[.int .i64 x.vk,.int .i64 x.vn,.str x.vs]) (m':=[.int .i64 x.vk,.int .i64 x.vn,.str x.vs]) true ?_ ?_ rfl (by kernel_rfl) (eqPV_selfVal _ _ _)]
 rotate_left
 ·rfl
 ·rfl
 repeat'(first|refine vcI ?_|refine And.intro ?_ ?_|(intro hq;(try simp at hq);(try(exfalso;omega));(try(revert hq;intro))))
 rw [show Tryz.prog.cellsOf 25=5 by kernel_rfl]
 conv=>whnf
 simp only [beq_self_eq_true,bne_self_eq_false,cond_true,cond_false]
 rw [binT_eq3 (m:=(dtl x.t)) (m':=(dtl x.t)) true ?_ ?_ rfl (by kernel_rfl) (eqPV_selfT _)]
 rotate_left
 ·rfl
 ·rfl
 repeat'(first|refine vcI ?_|refine And.intro ?_ ?_|(intro hq;(try simp at hq);(try(exfalso;omega));(try(revert hq;intro))))
 first
 | refine CallS.frozen _ hsa (plainAll rfl) ?_
 | refine QS.frozen _ hsa (plainAll rfl) ?_
 repeat'(first|refine vcI ?_|refine And.intro ?_ ?_|(intro hq;(try simp at hq);(try(exfalso;omega));(try(revert hq;intro))))
 exact .refl _
theorem selfF_spec (l : List DF) : CallsF Tryz.prog 66 [dfs l, dfs l] (.bool true) := by
  refine callsF_ofS mx Tryz.call66 Tryz.func66 rfl Tryz.ntmps66 Tryz.results66 (by kernel_rfl) (by simp) fun lo => ?_
  repeat'(first|refine vcI ?_|refine And.intro ?_ ?_|(intro hq;(try simp at hq);(try(exfalso;omega));(try(revert hq;intro))))
  refine loopS mx (by decide) (by kernel_rfl) (fun k : Nat => k ≤ l.length) (fun k => [(5, .int .i64 k), (0, dfs l), (1, dfs l)]) (fun _ => []) (fun k => l.length - k) 0 (by simp) ⟨by ((repeat' apply And.intro) <;> (first | exact True.intro | exact NEq.refl _ | (refine NEq.int ?_; first | exact rfl | omega | (rw [wrapI (by omega)]; first | exact rfl | omega)))), trivial, .nil⟩ ?_
  intro k nv hk
  have hwk : IntKind.i64.wrap ((k : Int) + 1) = ((k + 1 : Nat) : Int) := wrapI (by have : l.length ≤ 140737488355328 := by assumption
                                                                                   omega)
  repeat'(first|refine vcI ?_|refine And.intro ?_ ?_|(intro hq;(try simp at hq);(try(exfalso;omega));(try(revert hq;intro))))
  · have hs1 := selfV_spec (l.getD k default).vars
    have hs2 := selfV_spec (l.getD k default).stack
    rw [show Tryz.prog.cellsOf 106 = 18 by kernel_rfl]
    rw [show Tryz.prog.cellsOf 103 = 6 by kernel_rfl]
    conv => whnf
    simp only [beq_self_eq_true, bne_self_eq_false, cond_true, cond_false]
    rw [binT_eq3 (m := (dvl (l.getD k default).self)) (m' := (dvl (l.getD k default).self)) true ?_ ?_ rfl (by kernel_rfl) (eqPV_self _)]
    rotate_left
    · rfl
    · rfl
    repeat'(first|refine vcI ?_|refine And.intro ?_ ?_|(intro hq;(try simp at hq);(try(exfalso;omega));(try(revert hq;intro))))
    rw [show Tryz.prog.cellsOf 103 = 6 by kernel_rfl]
    conv => whnf
    simp only [beq_self_eq_true, bne_self_eq_false, cond_true, cond_false]
    rw [binT_eq3 (m := (dvl (l.getD k default).holder)) (m' := (dvl (l.getD k default).holder)) true ?_ ?_ rfl (by kernel_rfl) (eqPV_self _)]
    rotate_left
    · rfl
    · rfl
    repeat'(first|refine vcI ?_|refine And.intro ?_ ?_|(intro hq;(try simp at hq);(try(exfalso;omega));(try(revert hq;intro))))
    conv => whnf
    simp only [beq_self_eq_true, bne_self_eq_false, cond_true, cond_false, Bool.not_true, Bool.not_false]
    first
    | refine CallS.frozen _ hs1 (plainAll rfl) ?_
    | refine QS.frozen _ hs1 (plainAll rfl) ?_
    repeat'(first|refine vcI ?_|refine And.intro ?_ ?_|(intro hq;(try simp at hq);(try(exfalso;omega));(try(revert hq;intro))))
    conv => whnf
    simp only [beq_self_eq_true, bne_self_eq_false, cond_true, cond_false, Bool.not_true, Bool.not_false]
    first
    | refine CallS.frozen _ hs2 (plainAll rfl) ?_
    | refine QS.frozen _ hs2 (plainAll rfl) ?_
    repeat'(first|refine vcI ?_|refine And.intro ?_ ?_|(intro hq;(try simp at hq);(try(exfalso;omega));(try(revert hq;intro))))
    exact Exists.intro (k + 1) ⟨by dsimp only; omega, (by first | omega | (dsimp only; omega)), ⟨by ((repeat' apply And.intro) <;> (first | exact True.intro | exact NEq.refl _ | (refine NEq.int ?_; first | exact rfl | omega | (rw [wrapI (by omega)]; first | exact rfl | omega)))), trivial, .nil⟩⟩
  · exact .refl _
theorem SameCode_spec (o:DO):CallsF Tryz.prog 24 [.agg (dol o),.agg (dol o)] (.bool true):=by
 refine callsF_ofS mx Tryz.call24 Tryz.func24 rfl Tryz.ntmps24 Tryz.results24 (by kernel_rfl) (by simp) fun lo=>?_
 repeat'(first|refine vcI ?_|refine And.intro ?_ ?_|(intro hq;(try simp at hq);(try(exfalso;omega));(try(revert hq;intro))))
 rw [show Tryz.prog.cellsOf 25=5 by kernel_rfl]
 conv=>whnf
 simp only [beq_self_eq_true,bne_self_eq_false,cond_true,cond_false]
 rw [binT_eq3 (m:=(dtl o.recv)) (m':=(dtl o.recv)) true ?_ ?_ rfl (by kernel_rfl) (eqPV_selfT _)]
 rotate_left
 ·rfl
 ·rfl
 repeat'(first|refine vcI ?_|refine And.intro ?_ ?_|(intro hq;(try simp at hq);(try(exfalso;omega));(try(revert hq;intro))))
 simp only [bne_self_eq_false,cond_true,cond_false,Bool.not_true]
 repeat'(first|refine vcI ?_|refine And.intro ?_ ?_|(intro hq;(try simp at hq);(try(exfalso;omega));(try(revert hq;intro))))
 iterate 6
  ·simp
 refine loopS mx (by decide) (by kernel_rfl) (fun (k:Nat)=>k≤o.irs.length) (fun k=>[(5,.int .i64 k),(2,.ptr (1,2) 0 [] 0 0),(3,.ptr (1,3) 1 [] 0 0)]) (fun k=>[((1,2),⟨0,.obox 12 (rowL (dol o))⟩),((1,3),⟨1,.obox 12 (rowL (dol o))⟩)]) (fun k=>o.irs.length - k) 0 (by simp) ⟨by ((repeat' apply And.intro) <;> (first|exact True.intro|exact NEq.refl _|(refine NEq.int ?_;first|exact rfl|omega|(rw [wrapI (by omega)];first|exact rfl|omega)))),⟨⟨rfl,.refl _⟩,⟨rfl,.refl _⟩,trivial⟩,.nil⟩ ?_
 intro k nv hk
 have hwk:IntKind.i64.wrap ((k:Int)+1)=((k+1:Nat):Int):=wrapI (by omega)
 repeat'(first|refine vcI ?_|refine And.intro ?_ ?_|(intro hq;(try simp at hq);(try(exfalso;omega));(try(revert hq;intro))))
 ·have hs:=selfI_spec (o.irs.getD k default)
  rw [show Tryz.prog.cellsOf 58=16 by kernel_rfl]
  conv=>whnf
  first
  | refine CallS.frozen _ hs (plainAll rfl) ?_
  | refine QS.frozen _ hs (plainAll rfl) ?_
  repeat'(first|refine vcI ?_|refine And.intro ?_ ?_|(intro hq;(try simp at hq);(try(exfalso;omega));(try(revert hq;intro))))
  exact Exists.intro (k+1) ⟨by dsimp only;omega,(by first|omega|(dsimp only;omega)),⟨by ((repeat' apply And.intro) <;> (first|exact True.intro|exact NEq.refl _|(refine NEq.int ?_;first|exact rfl|omega|(rw [wrapI (by omega)];first|exact rfl|omega)))),⟨⟨rfl,.refl _⟩,⟨rfl,.refl _⟩,trivial⟩,.nil⟩⟩
 refine loopS mx (by decide) (by kernel_rfl) (fun (k:Nat)=>k≤o.descs.length) (fun k=>[(6,.int .i64 k),(2,.ptr (1,2) 0 [] 0 0),(3,.ptr (1,3) 1 [] 0 0)]) (fun k=>[((1,2),⟨0,.obox 12 (rowL (dol o))⟩),((1,3),⟨1,.obox 12 (rowL (dol o))⟩)]) (fun k=>o.descs.length - k) 0 (by simp) ⟨by ((repeat' apply And.intro) <;> (first|exact True.intro|exact NEq.refl _|(refine NEq.int ?_;first|exact rfl|omega|(rw [wrapI (by omega)];first|exact rfl|omega)))),⟨⟨rfl,.refl _⟩,⟨rfl,.refl _⟩,trivial⟩,.nil⟩ ?_
 intro k nv hk
 have hwk:IntKind.i64.wrap ((k:Int)+1)=((k+1:Nat):Int):=wrapI (by omega)
 repeat'(first|refine vcI ?_|refine And.intro ?_ ?_|(intro hq;(try simp at hq);(try(exfalso;omega));(try(revert hq;intro))))
 ·have hs:=selfF_spec (o.descs.getD k [])
  skip
  conv=>whnf
  first
  | refine CallS.frozen _ hs (plainAll rfl) ?_
  | refine QS.frozen _ hs (plainAll rfl) ?_
  repeat'(first|refine vcI ?_|refine And.intro ?_ ?_|(intro hq;(try simp at hq);(try(exfalso;omega));(try(revert hq;intro))))
  exact Exists.intro (k+1) ⟨by dsimp only;omega,(by first|omega|(dsimp only;omega)),⟨by ((repeat' apply And.intro) <;> (first|exact True.intro|exact NEq.refl _|(refine NEq.int ?_;first|exact rfl|omega|(rw [wrapI (by omega)];first|exact rfl|omega)))),⟨⟨rfl,.refl _⟩,⟨rfl,.refl _⟩,trivial⟩,.nil⟩⟩
 refine loopS mx (by decide) (by kernel_rfl) (fun (k:Nat)=>k≤o.types.length) (fun k=>[(7,.int .i64 k),(2,.ptr (1,2) 0 [] 0 0),(3,.ptr (1,3) 1 [] 0 0)]) (fun k=>[((1,2),⟨0,.obox 12 (rowL (dol o))⟩),((1,3),⟨1,.obox 12 (rowL (dol o))⟩)]) (fun k=>o.types.length - k) 0 (by simp) ⟨by ((repeat' apply And.intro) <;> (first|exact True.intro|exact NEq.refl _|(refine NEq.int ?_;first|exact rfl|omega|(rw [wrapI (by omega)];first|exact rfl|omega)))),⟨⟨rfl,.refl _⟩,⟨rfl,.refl _⟩,trivial⟩,.nil⟩ ?_
 intro k nv hk
 have hwk:IntKind.i64.wrap ((k:Int)+1)=((k+1:Nat):Int):=wrapI (by omega)
 repeat'(first|refine vcI ?_|refine And.intro ?_ ?_|(intro hq;(try simp at hq);(try(exfalso;omega));(try(revert hq;intro))))
 ·have hs:=selfT_spec (o.types.getD k [])
  skip
  conv=>whnf
  first
  | refine CallS.frozen _ hs (plainAll rfl) ?_
  | refine QS.frozen _ hs (plainAll rfl) ?_
  repeat'(first|refine vcI ?_|refine And.intro ?_ ?_|(intro hq;(try simp at hq);(try(exfalso;omega));(try(revert hq;intro))))
  exact Exists.intro (k+1) ⟨by dsimp only;omega,(by first|omega|(dsimp only;omega)),⟨by ((repeat' apply And.intro) <;> (first|exact True.intro|exact NEq.refl _|(refine NEq.int ?_;first|exact rfl|omega|(rw [wrapI (by omega)];first|exact rfl|omega)))),⟨⟨rfl,.refl _⟩,⟨rfl,.refl _⟩,trivial⟩,.nil⟩⟩
 repeat'(first|refine vcI ?_|refine And.intro ?_ ?_|(intro hq;(try simp at hq);(try(exfalso;omega));(try(revert hq;intro))))
 exact .refl _
end Go.Ab
namespace Go.Ab
open Go.Proofs
set_option maxRecDepth 100000
set_option maxHeartbeats 8000000

theorem PlacesLaw_spec (o:DO) (ho:o.small) (h2:small2 o) (l:List Int) (hll:l.length≤1048576) (i:Int):CallsF Tryz.prog 4 [.agg (dol o),ints l,.int .i64 i] (.bool true):=by
 have haw:=awake_spec
 have hfs:=few_spec o ho
 refine callsF_ofS mx Tryz.call4 Tryz.func4 rfl Tryz.ntmps4 Tryz.results4 (by kernel_rfl) (by simp) fun lo=>?_
 repeat'(first|refine vcI ?_|refine And.intro ?_ ?_|(intro hq;(try simp at hq);(try(exfalso;omega));(try(revert hq;intro))))
 first
 | refine CallS.frozen _ haw (plainAll rfl) ?_
 | refine QS.frozen _ haw (plainAll rfl) ?_
 repeat'(first|refine vcI ?_|refine And.intro ?_ ?_|(intro hq;(try simp at hq);(try(exfalso;omega));(try(revert hq;intro))))
 rw [mk_opt]
 rcases hfew:fewB o with _|_
 ·rw [hfew] at hfs
  first
  | refine CallS.frozen _ hfs (plainAll rfl) ?_
  | refine QS.frozen _ hfs (plainAll rfl) ?_
  repeat'(first|refine vcI ?_|refine And.intro ?_ ?_|(intro hq;(try simp at hq);(try(exfalso;omega));(try(revert hq;intro))))
  exact .refl _
 ·rw [hfew] at hfs
  have hf:fewN o≤6000:=by simp only [fewB,Bool.and_eq_true,decide_eq_true_eq] at hfew;exact hfew.1
  have hs:=ho.2.2.2.2.1
  have hl:o.irs.length≤1048576∧o.descs.length≤1048576∧o.types.length≤1048576:=⟨ho.1,ho.2.1,ho.2.2.1⟩
  have c1:=Places_spec o hf hs
  have c2:=RPlaces_spec o hf hs hl
  have c3:=Rename_spec o l hll hf hs h2
  have c4:=RRename_spec o l hll hf hs hl
  have c5:=Spots_spec o l i hll hf hs
  have c6:=RSpots_spec o l i hll hf hs hl
  have c7:=Check_spec o l hll hf hs
  have c8:=RCheck_spec o l hll hf hs hl
  have s1:=sameInts_spec (plcE o).1 (plcE o).1
  have s2:=SameCode_spec (renE o l).1
  have s3:=samePairs_spec (spotE o l i).1 (spotE o l i).1
  rw [decide_eq_true rfl] at s1 s3
  generalize plcE o=p at *
  generalize renE o l=q at *
  generalize spotE o l i=s at *
  first
  | refine CallS.frozen _ hfs (plainAll rfl) ?_
  | refine QS.frozen _ hfs (plainAll rfl) ?_
  repeat'(first|refine vcI ?_|refine And.intro ?_ ?_|(intro hq;(try simp at hq);(try(exfalso;omega));(try(revert hq;intro))))
  ·exact .refl _
  rw [mk_opt]
  first
  | refine CallS.frozen _ c1 (plainAll rfl) ?_
  | refine QS.frozen _ c1 (plainAll rfl) ?_
  repeat'(first|refine vcI ?_|refine And.intro ?_ ?_|(intro hq;(try simp at hq);(try(exfalso;omega));(try(revert hq;intro))))
  rw [mk_opt]
  first
  | refine CallS.frozen _ c2 (plainAll rfl) ?_
  | refine QS.frozen _ c2 (plainAll rfl) ?_
  repeat'(first|refine vcI ?_|refine And.intro ?_ ?_|(intro hq;(try simp at hq);(try(exfalso;omega));(try(revert hq;intro))))
  rw [mk_opt]
  first
  | refine CallS.frozen _ c3 (plainAll rfl) ?_
  | refine QS.frozen _ c3 (plainAll rfl) ?_
  repeat'(first|refine vcI ?_|refine And.intro ?_ ?_|(intro hq;(try simp at hq);(try(exfalso;omega));(try(revert hq;intro))))
  rw [mk_opt]
  first
  | refine CallS.frozen _ c4 (plainAll rfl) ?_
  | refine QS.frozen _ c4 (plainAll rfl) ?_
  repeat'(first|refine vcI ?_|refine And.intro ?_ ?_|(intro hq;(try simp at hq);(try(exfalso;omega));(try(revert hq;intro))))
  rw [mk_opt]
  first
  | refine CallS.frozen _ c5 (plainAll rfl) ?_
  | refine QS.frozen _ c5 (plainAll rfl) ?_
  repeat'(first|refine vcI ?_|refine And.intro ?_ ?_|(intro hq;(try simp at hq);(try(exfalso;omega));(try(revert hq;intro))))
  rw [mk_opt]
  first
  | refine CallS.frozen _ c6 (plainAll rfl) ?_
  | refine QS.frozen _ c6 (plainAll rfl) ?_
  repeat'(first|refine vcI ?_|refine And.intro ?_ ?_|(intro hq;(try simp at hq);(try(exfalso;omega));(try(revert hq;intro))))
  first
  | refine CallS.frozen _ s1 (plainAll rfl) ?_
  | refine QS.frozen _ s1 (plainAll rfl) ?_
  repeat'(first|refine vcI ?_|refine And.intro ?_ ?_|(intro hq;(try simp at hq);(try(exfalso;omega));(try(revert hq;intro))))
  conv=>whnf
  simp only [beq_self_eq_true,cond_true]
  try rw [cOpt]
  first
  | refine CallS.frozen _ c7 (plainAll rfl) ?_
  | refine QS.frozen _ c7 (plainAll rfl) ?_
  repeat'(first|refine vcI ?_|refine And.intro ?_ ?_|(intro hq;(try simp at hq);(try(exfalso;omega));(try(revert hq;intro))))
  try rw [cOpt]
  first
  | refine CallS.frozen _ c8 (plainAll rfl) ?_
  | refine QS.frozen _ c8 (plainAll rfl) ?_
  repeat'(first|refine vcI ?_|refine And.intro ?_ ?_|(intro hq;(try simp at hq);(try(exfalso;omega));(try(revert hq;intro))))
  conv=>whnf
  simp only [beq_self_eq_true,cond_true]
  try rw [cOpt]
  first
  | refine CallS.frozen _ s2 (plainAll rfl) ?_
  | refine QS.frozen _ s2 (plainAll rfl) ?_
  repeat'(first|refine vcI ?_|refine And.intro ?_ ?_|(intro hq;(try simp at hq);(try(exfalso;omega));(try(revert hq;intro))))
  conv=>whnf
  simp only [beq_self_eq_true,cond_true]
  first
  | refine CallS.frozen _ s3 (plainAll rfl) ?_
  | refine QS.frozen _ s3 (plainAll rfl) ?_
  repeat'(first|refine vcI ?_|refine And.intro ?_ ?_|(intro hq;(try simp at hq);(try(exfalso;omega));(try(revert hq;intro))))
  rw [beq_self_eq_true]
  exact .refl _
end Go.Ab
namespace Go.Proofs.YtbclepldghjacaaGreat.regsPlaces
open Go Go.Ab Go.Proofs
open Go.Proofs.YtbclepldghjacaaGreat.Common
open Go.ChangeShapes Go.WideShapes Go.ChangeAt Go.RowKit
set_option maxRecDepth 100000

theorem params:∀ t∈Tryz.f4.params.toList,t<Tryz.prog.types.size:=by
 have h:Tryz.f4.params.toList.all (fun t=>Nat.blt t Tryz.prog.types.size)=true:=by kernel_rfl
 intro t ht
 simpa [Nat.blt_eq] using List.all_eq_true.1 h t ht

theorem contract (H:Type) (enc:TypeId × Value→H) (W:World) (base:Nat) (args:Array Value) (ds gs:List (DataW H)) (before:List MemPlace)
  (hval:∀ (j:Nat) t v,Tryz.f4.params[j]?=some t→args[j]?=some v→Value.okWide Tryz.prog W .any base t v)
  (hW:DataW.Whole enc Tryz.prog Tryz.f4.params.toList Rows.regsPlacesSpec.vars false W args.toList ds gs before) (hk:Rows.uptoSmall H (ds++gs)=true) :
  Calls Tryz.prog 4 args W fun e W'=>∃ v,e = .returned v∧Rows.regsPlacesSpec.post enc Tryz.prog Tryz.f4 false true false false W args v W':=by
 have hW':=hW
 obtain ⟨p,q,hA0,hV,rfl,hfz,hnd⟩:=hW
 have hA:DataW.TrodAll enc Tryz.prog W 0 (fun _=>true) true Tryz.f4.params.toList args.toList ds p:=hA0
 rw [Tryz.params4] at hA hval
 obtain ⟨v0,vs0,d0,ds0,p0,q0,hargs,rfl,rfl,h0,r0⟩:=trodAll_cons hA
 obtain ⟨v1,vs1,d1,ds1,p1,q1,rfl,rfl,rfl,h1,r1⟩:=trodAll_cons r0
 obtain ⟨v2,vs2,d2,ds2,p2,q2,rfl,rfl,rfl,h2,r2⟩:=trodAll_cons r1
 obtain ⟨rfl,rfl,rfl⟩:=trodAll_nil r2
 obtain rfl:args=#[v0,v1,v2]:=by cases args;simp_all
 obtain ⟨rfl,rfl⟩:=trodVars_none hV
 have hs:=small (by simpa using hk)
 obtain ⟨o,ho,e0⟩:=rOpt2.argStruct Tryz.underlying32 (hval 0 _ v0 rfl rfl) h0 (hs _ (by simp))
 obtain ⟨l,hl,e1⟩:=rInts.argSlice Tryz.underlying35 ints (fun _=>rfl) (hval 1 _ v1 rfl rfl) h1 (hs _ (by simp))
 obtain ⟨i,hi,e2⟩:=Reads.argInt Tryz.underlying3 (hval 2 _ v2 rfl rfl) h2 (hs _ (by simp))
 exact law_of laidOut rowed sizes params rfl rfl rfl Tryz.underlying4 hW' (PlacesLaw_spec o ho.1 ho.2 l hl i) (.cons0 e0 (.cons0 e1 (.cons0 e2 .nil0)))

theorem lifted (os:Os) (started:os.Started) (H:Type) (enc:TypeId × Value→H) (F:Stop.Interp) :
  ReturnsInHanded {} Tryz.checked os 4 .any ((Rows.OpenSpec.upto Rows.regsPlacesSpec).pre6 enc Tryz.prog Tryz.f4 Rows.regsPlacesUptoRow.domain false) (((Rows.OpenSpec.upto Rows.regsPlacesSpec).at F).post enc Tryz.prog Tryz.f4 false true false false):=by
 refine returnsInHanded_of_cond (C:=Tryz.checked) (s:=Rows.OpenSpec.upto Rows.regsPlacesSpec) (k:=Rows.uptoSmall) rfl own started (by kernel_rfl) Tryz.func4
  (OpenSpec.witness (enc:=enc) (C:=Tryz.checked) (s:=Rows.OpenSpec.upto Rows.regsPlacesSpec) (k:=Rows.uptoSmall) rfl false ⟨#[],#[.agg #[.int .i64 0,.int .i64 0,.int .i64 0,.int .i64 0,.int .i64 0,.string ⟨#[]⟩,.slice none 0 0,.slice none 0 0,.slice none 0 0,.slice none 0 0,.slice none 0 0,.int .i64 0],.slice none 0 0,.int .i64 0],[]⟩ 8 (by kernel_rfl) (by kernel_rfl) (by kernel_rfl)
   (x:=([.agg [.lit (.int .i64 0),.agg [.lit (.int .i64 0),.lit (.int .i64 0),.agg [.lit (.int .i64 0),.lit (.int .i64 0),.lit (.string [])]],.nil,.nil,.nil,.nil,.nil,.lit (.int .i64 0)],.nil,.lit (.int .i64 0)],[],[])) (by kernel_rfl) rfl (by kernel_rfl)) ?_
 intro W base args ds gs before hval hW _ hk _
 exact contract H enc W base args ds gs before hval hW hk

theorem proved:Rows.RegsPlacesUptoSaid :=
 OpenClaim.holds_of_cond 4 Tryz.f4 rfl rfl rfl rfl rfl rfl rfl ⟨rfl,rfl,rfl,rfl,rfl⟩ rfl rfl rfl rfl rfl (by kernel_rfl) Tryz.func4 (by kernel_rfl)
  (of_decide_eq_true (by kernel_rfl)) (by unfold Func.isWrapper;first|(rw [if_pos (by decide +kernel)];kernel_rfl)|(rw [if_neg (by decide +kernel)];exact ⟨rfl,rfl⟩))
  (fun os started H enc _ F=>lifted os started H enc F)
#print axioms proved
end Go.Proofs.YtbclepldghjacaaGreat.regsPlaces
