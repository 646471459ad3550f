/- Running the abstract semantics: closed calls by the kernel. -/
import Derived.Test.YtbclepldghjacaaA2
import Derived.RangeFuncLeaves
import Derived.OrdersIn
set_option linter.unusedVariables false
set_option linter.unusedSimpArgs false
/- Regions, and code, on abstract states. -/
namespace Go.Ab
open Classical

/-- Memory-making and memory-changing operations. -/
def changes : Op → Bool
  | .alloc _ | .box .. | .buildSlice .. | .makeSlice .. | .store .. | .call _ | .mapUpdate .. | .makeMap .. | .insert .. | .mapEntry .. | .entryStore .. | .range .. | .next .. => true
  | _ => false

/-- May the operation run? (by the test that guards it) -/
def guardC (ops : List Oper) (tm : List (Nat × PV)) (g : Option (Nat × Bool)) : Option Bool := match g with
  | none => some true
  | some (j, want) => match (ops[j]?).bind (·.dst) with
    | some d => match lk tm d with
      | .bool b => some (b == want)
      | .whn g (.bool b) => some (g && (b == want))
      | .whn g (.whn g' (.bool b)) => some (g && (g' && (b == want)))
      | _ => none
    | none => none

/-- What a heap-pure operation gives where it may run; where it may not, nothing is known of its value. -/
def A.gwp (c : Bool) : A → List (RId × Root) → (PV → Prop) → Prop
  | .ret x, _, K => K x
  | @A.vc p _ k, h, K => (c = true → p) ∧ A.gwp c k h K
  | .hyp p k, h, K => (c = true → p) → A.gwp c k h K
  | .rd r k, h, K => A.gwp c (k (lkH h r)) h K
  | .wr .., _, _ => False
  | .any k, h, K => ∀ b, A.gwp c (k b) h K
  | @A.dec p d k, h, K => A.gwp c (k (@decide p d)) h K
  | .opt o k, h, K => A.gwp c (k o) h K
  | .all .., _, _ => False
  | .fail, _, _ => False

theorem A.gwp_true {a : A} {h : List (RId × Root)} {K : PV → Prop} (hg : a.gwp true h K) : a.wp h fun x h' => h' = h ∧ K x := by
  induction a generalizing h with
  | ret x => exact ⟨rfl, hg⟩
  | vc p k ih => exact ⟨hg.1 rfl, ih hg.2⟩
  | hyp p k ih => exact fun hp => ih (hg fun _ => hp)
  | rd r k ih => exact ih _ hg
  | wr r x k ih => exact hg.elim
  | any k ih => exact fun b => ih b (hg b)
  | dec p k ih => exact ih _ hg
  | opt o k ih => exact ih _ hg
  | all p k ih => exact hg.elim
  | fail => exact hg.elim

theorem A.gwp_false {a : A} {h : List (RId × Root)} {K : PV → Prop} (hg : a.gwp false h K) : ∃ x, K x := by
  induction a generalizing h with
  | ret x => exact ⟨x, hg⟩
  | vc p k ih => exact ih hg.2
  | hyp p k ih => exact ih (hg fun h => by cases h)
  | rd r k ih => exact ih _ hg
  | wr r x k ih => exact hg.elim
  | any k ih => exact ih true (hg true)
  | dec p k ih => exact ih _ hg
  | opt o k ih => exact ih _ hg
  | all p k ih => exact hg.elim
  | fail => exact hg.elim

/-- The function that a call operation calls, and the arguments. -/
def callee (tm : List (Nat × PV)) (o : Op) (k : FuncId → List PV → Prop) : Prop := match o with
  | .call { callee := .value f, args, .. } => match ev tm f with
    | .func (.func g) first caps => match vals tm args.toList with
      | some as => k g (first ++ as ++ caps)
      | none => False
    | _ => False
  | _ => False
where
  vals (tm : List (Nat × PV)) : List Operand → Option (List PV)
    | [] => some []
    | x :: l => match vals tm l with
      | none => none
      | some vs => match ev tm x with
        | .whn true v => some (v :: vs)
        | .whn false _ => none
        | v => some (v :: vs)

/-- A call of a loop's yield, and its arguments. -/
def yieldO (tm : List (Nat × PV)) : Op → Option (RId × Nat × List PV)
  | .call { callee := .value f, args, .. } => match ev tm f with
    | .sref .loop r v => match callee.vals tm args.toList with
      | some as => some (r, v, as)
      | none => none
    | _ => none
  | _ => none

def isCall : Op → Bool
  | .call { callee := .value _, .. } => true
  | _ => false

def putT (tm : List (Nat × PV)) (d : Option Tmp) (x : PV) : List (Nat × PV) := match d with
  | some d => (d, x) :: tm
  | none => tm

def dstOK (nt : Nat) (d : Option Tmp) : Bool := match d with
  | some d => decide (d < nt)
  | none => true

/-- One operation of a region; `N`: what comes next. -/
def stepWp (P : Program) (lv : Nat) (all : List Oper) (o : Oper) (N : List (Nat × PV) → List (RId × Root) → Nat → Prop) (tm : List (Nat × PV)) (hp : List (RId × Root)) (nv : Nat) : Prop :=
  if isCall o.op then match guardC all tm o.guard with
    | some c => (c = true → match yieldO tm o.op with
        | some (r, v, as) => YieldA P r v as hp nv fun x hp' nv' => N (putT tm o.dst x) hp' (max (nv + 1) nv')
        | none => callee tm o.op fun f args => CallWp P (lv, o.dst.getD 0) nv f args hp nv fun x hp' nv' => N (putT tm o.dst x) hp' (max (nv + 1) nv')) ∧
      (c = false → N (putT tm o.dst .undef) hp (nv + 1))
    | none => False
  else match o.guard with
    | none => (opA P lv nv tm o).wp hp fun x hp' => N (putT tm o.dst x) hp' (nv + 1)
    | some g => match guardC all tm (some g) with
      | some c => if changes o.op then (c = true → (opA P lv nv tm o).wp hp fun x hp' => N (putT tm o.dst x) hp' (nv + 1)) ∧ (c = false → N (putT tm o.dst .undef) hp (nv + 1))
        else (opA P lv nv tm o).gwp c hp fun x => N (putT tm o.dst (.whn c x)) hp (nv + 1)
      | none => False

/-! ### Soundness -/
def Wd (ro : Option Nat) : Fence := { Fence.wide with round := ro }

theorem callsIn_Wd {ro : Option Nat} {n : Nat} {P : Program} {f : FuncId} {args : Array Value} {w : World} {R : Ending → World → Prop} (h : Calls P f args w R) : CallsIn (Wd ro) n P f args w R := by
  cases ro with
  | none => exact callsIn_wide.2 h
  | some l =>
    have h2 : CallsIn Fence.wide n P f args w R := callsIn_wide.2 h
    exact h2

theorem LR.append {w B H V} {l m : List PV} {cs ds : Array Value} (h : LR w B H V l cs) (k : LR w B H V m ds) : LR w B H V (l ++ m) (cs ++ ds) := by
  refine ⟨by simp [h.len, k.len], fun i hi => ?_⟩
  simp only [List.length_append] at hi
  simp only [List.getD_eq_getElem?_getD, Array.getD_eq_getD_getElem?]
  by_cases h1 : i < l.length
  · rw [List.getElem?_append_left h1, Array.getElem?_append_left (by rw [← h.len]; exact h1)]
    have := h.val i h1
    simpa [List.getD_eq_getElem?_getD, Array.getD_eq_getD_getElem?] using this
  · rw [List.getElem?_append_right (by omega), Array.getElem?_append_right (by rw [← h.len]; omega), ← h.len]
    have := k.val (i - l.length) (by omega)
    simpa [List.getD_eq_getElem?_getD, Array.getD_eq_getD_getElem?] using this

theorem vals_LR {w B H V nt} {tm : List (Nat × PV)} {a : Act} (ht : TmR w B H V nt tm a) : ∀ (l : List Operand) (as : List PV), callee.vals tm l = some as → LR w B H V as (l.toArray.map a.eval) := by
  intro l
  induction l with
  | nil => intro as h; simp [callee.vals] at h; subst h; exact ⟨by simp, fun i hi => by simp at hi⟩
  | cons x l ih =>
    intro as h
    simp only [callee.vals] at h
    split at h
    · cases h
    · rename_i vs hvs
      obtain ⟨h1, h2⟩ := ih _ hvs
      have fin : ∀ v, VR w B H V v (a.eval x) → LR w B H V (v :: vs) ((x :: l).toArray.map a.eval) := by
        intro v hv
        refine ⟨by simp at h1; simp [h1], fun i hi => ?_⟩
        cases i with
        | zero => simpa using hv
        | succ i =>
          have := h2 i (by simpa using hi)
          simpa [List.getD_eq_getElem?_getD, Array.getD_eq_getD_getElem?] using this
      have he := ht.ev x
      split at h
      · rename_i v hx
        cases h
        rw [hx] at he
        cases he with
        | whn he _ => exact fin v (he rfl)
      · cases h
      · cases h
        exact fin _ he

theorem put_none (a : Act) (v : Value) : a.put none v = a := rfl

theorem TmR.putT {w B H V nt} {tm : List (Nat × PV)} {a : Act} (h : TmR w B H V nt tm a) {d : Option Tmp} (hd : dstOK nt d = true) {x : PV} {v : Value} (hv : VR w B H V x v) : TmR w B H V nt (Ab.putT tm d x) (a.put d v) := by
  cases d with
  | none => exact h
  | some d => exact h.put (by simpa [dstOK] using hd) hv

theorem guard_sound {w B H V nt} {tm : List (Nat × PV)} {a : Act} (ht : TmR w B H V nt tm a) (ops : Array Oper) (o : Oper) {c : Bool} (h : guardC ops.toList tm o.guard = some c) : Region.wanted o (yielded ops a.tmps) = c := by
  unfold guardC at h
  have hw : ∀ j want, o.guard = some (j, want) → Region.wanted o (yielded ops a.tmps) = (yielded ops a.tmps j == some want) := fun j want hg => by simp [Region.wanted, hg]
  split at h
  · rename_i hg
    cases h
    simp [Region.wanted, hg]
  · rename_i j want hg
    rw [hw j want hg]
    split at h
    · rename_i d hd
      have hd' : (ops[j]?).bind (·.dst) = some d := by rw [← hd]; simp
      have hv := ht.val d
      have key : ∀ b : Bool, a.tmps.getD d Go.undef = .bool b → yielded ops a.tmps j = some b := by
        intro b hb
        simp only [yielded, hd', Option.bind_some]
        rw [Array.getD_eq_getD_getElem?] at hb
        cases ht' : a.tmps[d]? with
        | none => rw [ht'] at hb; simp [Go.undef] at hb
        | some x => rw [ht'] at hb; simp at hb; rw [hb]
      have key2 : a.tmps.getD d Go.undef = Go.undef → yielded ops a.tmps j = none := by
        intro hb
        simp only [yielded, hd', Option.bind_some]
        rw [Array.getD_eq_getD_getElem?] at hb
        cases ht' : a.tmps[d]? with
        | none => rfl
        | some x => rw [ht'] at hb; simp at hb; rw [hb]; rfl
      split at h
      · rename_i b hb
        cases h
        rw [hb] at hv
        cases hx : a.tmps.getD d Go.undef <;> rw [hx] at hv <;> cases hv
        rw [key _ hx]
        simp
      · rename_i g b hb
        cases h
        rw [hb] at hv
        generalize hx : a.tmps.getD d Go.undef = x at hv
        cases hv with
        | whn h1 h2 =>
          cases g with
          | true =>
            have := h1 rfl
            cases this
            rw [key _ hx]
            simp
          | false =>
            have := h2 rfl
            subst this
            rw [key2 hx]
            simp
      · rename_i g g' b hb
        cases h
        rw [hb] at hv
        generalize hx : a.tmps.getD d Go.undef = x at hv
        cases hv with
        | whn h1 h2 =>
          cases g with
          | true =>
            have := h1 rfl
            cases this with
            | whn h3 h4 =>
            cases g' with
            | true =>
              have := h3 rfl
              cases this
              rw [key _ hx]
              simp
            | false =>
              have := h4 rfl
              subst this
              rw [key2 hx]
              simp
          | false =>
            have := h2 rfl
            subst this
            rw [key2 hx]
            simp
      · cases h
    · cases h

theorem max_step (nv nv' : Nat) : max (nv + 1) nv' = max (nv + 1) nv' := rfl

theorem ors_up {nv n : Nat} (h : ors (· < nv) nv n) : n < nv + 1 := by
  rcases h with h | h
  · exact Nat.lt_succ_of_lt h
  · omega

/-- Versions below a bound, and no gap. -/
theorem Mono.up {w B H V w' B' H' V' V''} (h : Mono w B H V w' B' H' V') (hV : ∀ n, V' n → V'' n) : Mono w B H V w' B' H' V'' :=
  ⟨h.size, h.free, h.foreign, h.fresh, h.shape, fun n hn => hV n (h.vers n hn), h.root, h.os, h.tape, h.output⟩
theorem VR.up {w : World} {B : Blocks} {H : Roots} {V V'' : Nat → Prop} {x : PV} {v : Value} (h : VR w B H V x v) (hV : ∀ n, V n → V'' n) : VR w B H V'' x v :=
  h.turn ⟨Nat.le_refl _, fun _ _ h => ⟨h, .inl rfl⟩, fun _ _ h => h, hV, fun r rt h => .inr ⟨rt, h, rfl, fun _ _ h => ⟨h, rfl⟩⟩⟩
theorem HR.up {w : World} {B : Blocks} {H : Roots} {V V'' : Nat → Prop} (h : HR w B H V) (hV : ∀ n, V n → V'' n) : HR w B H V'' :=
  ⟨fun r rt hr => (h.root r rt hr).turn ⟨Nat.le_refl _, fun _ _ h => ⟨h, .inl rfl⟩, fun _ _ h => h, hV, fun r rt h => .inr ⟨rt, h, rfl, fun _ _ h => ⟨h, rfl⟩⟩⟩ (fun _ _ _ => ⟨rfl, fun _ _ => rfl⟩), fun r rt hr => hV _ (h.ver r rt hr), h.dom, h.lev, h.inj⟩

theorem oneOpK {P : Program} {lv : Nat} {nt : FS} {ro : Option Nat} {ops : Array Oper} {N : List (Nat × PV) → List (RId × Root) → Nat → Prop} {Q : Exit → Act → World → Prop} (hlv : lv ≠ 0)
    {w0 : World} {B0 : Blocks} {hp0 : List (RId × Root)} {nv0 : Nat} {rest : Act → World → Prop} {i : Nat} {o : Oper} (hio : ops[i]? = some o) (hdo : dstOK nt o.dst = true)
    (hN : ∀ tm hp nv B w a, N tm hp nv → TmR w B (lkH hp) (· < nv) nt tm a → HR w B (lkH hp) (· < nv) → Mono w0 B0 (lkH hp0) (· < nv0) w B (lkH hp) (· < nv) → rest a w)
    (tm : List (Nat × PV)) (hp : List (RId × Root)) (nv : Nat) (B : Blocks) (w : World) (a : Act) (h : stepWp P lv ops.toList o N tm hp nv) (ht : TmR w B (lkH hp) (· < nv) nt tm a) (hr : HR w B (lkH hp) (· < nv))
    (hm : Mono w0 B0 (lkH hp0) (· < nv0) w B (lkH hp) (· < nv)) : wpOpIn (Wd ro) 0 P ops Q i rest a w := by
  simp only [wpOpIn, hio]
  -- a value has come
  have value : ∀ (nx : Next) (v : Value) (w' : World) (B' : Blocks) (hp' : List (RId × Root)) (x : PV) (nv' : Nat), (o.semAt ro a.eval).run P w = .ok nx w' → (nx = .value v ∨ nx = .skip ∧ v = Go.undef) →
      N (putT tm o.dst x) hp' nv' → VR w' B' (lkH hp') (· < nv') x v → HR w' B' (lkH hp') (· < nv') → Mono w B (lkH hp) (· < nv) w' B' (lkH hp') (· < nv') →
      Oper.wpIn (Wd ro) 0 P o a w rest Q := by
    intro nx v w' B' hp' x nv' he hnx hk hv hr' hm'
    refine ⟨fun _ _ => trivial, ?_⟩
    show o.uponIn (Wd ro) 0 P a _ Q ((o.semAt ro a.eval).run P w)
    rw [he]
    have := hN _ _ _ B' w' _ hk ((ht.mono hm').putT hdo hv) hr' (hm.trans hm')
    rcases hnx with rfl | ⟨rfl, rfl⟩
    · exact this
    · exact this
  -- it is passed over
  have pass : N (putT tm o.dst .undef) hp (nv + 1) → rest (a.put o.dst Go.undef) w := by
    intro hk
    have hup : ∀ n, n < nv → n < nv + 1 := fun n h => Nat.lt_succ_of_lt h
    have hmu := (Mono.refl w B (lkH hp) (· < nv)).up hup
    exact hN _ _ _ B w _ hk ((ht.mono hmu).putT hdo (.undef _)) (hr.up hup) (hm.trans hmu)
  -- a call
  have call : ∀ (hc : isCall o.op = true), (callee tm o.op fun f args => CallWp P (lv, o.dst.getD 0) nv f args hp nv fun x hp' nv' => N (putT tm o.dst x) hp' (max (nv + 1) nv')) →
      Oper.wpIn (Wd ro) 0 P o a w rest Q := by
    intro hc hcall
    refine ⟨fun _ _ => trivial, ?_⟩
    show o.uponIn (Wd ro) 0 P a _ Q ((o.semAt ro a.eval).run P w)
    unfold callee at hcall
    split at hcall
    · rename_i f args _ hop
      have hev := ht.ev f
      split at hcall
      · rename_i g first caps hfe
        rw [hfe] at hev
        split at hcall
        · rename_i as has
          generalize hfv : a.eval f = fv at hev
          cases hev with
          | @func _ _ _ _ _ cs1 cs2 hl hl' h1 h2 =>
            have hargs : LR w B (lkH hp) (· < nv) (first ++ as ++ caps) (cs1 ++ args.map a.eval ++ cs2) := by
              refine LR.append (LR.append ⟨hl, h1⟩ ?_) ⟨hl', h2⟩
              simpa using vals_LR ht args.toList as has
            obtain ⟨hen, hcalls⟩ := hcall.sound (top := nv + 1) (id := (lv, o.dst.getD 0)) hlv (Nat.le_refl _) (by omega) hr hargs
            have he : (o.semAt ro a.eval).run P w = .ok (.enter g (cs1 ++ args.map a.eval ++ cs2)) w := by
              rw [Oper.semAt_eq _ _ _ (by rw [hop]; intro c h; cases h)]
              simp [execOp, hop, resolve, hfv, Deferred.ofValue, invoke, hen _ w]
            rw [he, Oper.uponIn_enter]
            refine ⟨fun h => by simp [Wd, Fence.wide] at h, callsIn_Wd (hcalls.mono fun e w' he => ?_)⟩
            obtain ⟨v, B', res, hp', nv', rfl, hk, hv, hr', hm'⟩ := he
            exact hN _ _ _ B' w' _ hk ((ht.mono hm').putT hdo hv) hr' (hm.trans hm')
        · exact hcall.elim
      · exact hcall.elim
    · exact hcall.elim
  -- a round
  have round : ∀ (hc : isCall o.op = true) r v as, yieldO tm o.op = some (r, v, as) → (YieldA P r v as hp nv fun x hp' nv' => N (putT tm o.dst x) hp' (max (nv + 1) nv')) →
      Oper.wpIn (Wd ro) 0 P o a w rest Q := by
    intro hc r v as hy hya
    refine ⟨fun _ _ => trivial, ?_⟩
    show o.uponIn (Wd ro) 0 P a _ Q ((o.semAt ro a.eval).run P w)
    unfold yieldO at hy
    split at hy
    · rename_i f args _ hop
      have hev := ht.ev f
      split at hy
      · rename_i r0 v0 hfe
        rw [hfe] at hev
        split at hy
        · rename_i as0 has
          cases hy
          obtain ⟨rt, li, c, hH, hv, hn, hst, hal, hround⟩ := hya
          generalize hfv : a.eval f = fv at hev
          cases hev with
          | sref _ h1 =>
          obtain ⟨l, _, hB, rfl⟩ := h1 rt hH hv
          have hroot := hr.root r rt hH
          rw [hn] at hroot
          cases hroot with
          | @oloop _ _ l' d tmps fn hB' hh hsz hval =>
          rw [hB] at hB'
          cases hB'
          have hargs := vals_LR ht args.toList as has
          have hcs : (args.map a.eval).size = li.params.size := by
            have := hargs.len
            simp at this
            rw [← hal, this]
            simp
          have he : (o.semAt ro a.eval).run P w = .ok (.round l fn ((li.params.zip (args.map a.eval)).foldl (fun tmps (t, a) => tmps.setIfInBounds t a) tmps) li.assign li.body) w := by
            rw [Oper.semAt_eq _ _ _ (by rw [hop]; intro c h; cases h)]
            have hy := run_yield (P := P) (w := w) (l := l) (args := args.map a.eval) hh hcs
            simp [execOp, hop, resolve, hfv, SK.val, Deferred.ofValue, invoke, hy]
          rw [he, Oper.uponIn_round]
          refine ⟨fun h => by simp [Wd, Fence.wide] at h, ?_⟩
          have h2 := hround w B (args.map a.eval) l tmps d fn ro hr (by simpa using hargs) hB hh hval hsz
          refine roundIn_mono h2 fun e w' he => ?_
          obtain ⟨v, B', res, hp', nv', rfl, hk, hv, hr', hm'⟩ := he
          have hup : Mono w' B' (lkH hp') (· < nv') w' B' (lkH hp') (· < max (nv + 1) nv') := (Mono.refl ..).up fun n hn => by omega
          exact hN _ _ _ B' w' _ hk ((ht.mono (hm'.trans hup)).putT hdo (hv.mono hup)) ⟨fun r rt h => (hr'.root r rt h).mono hup (fun _ _ _ => ⟨rfl, fun _ _ => rfl⟩), fun r rt h => by have := hr'.ver r rt h; simp at this ⊢; omega, hr'.dom, hr'.lev, hr'.inj⟩ (hm.trans (hm'.trans hup))
        · cases hy
      · cases hy
    · cases hy
  -- another operation
  have other : (opA P lv nv tm o).wp hp (fun x hp' => N (putT tm o.dst x) hp' (nv + 1)) → Oper.wpIn (Wd ro) 0 P o a w rest Q := by
    intro ho
    have hnd : ∀ c, o.op ≠ .defer c := fun c hc => by
      unfold opA opB at ho
      rw [hc] at ho
      exact ho
    obtain ⟨nx, v, w', B', hp', x, he, hnx, hk, hv, hr', hm'⟩ := opA_real (P := P) (ver := nv) hlv hr (by omega) ht o _ ho
    exact value nx v w' B' hp' x (nv + 1) (by rw [Oper.semAt_eq _ _ _ hnd]; exact he) hnx hk (hv.up fun _ => ors_up) (hr'.up fun _ => ors_up) (hm'.up fun _ => ors_up)
  unfold stepWp at h
  split at h
  · rename_i hc
    cases hg : guardC ops.toList tm o.guard with
    | none => rw [hg] at h; exact h.elim
    | some c =>
      rw [hg] at h
      simp only at h
      have hw := guard_sound ht ops o (c := c) hg
      rw [hw]
      cases c with
      | true =>
        simp only [if_true]
        have h1 := h.1 rfl
        cases hy : yieldO tm o.op with
        | none => rw [hy] at h1; exact call hc h1
        | some x => obtain ⟨r, v, as⟩ := x; rw [hy] at h1; exact round hc r v as hy h1
      | false => simp only [Bool.false_eq_true, if_false]; exact ⟨fun _ _ => trivial, pass (h.2 rfl)⟩
  · rename_i hc
    cases hg : o.guard with
    | none =>
      have hw : Region.wanted o (yielded ops a.tmps) = true := by simp [Region.wanted, hg]
      rw [if_pos hw]
      simp only [hg] at h
      exact other h
    | some g =>
      simp only [hg] at h
      split at h
      · rename_i c hgc
        have hw := guard_sound ht ops o (c := c) (by rw [hg]; exact hgc)
        rw [hw]
        split at h
        · cases c with
          | true => simp only [if_true]; exact other (h.1 rfl)
          | false => simp only [Bool.false_eq_true, if_false]; exact ⟨fun _ _ => trivial, pass (h.2 rfl)⟩
        · cases c with
          | true =>
            simp only [if_true]
            have h1 := A.gwp_true h
            have hnd : ∀ c, o.op ≠ .defer c := fun c hc => by
              unfold opA opB at h1
              rw [hc] at h1
              exact h1
            obtain ⟨nx, v, w', B', hp', x, he, hnx, ⟨rfl, hk⟩, hv, hr', hm'⟩ := opA_real (P := P) (ver := nv) hlv hr (by omega) ht o _ h1
            exact value nx v w' B' hp' (.whn true x) (nv + 1) (by rw [Oper.semAt_eq _ _ _ hnd]; exact he) hnx hk (.whn (fun _ => hv.up fun _ => ors_up) (fun h => by cases h)) (hr'.up fun _ => ors_up) (hm'.up fun _ => ors_up)
          | false =>
            simp only [Bool.false_eq_true, if_false]
            obtain ⟨x, hk⟩ := A.gwp_false h
            have hup : ∀ n, n < nv → n < nv + 1 := fun n h => Nat.lt_succ_of_lt h
            have hmu := (Mono.refl w B (lkH hp) (· < nv)).up hup
            exact ⟨fun _ _ => trivial, hN _ _ _ B w _ hk ((ht.mono hmu).putT hdo (.whn (fun h => by cases h) (fun _ => rfl))) (hr.up hup) (hm.trans hmu)⟩
      · exact h.elim


/-- Operations in a row, and what comes then. -/
def wpOpsK (F : Fence) (n : Nat) (P : Program) (ops : Array Oper) (Q : Exit → Act → World → Prop) (K : Act → World → Prop) : List Nat → Act → World → Prop
  | [] => K
  | i :: l => wpOpIn F n P ops Q i (wpOpsK F n P ops Q K l)
theorem wpOpsK_ops {F : Fence} {n : Nat} {P : Program} {ops : Array Oper} {Q : Exit → Act → World → Prop} : ∀ (l : List Nat), wpOpsK F n P ops Q (Q .normal) l = wpOpsIn F n P ops Q l := by
  intro l
  induction l with
  | nil => rfl
  | cons i l ih =>
    funext a w
    show wpOpIn F n P ops Q i (wpOpsK F n P ops Q (Q .normal) l) a w = _
    rw [ih, wpOpsIn_cons]

theorem oneOp_sound {P : Program} {lv : Nat} {nt : FS} {ro : Option Nat} {ops : Array Oper} {N : List (Nat × PV) → List (RId × Root) → Nat → Prop} {Q : Exit → Act → World → Prop} (hlv : lv ≠ 0)
    {w0 : World} {B0 : Blocks} {hp0 : List (RId × Root)} {nv0 : Nat} {rest : List Nat} {i : Nat} {o : Oper} (hio : ops[i]? = some o) (hdo : dstOK nt o.dst = true)
    (hN : ∀ tm hp nv B w a, N tm hp nv → TmR w B (lkH hp) (· < nv) nt tm a → HR w B (lkH hp) (· < nv) → Mono w0 B0 (lkH hp0) (· < nv0) w B (lkH hp) (· < nv) → wpOpsIn (Wd ro) 0 P ops Q rest a w)
    (tm : List (Nat × PV)) (hp : List (RId × Root)) (nv : Nat) (B : Blocks) (w : World) (a : Act) (h : stepWp P lv ops.toList o N tm hp nv) (ht : TmR w B (lkH hp) (· < nv) nt tm a) (hr : HR w B (lkH hp) (· < nv))
    (hm : Mono w0 B0 (lkH hp0) (· < nv0) w B (lkH hp) (· < nv)) : wpOpsIn (Wd ro) 0 P ops Q (i :: rest) a w := by
  rw [wpOpsIn_cons]
  exact oneOpK hlv hio hdo hN tm hp nv B w a h ht hr hm

theorem ops_at {ops : Array Oper} {i : Nat} {o : Oper} {os : List Oper} (hi : ops.toList.drop i = o :: os) : ops[i]? = some o ∧ ops.toList.drop (i + 1) = os ∧ o ∈ ops.toList := by
  have h1 : ops.toList[i]? = some o := by
    have := congrArg (fun l => l[0]?) hi
    simpa using this
  exact ⟨by simpa using h1, by have := congrArg List.tail hi; simpa using this, List.mem_of_getElem? h1⟩

end Go.Ab
/- Code on abstract states: the rules. -/
namespace Go.Ab
open Classical

abbrev Tm := List (Nat × PV)
abbrev Hp := List (RId × Root)
abbrev Post := Exit → Tm → Hp → Nat → Prop

structure SR (nt : FS) (tm : Tm) (hp : Hp) (nv : Nat) (w : World) (B : Blocks) (a : Act) : Prop where
  tm : TmR w B (lkH hp) (· < nv) nt tm a
  hp : HR w B (lkH hp) (· < nv)

/-- A piece of code, run from an abstract state, ends as told. -/
structure Ev (P : Program) (lv : Nat) (nt : FS) (ro : Option Nat) (c : Code) (tm : Tm) (hp : Hp) (nv : Nat) (Q : Post) : Prop where
  out : ∀ (w : World) (B : Blocks) (a : Act), SR nt tm hp nv w B a →
    c.wpIn (Wd ro) 0 P (fun e a' w' => ∃ tm' hp' nv' B', Q e tm' hp' nv' ∧ SR nt tm' hp' nv' w' B' a' ∧ Mono w B (lkH hp) (· < nv) w' B' (lkH hp') (· < nv')) a w

section
variable {P : Program} {lv : Nat} {nt : FS} {ro : Option Nat} {tm : Tm} {hp : Hp} {nv : Nat} {Q : Post}

theorem Ev.mono {c : Code} {Q' : Post} (h : Ev P lv nt ro c tm hp nv Q) (hq : ∀ e tm hp nv, Q e tm hp nv → Q' e tm hp nv) : Ev P lv nt ro c tm hp nv Q' :=
  ⟨fun w B a hs => wpIn_mono (h.out w B a hs) fun e a' w' ⟨tm', hp', nv', B', h1, h2, h3⟩ => ⟨tm', hp', nv', B', hq _ _ _ _ h1, h2, h3⟩⟩

theorem Ev.skip (h : Q .normal tm hp nv) : Ev P lv nt ro .skip tm hp nv Q := ⟨fun w B a hs => wpIn_skip ⟨tm, hp, nv, B, h, hs, Mono.refl ..⟩⟩
theorem Ev.label {l : Nat} (h : Q .normal tm hp nv) : Ev P lv nt ro (.label l) tm hp nv Q := ⟨fun w B a hs => wpIn_label ⟨tm, hp, nv, B, h, hs, Mono.refl ..⟩⟩
theorem Ev.exit {i : Nat} (h : Q (.exit i) tm hp nv) : Ev P lv nt ro (.exit i) tm hp nv Q := ⟨fun w B a hs => wpIn_exit ⟨tm, hp, nv, B, h, hs, Mono.refl ..⟩⟩
theorem Ev.goto {i : Nat} (h : Q (.goto i) tm hp nv) : Ev P lv nt ro (.goto i) tm hp nv Q := ⟨fun w B a hs => wpIn_goto ⟨tm, hp, nv, B, h, hs, Mono.refl ..⟩⟩
theorem Ev.ret (h : Q .ret tm hp nv) : Ev P lv nt ro .ret tm hp nv Q := ⟨fun w B a hs => wpIn_ret ⟨tm, hp, nv, B, h, hs, Mono.refl ..⟩⟩

/-- Behind a normal end: what comes next; else: as it is. -/
def thenQ (next : Tm → Hp → Nat → Prop) (Q : Post) : Post
  | .normal, tm, hp, nv => next tm hp nv
  | e, tm, hp, nv => Q e tm hp nv

theorem Ev.seq {x y : Code} (h : Ev P lv nt ro x tm hp nv (thenQ (fun tm hp nv => Ev P lv nt ro y tm hp nv Q) Q)) : Ev P lv nt ro (.seq x y) tm hp nv Q := by
  refine ⟨fun w B a hs => wpIn_seq (wpIn_mono (h.out w B a hs) ?_)⟩
  rintro e a' w' ⟨tm', hp', nv', B', h1, h2, h3⟩
  cases e with
  | normal => exact wpIn_mono (h1.out w' B' a' h2) fun e a2 w2 ⟨tm2, hp2, nv2, B2, k1, k2, k3⟩ => ⟨tm2, hp2, nv2, B2, k1, k2, h3.trans k3⟩
  | _ => exact ⟨tm', hp', nv', B', h1, h2, h3⟩

/-- The rest of the code under a name. -/
theorem Ev.seqK {x y : Code} (h : ∀ K : Tm → Hp → Nat → Prop, (∀ tm hp nv, Ev P lv nt ro y tm hp nv Q → K tm hp nv) → Ev P lv nt ro x tm hp nv (thenQ K Q)) : Ev P lv nt ro (.seq x y) tm hp nv Q := .seq (h _ fun _ _ _ h => h)

theorem Ev.cond {c : Operand} {x y : Code} {b : Bool} (hc : ev tm c = .bool b) (h1 : b = true → Ev P lv nt ro x tm hp nv Q) (h2 : b = false → Ev P lv nt ro y tm hp nv Q) : Ev P lv nt ro (.cond c x y) tm hp nv Q := by
  refine ⟨fun w B a hs => ?_⟩
  have hv := hs.tm.ev c
  rw [hc] at hv
  generalize hx : a.eval c = v at hv
  cases hv
  cases b with
  | true => exact wpIn_cond hx ((h1 rfl).out w B a hs)
  | false => exact wpIn_cond hx ((h2 rfl).out w B a hs)

def blockQ (id : Nat) (Q : Post) : Post
  | .exit i, tm, hp, nv => if i = id then Q .normal tm hp nv else Q (.exit i) tm hp nv
  | e, tm, hp, nv => Q e tm hp nv

theorem Ev.block {id : Nat} {c : Code} (h : Ev P lv nt ro c tm hp nv (blockQ id Q)) : Ev P lv nt ro (.block id c) tm hp nv Q := by
  refine ⟨fun w B a hs => wpIn_block (wpIn_mono (h.out w B a hs) ?_)⟩
  rintro e a' w' ⟨tm', hp', nv', B', h1, h2, h3⟩
  cases e with
  | exit i =>
    simp only [Exit.inBlock, blockQ] at h1 ⊢
    split
    · rename_i e; rw [if_pos e] at h1; exact ⟨tm', hp', nv', B', h1, h2, h3⟩
    · rename_i e; rw [if_neg e] at h1; exact ⟨tm', hp', nv', B', h1, h2, h3⟩
  | _ => exact ⟨tm', hp', nv', B', h1, h2, h3⟩
end

/-! ### Knowing less -/
/-- The second tells no more than the first. -/
inductive NEq : PV → PV → Prop
  | refl (v : PV) : NEq v v
  | undef {v : PV} (h : shapeOf v = none) : NEq v .undef
  | own {sz n : Nat} {f g : Nat → Nat → PV} (h : ∀ i o, i < n → o < sz → NEq (f i o) (g i o)) : NEq (.own sz n f) (.own sz n g)
  | obox {sz : Nat} {f g : Nat → PV} (h : ∀ o, o < sz → NEq (f o) (g o)) : NEq (.obox sz f) (.obox sz g)
  | frz {sz n : Nat} {f g : Nat → Nat → PV} (h : ∀ i o, i < n → o < sz → NEq (f i o) (g i o)) : NEq (.frz sz n f) (.frz sz n g)
  | fptr {sz o : Nat} {f g : Nat → PV} (h : ∀ o, o < sz → NEq (f o) (g o)) : NEq (.fptr sz f o) (.fptr sz g o)
  | agg {l m : List PV} (hl : l.length = m.length) (h : ∀ i, i < l.length → NEq (l.getD i .undef) (m.getD i .undef)) : NEq (.agg l) (.agg m)
  | tup {l m : List PV} (hl : l.length = m.length) (h : ∀ i, i < l.length → NEq (l.getD i .undef) (m.getD i .undef)) : NEq (.tup l) (.tup m)
  | nils {sz : Nat} {f : Nat → Nat → PV} : NEq .nils (.frz sz 0 f)
  | fcl {sz n : Nat} {f g : Nat → Nat → PV} (h : ∀ i o, i < n → o < sz → NEq (f i o) (g i o)) : NEq (.fcl sz n f) (.fcl sz n g)
  | clip {sz n : Nat} {f g : Nat → Nat → PV} (h : ∀ i o, i < n → o < sz → NEq (f i o) (g i o)) : NEq (.fcl sz n f) (.frz sz n g)
  | func {fn : Fn} {l m l' m' : List PV} (hl : l.length = m.length) (hl' : l'.length = m'.length) (h : ∀ i, i < l.length → NEq (l.getD i .undef) (m.getD i .undef)) (h' : ∀ i, i < l'.length → NEq (l'.getD i .undef) (m'.getD i .undef)) : NEq (.func fn l l') (.func fn m m')
  | iface {t : TypeId} {x y : PV} (h : NEq x y) : NEq (.iface t x) (.iface t y)

theorem NEq.at {v v' : PV} (h : NEq v v') : ∀ p s, at? v' p s ↔ at? v p s := by
  induction h with
  | refl v => exact fun _ _ => Iff.rfl
  | undef h => exact fun p s => ⟨fun k => absurd k (at_leaf rfl p s), fun k => absurd k (at_leaf h p s)⟩
  | @own sz n f g _ ih =>
    intro p s
    cases p with
    | nil => rw [at_nil, at_nil]; rfl
    | cons y p =>
      obtain ⟨i, o⟩ := y
      rw [at_cons, at_cons]
      simp only [shapeOf, cellAt, Option.some.injEq, Prod.mk.injEq, true_and]
      constructor
      · rintro ⟨sz', n', ⟨rfl, rfl⟩, h1, h2, h3⟩; exact ⟨_, _, ⟨rfl, rfl⟩, h1, h2, (ih i o h1 h2 p s).1 h3⟩
      · rintro ⟨sz', n', ⟨rfl, rfl⟩, h1, h2, h3⟩; exact ⟨_, _, ⟨rfl, rfl⟩, h1, h2, (ih i o h1 h2 p s).2 h3⟩
  | obox _ _ =>
    intro p s
    cases p with
    | nil => rw [at_nil, at_nil]; rfl
    | cons y p => exact ⟨fun h => h.1.elim, fun h => h.1.elim⟩
  | _ => exact fun p s => ⟨fun k => absurd k (at_leaf rfl p s), fun k => absurd k (at_leaf rfl p s)⟩

theorem VR.less {w : World} {B : Blocks} {v v' : PV} (hn : NEq v v') : ∀ {H : Roots} {V : Nat → Prop} {x : Value}, VR w B H V v x → VR w B H V v' x := by
  induction hn with
  | refl v => exact fun h => h
  | undef _ => exact fun _ => .undef _
  | own _ _ => intro H V x h; cases h
  | obox _ _ => intro H V x h; cases h
  | frz _ ih =>
    intro H V x h
    cases h with
    | frz h1 h2 h3 h4 => exact .frz h1 h2 h3 (fun i o hi ho => ih i o hi ho (h4 i o hi ho))
  | fptr _ ih =>
    intro H V x h
    cases h with
    | fptr h1 h2 h3 h4 h5 => exact .fptr h1 h2 h3 h4 (fun j hj => ih j hj (h5 j hj))
  | agg hl _ ih =>
    intro H V x h
    cases h with
    | agg h1 h2 => exact .agg (hl.symm.trans h1) (fun i hi => ih i (by omega) (h2 i (by omega)))
  | tup hl _ ih =>
    intro H V x h
    cases h with
    | tup h1 h2 => exact .tup (hl.symm.trans h1) (fun i hi => ih i (by omega) (h2 i (by omega)))
  | fcl _ ih =>
    intro H V x h
    cases h with
    | fcl h1 h2 h3 => exact .fcl h1 h2 (fun i o hi ho => ih i o hi ho (h3 i o hi ho))
  | clip _ ih =>
    intro H V x h
    cases h with
    | fcl h1 h2 h3 => exact .frz (Nat.le_refl _) h1 h2 (fun i o hi ho => ih i o hi ho (h3 i o hi ho))
  | func hl hl' _ _ ih ih' =>
    intro H V x h
    cases h with
    | func h1 h2 h3 h4 => exact .func (hl.symm.trans h1) (hl'.symm.trans h2) (fun i hi => ih i (by omega) (h3 i (by omega))) (fun i hi => ih' i (by omega) (h4 i (by omega)))
  | iface _ ih =>
    intro H V x h
    cases h with
    | iface h => exact .iface (ih h)
  | nils =>
    intro H V x h
    cases h
    exact .frz (g := fun _ _ => Go.undef) (Nat.le_refl _) (by omega) (fun h => by omega) (fun i o hi => by omega)

theorem TR.less {w : World} {B : Blocks} {H : Roots} {V : Nat → Prop} {r : RId} {v v' : PV} (hn : NEq v v') : ∀ {p : Path} {x : Value}, TR w B H V r p v x → TR w B H V r p v' x := by
  induction hn with
  | own _ ih =>
    intro p x h
    cases h with
    | leaf h => cases h
    | own h1 h2 h3 h4 h5 h6 h7 => exact .own h1 h2 h3 h4 h5 h6 (fun i o hi ho => ih i o hi ho (h7 i o hi ho))
    | nil h => exact .nil h
  | obox _ _ => intro p x h; cases h with | leaf h => cases h
  | refl => exact fun h => h
  | undef hs =>
    intro p x h
    cases h with
    | leaf h => exact .leaf (.undef _)
    | own => simp [shapeOf] at hs
    | nil => simp [shapeOf] at hs
  | frz h _ => intro p x h'; cases h' with | leaf h' => exact .leaf (h'.less (.frz h))
  | fptr h _ => intro p x h'; cases h' with | leaf h' => exact .leaf (h'.less (.fptr h))
  | agg hl h _ => intro p x h'; cases h' with | leaf h' => exact .leaf (h'.less (.agg hl h))
  | tup hl h _ => intro p x h'; cases h' with | leaf h' => exact .leaf (h'.less (.tup hl h))
  | nils => intro p x h'; cases h' with | leaf h' => exact .leaf (h'.less .nils)
  | fcl h _ => intro p x h'; cases h' with | leaf h' => exact .leaf (h'.less (.fcl h))
  | clip h _ => intro p x h'; cases h' with | leaf h' => exact .leaf (h'.less (.clip h))
  | func hl hl' h h2 _ _ => intro p x h'; cases h' with | leaf h' => exact .leaf (h'.less (.func hl hl' h h2))
  | iface h _ => intro p x h'; cases h' with | leaf h' => exact .leaf (h'.less (.iface h))

theorem RootOK.less {w : World} {B : Blocks} {H : Roots} {V : Nat → Prop} {r : RId} {v v' : PV} (hn : NEq v v') (h : RootOK w B H V r v) : RootOK w B H V r v' := by
  cases h with
  | own h =>
    cases hn with
    | refl => exact .own h
    | undef hs => simp [shapeOf] at hs
    | own hc => exact .own (h.less (.own hc))
  | obox h1 h2 h3 h4 =>
    cases hn with
    | refl => exact .obox h1 h2 h3 h4
    | undef hs => simp [shapeOf] at hs
    | obox hc => exact .obox h1 h2 h3 (fun o ho => (h4 o ho).less (hc o ho))
  | omap h1 h2 h3 h4 h5 h6 h7 =>
    cases hn with
    | refl => exact .omap h1 h2 h3 h4 h5 h6 h7
    | undef hs => simp [shapeOf] at hs
  | oiter h1 h2 h3 =>
    cases hn with
    | refl => exact .oiter h1 h2 h3
    | undef hs => simp [shapeOf] at hs
  | oloop h1 h2 h3 h4 =>
    cases hn with
    | refl => exact .oloop h1 h2 h3 h4
    | undef hs => simp [shapeOf] at hs

/-- A state that tells no more (roots may be gone). -/
structure Le (tm : Tm) (hp : Hp) (nv : Nat) (tm' : Tm) (hp' : Hp) (nv' : Nat) : Prop where
  tm : ∀ t, lk tm' t = .undef ∨ NEq (lk tm t) (lk tm' t)
  hp : ∀ r rt', lkH hp' r = some rt' → ∃ rt, lkH hp r = some rt ∧ rt.ver = rt'.ver ∧ NEq rt.node rt'.node
  nv : nv ≤ nv'

theorem Le.refl (tm : Tm) (hp : Hp) (nv : Nat) : Le tm hp nv tm hp nv := ⟨fun _ => .inr (.refl _), fun r rt h => ⟨rt, h, rfl, .refl _⟩, Nat.le_refl _⟩

noncomputable def keepB (hp' : Hp) (B : Blocks) : Blocks := fun r p => if r.1 = 0 ∨ (lkH hp' r).isSome then B r p else none

theorem Le.sound {nt : FS} {tm tm' : Tm} {hp hp' : Hp} {nv nv' : Nat} (h : Le tm hp nv tm' hp' nv') {w : World} {B : Blocks} {a : Act} (hs : SR nt tm hp nv w B a) :
    SR nt tm' hp' nv' w (keepB hp' B) a ∧ Mono w B (lkH hp) (· < nv) w (keepB hp' B) (lkH hp') (· < nv') := by
  have hkeep : ∀ r rt', lkH hp' r = some rt' → ∀ p, keepB hp' B r p = B r p := fun r rt' hr p => by simp [keepB, hr]
  have hsub : ∀ r p b, keepB hp' B r p = some b → B r p = some b := fun r p b h => by
    unfold keepB at h
    split at h
    · exact h
    · cases h
  have hm : Mono w B (lkH hp) (· < nv) w (keepB hp' B) (lkH hp') (· < nv') := by
    refine ⟨Nat.le_refl _, fun b _ hf => ⟨fun r p h => hf r p (hsub r p b h), rfl⟩, fun r p b h0 hb => ⟨by simp [keepB, h0, hb], rfl⟩, fun r p b hb => .inr ⟨r, p, hsub r p b hb⟩, fun _ _ h => h, fun n hn => Nat.lt_of_lt_of_le hn h.nv, fun r rt' hr => ?_, rfl, rfl, rfl⟩
    obtain ⟨rt, h1, h2, h3⟩ := h.hp r rt' hr
    exact .inr ⟨rt, h1, h2, fun p s hp => ⟨(h3.at p s).2 hp, hkeep r rt' hr p⟩⟩
  refine ⟨⟨⟨fun t => ?_, hs.tm.size, hs.tm.defers.mono hm⟩, ⟨fun r rt' hr => ?_, fun r rt' hr => ?_, fun r p b hb => ?_, fun r rt' hr => ?_, fun r p r' p' b h1 h2 => hs.hp.inj r p r' p' b (hsub _ _ _ h1) (hsub _ _ _ h2)⟩⟩, hm⟩
  · rcases h.tm t with h1 | h1
    · rw [h1]; exact .undef _
    · exact ((hs.tm.val t).mono hm).less h1
  · obtain ⟨rt, h1, h2, h3⟩ := h.hp r rt' hr
    exact ((hs.hp.root r rt h1).mono hm (fun t s _ => ⟨hkeep r rt' hr t, fun _ _ => rfl⟩)).less h3
  · obtain ⟨rt, h1, h2, h3⟩ := h.hp r rt' hr
    rw [← h2]
    exact Nat.lt_of_lt_of_le (hs.hp.ver r rt h1) h.nv
  · obtain ⟨h1, h2⟩ := hs.hp.dom r p b (hsub r p b hb)
    refine ⟨h1, ?_⟩
    by_cases h0 : r.1 = 0
    · exact .inl h0
    · obtain ⟨rt, s, h3, h4⟩ := h2.resolve_left h0
      cases hr : lkH hp' r with
      | none => simp [keepB, h0, hr] at hb
      | some rt' =>
        obtain ⟨rt2, k1, k2, k3⟩ := h.hp r rt' hr
        rw [h3] at k1
        cases k1
        exact .inr ⟨rt', s, rfl, (k3.at p s).2 h4⟩
  · obtain ⟨rt, h1, _⟩ := h.hp r rt' hr
    exact hs.hp.lev r rt h1

def LeTm (tm : Tm) : Tm → Prop
  | [] => True
  | (k, v) :: l => NEq (lk tm k) v ∧ LeTm tm l
def LeHp (hp : Hp) : Hp → Prop
  | [] => True
  | (r, x) :: l => (match lkH hp r with | some rt => rt.ver = x.ver ∧ NEq rt.node x.node | none => False) ∧ LeHp hp l

theorem Le.of {tm tm' : Tm} {hp hp' : Hp} {nv : Nat} (h1 : LeTm tm tm') (h2 : LeHp hp hp') : Le tm hp nv tm' hp' nv where
  tm := by
    induction tm' with
    | nil => intro t; exact .inl rfl
    | cons x l ih =>
      obtain ⟨k, v⟩ := x
      intro t
      simp only [lk]
      split
      · rename_i e; subst e; exact .inr h1.1
      · exact ih h1.2 t
  hp := by
    induction hp' with
    | nil => intro r rt h; simp [lkH] at h
    | cons x l ih =>
      obtain ⟨k, v⟩ := x
      intro r rt h
      simp only [lkH] at h
      split at h
      · rename_i e
        subst e
        cases h
        have := h2.1
        cases hl : lkH hp r with
        | none => simp [hl] at this
        | some rt0 => simp only [hl] at this; exact ⟨rt0, rfl, this.1, this.2⟩
      · exact ih h2.2 r rt h
  nv := Nat.le_refl _

theorem NEq.int {k : IntKind} {a b : Int} (h : a = b) : NEq (.int k a) (.int k b) := h ▸ .refl _
theorem NEq.bool {a b : Bool} (h : a = b) : NEq (.bool a) (.bool b) := h ▸ .refl _
theorem NEq.of_eq {a b : PV} (h : a = b) : NEq a b := h ▸ .refl _

theorem wrapI {n : Int} (h : -9223372036854775808 ≤ n ∧ n ≤ 9223372036854775807) : IntKind.i64.wrap n = n := by
  simp [IntKind.wrap, IntKind.bits, IntKind.signed]
  omega

section
variable {P : Program} {lv : Nat} {nt : FS} {ro : Option Nat} {tm : Tm} {hp : Hp} {nv : Nat} {Q : Post}

theorem Ev.less {c : Code} {tm' : Tm} {hp' : Hp} {nv' : Nat} (hl : Le tm hp nv tm' hp' nv') (h : Ev P lv nt ro c tm' hp' nv' Q) : Ev P lv nt ro c tm hp nv Q := by
  refine ⟨fun w B a hs => ?_⟩
  obtain ⟨h1, h2⟩ := hl.sound hs
  exact wpIn_mono (h.out w _ a h1) fun e a' w' ⟨tm2, hp2, nv2, B2, k1, k2, k3⟩ => ⟨tm2, hp2, nv2, B2, k1, k2, h2.trans k3⟩

theorem exists_least {p : Nat → Prop} (h : ∃ n, p n) : ∃ n, p n ∧ ∀ m, p m → n ≤ m := by
  obtain ⟨n, hn⟩ := h
  induction n using Nat.strongRecOn with
  | _ n ih =>
    by_cases h : ∃ m, m < n ∧ p m
    · obtain ⟨m, h1, h2⟩ := h; exact ih m h1 h2
    · exact ⟨n, hn, fun m hm => Nat.le_of_not_lt fun hlt => h ⟨m, hlt, hm⟩⟩

noncomputable def least (p : Nat → Prop) : Nat := if h : ∃ n, p n then (exists_least h).choose else 0
theorem least_spec {p : Nat → Prop} (h : ∃ n, p n) : p (least p) := by unfold least; rw [dif_pos h]; exact (exists_least h).choose_spec.1
theorem least_le {p : Nat → Prop} {n : Nat} (h : p n) : least p ≤ n := by unfold least; rw [dif_pos ⟨n, h⟩]; exact (exists_least ⟨n, h⟩).choose_spec.2 n h

theorem stepR_scope {b : Frame} {a : Act} {k : List Item} {cs : List Frame} {w : World} {c : Code} : step P (lone (b.atR a (.code (.scope c) :: k)) cs w) = .next (lone (b.atR a (.code c :: .inScope c :: k)) cs w) :=
  step_lone_go (by simp [stepG, stepG.exec, Frame.atR])
theorem stepR_inScope {b : Frame} {a : Act} {k : List Item} {cs : List Frame} {w : World} {c : Code} : step P (lone (b.atR a (.inScope c :: k)) cs w) = .next (lone (b.atR a k) cs w) :=
  step_lone_go (by simp [stepG, stepG.exec, Frame.atR])

/-- A loop: at every round's head the state is one of a family, and a measure goes down. -/
theorem Ev.loop {c : Code} {ι : Type} (tmS : ι → Tm) (hpS : ι → Hp) (μ : ι → Nat) (i0 : ι) (h0 : Le tm hp nv (tmS i0) (hpS i0) nv)
    (hr : ∀ i nv, Ev P lv nt ro c (tmS i) (hpS i) nv (thenQ (fun tm hp nv => ∃ j, Le tm hp nv (tmS j) (hpS j) nv ∧ μ j < μ i) Q)) : Ev P lv nt ro (.loop c) tm hp nv Q := by
  refine ⟨fun w B a hs => ?_⟩
  obtain ⟨g1, g2⟩ := h0.sound hs
  let at_ : Act → World → Nat → Prop := fun a' w' n => ∃ i nv' B', SR nt (tmS i) (hpS i) nv' w' B' a' ∧ Mono w B (lkH hp) (· < nv) w' B' (lkH (hpS i)) (· < nv') ∧ μ i = n
  refine wpIn_loop (fun a' w' => ∃ n, at_ a' w' n) (fun a' w' => least (at_ a' w')) ⟨_, i0, nv, _, g1, g2, rfl⟩ ?_
  intro a1 w1 hI
  obtain ⟨i, nv1, B1, h1, h2, h3⟩ := least_spec hI
  refine wpIn_mono ((hr i nv1).out w1 B1 a1 h1) ?_
  rintro e a2 w2 ⟨tm2, hp2, nv2, B2, k1, k2, k3⟩
  cases e with
  | normal =>
    obtain ⟨j, hj, hlt⟩ := k1
    obtain ⟨g1, g2⟩ := Le.sound hj k2
    have hat : at_ a2 w2 (μ j) := ⟨j, nv2, _, g1, (h2.trans k3).trans g2, rfl⟩
    exact ⟨⟨_, hat⟩, Nat.lt_of_le_of_lt (least_le hat) (h3 ▸ hlt)⟩
  | _ => exact ⟨tm2, hp2, nv2, B2, k1, k2, h2.trans k3⟩

/-- Ways that meet again. -/
theorem Ev.seqCut {x y : Code} {ι : Type} (tmS : ι → Tm) (hpS : ι → Hp) (h : Ev P lv nt ro x tm hp nv (thenQ (fun tm hp nv => ∃ j, Le tm hp nv (tmS j) (hpS j) nv) Q))
    (hy : ∀ i nv, Ev P lv nt ro y (tmS i) (hpS i) nv Q) : Ev P lv nt ro (.seq x y) tm hp nv Q := by
  refine .seq (h.mono fun e tm hp nv hq => ?_)
  cases e with
  | normal => obtain ⟨j, hj⟩ := hq; exact (hy j nv).less hj
  | _ => exact hq

/-- A scope with a label, to which code jumps back. -/
theorem Ev.scope {c rest : Code} {ι : Type} (l : Nat) (hf : findLabel c l = some rest) (tmS : ι → Tm) (hpS : ι → Hp) (μ : ι → Nat)
    (first : Ev P lv nt ro c tm hp nv fun e tm hp nv => match e with | .goto l' => l' = l ∧ ∃ j, Le tm hp nv (tmS j) (hpS j) nv | e => Q e tm hp nv)
    (pass : ∀ i nv, Ev P lv nt ro rest (tmS i) (hpS i) nv fun e tm hp nv => match e with | .goto l' => l' = l ∧ ∃ j, Le tm hp nv (tmS j) (hpS j) nv ∧ μ j < μ i | e => Q e tm hp nv) :
    Ev P lv nt ro (.scope c) tm hp nv Q := by
  refine ⟨fun w B a hs b k cs hro hb hroom => ?_⟩
  have hg : gotoIn l (.inScope c :: k) = some (.code rest :: .inScope c :: k) := by simp [gotoIn, hf]
  have room : ∀ n, (Wd ro).room n := fun n _ h => by simp [Wd, Fence.wide] at h
  have hfn : ∀ f, (Wd ro).fn f := fun _ => trivial
  have post : ∀ (e : Exit) (tm1 : Tm) (hp1 : Hp) (nv1 : Nat) (w1 : World) (B1 : Blocks) (a1 : Act), True := fun _ _ _ _ _ _ _ => trivial
  -- what a way out of the code gives, behind the scope
  have out : ∀ (m : Machine) (e : Exit) (a' : Act) (w' : World), (∀ t, e ≠ .goto t) → ArrivesIn (Machine.fenced P (Wd ro)) P m b (.inScope c :: k) cs e a' w' → ArrivesIn (Machine.fenced P (Wd ro)) P m b k cs e a' w' := by
    intro m e a' w' hne harr
    cases e with
    | normal => exact harr.trans (.one (fenced_calm (n := 0) hb (room _) rfl) (stepR_inScope (b := b)))
    | exit id => exact ⟨fun k' hk => harr.1 k' (by simp [exitTo, hk]), fun hr hk => harr.2 hr (by simp [exitTo, hk])⟩
    | goto t => exact absurd rfl (hne t)
    | ret => exact harr
    | panic ch => exact harr
    | outgrown => exact harr
  have key : ∀ n i nv1 w1 B1 a1, μ i = n → SR nt (tmS i) (hpS i) nv1 w1 B1 a1 → Mono w B (lkH hp) (· < nv) w1 B1 (lkH (hpS i)) (· < nv1) →
      ∃ e a' w', (∃ tm' hp' nv' B', Q e tm' hp' nv' ∧ SR nt tm' hp' nv' w' B' a' ∧ Mono w B (lkH hp) (· < nv) w' B' (lkH hp') (· < nv')) ∧
        ArrivesIn (Machine.fenced P (Wd ro)) P (lone (b.atR a1 (.code rest :: .inScope c :: k)) cs w1) b k cs e a' w' := by
    intro n
    induction n using Nat.strongRecOn with
    | _ n ih =>
      intro i nv1 w1 B1 a1 hn hs1 hm1
      obtain ⟨e, a2, w2, ⟨tm2, hp2, nv2, B2, hq, hs2, hm2⟩, harr⟩ := (pass i nv1).out w1 B1 a1 hs1 b (.inScope c :: k) cs hro (hfn _) (room _)
      cases e with
      | goto t =>
        obtain ⟨rfl, j, hj, hlt⟩ := hq
        obtain ⟨g1, g2⟩ := hj.sound hs2
        obtain ⟨e3, a3, w3, h3, harr3⟩ := ih (μ j) (by omega) j nv2 w2 _ a2 rfl g1 ((hm1.trans hm2).trans g2)
        exact ⟨e3, a3, w3, h3, .of_steps (harr.1 _ hg) harr3⟩
      | _ => exact ⟨_, a2, w2, ⟨tm2, hp2, nv2, B2, hq, hs2, hm1.trans hm2⟩, out _ _ _ _ (by simp) harr⟩
  obtain ⟨e, a2, w2, ⟨tm2, hp2, nv2, B2, hq, hs2, hm2⟩, harr⟩ := first.out w B a hs b (.inScope c :: k) cs hro (hfn _) (room _)
  have hstep : StepsIn (Machine.fenced P (Wd ro)) P (lone (b.atR a (.code (.scope c) :: k)) cs w) (lone (b.atR a (.code c :: .inScope c :: k)) cs w) := .one (fenced_calm (n := 0) hb (room _) rfl) (stepR_scope (b := b))
  cases e with
  | goto t =>
    obtain ⟨rfl, j, hj⟩ := hq
    obtain ⟨g1, g2⟩ := hj.sound hs2
    obtain ⟨e3, a3, w3, h3, harr3⟩ := key (μ j) j nv2 w2 _ a2 rfl g1 (hm2.trans g2)
    exact ⟨e3, a3, w3, h3, .of_steps (hstep.trans (harr.1 _ hg)) harr3⟩
  | _ => exact ⟨_, a2, w2, ⟨tm2, hp2, nv2, B2, hq, hs2, hm2⟩, .of_steps hstep (out _ _ _ _ (by simp) harr)⟩
end
end Go.Ab
/- A function out of its body. -/
namespace Go.Ab
open Classical

def params : Nat → List PV → Tm
  | _, [] => []
  | i, x :: l => (i, x) :: params (i + 1) l

theorem lk_params (l : List PV) : ∀ (k t : Nat), lk (params k l) t = if k ≤ t ∧ t < k + l.length then l.getD (t - k) .undef else .undef := by
  induction l with
  | nil => intro k t; simp [params, lk]
  | cons x l ih =>
    intro k t
    simp only [params, lk, ih, List.length_cons]
    by_cases h : t = k
    · subst h; simp
    · rw [if_neg h]
      by_cases h2 : k + 1 ≤ t ∧ t < k + 1 + l.length
      · rw [if_pos h2, if_pos (by omega)]
        obtain ⟨d, hd⟩ : ∃ d, t - k = d + 1 := ⟨t - k - 1, by omega⟩
        rw [hd, show t - (k + 1) = d by omega]
        rfl
      · rw [if_neg h2, if_neg (by omega)]

def A.bind : A → (PV → A) → A
  | .ret x, f => f x
  | @A.vc p d k, f => @A.vc p d (k.bind f)
  | .hyp p k, f => .hyp p (k.bind f)
  | .rd r k, f => .rd r fun x => (k x).bind f
  | .wr r x k, f => .wr r x (k.bind f)
  | .any k, f => .any fun b => (k b).bind f
  | @A.dec p d k, f => @A.dec p d fun b => (k b).bind f
  | .opt o k, f => .opt o fun b => (k b).bind f
  | .all p k, f => .all p fun b => (k b).bind f
  | .fail, _ => .fail

theorem A.wp_bind (a : A) (f : PV → A) (h : Hp) (K : PV → Hp → Prop) : (a.bind f).wp h K ↔ a.wp h fun x h' => (f x).wp h' K := by
  induction a generalizing h with
  | ret x => exact Iff.rfl
  | vc p k ih => simp only [A.bind, A.wp, ih]
  | hyp p k ih => simp only [A.bind, A.wp, ih]
  | rd r k ih => simp only [A.bind, A.wp, ih]
  | wr r x k ih => simp only [A.bind, A.wp, ih]
  | any k ih => simp only [A.bind, A.wp, ih]
  | dec p k ih => simp only [A.bind, A.wp, ih]
  | opt o k ih => simp only [A.bind, A.wp, ih]
  | all p k ih => simp only [A.bind, A.wp, ih]
  | fail => exact Iff.rfl

def resA (P : Program) (tm : Tm) : List ResultVar → (List PV → A) → A
  | [], k => k []
  | .tmp t :: l, k => opnd tm (.tmp t) fun v => resA P tm l fun vs => k (v :: vs)
  | .cell a t :: l, k => opnd tm (.tmp a) fun p => (loadA P t p).bind fun v => resA P tm l fun vs => k (v :: vs)

def resultsA (P : Program) (tm : Tm) (l : List ResultVar) : A := resA P tm l fun vs => match vs with
  | [v] => .ret v
  | vs => .ret (.tup vs)

def resSem (tmps : Array Value) : ResultVar → Sem Value
  | .tmp t => pure (tmps.getD t Go.undef)
  | .cell b t => do loadVar t (← asAddr (tmps.getD b Go.undef))

theorem results_eq (fn : Func) (tmps : Array Value) : results fn tmps = (do
  let vs ← fn.results.mapM (resSem tmps)
  pure (if h : vs.size = 1 then vs[0] else .tuple vs)) := rfl

theorem resA_real {P : Program} {nt : FS} {w : World} {B : Blocks} {tm : Tm} {hp : Hp} {V : Nat → Prop} {a : Act} (hr : HR w B (lkH hp) V) (ht : TmR w B (lkH hp) V nt tm a) {K : PV → Hp → Prop} :
    ∀ (l : List ResultVar) {k : List PV → A}, (resA P tm l k).wp hp K →
      ∃ vs cs, (l.mapM (resSem a.tmps)).run P w = .ok cs w ∧ LR w B (lkH hp) V vs cs.toArray ∧ (k vs).wp hp K := by
  intro l
  induction l with
  | nil => intro k h; exact ⟨[], [], by simp, ⟨by simp, fun i hi => by simp at hi⟩, h⟩
  | cons r l ih =>
    intro k h
    have cons : ∀ (v : PV) (x : Value) (vs : List PV) (cs : List Value), VR w B (lkH hp) V v x → LR w B (lkH hp) V vs cs.toArray → LR w B (lkH hp) V (v :: vs) (x :: cs).toArray := by
      intro v x vs cs hv hl
      refine ⟨by have := hl.len; simp at this; simp [this], fun i hi => ?_⟩
      cases i with
      | zero => simpa using hv
      | succ i =>
        have := hl.val i (by simpa using hi)
        simpa [List.getD_eq_getElem?_getD, Array.getD_eq_getD_getElem?] using this
    have hop : ∀ (t : Nat) {k' : PV → A}, (opnd tm (.tmp t) k').wp hp K → ∃ v, VR w B (lkH hp) V v (a.tmps.getD t Go.undef) ∧ (k' v).wp hp K := by
      intro t k' h
      unfold opnd at h
      have he := ht.ev (.tmp t)
      split at h
      · rename_i g g' v e
        rw [e] at he
        obtain ⟨⟨hg, hg'⟩, hk⟩ := h
        cases he with
        | whn he _ =>
          cases he hg with
          | whn he' _ => exact ⟨v, he' hg', hk⟩
      · rename_i g v _ e
        rw [e] at he
        obtain ⟨hg, hk⟩ := h
        cases he with
        | whn he _ => exact ⟨v, he hg, hk⟩
      · exact ⟨_, he, h⟩
    cases r with
    | tmp t =>
      obtain ⟨v, hv, h⟩ := hop t h
      obtain ⟨vs, cs, h1, h2, h3⟩ := ih h
      refine ⟨v :: vs, _ :: cs, ?_, cons _ _ _ _ hv h2, h3⟩
      rw [List.mapM_cons]
      simp only [Sem.run_bind, resSem, Sem.run_pure, Result.andThen_ok, h1]
    | cell b t =>
      obtain ⟨p, hp', h⟩ := hop b h
      rw [A.wp_bind] at h
      obtain ⟨v, x, h1, h2, h3⟩ := load_pure hr t hp' _ h
      obtain ⟨vs, cs, g1, g2, g3⟩ := ih h2
      refine ⟨x :: vs, v :: cs, ?_, cons _ _ _ _ h3 g2, g3⟩
      have hlv : (do loadVar t (← asAddr (a.tmps.getD b Go.undef)) : Sem Value).run P w = .ok v w := by
        simp only [Instr.loadAt] at h1
        cases hx : a.tmps.getD b Go.undef <;> rw [hx] at h1 <;> simp [Instr.sureAddr] at h1
        rename_i o
        cases o with
        | none => simp [Instr.sureAddr] at h1
        | some ad => simpa [asAddr, Instr.sureAddr] using h1
      rw [List.mapM_cons]
      simp only [Sem.run_bind, resSem] at hlv ⊢
      rw [hlv]
      simp only [Result.andThen_ok, g1, Sem.run_pure]

theorem results_real {P : Program} {fn : Func} {nt : FS} {w : World} {B : Blocks} {tm : Tm} {hp : Hp} {V : Nat → Prop} {a : Act} (hr : HR w B (lkH hp) V) (ht : TmR w B (lkH hp) V nt tm a) {K : PV → Hp → Prop}
    (h : (resultsA P tm fn.results.toList).wp hp K) : ∃ v x, (results fn a.tmps).run P w = .ok v w ∧ K x hp ∧ VR w B (lkH hp) V x v := by
  obtain ⟨vs, cs, h1, h2, h3⟩ := resA_real hr ht _ h
  have hrun : (results fn a.tmps).run P w = .ok (if h : cs.toArray.size = 1 then cs.toArray[0] else .tuple cs.toArray) w := by
    rw [results_eq]
    simp only [Sem.run_bind]
    have : (fn.results.mapM (resSem a.tmps)).run P w = .ok cs.toArray w := by
      rw [Array.mapM_eq_mapM_toList]
      simp only [Sem.run_map]
      rw [h1]
      rfl
    rw [this]
    rfl
  split at h3
  · rename_i v
    have hl : cs.toArray.size = 1 := by rw [← h2.len]; rfl
    rw [dif_pos hl] at hrun
    refine ⟨_, v, hrun, h3, ?_⟩
    have := h2.val 0 (by simp)
    simpa [Array.getD_eq_getD_getElem?, hl] using this
  · rename_i hne
    have hl : cs.toArray.size ≠ 1 := by
      intro hl
      rw [← h2.len] at hl
      match vs, hl with
      | [v], _ => exact hne v rfl
    rw [dif_neg hl] at hrun
    exact ⟨_, _, hrun, h3, .tup h2.len h2.val⟩

/-- What a body must end in. -/
def bodyQ (P : Program) (rs : List ResultVar) (R : PV → Hp → Nat → Prop) : Post
  | .normal, tm, hp, nv | .ret, tm, hp, nv => (resultsA P tm rs).wp hp fun x hp' => R x hp' nv
  | _, _, _, _ => False

theorem start_tm {nt : FS} {w : World} {B : Blocks} {H : Roots} {V : Nat → Prop} {args : List PV} {cs : Array Value} (ha : LR w B H V args cs) (hn : args.length ≤ nt) (hlo : nt.lo ≤ w.heap.size) :
    TmR w B H V nt (params 0 args) { tmps := cs ++ Array.replicate (nt - cs.size) Go.undef, defers := [] } where
  val t := by
    rw [lk_params]
    by_cases h : 0 ≤ t ∧ t < 0 + args.length
    · rw [if_pos h]
      have hlt : t < cs.size := by rw [← ha.len]; omega
      have := ha.val t (by omega)
      simpa [Array.getD_eq_getD_getElem?, Array.getElem?_append, hlt] using this
    · rw [if_neg h]; exact .undef _
  size := by have := ha.len; simp; omega
  defers := .nil hlo

/-! ### The marks are taken -/
open Go.ChangeMaps (setBlock)
def takeB (w : World) (bs : List Nat) : World := bs.foldl (fun w b => setBlock w b (.deferred none)) w

theorem takeB_size (w : World) (bs : List Nat) : (takeB w bs).heap.size = w.heap.size := by
  induction bs generalizing w with
  | nil => rfl
  | cons b bs ih => exact (ih (setBlock w b (.deferred none))).trans (by simp [setBlock])

theorem takeB_ne {bs : List Nat} {k : Nat} : ∀ {w : World}, k ∉ bs → (takeB w bs).heap[k]? = w.heap[k]? := by
  induction bs with
  | nil => intro w _; rfl
  | cons b bs ih =>
    intro w h
    simp only [List.mem_cons, not_or] at h
    exact (ih h.2).trans (setBlock_ne _ h.1)

theorem takeB_eq (w : World) (bs : List Nat) : (takeB w bs).os = w.os ∧ (takeB w bs).tape = w.tape ∧ (takeB w bs).output = w.output := by
  induction bs generalizing w with
  | nil => exact ⟨rfl, rfl, rfl⟩
  | cons b bs ih => exact ih (setBlock w b (.deferred none))

theorem leaves_marks {F : Fence} {n : Nat} {P : Program} {fn : Func} {tmps : Array Value} {R : Ending → World → Prop} : ∀ (bs : List Nat) (w : World), bs.Nodup → (∀ b ∈ bs, w.heap[b]? = some (.deferred (some []))) →
    (∃ v, (results fn tmps).run P (takeB w bs) = .ok v (takeB w bs) ∧ R (.returned v) (takeB w bs)) → LeavesInM F n P fn tmps R (bs.map fun b => ⟨.collected b, #[]⟩) .returning w := by
  intro bs
  induction bs with
  | nil => intro w _ _ h; exact h
  | cons b bs ih =>
    intro w hnd hb h
    rw [List.nodup_cons] at hnd
    refine ⟨by simp, .inl ⟨b, setBlock w b (.deferred none), rfl, ?_, ih _ hnd.2 (fun c hc => ?_) h⟩⟩
    · have h1 := hb b (by simp)
      have hg : (getObj b).run P w = .ok (.deferred (some [])) w := by simp only [getObj, Sem.run, h1]
      have hs : (setObj b (.deferred none)).run P w = .ok () (setBlock w b (.deferred none)) := by simp only [setObj, Sem.run, h1, setBlock]
      simp [Instr.takeDeferred, hg, hs]
    · rw [setBlock_ne _ (fun e : c = b => hnd.1 (e ▸ hc))]
      exact hb c (by simp [hc])

/-- The marks taken: nothing else turns. -/
theorem take_turn {w0 w : World} {B0 B : Blocks} {H0' H : Roots} {V0' V : Nat → Prop} {bs : List Nat} (hr : HR w B H V) (hm : Mono w0 B0 H0' V0' w B H V) (hb : ∀ b ∈ bs, w0.heap.size ≤ b ∧ free B b ∧ w.heap[b]? = some (.deferred (some []))) :
    Turn w B H V (takeB w bs) B H V ∧ HR (takeB w bs) B H V ∧ Mono w0 B0 H0' V0' (takeB w bs) B H V := by
  have hshape : ∀ b s, w.shape? b = some s → (takeB w bs).shape? b = some s := fun b s hs => by
    by_cases h : b ∈ bs
    · simp only [World.shape?, (hb b h).2.2] at hs
      cases hs
    · simp only [World.shape?] at hs ⊢
      rw [takeB_ne h]
      exact hs
  have ht : Turn w B H V (takeB w bs) B H V := by
    refine ⟨by rw [takeB_size]; exact Nat.le_refl _, fun b hlt hf => ⟨hf, ?_⟩, hshape, fun _ h => h, fun r rt h => .inr ⟨rt, h, rfl, fun _ _ h => ⟨h, rfl⟩⟩⟩
    by_cases h : b ∈ bs
    · exact .inr ⟨_, (hb b h).2.2⟩
    · exact .inl (takeB_ne h)
  have hown : ∀ r p b, B r p = some b → (takeB w bs).heap[b]? = w.heap[b]? := fun r p b h => takeB_ne fun hm => (hb b hm).2.1 r p h
  refine ⟨ht, ⟨fun r rt h => (hr.root r rt h).turn ht (fun t s _ => ⟨rfl, fun b h => hown _ _ _ h⟩), hr.ver, fun r p b h => ?_, hr.lev, hr.inj⟩, ?_⟩
  · obtain ⟨h1, h2⟩ := hr.dom r p b h
    exact ⟨by rw [takeB_size]; exact h1, h2⟩
  · refine ⟨by rw [takeB_size]; exact hm.size, fun b hlt hf => ?_, fun r p b h0 h => ?_, hm.fresh, fun b s hs => hshape b s (hm.shape b s hs), hm.vers, hm.root, ?_, ?_, ?_⟩
    · obtain ⟨h1, h2⟩ := hm.free b hlt hf
      exact ⟨h1, (takeB_ne fun hx => by have := (hb b hx).1; omega).trans h2⟩
    · obtain ⟨h1, h2⟩ := hm.foreign r p b h0 h
      exact ⟨h1, (hown _ _ _ h1).trans h2⟩
    · exact (takeB_eq w bs).1.trans hm.os
    · exact (takeB_eq w bs).2.1.trans hm.tape
    · exact (takeB_eq w bs).2.2.trans hm.output

/-- The body, walked with the caller's roots beside it. -/
theorem body_calls {P : Program} {f : FuncId} {fn : Func} {c : Code} {lv nt : Nat} {rs : Array ResultVar} {hp : Hp} {nv : Nat} {args : List PV} {R : PV → Hp → Nat → Prop} (hf : P.funcs[f]? = some fn) (hb : fn.body = some c) (hnt : fn.ntmps = nt) (hrs : fn.results = rs) (hn : args.length ≤ nt)
    (h : ∀ lo, Ev P lv ⟨nt, lo⟩ none c (params 0 args) hp nv (bodyQ P rs.toList R)) {w : World} {B : Blocks} {cs : Array Value} (hr : HR w B (lkH hp) (· < nv)) (ha : LR w B (lkH hp) (· < nv) args cs) :
    Calls P f cs w fun e w' => ∃ v x hp' nv' B', e = .returned v ∧ R x hp' nv' ∧ VR w' B' (lkH hp') (· < nv') x v ∧ HR w' B' (lkH hp') (· < nv') ∧ Mono w B (lkH hp) (· < nv) w' B' (lkH hp') (· < nv') := by
  subst hnt hrs
  refine callsIn_wide.1 (callsIn_of_wp_marks (n := 0) hf hb trivial (wpIn_mono ((h w.heap.size).out w B _ ⟨start_tm (nt := ⟨fn.ntmps, w.heap.size⟩) ha hn (Nat.le_refl _), hr⟩) ?_))
  rintro e a' w' ⟨tm', hp', nv', B', h1, h2, h3⟩
  have fin : (resultsA P tm' fn.results.toList).wp hp' (fun x hp'' => R x hp'' nv') → LeavesInM Fence.wide 0 P fn a'.tmps (fun e w' => ∃ v x hp' nv' B', e = .returned v ∧ R x hp' nv' ∧ VR w' B' (lkH hp') (· < nv') x v ∧ HR w' B' (lkH hp') (· < nv') ∧ Mono w B (lkH hp) (· < nv) w' B' (lkH hp') (· < nv')) a'.defers .returning w' := by
    intro hk
    obtain ⟨_, bs, e1, e2, e3⟩ := h2.tm.defers
    obtain ⟨ht, hr', hm'⟩ := take_turn h2.hp h3 e3
    have ht2 : TmR (takeB w' bs) B' (lkH hp') (· < nv') ⟨fn.ntmps, 0⟩ tm' { tmps := a'.tmps, defers := [] } := ⟨fun t => (h2.tm.val t).turn ht, h2.tm.size, .nil (Nat.zero_le _)⟩
    obtain ⟨v, x, g1, g2, g3⟩ := results_real hr' ht2 hk
    rw [e1]
    exact leaves_marks bs w' e2 (fun b hb => (e3 b hb).2.2) ⟨v, g1, v, x, hp', nv', B', rfl, g2, g3, hr', hm'⟩
  cases e with
  | normal => exact fin h1
  | ret => exact fin h1
  | _ => exact h1.elim

noncomputable def base0 (B : Blocks) : Blocks := fun r p => if r.1 = 0 then B r p else none

/-- A contract that answers with data. -/
theorem callsF_of {P : Program} {f : FuncId} {fn : Func} {c : Code} {nt : Nat} {rs : Array ResultVar} {args : List PV} {res : PV} (he : Enters P f) (hf : P.funcs[f]? = some fn) (hb : fn.body = some c) (hnt : fn.ntmps = nt) (hrs : fn.results = rs) (hn : args.length ≤ nt)
    (h : ∀ lo, Ev P 1 ⟨nt, lo⟩ none c (params 0 args) [] 0 (bodyQ P rs.toList fun x hp nv => NEq (view 9 hp x) res)) : CallsF P f args res := by
  refine ⟨he, fun w B cs hr ha => ?_⟩
  have hr' : HR w B (lkH []) (· < 0) := ⟨fun r rt h => (by simp [lkH] at h), fun r rt h => (by simp [lkH] at h), fun r p b h => by
    obtain ⟨h1, h2⟩ := hr.dom r p b h
    exact ⟨h1, h2.imp (fun h => h) (fun ⟨rt, s, h, _⟩ => by cases h)⟩, fun r rt h => (by simp [lkH] at h), hr.inj⟩
  have ha' : LR w B (lkH []) (· < 0) args cs := ha.turn fun x v _ hv => hv.lift (fun _ _ _ h => h)
  refine (body_calls hf hb hnt hrs hn h hr' ha').mono fun e w' he => ?_
  obtain ⟨v, x, hp', nv', B', rfl, hx, hv, hr2, hm⟩ := he
  have hsub : ∀ r p b, base0 B' r p = some b → B' r p = some b ∧ r.1 = 0 := fun r p b h => by
    unfold base0 at h
    split at h
    · exact ⟨h, by assumption⟩
    · cases h
  refine ⟨v, base0 B', rfl, ?_, ⟨hm.size, fun b hb hfr => ⟨fun r p h => (hm.free b hb hfr).1 r p (hsub r p b h).1, (hm.free b hb hfr).2⟩, fun r p b h0 h => ⟨by simp [base0, h0, (hm.foreign r p b h0 h).1], (hm.foreign r p b h0 h).2⟩,
    fun r p b h => hm.fresh r p b (hsub r p b h).1, hm.shape, fun _ h => h, fun r rt h => (by simp [H0] at h), hm.os, hm.tape, hm.output⟩⟩
  exact ((VR.view hr2 (Bc := base0 B') (fun b _ hfr r p h => hfr r p (hsub r p b h).1) (fun r p b h0 h r' p' h' => h0 ((hr2.inj _ _ _ _ _ h (hsub _ _ _ h').1).1 ▸ (hsub _ _ _ h').2)) 9).1 x v hv).less hx

/-- A contract on roots of the caller's. -/
theorem callsA_of {P : Program} {f : FuncId} {fn : Func} {c : Code} {lv nt : Nat} {rs : Array ResultVar} {hp : Hp} {nv : Nat} {args : List PV} {R : PV → Hp → Nat → Prop} (he : Enters P f) (hf : P.funcs[f]? = some fn) (hb : fn.body = some c) (hnt : fn.ntmps = nt) (hrs : fn.results = rs) (hn : args.length ≤ nt)
    (h : ∀ lo, Ev P lv ⟨nt, lo⟩ none c (params 0 args) hp nv (bodyQ P rs.toList fun x hp' nv' => ∃ tm2 hp2, R (lk tm2 0) hp2 nv' ∧ Le [(0, x)] hp' nv' tm2 hp2 nv')) : CallsA P f args hp nv R := by
  refine ⟨he, fun w B cs hr ha => ?_⟩
  refine (body_calls hf hb hnt hrs hn h hr ha).mono fun e w' he => ?_
  obtain ⟨v, x, hp', nv', B', rfl, ⟨tm2, hp2, hR, hle⟩, hv, hr2, hm⟩ := he
  have hs : SR ⟨1, 0⟩ [(0, x)] hp' nv' w' B' { tmps := #[v], defers := [] } := ⟨⟨fun t => by
    simp only [lk]
    split
    · rename_i h0; subst h0; simpa using hv
    · exact .undef _, rfl, .nil (Nat.zero_le _)⟩, hr2⟩
  obtain ⟨g1, g2⟩ := hle.sound hs
  have := g1.tm.val 0
  exact ⟨v, _, lk tm2 0, hp2, nv', rfl, hR, by simpa using this, g1.hp, hm.trans g2⟩
end Go.Ab
/- Regions that draw their order: operations that commute. -/
namespace Go.Ab
open Classical

/-- A small program's outcome, with roots that it may not look at, and roots that it may write. -/
def A.ok (fb ow : RId → Prop) : A → Roots → PV → Roots → Prop
  | .ret x, H, v, H' => v = x ∧ H' = H
  | @A.vc p _ k, H, v, H' => p ∧ A.ok fb ow k H v H'
  | .hyp _ k, H, v, H' => A.ok fb ow k H v H'
  | .rd r k, H, v, H' => ¬ fb r ∧ A.ok fb ow (k (H r)) H v H'
  | .wr r x k, H, v, H' => ow r ∧ A.ok fb ow k (fun j => if j = r then x else H j) v H'
  | .any _, _, _, _ => False
  | @A.dec p d k, H, v, H' => A.ok fb ow (k (@decide p d)) H v H'
  | .opt o k, H, v, H' => A.ok fb ow (k o) H v H'
  | .all .., _, _, _ => False
  | .fail, _, _, _ => False

theorem A.ok_wp {fb ow : RId → Prop} {a : A} {hp : Hp} {v : PV} {H' : Roots} (h : a.ok fb ow (lkH hp) v H') {K : PV → Hp → Prop} (hk : ∀ hp', lkH hp' = H' → K v hp') : a.wp hp K := by
  induction a generalizing hp with
  | ret x => obtain ⟨rfl, rfl⟩ := h; exact hk hp rfl
  | vc p k ih => exact ⟨h.1, ih h.2⟩
  | hyp p k ih => exact fun _ => ih h
  | rd r k ih => exact ih _ h.2
  | wr r x k ih =>
    refine ih (hp := setH hp r x) ?_
    have : (lkH (setH hp r x)) = fun j => if j = r then x else lkH hp j := funext fun j => lookH_setH hp r j x
    rw [this]
    exact h.2
  | any k ih => exact h.elim
  | dec p k ih => exact ih _ h
  | opt o k ih => exact ih _ h
  | all p k ih => exact h.elim
  | fail => exact h.elim

/-- What may have changed, in two runs alike. -/
def Chg (ow : RId → Prop) (H H1 H' H1' : Roots) : Prop :=
  (∀ r, ¬ ow r → H1 r = H r ∧ H1' r = H' r) ∧ ∀ r, ow r → (H1 r = H r ∧ H1' r = H' r) ∨ H1 r = H1' r

theorem A.ok_frame {fb ow : RId → Prop} {a : A} {H H1 : Roots} {v : PV} (h : a.ok fb ow H v H1) {H' : Roots} (hag : ∀ r, ¬ fb r → H r = H' r) :
    ∃ H1', a.ok fb ow H' v H1' ∧ Chg ow H H1 H' H1' := by
  induction a generalizing H H' with
  | ret x => obtain ⟨rfl, rfl⟩ := h; exact ⟨H', ⟨rfl, rfl⟩, fun r _ => ⟨rfl, rfl⟩, fun r _ => .inl ⟨rfl, rfl⟩⟩
  | vc p k ih => obtain ⟨H1', h1, h2⟩ := ih h.2 hag; exact ⟨H1', ⟨h.1, h1⟩, h2⟩
  | hyp p k ih => exact ih h hag
  | rd r k ih =>
    obtain ⟨h1, h2⟩ := h
    obtain ⟨H1', h3, h4⟩ := ih _ h2 hag
    exact ⟨H1', ⟨h1, by rw [← hag r h1]; exact h3⟩, h4⟩
  | wr r x k ih =>
    obtain ⟨h1, h2⟩ := h
    obtain ⟨H1', h3, h4⟩ := ih h2 (H' := fun j => if j = r then x else H' j) (fun j hj => by simp only [hag j hj])
    refine ⟨H1', ⟨h1, h3⟩, fun j hj => ?_, fun j hj => ?_⟩
    · have hne : j ≠ r := fun e => hj (e ▸ h1)
      have := h4.1 j hj
      simpa [hne] using this
    · rcases h4.2 j hj with h5 | h5
      · by_cases e : j = r
        · subst e; simp only [if_true] at h5; exact .inr (h5.1.trans h5.2.symm)
        · simp only [e, if_false] at h5; exact .inl h5
      · exact .inr h5
  | any k ih => exact h.elim
  | dec p k ih => exact ih _ h hag
  | opt o k ih => exact ih _ h hag
  | all p k ih => exact h.elim
  | fail => exact h.elim

/-- Neither reads nor writes. -/
def A.pure : A → Prop
  | .ret _ => True
  | @A.vc _ _ k => A.pure k
  | .hyp _ k => A.pure k
  | .rd .. => False
  | .wr .. => False
  | .any _ => False
  | @A.dec _ _ k => ∀ b, A.pure (k b)
  | .opt _ k => ∀ o, A.pure (k o)
  | .all .. => False
  | .fail => True

theorem A.ok_pure {fb ow : RId → Prop} {a : A} (hp : a.pure) {H H1 : Roots} {v : PV} (h : a.ok fb ow H v H1) : H1 = H ∧ ∀ fb' ow' H', a.ok fb' ow' H' v H' := by
  induction a with
  | ret x => obtain ⟨rfl, rfl⟩ := h; exact ⟨rfl, fun _ _ _ => ⟨rfl, rfl⟩⟩
  | vc p k ih => obtain ⟨h1, h2⟩ := ih hp h.2; exact ⟨h1, fun fb' ow' H' => ⟨h.1, h2 fb' ow' H'⟩⟩
  | hyp p k ih => exact ih hp h
  | rd r k ih => exact hp.elim
  | wr r x k ih => exact hp.elim
  | any k ih => exact h.elim
  | dec p k ih => exact ih _ (hp _) h
  | opt o k ih => exact ih _ (hp _) h
  | all p k ih => exact h.elim
  | fail => exact h.elim

/-- Roots of the same shape. -/
def Shp (H H' : Roots) : Prop := ∀ r, match H r, H' r with
  | none, none => True
  | some a, some b => a.ver = b.ver ∧ ∀ p, shapeOf (getAt a.node p) = shapeOf (getAt b.node p)
  | _, _ => False

theorem Shp.refl (H : Roots) : Shp H H := fun r => by cases H r <;> simp
theorem Shp.symm {H H' : Roots} (h : Shp H H') : Shp H' H := fun r => by
  have := h r
  cases h1 : H r <;> cases h2 : H' r <;> simp_all

/-- Looks at shapes only, and writes nothing. -/
def A.shp (a : A) : Prop := ∀ fb ow H v H1, a.ok fb ow H v H1 → H1 = H ∧ ∀ H', Shp H H' → a.ok fb ow H' v H'

theorem A.pure.shp {a : A} (h : a.pure) : a.shp := fun _ _ _ _ _ h1 => ⟨(A.ok_pure h h1).1, fun H' _ => (A.ok_pure h h1).2 _ _ H'⟩

/-- Writes that leave shapes. -/
def A.mild (a : A) : Prop := ∀ fb ow H v H1, a.ok fb ow H v H1 → Shp H H1

/-! ### The operations' kinds -/
/-- 0: pure; 1: looks at shapes; 2: reads, and may make a root; 3: writes into roots; 4: whatever else. -/
def kindOf : Op → Nat
  | .move _ | .assign _ | .pick .. | .unOp .. | .extract .. | .makeFunc .. | .convert .. | .field .. | .index .. => 0
  | .binOp op .. => if isEq op then 1 else 0
  | .indexAddr .. | .fieldAddr .. | .nilCheck _ | .slice .. => 1
  | .store .. => 3
  | _ => 2

/-- May it make a root? -/
def makes : Op → Bool
  | .alloc _ | .box .. | .buildSlice .. | .makeSlice .. | .call _ | .makeMap .. => true
  | _ => false

theorem opnd_pure {tm : Tm} {x : Operand} {k : PV → A} (h : ∀ v, (k v).pure) : (opnd tm x k).pure := by
  unfold opnd; split
  · exact h _
  · exact h _
  · exact h _
theorem opnds_pure {tm : Tm} {l : List Operand} {k : List PV → A} (h : ∀ v, (k v).pure) : (opnds tm l k).pure := by
  induction l generalizing k with
  | nil => exact h _
  | cons x l ih => exact opnd_pure fun v => ih fun vs => h _
theorem opnd_shp {tm : Tm} {x : Operand} {k : PV → A} (h : ∀ v, (k v).shp) : (opnd tm x k).shp := by
  unfold opnd; split
  · rename_i g g' v _
    exact fun fb ow H v' H1 hk => ⟨(h v fb ow H v' H1 hk.2).1, fun H' hs => ⟨hk.1, (h v fb ow H v' H1 hk.2).2 H' hs⟩⟩
  · rename_i g v _ _
    exact fun fb ow H v' H1 hk => ⟨(h v fb ow H v' H1 hk.2).1, fun H' hs => ⟨hk.1, (h v fb ow H v' H1 hk.2).2 H' hs⟩⟩
  · exact h _

theorem binA_pure (op : BinOp) (x y : PV) : (binA op x y).pure := by
  unfold binA
  split <;> (try split) <;> simp [A.pure]
theorem unA_pure (op : UnOp) (x : PV) : (unA op x).pure := by
  unfold unA
  repeat' split
  all_goals first | trivial | simp [A.pure]
theorem pickA_pure (c x y : PV) : (pickA c x y).pure := by
  unfold pickA pickA0
  repeat' split
  all_goals simp [A.pure]
theorem extractA_pure (i : Nat) (x : PV) : (extractA i x).pure := by
  unfold extractA
  split <;> simp [A.pure]

theorem rd_shp {r : RId} {k : Option Root → A} (h : ∀ o, (k o).shp) (hk : ∀ fb ow (a b : Root), a.ver = b.ver → (∀ p, shapeOf (getAt a.node p) = shapeOf (getAt b.node p)) → ∀ H v H1, (k (some a)).ok fb ow H v H1 → (k (some b)).ok fb ow H v H1) : (A.rd r k).shp := by
  intro fb ow H v H1 ⟨h1, h2⟩
  obtain ⟨h3, h4⟩ := h _ fb ow H v H1 h2
  refine ⟨h3, fun H' hs => ⟨h1, ?_⟩⟩
  have h5 := h4 H' hs
  have h6 := hs r
  cases ha : H r with
  | none =>
    cases hb : H' r with
    | none => rw [ha] at h5; exact h5
    | some b => simp [ha, hb] at h6
  | some a =>
    cases hb : H' r with
    | none => simp [ha, hb] at h6
    | some b =>
      simp only [ha, hb] at h6
      rw [ha] at h5
      exact hk fb ow a b h6.1 h6.2 _ _ _ h5

theorem indexAddrA_shp (P : Program) (t : TypeId) (x y : PV) : (indexAddrA P t x y).shp := by
  unfold indexAddrA
  split
  · split
    · exact A.pure.shp (by simp [A.pure])
    · exact A.pure.shp (by simp [A.pure])
  · split
    · refine rd_shp (fun o => ?_) (fun fb ow a b h1 h2 H v H1 h => ?_)
      · cases o <;> exact A.pure.shp (by simp [A.pure])
      · simp only [A.ok] at h ⊢; rw [← h1]; exact h
    · exact A.pure.shp (by simp [A.pure])
  · split
    · exact A.pure.shp (by simp [A.pure])
    · exact A.pure.shp (by simp [A.pure])
  · split
    · refine rd_shp (fun o => ?_) (fun fb ow a b h1 h2 H v H1 h => ?_)
      · cases o
        · exact A.pure.shp (by simp [A.pure])
        · refine A.pure.shp ?_
          simp only [A.pure]
          split <;> simp [A.pure]
      · simp only [A.ok] at h ⊢; rw [← h1, ← h2]; exact h
    · exact A.pure.shp (by simp [A.pure])
  · exact A.pure.shp (by simp [A.pure])

theorem fieldAddrA_shp (P : Program) (t : TypeId) (f : Nat) (x : PV) : (fieldAddrA P t f x).shp := by
  unfold fieldAddrA
  split
  · split
    · exact A.pure.shp (by simp [A.pure])
    · exact A.pure.shp (by simp [A.pure])
  · split
    · refine rd_shp (fun o => ?_) (fun fb ow a b h1 h2 H v H1 h => ?_)
      · cases o
        · exact A.pure.shp (by simp [A.pure])
        · refine A.pure.shp ?_
          simp only [A.pure]
          split <;> simp [A.pure]
      · simp only [A.ok] at h ⊢; rw [← h1, ← h2]; exact h
    · exact A.pure.shp (by simp [A.pure])
  · exact A.pure.shp (by simp [A.pure])

theorem nilCheckA_shp (x : PV) : (nilCheckA x).shp := by
  unfold nilCheckA
  split
  · exact A.pure.shp (by simp [A.pure])
  · refine rd_shp (fun o => ?_) (fun fb ow a b h1 h2 H v H1 h => ?_)
    · cases o <;> exact A.pure.shp (by simp [A.pure])
    · simp only [A.ok] at h ⊢; rw [← h1]; exact h
  · exact A.pure.shp (by simp [A.pure])
  · exact A.pure.shp (by simp [A.pure])
  · exact A.pure.shp (by simp [A.pure])

theorem opndO_shp {tm : Tm} {x : Option Operand} {k : Option PV → A} (h : ∀ v, (k v).shp) : (opndO tm x k).shp := by
  cases x with
  | none => exact h none
  | some x => exact opnd_shp fun v => h _

theorem sliceA0_shp (P : Program) (t : TypeId) (x : PV) (l h m : Option PV) : (sliceA0 P t x l h m).shp := by
  unfold sliceA0
  split
  · split
    · exact A.pure.shp (by cases m <;> simp [A.pure])
    · exact A.pure.shp (by simp [A.pure])
  · split
    · exact A.pure.shp (by cases m <;> cases h <;> simp [A.pure])
    · exact A.pure.shp (by simp [A.pure])
  · split
    · exact A.pure.shp (by simp [A.pure])
    · exact A.pure.shp (by simp [A.pure])
  · split
    · refine rd_shp (fun o => ?_) (fun fb ow a b h1 h2 H v H1 h => ?_)
      · cases o
        · exact A.pure.shp (by simp [A.pure])
        · refine A.pure.shp ?_
          simp only [A.pure]
          split
          · split
            · split
              · simp [A.pure]
              · simp [A.pure]
            · simp [A.pure]
          · simp [A.pure]
      · simp only [A.ok] at h ⊢; rw [← h1, ← h2]; exact h
    · exact A.pure.shp (by simp [A.pure])
  · exact A.pure.shp (by simp [A.pure])

theorem sliceA_shp (P : Program) (t : TypeId) (x : PV) (l h m : Option PV) : (sliceA P t x l h m).shp :=
  fun fb ow H v H1 hk => ⟨(sliceA0_shp P t x l h m fb ow H v H1 hk.2).1, fun H' hs => ⟨hk.1, (sliceA0_shp P t x l h m fb ow H v H1 hk.2).2 H' hs⟩⟩

theorem eqFin_pure (op : BinOp) (b : Bool) : (eqFin op b).pure := by
  unfold eqFin; split <;> trivial
theorem any_shp {k : Bool → A} : (A.any k).shp := fun _ _ _ _ _ h => h.elim
theorem nilE_shp (op : BinOp) (p : Prop) [Decidable p] : (nilE op p).shp := by
  intro fb ow H v H1 h
  unfold nilE at h ⊢
  simp only [A.ok] at h ⊢
  by_cases hp : p
  · simp only [hp, decide_true] at h ⊢
    exact ((eqFin_pure op false).shp) fb ow H v H1 h
  · simp only [hp, decide_false] at h
    exact h.elim
theorem eqA_shp (P : Program) (t : TypeId) (op : BinOp) (x y : PV) : (eqA P t op x y).shp := by
  unfold eqA
  split
  · exact (eqFin_pure _ _).shp
  · exact (eqFin_pure _ _).shp
  · exact nilE_shp _ _
  · exact nilE_shp _ _
  · refine rd_shp (fun o => ?_) (fun fb ow a b h1 h2 H v H1 h => ?_)
    · cases o with
      | none => exact A.pure.shp trivial
      | some rt =>
        exact fun fb ow H v H1 h => ⟨(nilE_shp _ _ fb ow H v H1 h.2).1, fun H' hs => ⟨h.1, (nilE_shp _ _ fb ow H v H1 h.2).2 H' hs⟩⟩
    · simp only [A.ok] at h ⊢; rw [← h1]; exact h
  · exact (eqFin_pure _ _).shp
  · exact (eqFin_pure _ _).shp
  · refine rd_shp (fun o => ?_) (fun fb ow a b h1 h2 H v H1 h => ?_)
    · cases o with
      | none => exact A.pure.shp trivial
      | some rt => exact A.pure.shp (eqFin_pure _ _)
    · simp only [A.ok] at h ⊢; rw [← h1]; exact h
  · exact (eqFin_pure _ _).shp
  · exact (eqFin_pure _ _).shp
  · exact A.pure.shp trivial
theorem binT_shp (P : Program) (t : TypeId) (op : BinOp) (x y : PV) : (binT P t op x y).shp := by
  unfold binT
  split
  · unfold eqT
    split
    · exact (binA_pure _ _ _).shp
    · exact (binA_pure _ _ _).shp
    · split
      · split
        · exact (eqFin_pure _ _).shp
        · exact A.pure.shp trivial
      · exact A.pure.shp trivial
    · exact eqA_shp _ _ _ _ _
  · exact (binA_pure _ _ _).shp
theorem binT_pure {P : Program} {t : TypeId} {op : BinOp} (h : isEq op = false) (x y : PV) : (binT P t op x y).pure := by
  unfold binT
  rw [h]
  exact binA_pure _ _ _

theorem convA_pure (P : Program) (s d : TypeId) (x : PV) : (convA P s d x).pure := by
  unfold convA; split <;> trivial

theorem fieldA_pure (P : Program) (t : TypeId) (f : Nat) (x : PV) : (fieldA P t f x).pure := by
  unfold fieldA
  split
  · simp only [A.pure]; split <;> trivial
  · trivial
theorem indexA_pure (P : Program) (t : TypeId) (x y : PV) : (indexA P t x y).pure := by
  unfold indexA
  split
  · split
    · simp only [A.pure]; split <;> trivial
    · trivial
  · split
    · split
      · split <;> trivial
      · trivial
    · trivial
  · trivial

theorem kind0 {P lv ver tm} {o : Oper} (h : kindOf o.op = 0) : (opA P lv ver tm o).pure := by
  unfold opA opB
  split <;> rename_i ho <;> first
    | (rw [ho] at h; simp only [kindOf] at h; split at h <;> cases h; done)
    | (rw [ho] at h; simp [kindOf] at h; done)
    | exact trivial
    | exact opnd_pure fun _ => pickA_pure _ _ _
    | exact opnd_pure fun _ => opnd_pure fun _ => binT_pure (by rw [ho] at h; simp only [kindOf] at h; split at h <;> simp_all) _ _
    | exact opnd_pure fun _ => unA_pure _ _
    | exact opnds_pure fun _ => opnds_pure fun _ => trivial
    | exact opnd_pure fun _ => extractA_pure _ _
    | exact opnd_pure fun _ => convA_pure _ _ _ _
    | exact opnd_pure fun _ => fieldA_pure _ _ _ _
    | exact opnd_pure fun _ => opnd_pure fun _ => indexA_pure _ _ _ _
    | skip

theorem kind1 {P lv ver tm} {o : Oper} (h : kindOf o.op = 1) : (opA P lv ver tm o).shp := by
  unfold opA opB
  split <;> rename_i ho <;> first
    | (rw [ho] at h; simp only [kindOf] at h; split at h <;> cases h; done)
    | (rw [ho] at h; simp [kindOf] at h; done)
    | exact opnd_shp fun _ => opnd_shp fun _ => indexAddrA_shp _ _ _ _
    | exact opnd_shp fun _ => fieldAddrA_shp _ _ _ _
    | exact opnd_shp fun _ => nilCheckA_shp _
    | exact opnd_shp fun _ => opnd_shp fun _ => binT_shp _ _ _ _ _
    | exact opnd_shp fun _ => opndO_shp fun _ => opndO_shp fun _ => opndO_shp fun _ => sliceA_shp _ _ _ _ _ _
    | exact A.pure.shp trivial

theorem leaf_getAt {v : PV} (h : shapeOf v = none) (q : Path) : shapeOf (getAt v q) = none := by
  cases q with
  | nil => cases v <;> simpa [getAt] using h
  | cons x q => cases v <;> simp_all [getAt, shapeOf]

theorem updAt_shape (g : PV → PV) (v : PV) (p : Path) (hg : ∀ q, shapeOf (getAt (g (getAt v p)) q) = shapeOf (getAt (getAt v p) q)) : ∀ q, shapeOf (getAt (updAt g v p) q) = shapeOf (getAt v q) := by
  induction p generalizing v with
  | nil =>
    have e : getAt v [] = v := by cases v <;> rfl
    have e2 : updAt g v [] = g v := by cases v <;> rfl
    rw [e] at hg
    rw [e2]
    exact hg
  | cons x p ih =>
    obtain ⟨i, o⟩ := x
    cases v with
    | own sz n f =>
      intro q
      cases q with
      | nil => simp [updAt, getAt, shapeOf]
      | cons y q =>
        obtain ⟨a, b⟩ := y
        simp only [updAt, getAt]
        split
        · rename_i e; obtain ⟨rfl, rfl⟩ := e; exact ih (f a b) hg q
        · rfl
    | _ => intro q; simp [updAt]

theorem setCells_shape {v : PV} {i o : Nat} {l : List PV} (hv : (∃ sz c, v = .obox sz c) ∨ ∃ sz n f, v = .own sz n f ∧ (∀ j, j < l.length → shapeOf (f i (o + j)) = none)) (hl : ∀ c ∈ l, shapeOf c = none) :
    ∀ q, shapeOf (getAt (setCells i o l v) q) = shapeOf (getAt v q) := by
  rcases hv with ⟨sz, c, rfl⟩ | ⟨sz, n, f, rfl, hf⟩
  · intro q; cases q <;> simp [setCells, getAt, shapeOf]
  · intro q
    cases q with
    | nil => simp [setCells, getAt, shapeOf]
    | cons y q =>
      obtain ⟨a, b⟩ := y
      simp only [setCells, getAt]
      split
      · rename_i e
        obtain ⟨rfl, h1, h2⟩ := e
        have h3 := hf (b - o) (by omega)
        rw [show o + (b - o) = b by omega] at h3
        rw [leaf_getAt h3 q]
        refine leaf_getAt (hl _ ?_) q
        simp [List.getD_eq_getElem?_getD, show b - o < l.length by omega, List.getElem_mem]
      · rfl

theorem isCell_leaf {v : PV} (h : isCell v = true) : shapeOf v = none := by cases v <;> simp_all [isCell, shapeOf]

theorem shp_write {H : Roots} {r : RId} {rt : Root} (hH : H r = some rt) {node : PV} (h : ∀ q, shapeOf (getAt node q) = shapeOf (getAt rt.node q)) : Shp H (fun j => if j = r then some ⟨rt.ver, node⟩ else H j) := by
  intro j
  by_cases e : j = r
  · subst e; rw [hH]; simp only [if_true]; exact ⟨trivial, fun p => (h p).symm⟩
  · simp only [e, if_false]; cases H j <;> simp

theorem standA_mild {l : List PV} {k : A} (h : k.mild) : (standA l k).mild := by
  induction l with
  | nil => exact h
  | cons x l ih =>
    unfold standA
    split <;> first | exact ih | skip
    all_goals
      intro fb ow H v H1 ⟨h1, h2⟩
      cases hH : H _ with
      | none => rw [hH] at h2; exact h2.elim
      | some rt => rw [hH] at h2; exact ih _ _ _ _ _ h2.2

theorem storeA_mild (P : Program) (t : TypeId) (x y : PV) : (storeA P t x y).mild := by
  unfold storeA
  split
  · rename_i x0 r ver p i o
    split
    · rename_i l hl
      intro fb ow H v H1 ⟨h1, h2⟩
      have hleaf : ∀ c ∈ l, shapeOf c = none := fun c hc => isCell_leaf (List.all_eq_true.1 h1.1 c hc)
      refine standA_mild (k := _) (fun fb ow H v H1 h2 => ?_) fb ow H v H1 h2
      obtain ⟨_, h2⟩ := h2
      cases hH : H r with
      | none => rw [hH] at h2; exact h2.elim
      | some rt =>
        rw [hH] at h2
        obtain ⟨_, h2⟩ := h2
        split at h2
        · rename_i sz c hg
          obtain ⟨_, _, rfl, rfl⟩ := h2
          exact shp_write hH (updAt_shape _ _ _ (setCells_shape (.inl ⟨sz, c, hg⟩) hleaf))
        · rename_i sz n f hg
          obtain ⟨h3, _, rfl, rfl⟩ := h2
          exact shp_write hH (updAt_shape _ _ _ (setCells_shape (.inr ⟨sz, n, f, hg, h3.2⟩) hleaf))
        · exact h2.elim
    · exact fun fb ow H v H1 h => h.elim
  · exact fun fb ow H v H1 h => h.elim

theorem opnd_mild {tm : Tm} {x : Operand} {k : PV → A} (h : ∀ v, (k v).mild) : (opnd tm x k).mild := by
  unfold opnd; split
  · rename_i g g' v _
    exact fun fb ow H v' H1 hk => h v fb ow H v' H1 hk.2
  · rename_i g v _ _
    exact fun fb ow H v' H1 hk => h v fb ow H v' H1 hk.2
  · exact h _

theorem kind3 {P lv ver tm} {o : Oper} (h : kindOf o.op = 3) : (opA P lv ver tm o).mild := by
  unfold opA opB
  split <;> rename_i ho <;> first
    | (rw [ho] at h; simp only [kindOf] at h; split at h <;> cases h; done)
    | (rw [ho] at h; simp [kindOf] at h; done)
    | exact opnd_mild fun _ => opnd_mild fun _ => storeA_mild _ _ _ _
    | exact fun fb ow H v H1 h => h.elim
end Go.Ab
/- Steps of a drawn region, and their changes of order. -/
namespace Go.Ab
open Classical

def calleeO (tm : Tm) : Op → Option (FuncId × List PV)
  | .call { callee := .value f, args, .. } => match ev tm f with
    | .func (.func g) first caps => (callee.vals tm args.toList).map fun as => (g, first ++ as ++ caps)
    | _ => none
  | _ => none

theorem callee_iff {tm : Tm} {o : Op} {k : FuncId → List PV → Prop} : callee tm o k ↔ ∃ f as, calleeO tm o = some (f, as) ∧ k f as := by
  unfold callee calleeO
  split
  · split
    · rename_i f args _ _ g first caps he
      cases hv : callee.vals tm args.toList with
      | none => simp [he, hv]
      | some as =>
        simp only [he, hv, Option.map_some, Option.some.injEq, Prod.mk.injEq]
        exact ⟨fun h => ⟨_, _, ⟨rfl, rfl⟩, h⟩, fun ⟨_, _, ⟨h1, h2⟩, h⟩ => by subst h1 h2; exact h⟩
    · simp
  · simp

/-- Quiet calls. -/
inductive QCall (P : Program) (id : RId) (ver : Nat) (fb : RId → Prop) (f : FuncId) (args : List PV) (H : Roots) : PV → Roots → Prop
  | frozen (res : PV) (h : CallsF P f args res) (hpl : ∀ c ∈ args, plainArgL c) : QCall P id ver fb f args H res H
  | plain (res : PV) (hp : Hp) (hH : lkH hp = H) (hfb : ∀ r, ¬ fb r) (h : CallsF P f (args.map (view 9 hp)) res) (hr : leafyL res) : QCall P id ver fb f args H res H
  | own (node : PV) (res : RId → Nat → PV) (h : CallsO P f args node res) (hpl : ∀ c ∈ args, plainArgL c) : QCall P id ver fb f args H (res id ver) (fun j => if j = id then some ⟨ver, node⟩ else H j)
  | ownPlain (sz n : Nat) (g : Nat → Nat → PV) (res : RId → Nat → PV) (hp : Hp) (hH : lkH hp = H) (hfb : ∀ r, ¬ fb r) (h : CallsO P f (args.map (view 9 hp)) (.own sz n g) res) (hr : leafyL (res id ver)) (hg : ∀ i o, i < n → leafy (g i o)) :
      QCall P id ver fb f args H (res id ver) (fun j => if j = id then some ⟨ver, .own sz n g⟩ else H j)

/-- An operation, its test passed. -/
def StepT (P : Program) (lv ver : Nat) (fb ow : RId → Prop) (tm : Tm) (o : Oper) (H : Roots) (v : PV) (H' : Roots) : Prop :=
  if isCall o.op then ow (lv, o.dst.getD 0) ∧ ∃ f as, calleeO tm o.op = some (f, as) ∧ QCall P (lv, o.dst.getD 0) ver fb f as H v H' else (opA P lv ver tm o).ok fb ow H v H'

def fbOf (lv : Nat) (l : List Nat) : RId → Prop := fun r => r ∈ l.map fun d => (lv, d)
/-- For an operation: roots that it may not look at; whether it may write any; roots that it may write beside one that it makes. -/
abbrev Fl := List Nat × (Bool × List Nat)
def wrOf (fl : Fl) (o : Oper) : List Nat := match makes o.op with
  | true => o.dst.getD 0 :: fl.2.2
  | false => fl.2.2
/-- A store that may write anywhere: of which no one says where. -/
def kind3w (ws : List Nat) (o : Op) : Bool := match ws with
  | [] => Nat.beq (kindOf o) 3
  | _ :: _ => false
def owOf (lv : Nat) (fl : Fl) (o : Oper) : RId → Prop := fun r => fl.2.1 = true ∨ kind3w fl.2.2 o.op = true ∨ r ∈ (wrOf fl o).map fun d => (lv, d)

/-- With its test: `chg`: it makes or changes memory; `gd`: it has a test. -/
def StepC (P : Program) (lv ver : Nat) (fl : Fl) (tm : Tm) (o : Oper) (H : Roots) (u : PV) (H' : Roots) (c gd : Bool) : Bool → Prop
  | true => (c = true → StepT P lv ver (fbOf lv fl.1) (owOf lv fl o) tm o H u H') ∧ (c = false → u = .undef ∧ H' = H)
  | false => ∃ v, (c = true → StepT P lv ver (fbOf lv fl.1) (owOf lv fl o) tm o H v H') ∧ (c = false → H' = H) ∧ u = (if gd then .whn c v else v)

def Step (P : Program) (lv : Nat) (all : List Oper) (ver : Nat) (fl : Fl) (tm : Tm) (o : Oper) (H : Roots) (u : PV) (H' : Roots) : Prop :=
  ∃ c, guardC all tm o.guard = some c ∧ StepC P lv ver fl tm o H u H' c o.guard.isSome (changes o.op)

def usesT (all : List Oper) (o : Oper) : List Nat := (o.op.operands.toList.filterMap fun | .tmp t => some t | _ => none) ++
  (match o.guard with | some (j, _) => (match (all[j]?).bind (·.dst) with | some d => [d] | none => []) | none => [])

def agT (l : List Nat) (tm tm' : Tm) : Prop := ∀ t ∈ l, lk tm t = lk tm' t

theorem ev_ag {tm tm' : Tm} {x : Operand} (h : ∀ t, x = .tmp t → lk tm t = lk tm' t) : ev tm x = ev tm' x := by
  unfold ev
  cases x <;> first | rfl | exact h _ rfl

theorem ag_ops {all : List Oper} {o : Oper} {tm tm' : Tm} (h : agT (usesT all o) tm tm') : ∀ x ∈ o.op.operands, ev tm x = ev tm' x := fun x hx => ev_ag fun t ht => h t (by
  subst ht
  exact List.mem_append_left _ (List.mem_filterMap.2 ⟨.tmp t, by simpa using hx, rfl⟩))

theorem guardC_ag {all : List Oper} {o : Oper} {tm tm' : Tm} (h : agT (usesT all o) tm tm') : guardC all tm o.guard = guardC all tm' o.guard := by
  unfold guardC
  split
  · rfl
  · rename_i j want hg
    split
    · rename_i d hd
      rw [h d (List.mem_append_right _ (by simp [hg, hd]))]
    · rfl

theorem opnd_ag {tm tm' : Tm} {x : Operand} {k k' : PV → A} (h : ev tm x = ev tm' x) (hk : k = k') : opnd tm x k = opnd tm' x k' := by
  unfold opnd; rw [h, hk]
theorem opnds_ag {tm tm' : Tm} {l : List Operand} {k k' : List PV → A} (h : ∀ x ∈ l, ev tm x = ev tm' x) (hk : k = k') : opnds tm l k = opnds tm' l k' := by
  subst hk
  induction l generalizing k with
  | nil => rfl
  | cons x l ih => exact opnd_ag (h x (by simp)) (funext fun v => ih (fun y hy => h y (by simp [hy])))
theorem parts_ag {tm tm' : Tm} {l : List (Nat × Operand)} {k : List (Nat × PV) → A} (h : ∀ x ∈ l, ev tm x.2 = ev tm' x.2) : parts tm l k = parts tm' l k := by
  induction l generalizing k with
  | nil => rfl
  | cons x l ih => exact opnd_ag (h x (by simp)) (funext fun v => ih (fun y hy => h y (by simp [hy])))
theorem vals_ag {tm tm' : Tm} {l : List Operand} (h : ∀ x ∈ l, ev tm x = ev tm' x) : callee.vals tm l = callee.vals tm' l := by
  induction l with
  | nil => rfl
  | cons x l ih => simp only [callee.vals, h x (by simp), ih (fun y hy => h y (by simp [hy]))]

theorem opA_ag {P lv ver} {o : Oper} {tm tm' : Tm} (h : ∀ x ∈ o.op.operands, ev tm x = ev tm' x) : opA P lv ver tm o = opA P lv ver tm' o := by
  obtain ⟨dst, op, ty, pos, af, gd⟩ := o
  cases op
  case move x => simp only [opA, opB]; rw [h x (by simp [Op.operands])]
  case assign x => simp only [opA, opB]; rw [h x (by simp [Op.operands])]
  case pick c a b => simp only [opA, opB, opnd]; rw [h c (by simp [Op.operands]), h a (by simp [Op.operands]), h b (by simp [Op.operands])]
  case box t x => simp only [opA, opB, opnd]; rw [h x (by simp [Op.operands])]
  case build t ps => exact parts_ag fun x hx => h _ (by simp [Op.operands]; exact ⟨x.1, by simpa using hx⟩)
  case buildSlice t n ps => exact parts_ag fun x hx => h _ (by simp [Op.operands]; exact ⟨x.1, by simpa using hx⟩)
  case load t x => simp only [opA, opB, opnd]; rw [h x (by simp [Op.operands])]
  case store t x y => simp only [opA, opB, opnd]; rw [h x (by simp [Op.operands]), h y (by simp [Op.operands])]
  case nilCheck x => simp only [opA, opB, opnd]; rw [h x (by simp [Op.operands])]
  case binOp op t x y t' => simp only [opA, opB, opnd]; rw [h x (by simp [Op.operands]), h y (by simp [Op.operands])]
  case unOp op t x => simp only [opA, opB, opnd]; rw [h x (by simp [Op.operands])]
  case makeFunc fn first captured =>
    exact opnds_ag (fun x hx => h _ (by simp [Op.operands]; exact .inl (by simpa using hx))) (funext fun v => opnds_ag (fun x hx => h _ (by simp [Op.operands]; exact .inr (by simpa using hx))) rfl)
  case makeSlice t x y => simp only [opA, opB, opnd]; rw [h x (by simp [Op.operands]), h y (by simp [Op.operands])]
  case fieldAddr t x f => simp only [opA, opB, opnd]; rw [h x (by simp [Op.operands])]
  case indexAddr t x y => simp only [opA, opB, opnd]; rw [h x (by simp [Op.operands]), h y (by simp [Op.operands])]
  case extract x i => simp only [opA, opB, opnd]; rw [h x (by simp [Op.operands])]
  case convert s d x => simp only [opA, opB, opnd]; rw [h x (by simp [Op.operands])]
  case field t x f => simp only [opA, opB, opnd]; rw [h x (by simp [Op.operands])]
  case index t x y => simp only [opA, opB, opnd]; rw [h x (by simp [Op.operands]), h y (by simp [Op.operands])]
  case slice t x lo hi mx =>
    have hO : ∀ (y : Option Operand) (k k' : Option PV → A), (∀ z, y = some z → ev tm z = ev tm' z) → k = k' → opndO tm y k = opndO tm' y k' := by
      rintro y k _ hy rfl
      cases y with
      | none => rfl
      | some z => exact opnd_ag (hy z rfl) rfl
    exact opnd_ag (h x (by simp [Op.operands])) (funext fun v => hO lo _ _ (fun z hz => h z (by simp [Op.operands, hz])) (funext fun l => hO hi _ _ (fun z hz => h z (by simp [Op.operands, hz])) (funext fun hh => hO mx _ _ (fun z hz => h z (by simp [Op.operands, hz])) rfl)))
  case lookup t x y ok => simp only [opA, opB, opnd]; rw [h x (by simp [Op.operands]), h y (by simp [Op.operands])]
  case mapUpdate t m k x => simp only [opA, opB, opnd]; rw [h m (by simp [Op.operands]), h k (by simp [Op.operands]), h x (by simp [Op.operands])]
  case range t x => simp only [opA, opB, opnd]; rw [h x (by simp [Op.operands])]
  case next x str => simp only [opA, opB, opnd]; rw [h x (by simp [Op.operands])]
  case entry x => simp only [opA, opB, opnd]; rw [h x (by simp [Op.operands])]
  case makeMap t r =>
    cases r with
    | none => rfl
    | some z => exact opnd_ag (h z (by simp [Op.operands])) rfl
  case call c =>
    obtain ⟨cal, args, at_⟩ := c
    cases cal
    case builtin b =>
      have hx : ∀ x ∈ args.toList, ev tm x = ev tm' x := fun x hx => h x (by simp [Op.operands, Call.operands]; simpa using hx)
      simp only [opA, opB]
      generalize args.toList = l at hx
      generalize at_.toList = l'
      unfold builtinA
      split
      · rename_i x t; exact opnd_ag (hx x (by simp)) rfl
      · rename_i x t; exact opnd_ag (hx x (by simp)) rfl
      · rename_i x y t t'
        simp only [opnd]
        rw [hx x (by simp), hx y (by simp)]
      · rename_i x y
        simp only [opnd]
        rw [hx x (by simp), hx y (by simp)]
      · rename_i x y
        simp only [opnd]
        rw [hx x (by simp), hx y (by simp)]
      · rename_i x t; exact opnd_ag (hx x (by simp)) rfl
      · rename_i x y t t'
        simp only [opnd]
        rw [hx x (by simp), hx y (by simp)]
      · rfl
    all_goals rfl
  all_goals rfl

theorem calleeO_ag {o : Op} {tm tm' : Tm} (h : ∀ x ∈ o.operands, ev tm x = ev tm' x) : calleeO tm o = calleeO tm' o := by
  unfold calleeO
  split
  · rename_i f args _
    simp only [Op.operands, Call.operands] at h
    rw [h f (by simp), vals_ag (l := args.toList) (tm' := tm') (fun x hx => h x (by simp at hx ⊢; exact .inr hx))]
  · rfl

theorem StepT.ag {P lv ver fb ow} {o : Oper} {tm tm' : Tm} (h : ∀ x ∈ o.op.operands, ev tm x = ev tm' x) {H H' : Roots} {u : PV} (hs : StepT P lv ver fb ow tm o H u H') : StepT P lv ver fb ow tm' o H u H' := by
  unfold StepT at *
  rw [← opA_ag h, ← calleeO_ag h]
  exact hs

theorem StepC.imp {P lv ver fl} {tm tm' : Tm} {o : Oper} {H H' H1 H1' : Roots} {u : PV} {c gd chg : Bool} (h : StepC P lv ver fl tm o H u H' c gd chg)
    (ht : ∀ v, StepT P lv ver (fbOf lv fl.1) (owOf lv fl o) tm o H v H' → StepT P lv ver (fbOf lv fl.1) (owOf lv fl o) tm' o H1 v H1') (he : c = false → H' = H → H1' = H1) : StepC P lv ver fl tm' o H1 u H1' c gd chg := by
  cases chg with
  | true => exact ⟨fun e => ht _ (h.1 e), fun e => ⟨(h.2 e).1, he e (h.2 e).2⟩⟩
  | false => obtain ⟨v, h1, h2, h3⟩ := h; exact ⟨v, fun e => ht _ (h1 e), fun e => he e (h2 e), h3⟩

theorem Step.ag {P lv all ver fl} {o : Oper} {tm tm' : Tm} (h : agT (usesT all o) tm tm') {H H' : Roots} {u : PV} (hs : Step P lv all ver fl tm o H u H') : Step P lv all ver fl tm' o H u H' := by
  obtain ⟨c, h1, h2⟩ := hs
  exact ⟨c, (guardC_ag h).symm.trans h1, h2.imp (fun v hv => hv.ag (ag_ops h)) fun _ e => e⟩

/-! ### Frames -/
theorem view_congr {hp hp' : Hp} (h : lkH hp = lkH hp') (k : Nat) (x : PV) : view k hp x = view k hp' x := by
  induction k generalizing x with
  | zero => rfl
  | succ k ih =>
    have e : view k hp = view k hp' := funext ih
    unfold view
    rw [h, e]

theorem StepT.frame {P lv ver} {fb ow : RId → Prop} {tm : Tm} {o : Oper} {H H1 : Roots} {v : PV} (h : StepT P lv ver fb ow tm o H v H1) {H' : Roots} (hp' : ∃ hp, lkH hp = H') (hag : ∀ r, ¬ fb r → H r = H' r) :
    ∃ H1', StepT P lv ver fb ow tm o H' v H1' ∧ Chg ow H H1 H' H1' := by
  unfold StepT at *
  split
  · rename_i hc
    rw [if_pos hc] at h
    obtain ⟨how, f, as, h1, h2⟩ := h
    have new : ∀ node, Chg ow H (fun j => if j = (lv, o.dst.getD 0) then some ⟨ver, node⟩ else H j) H' (fun j => if j = (lv, o.dst.getD 0) then some ⟨ver, node⟩ else H' j) := by
      refine fun node => ⟨fun r hr => ?_, fun r hr => ?_⟩
      · have : r ≠ (lv, o.dst.getD 0) := fun e => hr (e ▸ how)
        simp [this]
      · by_cases e : r = (lv, o.dst.getD 0)
        · simp [e]
        · simp [e]
    have same : Chg ow H H H' H' := ⟨fun _ _ => ⟨rfl, rfl⟩, fun _ _ => .inl ⟨rfl, rfl⟩⟩
    cases h2 with
    | frozen _ h hpl => exact ⟨H', ⟨how, f, as, h1, .frozen _ h hpl⟩, same⟩
    | plain _ hp hH hfb h hr =>
      have e : H = H' := funext fun r => hag r (hfb r)
      exact ⟨H', ⟨how, f, as, h1, .plain _ hp (hH.trans e) hfb h hr⟩, same⟩
    | own node res h hpl => exact ⟨_, ⟨how, f, as, h1, .own node res h hpl⟩, new _⟩
    | ownPlain sz n g res hp hH hfb h hr hg =>
      have e : H = H' := funext fun r => hag r (hfb r)
      exact ⟨_, ⟨how, f, as, h1, .ownPlain sz n g res hp (hH.trans e) hfb h hr hg⟩, new _⟩
  · rename_i hc
    rw [if_neg hc] at h
    exact A.ok_frame h hag

theorem Step.frame {P lv all ver fl} {tm : Tm} {o : Oper} {H H1 : Roots} {u : PV} (h : Step P lv all ver fl tm o H u H1) {H' : Roots} (hp' : ∃ hp, lkH hp = H') (hag : ∀ r, ¬ fbOf lv fl.1 r → H r = H' r) :
    ∃ H1', Step P lv all ver fl tm o H' u H1' ∧ Chg (owOf lv fl o) H H1 H' H1' := by
  have same : Chg (owOf lv fl o) H H H' H' := ⟨fun _ _ => ⟨rfl, rfl⟩, fun _ _ => .inl ⟨rfl, rfl⟩⟩
  obtain ⟨c, hg, h⟩ := h
  suffices ∃ H1', StepC P lv ver fl tm o H' u H1' c o.guard.isSome (changes o.op) ∧ Chg (owOf lv fl o) H H1 H' H1' by
    obtain ⟨H1', h1, h2⟩ := this
    exact ⟨H1', ⟨c, hg, h1⟩, h2⟩
  generalize changes o.op = chg at h ⊢
  cases chg with
  | true =>
    cases c with
    | true =>
      obtain ⟨H1', h1, h2⟩ := (h.1 rfl).frame hp' hag
      exact ⟨H1', ⟨fun _ => h1, (fun e => by cases e)⟩, h2⟩
    | false =>
      obtain ⟨rfl, rfl⟩ := h.2 rfl
      exact ⟨H', ⟨(fun e => by cases e), fun _ => ⟨rfl, rfl⟩⟩, same⟩
  | false =>
    obtain ⟨v, h1, h2, h3⟩ := h
    cases c with
    | true =>
      obtain ⟨H1', h1, h4⟩ := (h1 rfl).frame hp' hag
      exact ⟨H1', ⟨v, fun _ => h1, (fun e => by cases e), h3⟩, h4⟩
    | false =>
      obtain rfl := h2 rfl
      exact ⟨H', ⟨v, (fun e => by cases e), fun _ => rfl, h3⟩, same⟩

theorem kind_nocall {o : Op} (h : kindOf o ≠ 2) : isCall o = false := by
  unfold isCall
  split
  · simp [kindOf] at h
  · rfl

/-- A property of a step is that of the operation. -/
theorem Step.lift {P lv all ver fl} {tm : Tm} {o : Oper} {H H1 : Roots} {u : PV} (h : Step P lv all ver fl tm o H u H1) (hk : kindOf o.op ≠ 2) {R : Roots → Roots → Prop} (hrefl : R H H)
    (hR : ∀ v, (opA P lv ver tm o).ok (fbOf lv fl.1) (owOf lv fl o) H v H1 → R H H1) : R H H1 := by
  obtain ⟨c, hg, h⟩ := h
  have ht : ∀ v, StepT P lv ver (fbOf lv fl.1) (owOf lv fl o) tm o H v H1 → R H H1 := fun v hv => by
    unfold StepT at hv
    rw [if_neg (by simp [kind_nocall hk])] at hv
    exact hR _ hv
  generalize changes o.op = chg at h
  cases chg with
  | true =>
    cases c with
    | true => exact ht _ (h.1 rfl)
    | false => rw [(h.2 rfl).2]; exact hrefl
  | false =>
    obtain ⟨v, h1, h2, h3⟩ := h
    cases c with
    | true => exact ht _ (h1 rfl)
    | false => rw [h2 rfl]; exact hrefl

theorem Step.move {P lv all ver fl} {tm : Tm} {o : Oper} {H H' : Roots} {u : PV} (h : Step P lv all ver fl tm o H u H) (hk : kindOf o.op ≠ 2)
    (hR : ∀ v, (opA P lv ver tm o).ok (fbOf lv fl.1) (owOf lv fl o) H v H → (opA P lv ver tm o).ok (fbOf lv fl.1) (owOf lv fl o) H' v H') : Step P lv all ver fl tm o H' u H' := by
  obtain ⟨c, hg, h⟩ := h
  refine ⟨c, hg, h.imp (fun v hv => ?_) fun _ _ => rfl⟩
  unfold StepT at *
  rw [if_neg (by simp [kind_nocall hk])] at *
  exact hR _ hv

theorem Step.k0 {P lv all ver fl} {tm : Tm} {o : Oper} {H H1 : Roots} {u : PV} (h : Step P lv all ver fl tm o H u H1) (hk : kindOf o.op = 0) : H1 = H ∧ ∀ H', Step P lv all ver fl tm o H' u H' := by
  have e : H1 = H := h.lift (R := fun a b => b = a) (by omega) rfl (fun v hv => (A.ok_pure (kind0 hk) hv).1)
  subst e
  exact ⟨rfl, fun H' => h.move (by omega) fun v hv => (A.ok_pure (kind0 hk) hv).2 _ _ H'⟩

theorem Step.k1 {P lv all ver fl} {tm : Tm} {o : Oper} {H H1 : Roots} {u : PV} (h : Step P lv all ver fl tm o H u H1) (hk : kindOf o.op = 1) : H1 = H ∧ ∀ H', Shp H H' → Step P lv all ver fl tm o H' u H' := by
  have e : H1 = H := h.lift (R := fun a b => b = a) (by omega) rfl (fun v hv => (kind1 hk _ _ _ _ _ hv).1)
  subst e
  exact ⟨rfl, fun H' hs => h.move (by omega) fun v hv => (kind1 hk _ _ _ _ _ hv).2 H' hs⟩

theorem Step.k3 {P lv all ver fl} {tm : Tm} {o : Oper} {H H1 : Roots} {u : PV} (h : Step P lv all ver fl tm o H u H1) (hk : kindOf o.op = 3) : Shp H H1 :=
  h.lift (R := Shp) (by omega) (Shp.refl _) (fun v hv => kind3 hk _ _ _ _ _ hv)

def kindF (fl : Fl) (o : Oper) : Nat := if fl.2.1 then 4 else match kindOf o.op, fl.2.2 with
  | 3, _ :: _ => 2
  | k, _ => k

def makesOK (fi : Fl) (fx : Fl) (x : Oper) : Bool := (wrOf fx x).all fi.1.contains
def apartOK (fx : Fl) (x : Oper) (fi : Fl) (i : Oper) : Bool := (wrOf fx x).all fun d => !(wrOf fi i).contains d

/-- Two operations whose order is of no account. -/
def pairOK (all : List Oper) (x : Oper) (fx : Fl) (i : Oper) (fi : Fl) : Bool :=
  (match x.dst with | some d => !(usesT all i).contains d | none => true) && (match i.dst with | some d => !(usesT all x).contains d | none => true) &&
  (match x.dst, i.dst with | some d, some e => d != e | _, _ => true) &&
  (match kindF fx x, kindF fi i with
   | 0, _ => true
   | _, 0 => true
   | 1, 3 => true
   | 3, 1 => true
   | 1, 1 => makesOK fi fx x && makesOK fx fi i && apartOK fx x fi i
   | 1, 2 => makesOK fi fx x && makesOK fx fi i && apartOK fx x fi i
   | 2, 1 => makesOK fi fx x && makesOK fx fi i && apartOK fx x fi i
   | 2, 2 => makesOK fi fx x && makesOK fx fi i && apartOK fx x fi i
   | _, _ => false)

theorem lk_putT (tm : Tm) (d : Option Tmp) (u : PV) (t : Nat) : lk (putT tm d u) t = if d = some t then u else lk tm t := by
  cases d with
  | none => simp [putT]
  | some d =>
    by_cases h : t = d
    · subst h; simp [putT, lk]
    · simp [putT, lk, h]; intro e; exact absurd e.symm h

theorem swapH {P lv all vx vi fx fi} {tm : Tm} {x i : Oper} {H H1 H2 : Roots} {u w : PV} (hH : ∃ hp, lkH hp = H) (hpr : pairOK all x fx i fi = true) (h1 : Step P lv all vx fx tm x H u H1) (h2 : Step P lv all vi fi tm i H1 w H2)
    (hl1 : ∀ H', (∃ hp, lkH hp = H') → ∀ ver fl o v H1', Step P lv all ver fl tm o H' v H1' → ∃ hp, lkH hp = H1') :
    ∃ H1', Step P lv all vi fi tm i H w H1' ∧ Step P lv all vx fx tm x H1' u H2 := by
  simp only [pairOK, Bool.and_eq_true] at hpr
  obtain ⟨_, hpr⟩ := hpr
  have flag : ∀ {fl : Fl} {o : Oper} {k : Nat}, kindF fl o = k → k ≠ 4 → k ≠ 2 → fl.2.1 = false ∧ kindOf o.op = k := by
    intro fl o k h hk hk2
    unfold kindF at h
    cases hf : fl.2.1 <;> simp [hf] at h
    · refine ⟨rfl, ?_⟩
      split at h
      · exact absurd h.symm hk2
      · exact h
    · exact absurd h.symm hk
  have flag2 : ∀ {fl : Fl} {o : Oper} {k : Nat}, kindF fl o = k → (k = 1 ∨ k = 2) → fl.2.1 = false ∧ kind3w fl.2.2 o.op = false := by
    intro fl o k h hk
    unfold kindF at h
    cases hf : fl.2.1 <;> simp [hf] at h
    · refine ⟨rfl, ?_⟩
      cases hw : fl.2.2 with
      | cons d l => rfl
      | nil =>
        rw [hw] at h
        show Nat.beq (kindOf o.op) 3 = false
        cases hb : Nat.beq (kindOf o.op) 3 with
        | false => rfl
        | true =>
          have h3 := Nat.eq_of_beq_eq_true hb
          rw [h3] at h
          simp at h
          omega
    · omega
  have gen : fx.2.1 = false → fi.2.1 = false → kind3w fx.2.2 x.op = false → kind3w fi.2.2 i.op = false → (makesOK fi fx x && makesOK fx fi i && apartOK fx x fi i) = true →
      ∃ H1', Step P lv all vi fi tm i H w H1' ∧ Step P lv all vx fx tm x H1' u H2 := by
    intro e1 e2 e3 e4 hm
    simp only [Bool.and_eq_true, makesOK, apartOK, List.all_eq_true, Bool.not_eq_true', List.contains_eq_mem, decide_eq_true_eq, decide_eq_false_iff_not] at hm
    obtain ⟨⟨m1, m2⟩, m3⟩ := hm
    have owx : ∀ r, owOf lv fx x r → fbOf lv fi.1 r ∧ ¬ owOf lv fi i r := by
      intro r hr
      rcases hr with h | h | h
      · rw [e1] at h; cases h
      · rw [e3] at h; cases h
      · obtain ⟨d, hd, rfl⟩ := List.mem_map.1 h
        refine ⟨List.mem_map.2 ⟨d, m1 d hd, rfl⟩, fun hi => ?_⟩
        rcases hi with h' | h' | h'
        · rw [e2] at h'; cases h'
        · rw [e4] at h'; cases h'
        · obtain ⟨d', hd', e⟩ := List.mem_map.1 h'
          have e := (Prod.mk.inj e).2
          subst e
          exact m3 _ hd hd'
    have owi : ∀ r, owOf lv fi i r → fbOf lv fx.1 r ∧ ¬ owOf lv fx x r := by
      intro r hr
      refine ⟨?_, fun hx => (owx r hx).2 hr⟩
      rcases hr with h | h | h
      · rw [e2] at h; cases h
      · rw [e4] at h; cases h
      · obtain ⟨d, hd, rfl⟩ := List.mem_map.1 h
        exact List.mem_map.2 ⟨d, m2 d hd, rfl⟩
    have c0 := h1.frame (H' := H) hH (fun _ _ => rfl)
    obtain ⟨_, _, c0⟩ := c0
    have a1 : ∀ r, ¬ fbOf lv fi.1 r → H1 r = H r := fun r hr => (c0.1 r (fun ho => hr (owx r ho).1)).1
    obtain ⟨H1', s1, c1⟩ := h2.frame (H' := H) hH a1
    have a2 : ∀ r, ¬ fbOf lv fx.1 r → H r = H1' r := fun r hr => ((c1.1 r (fun ho => hr (owi r ho).1)).2).symm
    obtain ⟨H2', s2, c2⟩ := h1.frame (H' := H1') (hl1 H hH _ _ _ _ _ s1) a2
    refine ⟨H1', s1, ?_⟩
    have : H2' = H2 := funext fun r => by
      by_cases hx : owOf lv fx x r
      · have hi := (owx r hx).2
        obtain ⟨g1, g2⟩ := c1.1 r hi
        rcases c2.2 r hx with ⟨g3, g4⟩ | g3
        · rw [g4, g2, g1, g3]
        · rw [g1, ← g3]
      · obtain ⟨g1, g2⟩ := c2.1 r hx
        by_cases hi : owOf lv fi i r
        · rcases c1.2 r hi with ⟨g3, g4⟩ | g3
          · rw [g2, g4, g3, g1]
          · rw [g2, g3]
        · obtain ⟨g3, g4⟩ := c1.1 r hi
          rw [g2, g4, g3, g1]
    rw [← this]
    exact s2
  have ne3 : ∀ {k : Nat}, (k = 1 ∨ k = 2) → k ≠ 3 := fun h => by omega
  split at hpr
  · rename_i hk
    obtain ⟨_, hk⟩ := flag hk (by omega) (by omega)
    obtain ⟨rfl, h3⟩ := h1.k0 hk
    exact ⟨H2, h2, h3 _⟩
  · rename_i hk _
    obtain ⟨_, hk⟩ := flag hk (by omega) (by omega)
    obtain ⟨rfl, h3⟩ := h2.k0 hk
    exact ⟨H, h3 _, h1⟩
  · rename_i hk hk'
    obtain ⟨_, hk⟩ := flag hk (by omega) (by omega)
    obtain ⟨_, hk'⟩ := flag hk' (by omega) (by omega)
    obtain ⟨rfl, h3⟩ := h1.k1 hk
    exact ⟨H2, h2, h3 _ (h2.k3 hk')⟩
  · rename_i hk hk'
    obtain ⟨_, hk⟩ := flag hk (by omega) (by omega)
    obtain ⟨_, hk'⟩ := flag hk' (by omega) (by omega)
    obtain ⟨rfl, h3⟩ := h2.k1 hk'
    exact ⟨H, h3 _ (h1.k3 hk).symm, h1⟩
  all_goals first
    | (rename_i hk hk'
       obtain ⟨f1, hk⟩ := flag2 hk (by omega)
       obtain ⟨f2, hk'⟩ := flag2 hk' (by omega)
       exact gen f1 f2 hk hk' hpr)
    | cases hpr
end Go.Ab
/- Drawn regions: any order comes to the same. -/
namespace Go.Ab
open Classical

theorem QCall.sound {P : Program} {id : RId} {ver : Nat} {fb : RId → Prop} {f : FuncId} {args : List PV} {hp : Hp} {u : PV} {H' : Roots} (hid : id.1 ≠ 0)
    (hcall : QCall P id ver fb f args (lkH hp) u H') {w : World} {B : Blocks} {cs : Array Value} {V V' : Nat → Prop} (hv1 : ¬ V ver) (hv2 : V' ver) (hVV : ∀ n, V n → V' n)
    (hr : HR w B (lkH hp) V) (ha : LR w B (lkH hp) V args cs) :
    Enters P f ∧ Calls P f cs w fun e w' => ∃ v B', e = .returned v ∧ VR w' B' H' V' u v ∧ HR w' B' H' V' ∧ Mono w B (lkH hp) V w' B' H' V' := by
  -- contracts over frozen data
  have hF : ∀ (S : Nat → Prop), (∀ b, S b → b < w.heap.size) → ∀ (as : List PV) (res : PV), CallsF P f as res → LR w (callerB S) H0 V0 as cs → (∀ w' B' v, Mono w (callerB S) H0 V0 w' B' H0 V0 → VR w' B' H0 V0 res v → VR w' B H0 V0 res v) → 
      Enters P f ∧ Calls P f cs w fun e w' => ∃ v B', e = .returned v ∧ VR w' B' (lkH hp) V' res v ∧ HR w' B' (lkH hp) V' ∧ Mono w B (lkH hp) V w' B' (lkH hp) V' := by
    intro S hS as res hc hargs hback
    refine ⟨hc.1, (hc.2 w (callerB S) cs (callerB_HR hS) hargs).mono fun e w' he => ?_⟩
    obtain ⟨v, B', rfl, hv, hm⟩ := he
    have hm' : Mono w B (lkH hp) V w' B (lkH hp) V' :=
      caller_mono hr hm (fun b hb => untouched hm b hb) hVV (fun r rt h => .inr h) B (fun _ _ _ => rfl) (fun _ _ _ _ _ => rfl) (fun r p b h => .inr h)
    refine ⟨v, B, rfl, (hback w' B' v hm hv).lift (fun _ _ _ h => h), ⟨fun r rt h => (hr.root r rt h).mono hm' (fun t s ht => ⟨rfl, fun b hb => untouched hm b (hr.dom _ _ _ hb).1⟩), fun r rt h => hVV _ (hr.ver r rt h), fun r p b h => ?_, hr.lev, hr.inj⟩, hm'⟩
    obtain ⟨h1, h2⟩ := hr.dom r p b h
    exact ⟨Nat.lt_of_lt_of_le h1 hm.size, h2⟩
  -- contracts that make a root
  have hO : ∀ (S : Nat → Prop), (∀ b, S b → b < w.heap.size) → ∀ (as : List PV) (node : PV) (res : RId → Nat → PV), CallsO P f as node res → LR w (callerB S) H0 V0 as cs →
      (∀ w' B' B2 v, Mono w (callerB S) H0 V0 w' B' (one id ⟨ver, node⟩) (· = ver) → HR w' B' (one id ⟨ver, node⟩) (· = ver) → (∀ p, B2 id p = B' id p) → (∀ r p b, r ≠ id → B2 r p = some b → B r p = some b) →
        (VR w' B' (one id ⟨ver, node⟩) (· = ver) (res id ver) v → VR w' B2 (one id ⟨ver, node⟩) (· = ver) (res id ver) v) ∧ (RootOK w' B' (one id ⟨ver, node⟩) (· = ver) id node → RootOK w' B2 (one id ⟨ver, node⟩) (· = ver) id node)) →
      Enters P f ∧ Calls P f cs w fun e w' => ∃ v B', e = .returned v ∧ VR w' B' (lkH (setH hp id (some ⟨ver, node⟩))) V' (res id ver) v ∧ HR w' B' (lkH (setH hp id (some ⟨ver, node⟩))) V' ∧
        Mono w B (lkH hp) V w' B' (lkH (setH hp id (some ⟨ver, node⟩))) V' := by
    intro S hS as node res hc hargs hback
    refine ⟨hc.1, (hc.2 w (callerB S) cs id ver hid (callerB_HR hS) hargs).mono fun e w' he => ?_⟩
    obtain ⟨v, B', rfl, hv, hr', hm⟩ := he
    let B2 : Blocks := fun r p => if r = id then B' r p else B r p
    have hB2id : ∀ p, B2 id p = B' id p := fun p => by simp [B2]
    have hB2ne : ∀ r p, r ≠ id → B2 r p = B r p := fun r p h => by simp [B2, h]
    have hnew : ∀ p b, B' id p = some b → w.heap.size ≤ b := by
      intro p b h
      rcases hm.fresh id p b h with h1 | ⟨r0, p0, h1⟩
      · exact h1
      · obtain ⟨_, rfl, rfl⟩ := callerB_some h1
        have h2 := (hm.foreign _ _ _ rfl h1).1
        exact absurd (congrArg Prod.fst (hr'.inj _ _ _ _ _ h h2).1) hid
    have hlook : ∀ r, lkH (setH hp id (some ⟨ver, node⟩)) r = if r = id then some ⟨ver, node⟩ else lkH hp r := fun r => lookH_setH ..
    have hm' : Mono w B (lkH hp) V w' B2 (lkH (setH hp id (some ⟨ver, node⟩))) V' := by
      refine caller_mono hr hm (fun b hb => untouched hm b hb) hVV (fun r rt h => ?_) B2 (fun r p h0 => hB2ne r p (fun e => hid (e ▸ h0))) (fun r rt h hv p => ?_) (fun r p b h => ?_)
      · rw [hlook] at h
        split at h
        · cases h; exact .inl hv1
        · exact .inr h
      · rw [hlook] at h
        split at h
        · cases h; exact absurd hv hv1
        · rename_i hne; exact hB2ne r p hne
      · by_cases hri : r = id
        · subst hri; rw [hB2id] at h; exact .inl (hnew p b h)
        · rw [hB2ne r p hri] at h; exact .inr h
    have hup : Mono w' B2 (one id ⟨ver, node⟩) (· = ver) w' B2 (lkH (setH hp id (some ⟨ver, node⟩))) V' :=
      ⟨Nat.le_refl _, fun _ _ h => ⟨h, rfl⟩, fun _ _ _ _ h => ⟨h, rfl⟩, fun r p _ h => .inr ⟨r, p, h⟩, fun _ _ h => h, fun n hn => by have hn' : n = ver := hn; rw [hn']; exact hv2, fun r rt h => by
        rw [hlook] at h
        split at h
        · rename_i e0
          exact .inr ⟨rt, by simp [one, e0, h], rfl, fun _ _ h => ⟨h, rfl⟩⟩
        · refine .inl (fun he => ?_)
          have h5 := hr.ver r rt h
          have h6 : rt.ver = ver := he
          rw [h6] at h5
          exact hv1 h5, rfl, rfl, rfl⟩
    obtain ⟨hb1, hb2⟩ := hback w' B' B2 v hm hr' hB2id (fun r p b hne h => by rw [hB2ne r p hne] at h; exact h)
    refine ⟨v, B2, rfl, (hb1 hv).mono hup, ⟨fun r rt h => ?_, fun r rt h => ?_, fun r p b h => ?_, fun r rt h => ?_, fun r p r' p' b h h' => ?_⟩, hm'⟩
    · rw [hlook] at h
      split at h
      · rename_i e0
        subst e0
        obtain rfl : (⟨ver, node⟩ : Root) = rt := Option.some.inj h
        exact (hb2 (hr'.root r ⟨ver, node⟩ (by simp [one]))).mono hup (fun t s ht => ⟨rfl, fun _ _ => rfl⟩)
      · rename_i hne
        exact (hr.root r rt h).mono hm' (fun t s ht => ⟨hB2ne r t hne, fun b hb => untouched hm b (hr.dom _ _ _ hb).1⟩)
    · rw [hlook] at h
      split at h
      · cases h; exact hv2
      · exact hVV _ (hr.ver r rt h)
    · by_cases hri : r = id
      · subst hri
        rw [hB2id] at h
        obtain ⟨h1, h2⟩ := hr'.dom _ _ _ h
        obtain ⟨rt, s, h3, h4⟩ := h2.resolve_left hid
        simp [one] at h3
        subst h3
        exact ⟨h1, .inr ⟨_, s, by rw [hlook, if_pos rfl], h4⟩⟩
      · rw [hB2ne r p hri] at h
        obtain ⟨h1, h2⟩ := hr.dom _ _ _ h
        refine ⟨Nat.lt_of_lt_of_le h1 hm.size, h2.imp (fun h => h) (fun ⟨rt, s, h3, h4⟩ => ⟨rt, s, by rw [hlook, if_neg hri]; exact h3, h4⟩)⟩
    · rw [hlook] at h
      split at h
      · rename_i e0; rw [e0]; exact hid
      · exact hr.lev r rt h
    · by_cases hri : r = id
      · subst hri
        rw [hB2id] at h
        by_cases hri' : r' = r
        · subst hri'
          rw [hB2id] at h'
          exact hr'.inj _ _ _ _ _ h h'
        · rw [hB2ne r' p' hri'] at h'
          have h5 := hnew p b h
          have h6 := (hr.dom _ _ _ h').1
          omega
      · rw [hB2ne r p hri] at h
        by_cases hri' : r' = id
        · subst hri'
          rw [hB2id] at h'
          have h5 := hnew p' b h'
          have h6 := (hr.dom _ _ _ h).1
          omega
        · rw [hB2ne r' p' hri'] at h'
          exact hr.inj _ _ _ _ _ h h'
  have hall : ∀ b, (∃ r p, B r p = some b) → b < w.heap.size := fun b ⟨r, p, h⟩ => (hr.dom r p b h).1
  have hfreeAll : ∀ b, free B b → free (callerB fun b => ∃ r p, B r p = some b) b := fun b hf r p h => by
    obtain ⟨⟨r0, p0, h1⟩, _, _⟩ := callerB_some h
    exact hf r0 p0 h1
  have hfreeNone : ∀ b, free (callerB fun _ => False) b := fun b r p h => (callerB_some h).1
  have hset : ∀ x, lkH (setH hp id (some x)) = fun j => if j = id then some x else lkH hp j := fun x => funext fun j => lookH_setH hp id j (some x)
  cases hcall with
  | frozen _ hc hpl =>
    refine hF (fun b => ∃ r p, B r p = some b) hall args _ hc (ha.turn fun x v hx hv => (hv.plainL (hpl x hx)).conv rfl rfl (fun b _ hf => hfreeAll b hf)) (fun w' B' v hm hv => hv.conv rfl rfl (fun b _ hf r p h => ?_))
    exact hf _ _ (hm.foreign (0, 0) _ b rfl (callerB_at ⟨r, p, h⟩)).1
  | plain _ hp2 hH hfb hc hl =>
    have hmap : args.map (view 9 hp2) = args.map (view 9 hp) := List.map_congr_left fun x _ => view_congr hH 9 x
    rw [hmap] at hc
    exact hF (fun _ => False) (fun _ h => h.elim) _ _ hc (ha.map fun x v _ hv => (VR.view hr (fun b _ _ => hfreeNone b) (fun _ _ b _ _ => hfreeNone b) 9).1 x v hv) (fun w' B' v hm hv => hv.leafyL hl)
  | own node res hc hpl =>
    rw [← hset]
    refine hO (fun b => ∃ r p, B r p = some b) hall args node res hc (ha.turn fun x v hx hv => (hv.plainL (hpl x hx)).conv rfl rfl (fun b _ hf => hfreeAll b hf)) (fun w' B' B2 v hm hr' h1 h2 => ?_)
    have hfr : ∀ b, free B' b → free B2 b := by
      intro b hf r p h
      by_cases hri : r = id
      · subst hri; rw [h1] at h; exact hf _ _ h
      · exact hf _ _ (hm.foreign (0, 0) _ b rfl (callerB_at ⟨r, p, h2 r p b hri h⟩)).1
    have ht : Turn w' B' (one id ⟨ver, node⟩) (· = ver) w' B2 (one id ⟨ver, node⟩) (· = ver) :=
      ⟨Nat.le_refl _, fun b _ hf => ⟨hfr b hf, .inl rfl⟩, fun _ _ h => h, fun _ h => h, fun r rt h => .inr ⟨rt, h, rfl, fun p s hp => ⟨hp, by
        simp only [one] at h
        split at h
        · rename_i e0; rw [e0]; exact h1 p
        · cases h⟩⟩⟩
    exact ⟨fun h => h.turn ht, fun h => h.turn ht (fun t s _ => ⟨h1 t, fun _ _ => rfl⟩)⟩
  | ownPlain sz n g res hp2 hH hfb hc hl hg =>
    have hmap : args.map (view 9 hp2) = args.map (view 9 hp) := List.map_congr_left fun x _ => view_congr hH 9 x
    rw [hmap] at hc
    rw [← hset]
    refine hO (fun _ => False) (fun _ h => h.elim) _ (.own sz n g) res hc (ha.map fun x v _ hv => (VR.view hr (fun b _ _ => hfreeNone b) (fun _ _ b _ _ => hfreeNone b) 9).1 x v hv) (fun w' B' B2 v hm hr' h1 h2 => ?_)
    have hB : ∀ r rt, one id ⟨ver, .own sz n g⟩ r = some rt → ∀ p, B2 r p = B' r p := by
      intro r rt h p
      simp only [one] at h
      split at h
      · rename_i e0; rw [e0]; exact h1 p
      · cases h
    refine ⟨fun h => h.swapL hl hB, fun h => ?_⟩
    cases h with
    | own h => exact .own (h.swap hg hB h1)

/-- The steps of a list of operations, by their numbers. -/
def Run (P : Program) (lv : Nat) (all : List Oper) (fls : List Fl) (nv : Nat) : List Nat → Tm → Roots → Tm → Roots → Prop
  | [], tm, H, tm', H' => tm' = tm ∧ H' = H
  | i :: l, tm, H, tm', H' => ∃ o fl u H1, all[i]? = some o ∧ fls[i]? = some fl ∧ Step P lv all (nv + i) fl tm o H u H1 ∧ Run P lv all fls nv l (putT tm o.dst u) H1 tm' H'

def Teq (tm tm' : Tm) : Prop := ∀ t, lk tm t = lk tm' t
theorem Teq.put {tm tm' : Tm} (h : Teq tm tm') (d : Option Tmp) (u : PV) : Teq (putT tm d u) (putT tm' d u) := fun t => by rw [lk_putT, lk_putT, h t]

theorem Run.teq {P lv all fls nv} {l : List Nat} {tm tm1 tm' : Tm} {H H' : Roots} (h : Run P lv all fls nv l tm H tm' H') (ht : Teq tm tm1) : ∃ tm1', Run P lv all fls nv l tm1 H tm1' H' ∧ Teq tm' tm1' := by
  induction l generalizing tm tm1 H with
  | nil => obtain ⟨rfl, rfl⟩ := h; exact ⟨tm1, ⟨rfl, rfl⟩, ht⟩
  | cons i l ih =>
    obtain ⟨o, fl, u, H1, h1, h2, h3, h4⟩ := h
    obtain ⟨tm1', h5, h6⟩ := ih h4 (ht.put o.dst u)
    exact ⟨tm1', ⟨o, fl, u, H1, h1, h2, h3.ag (fun t _ => ht t), h5⟩, h6⟩

theorem A.ok_list {fb ow} {a : A} {hp : Hp} {v : PV} {H' : Roots} (h : a.ok fb ow (lkH hp) v H') : ∃ hp', lkH hp' = H' := by
  induction a generalizing hp with
  | ret x => obtain ⟨rfl, rfl⟩ := h; exact ⟨hp, rfl⟩
  | vc p k ih => exact ih h.2
  | hyp p k ih => exact ih h
  | rd r k ih => exact ih _ h.2
  | wr r x k ih =>
    refine ih (hp := setH hp r x) ?_
    have : (lkH (setH hp r x)) = fun j => if j = r then x else lkH hp j := funext fun j => lookH_setH hp r j x
    rw [this]
    exact h.2
  | any k ih => exact h.elim
  | dec p k ih => exact ih _ h
  | opt o k ih => exact ih _ h
  | all p k ih => exact h.elim
  | fail => exact h.elim

theorem Step.list {P lv all ver fl} {tm : Tm} {o : Oper} {H H' : Roots} {u : PV} (h : Step P lv all ver fl tm o H u H') (hH : ∃ hp, lkH hp = H) : ∃ hp, lkH hp = H' := by
  obtain ⟨hp, rfl⟩ := hH
  obtain ⟨c, _, h⟩ := h
  have key : ∀ v, StepT P lv ver (fbOf lv fl.1) (owOf lv fl o) tm o (lkH hp) v H' → ∃ hp, lkH hp = H' := by
    intro v hv
    unfold StepT at hv
    split at hv
    · obtain ⟨_, f, as, _, h⟩ := hv
      cases h with
      | frozen => exact ⟨hp, rfl⟩
      | plain => exact ⟨hp, rfl⟩
      | own node res _ _ => exact ⟨setH hp (lv, o.dst.getD 0) (some ⟨ver, node⟩), funext fun j => lookH_setH ..⟩
      | ownPlain sz n g res _ _ _ _ _ _ => exact ⟨setH hp (lv, o.dst.getD 0) (some ⟨ver, .own sz n g⟩), funext fun j => lookH_setH ..⟩
    · exact A.ok_list hv
  generalize changes o.op = chg at h
  cases chg with
  | true =>
    cases c with
    | true => exact key _ (h.1 rfl)
    | false => exact ⟨hp, (h.2 rfl).2.symm⟩
  | false =>
    obtain ⟨v, h1, h2, _⟩ := h
    cases c with
    | true => exact key _ (h1 rfl)
    | false => exact ⟨hp, (h2 rfl).symm⟩

/-- An operation taken ahead of those that it may pass. -/
theorem Run.first {P lv all fls nv} {l1 l2 : List Nat} {i : Nat} {oi : Oper} {fi : Fl} (hoi : all[i]? = some oi) (hfi : fls[i]? = some fi)
    (hc : ∀ x ∈ l1, ∀ ox fx, all[x]? = some ox → fls[x]? = some fx → pairOK all ox fx oi fi = true) {tm tm' : Tm} {H H' : Roots} (hH : ∃ hp, lkH hp = H) (h : Run P lv all fls nv (l1 ++ i :: l2) tm H tm' H') :
    ∃ u H1, Step P lv all (nv + i) fi tm oi H u H1 ∧ ∃ tm'', Run P lv all fls nv (l1 ++ l2) (putT tm oi.dst u) H1 tm'' H' ∧ Teq tm' tm'' := by
  induction l1 generalizing tm H with
  | nil =>
    obtain ⟨o, fl, u, H1, h1, h2, h3, h4⟩ := h
    rw [hoi] at h1; rw [hfi] at h2
    cases h1; cases h2
    exact ⟨u, H1, h3, tm', h4, fun _ => rfl⟩
  | cons x l1 ih =>
    obtain ⟨ox, fx, ux, Hx, h1, h2, h3, h4⟩ := h
    obtain ⟨u, H1, h5, tm'', h6, h7⟩ := ih (fun y hy => hc y (by simp [hy])) (h3.list hH) h4
    have hpr := hc x (by simp) ox fx h1 h2
    have hpr' := hpr
    simp only [pairOK, Bool.and_eq_true] at hpr'
    obtain ⟨⟨⟨p1, p2⟩, p3⟩, _⟩ := hpr'
    have ag1 : agT (usesT all oi) (putT tm ox.dst ux) tm := fun t ht => by
      rw [lk_putT]
      split
      · rename_i e; rw [e] at p1; simp at p1; exact absurd ht p1
      · rfl
    have ag2 : agT (usesT all ox) tm (putT tm oi.dst u) := fun t ht => by
      rw [lk_putT]
      split
      · rename_i e; rw [e] at p2; simp at p2; exact absurd ht p2
      · rfl
    obtain ⟨H1', s1, s2⟩ := swapH hH hpr h3 (h5.ag ag1) (fun H' hH' ver fl o v H1' hs => hs.list hH')
    have hte : Teq (putT (putT tm ox.dst ux) oi.dst u) (putT (putT tm oi.dst u) ox.dst ux) := fun t => by
      simp only [lk_putT]
      by_cases e1 : oi.dst = some t
      · by_cases e2 : ox.dst = some t
        · rw [e1, e2] at p3; simp at p3
        · simp [e1, e2]
      · simp [e1]
    obtain ⟨tm3, h8, h9⟩ := h6.teq hte
    exact ⟨u, H1', s1, tm3, ⟨ox, fx, ux, H1, h1, h2, s2.ag ag2, h8⟩, fun t => (h7 t).trans (h9 t)⟩

/-! ### The check -/
def preds (o : Oper) : List Nat := (o.after.toList.filter fun e => Region.binds .any e).map (·.on)

def masksGo : List Oper → List Nat → List Nat
  | [], ms => ms
  | o :: os, ms => masksGo os (ms ++ [(preds o).foldl (fun m p => m ||| (1 <<< p) ||| ms.getD p 0) 0])

def drawOK (all : List Oper) (fls : List Fl) (ms : List Nat) : Bool :=
  all.length == fls.length && (List.range all.length).all fun i => match all[i]?, fls[i]? with
    | some o, some fl => (preds o).all (fun p => decide (p < i)) && (List.range i).all fun x =>
      if (ms.getD i 0).testBit x then (preds o).any fun p => p == x || (decide (x < p) && (ms.getD p 0).testBit x)
      else match all[x]?, fls[x]? with
        | some ox, some fx => pairOK all ox fx o fl
        | _, _ => false
    | _, _ => false

theorem drawOK_at {all : List Oper} {fls : List Fl} {ms : List Nat} (h : drawOK all fls ms = true) {i : Nat} {o : Oper} (hi : all[i]? = some o) :
    ∃ fl, fls[i]? = some fl ∧ (∀ p ∈ preds o, p < i) ∧ ∀ x < i, ((∃ p ∈ preds o, p = x ∨ x < p ∧ (ms.getD p 0).testBit x = true) ∨ (ms.getD i 0).testBit x = false ∧ ∃ ox fx, all[x]? = some ox ∧ fls[x]? = some fx ∧ pairOK all ox fx o fl = true) := by
  unfold drawOK at h
  rw [Bool.and_eq_true] at h
  have hlt : i < all.length := (List.getElem?_eq_some_iff.1 hi).1
  have h2 := List.all_eq_true.1 h.2 i (List.mem_range.2 hlt)
  rw [hi] at h2
  cases hf : fls[i]? with
  | none => rw [hf] at h2; cases h2
  | some fl =>
    rw [hf] at h2
    simp only [Bool.and_eq_true] at h2
    obtain ⟨h3, h4⟩ := h2
    refine ⟨fl, rfl, fun p hp => by simpa using List.all_eq_true.1 h3 p hp, fun x hx => ?_⟩
    have h5 := List.all_eq_true.1 h4 x (List.mem_range.2 hx)
    split at h5
    · obtain ⟨p, hp, h6⟩ := List.any_eq_true.1 h5
      exact .inl ⟨p, hp, by simpa using h6⟩
    · rename_i hb
      split at h5
      · rename_i ox fx h6 h7
        exact .inr ⟨by simpa using hb, ox, fx, h6, h7, h5⟩
      · cases h5
end Go.Ab
/- Drawn regions: soundness. -/
namespace Go.Ab
open Classical

theorem step_sound {P : Program} {lv : Nat} {nt : FS} {ro : Option Nat} {ops : Array Oper} {Q : Exit → Act → World → Prop} (hlv : lv ≠ 0) {i ver : Nat} {o : Oper} {fl : Fl} {tm : Tm} {hp : Hp} {u : PV} {H1 : Roots} {V : Nat → Prop} {w : World} {B : Blocks} {a : Act}
    (hio : ops[i]? = some o) (hdo : dstOK nt o.dst = true) (hver : ¬ V ver) (hs : Step P lv ops.toList ver fl tm o (lkH hp) u H1) (ht : TmR w B (lkH hp) V nt tm a) (hr : HR w B (lkH hp) V) {K : Act → World → Prop}
    (hK : ∀ w' B' hp' a', lkH hp' = H1 → TmR w' B' (lkH hp') (ors V ver) nt (putT tm o.dst u) a' → HR w' B' (lkH hp') (ors V ver) → Mono w B (lkH hp) V w' B' (lkH hp') (ors V ver) → K a' w') :
    wpOpIn (Wd ro) 0 P ops Q i K a w := by
  obtain ⟨c, hg, h⟩ := hs
  have hw := guard_sound ht ops o hg
  simp only [wpOpIn, hio, hw]
  have hab : ∀ f, o.about P w a.eval = some f → (Wd ro).fn f := fun _ _ => trivial
  have value : ∀ (nx : Next) (v : Value) (w' : World) (B' : Blocks) (hp' : Hp), (o.semAt ro a.eval).run P w = .ok nx w' → (nx = .value v ∨ nx = .skip ∧ v = Go.undef) →
      lkH hp' = H1 → VR w' B' (lkH hp') (ors V ver) u v → HR w' B' (lkH hp') (ors V ver) → Mono w B (lkH hp) V w' B' (lkH hp') (ors V ver) → Oper.wpIn (Wd ro) 0 P o a w K Q := by
    intro nx v w' B' hp' he hnx hh hv hr' hm'
    refine ⟨fun _ _ => trivial, ?_⟩
    show o.uponIn (Wd ro) 0 P a K Q ((o.semAt ro a.eval).run P w)
    rw [he]
    have := hK w' B' hp' _ hh ((ht.mono hm').putT hdo hv) hr' hm'
    rcases hnx with rfl | ⟨rfl, rfl⟩
    · exact this
    · exact this
  have stepT : ∀ x, StepT P lv ver (fbOf lv fl.1) (owOf lv fl o) tm o (lkH hp) x H1 → (∀ w B H V v, VR w B H V x v → VR w B H V u v) → Oper.wpIn (Wd ro) 0 P o a w K Q := by
    intro x hx hxu
    unfold StepT at hx
    split at hx
    · rename_i hc
      obtain ⟨_, f, as, h1, h2⟩ := hx
      have hc2 : callee tm o.op fun f' as' => f' = f ∧ as' = as := callee_iff.2 ⟨f, as, h1, rfl, rfl⟩
      refine ⟨fun _ _ => trivial, ?_⟩
      show o.uponIn (Wd ro) 0 P a K Q ((o.semAt ro a.eval).run P w)
      unfold callee at hc2
      split at hc2
      · rename_i fo args _ hop
        have hev := ht.ev fo
        split at hc2
        · rename_i g first caps hfe
          rw [hfe] at hev
          split at hc2
          · rename_i as' has
            obtain ⟨rfl, rfl⟩ := hc2
            generalize hfv : a.eval fo = fv at hev
            cases hev with
            | @func _ _ _ _ _ cs1 cs2 hl hl' g1 g2 =>
              have hargs : LR w B (lkH hp) V (first ++ as' ++ caps) (cs1 ++ args.map a.eval ++ cs2) := by
                refine LR.append (LR.append ⟨hl, g1⟩ ?_) ⟨hl', g2⟩
                simpa using vals_LR ht args.toList as' has
              obtain ⟨hen, hcalls⟩ := h2.sound (V' := ors V ver) hlv hver (.inr rfl) (fun _ h => .inl h) hr hargs
              have he : (o.semAt ro a.eval).run P w = .ok (.enter g (cs1 ++ args.map a.eval ++ cs2)) w := by
                rw [Oper.semAt_eq _ _ _ (by rw [hop]; intro c h; cases h)]
                simp [execOp, hop, resolve, hfv, Deferred.ofValue, invoke, hen _ w]
              rw [he, Oper.uponIn_enter]
              refine ⟨fun h => by simp [Wd, Fence.wide] at h, callsIn_Wd (hcalls.mono fun e w' he => ?_)⟩
              obtain ⟨v, B', rfl, hv, hr', hm'⟩ := he
              have hlist : ∃ hp', lkH hp' = H1 := by
                cases h2 with
                | frozen => exact ⟨hp, rfl⟩
                | plain => exact ⟨hp, rfl⟩
                | own node res _ _ => exact ⟨setH hp (lv, o.dst.getD 0) (some ⟨ver, node⟩), funext fun j => lookH_setH ..⟩
                | ownPlain sz n g res _ _ _ _ _ _ => exact ⟨setH hp (lv, o.dst.getD 0) (some ⟨ver, .own sz n g⟩), funext fun j => lookH_setH ..⟩
              obtain ⟨hp', rfl⟩ := hlist
              exact hK w' B' hp' _ rfl ((ht.mono hm').putT hdo (hxu _ _ _ _ _ hv)) hr' hm'
          · exact hc2.elim
        · exact hc2.elim
      · exact hc2.elim
    · have hok : (opA P lv ver tm o).wp hp fun v hp' => v = x ∧ lkH hp' = H1 := A.ok_wp hx fun hp' h => ⟨rfl, h⟩
      have hnd : ∀ c, o.op ≠ .defer c := fun c hc => by
        unfold opA opB at hok
        rw [hc] at hok
        exact hok
      obtain ⟨nx, v, w', B', hp', x', he, hnx, ⟨rfl, hh⟩, hv, hr', hm'⟩ := opA_real (P := P) (ver := ver) hlv hr hver ht o _ hok
      exact value nx v w' B' hp' (by rw [Oper.semAt_eq _ _ _ hnd]; exact he) hnx hh (hxu _ _ _ _ _ hv) hr' hm'
  have pass : u = .undef ∨ (∃ v, u = .whn false v) → H1 = lkH hp → K (a.put o.dst Go.undef) w := by
    intro hu hh
    have hmu : Mono w B (lkH hp) V w B (lkH hp) (ors V ver) := Mono.more ..
    refine hK w B hp _ hh.symm ((ht.mono hmu).putT hdo ?_) (hr.more ver) hmu
    rcases hu with rfl | ⟨v, rfl⟩
    · exact .undef _
    · exact .whn (fun e => by cases e) (fun _ => rfl)
  generalize hchg : changes o.op = chg at h
  cases chg with
  | true =>
    cases c with
    | true => simp only [if_true]; exact stepT u (h.1 rfl) (fun _ _ _ _ _ h => h)
    | false => simp only [Bool.false_eq_true, if_false]; exact ⟨hab, pass (.inl (h.2 rfl).1) (h.2 rfl).2⟩
  | false =>
    obtain ⟨v, h1, h2, h3⟩ := h
    cases c with
    | true =>
      simp only [if_true]
      refine stepT v (h1 rfl) (fun w B H V x hx => ?_)
      rw [h3]
      split
      · exact .whn (fun _ => hx) (fun e => by cases e)
      · exact hx
    | false =>
      simp only [Bool.false_eq_true, if_false]
      refine ⟨hab, pass (.inr ⟨v, ?_⟩) (h2 rfl)⟩
      rw [h3]
      cases hgd : o.guard with
      | none => simp [guardC, hgd] at hg
      | some _ => rfl

def Vl (nv : Nat) (listed : Array Bool) : Nat → Prop := fun v => v < nv ∨ ∃ j, listed.getD j false = true ∧ v = nv + j

def rem (n : Nat) (listed : Array Bool) : List Nat := (List.range n).filter fun j => !listed.getD j true

theorem getD_agree {l : Array Bool} {j : Nat} (h : j < l.size) : l.getD j true = l.getD j false := by simp [Array.getD, h]

theorem set_getD {l : Array Bool} {i j : Nat} (hi : i < l.size) : (l.setIfInBounds i true).getD j false = (if j = i then true else l.getD j false) := by
  by_cases e : j = i
  · subst e; simp [hi]
  · rw [getD_set_ne _ (fun h => e h.symm), if_neg e]

theorem rem_split {n : Nat} {listed : Array Bool} {i : Nat} (hi : i < n) (hl : listed.getD i true = false) : ∃ l1 l2, rem n listed = l1 ++ i :: l2 ∧ (∀ x ∈ l1, x < i ∧ listed.getD x true = false) ∧ rem n (listed.setIfInBounds i true) = l1 ++ l2 := by
  have hsz : i < listed.size := by
    rcases Nat.lt_or_ge i listed.size with h | h
    · exact h
    · simp [Array.getElem?_eq_none h] at hl
  have hr : List.range n = List.range i ++ i :: List.range' (i + 1) (n - i - 1) := by
    have h1 : n = i + (1 + (n - i - 1)) := by omega
    conv => lhs; rw [h1]
    rw [List.range_eq_range', List.range_eq_range', ← List.range'_append_1, Nat.zero_add, Nat.add_comm 1, List.range'_succ]
  refine ⟨(List.range i).filter fun j => !listed.getD j true, (List.range' (i + 1) (n - i - 1)).filter fun j => !listed.getD j true, ?_, fun x hx => ?_, ?_⟩
  · unfold rem; rw [hr, List.filter_append, List.filter_cons, hl]; rfl
  · obtain ⟨h1, h2⟩ := List.mem_filter.1 hx
    exact ⟨List.mem_range.1 h1, by simpa using h2⟩
  · unfold rem
    rw [hr, List.filter_append, List.filter_cons]
    have e1 : (listed.setIfInBounds i true).getD i true = true := by simp [hsz]
    rw [e1]
    congr 1
    · refine List.filter_congr fun x hx => ?_
      have : i ≠ x := fun e => by have := List.mem_range.1 hx; omega
      rw [getD_set_ne _ this]
    · refine List.filter_congr fun x hx => ?_
      have : i ≠ x := fun e => by have := (List.mem_range'_1.1 hx).1; omega
      rw [getD_set_ne _ this]

theorem mem_preds {o : Oper} {p : Nat} : p ∈ preds o ↔ ∃ e ∈ o.after, Region.binds .any e = true ∧ e.on = p := by
  unfold preds
  simp only [List.mem_map, List.mem_filter, Array.mem_toList_iff]
  exact ⟨fun ⟨e, ⟨h1, h2⟩, h3⟩ => ⟨e, h1, h2, h3⟩, fun ⟨e, h1, h2, h3⟩ => ⟨e, ⟨h1, h2⟩, h3⟩⟩

/-- All that come from one place on wait for all that come ahead of it. -/
def cutB (ms : List Nat) (e : Nat) : Bool := (ms.drop e).all fun m => Nat.beq (m % 2 ^ e) (2 ^ e - 1)
theorem cutB_bits {ms : List Nat} {e : Nat} (h : cutB ms e = true) {i x : Nat} (hi : e ≤ i) (hlt : i < ms.length) (hx : x < e) : (ms.getD i 0).testBit x = true := by
  have hm : ms.getD i 0 ∈ ms.drop e := by
    rw [List.getD_eq_getElem?_getD, List.getElem?_eq_getElem hlt]
    exact List.mem_iff_getElem.2 ⟨i - e, by simp; omega, by simp [show e + (i - e) = i by omega]⟩
  have h1 := Nat.eq_of_beq_eq_true (List.all_eq_true.1 h _ hm)
  have h2 : (ms.getD i 0 % 2 ^ e).testBit x = true := by
    rw [h1, Nat.testBit_two_pow_sub_one]
    simpa using hx
  rw [Nat.testBit_mod_two_pow] at h2
  simp at h2
  exact h2.2

/-- What runs when all ahead of one place are done. -/
def AnyAt (ro : Option Nat) (P : Program) (ops : Array Oper) (Q : Exit → Act → World → Prop) (s : Nat) (a : Act) (w : World) : Prop :=
  ∀ listed : Array Bool, listed.size = ops.size → (∀ j, listed.getD j false = true ↔ j < s) → wpAnyIn (Wd ro) 0 P .any ops Q (ops.size - s) listed a w

theorem any_seg {P : Program} {lv nv nv0 : Nat} {nt : FS} {ro : Option Nat} {ops : Array Oper} {fls : List Fl} {ms : List Nat} {Q : Exit → Act → World → Prop} (hlv : lv ≠ 0) (hd : ∀ o ∈ ops.toList, dstOK nt o.dst = true)
    (hck : drawOK ops.toList fls ms = true) {e : Nat} (hcut : ∀ i x, e ≤ i → i < ops.size → x < e → (ms.getD i 0).testBit x = true) (hsz : e ≤ ops.size) {w0 : World} {B0 : Blocks} {hp0 : Hp} {tmF : Tm} {HF : Roots}
    (hQ : ∀ tm hp w B a, Teq tmF tm → lkH hp = HF → TmR w B (lkH hp) (· < nv + e) nt tm a → HR w B (lkH hp) (· < nv + e) → Mono w0 B0 (lkH hp0) (· < nv0) w B (lkH hp) (· < nv + e) → AnyAt ro P ops Q e a w) :
    ∀ (fuel : Nat) (listed : Array Bool), listed.size = ops.size → (∀ j, e ≤ j → listed.getD j false = false) → (rem e listed).length = fuel →
      (∀ i, listed.getD i false = true → ∀ x, x < i → (ms.getD i 0).testBit x = true → listed.getD x false = true) →
      ∀ tm tm' hp w B a, Run P lv ops.toList fls nv (rem e listed) tm (lkH hp) tm' HF → Teq tmF tm' → TmR w B (lkH hp) (Vl nv listed) nt tm a → HR w B (lkH hp) (Vl nv listed) →
        Mono w0 B0 (lkH hp0) (· < nv0) w B (lkH hp) (Vl nv listed) → wpAnyIn (Wd ro) 0 P .any ops Q (fuel + (ops.size - e)) listed a w := by
  intro fuel
  have hready : ∀ (listed : Array Bool), listed.size = ops.size → (∀ j, e ≤ j → listed.getD j false = false) → rem e listed ≠ [] → Region.ready .any ops listed ≠ [] := by
    intro listed hsz' hhi hne hre
    cases hrem : rem e listed with
    | nil => exact hne hrem
    | cons i rest =>
      have hi : i ∈ rem e listed := by rw [hrem]; simp
      obtain ⟨h1, h2⟩ := List.mem_filter.1 hi
      have hlte := List.mem_range.1 h1
      have hlt : i < ops.size := by omega
      obtain ⟨l1, l2, h3, h4, _⟩ := rem_split hlte (by simpa using h2 : listed.getD i true = false)
      have hl1 : l1 = [] := by
        cases l1 with
        | nil => rfl
        | cons x l1 =>
          rw [hrem] at h3
          obtain ⟨rfl, _⟩ := List.cons.inj h3
          have := (h4 i (by simp)).1
          omega
      have hsmall : ∀ x < i, listed.getD x false = true := by
        intro x hx
        cases hb : listed.getD x true with
        | true => rw [← getD_agree (by omega)]; exact hb
        | false =>
          obtain ⟨l1', l2', h5, h6, _⟩ := rem_split (show x < e by omega) hb
          have hl1' : l1' = [] ∨ ∃ r, l1' = i :: r := by
            cases l1' with
            | nil => exact .inl rfl
            | cons y l1' => rw [hrem] at h5; obtain ⟨rfl, _⟩ := List.cons.inj h5; exact .inr ⟨_, rfl⟩
          rcases hl1' with rfl | ⟨r, rfl⟩
          · rw [hrem] at h5; obtain ⟨rfl, _⟩ := List.cons.inj h5; omega
          · have := (h6 i (by simp)).1; omega
      obtain ⟨o, ho⟩ : ∃ o, ops[i]? = some o := ⟨ops[i], by simp [hlt]⟩
      obtain ⟨fl, _, hp, _⟩ := drawOK_at hck (i := i) (o := o) (by simpa using ho)
      have : i ∈ Region.ready .any ops listed := mem_ready.2 ⟨by simpa using h2, o, ho, fun e he hb => hsmall _ (hp _ (mem_preds.2 ⟨e, he, hb, rfl⟩))⟩
      rw [hre] at this
      cases this
  induction fuel with
  | zero =>
    intro listed hsz' hhi hlen hdc tm tm' hp w B a hrun hte ht hr hm
    have hrem := List.eq_nil_of_length_eq_zero hlen
    rw [hrem] at hrun
    obtain ⟨rfl, rfl⟩ := hrun
    have hV : ∀ v, Vl nv listed v → v < nv + e := by
      rintro v (h | ⟨j, h1, rfl⟩)
      · omega
      · rcases Nat.lt_or_ge j e with h | h
        · omega
        · rw [hhi j h] at h1; cases h1
    have hup : Mono w B (lkH hp) (Vl nv listed) w B (lkH hp) (· < nv + e) := (Mono.refl ..).up hV
    rw [Nat.zero_add]
    refine hQ _ hp w B a hte rfl (ht.mono hup) (hr.up hV) (hm.trans hup) listed hsz' fun j => ⟨fun h => ?_, fun h => ?_⟩
    · rcases Nat.lt_or_ge j e with h' | h'
      · exact h'
      · rw [hhi j h'] at h; cases h
    · cases hb : listed.getD j true with
      | true => rw [← getD_agree (by omega)]; exact hb
      | false =>
        have : j ∈ rem e listed := List.mem_filter.2 ⟨List.mem_range.2 h, by rw [hb]; rfl⟩
        rw [hrem] at this
        cases this
  | succ fuel ih =>
    intro listed hsz' hhi hlen hdc tm tm' hp w B a hrun hte ht hr hm
    have hne : rem e listed ≠ [] := fun h => by rw [h] at hlen; cases hlen
    rw [Nat.succ_add]
    refine ⟨fun hre => absurd hre (hready listed hsz' hhi hne), fun i hi => ?_⟩
    obtain ⟨h1, o, ho, hpre⟩ := mem_ready.1 hi
    have hlt := (Array.getElem?_eq_some_iff.1 ho).1
    obtain ⟨fl, hfl, hpl, hpair⟩ := drawOK_at hck (i := i) (o := o) (by simpa using ho)
    have hpred : ∀ p ∈ preds o, listed.getD p false = true := fun p hp => by
      obtain ⟨e, he, hb, rfl⟩ := mem_preds.1 hp
      exact hpre e he hb
    have hbits : ∀ x, x < i → (ms.getD i 0).testBit x = true → listed.getD x false = true := fun x hx hb => by
      rcases hpair x hx with ⟨p, hp, h6⟩ | ⟨h6, _⟩
      · rcases h6 with rfl | ⟨h6, h7⟩
        · exact hpred p hp
        · exact hdc p (hpred p hp) x h6 h7
      · rw [h6] at hb; cases hb
    have hie : i < e := by
      rcases Nat.lt_or_ge i e with h | h
      · exact h
      · exfalso
        cases hrem : rem e listed with
        | nil => exact hne hrem
        | cons x rest =>
          have hx : x ∈ rem e listed := by rw [hrem]; simp
          obtain ⟨g1, g2⟩ := List.mem_filter.1 hx
          have hxe := List.mem_range.1 g1
          have := hbits x (by omega) (hcut i x h hlt hxe)
          rw [← getD_agree (by omega)] at this
          rw [this] at g2
          cases g2
    obtain ⟨l1, l2, h3, h4, h5⟩ := rem_split hie h1
    rw [h3] at hrun
    obtain ⟨u, H1, hs, tm'', hrun', hte'⟩ := Run.first (l1 := l1) (l2 := l2) (oi := o) (fi := fl) (by simpa using ho) hfl (fun x hx ox fx hox hfx => by
      obtain ⟨hxi, hxl⟩ := h4 x hx
      have hxf : listed.getD x false = false := by rw [← getD_agree (by omega)]; exact hxl
      rcases hpair x hxi with ⟨p, hp, h6⟩ | ⟨_, ox', fx', h6, h7, h8⟩
      · exfalso
        rcases h6 with rfl | ⟨h6, h7⟩
        · rw [hpred p hp] at hxf; cases hxf
        · rw [hdc p (hpred p hp) x h6 h7] at hxf; cases hxf
      · rw [hox] at h6; rw [hfx] at h7
        cases h6; cases h7
        exact h8) ⟨hp, rfl⟩ hrun
    have hver : ¬ Vl nv listed (nv + i) := by
      rintro (h | ⟨j, h6, h7⟩)
      · omega
      · obtain rfl : j = i := by omega
        rw [getD_agree (by omega), h6] at h1
        cases h1
    refine step_sound (fl := fl) hlv ho (hd o (by simpa using List.mem_of_getElem? (show ops.toList[i]? = some o by simpa using ho))) hver hs ht hr (fun w' B' hp' a' hh ht' hr' hm' => ?_)
    have hV : ∀ v, ors (Vl nv listed) (nv + i) v → Vl nv (listed.setIfInBounds i true) v := by
      rintro v ((h | ⟨j, h6, rfl⟩) | rfl)
      · exact .inl h
      · exact .inr ⟨j, getD_set_true h6, rfl⟩
      · exact .inr ⟨i, by rw [set_getD (by omega), if_pos rfl], rfl⟩
    have hup : Mono w' B' (lkH hp') (ors (Vl nv listed) (nv + i)) w' B' (lkH hp') (Vl nv (listed.setIfInBounds i true)) := (Mono.refl ..).up hV
    subst hh
    refine ih (listed.setIfInBounds i true) (by simpa using hsz') (fun j hj => ?_) ?_ ?_ _ tm'' hp' w' B' a' (by rw [h5]; exact hrun') (fun t => (hte t).trans (hte' t)) (ht'.mono hup) (hr'.up hV) (hm.trans (hm'.trans hup))
    · rw [set_getD (by omega), if_neg (by omega)]; exact hhi j hj
    · rw [h5]
      rw [h3] at hlen
      simp only [List.length_append, List.length_cons] at hlen ⊢
      omega
    · intro j hj x hx hb
      rw [set_getD (by omega)] at hj ⊢
      split
      · rfl
      · split at hj
        · rename_i e
          subst e
          exact hbits x hx hb
        · exact hdc j hj x hx hb

/-- One operation that waits for all ahead of it, and for which all behind it wait. -/
theorem any_one {P : Program} {ro : Option Nat} {ops : Array Oper} {fls : List Fl} {ms : List Nat} {Q : Exit → Act → World → Prop} (hck : drawOK ops.toList fls ms = true) {s : Nat} (hcut : ∀ i x, s + 1 ≤ i → i < ops.size → x < s + 1 → (ms.getD i 0).testBit x = true) (hs : s < ops.size)
    {a : Act} {w : World} (h : wpOpIn (Wd ro) 0 P ops Q s (AnyAt ro P ops Q (s + 1)) a w) : AnyAt ro P ops Q s a w := by
  intro listed hsz hl
  rw [show ops.size - s = (ops.size - (s + 1)) + 1 by omega]
  obtain ⟨o, ho⟩ : ∃ o, ops[s]? = some o := ⟨ops[s], by simp [hs]⟩
  obtain ⟨fl, _, hp, _⟩ := drawOK_at hck (i := s) (o := o) (by simpa using ho)
  have hfs : listed.getD s false = false := by
    cases hb : listed.getD s false with
    | false => rfl
    | true => have := (hl s).1 hb; omega
  have hin : s ∈ Region.ready .any ops listed := mem_ready.2 ⟨by rw [getD_agree (by omega)]; exact hfs, o, ho, fun e he hb => (hl _).2 (hp _ (mem_preds.2 ⟨e, he, hb, rfl⟩))⟩
  refine ⟨fun hre => (by rw [hre] at hin; cases hin), fun i hi => ?_⟩
  obtain ⟨h1, oi, hoi, hpre⟩ := mem_ready.1 hi
  have hlt := (Array.getElem?_eq_some_iff.1 hoi).1
  have his : i = s := by
    have hnl : ¬ i < s := fun h => by
      have := (hl i).2 h
      rw [← getD_agree (by omega)] at this
      rw [this] at h1
      cases h1
    rcases Nat.lt_or_ge s i with h | h
    · exfalso
      obtain ⟨fi, _, hpl, hpair⟩ := drawOK_at hck (i := i) (o := oi) (by simpa using hoi)
      have hb := hcut i s h hlt (Nat.lt_succ_self s)
      rcases hpair s h with ⟨p, hp, h6⟩ | ⟨h6, _⟩
      · obtain ⟨e, he, hbb, rfl⟩ := mem_preds.1 hp
        have hpl2 := (hl _).1 (hpre e he hbb)
        rcases h6 with h6 | ⟨h6, _⟩ <;> omega
      · rw [h6] at hb; cases hb
    · omega
  subst his
  refine wpOpIn_mono (fun a w hk => ?_) h
  refine hk _ (by simpa using hsz) fun j => ?_
  rw [set_getD (by omega)]
  split
  · rename_i e; subst e; simp
  · rename_i e
    rw [hl]
    omega

theorem any_sound {P : Program} {lv nv : Nat} {nt : FS} {ro : Option Nat} {ops : Array Oper} {fls : List Fl} {ms : List Nat} {Q : Exit → Act → World → Prop} (hlv : lv ≠ 0) (hd : ∀ o ∈ ops.toList, dstOK nt o.dst = true)
    (hck : drawOK ops.toList fls ms = true) {w0 : World} {B0 : Blocks} {hp0 : Hp} {tmF : Tm} {HF : Roots}
    (hQ : ∀ tm hp w B a, Teq tmF tm → lkH hp = HF → TmR w B (lkH hp) (· < nv + ops.size) nt tm a → HR w B (lkH hp) (· < nv + ops.size) → Mono w0 B0 (lkH hp0) (· < nv) w B (lkH hp) (· < nv + ops.size) → Q .normal a w) :
    ∀ (fuel : Nat) (listed : Array Bool), listed.size = ops.size → (rem ops.size listed).length = fuel →
      (∀ i, listed.getD i false = true → ∀ x, x < i → (ms.getD i 0).testBit x = true → listed.getD x false = true) →
      ∀ tm tm' hp w B a, Run P lv ops.toList fls nv (rem ops.size listed) tm (lkH hp) tm' HF → Teq tmF tm' → TmR w B (lkH hp) (Vl nv listed) nt tm a → HR w B (lkH hp) (Vl nv listed) →
        Mono w0 B0 (lkH hp0) (· < nv) w B (lkH hp) (Vl nv listed) → wpAnyIn (Wd ro) 0 P .any ops Q fuel listed a w := by
  intro fuel
  -- the end
  have fin : ∀ (listed : Array Bool), listed.size = ops.size → rem ops.size listed = [] → ∀ tm tm' hp w B a, Run P lv ops.toList fls nv (rem ops.size listed) tm (lkH hp) tm' HF → Teq tmF tm' → TmR w B (lkH hp) (Vl nv listed) nt tm a → HR w B (lkH hp) (Vl nv listed) →
        Mono w0 B0 (lkH hp0) (· < nv) w B (lkH hp) (Vl nv listed) → Q .normal a w := by
    intro listed hsz hrem tm tm' hp w B a hrun hte ht hr hm
    rw [hrem] at hrun
    obtain ⟨rfl, rfl⟩ := hrun
    have hV : ∀ v, Vl nv listed v → v < nv + ops.size := by
      rintro v (h | ⟨j, h1, rfl⟩)
      · omega
      · have : j < listed.size := by
          rcases Nat.lt_or_ge j listed.size with h | h
          · exact h
          · simp [Array.getElem?_eq_none h] at h1
        omega
    have hup : Mono w B (lkH hp) (Vl nv listed) w B (lkH hp) (· < nv + ops.size) := (Mono.refl ..).up hV
    exact hQ _ hp w B a hte rfl (ht.mono hup) (hr.up hV) (hm.trans hup)
  have hready : ∀ (listed : Array Bool), listed.size = ops.size → Region.ready .any ops listed = [] → rem ops.size listed = [] := by
    intro listed hsz hre
    cases hrem : rem ops.size listed with
    | nil => rfl
    | cons i rest =>
      exfalso
      have hi : i ∈ rem ops.size listed := by rw [hrem]; simp
      obtain ⟨h1, h2⟩ := List.mem_filter.1 hi
      have hlt := List.mem_range.1 h1
      obtain ⟨l1, l2, h3, h4, _⟩ := rem_split hlt (by simpa using h2 : listed.getD i true = false)
      have hl1 : l1 = [] := by
        cases l1 with
        | nil => rfl
        | cons x l1 =>
          rw [hrem] at h3
          obtain ⟨rfl, _⟩ := List.cons.inj h3
          have := (h4 i (by simp)).1
          omega
      -- all smaller ones are listed
      have hsmall : ∀ x < i, listed.getD x false = true := by
        intro x hx
        cases hb : listed.getD x true with
        | true => rw [← getD_agree (by omega)]; exact hb
        | false =>
          have : x ∈ rem ops.size listed := List.mem_filter.2 ⟨List.mem_range.2 (by omega), by simpa using hb⟩
          obtain ⟨l1', l2', h5, h6, _⟩ := rem_split (show x < ops.size by omega) hb
          have hl1' : l1' = [] ∨ ∃ r, l1' = i :: r := by
            cases l1' with
            | nil => exact .inl rfl
            | cons y l1' => rw [hrem] at h5; obtain ⟨rfl, _⟩ := List.cons.inj h5; exact .inr ⟨_, rfl⟩
          rcases hl1' with rfl | ⟨r, rfl⟩
          · rw [hrem] at h5; obtain ⟨rfl, _⟩ := List.cons.inj h5; omega
          · have := (h6 i (by simp)).1; omega
      have ho : ∃ o, ops[i]? = some o := ⟨ops[i], by simp [hlt]⟩
      obtain ⟨o, ho⟩ := ho
      obtain ⟨fl, _, hp, _⟩ := drawOK_at hck (i := i) (o := o) (by simpa using ho)
      have : i ∈ Region.ready .any ops listed := mem_ready.2 ⟨by simpa using h2, o, ho, fun e he hb => hsmall _ (hp _ (mem_preds.2 ⟨e, he, hb, rfl⟩))⟩
      rw [hre] at this
      cases this
  induction fuel with
  | zero =>
    intro listed hsz hlen hdc tm tm' hp w B a hrun hte ht hr hm
    have hrem := List.eq_nil_of_length_eq_zero hlen
    refine ⟨?_, fin listed hsz hrem tm tm' hp w B a hrun hte ht hr hm⟩
    cases hre : Region.ready .any ops listed with
    | nil => rfl
    | cons i l =>
      have hi : i ∈ Region.ready .any ops listed := by rw [hre]; simp
      obtain ⟨h1, o, ho, _⟩ := mem_ready.1 hi
      have : i ∈ rem ops.size listed := List.mem_filter.2 ⟨List.mem_range.2 (Array.getElem?_eq_some_iff.1 ho).1, by rw [h1]; rfl⟩
      rw [hrem] at this
      cases this
  | succ fuel ih =>
    intro listed hsz hlen hdc tm tm' hp w B a hrun hte ht hr hm
    refine ⟨fun hre => fin listed hsz (hready listed hsz hre) tm tm' hp w B a hrun hte ht hr hm, fun i hi => ?_⟩
    obtain ⟨h1, o, ho, hpre⟩ := mem_ready.1 hi
    have hlt := (Array.getElem?_eq_some_iff.1 ho).1
    obtain ⟨l1, l2, h3, h4, h5⟩ := rem_split hlt h1
    obtain ⟨fl, hfl, hpl, hpair⟩ := drawOK_at hck (i := i) (o := o) (by simpa using ho)
    have hpred : ∀ p ∈ preds o, listed.getD p false = true := fun p hp => by
      obtain ⟨e, he, hb, rfl⟩ := mem_preds.1 hp
      exact hpre e he hb
    rw [h3] at hrun
    obtain ⟨u, H1, hs, tm'', hrun', hte'⟩ := Run.first (l1 := l1) (l2 := l2) (oi := o) (fi := fl) (by simpa using ho) hfl (fun x hx ox fx hox hfx => by
      obtain ⟨hxi, hxl⟩ := h4 x hx
      have hxf : listed.getD x false = false := by rw [← getD_agree (by omega)]; exact hxl
      rcases hpair x hxi with ⟨p, hp, h6⟩ | ⟨_, ox', fx', h6, h7, h8⟩
      · exfalso
        rcases h6 with rfl | ⟨h6, h7⟩
        · rw [hpred p hp] at hxf; cases hxf
        · rw [hdc p (hpred p hp) x h6 h7] at hxf; cases hxf
      · rw [hox] at h6; rw [hfx] at h7
        cases h6; cases h7
        exact h8) ⟨hp, rfl⟩ hrun
    have hver : ¬ Vl nv listed (nv + i) := by
      rintro (h | ⟨j, h6, h7⟩)
      · omega
      · obtain rfl : j = i := by omega
        rw [getD_agree (by omega), h6] at h1
        cases h1
    refine step_sound (fl := fl) hlv ho (hd o (by simpa using List.mem_of_getElem? (show ops.toList[i]? = some o by simpa using ho))) hver hs ht hr (fun w' B' hp' a' hh ht' hr' hm' => ?_)
    have hV : ∀ v, ors (Vl nv listed) (nv + i) v → Vl nv (listed.setIfInBounds i true) v := by
      rintro v ((h | ⟨j, h6, rfl⟩) | rfl)
      · exact .inl h
      · exact .inr ⟨j, getD_set_true h6, rfl⟩
      · exact .inr ⟨i, by rw [set_getD (by omega), if_pos rfl], rfl⟩
    have hup : Mono w' B' (lkH hp') (ors (Vl nv listed) (nv + i)) w' B' (lkH hp') (Vl nv (listed.setIfInBounds i true)) := (Mono.refl ..).up hV
    subst hh
    refine ih (listed.setIfInBounds i true) (by simpa using hsz) ?_ ?_ _ tm'' hp' w' B' a' (by rw [h5]; exact hrun') (fun t => (hte t).trans (hte' t)) (ht'.mono hup) (hr'.up hV) (hm.trans (hm'.trans hup))
    · rw [h5]
      rw [h3] at hlen
      simp only [List.length_append, List.length_cons] at hlen ⊢
      omega
    · intro j hj x hx hb
      rw [set_getD (by omega)] at hj ⊢
      split
      · rfl
      · split at hj
        · rename_i e
          subst e
          rcases hpair x hx with ⟨p, hp, h6⟩ | ⟨h6, _⟩
          · rcases h6 with rfl | ⟨h6, h7⟩
            · exact hpred p hp
            · exact hdc p (hpred p hp) x h6 h7
          · rw [h6] at hb; cases hb
        · exact hdc j hj x hx hb
end Go.Ab
/- Drawn regions: the rule, and its forms for simp. -/
namespace Go.Ab
open Classical

def A.wpD (fb ow : RId → Prop) : A → Hp → (PV → Hp → Prop) → Prop
  | .ret x, h, K => K x h
  | @A.vc p _ k, h, K => p ∧ A.wpD fb ow k h K
  | .hyp _ k, h, K => A.wpD fb ow k h K
  | .rd r k, h, K => ¬ fb r ∧ A.wpD fb ow (k (lkH h r)) h K
  | .wr r x k, h, K => ow r ∧ A.wpD fb ow k (setH h r x) K
  | .any _, _, _ => False
  | @A.dec p d k, h, K => A.wpD fb ow (k (@decide p d)) h K
  | .opt o k, h, K => A.wpD fb ow (k o) h K
  | .all .., _, _ => False
  | .fail, _, _ => False

theorem A.wpD_ok {fb ow} {a : A} {hp : Hp} {K : PV → Hp → Prop} (h : a.wpD fb ow hp K) : ∃ v hp', a.ok fb ow (lkH hp) v (lkH hp') ∧ K v hp' := by
  induction a generalizing hp with
  | ret x => exact ⟨x, hp, ⟨rfl, rfl⟩, h⟩
  | vc p k ih => obtain ⟨v, hp', h1, h2⟩ := ih h.2; exact ⟨v, hp', ⟨h.1, h1⟩, h2⟩
  | hyp p k ih => exact ih h
  | rd r k ih => obtain ⟨v, hp', h1, h2⟩ := ih _ h.2; exact ⟨v, hp', ⟨h.1, h1⟩, h2⟩
  | wr r x k ih =>
    obtain ⟨v, hp', h1, h2⟩ := ih h.2
    have : (lkH (setH hp r x)) = fun j => if j = r then x else lkH hp j := funext fun j => lookH_setH hp r j x
    rw [this] at h1
    exact ⟨v, hp', ⟨h.1, h1⟩, h2⟩
  | any k ih => exact h.elim
  | dec p k ih => exact ih _ h
  | opt o k ih => exact ih _ h
  | all p k ih => exact h.elim
  | fail => exact h.elim

def A.gwpD (c : Bool) (fb : RId → Prop) : A → Hp → (PV → Prop) → Prop
  | .ret x, _, K => K x
  | @A.vc p _ k, h, K => (c = true → p) ∧ A.gwpD c fb k h K
  | .hyp _ k, h, K => A.gwpD c fb k h K
  | .rd r k, h, K => (c = true → ¬ fb r) ∧ A.gwpD c fb (k (lkH h r)) h K
  | .wr .., _, _ => False
  | .any _, _, _ => False
  | @A.dec p d k, h, K => A.gwpD c fb (k (@decide p d)) h K
  | .opt o k, h, K => A.gwpD c fb (k o) h K
  | .all .., _, _ => False
  | .fail, _, _ => False

theorem A.gwpD_ok {c : Bool} {fb ow} {a : A} {hp : Hp} {K : PV → Prop} (h : a.gwpD c fb hp K) : ∃ v, (c = true → a.ok fb ow (lkH hp) v (lkH hp)) ∧ K v := by
  induction a with
  | ret x => exact ⟨x, fun _ => ⟨rfl, rfl⟩, h⟩
  | vc p k ih => obtain ⟨v, h1, h2⟩ := ih h.2; exact ⟨v, fun e => ⟨h.1 e, h1 e⟩, h2⟩
  | hyp p k ih => exact ih h
  | rd r k ih => obtain ⟨v, h1, h2⟩ := ih _ h.2; exact ⟨v, fun e => ⟨h.1 e, h1 e⟩, h2⟩
  | wr r x k ih => exact h.elim
  | any k ih => exact h.elim
  | dec p k ih => exact ih _ h
  | opt o k ih => exact ih _ h
  | all p k ih => exact h.elim
  | fail => exact h.elim

/-- What a quiet call may be met by. -/
inductive QWp (P : Program) (id : RId) (ver : Nat) (fb : RId → Prop) (f : FuncId) (args : List PV) (hp : Hp) (K : PV → Hp → Prop) : Prop
  | frozen (res : PV) (h : CallsF P f args res) (hpl : ∀ c ∈ args, plainArgL c) (k : K res hp)
  | plain (res : PV) (hfb : ∀ r, ¬ fb r) (h : CallsF P f (args.map (view 9 hp)) res) (hr : leafyL res) (k : K res hp)
  | own (node : PV) (res : RId → Nat → PV) (h : CallsO P f args node res) (hpl : ∀ c ∈ args, plainArgL c) (k : K (res id ver) (setH hp id (some ⟨ver, node⟩)))
  | ownPlain (sz n : Nat) (g : Nat → Nat → PV) (res : RId → Nat → PV) (hfb : ∀ r, ¬ fb r) (h : CallsO P f (args.map (view 9 hp)) (.own sz n g) res) (hr : leafyL (res id ver)) (hg : ∀ i o, i < n → leafy (g i o)) (k : K (res id ver) (setH hp id (some ⟨ver, .own sz n g⟩)))

theorem QWp.ok {P id ver fb f args hp K} (h : QWp P id ver fb f args hp K) : ∃ v hp', QCall P id ver fb f args (lkH hp) v (lkH hp') ∧ K v hp' := by
  have hset : ∀ x, lkH (setH hp id (some x)) = fun j => if j = id then some x else lkH hp j := fun x => funext fun j => lookH_setH hp id j (some x)
  cases h with
  | frozen res h hpl k => exact ⟨res, hp, .frozen res h hpl, k⟩
  | plain res hfb h hr k => exact ⟨res, hp, .plain res hp rfl hfb h hr, k⟩
  | own node res h hpl k => exact ⟨_, _, by rw [hset]; exact .own node res h hpl, k⟩
  | ownPlain sz n g res hfb h hr hg k => exact ⟨_, _, by rw [hset]; exact .ownPlain sz n g res hp rfl hfb h hr hg, k⟩

/-- The operations of a drawn region, in the text's order. -/
def opsD (P : Program) (lv : Nat) (all : List Oper) (K : Tm → Hp → Nat → Prop) : List Oper → List Fl → Tm → Hp → Nat → Prop
  | [], _, tm, hp, nv => K tm hp nv
  | o :: os, fls, tm, hp, nv => match guardC all tm o.guard with
    | none => False
    | some c => if isCall o.op then
        (c = true → owOf lv (fls.headD default) o (lv, o.dst.getD 0) ∧ callee tm o.op fun f args => QWp P (lv, o.dst.getD 0) nv (fbOf lv (fls.headD default).1) f args hp fun x hp' => opsD P lv all K os fls.tail (putT tm o.dst x) hp' (nv + 1)) ∧
        (c = false → opsD P lv all K os fls.tail (putT tm o.dst .undef) hp (nv + 1))
      else if changes o.op then
        (c = true → (opA P lv nv tm o).wpD (fbOf lv (fls.headD default).1) (owOf lv (fls.headD default) o) hp fun x hp' => opsD P lv all K os fls.tail (putT tm o.dst x) hp' (nv + 1)) ∧
        (c = false → opsD P lv all K os fls.tail (putT tm o.dst .undef) hp (nv + 1))
      else (opA P lv nv tm o).gwpD c (fbOf lv (fls.headD default).1) hp fun x => opsD P lv all K os fls.tail (putT tm o.dst (if o.guard.isSome then .whn c x else x)) hp (nv + 1)

theorem changes_call {o : Op} (h : isCall o = true) : changes o = true := by
  unfold isCall at h
  split at h
  · rfl
  · cases h

theorem opsD_run {P lv nv} {all : List Oper} {fls : List Fl} {K : Tm → Hp → Nat → Prop} (hlen : all.length = fls.length) : ∀ (os : List Oper) (i : Nat), (∃ tl, all.drop i = os ++ tl) → ∀ tm hp, opsD P lv all K os (fls.drop i) tm hp (nv + i) →
    ∃ tm' hp', Run P lv all fls nv (List.range' i os.length) tm (lkH hp) tm' (lkH hp') ∧ K tm' hp' (nv + (i + os.length)) := by
  intro os
  induction os with
  | nil => intro i _ tm hp h; exact ⟨tm, hp, ⟨rfl, rfl⟩, h⟩
  | cons o os ih =>
    intro i ⟨tl, hi⟩ tm hp h
    have hio : all[i]? = some o := by
      have := congrArg (fun l => l[0]?) hi
      simpa using this
    have hlt : i < all.length := (List.getElem?_eq_some_iff.1 hio).1
    have hos : ∃ tl, all.drop (i + 1) = os ++ tl := by
      have := congrArg List.tail hi
      exact ⟨tl, by simpa using this⟩
    obtain ⟨fl, hfl⟩ : ∃ fl, fls[i]? = some fl := ⟨fls[i]'(by omega), by simp [show i < fls.length by omega]⟩
    have hfd : fls.drop i = fl :: fls.drop (i + 1) := by
      rw [List.drop_eq_getElem_cons (by omega)]
      congr 1
      have := List.getElem?_eq_some_iff.1 hfl
      exact this.2
    have key : ∀ (u : PV) (hp1 : Hp), Step P lv all (nv + i) fl tm o (lkH hp) u (lkH hp1) → opsD P lv all K os (fls.drop (i + 1)) (putT tm o.dst u) hp1 (nv + i + 1) →
        ∃ tm' hp', Run P lv all fls nv (List.range' i (o :: os).length) tm (lkH hp) tm' (lkH hp') ∧ K tm' hp' (nv + (i + (o :: os).length)) := by
      intro u hp1 hs hk
      obtain ⟨tm', hp', h1, h2⟩ := ih (i + 1) hos _ hp1 (by rw [← Nat.add_assoc]; exact hk)
      refine ⟨tm', hp', ?_, ?_⟩
      · rw [List.length_cons, List.range'_succ]
        exact ⟨o, fl, u, lkH hp1, hio, hfl, hs, h1⟩
      · rw [List.length_cons, show i + (os.length + 1) = i + 1 + os.length by omega]; exact h2
    rw [hfd] at h
    simp only [opsD, List.headD_cons, List.tail_cons] at h
    cases hg : guardC all tm o.guard with
    | none => rw [hg] at h; exact h.elim
    | some c =>
      rw [hg] at h
      simp only at h
      have skip : changes o.op = true → c = false → opsD P lv all K os (fls.drop (i + 1)) (putT tm o.dst .undef) hp (nv + i + 1) →
          ∃ tm' hp', Run P lv all fls nv (List.range' i (o :: os).length) tm (lkH hp) tm' (lkH hp') ∧ K tm' hp' (nv + (i + (o :: os).length)) := by
        rintro hch rfl hk
        refine key .undef hp ⟨false, hg, ?_⟩ hk
        rw [hch]
        exact ⟨(fun e => by cases e), fun _ => ⟨rfl, rfl⟩⟩
      have doit : changes o.op = true → c = true → ∀ u hp1, StepT P lv (nv + i) (fbOf lv fl.1) (owOf lv fl o) tm o (lkH hp) u (lkH hp1) → opsD P lv all K os (fls.drop (i + 1)) (putT tm o.dst u) hp1 (nv + i + 1) →
          ∃ tm' hp', Run P lv all fls nv (List.range' i (o :: os).length) tm (lkH hp) tm' (lkH hp') ∧ K tm' hp' (nv + (i + (o :: os).length)) := by
        rintro hch rfl u hp1 hs hk
        refine key u hp1 ⟨true, hg, ?_⟩ hk
        rw [hch]
        exact ⟨fun _ => hs, (fun e => by cases e)⟩
      split at h
      · rename_i hc
        cases c with
        | true =>
          obtain ⟨how, h1⟩ := h.1 rfl
          obtain ⟨f, as, h2, h3⟩ := callee_iff.1 h1
          obtain ⟨v, hp1, h4, h5⟩ := h3.ok
          refine doit (changes_call hc) rfl v hp1 ?_ h5
          unfold StepT
          rw [if_pos hc]
          exact ⟨how, f, as, h2, h4⟩
        | false => exact skip (changes_call hc) rfl (h.2 rfl)
      · rename_i hc
        split at h
        · rename_i hch
          cases c with
          | true =>
            obtain ⟨v, hp1, h1, h2⟩ := A.wpD_ok (h.1 rfl)
            refine doit hch rfl v hp1 ?_ h2
            unfold StepT
            rw [if_neg hc]
            exact h1
          | false => exact skip hch rfl (h.2 rfl)
        · rename_i hch
          obtain ⟨v, h1, h2⟩ := A.gwpD_ok (ow := owOf lv fl o) h
          refine key _ hp ⟨c, hg, ?_⟩ h2
          rw [show changes o.op = false by simpa using hch]
          refine ⟨v, fun e => ?_, fun _ => rfl, rfl⟩
          unfold StepT
          rw [if_neg hc]
          exact h1 e

/-- Where a region is cut: lengths. -/
def cutsOK (ms : List Nat) (n : Nat) : Nat → List Nat → Bool
  | s, [] => Nat.beq s n
  | s, k :: ks => cutB ms (s + k) && cutsOK ms n (s + k) ks

/-- The operations of a drawn region, cut: one alone may do whatever it does. -/
def opsM (P : Program) (lv : Nat) (all : List Oper) (K : Tm → Hp → Nat → Prop) : Nat → List Nat → List Oper → List Fl → Tm → Hp → Nat → Prop
  | _, [], _, _, tm, hp, nv => K tm hp nv
  | s, k :: ks, os, fls, tm, hp, nv => match k with
    | 1 => match os with
      | o :: os => stepWp P lv all o (fun tm hp nv => opsM P lv all K (s + 1) ks os fls.tail tm hp nv) tm hp nv
      | [] => False
    | k => opsD P lv all (fun tm hp nv => opsM P lv all K (s + k) ks (os.drop k) (fls.drop k) tm hp nv) (os.take k) fls tm hp (nv + s)

theorem masksGo_length : ∀ (os : List Oper) (ms : List Nat), (masksGo os ms).length = ms.length + os.length := by
  intro os
  induction os with
  | nil => intro ms; simp [masksGo]
  | cons o os ih => intro ms; simp only [masksGo, ih, List.length_append, List.length_cons, List.length_nil]; omega

theorem opsM_sound {P : Program} {lv nv0 : Nat} {nt : FS} {ro : Option Nat} {ops : Array Oper} {fls : List Fl} {K : Tm → Hp → Nat → Prop} {Q : Exit → Act → World → Prop} (hlv : lv ≠ 0) (hd : ∀ o ∈ ops.toList, dstOK nt o.dst = true)
    (hck : drawOK ops.toList fls (masksGo ops.toList []) = true) {w0 : World} {B0 : Blocks} {hp0 : Hp}
    (hQ : ∀ tm hp nv w B a, K tm hp nv → TmR w B (lkH hp) (· < nv) nt tm a → HR w B (lkH hp) (· < nv) → Mono w0 B0 (lkH hp0) (· < nv0) w B (lkH hp) (· < nv) → Q .normal a w) :
    ∀ (ks : List Nat) (s : Nat), s ≤ ops.size → cutsOK (masksGo ops.toList []) ops.size s ks = true → (∀ i x, s ≤ i → i < ops.size → x < s → ((masksGo ops.toList []).getD i 0).testBit x = true) → ∀ tm hp nv w B a, opsM P lv ops.toList K s ks (ops.toList.drop s) (fls.drop s) tm hp nv →
      TmR w B (lkH hp) (· < nv) nt tm a → HR w B (lkH hp) (· < nv) → Mono w0 B0 (lkH hp0) (· < nv0) w B (lkH hp) (· < nv) → AnyAt ro P ops Q s a w := by
  have hlen : ops.toList.length = fls.length := by
    unfold drawOK at hck
    rw [Bool.and_eq_true] at hck
    exact eq_of_beq hck.1
  have hml : (masksGo ops.toList []).length = ops.size := by rw [masksGo_length]; simp
  intro ks
  induction ks with
  | nil =>
    intro s hs hc hcut tm hp nv w B a h ht hr hm listed hsz hl
    obtain rfl : s = ops.size := Nat.eq_of_beq_eq_true hc
    rw [Nat.sub_self]
    have hre : Region.ready .any ops listed = [] := by
      cases hre : Region.ready .any ops listed with
      | nil => rfl
      | cons i l =>
        obtain ⟨h1, o, ho, _⟩ := mem_ready.1 (show i ∈ Region.ready .any ops listed by rw [hre]; simp)
        have hlt := (Array.getElem?_eq_some_iff.1 ho).1
        have := (hl i).2 hlt
        rw [← getD_agree (by omega)] at this
        rw [this] at h1
        cases h1
    exact ⟨hre, hQ _ _ _ _ _ _ h ht hr hm⟩
  | cons k ks ih =>
    intro s hs hc hcut tm hp nv w B a h ht hr hm
    simp only [cutsOK, Bool.and_eq_true] at hc
    obtain ⟨hc1, hc2⟩ := hc
    have hle : ∀ (ks : List Nat) (s : Nat), cutsOK (masksGo ops.toList []) ops.size s ks = true → s ≤ ops.size := by
      intro ks
      induction ks with
      | nil => intro s h; exact Nat.le_of_eq (Nat.eq_of_beq_eq_true h)
      | cons k ks ih => intro s h; simp only [cutsOK, Bool.and_eq_true] at h; have := ih _ h.2; omega
    have hsk := hle _ _ hc2
    have hcut2 : ∀ i x, s + k ≤ i → i < ops.size → x < s + k → ((masksGo ops.toList []).getD i 0).testBit x = true := fun i x h1 h2 h3 => cutB_bits hc1 h1 (by omega) h3
    unfold opsM at h
    split at h
    · skip
      split at h
      · rename_i o os hos
        have hio : ops[s]? = some o := by
          have := congrArg (fun l => l[0]?) hos
          simpa using this
        have hos2 : ops.toList.drop (s + 1) = os := by
          have := congrArg List.tail hos
          simpa using this
        have hmem : o ∈ ops.toList := List.mem_of_getElem? (show ops.toList[s]? = some o by simpa using hio)
        refine any_one hck hcut2 (by omega) (oneOpK hlv hio (hd o hmem) (fun tm hp nv B w a hN ht hr hm => ?_) tm hp nv B w a h ht hr hm)
        exact ih (s + 1) hsk hc2 hcut2 tm hp nv w B a (by rw [hos2]; simpa using hN) ht hr hm
      · exact h.elim
    · skip
      obtain ⟨tm', hp', hrun, hk⟩ := opsD_run (nv := nv) hlen (ops.toList.drop s |>.take k) s ⟨(ops.toList.drop s).drop k, by rw [List.take_append_drop]⟩ tm hp h
      have htl : ((ops.toList.drop s).take k).length = k := by simp; omega
      rw [htl] at hrun hk
      intro listed hsz hl
      have hrem : rem (s + k) listed = List.range' s k := by
        unfold rem
        rw [List.range_eq_range', ← List.range'_append_1, List.filter_append]
        have e1 : (List.range' 0 s).filter (fun j => !listed.getD j true) = [] := List.filter_eq_nil_iff.2 fun x hx => by
          have hx := (List.mem_range'_1.1 hx).2
          have := (hl x).2 (by omega)
          rw [getD_agree (by omega), this]; simp
        have e2 : (List.range' (0 + s) k).filter (fun j => !listed.getD j true) = List.range' (0 + s) k := List.filter_eq_self.2 fun x hx => by
          have hx := List.mem_range'_1.1 hx
          have : listed.getD x false = false := by
            cases hb : listed.getD x false with
            | false => rfl
            | true => have := (hl x).1 hb; omega
          rw [getD_agree (by omega), this]; rfl
        rw [e1, e2]; simp
      have hV : ∀ v, v < nv → Vl nv listed v := fun v h => .inl h
      have hup : Mono w B (lkH hp) (· < nv) w B (lkH hp) (Vl nv listed) := (Mono.refl ..).up hV
      have := any_seg (ro := ro) (Q := Q) (nv := nv) (nv0 := nv0) hlv hd hck hcut2 hsk (w0 := w0) (B0 := B0) (hp0 := hp0) (tmF := tm') (HF := lkH hp') (fun tm2 hp2 w2 B2 a2 hte hh ht2 hr2 hm2 => by
        rw [hh] at ht2 hr2 hm2
        refine ih (s + k) hsk hc2 hcut2 tm' hp' (nv + (s + k)) w2 B2 a2 ?_ ⟨fun t => by rw [hte t]; exact ht2.val t, ht2.size, ht2.defers⟩ hr2 hm2
        rw [List.drop_drop, List.drop_drop] at hk
        exact hk) k listed hsz (fun j hj => by
          cases hb : listed.getD j false with
          | false => rfl
          | true => have := (hl j).1 hb; omega) (by rw [hrem]; simp) (fun i hi x hx _ => (hl x).2 (by have := (hl i).1 hi; omega)) tm tm' hp w B a (by rw [hrem]; exact hrun) (fun _ => rfl) (ht.mono hup) (hr.up hV) (hm.trans hup)
      rwa [show k + (ops.size - (s + k)) = ops.size - s by omega] at this

theorem Ev.regionM {P : Program} {lv : Nat} {nt : FS} {ro : Option Nat} {tm : Tm} {hp : Hp} {nv : Nat} {Q : Post} {id : Nat} {ops : Array Oper} (fls : List Fl) (ks : List Nat) (hmx : P.follows .mixedOrders = true) (hlv : lv ≠ 0)
    (hck : (ops.toList.all (fun o => dstOK nt o.dst) && drawOK ops.toList fls (masksGo ops.toList [])) = true) (hcuts : cutsOK (masksGo ops.toList []) ops.size 0 ks = true) (h : opsM P lv ops.toList (Q .normal) 0 ks ops.toList fls tm hp nv) : Ev P lv nt ro (.region id ops true) tm hp nv Q := by
  rw [Bool.and_eq_true] at hck
  obtain ⟨hd, hck⟩ := hck
  refine ⟨fun w B a hs => wpIn_region_any hmx ?_⟩
  have hm0 : Mono w B (lkH hp) (· < nv) { w with drawn := w.drawn + 1 } B (lkH hp) (· < nv) :=
    ⟨Nat.le_refl _, fun _ _ h => ⟨h, rfl⟩, fun _ _ _ _ h => ⟨h, rfl⟩, fun r p _ h => .inr ⟨r, p, h⟩, fun _ _ h => h, fun _ h => h, fun _ rt h => .inr ⟨rt, h, rfl, fun _ _ h => ⟨h, rfl⟩⟩, rfl, rfl, rfl⟩
  have hr0 : HR { w with drawn := w.drawn + 1 } B (lkH hp) (· < nv) :=
    ⟨fun r rt h => (hs.hp.root r rt h).mono hm0 (fun _ _ _ => ⟨rfl, fun _ _ => rfl⟩), hs.hp.ver, hs.hp.dom, hs.hp.lev, hs.hp.inj⟩
  have hno : ∀ j, (Array.replicate ops.size false).getD j false = false := fun j => by
    by_cases h : j < ops.size <;> simp [Array.getD, h]
  have := opsM_sound (ro := ro) (nv0 := nv) (K := Q .normal) (Q := fun e a' w' => ∃ tm' hp' nv' B', Q e tm' hp' nv' ∧ SR nt tm' hp' nv' w' B' a' ∧ Mono w B (lkH hp) (· < nv) w' B' (lkH hp') (· < nv')) hlv (fun o ho => List.all_eq_true.1 hd o ho) hck (w0 := w) (B0 := B) (hp0 := hp)
    (fun tm' hp' nv' w' B' a' hk ht hr hm => ⟨tm', hp', nv', B', hk, ⟨ht, hr⟩, hm⟩) ks 0 (Nat.zero_le _) hcuts (fun i x _ _ hx => absurd hx (Nat.not_lt_zero _)) tm hp nv { w with drawn := w.drawn + 1 } B a h (hs.tm.mono hm0) hr0 hm0
  exact this (Array.replicate ops.size false) (by simp) (fun j => by rw [hno]; simp)

theorem Ev.regionD {P : Program} {lv : Nat} {nt : FS} {ro : Option Nat} {tm : Tm} {hp : Hp} {nv : Nat} {Q : Post} {id : Nat} {ops : Array Oper} (fls : List Fl) (hmx : P.follows .mixedOrders = true) (hlv : lv ≠ 0)
    (hck : (ops.toList.all (fun o => dstOK nt o.dst) && drawOK ops.toList fls (masksGo ops.toList [])) = true) (h : opsD P lv ops.toList (Q .normal) ops.toList fls tm hp nv) : Ev P lv nt ro (.region id ops true) tm hp nv Q := by
  rw [Bool.and_eq_true] at hck
  obtain ⟨hd, hck⟩ := hck
  refine ⟨fun w B a hs => wpIn_region_any hmx ?_⟩
  have hm0 : Mono w B (lkH hp) (· < nv) { w with drawn := w.drawn + 1 } B (lkH hp) (· < nv) :=
    ⟨Nat.le_refl _, fun _ _ h => ⟨h, rfl⟩, fun _ _ _ _ h => ⟨h, rfl⟩, fun r p _ h => .inr ⟨r, p, h⟩, fun _ _ h => h, fun _ h => h, fun _ rt h => .inr ⟨rt, h, rfl, fun _ _ h => ⟨h, rfl⟩⟩, rfl, rfl, rfl⟩
  have hr0 : HR { w with drawn := w.drawn + 1 } B (lkH hp) (· < nv) :=
    ⟨fun r rt h => (hs.hp.root r rt h).mono hm0 (fun _ _ _ => ⟨rfl, fun _ _ => rfl⟩), hs.hp.ver, hs.hp.dom, hs.hp.lev, hs.hp.inj⟩
  have hlen : ops.toList.length = fls.length := by
    unfold drawOK at hck
    rw [Bool.and_eq_true] at hck
    exact eq_of_beq hck.1
  obtain ⟨tm', hp', hrun, hk⟩ := opsD_run hlen ops.toList 0 ⟨[], by simp⟩ tm hp h
  have hrem : rem ops.size (Array.replicate ops.size false) = List.range ops.size := by
    unfold rem
    refine List.filter_eq_self.2 fun x hx => ?_
    have := List.mem_range.1 hx
    simp [Array.getD, this]
  have hno : ∀ j, (Array.replicate ops.size false).getD j false = false := fun j => by
    by_cases h : j < ops.size <;> simp [Array.getD, h]
  have hV : ∀ v, v < nv → Vl nv (Array.replicate ops.size false) v := fun v h => .inl h
  have hup : Mono { w with drawn := w.drawn + 1 } B (lkH hp) (· < nv) { w with drawn := w.drawn + 1 } B (lkH hp) (Vl nv (Array.replicate ops.size false)) := (Mono.refl ..).up hV
  refine any_sound (nv := nv) hlv (fun o ho => List.all_eq_true.1 hd o ho) hck (w0 := w) (B0 := B) (hp0 := hp) (tmF := tm') (HF := lkH hp') (fun tm2 hp2 w2 B2 a2 hte hh ht2 hr2 hm2 => ?_) ops.size _ (by simp) (by rw [hrem]; simp)
    (fun i hi => by rw [hno] at hi; cases hi) tm tm' hp _ B a (by rw [hrem, List.range_eq_range']; simpa using hrun) (fun _ => rfl) ((hs.tm.mono hm0).mono hup) (hr0.up hV) (hm0.trans hup)
  have hn : nv + (0 + ops.toList.length) = nv + ops.size := by simp
  rw [hn] at hk
  rw [hh] at ht2 hr2 hm2
  exact ⟨tm', hp', nv + ops.size, B2, hk, ⟨⟨fun t => by rw [hte t]; exact ht2.val t, ht2.size, ht2.defers⟩, hr2⟩, hm2⟩
end Go.Ab
namespace Go.Ab

/-! ### Tables -/
inductive Tr (α : Type) : Type
  | nil
  | node (l : Tr α) (x : Option α) (r : Tr α)

namespace Tr
variable {α : Type}

def get : Tr α → Nat → Option α
  | nil, _ => none
  | node l x r, n => match n with
    | 0 => x
    | m + 1 => match Nat.mod m 2 with
      | 0 => l.get (Nat.div m 2)
      | _ + 1 => r.get (Nat.div m 2)

theorem get_succ (l : Tr α) (x : Option α) (r : Tr α) (m : Nat) : (node l x r).get (m + 1) = if m % 2 = 0 then l.get (m / 2) else r.get (m / 2) := by
  show (match m % 2 with | 0 => l.get (m / 2) | _ + 1 => r.get (m / 2)) = _
  cases h : m % 2 <;> simp

/-- A table with another entry, handed on when it is built. -/
def setK {β : Type} : Nat → Tr α → Nat → Option α → (Tr α → β) → β
  | 0, t, _, _, k => k t
  | f + 1, t, n, v, k => match t with
    | nil => match n with
      | 0 => k (node nil v nil)
      | m + 1 => match Nat.mod m 2 with
        | 0 => setK f nil (Nat.div m 2) v (fun l => k (node l none nil))
        | _ + 1 => setK f nil (Nat.div m 2) v (fun r => k (node nil none r))
    | node l x r => match n with
      | 0 => k (node l v r)
      | m + 1 => match Nat.mod m 2 with
        | 0 => setK f l (Nat.div m 2) v (fun l => k (node l x r))
        | _ + 1 => setK f r (Nat.div m 2) v (fun r => k (node l x r))

theorem setK_nil {β : Type} (f : Nat) (m : Nat) (v : Option α) (k : Tr α → β) : setK (f + 1) nil (m + 1) v k = if m % 2 = 0 then setK f nil (m / 2) v (fun l => k (node l none nil)) else setK f nil (m / 2) v (fun r => k (node nil none r)) := by
  show (match m % 2 with | 0 => setK f nil (m / 2) v (fun l => k (node l none nil)) | _ + 1 => setK f nil (m / 2) v (fun r => k (node nil none r))) = _
  cases h : m % 2 <;> simp
theorem setK_node {β : Type} (f : Nat) (l : Tr α) (x : Option α) (r : Tr α) (m : Nat) (v : Option α) (k : Tr α → β) : setK (f + 1) (node l x r) (m + 1) v k = if m % 2 = 0 then setK f l (m / 2) v (fun l => k (node l x r)) else setK f r (m / 2) v (fun r => k (node l x r)) := by
  show (match m % 2 with | 0 => setK f l (m / 2) v (fun l => k (node l x r)) | _ + 1 => setK f r (m / 2) v (fun r => k (node l x r))) = _
  cases h : m % 2 <;> simp

theorem get_nil (n : Nat) : (nil : Tr α).get n = none := by cases n <;> rfl

theorem setK_spec {β : Type} : ∀ (f : Nat) (t : Tr α) (n : Nat) (v : Option α) (k : Tr α → β), n + 1 < 2 ^ f → ∃ t', setK f t n v k = k t' ∧ ∀ j, t'.get j = if j = n then v else t.get j := by
  intro f
  induction f with
  | zero => intro t n v k h; simp at h
  | succ f ih =>
    intro t n v k h
    cases n with
    | zero =>
      cases t with
      | nil => refine ⟨_, rfl, fun j => ?_⟩; cases j <;> first | rfl | simp [get_succ, get_nil]
      | node l x r => refine ⟨_, rfl, fun j => ?_⟩; cases j <;> first | rfl | simp [get_succ]
    | succ m =>
      have hlt : m / 2 + 1 < 2 ^ f := by
        have : 2 ^ (f + 1) = 2 * 2 ^ f := by rw [Nat.pow_succ]; omega
        omega
      have hj : ∀ j, j ≠ m → j % 2 = m % 2 → j / 2 ≠ m / 2 := fun j h1 h2 h3 => by omega
      cases t with
      | nil =>
        by_cases h2 : m % 2 = 0
        · obtain ⟨t', h3, h4⟩ := ih nil (m / 2) v (fun l => k (node l none nil)) hlt
          refine ⟨_, by simp only [setK_nil, setK_node, h2, if_true]; exact h3, fun j => ?_⟩
          cases j with
          | zero => simp [get]
          | succ j =>
            simp only [get_succ, h4, get_nil, Nat.add_right_cancel_iff]
            by_cases hjm : j = m
            · subst hjm; simp [h2]
            · by_cases h5 : j % 2 = 0
              · simp [hjm, h5, hj j hjm (by omega)]
              · simp [hjm, h5]
        · obtain ⟨t', h3, h4⟩ := ih nil (m / 2) v (fun r => k (node nil none r)) hlt
          refine ⟨_, by simp only [setK_nil, setK_node, h2, if_false]; exact h3, fun j => ?_⟩
          cases j with
          | zero => simp [get]
          | succ j =>
            simp only [get_succ, h4, get_nil, Nat.add_right_cancel_iff]
            by_cases hjm : j = m
            · subst hjm; simp [h2]
            · by_cases h5 : j % 2 = 0
              · simp [hjm, h5]
              · simp [hjm, h5, hj j hjm (by omega)]
      | node l x r =>
        by_cases h2 : m % 2 = 0
        · obtain ⟨t', h3, h4⟩ := ih l (m / 2) v (fun l => k (node l x r)) hlt
          refine ⟨_, by simp only [setK_nil, setK_node, h2, if_true]; exact h3, fun j => ?_⟩
          cases j with
          | zero => simp [get]
          | succ j =>
            simp only [get_succ, h4, Nat.add_right_cancel_iff]
            by_cases hjm : j = m
            · subst hjm; simp [h2]
            · by_cases h5 : j % 2 = 0
              · simp [hjm, h5, hj j hjm (by omega)]
              · simp [hjm, h5]
        · obtain ⟨t', h3, h4⟩ := ih r (m / 2) v (fun r => k (node l x r)) hlt
          refine ⟨_, by simp only [setK_nil, setK_node, h2, if_false]; exact h3, fun j => ?_⟩
          cases j with
          | zero => simp [get]
          | succ j =>
            simp only [get_succ, h4, Nat.add_right_cancel_iff]
            by_cases hjm : j = m
            · subst hjm; simp [h2]
            · by_cases h5 : j % 2 = 0
              · simp [hjm, h5]
              · simp [hjm, h5, hj j hjm (by omega)]
end Tr

/-! ### Numbers made whole before they go on -/
def natK {β : Type} (n : Nat) (k : Nat → β) : β := match n with
  | 0 => k 0
  | m + 1 => k (m + 1)
theorem natK_eq {β : Type} (n : Nat) (k : Nat → β) : natK n k = k n := by cases n <;> rfl
def intK {β : Type} (n : Int) (k : Int → β) : β := match n with
  | .ofNat m => natK m fun m => k (.ofNat m)
  | .negSucc m => natK m fun m => k (.negSucc m)
theorem intK_eq {β : Type} (n : Int) (k : Int → β) : intK n k = k n := by cases n <;> simp [intK, natK_eq]
def boolK {β : Type} (b : Bool) (k : Bool → β) : β := match b with
  | true => k true
  | false => k false
theorem boolK_eq {β : Type} (b : Bool) (k : Bool → β) : boolK b k = k b := by cases b <;> rfl
def pvK {β : Type} (x : PV) (k : PV → β) : β := match x with
  | .int ik n => intK n fun n => k (.int ik n)
  | .bool b => boolK b fun b => k (.bool b)
  | x => k x
theorem pvK_eq {β : Type} (x : PV) (k : PV → β) : pvK x k = k x := by cases x <;> simp [pvK, intK_eq, boolK_eq]

abbrev TT := Tr PV
abbrev HT := Tr (List (Nat × Root))

def bits : Nat := 40
def TT.val (T : TT) (t : Nat) : PV := (T.get t).getD .undef
def asc : List (Nat × Root) → Nat → Option Root
  | [], _ => none
  | (d, rt) :: l, j => match Nat.beq d j with
    | true => some rt
    | false => asc l j

def ascK {β : Type} : List (Nat × Root) → Nat → Option Root → (List (Nat × Root) → β) → β
  | [], d, x, k => match x with
    | some rt => k [(d, rt)]
    | none => k []
  | (d', rt') :: l, d, x, k => match Nat.beq d' d with
    | true => ascK l d x k
    | false => ascK l d x fun l => k ((d', rt') :: l)

theorem beq_ne {a b : Nat} (h : a ≠ b) : Nat.beq a b = false := by
  cases hb : Nat.beq a b with
  | false => rfl
  | true => exact absurd (Nat.eq_of_beq_eq_true hb) h

theorem ascK_spec {β : Type} : ∀ (l : List (Nat × Root)) (d : Nat) (x : Option Root) (k : List (Nat × Root) → β), ∃ l', ascK l d x k = k l' ∧ ∀ j, asc l' j = if j = d then x else asc l j := by
  intro l
  induction l with
  | nil =>
    intro d x k
    cases x with
    | none => exact ⟨[], rfl, fun j => by simp [asc]⟩
    | some rt =>
      refine ⟨[(d, rt)], rfl, fun j => ?_⟩
      by_cases h : j = d
      · subst h; simp [asc]
      · have : Nat.beq d j = false := beq_ne fun e => h e.symm
        simp [asc, this, h]
  | cons y l ih =>
    obtain ⟨d', rt'⟩ := y
    intro d x k
    cases hb : Nat.beq d' d with
    | true =>
      obtain ⟨l', h1, h2⟩ := ih d x k
      refine ⟨l', by simp only [ascK, hb]; exact h1, fun j => ?_⟩
      rw [h2]
      split
      · rfl
      · rename_i hj
        have e := Nat.eq_of_beq_eq_true hb
        have : Nat.beq d' j = false := beq_ne fun e' => hj (e'.symm.trans e)
        simp [asc, this]
    | false =>
      obtain ⟨l', h1, h2⟩ := ih d x (fun l => k ((d', rt') :: l))
      refine ⟨(d', rt') :: l', by simp only [ascK, hb]; exact h1, fun j => ?_⟩
      have hne : d' ≠ d := fun e => by subst e; simp at hb
      simp only [asc, h2]
      cases hb' : Nat.beq d' j with
      | true =>
        have e := Nat.eq_of_beq_eq_true hb'
        have hjd : j ≠ d := fun e' => hne (e.trans e')
        simp [hjd]
      | false => rfl

def HT.roots (H : HT) : Roots := fun r => match H.get r.1 with
  | some l => asc l r.2
  | none => none

/-- A root put, or taken away. -/
def HT.putK {β : Type} (H : HT) (r : RId) (x : Option Root) (k : HT → β) : β := match H.get r.1 with
  | some l => ascK l r.2 x fun l => H.setK bits r.1 (some l) k
  | none => ascK [] r.2 x fun l => H.setK bits r.1 (some l) k

theorem HT.putK_spec {β : Type} (H : HT) (r : RId) (x : Option Root) (k : HT → β) (hlt : r.1 < 1000000000) : ∃ H' : HT, H.putK r x k = k H' ∧ H'.roots = fun j => if j = r then x else H.roots j := by
  have key : ∀ l, (∀ j, asc l j = match H.get r.1 with | some l => asc l j | none => none) → ∃ H' : HT, (ascK l r.2 x fun l => H.setK bits r.1 (some l) k) = k H' ∧ H'.roots = fun j => if j = r then x else H.roots j := by
    intro l hl
    obtain ⟨l', h1, h2⟩ := ascK_spec l r.2 x (fun l => H.setK bits r.1 (some l) k)
    obtain ⟨H', h3, h4⟩ := Tr.setK_spec bits H r.1 (some l') k (by unfold bits; omega)
    refine ⟨H', h1.trans h3, funext fun j => ?_⟩
    simp only [HT.roots, h4]
    by_cases e1 : j.1 = r.1
    · rw [if_pos e1]
      simp only [h2]
      by_cases e2 : j.2 = r.2
      · rw [if_pos e2, if_pos (Prod.ext e1 e2)]
      · rw [if_neg e2, if_neg (fun e => e2 (by rw [e])), hl, e1]
    · rw [if_neg e1, if_neg (fun e => e1 (by rw [e]))]
  unfold HT.putK
  cases hg : H.get r.1 with
  | none => exact key [] (fun j => by simp [hg, asc])
  | some l => exact key l (fun j => by simp [hg])

/-- A small program run. -/
def A.run {β : Type} : A → HT → (PV → HT → Option β) → Option β
  | .ret x, H, k => pvK x fun x => k x H
  | @A.vc p d a, H, k => match d with
    | isTrue _ => a.run H k
    | isFalse _ => none
  | .hyp _ a, H, k => a.run H k
  | .rd r a, H, k => (a (H.roots r)).run H k
  | .wr r x a, H, k => match Nat.blt r.1 1000000000 with
    | false => none
    | true => H.putK r x fun H => a.run H k
  | .any _, _, _ => none
  | @A.dec p d a, H, k => match d with
    | isTrue _ => (a true).run H k
    | isFalse _ => (a false).run H k
  | .opt o a, H, k => (a o).run H k
  | .all l a, H, k => match l with
    | [i] => (a i).run H k
    | _ => none
  | .fail, _, _ => none

theorem A.run_ok {β : Type} {a : A} {H : HT} {k : PV → HT → Option β} {y : β} (h : a.run H k = some y) :
    ∃ v H', k v H' = some y ∧ ∀ hp, lkH hp = H.roots → ∃ hp', lkH hp' = H'.roots ∧ ∀ K : PV → Hp → Prop, K v hp' → a.wp hp K := by
  induction a generalizing H with
  | ret x => simp only [A.run, pvK_eq] at h; exact ⟨x, H, h, fun hp hh => ⟨hp, hh, fun K hk => hk⟩⟩
  | @vc p d a ih =>
    simp only [A.run] at h
    split at h
    · rename_i _ hp
      obtain ⟨v, H', h1, h2⟩ := ih h
      refine ⟨v, H', h1, fun hp' hh => ?_⟩
      obtain ⟨hp2, h3, h4⟩ := h2 hp' hh
      exact ⟨hp2, h3, fun K hk => ⟨hp, h4 K hk⟩⟩
    · cases h
  | hyp p a ih =>
    obtain ⟨v, H', h1, h2⟩ := ih h
    refine ⟨v, H', h1, fun hp' hh => ?_⟩
    obtain ⟨hp2, h3, h4⟩ := h2 hp' hh
    exact ⟨hp2, h3, fun K hk _ => h4 K hk⟩
  | rd r a ih =>
    obtain ⟨v, H', h1, h2⟩ := ih _ h
    refine ⟨v, H', h1, fun hp' hh => ?_⟩
    obtain ⟨hp2, h3, h4⟩ := h2 hp' hh
    exact ⟨hp2, h3, fun K hk => by show A.wp (a (lkH hp' r)) hp' K; rw [hh]; exact h4 K hk⟩
  | wr r x a ih =>
    simp only [A.run] at h
    split at h
    · cases h
    · rename_i hlt
      have hlt' : r.1 < 1000000000 := by simpa [Nat.blt_eq] using hlt
      obtain ⟨H1, e1, e2⟩ := HT.putK_spec H r x (fun H => a.run H k) hlt'
      rw [e1] at h
      obtain ⟨v, H', h1, h2⟩ := ih h
      refine ⟨v, H', h1, fun hp hh => ?_⟩
      obtain ⟨hp2, h3, h4⟩ := h2 (setH hp r x) (by
        rw [e2]
        funext j
        rw [lookH_setH, hh])
      exact ⟨hp2, h3, fun K hk => h4 K hk⟩
  | any k ih => cases h
  | @dec p d a ih =>
    simp only [A.run] at h
    split at h
    · rename_i _ hp
      obtain ⟨v, H', h1, h2⟩ := ih _ h
      refine ⟨v, H', h1, fun hp' hh => ?_⟩
      obtain ⟨hp2, h3, h4⟩ := h2 hp' hh
      exact ⟨hp2, h3, fun K hk => by simp only [A.wp, hp, decide_true]; exact h4 K hk⟩
    · rename_i _ hp
      obtain ⟨v, H', h1, h2⟩ := ih _ h
      refine ⟨v, H', h1, fun hp' hh => ?_⟩
      obtain ⟨hp2, h3, h4⟩ := h2 hp' hh
      exact ⟨hp2, h3, fun K hk => by simp only [A.wp, hp, decide_false]; exact h4 K hk⟩
  | opt o a ih => exact ih _ h
  | all l a ih =>
    rcases l with _ | ⟨i, _ | ⟨j, l⟩⟩
    · cases h
    · obtain ⟨v, H', h1, h2⟩ := ih i (H := H) h
      refine ⟨v, H', h1, fun hp' hh => ?_⟩
      obtain ⟨hp2, h3, h4⟩ := h2 hp' hh
      exact ⟨hp2, h3, fun K hk j hj => by simp only [List.mem_singleton] at hj; subst hj; exact h4 K hk⟩
    · cases h
  | fail => cases h
end Go.Ab
