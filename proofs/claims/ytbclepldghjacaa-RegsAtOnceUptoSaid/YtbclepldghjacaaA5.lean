/- What is read becomes frozen data. -/
import Derived.Test.YtbclepldghjacaaA4
import Derived.ChangeSame
import Derived.ProofKit
import Derived.OpenShut
import Derived.JoinedCond
import Derived.ReadAgain
set_option linter.unusedVariables false
set_option linter.unusedSimpArgs false
/- Running code: control, and functions. -/
namespace Go.Ab
open Classical
open Go.ChangeMaps (setBlock)

def scopeRounds (P : Program) (ro : Option Nat) (c : Code) (Q : Exit → Act → World → Prop) : Nat → Code → Act → World → Prop
  | 0, _, _, _ => False
  | m + 1, start, a, w => start.wpIn (Wd ro) 0 P (fun e a w => match e with
    | .goto l => match findLabel c l with
      | some rest => scopeRounds P ro c Q m rest a w
      | none => False
    | e => Q e a w) a w

theorem wpIn_scope_rounds {P : Program} {ro : Option Nat} {c : Code} {Q : Exit → Act → World → Prop} {a : Act} {w : World} (m : Nat) (h : scopeRounds P ro c Q m c a w) : (Code.scope c).wpIn (Wd ro) 0 P Q a w := by
  intro b k cs hro hb hroom
  have room : ∀ n, (Wd ro).room n := fun n _ h => by simp [Wd, Fence.wide] at h
  have hfn : ∀ f, (Wd ro).fn f := fun _ => trivial
  have out : ∀ (m : Machine) (e : Exit) (a' : Act) (w' : World), (∀ t, e ≠ .goto t) → ArrivesIn (Machine.fenced P (Wd ro)) P m b (.inScope c :: k) cs e a' w' → ArrivesIn (Machine.fenced P (Wd ro)) P m b k cs e a' w' := by
    intro m e a' w' hne harr
    cases e with
    | normal => exact harr.trans (.one (fenced_calm (n := 0) hb (room _) rfl) (stepR_inScope (b := b)))
    | exit id => exact ⟨fun k' hk => harr.1 k' (by simp [exitTo, hk]), fun hr hk => harr.2 hr (by simp [exitTo, hk])⟩
    | goto t => exact absurd rfl (hne t)
    | ret => exact harr
    | panic ch => exact harr
    | outgrown => exact harr
  have key : ∀ m start a w, scopeRounds P ro c Q m start a w →
      ∃ e a' w', Q e a' w' ∧ ArrivesIn (Machine.fenced P (Wd ro)) P (lone (b.atR a (.code start :: .inScope c :: k)) cs w) b k cs e a' w' := by
    intro m
    induction m with
    | zero => intro _ _ _ h; exact h.elim
    | succ m ih =>
      intro start a w h
      obtain ⟨e, a2, w2, hq, harr⟩ := h b (.inScope c :: k) cs hro (hfn _) (room _)
      cases e with
      | goto l =>
        simp only at hq
        split at hq
        · rename_i rest hf
          have hg : gotoIn l (.inScope c :: k) = some (.code rest :: .inScope c :: k) := by simp [gotoIn, hf]
          obtain ⟨e3, a3, w3, h3, harr3⟩ := ih rest a2 w2 hq
          exact ⟨e3, a3, w3, h3, .of_steps (harr.1 _ hg) harr3⟩
        · exact hq.elim
      | _ => exact ⟨_, a2, w2, hq, out _ _ _ _ (by simp) harr⟩
  obtain ⟨e, a', w', hq, harr⟩ := key m c a w h
  exact ⟨e, a', w', hq, .of_steps (.one (fenced_calm (n := 0) hb (room _) rfl) (stepR_scope (b := b))) harr⟩

theorem okCode_label {nt : Nat} {c : Code} {l : Nat} {rest : Code} (h : okCode nt c = true) (hf : findLabel c l = some rest) : okCode nt rest = true := by
  induction c generalizing rest with
  | seq x y ihx ihy =>
    simp only [okCode, Bool.and_eq_true] at h
    simp only [findLabel] at hf
    cases hx : findLabel x l with
    | some r =>
      rw [hx] at hf
      simp at hf
      subst hf
      simp only [okCode, Bool.and_eq_true]
      exact ⟨ihx h.1 hx, h.2⟩
    | none =>
      rw [hx] at hf
      exact ihy h.2 (by simpa using hf)
  | label m =>
    simp only [findLabel] at hf
    split at hf
    · cases hf; rfl
    · cases hf
  | _ => simp [findLabel] at hf

/-- What a run of code says. -/
def RunsTo (P : Program) (rg : Bool) (nt : Nat) (c : Code) (T : TT) (H : HT) (nv : Nat) (e : Exit) (T' : TT) (H' : HT) (nv' : Nat) : Prop :=
  ∀ (ro : Option Nat), (rg = true → ro = none) → ∀ (lo : Nat) (Q : Exit → Act → World → Prop) w B a, SX ⟨nt, lo⟩ T H nv w B a → (∀ w' B' a', SX ⟨nt, lo⟩ T' H' nv' w' B' a' → MX w B H nv w' B' H' nv' → Q e a' w') → c.wpIn (Wd ro) 0 P Q a w

theorem loopX_iff {β : Type} {H : HT} {r : RId} {v : Nat} {k : LoopState → Option Code → Nat → Array Tmp → Code → Code → (Nat → PV) → Option β} {y : β} (h : loopX H r v k = some y) :
    ∃ st pend nt ps asg body c, H.roots r = some ⟨v, .oloop ⟨st, pend, nt, ps, asg, body⟩ c⟩ ∧ k st pend nt ps asg body c = some y := by
  unfold loopX at h
  split at h
  · rename_i v' node hr
    split at h
    · rename_i hb
      obtain rfl := Nat.eq_of_beq_eq_true hb
      split at h
      · exact ⟨_, _, _, _, _, _, _, hr, h⟩
      · cases h
    · cases h
  · cases h

theorem putLX_iff {β : Type} {H : HT} {r : RId} {v : Nat} {st : LoopState} {pend : Option Code} {nt : Nat} {ps : Array Tmp} {asg body : Code} {c : Nat → PV} {k : HT → Option β} {y : β} (h : putLX H r v st pend nt ps asg body c k = some y) (hl : ∃ hp, lkH hp = H.roots) :
    ∃ H' : HT, k H' = some y ∧ H'.roots = (fun j => if j = r then some ⟨v, .oloop ⟨st, pend, nt, ps, asg, body⟩ c⟩ else H.roots j) ∧ ∃ hp, lkH hp = H'.roots := by
  unfold putLX at h
  split at h
  · rename_i hb
    obtain ⟨H', h1, h2⟩ := HT.putK_spec H r (some ⟨v, .oloop ⟨st, pend, nt, ps, asg, body⟩ c⟩) k (by simpa [Nat.blt_eq] using hb)
    obtain ⟨hp, hh⟩ := hl
    refine ⟨H', h1.symm.trans h, h2, setH hp r (some ⟨v, .oloop ⟨st, pend, nt, ps, asg, body⟩ c⟩), ?_⟩
    rw [h2]
    funext j
    rw [lookH_setH, hh]
  · cases h

/-- A loop over a function, run. -/
theorem rangeX_sound {β : Type} {P : Program} {call : CallX β} (hcall : CallOK P call) {nt : Nat} {g : Operand} {ps : Array Tmp} {asg body : Code} {f : FuncId} {first caps : List PV} {T : TT} {H : HT} {nv : Nat} {k : Exit → TT → HT → Nat → Option β} {y : β} (hl : ∃ hp, lkH hp = HT.roots H) (hg : evX T g = .func (.func f) first caps)
    (h : putLX H (nv + 1, 999999) nv .ready none nt ps asg body (TT.val T) (fun H => call f (first ++ [.sref .loop (nv + 1, 999999) nv] ++ caps) H (nv + 1) fun _ H nv' => loopX H (nv + 1, 999999) nv fun st pend nt' ps' asg' body' c => match st with
              | .busy => none
              | _ => putLX H (nv + 1, 999999) nv .exhausted pend nt' ps' asg' body' c fun H => pendX pend fun e => k e T H nv') = some y) :
    ∃ e H' nv', k e T H' nv' = some y ∧ (∃ hp, lkH hp = HT.roots H') ∧ ∀ (lo : Nat) (Q : Exit → Act → World → Prop) w B a, SX ⟨nt, lo⟩ T H nv w B a → (∀ w' B' a', SX ⟨nt, lo⟩ T H' nv' w' B' a' → MX w B H nv w' B' H' nv' → Q e a' w') → (Code.rangeFunc g ps asg body).wpIn (Wd none) 0 P Q a w := by
  obtain ⟨H1, h1, hH1, hl1⟩ := putLX_iff h hl
  obtain ⟨res, H2, nv2, h2, hc, hl2⟩ := hcall _ _ _ _ _ _ hl1 h1
  obtain ⟨st, pend, nt2, ps2, asg2, body2, c2, hrt2, h3⟩ := loopX_iff h2
  have hst : st ≠ .busy := by
    intro e; subst e; cases h3
  have h3' : putLX H2 (nv + 1, 999999) nv .exhausted pend nt2 ps2 asg2 body2 c2 (fun H => pendX pend fun e => k e T H nv2) = some y := by
    cases st <;> first | exact absurd rfl hst | exact h3
  obtain ⟨H3, h4, hH3, hl3⟩ := putLX_iff h3' hl2
  have hpd : ∃ e, k e T H3 nv2 = some y ∧ ((pend = none ∧ e = .normal) ∨ (pend = some .ret ∧ e = .ret) ∨ (∃ i, pend = some (.exit i) ∧ e = .exit i) ∨ (∃ t, pend = some (.goto t) ∧ e = .goto t)) := by
    unfold pendX at h4
    split at h4
    · exact ⟨_, h4, .inl ⟨rfl, rfl⟩⟩
    · split at h4
      · exact ⟨_, h4, .inr (.inl ⟨rfl, rfl⟩)⟩
      · exact ⟨_, h4, .inr (.inr (.inl ⟨_, rfl, rfl⟩))⟩
      · exact ⟨_, h4, .inr (.inr (.inr ⟨_, rfl, rfl⟩))⟩
      · cases h4
  obtain ⟨e, h5, hpe⟩ := hpd
  refine ⟨e, H3, nv2, h5, hl3, fun lo Q w B a hs hQ => wpIn_rangeFunc fun fn _ => ?_⟩
  obtain ⟨hp, hh⟩ := hl
  obtain ⟨hp2, hh2⟩ := hl2
  have hr := hs.hp
  have hev := hs.tm.evX g
  rw [hg] at hev
  generalize hgv : a.eval g = gv at hev
  obtain ⟨hr1, hm1⟩ := hr.alloc (.deferred (some [])) rfl
  have hver : ¬ (fun n => n < nv) nv := by simp
  have hid : ((nv + 1, 999999) : RId).1 ≠ 0 := by simp
  have hL : ∀ j, H1.roots j = lkH (setH hp (nv + 1, 999999) (some ⟨nv, .oloop ⟨.ready, none, nt, ps, asg, body⟩ (TT.val T)⟩)) j := by
    intro j
    rw [lookH_setH, hH1, hh]
  rw [← hh] at hr1 hm1
  obtain ⟨hr2, hm2⟩ := hr1.newS hver (nv + 1, 999999) hid (node := .oloop ⟨.ready, none, nt, ps, asg, body⟩ (TT.val T)) rfl
    (o := .loop { state := .ready, pending := none, fn := fn, tmps := a.tmps, params := ps, assign := asg, body := body, defers := w.heap.size }) rfl
    (fun hm => .oloop (tmps := a.tmps) (d := w.heap.size) (newB_self ..) (heap_alloc_new ..) hs.tm.size (fun t => (((hs.tm.val t).mono (by rw [← hh]; exact hm1)).mono hm)))
  have hm02 := hm1.trans hm2
  have hsz : (w.alloc (.deferred (some []))).heap.size = w.heap.size + 1 := by simp
  rw [← funext hL] at hr2 hm2 hm02
  rw [hsz] at hr2 hm2 hm02
  rw [hh] at hm02
  have hup : Mono ((w.alloc (.deferred (some []))).alloc (.loop { state := .ready, pending := none, fn := fn, tmps := a.tmps, params := ps, assign := asg, body := body, defers := w.heap.size })) (newB B (nv + 1, 999999) (w.heap.size + 1)) H1.roots (ors (· < nv) nv) _ (newB B (nv + 1, 999999) (w.heap.size + 1)) H1.roots (· < nv + 1) := (Mono.refl ..).up fun _ => ors_up
  have hr3 := hr2.up (V'' := (· < nv + 1)) fun _ => ors_up
  have hm03 := hm02.trans hup
  cases hev with
  | @func _ _ _ _ _ cs1 cs2 hl hl' g1 g2 =>
    have hyield : VR ((w.alloc (.deferred (some []))).alloc (.loop { state := .ready, pending := none, fn := fn, tmps := a.tmps, params := ps, assign := asg, body := body, defers := w.heap.size })) (newB B (nv + 1, 999999) (w.heap.size + 1)) H1.roots (· < nv + 1) (.sref .loop (nv + 1, 999999) nv) (.func (.yield (w.heap.size + 1)) #[] #[]) := by
      refine .sref (by omega) (fun rt hrt _ => ?_)
      rw [hL, lookH_setH, if_pos rfl] at hrt
      cases hrt
      exact ⟨w.heap.size + 1, at_nil.2 rfl, newB_self .., rfl⟩
    have hargs : LR ((w.alloc (.deferred (some []))).alloc (.loop { state := .ready, pending := none, fn := fn, tmps := a.tmps, params := ps, assign := asg, body := body, defers := w.heap.size })) (newB B (nv + 1, 999999) (w.heap.size + 1)) H1.roots (· < nv + 1) (first ++ [.sref .loop (nv + 1, 999999) nv] ++ caps) (cs1 ++ #[.func (.yield (w.heap.size + 1)) #[] #[]] ++ cs2) := by
      refine LR.append (LR.append ⟨hl, fun i hi => (g1 i hi).mono hm03⟩ ⟨rfl, fun i hi => ?_⟩) ⟨hl', fun i hi => (g2 i hi).mono hm03⟩
      obtain rfl : i = 0 := by simp at hi; omega
      exact hyield
    have hen := hc.1
    refine ⟨w.heap.size + 1, [{ target := .collected w.heap.size, args := #[] }], ((w.alloc (.deferred (some []))).alloc (.loop { state := .ready, pending := none, fn := fn, tmps := a.tmps, params := ps, assign := asg, body := body, defers := w.heap.size })), ⟨.fn (.func f) (cs2), cs1 ++ #[.func (.yield (w.heap.size + 1)) #[] #[]]⟩, ((w.alloc (.deferred (some []))).alloc (.loop { state := .ready, pending := none, fn := fn, tmps := a.tmps, params := ps, assign := asg, body := body, defers := w.heap.size })), f, cs1 ++ #[.func (.yield (w.heap.size + 1)) #[] #[]] ++ cs2, ((w.alloc (.deferred (some []))).alloc (.loop { state := .ready, pending := none, fn := fn, tmps := a.tmps, params := ps, assign := asg, body := body, defers := w.heap.size })), run_enterLoop_outer fn a.tmps ps asg body, ?_, fun _ _ => trivial, ?_, fun h => by simp [Wd, Fence.wide] at h, ?_⟩
    · simp [resolve, hgv, Deferred.ofValue]
      rfl
    · simp [invoke, hen _ _]
    · refine callsIn_Wd ((hc.2 _ _ _ hr3 hargs).mono fun e' w' he => ?_)
      obtain ⟨v, B', rfl, hv, hr', hm'⟩ := he
      have hlid : lkH hp2 (nv + 1, 999999) = some ⟨nv, .oloop ⟨st, pend, nt2, ps2, asg2, body2⟩ c2⟩ := by rw [hh2, hrt2]
      have hBid : B' (nv + 1, 999999) [] = some (w.heap.size + 1) := by
        rcases hm'.root (nv + 1, 999999) _ hrt2 with h1 | ⟨rt, h1, h2, h3⟩
        · exact absurd (Nat.lt_succ_self _) h1
        · rw [hL, lookH_setH, if_pos rfl] at h1
          cases h1
          exact ((h3 [] (false, 0, 1) (at_nil.2 rfl)).2).trans (newB_self ..)
      have hr'' := hr'
      have hm'' := hm'
      rw [← hh2] at hr''
      obtain ⟨rec, j1, j2, j3, j4, j5⟩ := loop_put hr'' hlid hBid (li' := ⟨.exhausted, pend, nt2, ps2, asg2, body2⟩) ⟨rfl, rfl, rfl, rfl⟩ (hp' := setH hp2 (nv + 1, 999999) (some ⟨nv, .oloop ⟨.exhausted, pend, nt2, ps2, asg2, body2⟩ c2⟩)) (fun j => lookH_setH ..)
      have hH3' : lkH (setH hp2 (nv + 1, 999999) (some ⟨nv, .oloop ⟨.exhausted, pend, nt2, ps2, asg2, body2⟩ c2⟩)) = H3.roots := by
        funext j
        rw [lookH_setH, hH3, hh2]
      rw [hH3'] at j4 j5
      rw [hh2] at j5
      have hend := run_endLoop (P := P) j1 (by rw [j2]; exact hst)
      have hall := (hm03.trans hm').trans j5
      have hsame : w'.putObj (w.heap.size + 1) (.loop { rec with state := .exhausted }) = setBlock w' (w.heap.size + 1) (.loop { rec with state := .exhausted, pending := pend }) := by
        have : rec.pending = pend := j3
        rw [← this]
        rfl
      rw [hsame] at hend
      have htm : TX (setBlock w' (w.heap.size + 1) (.loop { rec with state := .exhausted, pending := pend })) B' H3.roots (· < nv2) ⟨nt, lo⟩ T { a with defers := [{ target := .collected w.heap.size, args := #[] }] ++ a.defers } := by
        refine ⟨fun t => (hs.tm.val t).mono hall, hs.tm.size, ?_⟩
        obtain ⟨p0, bs0, p1, p2, p3⟩ := hs.tm.defers
        have hfree0 : free B w.heap.size := fun r p hb => by have := (hr.dom r p _ hb).1; omega
        have hfree1 : free (newB B (nv + 1, 999999) (w.heap.size + 1)) w.heap.size := fun r p hb => by
          by_cases e : r = (nv + 1, 999999)
          · subst e; have := (newB_id hb).2; omega
          · rw [newB_ne B _ _ e] at hb; exact hfree0 r p hb
        have hobj : ((w.alloc (.deferred (some []))).alloc (.loop { state := .ready, pending := none, fn := fn, tmps := a.tmps, params := ps, assign := asg, body := body, defers := w.heap.size })).heap[w.heap.size]? = some (.deferred (some [])) := by
          rw [heap_alloc_lt _ _ (by simp)]
          exact heap_alloc_new ..
        have hboth := (hm'.trans j5).free w.heap.size (by simp; omega) hfree1
        refine ⟨Nat.le_trans p0 hall.size, w.heap.size :: bs0, by rw [p1]; rfl, List.nodup_cons.2 ⟨fun hx => ?_, p2⟩, fun b hb => ?_⟩
        · have := lt_of_get (p3 _ hx).2.2; omega
        · rcases List.mem_cons.1 hb with rfl | hb
          · exact ⟨p0, hboth.1, hboth.2.trans hobj⟩
          · obtain ⟨r1, r2, r3⟩ := p3 b hb
            obtain ⟨r4, r5⟩ := hall.free b (lt_of_get r3) r2
            exact ⟨r1, r4, r5.trans r3⟩
      have hq := hQ _ _ _ ⟨htm, j4, hl3⟩ hall
      refine ⟨rec.pending, _, hend, ?_⟩
      rw [show rec.pending = pend from j3]
      rcases hpe with ⟨rfl, rfl⟩ | ⟨rfl, rfl⟩ | ⟨i, rfl, rfl⟩ | ⟨t, rfl, rfl⟩
      · exact hq
      · exact wpIn_ret hq
      · exact wpIn_exit hq
      · exact wpIn_goto hq

theorem codeX_sound {β : Type} {P : Program} (hmx : P.follows .mixedOrders = true) {call : CallX β} (hcall : CallOK P call) {yl : YieldX β} (hyl : YieldOK P yl) {nt : Nat} {rg : Bool} (hnt : nt < 1000000) {y : β} :
    ∀ (n : Nat),
    (∀ (c : Code), okCode nt c = true → ∀ (k : Exit → TT → HT → Nat → Option β) T H nv, (∃ hp, lkH hp = HT.roots H) → codeX P call yl rg nt n none c T H nv k = some y →
      ∃ e T' H' nv', k e T' H' nv' = some y ∧ (∃ hp, lkH hp = HT.roots H') ∧ RunsTo P rg nt c T H nv e T' H' nv') ∧
    (∀ (c : Code), okCode nt c = true → ∀ (k : Exit → TT → HT → Nat → Option β) T H nv, (∃ hp, lkH hp = HT.roots H) → codeX P call yl rg nt n none (.loop c) T H nv k = some y →
      ∃ m e T' H' nv', k e T' H' nv' = some y ∧ (∃ hp, lkH hp = HT.roots H') ∧ ∀ (ro : Option Nat), (rg = true → ro = none) → ∀ (lo : Nat) (Q : Exit → Act → World → Prop) w B a, SX ⟨nt, lo⟩ T H nv w B a → (∀ w' B' a', SX ⟨nt, lo⟩ T' H' nv' w' B' a' → MX w B H nv w' B' H' nv' → Q e a' w') → Code.roundsIn (Wd ro) 0 P c Q m a w) ∧
    (∀ (s start : Code), okCode nt s = true → okCode nt start = true → ∀ (k : Exit → TT → HT → Nat → Option β) T H nv, (∃ hp, lkH hp = HT.roots H) → codeX P call yl rg nt n (some s) start T H nv k = some y →
      ∃ m e T' H' nv', k e T' H' nv' = some y ∧ (∃ hp, lkH hp = HT.roots H') ∧ ∀ (ro : Option Nat), (rg = true → ro = none) → ∀ (lo : Nat) (Q : Exit → Act → World → Prop) w B a, SX ⟨nt, lo⟩ T H nv w B a → (∀ w' B' a', SX ⟨nt, lo⟩ T' H' nv' w' B' a' → MX w B H nv w' B' H' nv' → Q e a' w') → scopeRounds P ro s Q m start a w) := by
  intro n
  induction n with
  | zero => exact ⟨fun c _ k T H nv _ h => by simp [codeX] at h, fun c _ k T H nv _ h => by simp [codeX] at h, fun s c _ _ k T H nv _ h => by simp [codeX] at h⟩
  | succ n ih =>
    obtain ⟨ihc, ihl, ihs⟩ := ih
    have loop : ∀ (c : Code), okCode nt c = true → ∀ (k : Exit → TT → HT → Nat → Option β) T H nv, (∃ hp, lkH hp = HT.roots H) → codeX P call yl rg nt (n + 1) none (.loop c) T H nv k = some y →
        ∃ m e T' H' nv', k e T' H' nv' = some y ∧ (∃ hp, lkH hp = HT.roots H') ∧ ∀ (ro : Option Nat), (rg = true → ro = none) → ∀ (lo : Nat) (Q : Exit → Act → World → Prop) w B a, SX ⟨nt, lo⟩ T H nv w B a → (∀ w' B' a', SX ⟨nt, lo⟩ T' H' nv' w' B' a' → MX w B H nv w' B' H' nv' → Q e a' w') → Code.roundsIn (Wd ro) 0 P c Q m a w := by
      intro c hok k T H nv hl h
      simp only [codeX] at h
      obtain ⟨e, T1, H1, nv1, h1, hl1, h2⟩ := ihc c hok _ T H nv hl h
      by_cases he : e = .normal
      · subst he
        obtain ⟨m, e2, T2, H2, nv2, h3, hl2, h4⟩ := ihl c hok k T1 H1 nv1 hl1 h1
        refine ⟨m + 1, e2, T2, H2, nv2, h3, hl2, fun ro hro lo Q w B a hs hQ => ?_⟩
        rw [roundsIn_succ]
        exact h2 ro hro lo _ w B a hs fun w' B' a' hs' hm' => h4 ro hro lo Q w' B' a' hs' fun w2 B2 a2 hs2 hm2 => hQ w2 B2 a2 hs2 (hm'.trans hm2)
      · refine ⟨1, e, T1, H1, nv1, ?_, hl1, fun ro hro lo Q w B a hs hQ => ?_⟩
        · cases e <;> first | exact absurd rfl he | exact h1
        · rw [roundsIn_succ]
          refine h2 ro hro lo _ w B a hs fun w' B' a' hs' hm' => ?_
          have := hQ w' B' a' hs' hm'
          cases e <;> first | exact absurd rfl he | exact this
    refine ⟨?_, loop, ?_⟩
    · intro c hok k T H nv hl h
      cases c with
      | skip => exact ⟨_, _, _, _, h, hl, fun ro hro lo Q w B a hs hQ => wpIn_skip (hQ w B a hs (Mono.refl ..))⟩
      | label l => exact ⟨_, _, _, _, h, hl, fun ro hro lo Q w B a hs hQ => wpIn_label (hQ w B a hs (Mono.refl ..))⟩
      | exit i => exact ⟨_, _, _, _, h, hl, fun ro hro lo Q w B a hs hQ => wpIn_exit (hQ w B a hs (Mono.refl ..))⟩
      | goto i => exact ⟨_, _, _, _, h, hl, fun ro hro lo Q w B a hs hQ => wpIn_goto (hQ w B a hs (Mono.refl ..))⟩
      | ret => exact ⟨_, _, _, _, h, hl, fun ro hro lo Q w B a hs hQ => wpIn_ret (hQ w B a hs (Mono.refl ..))⟩
      | region id ops draw =>
        cases draw with
        | true =>
          simp only [codeX] at h
          simp only [okCode, Bool.and_eq_true] at hok
          split at h
          · rename_i hck
            rw [natK_eq] at h
            obtain ⟨T', H', nv', h1, hl', h2⟩ := regionX_sound (id := id) hmx hcall hyl hnt (fun o ho => List.all_eq_true.1 hok.1 o ho)
              (fun o ho t ht => by simpa [Nat.blt_eq] using List.all_eq_true.1 (List.all_eq_true.1 hok.2 o ho) t ht) hck hl h
            exact ⟨.normal, T', H', nv', h1, hl', fun ro _ => h2 ro⟩
          · cases h
        | false =>
          simp only [codeX] at h
          obtain ⟨T', H', nv', h1, hl', h2⟩ := opsX_sound hcall hyl hnt (fun o ho => List.all_eq_true.1 (by simp only [okCode, Bool.and_eq_true] at hok; exact hok.1) o ho) ops.toList 0 ⟨[], by simp⟩ T H nv hl h
          refine ⟨.normal, T', H', nv', h1, hl', fun ro hro lo Q w B a hs hQ => wpIn_region ?_⟩
          have := h2 ro lo Q (Q .normal) w B a hs hQ
          rw [wpOpsK_ops] at this
          rw [List.range_eq_range']
          simpa using this
      | seq x z =>
        simp only [okCode, Bool.and_eq_true] at hok
        simp only [codeX] at h
        obtain ⟨e, T1, H1, nv1, h1, hl1, h2⟩ := ihc x hok.1 _ T H nv hl h
        by_cases he : e = .normal
        · subst he
          obtain ⟨e2, T2, H2, nv2, h3, hl2, h4⟩ := ihc z hok.2 k T1 H1 nv1 hl1 h1
          refine ⟨e2, T2, H2, nv2, h3, hl2, fun ro hro lo Q w B a hs hQ => wpIn_seq (h2 ro hro lo _ w B a hs fun w' B' a' hs' hm' => ?_)⟩
          exact h4 ro hro lo Q w' B' a' hs' fun w2 B2 a2 hs2 hm2 => hQ w2 B2 a2 hs2 (hm'.trans hm2)
        · refine ⟨e, T1, H1, nv1, ?_, hl1, fun ro hro lo Q w B a hs hQ => wpIn_seq (h2 ro hro lo _ w B a hs fun w' B' a' hs' hm' => ?_)⟩
          · cases e <;> first | exact absurd rfl he | exact h1
          · have := hQ w' B' a' hs' hm'
            cases e <;> first | exact absurd rfl he | exact this
      | cond c x z =>
        simp only [okCode, Bool.and_eq_true] at hok
        simp only [codeX] at h
        have hev : ∀ {nt' : FS} {w B a b}, SX nt' T H nv w B a → evX T c = .bool b → a.eval c = .bool b := by
          intro nt' w B a b hs hb
          have := hs.tm.evX c
          rw [hb] at this
          generalize a.eval c = v at this
          cases this
          rfl
        split at h
        · rename_i hb
          obtain ⟨e2, T2, H2, nv2, h3, hl2, h4⟩ := ihc x hok.1 k T H nv hl h
          exact ⟨e2, T2, H2, nv2, h3, hl2, fun ro hro lo Q w B a hs hQ => wpIn_cond (hev hs hb) (h4 ro hro lo Q w B a hs hQ)⟩
        · rename_i hb
          obtain ⟨e2, T2, H2, nv2, h3, hl2, h4⟩ := ihc z hok.2 k T H nv hl h
          exact ⟨e2, T2, H2, nv2, h3, hl2, fun ro hro lo Q w B a hs hQ => wpIn_cond (hev hs hb) (h4 ro hro lo Q w B a hs hQ)⟩
        · cases h
      | block id b =>
        simp only [okCode] at hok
        simp only [codeX] at h
        obtain ⟨e, T1, H1, nv1, h1, hl1, h2⟩ := ihc b hok _ T H nv hl h
        cases e with
        | exit i =>
          simp only at h1
          cases hb : Nat.beq i id with
          | true =>
            rw [hb] at h1
            have e1 : i = id := Nat.eq_of_beq_eq_true hb
            refine ⟨_, T1, H1, nv1, h1, hl1, fun ro hro lo Q w B a hs hQ => wpIn_block (h2 ro hro lo _ w B a hs fun w' B' a' hs' hm' => ?_)⟩
            simp only [Exit.inBlock, e1, if_true]
            exact hQ w' B' a' hs' hm'
          | false =>
            rw [hb] at h1
            have e1 : i ≠ id := fun e => by subst e; simp at hb
            refine ⟨_, T1, H1, nv1, h1, hl1, fun ro hro lo Q w B a hs hQ => wpIn_block (h2 ro hro lo _ w B a hs fun w' B' a' hs' hm' => ?_)⟩
            simp only [Exit.inBlock, e1, if_false]
            exact hQ w' B' a' hs' hm'
        | _ => exact ⟨_, T1, H1, nv1, h1, hl1, fun ro hro lo Q w B a hs hQ => wpIn_block (h2 ro hro lo _ w B a hs fun w' B' a' hs' hm' => hQ w' B' a' hs' hm')⟩
      | loop b =>
        simp only [okCode] at hok
        obtain ⟨m, e, T1, H1, nv1, h1, hl1, h2⟩ := loop b hok k T H nv hl h
        exact ⟨e, T1, H1, nv1, h1, hl1, fun ro hro lo Q w B a hs hQ => wpIn_loop_rounds m (h2 ro hro lo Q w B a hs hQ)⟩
      | scope b =>
        simp only [okCode] at hok
        simp only [codeX] at h
        obtain ⟨m, e, T1, H1, nv1, h1, hl1, h2⟩ := ihs b b hok hok k T H nv hl h
        exact ⟨e, T1, H1, nv1, h1, hl1, fun ro hro lo Q w B a hs hQ => wpIn_scope_rounds m (h2 ro hro lo Q w B a hs hQ)⟩
      | rangeFunc g ps x z =>
        simp only [codeX] at h
        split at h
        · rename_i hrg
          split at h
          · rename_i f first caps hg
            rw [natK_eq] at h
            obtain ⟨e, H', nv', h1, hl', h2⟩ := rangeX_sound hcall hl hg h
            exact ⟨e, T, H', nv', h1, hl', fun ro hro lo Q w B a hs hQ => by
              obtain rfl := hro rfl
              exact h2 lo Q w B a hs hQ⟩
          · cases h
        · cases h
      | refuse why => simp [codeX] at h
    · intro s start hs hst k T H nv hl h
      simp only [codeX] at h
      obtain ⟨e, T1, H1, nv1, h1, hl1, h2⟩ := ihc start hst _ T H nv hl h
      cases e with
      | goto l =>
        simp only at h1
        cases hf : findLabel s l with
        | none => rw [hf] at h1; cases h1
        | some rest =>
          rw [hf] at h1
          obtain ⟨m, e2, T2, H2, nv2, h3, hl2, h4⟩ := ihs s rest hs (okCode_label hs hf) k T1 H1 nv1 hl1 h1
          refine ⟨m + 1, e2, T2, H2, nv2, h3, hl2, fun ro hro lo Q w B a hs hQ => ?_⟩
          refine h2 ro hro lo _ w B a hs fun w' B' a' hs' hm' => ?_
          simp only [hf]
          exact h4 ro hro lo Q w' B' a' hs' fun w2 B2 a2 hs2 hm2 => hQ w2 B2 a2 hs2 (hm'.trans hm2)
      | _ => exact ⟨1, _, T1, H1, nv1, h1, hl1, fun ro hro lo Q w B a hs hQ => h2 ro hro lo _ w B a hs fun w' B' a' hs' hm' => hQ w' B' a' hs' hm'⟩

theorem tabX_spec {β : Type} : ∀ (n : Nat) (c : Nat → PV) (T : TT) (k : TT → β), n < 1000000 → ∃ T', tabX n c T k = k T' ∧ ∀ t, TT.val T' t = if t < n then c t else TT.val T t := by
  intro n
  induction n with
  | zero => intro c T k _; exact ⟨T, rfl, fun t => by simp⟩
  | succ n ih =>
    intro c T k h
    obtain ⟨T1, e1, e2⟩ := Tr.setK_spec bits T n (some (c n)) (fun T => tabX n c T k) (Nat.lt_of_le_of_lt (show n + 1 ≤ 1000000 by omega) (by decide))
    obtain ⟨T', e3, e4⟩ := ih c T1 k (by omega)
    refine ⟨T', ?_, fun t => ?_⟩
    · show pvK (c n) _ = _
      rw [pvK_eq, e1, e3]
    · have hT : TT.val T1 t = if t = n then c n else TT.val T t := by
        simp only [TT.val, e2]
        split <;> rfl
      rw [e4, hT]
      by_cases h1 : t < n
      · rw [if_pos h1, if_pos (by omega)]
      · by_cases h2 : t = n
        · subst h2; rw [if_neg h1, if_pos rfl, if_pos (by omega)]
        · rw [if_neg h1, if_neg h2, if_neg (by omega)]

theorem setX_spec {β : Type} {n : Nat} (hn : n < 1000000) : ∀ (ps : List Tmp) (as : List PV) (T : TT) (k : TT → β), (ps.all fun p => Nat.blt p n) = true → ∃ T', setX ps as T k = k T' ∧
    ∀ (w : World) (B : Blocks) (H : Roots) (V : Nat → Prop) (cs : List Value) (tmps : Array Value), as.length = cs.length → (∀ i, i < as.length → VR w B H V (as.getD i .undef) (cs.getD i Go.undef)) →
      (∀ t, VR w B H V (TT.val T t) (tmps.getD t Go.undef)) → tmps.size = n → (∀ t, VR w B H V (TT.val T' t) (((ps.zip cs).foldl (fun tmps (t, a) => tmps.setIfInBounds t a) tmps).getD t Go.undef)) ∧ ((ps.zip cs).foldl (fun tmps (t, a) => tmps.setIfInBounds t a) tmps).size = n := by
  intro ps
  induction ps with
  | nil => intro as T k _; exact ⟨T, by cases as <;> rfl, fun w B H V cs tmps _ _ h hs => ⟨by simpa using h, by simpa using hs⟩⟩
  | cons p ps ih =>
    intro as T k hp
    cases as with
    | nil => exact ⟨T, rfl, fun w B H V cs tmps hl _ h hs => by
        have : cs = [] := by simpa using hl.symm
        subst this
        exact ⟨by simpa using h, by simpa using hs⟩⟩
    | cons x as =>
      simp only [List.all_cons, Bool.and_eq_true] at hp
      have hpn : p < n := by simpa [Nat.blt_eq] using hp.1
      have hpn2 : (p : Nat) < 1000000 := Nat.lt_trans hpn hn
      obtain ⟨T1, e1, e2⟩ := Tr.setK_spec bits T p (some x) (fun T => setX ps as T k) (Nat.lt_of_le_of_lt (Nat.succ_le_of_lt hpn2) (by decide))
      obtain ⟨T', e3, e4⟩ := ih as T1 k hp.2
      refine ⟨T', e1.trans e3, fun w B H V cs tmps hl hv h hs => ?_⟩
      cases cs with
      | nil => simp at hl
      | cons y cs =>
        have h0 := hv 0 (by simp)
        simp only [List.getD_cons_zero] at h0
        refine e4 w B H V cs (tmps.setIfInBounds p y) (by simpa using hl) (fun i hi => by simpa using hv (i + 1) (by simpa using hi)) (fun t => ?_) (by simpa using hs)
        have hT : TT.val T1 t = if t = p then x else TT.val T t := by
          simp only [TT.val, e2]
          split <;> rfl
        rw [hT]
        split
        · rename_i e
          subst e
          have : t < tmps.size := by rw [hs]; exact hpn
          simpa [Array.getD_eq_getD_getElem?, this] using h0
        · rename_i e
          have := h t
          simpa [Array.getD_eq_getD_getElem?, Array.getElem?_setIfInBounds, Ne.symm e] using this

/-- A round, run. -/
theorem roundX_ok {β : Type} {P : Program} (hmx : P.follows .mixedOrders = true) {call : CallX β} (hcall : CallOK P call) {yl : YieldX β} (hyl : YieldOK P yl) (fuel : Nat) : YieldOK P (roundX P call yl fuel) := by
  intro r v as H nv k y hl h
  unfold roundX at h
  obtain ⟨st, pend, nt, ps, asg, body, c, hH, h⟩ := loopX_iff h
  split at h
  · split at h
    · rename_i hck
      simp only [Bool.and_eq_true] at hck
      obtain ⟨⟨⟨⟨c1, c2⟩, c3⟩, c4⟩, c5⟩ := hck
      have hnt : nt < 1000000 := by simpa [Nat.blt_eq] using c2
      obtain ⟨T0, e1, e2⟩ := tabX_spec nt c .nil (fun T => setX ps.toList as T fun T => codeX P call yl false nt fuel none asg T H nv fun e T H nv => match e with
      | .normal => loopX H r v fun st pend nt' ps asg body' c => match st with
        | .ready => putLX H r v .busy pend nt' ps asg body' c fun H => codeX P call yl false nt fuel none body T H nv fun e _ H nv => match e with
          | .normal => endX r v .ready none true H nv k
          | .ret => endX r v .done (some .ret) false H nv k
          | .exit i => endX r v .done (some (.exit i)) false H nv k
          | .goto t => endX r v .done (some (.goto t)) false H nv k
          | _ => none
        | _ => none
      | _ => none) hnt
      have h' := e1.symm.trans h
      obtain ⟨T1, e3, e4⟩ := setX_spec hnt ps.toList as T0 (fun T => codeX P call yl false nt fuel none asg T H nv fun e T H nv => match e with
      | .normal => loopX H r v fun st pend nt' ps asg body' c => match st with
        | .ready => putLX H r v .busy pend nt' ps asg body' c fun H => codeX P call yl false nt fuel none body T H nv fun e _ H nv => match e with
          | .normal => endX r v .ready none true H nv k
          | .ret => endX r v .done (some .ret) false H nv k
          | .exit i => endX r v .done (some (.exit i)) false H nv k
          | .goto t => endX r v .done (some (.goto t)) false H nv k
          | _ => none
        | _ => none
      | _ => none) c5
      have h'' := e3.symm.trans h'
      obtain ⟨e, T2, H2, nv2, h1, hl2, hrun1⟩ := (codeX_sound hmx hcall hyl hnt fuel).1 asg c3 _ T1 H nv hl h''
      cases e with
      | normal =>
        simp only at h1
        obtain ⟨st2, pend2, nt2, ps2, asg2, body2, c2', hH2, h3⟩ := loopX_iff h1
        split at h3
        · obtain ⟨H3, h4, hH3, hl3⟩ := putLX_iff h3 hl2
          obtain ⟨e', T4, H4, nv4, h5, hl4, hrun2⟩ := (codeX_sound hmx hcall hyl hnt fuel).1 body c4 _ T2 H3 nv2 hl3 h4
          have fin : ∀ (st : LoopState) (jump : Option Code) (b : Bool), endX r v st jump b H4 nv4 k = some y → b = jump.isNone → st = (if jump.isNone then .ready else .done) →
              ∃ H5 : HT, k (.bool b) H5 nv4 = some y ∧ (∃ hp, lkH hp = H5.roots) ∧ ∀ (w w4 : World) (B B4 : Blocks) (l : Nat), v < nv → B r [] = some l → MX w B H nv w4 B4 H4 nv4 → HR w4 B4 H4.roots (· < nv4) →
                ∃ x w', (Instr.endRound l jump).run P w4 = .ok x w' ∧ ∃ v1 B', Ending.returned x = .returned v1 ∧ VR w' B' H5.roots (· < nv4) (.bool b) v1 ∧ HR w' B' H5.roots (· < nv4) ∧ MX w B H nv w' B' H5 nv4 := by
            intro st jump b he hb hst
            unfold endX at he
            obtain ⟨st5, pd5, nt5, ps5, asg5, body5, c5', hH4, he⟩ := loopX_iff he
            obtain ⟨H5, he, hH5, hl5⟩ := putLX_iff he hl4
            refine ⟨H5, he, hl5, fun w w4 B B4 l hvn hB hm hr4 => ?_⟩
            obtain ⟨hp4, hh4⟩ := hl4
            have hb4 : B4 r [] = some l := by
              rcases hm.root r _ hH4 with g1 | ⟨rt, g1, g2, g3⟩
              · exact absurd hvn g1
              · rw [hH] at g1
                cases g1
                exact ((g3 [] (false, 0, 1) (at_nil.2 rfl)).2).trans hB
            rw [← hh4] at hr4
            obtain ⟨rec, j1, j2, j3, j4, j5⟩ := loop_put hr4 (li := ⟨st5, pd5, nt5, ps5, asg5, body5⟩) (by rw [hh4]; exact hH4) hb4 (li' := ⟨st, jump, nt5, ps5, asg5, body5⟩) ⟨rfl, rfl, rfl, rfl⟩ (hp' := setH hp4 r (some ⟨v, .oloop ⟨st, jump, nt5, ps5, asg5, body5⟩ c5'⟩)) (fun j => lookH_setH ..)
            have hH5' : lkH (setH hp4 r (some ⟨v, .oloop ⟨st, jump, nt5, ps5, asg5, body5⟩ c5'⟩)) = H5.roots := by
              funext j
              rw [lookH_setH, hH5, hh4]
            rw [hH5'] at j4 j5
            rw [hh4] at j5
            have her := run_endRound (P := P) jump j1
            refine ⟨_, _, her, .bool jump.isNone, B4, rfl, by rw [hb]; exact .bool _, ?_, ?_⟩
            · rw [← hst]; exact j4
            · rw [← hst]; exact hm.trans j5
          have close : ∀ (st : LoopState) (jump : Option Code) (b : Bool) (e0 : Exit), e' = e0 → (∀ (F : Ending → World → Prop) (l : Nat) (a : Act) (w4 : World), (∃ x w', (Instr.endRound l jump).run P w4 = .ok x w' ∧ F (.returned x) w') → roundPost P l F e0 a w4) → endX r v st jump b H4 nv4 k = some y → b = jump.isNone → st = (if jump.isNone then .ready else .done) →
              ∃ x H' nv', k x H' nv' = some y ∧ RoundsX P r v as H nv x H' nv' ∧ ∃ hp, lkH hp = HT.roots H' := by
            intro st jump b e0 he0 hpost he hb hst
            subst he0
            obtain ⟨H5, k5, hl5, hfin⟩ := fin st jump b he hb hst
            refine ⟨.bool b, H5, nv4, k5, ⟨_, _, _, hH, rfl, rfl, Nat.eq_of_beq_eq_true c1, fun w B cs l tmps d fn ro hr ha hB hh hval hsz => ?_⟩, hl5⟩
            have hvn : v < nv := hr.ver r _ hH
            refine roundIn_of_wpIn (F := { Fence.wide with round := ro }) trivial ?_
            show asg.wpIn (Wd (some l)) 0 P _ _ w
            obtain ⟨g1, g2⟩ := e4 w B H.roots (· < nv) cs.toList tmps (by simpa using ha.len) (fun i hi => by have := ha.val i hi; simpa [List.getD_eq_getElem?_getD, Array.getD_eq_getD_getElem?] using this)
              (fun t => by
                rw [e2]
                split
                · exact hval t
                · rw [show TT.val Tr.nil t = .undef from by simp [TT.val, Tr.get_nil]]; exact .undef _) hsz
            have hzip : (ps.zip cs).foldl (fun tmps (t, a) => tmps.setIfInBounds t a) tmps = (ps.toList.zip cs.toList).foldl (fun tmps (t, a) => tmps.setIfInBounds t a) tmps := by
              rw [← Array.foldl_toList, Array.toList_zip]
            show asg.wpIn (Wd (some l)) 0 P _ { tmps := (ps.zip cs).foldl (fun tmps (t, a) => tmps.setIfInBounds t a) tmps, defers := [] } w
            rw [hzip]
            refine hrun1 (some l) (fun e => by cases e) 0 _ w B _ ⟨⟨g1, g2, .nil (Nat.zero_le _)⟩, hr, hl⟩ fun w1 B1 a1 hs1 hm1 => ?_
            have hb1 : B1 r [] = some l := by
              rcases hm1.root r _ hH2 with q1 | ⟨rt, q1, q2, q3⟩
              · exact absurd hvn q1
              · rw [hH] at q1
                cases q1
                exact ((q3 [] (false, 0, 1) (at_nil.2 rfl)).2).trans hB
            obtain ⟨hp2, hh2⟩ := hl2
            have hr1 := hs1.hp
            rw [← hh2] at hr1
            obtain ⟨rec, j1, j2, j3, j4, j5⟩ := loop_put hr1 (li := ⟨.ready, pend2, nt2, ps2, asg2, body2⟩) (by rw [hh2]; exact hH2) hb1 (li' := ⟨.busy, pend2, nt2, ps2, asg2, body2⟩) ⟨rfl, rfl, rfl, rfl⟩ (hp' := setH hp2 r (some ⟨v, .oloop ⟨.busy, pend2, nt2, ps2, asg2, body2⟩ c2'⟩)) (fun j => lookH_setH ..)
            have hH3' : lkH (setH hp2 r (some ⟨v, .oloop ⟨.busy, pend2, nt2, ps2, asg2, body2⟩ c2'⟩)) = H3.roots := by
              funext j
              rw [lookH_setH, hH3, hh2]
            rw [hH3'] at j4 j5
            rw [hh2] at j5
            have hbr := run_beginRound (P := P) j1 j2
            have hsame : (w1.putObj l (.loop { rec with state := .busy })) = setBlock w1 l (.loop { rec with state := .busy, pending := pend2 }) := by
              have : rec.pending = pend2 := j3
              rw [← this]
              rfl
            refine ⟨_, hbr, ?_⟩
            rw [hsame]
            refine hrun2 (some l) (fun e => by cases e) 0 _ _ B1 a1 ⟨hs1.tm.mono j5, j4, hl3⟩ fun w4 B4 a4 hs4 hm4 => ?_
            have hmm := (hm1.trans j5).trans hm4
            exact hpost _ l a4 w4 (hfin w w4 B B4 l hvn hB hmm hs4.hp)
          cases e' with
          | normal => exact close .ready none true _ rfl (fun F l a w4 hx => hx) h5 rfl rfl
          | ret => exact close .done (some .ret) false _ rfl (fun F l a w4 hx => hx) h5 rfl rfl
          | exit i => exact close .done (some (.exit i)) false _ rfl (fun F l a w4 hx => hx) h5 rfl rfl
          | goto t => exact close .done (some (.goto t)) false _ rfl (fun F l a w4 hx => hx) h5 rfl rfl
          | _ => cases h5
        · cases h3
      | _ => cases h1
    · cases h
  · cases h
end Go.Ab
/- Running functions: contracts out of runs. -/
namespace Go.Ab
open Classical

def goodP (P : Program) : Bool := P.follows .mixedOrders && P.funcs.toList.all fun fn => (match fn.body with | some c => okCode fn.ntmps c | none => true) && Nat.blt fn.ntmps 1000000 && !(fn.name == "runtime.NumGoroutine")

theorem goodP_at {P : Program} (h : goodP P = true) {f : FuncId} {fn : Func} {c : Code} (hf : P.funcs[f]? = some fn) (hb : fn.body = some c) : okCode fn.ntmps c = true ∧ fn.ntmps < 1000000 ∧ Enters P f := by
  have hm : fn ∈ P.funcs.toList := by
    have : P.funcs.toList[f]? = some fn := by simpa using hf
    exact List.mem_of_getElem? this
  have h0 : P.follows .mixedOrders = true ∧ _ := Bool.and_eq_true_iff.1 h
  have := List.all_eq_true.1 h0.2 fn hm
  simp only [Bool.and_eq_true, hb] at this
  obtain ⟨⟨h1, h2⟩, h3⟩ := this
  exact ⟨h1, by simpa [Nat.blt_eq] using h2, fun args w => by
    have h4 : fn.name ≠ "runtime.NumGoroutine" := by simpa using h3
    simp [callFunc, hf, h4, hb]⟩

theorem paramsX_spec {β : Type} : ∀ (l : List PV) (i : Nat) (T : TT) (k : TT → β), i + l.length < 1000000 → ∃ T', paramsX i l T k = k T' ∧ ∀ t, TT.val T' t = if i ≤ t ∧ t < i + l.length then l.getD (t - i) .undef else TT.val T t := by
  intro l
  induction l with
  | nil => intro i T k _; exact ⟨T, rfl, fun t => by rw [if_neg]; simp⟩
  | cons x l ih =>
    intro i T k h
    simp only [List.length_cons] at h
    obtain ⟨T1, e1, e2⟩ := Tr.setK_spec bits T i (some x) (fun T => paramsX (i + 1) l T k) (Nat.lt_of_le_of_lt (show i + 1 ≤ 1000000 by omega) (by decide))
    obtain ⟨T', e3, e4⟩ := ih (i + 1) T1 k (by omega)
    refine ⟨T', e1.trans e3, fun t => ?_⟩
    have hT : TT.val T1 t = if t = i then x else TT.val T t := by
      simp only [TT.val, e2]
      split <;> rfl
    rw [e4, hT]
    by_cases h1 : t = i
    · subst h1
      rw [if_neg (by omega), if_pos rfl, if_pos (by simp)]
      simp
    · by_cases h2 : i + 1 ≤ t ∧ t < i + 1 + l.length
      · rw [if_pos h2, if_pos (by simp only [List.length_cons]; omega)]
        obtain ⟨d, hd⟩ : ∃ d, t - i = d + 1 := ⟨t - i - 1, by omega⟩
        rw [hd, show t - (i + 1) = d by omega]
        rfl
      · rw [if_neg h2, if_neg h1, if_neg (by simp only [List.length_cons]; omega)]

theorem yieldsX_ok {β : Type} {P : Program} (hmx : P.follows .mixedOrders = true) {call : CallX β} (hcall : CallOK P call) : ∀ m, YieldOK P (yieldsX P call m) := by
  intro m
  induction m with
  | zero => intro r v as H nv k y _ h; simp [yieldsX] at h
  | succ m ih => exact roundX_ok hmx hcall ih 1000000

theorem funW_ok {β : Type} {P : Program} (hP : goodP P = true) {ov : CallX β → CallX β} (hov : ∀ c, CallOK P c → CallOK P (ov c)) : ∀ n, CallOK (β := β) P (funW ov P n) := by
  intro n
  induction n with
  | zero => intro f ags H nv k y _ h; simp [funW] at h
  | succ n ih =>
    intro f ags H nv k y hl h
    simp only [funW] at h
    cases hf : P.funcs[f]? with
    | none => rw [hf] at h; cases h
    | some fn =>
      rw [hf] at h
      simp only at h
      cases hb : fn.body with
      | none => rw [hb] at h; cases h
      | some c =>
        rw [hb] at h
        simp only at h
        obtain ⟨hok, hnt, hen⟩ := goodP_at hP hf hb
        split at h
        · rename_i hn
          have hn' : ags.length ≤ fn.ntmps := Nat.le_of_ble_eq_true hn
          obtain ⟨T0, e1, e2⟩ := paramsX_spec ags 0 .nil _ (by omega)
          rw [e1] at h
          obtain ⟨e, T', H', nv', h1, hl', h2⟩ := (codeX_sound (rg := true) (Bool.and_eq_true_iff.1 hP).1 (hov _ ih) (yieldsX_ok (Bool.and_eq_true_iff.1 hP).1 (hov _ ih) 10) hnt 1000000).1 c hok _ T0 H nv hl h
          have fin : (resultsA P (small T' (resOps fn)) fn.results.toList).run H' (fun x H => k x H nv') = some y → (e = .normal ∨ e = .ret) →
              ∃ x H' nv', k x H' nv' = some y ∧ CallsX P f ags H nv x H' nv' ∧ ∃ hp, lkH hp = HT.roots H' := by
            intro hr he
            obtain ⟨x, H2, h3, h4⟩ := A.run_ok hr
            obtain ⟨hp1, hl1⟩ := hl'
            obtain ⟨hp2, hl2, h5⟩ := h4 hp1 hl1
            refine ⟨x, H2, nv', h3, ⟨hen, fun w B cs hr0 ha => ?_⟩, hp2, hl2⟩
            refine callsIn_wide.1 (callsIn_of_wp_marks (n := 0) hf hb trivial (h2 none (fun _ => rfl) w.heap.size _ w B _ ⟨⟨fun t => ?_, ?_, .nil (Nat.le_refl _)⟩, hr0, hl⟩ fun w' B' a' hs' hm' => ?_))
            · have hst := (start_tm (nt := ⟨fn.ntmps, 0⟩) ha hn' (Nat.zero_le _)).val t
              rw [lk_params] at hst
              have hT := e2 t
              rw [show TT.val Tr.nil t = .undef from by simp [TT.val, Tr.get_nil]] at hT
              rw [hT]
              exact hst
            · exact (start_tm (nt := ⟨fn.ntmps, 0⟩) ha hn' (Nat.zero_le _)).size
            · have hrun := h5 (fun v hp' => v = x ∧ hp' = hp2) ⟨rfl, rfl⟩
              obtain ⟨_, bs, d1, d2, d3⟩ := hs'.tm.defers
              obtain ⟨ht, hr2, hm2⟩ := take_turn hs'.hp hm' d3
              have hsm := hs'.tm.small (resOps fn)
              have ht' : TmR (takeB w' bs) B' H'.roots (· < nv') ⟨fn.ntmps, 0⟩ (small T' (resOps fn)) { tmps := a'.tmps, defers := [] } := ⟨fun t => (hsm.val t).turn ht, hsm.size, .nil (Nat.zero_le _)⟩
              have hr' := hr2
              rw [← hl1] at hr' ht'
              obtain ⟨v, x', g1, ⟨rfl, rfl⟩, g3⟩ := results_real (fn := fn) hr' ht' hrun
              have hpp : LeavesInM Fence.wide 0 P fn a'.tmps (fun e w' => ∃ v B', e = .returned v ∧ VR w' B' H2.roots (· < nv') x' v ∧ HR w' B' H2.roots (· < nv') ∧ MX w B H nv w' B' H2 nv') a'.defers .returning w' := by
                rw [d1]
                refine leaves_marks bs w' d2 (fun b hb => (d3 b hb).2.2) ⟨v, g1, v, B', rfl, ?_, ?_, ?_⟩
                · rw [← hl2]; exact g3
                · rw [← hl2, hl1]; exact hr2
                · show Mono w B H.roots (· < nv) (takeB w' bs) B' H2.roots (· < nv')
                  rw [← hl2, hl1]; exact hm2
              rcases he with rfl | rfl
              · exact hpp
              · exact hpp
          cases e <;> first | exact fin h1 (.inl rfl) | exact fin h1 (.inr rfl) | (simp at h1; done)
        · cases h

theorem funX_ok {β : Type} {P : Program} (hP : goodP P = true) (n : Nat) : CallOK (β := β) P (funX P n) := funW_ok hP (fun _ h => h) n

def boolOf : PV → Option Bool
  | .bool b => some b
  | _ => none

/-- A closed call that answers with a Boolean. -/
theorem callsF_bool {P : Program} (hP : goodP P = true) {f : FuncId} {args : List PV} {b : Bool} (n : Nat) (h : funX P n f args .nil 0 (fun x _ _ => boolOf x) = some b) : CallsF P f args (.bool b) := by
  obtain ⟨x, H', nv', h1, h2, hp', hl⟩ := funX_ok hP n _ _ _ _ _ _ ⟨[], by funext r; simp [lkH, HT.roots, Tr.get_nil]⟩ h
  have hx : x = .bool b := by
    cases x <;> simp_all [boolOf]
  subst hx
  exact callsF_of_X h2 hl (.refl _)
/-- The same, where some calls are known. -/
theorem callsF_boolW {P : Program} (hP : goodP P = true) {ov : CallX Bool → CallX Bool} (hov : ∀ c, CallOK P c → CallOK P (ov c)) {f : FuncId} {args : List PV} {b : Bool} (n : Nat) (h : funW ov P n f args .nil 0 (fun x _ _ => boolOf x) = some b) : CallsF P f args (.bool b) := by
  obtain ⟨x, H', nv', h1, h2, hp', hl⟩ := funW_ok hP hov n _ _ _ _ _ _ ⟨[], by funext r; simp [lkH, HT.roots, Tr.get_nil]⟩ h
  have hx : x = .bool b := by
    cases x <;> simp_all [boolOf]
  subst hx
  exact callsF_of_X h2 hl (.refl _)

/-- A new root of plain data, out of whatever is read. -/
theorem callsX_of_O {P : Program} {f : FuncId} {as : List PV} {H H' : HT} {hp : Hp} {nv sz n : Nat} {g : Nat → Nat → PV} {id : RId} (hid : id.1 ≠ 0) (hh : lkH hp = H.roots) (h : CallsO P f (as.map (view 9 hp)) (.own sz n g) (fun id ver => .ref id ver [] sz 0 n)) (hg : ∀ i o, i < n → leafy (g i o))
    (hH' : H'.roots = fun j => if j = id then some ⟨nv, .own sz n g⟩ else H.roots j) : CallsX P f as H nv (.ref id nv [] sz 0 n) H' (nv + 1) := by
  refine ⟨h.1, fun w B cs hr ha => ?_⟩
  have q : QCall P id nv (fun _ => False) f as (lkH hp) (.ref id nv [] sz 0 n) H'.roots := by
    rw [hH', ← hh]
    exact .ownPlain sz n g (fun id ver => .ref id ver [] sz 0 n) hp rfl (fun _ h => h) h trivial hg
  rw [← hh] at hr ha
  obtain ⟨_, hc⟩ := q.sound (V := (· < nv)) (V' := (· < nv + 1)) hid (by simp) (by simp) (fun n (h : n < nv) => Nat.lt_succ_of_lt h) hr ha
  refine hc.mono fun e w' he => ?_
  obtain ⟨v, B', e1, e2, e3, e4⟩ := he
  rw [hh] at e4
  exact ⟨v, B', e1, e2, e3, e4⟩
end Go.Ab
/- Contracts that answer with a new root; contracts on callers' roots. -/
namespace Go.Ab
open Classical

theorem callsO_ofS {P : Program} {f : FuncId} {fn : Func} {c : Code} {nt : Nat} {rs : Array ResultVar} {args : List PV} {node : PV} {res : RId → Nat → PV} (hmx : P.follows .mixedOrders = true) (he : Enters P f) (hf : P.funcs[f]? = some fn) (hb : fn.body = some c) (hnt : fn.ntmps = nt) (hrs : fn.results = rs)
    (hok : okS nt c = true) (hn : args.length ≤ nt) (h : ∀ lo, codeS P 1 ⟨nt, lo⟩ none [] c (params 0 args) [] 0 (bodyS P rs.toList [] fun x L _ => keepS res node x L)) : CallsO P f args node res := by
  have hev : ∀ lo, Ev P 1 ⟨nt, lo⟩ none c (params 0 args) [] 0 (bodyQ P rs.toList fun x hp nv => ∃ L, Rep [] L hp ∧ keepS res node x L) := by
    intro lo
    refine (codeS_sound hmx (by decide) c hok _ [] [] 0 _ (Rep.mk' [] []) (h lo)).mono fun e tm hp nv hq => ?_
    obtain ⟨L, h1, h2⟩ := hq
    have fin : (resultsA P tm rs.toList).rwpS [] L (fun x => keepS res node x L) → (resultsA P tm rs.toList).wp hp fun x hp' => ∃ L, Rep [] L hp' ∧ keepS res node x L := by
      intro h3
      refine callsF_ofS.wp_mono' (A.rwpS_wp h1 h3) fun x hp' ⟨e1, e2⟩ => ?_
      subst e1
      exact ⟨L, h1, e2⟩
    cases e with
    | normal => exact fin h2
    | ret => exact fin h2
    | _ => exact h2
  refine ⟨he, fun w B cs id ver hid hr ha => ?_⟩
  have hr' : HR w B (lkH []) (· < 0) := ⟨fun r rt h => (by simp [lkH] at h), fun r rt h => (by simp [lkH] at h), fun r p b h => by
    obtain ⟨h1, h2⟩ := hr.dom r p b h
    exact ⟨h1, h2.imp (fun h => h) (fun ⟨rt, s, h, _⟩ => by cases h)⟩, fun r rt h => (by simp [lkH] at h), hr.inj⟩
  have ha' : LR w B (lkH []) (· < 0) args cs := ha.turn fun x v _ hv => hv.lift (fun _ _ _ h => h)
  refine (body_calls hf hb hnt hrs hn hev hr' ha').mono fun e w' he => ?_
  obtain ⟨val, x, hp', nv', B', rfl, ⟨L, hrep, hkeep⟩, hv, hr2, hm⟩ := he
  have hm0 : Mono w B H0 V0 w' B' (lkH hp') (· < nv') := ⟨hm.size, hm.free, hm.foreign, hm.fresh, hm.shape, fun _ h => h.elim, fun r rt h => .inl fun h => h, hm.os, hm.tape, hm.output⟩
  exact callsO_core hid (fun j => by rw [hrep.eq]; simp) hkeep hv hr2 hm0

theorem NEq.tup2 {a a' b b' : PV} (h : NEq a a') (k : NEq b b') : NEq (.tup [a, b]) (.tup [a', b']) :=
  .tup rfl fun i hi => by
    match i, hi with
    | 0, _ => exact h
    | 1, _ => exact k
theorem KpV.refs {hs : Hp} {r id : RId} {v ver : Nat} {p : Path} {sz sz' lo lo' hi hi' : Nat} (h1 : sz = sz') (h2 : lo = lo') (h3 : hi = hi') : KpV none hs r v id ver (.ref r v p sz lo hi) (.ref id ver p sz' lo' hi') := by subst h1 h2 h3; exact .ref rfl
theorem NEq.clos {fn : Fn} {x y : PV} (h : NEq x y) : NEq (.func fn [] [x]) (.func fn [] [y]) :=
  .func rfl rfl (fun i hi => by simp at hi) fun i hi => by
    obtain rfl : i = 0 := by simpa using hi
    exact h
theorem NEq.clos2 {fn : Fn} {x y x' y' : PV} (h : NEq x y) (h' : NEq x' y') : NEq (.func fn [] [x, x']) (.func fn [] [y, y']) :=
  .func rfl rfl (fun i hi => by simp at hi) fun i hi => by
    obtain rfl | rfl : i = 0 ∨ i = 1 := by simp at hi; omega
    · exact h
    · exact h'
theorem NEq.frzs {sz sz' n n' : Nat} {f g : Nat → Nat → PV} (h1 : sz = sz') (h2 : n = n') (h : ∀ i o, i < n' → o < sz' → NEq (f i o) (g i o)) : NEq (.frz sz n f) (.frz sz' n' g) := by subst h1 h2; exact .frz h
theorem NEq.owns {sz sz' n n' : Nat} {f g : Nat → Nat → PV} (h1 : sz = sz') (h2 : n = n') (h : ∀ i o, i < n' → o < sz' → NEq (f i o) (g i o)) : NEq (.own sz n f) (.own sz' n' g) := by subst h1 h2; exact .own h
theorem plainAll {l : List PV} (h : l.all plainLB = true) : ∀ c ∈ l, plainArgL c := fun c hc => plainLB_plainL (List.all_eq_true.1 h c hc)

theorem plainNil : ∀ c ∈ ([] : List PV), plainArgL c := fun c hc => by cases hc
theorem plainCons {x : PV} {l : List PV} (h : plainArgL x) (k : ∀ c ∈ l, plainArgL c) : ∀ c ∈ x :: l, plainArgL c := fun c hc => by
  rcases List.mem_cons.1 hc with rfl | h'
  · exact h
  · exact k c h'
theorem plainArg_L {c : PV} (h : plainArg c) : plainArgL c := by cases c <;> simp_all [plainArg, plainArgL]

/-! ### On callers' roots -/
/-- No roots at a level or above. -/
def Above (n : Nat) (S : Hp) : Prop := ∀ a d, n ≤ a → lkH S (a, d) = none
theorem Above.nil {n : Nat} : Above n [] := fun _ _ _ => rfl
theorem Above.mono {n m : Nat} {S : Hp} (h : Above n S) (hn : n ≤ m) : Above m S := fun a d ha => h a d (Nat.le_trans hn ha)
theorem Above.cons {n a d : Nat} {x : Root} {S : Hp} (h : Above n S) (ha : a < n) : Above n (((a, d), x) :: S) := fun a' d' h' => by
  simp only [lkH]
  rw [if_neg (fun e => by have := congrArg Prod.fst e; simp at this; omega)]
  exact h a' d' h'

theorem CallsA.congr {P : Program} {f : FuncId} {args : List PV} {hp hp' : Hp} {nv : Nat} {Post : PV → Hp → Nat → Prop} (h : CallsA P f args hp nv Post) (e : ∀ r, lkH hp' r = lkH hp r) : CallsA P f args hp' nv Post := by
  have e' : lkH hp' = lkH hp := funext e
  refine ⟨h.1, fun w B cs hr ha => ?_⟩
  rw [e'] at hr ha ⊢
  exact h.2 w B cs hr ha
theorem CallsA.less {P : Program} {f : FuncId} {l m : List PV} {hp : Hp} {nv : Nat} {Post : PV → Hp → Nat → Prop} (h : CallsA P f m hp nv Post) (k : LeL l m) : CallsA P f l hp nv Post :=
  ⟨h.1, fun w B cs hr ha => h.2 w B cs hr (ha.less k)⟩

/-- What a body must end in, of which less may be told. -/
def endS (S : Hp) (R : PV → Hp → Nat → Prop) (x : PV) (L : Hp) (nv : Nat) : Prop := ∃ y L', R y L' nv ∧ NEq x y ∧ LeHp L L' ∧ Keeps S L L'

theorem callsA_ofS {P : Program} {f : FuncId} {fn : Func} {c : Code} {nt : Nat} {rs : Array ResultVar} {args : List PV} {lv nv : Nat} {S L : Hp} {R : PV → Hp → Nat → Prop} (hlv : lv ≠ 0) (hmx : P.follows .mixedOrders = true) (he : Enters P f) (hf : P.funcs[f]? = some fn) (hb : fn.body = some c) (hnt : fn.ntmps = nt) (hrs : fn.results = rs)
    (hok : okS nt c = true) (hn : args.length ≤ nt) (h : ∀ lo, codeS P lv ⟨nt, lo⟩ none S c (params 0 args) L nv (bodyS P rs.toList S (endS S R))) : CallsA P f args (L ++ S) nv fun x hp' nv' => ∃ L', hp' = L' ++ S ∧ R x L' nv' := by
  refine callsA_of (lv := lv) he hf hb hnt hrs hn fun lo => ((codeS_sound hmx hlv c hok _ L (L ++ S) nv _ (Rep.mk' S L) (h lo)).mono fun e tm hp nv' hq => ?_)
  obtain ⟨L1, h1, h2⟩ := hq
  have fin : (resultsA P tm rs.toList).rwpS S L1 (fun x => endS S R x L1 nv') → (resultsA P tm rs.toList).wp hp fun x hp' => ∃ tm2 hp2, (∃ L', hp2 = L' ++ S ∧ R (lk tm2 0) L' nv') ∧ Le [(0, x)] hp' nv' tm2 hp2 nv' := by
    intro h3
    refine callsF_ofS.wp_mono' (A.rwpS_wp h1 h3) fun x hp' ⟨e1, y, L2, g1, g2, g3, g4⟩ => ?_
    subst e1
    have hle : Le [(0, x)] (L1 ++ S) nv' [(0, y)] (L2 ++ S) nv' := LeS.le ⟨by simpa [LeTm, lk] using g2, g3, g4⟩
    exact ⟨[(0, y)], L2 ++ S, ⟨L2, rfl, g1⟩, hle.tm, fun r rt hr => by rw [h1.eq]; exact hle.hp r rt hr, Nat.le_refl _⟩
  cases e with
  | normal => exact fin h2
  | ret => exact fin h2
  | _ => exact h2

theorem CallS.onA {P : Program} {S L L0 M : Hp} {id : RId} {ver nv : Nat} {f : FuncId} {args : List PV} {K : PV → Hp → Nat → Prop} {R : PV → Hp → Nat → Prop} (h : CallsA P f args (L0 ++ (M ++ S)) nv fun x hp' nv' => ∃ L', hp' = L' ++ (M ++ S) ∧ R x L' nv')
    (hL : ∀ r, lkH L r = lkH (L0 ++ M) r) (k : ∀ x L' nv', R x L' nv' → fz x fun x => K x (L' ++ M) nv') : CallS P S id ver f args L nv K := by
  refine .on _ (h.congr fun r => ?_) fun x hp' nv' ⟨L', e, hR⟩ => ⟨L' ++ M, ?_, k x L' nv' hR⟩
  · rw [← List.append_assoc, Rep.mk' S L r, Rep.mk' S (L0 ++ M) r, lkS_eq, lkS_eq, hL]
  · rw [e, ← List.append_assoc]; exact Rep.mk' S (L' ++ M)

theorem endS.of {S : Hp} {R : PV → Hp → Nat → Prop} {x : PV} {L : Hp} {nv : Nat} (y : PV) (L' : Hp) (h : R y L' nv) (h1 : NEq x y) (h2 : LeHp L L') (h3 : Keeps S L L') : endS S R x L nv := ⟨y, L', h, h1, h2, h3⟩
/-- The same roots. -/
theorem Keeps.names {S L L' : Hp} (h : L.map (·.1) = L'.map (·.1)) : Keeps S L L' := .same fun r hr => by
  induction L generalizing L' with
  | nil => exact absurd rfl hr
  | cons x l ih =>
    obtain ⟨k, v⟩ := x
    cases L' with
    | nil => simp at h
    | cons x' l' =>
      obtain ⟨k', v'⟩ := x'
      simp only [List.map_cons, List.cons.injEq] at h
      obtain ⟨rfl, h⟩ := h
      simp only [lkH] at hr ⊢
      by_cases e : r = k
      · rw [if_pos e]; simp
      · rw [if_neg e] at hr ⊢; exact ih h hr

/-- What is left behind is the call's own. -/
theorem Keeps.chk {n : Nat} {S L L' : Hp} (hS : Above n S) (h : (L.all fun x => Nat.ble n x.1.1 || L'.any fun y => Nat.beq y.1.1 x.1.1 && Nat.beq y.1.2 x.1.2) = true) : Keeps S L L' := fun r h1 h2 => by
  induction L with
  | nil => exact absurd rfl h2
  | cons x l ih =>
    obtain ⟨k, v⟩ := x
    simp only [List.all_cons, Bool.and_eq_true] at h
    by_cases e : r = k
    · subst e
      rcases (Bool.or_eq_true _ _).mp h.1 with h3 | h3
      · exact hS _ _ (Nat.le_of_ble_eq_true h3)
      · exfalso
        obtain ⟨y, hy, h4⟩ := List.any_eq_true.1 h3
        rw [Bool.and_eq_true] at h4
        have e1 : y.1 = r := Prod.ext (Nat.eq_of_beq_eq_true h4.1) (Nat.eq_of_beq_eq_true h4.2)
        clear ih h h3 h2
        induction L' with
        | nil => cases hy
        | cons z l' ih' =>
          obtain ⟨k', v'⟩ := z
          simp only [lkH] at h1
          split at h1
          · cases h1
          · rename_i hne
            rcases List.mem_cons.1 hy with rfl | hy'
            · exact hne e1.symm
            · exact ih' h1 hy'
    · simp only [lkH, if_neg e] at h2
      exact ih h.2 h2

theorem ghostS0 {P : Program} {lv : Nat} {nt : FS} {ro : Option Nat} {S : Hp} {tm : Tm} {L : Hp} {nv : Nat} {Q : Post} {c : Code} (t : Nat) (id : RId) (hid : id.1 ≠ 0) (sz : Nat) (f : Nat → Nat → PV) (ht : lk tm t = .nils) (hL : lkH L id = none)
    (h : ∀ ver, Ev P lv nt ro c ((t, .ref id ver [] sz 0 0) :: tm) (((id, ⟨ver, .own sz 0 f⟩) :: L) ++ S) (ver + 1) (liftQ S Q)) : Ev P lv nt ro c tm (L ++ S) nv (liftQ S Q) :=
  ghostS t id hid sz f ht (L' := L) (fun j => by
    split
    · rename_i e; subst e; exact hL
    · rfl) h

theorem Above.chk {n : Nat} {L S : Hp} (h : (L.all fun x => Nat.blt x.1.1 n) = true) (hS : Above n S) : Above n (L ++ S) := fun a d ha => by
  induction L with
  | nil => exact hS a d ha
  | cons x l ih =>
    obtain ⟨k, v⟩ := x
    simp only [List.all_cons, Bool.and_eq_true] at h
    simp only [List.cons_append, lkH]
    have h1 : k.1 < n := by simpa [Nat.blt_eq] using h.1
    rw [if_neg (fun e => by subst e; simp at h1; omega)]
    exact ih h.2
/-- A call that works on one of the roots. -/
theorem CallS.on1 {P : Program} {S L : Hp} {id r : RId} {rt : Root} {ver nv n : Nat} {f : FuncId} {args : List PV} {K : PV → Hp → Nat → Prop} {R : PV → Hp → Nat → Prop} (hr : lkS L r = some rt) (hA : Above n (L ++ S))
    (h : ∀ S', Above n S' → CallsA P f args ([(r, rt)] ++ S') nv fun x hp' nv' => ∃ L', hp' = L' ++ S' ∧ R x L' nv')
    (k : delS L r fun M => ∀ x L' nv', R x L' nv' → fz x fun x => K x (L' ++ M) nv') : CallS P S id ver f args L nv K := by
  obtain ⟨M, e1, e2⟩ := delS_spec L r (fun M => ∀ x L' nv', R x L' nv' → fz x fun x => K x (L' ++ M) nv')
  rw [e1] at k
  have hM : ∀ j, lkH L j = lkH ([(r, rt)] ++ M) j := fun j => by
    show _ = if j = r then some rt else lkH M j
    rw [e2]
    by_cases e : j = r
    · rw [if_pos e, e, ← lkS_eq]; exact hr
    · rw [if_neg e, if_neg e]
  have hAM : Above n (M ++ S) := fun a d ha => by
    have h1 := hA a d ha
    rw [Rep.mk' S M, lkS_eq, e2]
    rw [Rep.mk' S L, lkS_eq] at h1
    by_cases e : (a, d) = r
    · rw [if_pos e]
      rw [e, ← lkS_eq, hr] at h1
      cases h1
    · rw [if_neg e]; exact h1
  exact CallS.onA (L0 := [(r, rt)]) (M := M) (h _ hAM) hM k

/-! ### Code as it stands -/
theorem evS {P : Program} {lv : Nat} {nt : FS} {ro : Option Nat} {S L : Hp} {c : Code} {tm : Tm} {nv : Nat} {Q : Post} (hmx : P.follows .mixedOrders = true) (hlv : lv ≠ 0) (hok : okS nt c = true) (h : codeS P lv nt ro S c tm L nv Q) : Ev P lv nt ro c tm (L ++ S) nv (liftQ S Q) :=
  codeS_sound hmx hlv c hok tm L _ nv Q (Rep.mk' S L) h

/-- A loop whose rounds begin with a step of another kind. -/
theorem loopES {P : Program} {lv : Nat} {nt : FS} {ro : Option Nat} {S : Hp} {tm : Tm} {L : Hp} {nv : Nat} {Q : Post} {b : Code} {ι : Type} (I : ι → Prop) (tmS : ι → Tm) (LS : ι → Hp) (μ : ι → Nat) (i0 : ι) (hI : I i0) (h0 : LeS S tm L (tmS i0) (LS i0))
    (hr : ∀ i nv, I i → Ev P lv nt ro b (tmS i) (LS i ++ S) nv (liftQ S (roundS S I tmS LS μ i Q))) : Ev P lv nt ro (.loop b) tm (L ++ S) nv (liftQ S Q) := by
  refine .loop (ι := {i : ι // I i}) (fun i => tmS i.1) (fun i => LS i.1 ++ S) (fun i => μ i.1) ⟨i0, hI⟩ h0.le (fun i nv => (hr i.1 nv i.2).mono fun e tm hp nv hq => ?_)
  obtain ⟨L', h1, h2⟩ := hq
  cases e with
  | normal =>
    obtain ⟨j, hj, h4, h3⟩ := h2
    refine ⟨⟨j, hj⟩, ?_, h4⟩
    have h5 := h3.le (nv := nv)
    exact ⟨h5.tm, fun r rt hr => by rw [h1.eq]; exact h5.hp r rt hr, Nat.le_refl _⟩
  | _ => exact ⟨L', h1, h2⟩
theorem loopS2 {P : Program} {lv : Nat} {nt : FS} {ro : Option Nat} {S : Hp} {tm : Tm} {L : Hp} {nv : Nat} {Q : Post} {b : Code} (hmx : P.follows .mixedOrders = true) (hlv : lv ≠ 0) (hok : okS nt b = true) {ι : Type} {κ : Type} (I : ι → κ → Prop) (tmS : ι → κ → Tm) (LS : ι → κ → Hp) (μ : ι → κ → Nat) (i0 : ι) (j0 : κ) (hI : I i0 j0) (h0 : LeS S tm L (tmS i0 j0) (LS i0 j0))
    (hr : ∀ i j nv, I i j → codeS P lv nt ro S b (tmS i j) (LS i j) nv (roundS S (fun p : ι × κ => I p.1 p.2) (fun p => tmS p.1 p.2) (fun p => LS p.1 p.2) (fun p => μ p.1 p.2) (i, j) Q)) : Ev P lv nt ro (.loop b) tm (L ++ S) nv (liftQ S Q) :=
  loopS hmx hlv hok (fun p : ι × κ => I p.1 p.2) (fun p => tmS p.1 p.2) (fun p => LS p.1 p.2) (fun p => μ p.1 p.2) (i0, j0) hI h0 fun ⟨i, j⟩ nv h => hr i j nv h
theorem loopES2 {P : Program} {lv : Nat} {nt : FS} {ro : Option Nat} {S : Hp} {tm : Tm} {L : Hp} {nv : Nat} {Q : Post} {b : Code} {ι : Type} {κ : Type} (I : ι → κ → Prop) (tmS : ι → κ → Tm) (LS : ι → κ → Hp) (μ : ι → κ → Nat) (i0 : ι) (j0 : κ) (hI : I i0 j0) (h0 : LeS S tm L (tmS i0 j0) (LS i0 j0))
    (hr : ∀ i j nv, I i j → Ev P lv nt ro b (tmS i j) (LS i j ++ S) nv (liftQ S (roundS S (fun p : ι × κ => I p.1 p.2) (fun p => tmS p.1 p.2) (fun p => LS p.1 p.2) (fun p => μ p.1 p.2) (i, j) Q))) : Ev P lv nt ro (.loop b) tm (L ++ S) nv (liftQ S Q) :=
  loopES (fun p : ι × κ => I p.1 p.2) (fun p => tmS p.1 p.2) (fun p => LS p.1 p.2) (fun p => μ p.1 p.2) (i0, j0) hI h0 fun ⟨i, j⟩ nv h => hr i j nv h
theorem loopS3 {P : Program} {lv : Nat} {nt : FS} {ro : Option Nat} {S : Hp} {tm : Tm} {L : Hp} {nv : Nat} {Q : Post} {b : Code} (hmx : P.follows .mixedOrders = true) (hlv : lv ≠ 0) (hok : okS nt b = true) {ι : Type} {κ : Type} {σ : Type} (I : ι → κ → σ → Prop) (tmS : ι → κ → σ → Tm) (LS : ι → κ → σ → Hp) (μ : ι → κ → σ → Nat) (i0 : ι) (j0 : κ) (k0 : σ) (hI : I i0 j0 k0) (h0 : LeS S tm L (tmS i0 j0 k0) (LS i0 j0 k0))
    (hr : ∀ i j k nv, I i j k → codeS P lv nt ro S b (tmS i j k) (LS i j k) nv (roundS S (fun p : ι × κ × σ => I p.1 p.2.1 p.2.2) (fun p => tmS p.1 p.2.1 p.2.2) (fun p => LS p.1 p.2.1 p.2.2) (fun p => μ p.1 p.2.1 p.2.2) (i, j, k) Q)) : Ev P lv nt ro (.loop b) tm (L ++ S) nv (liftQ S Q) :=
  loopS hmx hlv hok (fun p : ι × κ × σ => I p.1 p.2.1 p.2.2) (fun p => tmS p.1 p.2.1 p.2.2) (fun p => LS p.1 p.2.1 p.2.2) (fun p => μ p.1 p.2.1 p.2.2) (i0, j0, k0) hI h0 fun ⟨i, j, k⟩ nv h => hr i j k nv h
theorem loopES3 {P : Program} {lv : Nat} {nt : FS} {ro : Option Nat} {S : Hp} {tm : Tm} {L : Hp} {nv : Nat} {Q : Post} {b : Code} {ι : Type} {κ : Type} {σ : Type} (I : ι → κ → σ → Prop) (tmS : ι → κ → σ → Tm) (LS : ι → κ → σ → Hp) (μ : ι → κ → σ → Nat) (i0 : ι) (j0 : κ) (k0 : σ) (hI : I i0 j0 k0) (h0 : LeS S tm L (tmS i0 j0 k0) (LS i0 j0 k0))
    (hr : ∀ i j k nv, I i j k → Ev P lv nt ro b (tmS i j k) (LS i j k ++ S) nv (liftQ S (roundS S (fun p : ι × κ × σ => I p.1 p.2.1 p.2.2) (fun p => tmS p.1 p.2.1 p.2.2) (fun p => LS p.1 p.2.1 p.2.2) (fun p => μ p.1 p.2.1 p.2.2) (i, j, k) Q))) : Ev P lv nt ro (.loop b) tm (L ++ S) nv (liftQ S Q) :=
  loopES (fun p : ι × κ × σ => I p.1 p.2.1 p.2.2) (fun p => tmS p.1 p.2.1 p.2.2) (fun p => LS p.1 p.2.1 p.2.2) (fun p => μ p.1 p.2.1 p.2.2) (i0, j0, k0) hI h0 fun ⟨i, j, k⟩ nv h => hr i j k nv h
theorem loopS4 {P : Program} {lv : Nat} {nt : FS} {ro : Option Nat} {S : Hp} {tm : Tm} {L : Hp} {nv : Nat} {Q : Post} {b : Code} (hmx : P.follows .mixedOrders = true) (hlv : lv ≠ 0) (hok : okS nt b = true) {ι : Type} {κ : Type} {σ : Type} {ρ : Type} (I : ι → κ → σ → ρ → Prop) (tmS : ι → κ → σ → ρ → Tm) (LS : ι → κ → σ → ρ → Hp) (μ : ι → κ → σ → ρ → Nat) (i0 : ι) (j0 : κ) (k0 : σ) (l0 : ρ) (hI : I i0 j0 k0 l0) (h0 : LeS S tm L (tmS i0 j0 k0 l0) (LS i0 j0 k0 l0))
    (hr : ∀ i j k l nv, I i j k l → codeS P lv nt ro S b (tmS i j k l) (LS i j k l) nv (roundS S (fun p : ι × κ × σ × ρ => I p.1 p.2.1 p.2.2.1 p.2.2.2) (fun p => tmS p.1 p.2.1 p.2.2.1 p.2.2.2) (fun p => LS p.1 p.2.1 p.2.2.1 p.2.2.2) (fun p => μ p.1 p.2.1 p.2.2.1 p.2.2.2) (i, j, k, l) Q)) : Ev P lv nt ro (.loop b) tm (L ++ S) nv (liftQ S Q) :=
  loopS hmx hlv hok (fun p : ι × κ × σ × ρ => I p.1 p.2.1 p.2.2.1 p.2.2.2) (fun p => tmS p.1 p.2.1 p.2.2.1 p.2.2.2) (fun p => LS p.1 p.2.1 p.2.2.1 p.2.2.2) (fun p => μ p.1 p.2.1 p.2.2.1 p.2.2.2) (i0, j0, k0, l0) hI h0 fun ⟨i, j, k, l⟩ nv h => hr i j k l nv h
theorem loopES4 {P : Program} {lv : Nat} {nt : FS} {ro : Option Nat} {S : Hp} {tm : Tm} {L : Hp} {nv : Nat} {Q : Post} {b : Code} {ι : Type} {κ : Type} {σ : Type} {ρ : Type} (I : ι → κ → σ → ρ → Prop) (tmS : ι → κ → σ → ρ → Tm) (LS : ι → κ → σ → ρ → Hp) (μ : ι → κ → σ → ρ → Nat) (i0 : ι) (j0 : κ) (k0 : σ) (l0 : ρ) (hI : I i0 j0 k0 l0) (h0 : LeS S tm L (tmS i0 j0 k0 l0) (LS i0 j0 k0 l0))
    (hr : ∀ i j k l nv, I i j k l → Ev P lv nt ro b (tmS i j k l) (LS i j k l ++ S) nv (liftQ S (roundS S (fun p : ι × κ × σ × ρ => I p.1 p.2.1 p.2.2.1 p.2.2.2) (fun p => tmS p.1 p.2.1 p.2.2.1 p.2.2.2) (fun p => LS p.1 p.2.1 p.2.2.1 p.2.2.2) (fun p => μ p.1 p.2.1 p.2.2.1 p.2.2.2) (i, j, k, l) Q))) : Ev P lv nt ro (.loop b) tm (L ++ S) nv (liftQ S Q) :=
  loopES (fun p : ι × κ × σ × ρ => I p.1 p.2.1 p.2.2.1 p.2.2.2) (fun p => tmS p.1 p.2.1 p.2.2.1 p.2.2.2) (fun p => LS p.1 p.2.1 p.2.2.1 p.2.2.2) (fun p => μ p.1 p.2.1 p.2.2.1 p.2.2.2) (i0, j0, k0, l0) hI h0 fun ⟨i, j, k, l⟩ nv h => hr i j k l nv h
theorem loopS5 {P : Program} {lv : Nat} {nt : FS} {ro : Option Nat} {S : Hp} {tm : Tm} {L : Hp} {nv : Nat} {Q : Post} {b : Code} (hmx : P.follows .mixedOrders = true) (hlv : lv ≠ 0) (hok : okS nt b = true) {ι : Type} {κ : Type} {σ : Type} {ρ : Type} {π : Type} (I : ι → κ → σ → ρ → π → Prop) (tmS : ι → κ → σ → ρ → π → Tm) (LS : ι → κ → σ → ρ → π → Hp) (μ : ι → κ → σ → ρ → π → Nat) (i0 : ι) (j0 : κ) (k0 : σ) (l0 : ρ) (m0 : π) (hI : I i0 j0 k0 l0 m0) (h0 : LeS S tm L (tmS i0 j0 k0 l0 m0) (LS i0 j0 k0 l0 m0))
    (hr : ∀ i j k l m nv, I i j k l m → codeS P lv nt ro S b (tmS i j k l m) (LS i j k l m) nv (roundS S (fun p : ι × κ × σ × ρ × π => I p.1 p.2.1 p.2.2.1 p.2.2.2.1 p.2.2.2.2) (fun p => tmS p.1 p.2.1 p.2.2.1 p.2.2.2.1 p.2.2.2.2) (fun p => LS p.1 p.2.1 p.2.2.1 p.2.2.2.1 p.2.2.2.2) (fun p => μ p.1 p.2.1 p.2.2.1 p.2.2.2.1 p.2.2.2.2) (i, j, k, l, m) Q)) : Ev P lv nt ro (.loop b) tm (L ++ S) nv (liftQ S Q) :=
  loopS hmx hlv hok (fun p : ι × κ × σ × ρ × π => I p.1 p.2.1 p.2.2.1 p.2.2.2.1 p.2.2.2.2) (fun p => tmS p.1 p.2.1 p.2.2.1 p.2.2.2.1 p.2.2.2.2) (fun p => LS p.1 p.2.1 p.2.2.1 p.2.2.2.1 p.2.2.2.2) (fun p => μ p.1 p.2.1 p.2.2.1 p.2.2.2.1 p.2.2.2.2) (i0, j0, k0, l0, m0) hI h0 fun ⟨i, j, k, l, m⟩ nv h => hr i j k l m nv h
theorem loopES5 {P : Program} {lv : Nat} {nt : FS} {ro : Option Nat} {S : Hp} {tm : Tm} {L : Hp} {nv : Nat} {Q : Post} {b : Code} {ι : Type} {κ : Type} {σ : Type} {ρ : Type} {π : Type} (I : ι → κ → σ → ρ → π → Prop) (tmS : ι → κ → σ → ρ → π → Tm) (LS : ι → κ → σ → ρ → π → Hp) (μ : ι → κ → σ → ρ → π → Nat) (i0 : ι) (j0 : κ) (k0 : σ) (l0 : ρ) (m0 : π) (hI : I i0 j0 k0 l0 m0) (h0 : LeS S tm L (tmS i0 j0 k0 l0 m0) (LS i0 j0 k0 l0 m0))
    (hr : ∀ i j k l m nv, I i j k l m → Ev P lv nt ro b (tmS i j k l m) (LS i j k l m ++ S) nv (liftQ S (roundS S (fun p : ι × κ × σ × ρ × π => I p.1 p.2.1 p.2.2.1 p.2.2.2.1 p.2.2.2.2) (fun p => tmS p.1 p.2.1 p.2.2.1 p.2.2.2.1 p.2.2.2.2) (fun p => LS p.1 p.2.1 p.2.2.1 p.2.2.2.1 p.2.2.2.2) (fun p => μ p.1 p.2.1 p.2.2.1 p.2.2.2.1 p.2.2.2.2) (i, j, k, l, m) Q))) : Ev P lv nt ro (.loop b) tm (L ++ S) nv (liftQ S Q) :=
  loopES (fun p : ι × κ × σ × ρ × π => I p.1 p.2.1 p.2.2.1 p.2.2.2.1 p.2.2.2.2) (fun p => tmS p.1 p.2.1 p.2.2.1 p.2.2.2.1 p.2.2.2.2) (fun p => LS p.1 p.2.1 p.2.2.1 p.2.2.2.1 p.2.2.2.2) (fun p => μ p.1 p.2.1 p.2.2.1 p.2.2.2.1 p.2.2.2.2) (i0, j0, k0, l0, m0) hI h0 fun ⟨i, j, k, l, m⟩ nv h => hr i j k l m nv h
theorem loopS6 {P : Program} {lv : Nat} {nt : FS} {ro : Option Nat} {S : Hp} {tm : Tm} {L : Hp} {nv : Nat} {Q : Post} {b : Code} (hmx : P.follows .mixedOrders = true) (hlv : lv ≠ 0) (hok : okS nt b = true) {ι : Type} {κ : Type} {σ : Type} {ρ : Type} {π : Type} {τ : Type} (I : ι → κ → σ → ρ → π → τ → Prop) (tmS : ι → κ → σ → ρ → π → τ → Tm) (LS : ι → κ → σ → ρ → π → τ → Hp) (μ : ι → κ → σ → ρ → π → τ → Nat) (i0 : ι) (j0 : κ) (k0 : σ) (l0 : ρ) (m0 : π) (n0 : τ) (hI : I i0 j0 k0 l0 m0 n0) (h0 : LeS S tm L (tmS i0 j0 k0 l0 m0 n0) (LS i0 j0 k0 l0 m0 n0))
    (hr : ∀ i j k l m n nv, I i j k l m n → codeS P lv nt ro S b (tmS i j k l m n) (LS i j k l m n) nv (roundS S (fun p : ι × κ × σ × ρ × π × τ => I p.1 p.2.1 p.2.2.1 p.2.2.2.1 p.2.2.2.2.1 p.2.2.2.2.2) (fun p => tmS p.1 p.2.1 p.2.2.1 p.2.2.2.1 p.2.2.2.2.1 p.2.2.2.2.2) (fun p => LS p.1 p.2.1 p.2.2.1 p.2.2.2.1 p.2.2.2.2.1 p.2.2.2.2.2) (fun p => μ p.1 p.2.1 p.2.2.1 p.2.2.2.1 p.2.2.2.2.1 p.2.2.2.2.2) (i, j, k, l, m, n) Q)) : Ev P lv nt ro (.loop b) tm (L ++ S) nv (liftQ S Q) :=
  loopS hmx hlv hok (fun p : ι × κ × σ × ρ × π × τ => I p.1 p.2.1 p.2.2.1 p.2.2.2.1 p.2.2.2.2.1 p.2.2.2.2.2) (fun p => tmS p.1 p.2.1 p.2.2.1 p.2.2.2.1 p.2.2.2.2.1 p.2.2.2.2.2) (fun p => LS p.1 p.2.1 p.2.2.1 p.2.2.2.1 p.2.2.2.2.1 p.2.2.2.2.2) (fun p => μ p.1 p.2.1 p.2.2.1 p.2.2.2.1 p.2.2.2.2.1 p.2.2.2.2.2) (i0, j0, k0, l0, m0, n0) hI h0 fun ⟨i, j, k, l, m, n⟩ nv h => hr i j k l m n nv h
theorem loopES6 {P : Program} {lv : Nat} {nt : FS} {ro : Option Nat} {S : Hp} {tm : Tm} {L : Hp} {nv : Nat} {Q : Post} {b : Code} {ι : Type} {κ : Type} {σ : Type} {ρ : Type} {π : Type} {τ : Type} (I : ι → κ → σ → ρ → π → τ → Prop) (tmS : ι → κ → σ → ρ → π → τ → Tm) (LS : ι → κ → σ → ρ → π → τ → Hp) (μ : ι → κ → σ → ρ → π → τ → Nat) (i0 : ι) (j0 : κ) (k0 : σ) (l0 : ρ) (m0 : π) (n0 : τ) (hI : I i0 j0 k0 l0 m0 n0) (h0 : LeS S tm L (tmS i0 j0 k0 l0 m0 n0) (LS i0 j0 k0 l0 m0 n0))
    (hr : ∀ i j k l m n nv, I i j k l m n → Ev P lv nt ro b (tmS i j k l m n) (LS i j k l m n ++ S) nv (liftQ S (roundS S (fun p : ι × κ × σ × ρ × π × τ => I p.1 p.2.1 p.2.2.1 p.2.2.2.1 p.2.2.2.2.1 p.2.2.2.2.2) (fun p => tmS p.1 p.2.1 p.2.2.1 p.2.2.2.1 p.2.2.2.2.1 p.2.2.2.2.2) (fun p => LS p.1 p.2.1 p.2.2.1 p.2.2.2.1 p.2.2.2.2.1 p.2.2.2.2.2) (fun p => μ p.1 p.2.1 p.2.2.1 p.2.2.2.1 p.2.2.2.2.1 p.2.2.2.2.2) (i, j, k, l, m, n) Q))) : Ev P lv nt ro (.loop b) tm (L ++ S) nv (liftQ S Q) :=
  loopES (fun p : ι × κ × σ × ρ × π × τ => I p.1 p.2.1 p.2.2.1 p.2.2.2.1 p.2.2.2.2.1 p.2.2.2.2.2) (fun p => tmS p.1 p.2.1 p.2.2.1 p.2.2.2.1 p.2.2.2.2.1 p.2.2.2.2.2) (fun p => LS p.1 p.2.1 p.2.2.1 p.2.2.2.1 p.2.2.2.2.1 p.2.2.2.2.2) (fun p => μ p.1 p.2.1 p.2.2.1 p.2.2.2.1 p.2.2.2.2.1 p.2.2.2.2.2) (i0, j0, k0, l0, m0, n0) hI h0 fun ⟨i, j, k, l, m, n⟩ nv h => hr i j k l m n nv h
end Go.Ab
/- From contracts to statements: what was there reads as it did. -/
namespace Go.Ab
open Classical
open Go.ChangeShapes Go.WideShapes Go.ChangeAt Go.RowKit

/-- Nothing is owned. -/
def B00 : Blocks := fun _ _ => none
theorem free00 (b : Nat) : free B00 b := fun _ _ h => by cases h
theorem hr00 (w : World) : HR w B00 H0 V0 := ⟨fun _ _ h => by simp [H0] at h, fun _ _ h => by simp [H0] at h, fun _ _ _ h => by simp [B00] at h, fun _ _ h => by simp [H0] at h, fun _ _ _ _ _ h => by simp [B00] at h⟩

theorem heap_same {w w' : World} {B' : Blocks} {H' : Roots} {V' : Nat → Prop} (hm : Mono w B00 H0 V0 w' B' H' V') {b : Nat} (hb : b < w.heap.size) : w'.heap[b]? = w.heap[b]? := (hm.free b hb (free00 b)).2

theorem kept_of {w w' : World} {B' : Blocks} {H' : Roots} {V' : Nat → Prop} (hm : Mono w B00 H0 V0 w' B' H' V') (may : MemPlace → Prop) : w.keptBut w' may := by
  refine ⟨hm.os, hm.output, fun i hi => ?_⟩
  rw [heap_same hm hi]
  split
  · rename_i h1 h2
    rw [h1] at h2
    cases h2
    exact ⟨rfl, rfl, rfl, fun _ _ => rfl⟩
  · rename_i h1 h2
    rw [h1] at h2
    cases h2
    exact .inr ⟨rfl, rfl⟩
  · rfl
theorem same_at {w w' : World} {B' : Blocks} {H' : Roots} {V' : Nat → Prop} (hm : Mono w B00 H0 V0 w' B' H' V') {p : MemPlace} (hp : p.block < w.heap.size) : w.sameAt w' p := by
  cases p with
  | cell b off => exact cell?_congr (heap_same hm hp)
  | map b => exact heap_same hm hp

theorem trodAll_carry {H : Type} {enc : TypeId × Value → H} {P : Program} {w w' : World} {base : Nat} {spare : Nat → Bool} {held : Bool} : ∀ {ts : List TypeId} {vs : List Value} {ds : List (DataW H)} {ps : List MemPlace}, DataW.TrodAll enc P w base spare held ts vs ds ps →
    (∀ p ∈ ps, w.sameAt w' p) → DataW.TrodAll enc P w' base spare held ts vs ds ps
  | [], [], [], _, h, _ => h
  | _ :: _, _ :: _, _ :: _, _, ⟨p, q, ⟨n, h1⟩, h2, e⟩, hs => ⟨p, q, ⟨n, DataW.trod_carry n _ _ _ h1 fun x hx => hs x (by rw [e]; exact List.mem_append_left _ hx)⟩, trodAll_carry h2 (fun x hx => hs x (by rw [e]; exact List.mem_append_right _ hx)), e⟩

/-- The answer is true, and all reads as it did. -/
theorem post_true {H : Type} {enc : TypeId × Value → H} {P : Program} {f : Func} {s : ChangeSpec} {apart fresh handsOn again : Bool} {W W' : World} {args : Array Value} {ds gs : List (DataW H)} {before : List MemPlace} {B' : Blocks} {tb : TypeId}
    (hm : Mono W B00 H0 V0 W' B' H0 V0) (hl : laidOutB P = true) (hmr : mapsRowed P = true) (hz : ∀ t e, t < P.types.size → P.underlying t = some (.slice e) → 0 < P.cellsOf e) (hts : ∀ t ∈ f.params.toList, t < P.types.size) (hvars : s.vars = [])
    (hfn : s.fn H ds = { results := [.lit (.bool true)], args := ds }) (hret : f.resultTypes = #[tb]) (htb : P.underlying tb = some .bool) (hok : Value.okWide P W' .any 0 tb (.bool true))
    (hW : DataW.Whole enc P f.params.toList s.vars apart W args.toList ds gs before) : s.post enc P f apart fresh handsOn again W args (.bool true) W' := by
  have hlt := hW.lt
  have hW' := hW
  obtain ⟨p, q, hA, hV, rfl, hfz, hnd⟩ := hW
  rw [hvars] at hV
  obtain ⟨rfl, rfl⟩ := trodVars_none hV
  simp only [List.append_nil] at hlt hW' hfz hnd
  have hread : ∀ sp : Nat → Bool, (∀ x ∈ p, sp x.block = true) → DataW.TrodAll enc P W' 0 sp true f.params.toList args.toList ds p := fun sp hsp =>
    trodAll_carry (hA.respare (kids_rows hl hmr) hz hts hsp) fun x hx => same_at hm (hlt x hx)
  have hres : ∀ (b : Nat) (sp : Nat → Bool) (hd : Bool), DataW.TrodAll enc P W' b sp hd f.resultTypes.toList ((Value.bool true).resultList f.resultTypes.size) [.lit (.bool true)] [] := fun b sp hd => by
    rw [hret]; exact trodAll_cons_mk (shut_bool htb _) trodAll_mk0
  have hno : ∀ sp : Nat → Bool, DataW.TrodVars enc P W' sp s.vars [] [] := fun sp => by rw [hvars]; rfl
  have e : s.fn H (ds ++ []) = { results := [.lit (.bool true)], args := ds } := by rw [List.append_nil]; exact hfn
  refine ⟨ds, [], p, [], p, [], by simpa using hW', by rw [e]; exact hres _ _ _, by rw [e]; exact hread _ (fun x hx => by simpa using hlt x hx), by rw [e]; exact hno _, kept_of hm _, fun _ => ⟨?_, [.lit (.bool true)] ++ ds, [], [] ++ p, ⟨[] ++ p, [], trodAll_append (hread _ fun _ _ => rfl) (hres _ _ _), hno _, by simp, ?_, ?_⟩, ?_⟩⟩
  · intro j t r h1 h2
    rw [hret] at h1 h2
    cases j with
    | zero =>
      cases h1
      cases h2
      exact hok
    | succ j => simp at h1
  · intro b off hp
    have hp' : MemPlace.cell b off ∈ p := by simpa using hp
    have : W'.heap[b]? = W.heap[b]? := heap_same hm (hlt _ hp')
    have h0 := hfz b off hp'
    simp only [World.frozen?] at h0 ⊢
    rw [this]
    exact h0
  · intro ha
    simpa using hnd ha
  · intro x hx _
    simpa using hx
end Go.Ab
namespace Go.Ab
open Classical
open Go.ChangeShapes Go.WideShapes Go.ChangeAt Go.RowKit

mutual
def blk {H : Type} : DataW H → Nat
  | .lit (.string bytes) => bytes.length + 1
  | .lit _ => 1
  | .nil => 1
  | .ptr d => blk d + 1
  | .slice elems spare => blkAll elems + blkAll spare + 1
  | .agg parts => blkAll parts + 1
  | .iface _ d => blk d + 1
  | .map entries => blkEntries entries + 1
  | .held _ => 1
def blkAll {H : Type} : List (DataW H) → Nat
  | [] => 0
  | d :: r => blk d + blkAll r
def blkEntries {H : Type} : List (Lit × DataW H) → Nat
  | [] => 0
  | x :: r => blkEntry x + blkEntries r
def blkEntry {H : Type} : Lit × DataW H → Nat
  | (.string bytes, d) => bytes.length + blk d + 1
  | (_, d) => blk d + 1
end

theorem blk_pos {H : Type} (d : DataW H) : 1 ≤ blk d := by
  cases d with
  | lit l => cases l <;> simp [blk]
  | _ => simp [blk]
theorem blk_mem {H : Type} {d : DataW H} {l : List (DataW H)} (h : d ∈ l) : blk d ≤ blkAll l := by
  induction l with
  | nil => cases h
  | cons x r ih =>
    simp only [blkAll]
    rcases List.mem_cons.1 h with rfl | e
    · omega
    · have := ih e; omega
theorem blk_len {H : Type} (l : List (DataW H)) : l.length ≤ blkAll l := by
  induction l with
  | nil => simp [blkAll]
  | cons x r ih => have := blk_pos x; simp only [blkAll, List.length_cons]; omega

/-- Cells as they read. -/
def CR (w : World) (l : List PV) (cs : List Value) : Prop := l.length = cs.length ∧ ∀ i, i < cs.length → VR w B00 H0 V0 (l.getD i .undef) (cs.getD i Go.undef)

/-- What values of a type read as. -/
def Reads (P : Program) (t : TypeId) (α : Type) (enc : α → List PV) (ok : α → Prop) : Prop :=
  ∀ {H : Type} {tok : TypeId × Value → H} {w : World} {base : Nat} {spare : Nat → Bool} {held : Bool} {fuel : Nat} {cs : List Value} {x : DataW H × List MemPlace}, DataW.trod tok P w base spare held fuel t cs = some x → blk x.1 ≤ 1048576 → ∃ a, ok a ∧ CR w (enc a) cs

theorem CR.one {w : World} {x : PV} {v : Value} (h : VR w B00 H0 V0 x v) : CR w [x] [v] := ⟨rfl, fun i hi => by
  obtain rfl : i = 0 := by simpa using hi
  exact h⟩

theorem Reads.int {P : Program} {t : TypeId} {k : IntKind} (ht : P.underlying t = some (.int k)) : Reads P t Int (fun n => [.int k n]) (fun n => (Lit.int k n).wf = true) := by
  intro H tok w base spare held fuel cs x h hb
  obtain ⟨n, rfl, rfl, hw⟩ := DataW.trod_int ht h
  exact ⟨n, hw, .one (.int k n)⟩
theorem Reads.bool {P : Program} {t : TypeId} (ht : P.underlying t = some .bool) : Reads P t Bool (fun b => [.bool b]) (fun _ => True) := by
  intro H tok w base spare held fuel cs x h hb
  obtain ⟨n, rfl, rfl⟩ := DataW.trod_bool ht h
  exact ⟨n, trivial, .one (.bool n)⟩
theorem Reads.string {P : Program} {t : TypeId} (ht : P.underlying t = some .string) : Reads P t ByteArray (fun s => [.str s]) (fun s => s.size ≤ 1048576) := by
  intro H tok w base spare held fuel cs x h hb
  obtain ⟨s, rfl, rfl, hw⟩ := DataW.trod_string ht h
  refine ⟨s, ?_, .one (.str s)⟩
  simp only [blk] at hb
  have : s.data.toList.length = s.size := by rw [Array.length_toList]; rfl
  omega

theorem cells_at {w : World} {base : Nat} {a : Addr} {n : Nat} {cs : List Value} (h : w.cells? base a n = some cs) : cs.length = n ∧ ∀ i, i < n → w.cell? (a.add i) = some (cs.getD i Go.undef) := by
  unfold World.cells? at h
  split at h
  · have h1 := mapM_some_length h
    refine ⟨by simpa using h1, fun i hi => ?_⟩
    have h2 := mapM_some_get h i i (by simp [hi])
    rw [h2]
    have hi' : i < cs.length := by rw [h1]; simpa using hi
    simp [List.getD_eq_getElem?_getD, hi']
  · cases h
theorem cell_spot {w : World} {a : Addr} {v : Value} (h : w.cell? a = some v) : a.spot = none ∧ a.block < w.heap.size := by
  unfold World.cell? at h
  split at h
  · rename_i c _ _ hb
    split at h
    · cases h
    · rename_i hs
      exact ⟨by simpa using hs, lt_of_get hb⟩
  · cases h

/-- A slice's data. -/
def sliceP {α : Type} (d : α) (sz : Nat) (enc : α → List PV) (l : List α) : PV := .frz sz l.length fun i o => (enc (l.getD i d)).getD o .undef

theorem Reads.slice {P : Program} {t e : TypeId} {α : Type} {enc : α → List PV} {ok : α → Prop} (d : α) (ht : P.underlying t = some (.slice e)) (hsz : 0 < P.cellsOf e) (he : Reads P e α enc ok) :
    Reads P t (List α) (fun l => [sliceP d (P.cellsOf e) enc l]) (fun l => l.length ≤ 1048576 ∧ ∀ a ∈ l, ok a) := by
  intro H tok w base spare held fuel cs x h hb
  rcases DataW.trod_slice ht h with ⟨rfl, rfl⟩ | ⟨a, len, cap, elems, rest, n, rfl, rfl, rfl, h1, h2, h3, h4, h5, h6, h7⟩
  · exact ⟨[], ⟨by simp, by simp⟩, .one (VR.nils.less .nils)⟩
  · simp only [blk] at hb
    have hlen : len ≤ 1048576 := by have := blk_len (elems.map (·.1)); rw [List.length_map, h4] at this; omega
    have key : ∀ i, i < len → ∃ y cs', ok y ∧ w.cells? base (a.add (i * P.cellsOf e)) (P.cellsOf e) = some cs' ∧ CR w (enc y) cs' := fun i hi => by
      have h8 := h5 i hi
      have hi' : i < elems.length := by omega
      rw [List.getElem?_eq_getElem hi', Option.bind_eq_some_iff] at h8
      obtain ⟨cs', g1, g2⟩ := h8
      have hbk : blk elems[i].1 ≤ 1048576 := by
        have := blk_mem (l := elems.map (·.1)) (List.mem_map.2 ⟨elems[i], List.getElem_mem _, rfl⟩)
        omega
      obtain ⟨y, k1, k2⟩ := he g2 hbk
      exact ⟨y, cs', k1, g1, k2⟩
    let L : List α := (List.range len).map fun i => if hi : i < len then Classical.choose (key i hi) else d
    have hL : L.length = len := by simp [L]
    have hget : ∀ i (hi : i < len), L.getD i d = Classical.choose (key i hi) := fun i hi => by
      simp only [L, List.getD_eq_getElem?_getD, List.getElem?_map]
      rw [List.getElem?_range hi]
      simp [hi]
    have hch : ∀ i (hi : i < len), ∃ cs', ok (L.getD i d) ∧ w.cells? base (a.add (i * P.cellsOf e)) (P.cellsOf e) = some cs' ∧ CR w (enc (L.getD i d)) cs' := fun i hi => by
      rw [hget i hi]; exact Classical.choose_spec (key i hi)
    let g : Nat → Nat → Value := fun i o => (if hi : i < len then Classical.choose (hch i hi) else []).getD o Go.undef
    have hg : ∀ i (hi : i < len), ∃ cs', (fun o => g i o) = (fun o => cs'.getD o Go.undef) ∧ w.cells? base (a.add (i * P.cellsOf e)) (P.cellsOf e) = some cs' ∧ CR w (enc (L.getD i d)) cs' := fun i hi => by
      refine ⟨Classical.choose (hch i hi), ?_, (Classical.choose_spec (hch i hi)).2.1, (Classical.choose_spec (hch i hi)).2.2⟩
      funext o
      simp only [g, dif_pos hi]
    refine ⟨L, ⟨by omega, fun y hy => ?_⟩, .one ?_⟩
    · obtain ⟨i, hi, rfl⟩ := List.mem_iff_getElem.1 hy
      have := (hch i (by omega)).choose_spec.1
      simpa [List.getD_eq_getElem?_getD, hi] using this
    · unfold sliceP
      rw [hL]
      refine .frz (g := g) h2 (by omega) (fun h0 => ?_) (fun i o hi ho => ?_)
      · obtain ⟨cs0, _, k2, _⟩ := hg 0 h0
        obtain ⟨hspot, hblk⟩ := cell_spot ((cells_at k2).2 0 hsz)
        obtain ⟨b, off, spot⟩ := a
        simp [Addr.add] at hspot hblk
        subst hspot
        refine ⟨b, off, rfl, free00 b, hblk, fun i o hi ho => ?_⟩
        obtain ⟨cs', k1, k2, _⟩ := hg i hi
        have := (cells_at k2).2 o ho
        have e1 : g i o = cs'.getD o Go.undef := congrFun k1 o
        rw [e1, ← this]
        rw [add_plain, add_plain, Nat.add_assoc]
      · obtain ⟨cs', k1, k2, k3⟩ := hg i hi
        have e1 : g i o = cs'.getD o Go.undef := congrFun k1 o
        rw [e1]
        exact k3.2 o (by rw [(cells_at k2).1]; exact ho)

theorem CR.append {w : World} {l l' : List PV} {cs cs' : List Value} (h : CR w l cs) (h' : CR w l' cs') : CR w (l ++ l') (cs ++ cs') := by
  refine ⟨by rw [List.length_append, List.length_append, h.1, h'.1], fun i hi => ?_⟩
  rw [List.length_append] at hi
  simp only [List.getD_eq_getElem?_getD, List.getElem?_append, h.1]
  by_cases hlt : i < cs.length
  · rw [if_pos hlt, if_pos hlt]
    simpa only [List.getD_eq_getElem?_getD] using h.2 i hlt
  · rw [if_neg hlt, if_neg hlt]
    simpa only [List.getD_eq_getElem?_getD] using h'.2 (i - cs.length) (by omega)

/-- Another name for what is read. -/
theorem Reads.map {P : Program} {t : TypeId} {α β : Type} {enc : α → List PV} {enc' : β → List PV} {ok : α → Prop} {ok' : β → Prop} (h : Reads P t α enc ok) (f : α → β) (hf : ∀ a, ok a → ok' (f a) ∧ enc' (f a) = enc a) : Reads P t β enc' ok' := by
  intro H tok w base spare held fuel cs x hx hb
  obtain ⟨a, h1, h2⟩ := h hx hb
  obtain ⟨h3, h4⟩ := hf a h1
  exact ⟨f a, h3, h4 ▸ h2⟩

/-- An array of two. -/
theorem Reads.array2 {P : Program} {t e : TypeId} {α : Type} {enc : α → List PV} {ok : α → Prop} (ht : P.underlying t = some (.array 2 e)) (hsz : P.cellsOf t = P.cellsOf e + P.cellsOf e) (he : Reads P e α enc ok) :
    Reads P t (α × α) (fun p => enc p.1 ++ enc p.2) (fun p => ok p.1 ∧ ok p.2) := by
  intro H tok w base spare held fuel cs x hx hb
  obtain ⟨xs, m, rfl, rfl, hl, hn, hi⟩ := DataW.trod_array ht hx
  have h0 := hi 0 (by omega)
  have h1 := hi 1 (by omega)
  rw [List.getElem?_eq_getElem (by omega : 0 < xs.length)] at h0
  rw [List.getElem?_eq_getElem (by omega : 1 < xs.length)] at h1
  simp only [blk] at hb
  have b0 := blk_mem (l := xs.map (·.1)) (List.mem_map.2 ⟨xs[0]'(by omega), List.getElem_mem _, rfl⟩)
  have b1 := blk_mem (l := xs.map (·.1)) (List.mem_map.2 ⟨xs[1]'(by omega), List.getElem_mem _, rfl⟩)
  obtain ⟨a0, k1, k2⟩ := he h0 (by omega)
  obtain ⟨a1, k3, k4⟩ := he h1 (by omega)
  refine ⟨(a0, a1), ⟨k1, k3⟩, ?_⟩
  have e : cs = (cs.drop (0 * P.cellsOf e)).take (P.cellsOf e) ++ (cs.drop (1 * P.cellsOf e)).take (P.cellsOf e) := by
    rw [Nat.zero_mul, List.drop_zero, Nat.one_mul]
    rw [List.take_of_length_le (l := cs.drop (P.cellsOf e)) (by simp; omega), List.take_append_drop]
  rw [e]
  exact k2.append k4

/-- Less told of what is read. -/
theorem Reads.less {P : Program} {t : TypeId} {α β : Type} {enc : α → List PV} {enc' : β → List PV} {ok : α → Prop} {ok' : β → Prop} (h : Reads P t α enc ok) (f : α → β) (hf : ∀ a, ok a → ok' (f a) ∧ LeL (enc a) (enc' (f a))) : Reads P t β enc' ok' := by
  intro H tok w base spare held fuel cs x hx hb
  obtain ⟨a, h1, h2⟩ := h hx hb
  obtain ⟨h3, h4⟩ := hf a h1
  exact ⟨f a, h3, h4.1.symm.trans h2.1, fun i hi => (h2.2 i hi).less (h4.2 i (by rw [h2.1]; exact hi))⟩

/-! ### Arguments -/
theorem Reads.argSlice {P : Program} {t e : TypeId} {α : Type} {enc : α → List PV} {ok : α → Prop} (h : Reads P t α enc ok) (ht : P.underlying t = some (.slice e)) (x : α → PV) (hx : ∀ a, enc a = [x a]) {H : Type} {tok : TypeId × Value → H} {w : World} {base b0 : Nat} {r : Reach} {spare : Nat → Bool} {held : Bool} {v : Value} {d : DataW H} {ps : List MemPlace}
    (hval : Value.okWide P w r b0 t v) (hd : DataW.Trod tok P w base spare held t v d ps) (hb : blk d ≤ 1048576) : ∃ a, ok a ∧ VR w B00 H0 V0 (x a) v := by
  obtain ⟨a, n, c, rfl⟩ := okWide_slice ht hval
  obtain ⟨fuel, hd⟩ := hd
  obtain ⟨y, h1, h2⟩ := h hd hb
  rw [hx] at h2
  exact ⟨y, h1, h2.2 0 (by simp [Value.cells])⟩
theorem Reads.argInt {P : Program} {t : TypeId} {k : IntKind} (ht : P.underlying t = some (.int k)) {H : Type} {tok : TypeId × Value → H} {w : World} {base b0 : Nat} {r : Reach} {spare : Nat → Bool} {held : Bool} {v : Value} {d : DataW H} {ps : List MemPlace}
    (hval : Value.okWide P w r b0 t v) (hd : DataW.Trod tok P w base spare held t v d ps) (hb : blk d ≤ 1048576) : ∃ n, (Lit.int k n).wf = true ∧ VR w B00 H0 V0 (.int k n) v := by
  obtain ⟨n, rfl⟩ := okWide_int ht hval
  obtain ⟨fuel, hd⟩ := hd
  obtain ⟨y, h1, h2⟩ := Reads.int ht hd hb
  exact ⟨y, h1, h2.2 0 (by simp [Value.cells])⟩
theorem Reads.argStruct {P : Program} {t : TypeId} {fs : Array Field} {α : Type} {enc : α → List PV} {ok : α → Prop} (h : Reads P t α enc ok) (ht : P.underlying t = some (.struct fs)) {H : Type} {tok : TypeId × Value → H} {w : World} {base b0 : Nat} {r : Reach} {spare : Nat → Bool} {held : Bool} {v : Value} {d : DataW H} {ps : List MemPlace}
    (hval : Value.okWide P w r b0 t v) (hd : DataW.Trod tok P w base spare held t v d ps) (hb : blk d ≤ 1048576) : ∃ a, ok a ∧ VR w B00 H0 V0 (.agg (enc a)) v := by
  obtain ⟨cs, rfl, _⟩ := okWide_struct ht hval
  obtain ⟨fuel, hd⟩ := hd
  obtain ⟨y, h1, h2⟩ := h hd hb
  refine ⟨y, h1, .agg (by simpa [Value.cells] using h2.1) fun i hi => ?_⟩
  have h3 := h2.1
  have h4 := h2.2 i (by omega)
  simpa [Value.cells, List.getD_eq_getElem?_getD, Array.getD_eq_getD_getElem?] using h4

theorem LR.nil0 {w : World} : LR w B00 H0 V0 [] #[] := ⟨rfl, fun i hi => absurd hi (by simp)⟩
theorem LR.cons0 {w : World} {x : PV} {v : Value} {l : List PV} {vs : List Value} (h : VR w B00 H0 V0 x v) (k : LR w B00 H0 V0 l vs.toArray) : LR w B00 H0 V0 (x :: l) (v :: vs).toArray :=
  ⟨by have := k.len; simp at this ⊢; exact this, fun i hi => by
    cases i with
    | zero => simpa using h
    | succ i => have := k.val i (by simpa using hi); simpa [Array.getD_eq_getD_getElem?] using this⟩

/-- A law that holds of what is read: what its row asks. -/
theorem law_of {H : Type} {enc : TypeId × Value → H} {P : Program} {f : FuncId} {fn : Func} {s : ChangeSpec} {apart fresh handsOn again : Bool} {W : World} {args : Array Value} {ds gs : List (DataW H)} {before : List MemPlace} {tb : TypeId} {l : List PV}
    (hl : laidOutB P = true) (hmr : mapsRowed P = true) (hz : ∀ t e, t < P.types.size → P.underlying t = some (.slice e) → 0 < P.cellsOf e) (hts : ∀ t ∈ fn.params.toList, t < P.types.size) (hvars : s.vars = [])
    (hfn : s.fn H ds = { results := [.lit (.bool true)], args := ds }) (hret : fn.resultTypes = #[tb]) (htb : P.underlying tb = some .bool)
    (hW : DataW.Whole enc P fn.params.toList s.vars apart W args.toList ds gs before) (h : CallsF P f l (.bool true)) (ha : LR W B00 H0 V0 l args) :
    Calls P f args W fun e W' => ∃ v, e = .returned v ∧ s.post enc P fn apart fresh handsOn again W args v W' := by
  refine (h.2 W B00 args (hr00 W) ha).mono fun e W' he => ?_
  obtain ⟨v, B', rfl, h1, h2⟩ := he
  generalize hx : PV.bool true = x at h1
  cases h1 <;> cases hx
  exact ⟨_, rfl, post_true h2 hl hmr hz hts hvars hfn hret htb (okWide_bool_mk htb _) hW⟩
end Go.Ab
