/- Short lists: sorted, and each once. -/
import Derived.Test.YtbclepldghjacaaGreatA3
import Derived.Test.YtbclepldghjacaaGreatProg
import Derived.KernelRfl
import Derived.ChangeSame
import Derived.ProofKit
import Derived.OpenShut
import Derived.JoinedCond
import Derived.ReadAgain
import Derived.Test.YtbclepldghjacaaGreatRows
import Derived.Shelf.Sort.Plain
import Derived.Shelf.Slices.In.SortNone
set_option linter.unusedVariables false
set_option linter.unusedSimpArgs false
namespace Go.Ab
open Classical

theorem LeHp.tail {own L : Hp} {n : Nat} (hnd : (L.map (·.1)).Nodup) (hL : Above n L) (ho : (own.all fun x => Nat.ble n x.1.1) = true) : LeHp (own ++ L) L := by
  have key : ∀ (M : Hp), (∀ x ∈ M, x ∈ L) → LeHp (own ++ L) M := by
    intro M
    induction M with
    | nil => intro _; trivial
    | cons x M ih =>
      intro hM
      obtain ⟨r, rt⟩ := x
      have hx := hM (r, rt) (by simp)
      have h1 : ∀ (l : Hp), (l.map (·.1)).Nodup → (r, rt) ∈ l → lkH l r = some rt := by
        intro l
        induction l with
        | nil => intro _ h; cases h
        | cons y l ih2 =>
          intro hn hm
          obtain ⟨k, v⟩ := y
          simp only [List.map_cons, List.nodup_cons] at hn
          simp only [lkH]
          rcases List.mem_cons.1 hm with e | e
          · cases e; rw [if_pos rfl]
          · rw [if_neg]
            · exact ih2 hn.2 e
            · intro e2
              subst e2
              exact hn.1 (List.mem_map.2 ⟨_, e, rfl⟩)
      have h2 : lkH own r = none := by
        refine lkH_none.2 fun hm => ?_
        obtain ⟨y, y1, y2⟩ := List.mem_map.1 hm
        have h3 := Nat.le_of_ble_eq_true (List.all_eq_true.1 ho y y1)
        rw [y2] at h3
        have h4 := hL r.1 r.2 h3
        rw [show ((r.1, r.2) : RId) = r from rfl, h1 L hnd hx] at h4
        cases h4
      have h5 : lkH (own ++ L) r = some rt := by rw [lkH_append, h2]; exact h1 L hnd hx
      refine ⟨?_, ih fun y hy => hM y (List.mem_cons_of_mem _ hy)⟩
      rw [h5]
      exact ⟨rfl, .refl _⟩
  exact key L fun _ h => h
theorem Keeps.tail {S own own' L : Hp} {n : Nat} (hS : Above n S) (ho : (own.all fun x => Nat.ble n x.1.1) = true) : Keeps S (own ++ L) (own' ++ L) := fun r h1 h2 => by
  rw [lkH_append] at h1 h2
  cases h3 : lkH own r with
  | some x =>
    have hm : r ∈ own.map (·.1) := Classical.byContradiction fun hc => by rw [lkH_none.2 hc] at h3; cases h3
    obtain ⟨y, y1, y2⟩ := List.mem_map.1 hm
    have h4 := Nat.le_of_ble_eq_true (List.all_eq_true.1 ho y y1)
    rw [y2] at h4
    exact hS r.1 r.2 h4
  | none =>
    rw [h3] at h2
    cases h5 : lkH own' r with
    | some x => rw [h5] at h1; cases h1
    | none => rw [h5] at h1; exact absurd h1 h2
theorem frame_eq {own L S : Hp} {n : Nat} (hL : Above n L) (ho : (own.all fun x => Nat.ble n x.1.1) = true) : lkH (L ++ (own ++ S)) = lkH ((own ++ L) ++ S) := funext fun r => by
  rw [lkH_append, lkH_append, List.append_assoc, lkH_append, lkH_append]
  cases h1 : lkH L r with
  | none => rfl
  | some x =>
    have : lkH own r = none := by
      refine lkH_none.2 fun hm => ?_
      obtain ⟨y, y1, y2⟩ := List.mem_map.1 hm
      have h3 := Nat.le_of_ble_eq_true (List.all_eq_true.1 ho y y1)
      rw [y2] at h3
      have h4 := hL r.1 r.2 h3
      rw [show ((r.1, r.2) : RId) = r from rfl, h1] at h4
      cases h4
    rw [this]
theorem delS_id : ∀ {L : Hp} {r : RId} {k : Hp → Prop}, lkH L r = none → delS L r k = k L
  | [], _, _, _ => rfl
  | (r0, v) :: l, r, k, h => by
    obtain ⟨a, b⟩ := r0
    obtain ⟨c, d⟩ := r
    simp only [lkH] at h
    split at h
    · cases h
    · rename_i e
      have ih := delS_id (L := l) (r := (c, d)) (k := fun l => k (((a, b), v) :: l)) h
      unfold delS
      cases h1 : Nat.beq a c with
      | false => simp only; exact ih
      | true =>
        cases h2 : Nat.beq b d with
        | false => simp only; exact ih
        | true => exact absurd (by rw [Nat.eq_of_beq_eq_true h1, Nat.eq_of_beq_eq_true h2]) e
theorem delS_hd {a b : Nat} {x : Root} {l : Hp} {k : Hp → Prop} : delS (((a, b), x) :: l) (a, b) k = delS l (a, b) k := by
  have h1 : Nat.beq a a = true := Nat.beq_refl a
  have h2 : Nat.beq b b = true := Nat.beq_refl b
  rw [delS, h1, h2]
theorem lkH_tl {r r' : RId} {x : Root} {l : Hp} (h : lkH l r = none) (e : (Nat.beq r'.1 r.1 && Nat.beq r'.2 r.2) = false) : lkH ((r', x) :: l) r = none := by
  simp only [lkH]
  rw [if_neg, h]
  intro e2
  subst e2
  simp at e
/-- A put, where the memory behind is not looked at. -/
theorem wrS {S M : Hp} {lv d v : Nat} {x y : PV} {k : A} {K : PV → Hp → Prop} (node : PV) (hn : ∀ k : PV → Prop, k node → nodeZ x k) (hk : retOf k = some y) (h : delS M (lv, d) fun L => K y (((lv, d), ⟨v, node⟩) :: L)) : A.wpR S (.wr (lv, d) (some ⟨v, x⟩) k) M K := by
  show nz d fun d => fz x fun x => match retOf k with
    | some y => nodeZ x fun x => delS M (lv, d) fun L => fz y fun y => K y (((lv, d), ⟨v, x⟩) :: L)
    | none => delS M (lv, d) fun L => A.wpR S k (((lv, d), ⟨v, x⟩) :: L) K
  rw [nz_eq, fz_eq, hk]
  refine hn _ ?_
  simp only [fz_eq]
  exact h
theorem wrB {S M : Hp} {lv d v sz : Nat} {c : Nat → PV} {y : PV} {K : PV → Hp → Prop} (h : delS M (lv, d) fun L => K y (((lv, d), ⟨v, .obox sz c⟩) :: L)) : A.rec (motive := fun _ => KA) aRet aVc aHyp (aRd S) (aWr S) aAny aDec aOpt aAll aFail (A.wr (lv, d) (some ⟨v, .obox sz c⟩) (.ret y)) M K :=
  wrS (S := S) (k := .ret y) _ (fun _ h => h) rfl h
theorem view_box {hp : Hp} {r : RId} {v k sz : Nat} {c c' : Nat → PV} (h : lkH hp r = some ⟨v, .obox sz c⟩) (hc : ∀ j, j < sz → NEq (Ab.view k hp (c j)) (c' j)) : NEq (Ab.view (k + 1) hp (.ptr r v [] 0 0)) (.fptr sz c' 0) := by
  rw [Ab.view, h]
  simp only [if_true, getAt]
  exact NEq.fptr hc
theorem YieldA.congr {P : Program} {r : RId} {v : Nat} {args : List PV} {hp hp' : Hp} {nv : Nat} {K : PV → Hp → Nat → Prop} (h : YieldA P r v args hp nv K) (e : lkH hp = lkH hp') : YieldA P r v args hp' nv K := by
  unfold YieldA at h ⊢
  rwa [e] at h
/-- A yield beside roots of one's own. -/
theorem YieldS.frame {P : Program} {S own L : Hp} {r : RId} {v : Nat} {args : List PV} {nv n : Nat} {K K' : PV → Hp → Nat → Prop} (hL : Above n L) (ho : (own.all fun x => Nat.ble n x.1.1) = true) (h : YieldS P (own ++ S) r v args L nv K') (hk : ∀ x L' nv', K' x L' nv' → Above n L' ∧ K x (own ++ L') nv') : YieldS P S r v args (own ++ L) nv K := by
  refine ⟨YieldA.mono (h.out.congr (frame_eq hL ho)) fun x hp nv' ⟨L', h1, h2⟩ => ?_⟩
  rw [fz_eq] at h2
  obtain ⟨h3, h4⟩ := hk _ _ _ h2
  refine ⟨own ++ L', fun j => ?_, by rw [fz_eq]; exact h4⟩
  have e1 := h1.eq
  rw [frame_eq h3 ho] at e1
  rw [e1]
  exact Rep.mk' S (own ++ L') j
end Go.Ab
namespace Go.Ab
open Classical

def preP (i : Nat) : Path → Option Path
  | (a, o) :: q => if a = i ∧ o = 0 then some q else none
  | [] => none
theorem preP_some {i : Nat} {p q : Path} (h : preP i p = some q) : p = (i, 0) :: q := by
  cases p with
  | nil => cases h
  | cons x p =>
    obtain ⟨a, o⟩ := x
    simp only [preP] at h
    split at h
    · rename_i e; cases h; obtain ⟨rfl, rfl⟩ := e; rfl
    · cases h
def graftF (f : Nat → Nat → PV) (i : Nat) (x : PV) : Nat → Nat → PV := fun a o => if a = i then x else f a o

theorem graft {S L L' : Hp} {tm : Tm} {nv : Nat} {nt : FS} {w : World} {B : Blocks} {act : Act} (t : Nat) (r r' : RId) (hne : r' ≠ r) {v v' n i sz m : Nat} {f g : Nat → Nat → PV} (ht : lk tm t = .ref r v [] 1 0 n) (hr : lkH L r = some ⟨v, .own 1 n f⟩) (hr' : lkH L r' = some ⟨v', .own sz m g⟩)
    (hi : i < n) (hf : f i 0 = .ref r' v' [] sz 0 m) (hL : ∀ j, lkH L' j = if j = r then some ⟨nv, .own 1 n (graftF f i (.own sz m g))⟩ else if j = r' then none else lkH L j) (hS : lkH S r' = none) (hs : SR nt tm (L ++ S) nv w B act) :
    ∃ B', SR nt ((t, .ref r nv [] 1 0 n) :: tm) (L' ++ S) (nv + 1) w B' act ∧ Mono w B (lkH (L ++ S)) (· < nv) w B' (lkH (L' ++ S)) (· < nv + 1) := by
  have hlr : lkH (L ++ S) r = some ⟨v, .own 1 n f⟩ := by rw [Rep.mk' S L r, lkS_eq, hr]
  have hlr' : lkH (L ++ S) r' = some ⟨v', .own sz m g⟩ := by rw [Rep.mk' S L r', lkS_eq, hr']
  have hr0 : r.1 ≠ 0 := hs.hp.lev r _ hlr
  have hr0' : r'.1 ≠ 0 := hs.hp.lev r' _ hlr'
  let N : PV := .own 1 n (graftF f i (.own sz m g))
  have hlk : ∀ j, lkH (L' ++ S) j = if j = r then some ⟨nv, N⟩ else if j = r' then none else lkH (L ++ S) j := by
    intro j
    rw [Rep.mk' S L' j, Rep.mk' S L j, lkS_eq, lkS_eq, hL]
    by_cases e : j = r
    · rw [if_pos e, if_pos e]
    · rw [if_neg e, if_neg e]
      by_cases e2 : j = r'
      · subst e2; rw [if_pos rfl, if_pos rfl]; exact hS
      · rw [if_neg e2, if_neg e2]
  let B' : Blocks := fun j p => if j = r then (match preP i p with | some q => B r' q | none => B r p) else if j = r' then none else B j p
  have hB1 : ∀ q, B' r ((i, 0) :: q) = B r' q := fun q => by simp [B', preP]
  have hB2 : ∀ p, preP i p = none → B' r p = B r p := fun p h => by simp [B', h]
  have hB3 : ∀ p, B' r' p = none := fun p => by simp [B', hne]
  have hB4 : ∀ j p, j ≠ r → j ≠ r' → B' j p = B j p := fun j p h1 h2 => by simp [B', h1, h2]
  have key : ∀ j p b, B' j p = some b → (j = r ∧ ∃ q, p = (i, 0) :: q ∧ B r' q = some b) ∨ (j ≠ r' ∧ (j = r → preP i p = none) ∧ B j p = some b) := fun j p b h => by
    by_cases e : j = r
    · subst e
      cases hp : preP i p with
      | none => rw [hB2 p hp] at h; exact .inr ⟨Ne.symm hne, fun _ => rfl, h⟩
      | some q => have := preP_some hp; subst this; rw [hB1] at h; exact .inl ⟨rfl, q, rfl, h⟩
    · by_cases e2 : j = r'
      · subst e2; rw [hB3] at h; cases h
      · rw [hB4 j p e e2] at h; exact .inr ⟨e2, fun h => absurd h e, h⟩
  have hm : Mono w B (lkH (L ++ S)) (· < nv) w B' (lkH (L' ++ S)) (· < nv + 1) := by
    refine ⟨Nat.le_refl _, fun b _ hf => ⟨fun j p h => ?_, rfl⟩, fun j p b h0 h => ⟨?_, rfl⟩, fun j p b h => ?_, fun _ _ h => h, fun n hn => Nat.lt_succ_of_lt hn, fun j rt h => ?_, rfl, rfl, rfl⟩
    · rcases key j p b h with ⟨_, q, _, h1⟩ | ⟨_, _, h1⟩
      · exact hf _ _ h1
      · exact hf _ _ h1
    · rw [hB4 j p (fun e => hr0 (e ▸ h0)) (fun e => hr0' (e ▸ h0))]; exact h
    · rcases key j p b h with ⟨_, q, _, h1⟩ | ⟨_, _, h1⟩
      · exact .inr ⟨_, _, h1⟩
      · exact .inr ⟨_, _, h1⟩
    · rw [hlk] at h
      split at h
      · cases h; exact .inl (by simp)
      · split at h
        · cases h
        · rename_i e1 e2
          exact .inr ⟨rt, h, rfl, fun p s hp => ⟨hp, hB4 j p e1 e2⟩⟩
  have hroot : RootOK w B' (lkH (L' ++ S)) (· < nv + 1) r N := by
    have h0 := hs.hp.root r _ hlr
    cases h0 with
    | own h =>
      cases h with
      | leaf h => cases h
      | nil hB => omega
      | own hA hB hh hc hn hmx h =>
        refine .own (.own hA ((hB2 [] rfl).trans hB) hh hc hn hmx fun a o ha ho => ?_)
        obtain rfl : o = 0 := by omega
        have hc := h a 0 ha (by omega)
        show TR _ _ _ _ _ _ (if a = i then _ else _) _
        by_cases e : a = i
        · subst e
          rw [if_pos rfl]
          rw [hf] at hc
          cases hc with
          | leaf hv =>
            have ht := whole hs.hp hlr' rfl hv
            exact ht.turn hm.turn (p := []) (q := [(a, 0)]) fun t s _ => ⟨hB1 t, fun _ _ => rfl⟩
        · rw [if_neg e]
          exact hc.turn hm.turn fun t s _ => ⟨hB2 _ (by simp [preP, e]), fun _ _ => rfl⟩
  have hv := hs.tm.val t
  rw [ht] at hv
  refine ⟨B', ⟨⟨fun u => ?_, hs.tm.size, hs.tm.defers.mono hm⟩, ⟨fun j rt h => ?_, fun j rt h => ?_, fun j p b h => ?_, fun j rt h => ?_, fun j p j' p' b h1 h2 => ?_⟩⟩, hm⟩
  · simp only [lk]
    split
    · rename_i e
      subst e
      cases hv with
      | ref _ h1 =>
        refine .ref (by omega) (fun rt hrt _ => ?_)
        rw [hlk, if_pos rfl] at hrt
        have hrt' := Option.some.inj hrt
        subst hrt'
        obtain ⟨n', k1, k2, k3, k4⟩ := h1 _ hlr rfl
        refine ⟨n', ⟨trivial, ?_⟩, k2, k3, by rw [hB2 [] rfl]; exact k4⟩
        have := k1.2
        exact this
    · exact (hs.tm.val u).mono hm
  · rw [hlk] at h
    split at h
    · rename_i e; subst e; have := Option.some.inj h; subst this; exact hroot
    · split at h
      · cases h
      · rename_i e1 e2
        exact (hs.hp.root j rt h).mono hm fun t s _ => ⟨hB4 j t e1 e2, fun _ _ => rfl⟩
  · rw [hlk] at h
    split at h
    · cases h; show nv < nv + 1; omega
    · split at h
      · cases h
      · have := hs.hp.ver j rt h; simp at this ⊢; omega
  · rcases key j p b h with ⟨rfl, q, rfl, h1⟩ | ⟨e1, e2, h1⟩
    · obtain ⟨g1, g2⟩ := hs.hp.dom r' q b h1
      obtain ⟨rt, s, g3, g4⟩ := g2.resolve_left hr0'
      rw [hlr'] at g3
      have g3' := Option.some.inj g3
      subst g3'
      refine ⟨g1, .inr ⟨_, s, by rw [hlk, if_pos rfl], ?_⟩⟩
      refine ⟨⟨hi, by omega, ?_⟩, ?_⟩
      · show okPath (if i = i then _ else _) q
        rw [if_pos rfl]; exact g4.1
      · show shapeOf (getAt (if i = i then _ else _) q) = _
        rw [if_pos rfl]; exact g4.2
    · obtain ⟨g1, g2⟩ := hs.hp.dom j p b h1
      refine ⟨g1, g2.imp (fun h => h) fun ⟨rt, s, g3, g4⟩ => ?_⟩
      by_cases e : j = r
      · subst e
        rw [hlr] at g3
        have g3' := Option.some.inj g3
        subst g3'
        refine ⟨_, s, by rw [hlk, if_pos rfl], ?_⟩
        have hp := e2 rfl
        cases p with
        | nil => exact ⟨trivial, g4.2⟩
        | cons x q =>
          obtain ⟨a, o⟩ := x
          obtain ⟨⟨k1, k2, k3⟩, k4⟩ := g4
          have ea : a ≠ i := fun e => by
            have : o = 0 := by omega
            simp [preP, e, this] at hp
          refine ⟨⟨k1, k2, ?_⟩, ?_⟩
          · show okPath (if a = i then _ else _) q
            rw [if_neg ea]; exact k3
          · show shapeOf (getAt (if a = i then _ else _) q) = _
            rw [if_neg ea]; exact k4
      · exact ⟨rt, s, by rw [hlk, if_neg e, if_neg e1]; exact g3, g4⟩
  · rw [hlk] at h
    split at h
    · rename_i e; rw [e]; exact hr0
    · split at h
      · cases h
      · exact hs.hp.lev j rt h
  · rcases key j p b h1 with ⟨rfl, q, rfl, g1⟩ | ⟨e1, e2, g1⟩ <;> rcases key j' p' b h2 with ⟨rfl, q', rfl, k1⟩ | ⟨e3, e4, k1⟩
    · obtain ⟨_, rfl⟩ := hs.hp.inj _ _ _ _ _ g1 k1
      exact ⟨rfl, rfl⟩
    · exact absurd (hs.hp.inj _ _ _ _ _ g1 k1).1.symm e3
    · exact absurd (hs.hp.inj _ _ _ _ _ g1 k1).1 e1
    · exact hs.hp.inj _ _ _ _ _ g1 k1

def dropH (r : RId) : Hp → Hp
  | [] => []
  | (k, x) :: l => if k = r then dropH r l else (k, x) :: dropH r l
theorem lkH_dropH (r j : RId) : ∀ L : Hp, lkH (dropH r L) j = if j = r then none else lkH L j
  | [] => by simp [dropH, lkH]
  | (k, x) :: l => by
    have ih := lkH_dropH r j l
    simp only [dropH]
    by_cases e : k = r
    · rw [if_pos e, ih]
      by_cases e2 : j = r
      · rw [if_pos e2, if_pos e2]
      · rw [if_neg e2, if_neg e2]
        simp only [lkH]
        rw [if_neg (fun h => e2 (h.trans e))]
    · rw [if_neg e]
      simp only [lkH]
      by_cases e2 : j = k
      · rw [if_pos e2, if_pos e2, if_neg (fun h => e (e2.symm.trans h))]
      · rw [if_neg e2, if_neg e2, ih]

/-- One goes on in another form of the state. -/
structure GoesOn (nt : FS) (S : Hp) {ι : Type} (I : ι → Prop) (tmS : ι → Tm) (LS : ι → Hp) (μ : ι → Nat) (i : ι) (tm : Tm) (L : Hp) (nv : Nat) : Prop where
  go : ∀ w B a, SR nt tm (L ++ S) nv w B a → ∃ j nv' B', I j ∧ μ j < μ i ∧ SR nt (tmS j) (LS j ++ S) nv' w B' a ∧ Mono w B (lkH (L ++ S)) (· < nv) w B' (lkH (LS j ++ S)) (· < nv')
/-- The end of a round. -/
def roundG (nt : FS) (S : Hp) {ι : Type} (I : ι → Prop) (tmS : ι → Tm) (LS : ι → Hp) (μ : ι → Nat) (i : ι) (Q : Post) : Post := fun e tm L nv => match e with
  | .normal => GoesOn nt S I tmS LS μ i tm L nv
  | e => Q e tm L nv

section
variable {P : Program} {lv : Nat} {nt : FS} {ro : Option Nat} {S : Hp} {tm : Tm} {L : Hp} {nv : Nat} {Q : Post}
theorem loopGS {b : Code} (hmx : P.follows .mixedOrders = true) (hlv : lv ≠ 0) (hok : okS nt b = true) {ι : Type} (I : ι → Prop) (tmS : ι → Tm) (LS : ι → Hp) (μ : ι → Nat) (i0 : ι) (hI : I i0) (h0 : LeS S tm L (tmS i0) (LS i0))
    (hr : ∀ i nv, I i → codeR P lv nt ro S b (tmS i) (LS i) nv (roundG nt S I tmS LS μ i Q)) : Ev P lv nt ro (.loop b) tm (L ++ S) nv (liftQ S Q) := by
  refine ⟨fun w B a hs => ?_⟩
  obtain ⟨g1, g2⟩ := (h0.le (nv := nv)).sound hs
  let at_ : Act → World → Nat → Prop := fun a' w' n => ∃ i nv' B', I i ∧ SR nt (tmS i) (LS i ++ S) nv' w' B' a' ∧ Mono w B (lkH (L ++ S)) (· < nv) w' B' (lkH (LS i ++ S)) (· < nv') ∧ μ i = n
  refine wpIn_loop (fun a' w' => ∃ n, at_ a' w' n) (fun a' w' => least (at_ a' w')) ⟨_, i0, nv, _, hI, g1, g2, rfl⟩ ?_
  intro a1 w1 hI
  obtain ⟨i, nv1, B1, hi, h1, h2, h3⟩ := least_spec hI
  refine wpIn_mono ((codeR_sound hmx hlv b hok (tmS i) (LS i) _ nv1 _ (Rep.mk' S (LS i)) (hr i nv1 hi)).out w1 B1 a1 h1) ?_
  rintro e a2 w2 ⟨tm2, hp2, nv2, B2, ⟨L', r1, k1⟩, k2, k3⟩
  cases e with
  | normal =>
    have he : lkH hp2 = lkH (L' ++ S) := r1.eq
    rw [he] at k3
    have k2' : SR nt tm2 (L' ++ S) nv2 w2 B2 a2 := by
      obtain ⟨q1, q2⟩ := k2
      rw [he] at q1 q2
      exact ⟨q1, q2⟩
    obtain ⟨j, nv', B', hj, hlt, g1, g2⟩ := k1.go w2 B2 a2 k2'
    have hat : at_ a2 w2 (μ j) := ⟨j, nv', _, hj, g1, (h2.trans k3).trans g2, rfl⟩
    exact ⟨⟨_, hat⟩, Nat.lt_of_le_of_lt (least_le hat) (h3 ▸ hlt)⟩
  | _ => exact ⟨tm2, hp2, nv2, B2, ⟨L', r1, k1⟩, k2, h2.trans k3⟩
theorem loopGS2 {b : Code} (hmx : P.follows .mixedOrders = true) (hlv : lv ≠ 0) (hok : okS nt b = true) {ι κ : Type} (I : ι → κ → Prop) (tmS : ι → κ → Tm) (LS : ι → κ → Hp) (μ : ι → κ → Nat) (i0 : ι) (j0 : κ) (hI : I i0 j0) (h0 : LeS S tm L (tmS i0 j0) (LS i0 j0))
    (hr : ∀ i j nv, I i j → codeR P lv nt ro S b (tmS i j) (LS i j) nv (roundG nt S (fun p : ι × κ => I p.1 p.2) (fun p => tmS p.1 p.2) (fun p => LS p.1 p.2) (fun p => μ p.1 p.2) (i, j) Q)) : Ev P lv nt ro (.loop b) tm (L ++ S) nv (liftQ S Q) :=
  loopGS hmx hlv hok (fun p : ι × κ => I p.1 p.2) (fun p => tmS p.1 p.2) (fun p => LS p.1 p.2) (fun p => μ p.1 p.2) (i0, j0) hI h0 fun ⟨i, j⟩ nv h => hr i j nv h
/-- A round ends; a root becomes a cell of another one. -/
theorem graftR {ι : Type} {I : ι → Prop} {tmS : ι → Tm} {LS : ι → Hp} {μ : ι → Nat} {k : ι} (t : Nat) (r r' : RId) (hne : r' ≠ r) {v v' n i sz m : Nat} {f g : Nat → Nat → PV} (ht : lk tm t = .ref r v [] 1 0 n) (hr : lkH L r = some ⟨v, .own 1 n f⟩) (hr' : lkH L r' = some ⟨v', .own sz m g⟩)
    (hi : i < n) (hf : f i 0 = .ref r' v' [] sz 0 m) (hS : lkH S r' = none) (j : ι) (hI : I j) (hμ : μ j < μ k)
    (hle : LeS S ((t, .ref r nv [] 1 0 n) :: tm) ((r, ⟨nv, .own 1 n (graftF f i (.own sz m g))⟩) :: dropH r' L) (tmS j) (LS j)) : GoesOn nt S I tmS LS μ k tm L nv := ⟨fun w B a hs => by
  obtain ⟨B1, s1, m1⟩ := graft t r r' hne ht hr hr' hi hf (L' := (r, ⟨nv, .own 1 n (graftF f i (.own sz m g))⟩) :: dropH r' L) (fun j => by simp only [lkH]; rw [lkH_dropH]) hS hs
  obtain ⟨s2, m2⟩ := (hle.le (nv := nv + 1)).sound s1
  exact ⟨j, nv + 1, _, hI, hμ, s2, m1.trans m2⟩⟩
end
end Go.Ab
namespace Go.Ab
open Go.Proofs
set_option maxRecDepth 100000
theorem mx : Tryz.prog.follows .mixedOrders = true := by kernel_rfl

theorem bPair : Tryz.prog.bytesOf 56 = 16 := by kernel_rfl
theorem bInt : Tryz.prog.bytesOf 3 = 8 := by kernel_rfl
/-- A side condition, shown by the way; then what is left. -/
theorem vcI {p q : Prop} (k : q) (h : p := by first | first | first | exact rfl | exact trivial | exact fun _ => rfl | exact Nat.le_of_ble_eq_true rfl | exact Option.some_ne_none _ | omega | (intro hh; cases hh; done) | assumption | (show (0 : Int) ≤ _; omega) | (rw [bPair]; omega) | (rw [bInt]; omega) | (simp only [decide_eq_true_eq, beq_iff_eq, beq_true]; omega) | exact fun hh => hh | omega | ((refine ⟨fun hh => ?_, fun hh => ?_⟩) <;> (first | exact rfl | exact beq_iff_eq.2 hh)) | ((repeat' apply And.intro) <;> (first | first | exact rfl | exact trivial | exact fun _ => rfl | exact Nat.le_of_ble_eq_true rfl | exact Option.some_ne_none _ | omega | (intro hh; cases hh; done) | assumption | (show (0 : Int) ≤ _; omega) | (rw [bPair]; omega) | (rw [bInt]; omega))) | (intro hh; first | (cases hh; done) | ((repeat' apply And.intro) <;> (first | first | exact rfl | exact trivial | exact fun _ => rfl | exact Nat.le_of_ble_eq_true rfl | exact Option.some_ne_none _ | omega | (intro hh; cases hh; done) | assumption | (show (0 : Int) ≤ _; omega) | (rw [bPair]; omega) | (rw [bInt]; omega))) | (simp at hh; omega))) : p ∧ q := ⟨h, k⟩

/-- Lists of numbers, of pairs. -/
def ints (l : List Int) : PV := .frz 1 l.length fun i _ => .int .i64 (l.getD i 0)
def oints (l : List Int) : PV := .own 1 l.length fun i _ => .int .i64 (l.getD i 0)
def pcell (p : Int × Int) : Nat → PV
  | 0 => .int .i64 p.1
  | _ => .int .i64 p.2
def prs (l : List (Int × Int)) : PV := .frz 2 l.length fun i o => pcell (l.getD i (0, 0)) o
def oprs (l : List (Int × Int)) : PV := .own 2 l.length fun i o => pcell (l.getD i (0, 0)) o
theorem cellV_pcell (r : RId) (v : Nat) (p : Path) (i o : Nat) (x : Int × Int) (o' : Nat) : cellV r v p i o (pcell x o') = pcell x o' := by cases o' <;> rfl
theorem view_pcell (k : Nat) (hp : Hp) (x : Int × Int) (o : Nat) : view (k + 1) hp (pcell x o) = pcell x o := by cases o <;> rfl
theorem view_prs {k : Nat} {L : Hp} {r : RId} {v n : Nat} {l : List (Int × Int)} (h : lkH L r = some ⟨v, oprs l⟩) (hn : n = l.length) : NEq (view (k + 2) L (.ref r v [] 2 0 n)) (prs l) := by
  subst hn
  rw [view, h]
  simp only [if_true, getAt, oprs]
  exact NEq.frzs rfl (by simp) fun i o _ _ => by rw [view_pcell, Nat.zero_add]; exact .refl _
theorem view_ints {k : Nat} {L : Hp} {r : RId} {v n : Nat} {l : List Int} (h : lkH L r = some ⟨v, oints l⟩) (hn : n = l.length) : NEq (view (k + 2) L (.ref r v [] 1 0 n)) (ints l) := by
  subst hn
  rw [view, h]
  simp only [if_true, getAt, oints]
  exact NEq.frzs rfl (by simp) fun i o _ _ => by rw [Nat.zero_add]; exact .refl _
theorem getD_app {α : Type} (xs ys : List α) (i : Nat) (d : α) : (xs ++ ys).getD i d = if i < xs.length then xs.getD i d else ys.getD (i - xs.length) d := by
  simp only [List.getD_eq_getElem?_getD, List.getElem?_append]
  split <;> rfl
theorem app_prs {xs ys : List (Int × Int)} {sz n : Nat} {f : Nat → Nat → PV} (hsz : sz = 2) (hn : n = xs.length + ys.length) (h1 : ∀ i o, i < xs.length → o < 2 → NEq (f i o) (pcell (xs.getD i (0, 0)) o)) (h2 : ∀ i o, i < ys.length → o < 2 → NEq (f (xs.length + i) o) (pcell (ys.getD i (0, 0)) o)) :
    NEq (.own sz n f) (oprs (xs ++ ys)) := by
  refine NEq.owns hsz (by simp [hn]) fun i o hi ho => ?_
  rw [getD_app]
  rw [List.length_append] at hi
  by_cases h : i < xs.length
  · rw [if_pos h]; exact h1 _ _ h ho
  · rw [if_neg h]
    have := h2 (i - xs.length) o (by omega) ho
    rwa [show xs.length + (i - xs.length) = i by omega] at this
theorem app_ints {xs ys : List Int} {sz n : Nat} {f : Nat → Nat → PV} (hsz : sz = 1) (hn : n = xs.length + ys.length) (h1 : ∀ i o, i < xs.length → o < 1 → NEq (f i o) (.int .i64 (xs.getD i 0))) (h2 : ∀ i o, i < ys.length → o < 1 → NEq (f (xs.length + i) o) (.int .i64 (ys.getD i 0))) :
    NEq (.own sz n f) (oints (xs ++ ys)) := by
  refine NEq.owns hsz (by simp [hn]) fun i o hi ho => ?_
  rw [getD_app]
  rw [List.length_append] at hi
  by_cases h : i < xs.length
  · rw [if_pos h]; exact h1 _ _ h ho
  · rw [if_neg h]
    have := h2 (i - xs.length) o (by omega) ho
    rwa [show xs.length + (i - xs.length) = i by omega] at this
theorem shape_prs {n : Nat} {xs : List (Int × Int)} (h : n = xs.length) : shapeOf (oprs xs) = some (true, 2, n) := by subst h; rfl
theorem shape_ints {n : Nat} {xs : List Int} (h : n = xs.length) : shapeOf (oints xs) = some (true, 1, n) := by subst h; rfl
theorem KpR_ints {hs : Hp} {r id : RId} {v ver : Nat} {l : List Int} : KpR none hs r v id ver (oints l) (oints l) :=
  .own fun i o _ _ => .leaf rfl rfl (.view (.refl _))
end Go.Ab
namespace Go.Ab
open Classical
open Go.ChangeShapes Go.WideShapes Go.ChangeAt Go.RowKit

/-- Nothing is owned. -/
def B00 : Blocks := fun _ _ => none
theorem free00 (b : Nat) : free B00 b := fun _ _ h => by cases h
theorem hr00 (w : World) : HR w B00 H0 V0 := ⟨fun _ _ h => by simp [H0] at h, fun _ _ h => by simp [H0] at h, fun _ _ _ h => by simp [B00] at h, fun _ _ h => by simp [H0] at h, fun _ _ _ _ _ h => by simp [B00] at h⟩

theorem heap_same {w w' : World} {B' : Blocks} {H' : Roots} {V' : Nat → Prop} (hm : Mono w B00 H0 V0 w' B' H' V') {b : Nat} (hb : b < w.heap.size) : w'.heap[b]? = w.heap[b]? := (hm.free b hb (free00 b)).2

theorem kept_of {w w' : World} {B' : Blocks} {H' : Roots} {V' : Nat → Prop} (hm : Mono w B00 H0 V0 w' B' H' V') (may : MemPlace → Prop) : w.keptBut w' may := by
  refine ⟨hm.os, hm.output, fun i hi => ?_⟩
  rw [heap_same hm hi]
  split
  · rename_i h1 h2
    rw [h1] at h2
    cases h2
    exact ⟨rfl, rfl, rfl, fun _ _ => rfl⟩
  · rename_i h1 h2
    rw [h1] at h2
    cases h2
    exact .inr ⟨rfl, rfl⟩
  · rfl
theorem same_at {w w' : World} {B' : Blocks} {H' : Roots} {V' : Nat → Prop} (hm : Mono w B00 H0 V0 w' B' H' V') {p : MemPlace} (hp : p.block < w.heap.size) : w.sameAt w' p := by
  cases p with
  | cell b off => exact cell?_congr (heap_same hm hp)
  | map b => exact heap_same hm hp

theorem trodAll_carry {H : Type} {enc : TypeId × Value → H} {P : Program} {w w' : World} {base : Nat} {spare : Nat → Bool} {held : Bool} : ∀ {ts : List TypeId} {vs : List Value} {ds : List (DataW H)} {ps : List MemPlace}, DataW.TrodAll enc P w base spare held ts vs ds ps →
    (∀ p ∈ ps, w.sameAt w' p) → DataW.TrodAll enc P w' base spare held ts vs ds ps
  | [], [], [], _, h, _ => h
  | _ :: _, _ :: _, _ :: _, _, ⟨p, q, ⟨n, h1⟩, h2, e⟩, hs => ⟨p, q, ⟨n, DataW.trod_carry n _ _ _ h1 fun x hx => hs x (by rw [e]; exact List.mem_append_left _ hx)⟩, trodAll_carry h2 (fun x hx => hs x (by rw [e]; exact List.mem_append_right _ hx)), e⟩

/-- The answer is true, and all reads as it did. -/
theorem post_true {H : Type} {enc : TypeId × Value → H} {P : Program} {f : Func} {s : ChangeSpec} {apart fresh handsOn again : Bool} {W W' : World} {args : Array Value} {ds gs : List (DataW H)} {before : List MemPlace} {B' : Blocks} {tb : TypeId}
    (hm : Mono W B00 H0 V0 W' B' H0 V0) (hl : laidOutB P = true) (hmr : mapsRowed P = true) (hz : ∀ t e, t < P.types.size → P.underlying t = some (.slice e) → 0 < P.cellsOf e) (hts : ∀ t ∈ f.params.toList, t < P.types.size) (hvars : s.vars = [])
    (hfn : s.fn H ds = { results := [.lit (.bool true)], args := ds }) (hret : f.resultTypes = #[tb]) (htb : P.underlying tb = some .bool) (hok : Value.okWide P W' .any 0 tb (.bool true))
    (hW : DataW.Whole enc P f.params.toList s.vars apart W args.toList ds gs before) : s.post enc P f apart fresh handsOn again W args (.bool true) W' := by
  have hlt := hW.lt
  have hW' := hW
  obtain ⟨p, q, hA, hV, rfl, hfz, hnd⟩ := hW
  rw [hvars] at hV
  obtain ⟨rfl, rfl⟩ := trodVars_none hV
  simp only [List.append_nil] at hlt hW' hfz hnd
  have hread : ∀ sp : Nat → Bool, (∀ x ∈ p, sp x.block = true) → DataW.TrodAll enc P W' 0 sp true f.params.toList args.toList ds p := fun sp hsp =>
    trodAll_carry (hA.respare (kids_rows hl hmr) hz hts hsp) fun x hx => same_at hm (hlt x hx)
  have hres : ∀ (b : Nat) (sp : Nat → Bool) (hd : Bool), DataW.TrodAll enc P W' b sp hd f.resultTypes.toList ((Value.bool true).resultList f.resultTypes.size) [.lit (.bool true)] [] := fun b sp hd => by
    rw [hret]; exact trodAll_cons_mk (shut_bool htb _) trodAll_mk0
  have hno : ∀ sp : Nat → Bool, DataW.TrodVars enc P W' sp s.vars [] [] := fun sp => by rw [hvars]; rfl
  have e : s.fn H (ds ++ []) = { results := [.lit (.bool true)], args := ds } := by rw [List.append_nil]; exact hfn
  refine ⟨ds, [], p, [], p, [], by simpa using hW', by rw [e]; exact hres _ _ _, by rw [e]; exact hread _ (fun x hx => by simpa using hlt x hx), by rw [e]; exact hno _, kept_of hm _, fun _ => ⟨?_, [.lit (.bool true)] ++ ds, [], [] ++ p, ⟨[] ++ p, [], trodAll_append (hread _ fun _ _ => rfl) (hres _ _ _), hno _, by simp, ?_, ?_⟩, ?_⟩⟩
  · intro j t r h1 h2
    rw [hret] at h1 h2
    cases j with
    | zero =>
      cases h1
      cases h2
      exact hok
    | succ j => simp at h1
  · intro b off hp
    have hp' : MemPlace.cell b off ∈ p := by simpa using hp
    have : W'.heap[b]? = W.heap[b]? := heap_same hm (hlt _ hp')
    have h0 := hfz b off hp'
    simp only [World.frozen?] at h0 ⊢
    rw [this]
    exact h0
  · intro ha
    simpa using hnd ha
  · intro x hx _
    simpa using hx
end Go.Ab
namespace Go.Ab
open Classical
open Go.ChangeShapes Go.WideShapes Go.ChangeAt Go.RowKit

mutual
def blk {H : Type} : DataW H → Nat
  | .lit (.string bytes) => bytes.length + 1
  | .lit _ => 1
  | .nil => 1
  | .ptr d => blk d + 1
  | .slice elems spare => blkAll elems + blkAll spare + 1
  | .agg parts => blkAll parts + 1
  | .iface _ d => blk d + 1
  | .map entries => blkEntries entries + 1
  | .held _ => 1
def blkAll {H : Type} : List (DataW H) → Nat
  | [] => 0
  | d :: r => blk d + blkAll r
def blkEntries {H : Type} : List (Lit × DataW H) → Nat
  | [] => 0
  | x :: r => blkEntry x + blkEntries r
def blkEntry {H : Type} : Lit × DataW H → Nat
  | (.string bytes, d) => bytes.length + blk d + 1
  | (_, d) => blk d + 1
end

theorem blk_pos {H : Type} (d : DataW H) : 1 ≤ blk d := by
  cases d with
  | lit l => cases l <;> simp [blk]
  | _ => simp [blk]
theorem blk_mem {H : Type} {d : DataW H} {l : List (DataW H)} (h : d ∈ l) : blk d ≤ blkAll l := by
  induction l with
  | nil => cases h
  | cons x r ih =>
    simp only [blkAll]
    rcases List.mem_cons.1 h with rfl | e
    · omega
    · have := ih e; omega
theorem blk_len {H : Type} (l : List (DataW H)) : l.length ≤ blkAll l := by
  induction l with
  | nil => simp [blkAll]
  | cons x r ih => have := blk_pos x; simp only [blkAll, List.length_cons]; omega

/-- Cells as they read. -/
def CR (w : World) (l : List PV) (cs : List Value) : Prop := l.length = cs.length ∧ ∀ i, i < cs.length → VR w B00 H0 V0 (l.getD i .undef) (cs.getD i Go.undef)

/-- What values of a type read as. -/
def Reads (P : Program) (t : TypeId) (α : Type) (enc : α → List PV) (ok : α → Prop) : Prop :=
  ∀ {H : Type} {tok : TypeId × Value → H} {w : World} {base : Nat} {spare : Nat → Bool} {held : Bool} {fuel : Nat} {cs : List Value} {x : DataW H × List MemPlace}, DataW.trod tok P w base spare held fuel t cs = some x → blk x.1 ≤ 1048576 → ∃ a, ok a ∧ CR w (enc a) cs

theorem CR.one {w : World} {x : PV} {v : Value} (h : VR w B00 H0 V0 x v) : CR w [x] [v] := ⟨rfl, fun i hi => by
  obtain rfl : i = 0 := by simpa using hi
  exact h⟩

theorem Reads.int {P : Program} {t : TypeId} {k : IntKind} (ht : P.underlying t = some (.int k)) : Reads P t Int (fun n => [.int k n]) (fun n => (Lit.int k n).wf = true) := by
  intro H tok w base spare held fuel cs x h hb
  obtain ⟨n, rfl, rfl, hw⟩ := DataW.trod_int ht h
  exact ⟨n, hw, .one (.int k n)⟩
theorem Reads.bool {P : Program} {t : TypeId} (ht : P.underlying t = some .bool) : Reads P t Bool (fun b => [.bool b]) (fun _ => True) := by
  intro H tok w base spare held fuel cs x h hb
  obtain ⟨n, rfl, rfl⟩ := DataW.trod_bool ht h
  exact ⟨n, trivial, .one (.bool n)⟩
theorem Reads.string {P : Program} {t : TypeId} (ht : P.underlying t = some .string) : Reads P t ByteArray (fun s => [.str s]) (fun s => s.size ≤ 1048576) := by
  intro H tok w base spare held fuel cs x h hb
  obtain ⟨s, rfl, rfl, hw⟩ := DataW.trod_string ht h
  refine ⟨s, ?_, .one (.str s)⟩
  simp only [blk] at hb
  have : s.data.toList.length = s.size := by rw [Array.length_toList]; rfl
  omega

theorem cells_at {w : World} {base : Nat} {a : Addr} {n : Nat} {cs : List Value} (h : w.cells? base a n = some cs) : cs.length = n ∧ ∀ i, i < n → w.cell? (a.add i) = some (cs.getD i Go.undef) := by
  unfold World.cells? at h
  split at h
  · have h1 := mapM_some_length h
    refine ⟨by simpa using h1, fun i hi => ?_⟩
    have h2 := mapM_some_get h i i (by simp [hi])
    rw [h2]
    have hi' : i < cs.length := by rw [h1]; simpa using hi
    simp [List.getD_eq_getElem?_getD, hi']
  · cases h
theorem cell_spot {w : World} {a : Addr} {v : Value} (h : w.cell? a = some v) : a.spot = none ∧ a.block < w.heap.size := by
  unfold World.cell? at h
  split at h
  · rename_i c _ _ hb
    split at h
    · cases h
    · rename_i hs
      exact ⟨by simpa using hs, lt_of_get hb⟩
  · cases h

/-- A slice's data. -/
def sliceP {α : Type} (d : α) (sz : Nat) (enc : α → List PV) (l : List α) : PV := .frz sz l.length fun i o => (enc (l.getD i d)).getD o .undef

theorem Reads.slice {P : Program} {t e : TypeId} {α : Type} {enc : α → List PV} {ok : α → Prop} (d : α) (ht : P.underlying t = some (.slice e)) (hsz : 0 < P.cellsOf e) (he : Reads P e α enc ok) :
    Reads P t (List α) (fun l => [sliceP d (P.cellsOf e) enc l]) (fun l => l.length ≤ 1048576 ∧ ∀ a ∈ l, ok a) := by
  intro H tok w base spare held fuel cs x h hb
  rcases DataW.trod_slice ht h with ⟨rfl, rfl⟩ | ⟨a, len, cap, elems, rest, n, rfl, rfl, rfl, h1, h2, h3, h4, h5, h6, h7⟩
  · exact ⟨[], ⟨by simp, by simp⟩, .one (VR.nils.less .nils)⟩
  · simp only [blk] at hb
    have hlen : len ≤ 1048576 := by have := blk_len (elems.map (·.1)); rw [List.length_map, h4] at this; omega
    have key : ∀ i, i < len → ∃ y cs', ok y ∧ w.cells? base (a.add (i * P.cellsOf e)) (P.cellsOf e) = some cs' ∧ CR w (enc y) cs' := fun i hi => by
      have h8 := h5 i hi
      have hi' : i < elems.length := by omega
      rw [List.getElem?_eq_getElem hi', Option.bind_eq_some_iff] at h8
      obtain ⟨cs', g1, g2⟩ := h8
      have hbk : blk elems[i].1 ≤ 1048576 := by
        have := blk_mem (l := elems.map (·.1)) (List.mem_map.2 ⟨elems[i], List.getElem_mem _, rfl⟩)
        omega
      obtain ⟨y, k1, k2⟩ := he g2 hbk
      exact ⟨y, cs', k1, g1, k2⟩
    let L : List α := (List.range len).map fun i => if hi : i < len then Classical.choose (key i hi) else d
    have hL : L.length = len := by simp [L]
    have hget : ∀ i (hi : i < len), L.getD i d = Classical.choose (key i hi) := fun i hi => by
      simp only [L, List.getD_eq_getElem?_getD, List.getElem?_map]
      rw [List.getElem?_range hi]
      simp [hi]
    have hch : ∀ i (hi : i < len), ∃ cs', ok (L.getD i d) ∧ w.cells? base (a.add (i * P.cellsOf e)) (P.cellsOf e) = some cs' ∧ CR w (enc (L.getD i d)) cs' := fun i hi => by
      rw [hget i hi]; exact Classical.choose_spec (key i hi)
    let g : Nat → Nat → Value := fun i o => (if hi : i < len then Classical.choose (hch i hi) else []).getD o Go.undef
    have hg : ∀ i (hi : i < len), ∃ cs', (fun o => g i o) = (fun o => cs'.getD o Go.undef) ∧ w.cells? base (a.add (i * P.cellsOf e)) (P.cellsOf e) = some cs' ∧ CR w (enc (L.getD i d)) cs' := fun i hi => by
      refine ⟨Classical.choose (hch i hi), ?_, (Classical.choose_spec (hch i hi)).2.1, (Classical.choose_spec (hch i hi)).2.2⟩
      funext o
      simp only [g, dif_pos hi]
    refine ⟨L, ⟨by omega, fun y hy => ?_⟩, .one ?_⟩
    · obtain ⟨i, hi, rfl⟩ := List.mem_iff_getElem.1 hy
      have := (hch i (by omega)).choose_spec.1
      simpa [List.getD_eq_getElem?_getD, hi] using this
    · unfold sliceP
      rw [hL]
      refine .frz (g := g) h2 (by omega) (fun h0 => ?_) (fun i o hi ho => ?_)
      · obtain ⟨cs0, _, k2, _⟩ := hg 0 h0
        obtain ⟨hspot, hblk⟩ := cell_spot ((cells_at k2).2 0 hsz)
        obtain ⟨b, off, spot⟩ := a
        simp [Addr.add] at hspot hblk
        subst hspot
        refine ⟨b, off, rfl, free00 b, hblk, fun i o hi ho => ?_⟩
        obtain ⟨cs', k1, k2, _⟩ := hg i hi
        have := (cells_at k2).2 o ho
        have e1 : g i o = cs'.getD o Go.undef := congrFun k1 o
        rw [e1, ← this]
        rw [add_plain, add_plain, Nat.add_assoc]
      · obtain ⟨cs', k1, k2, k3⟩ := hg i hi
        have e1 : g i o = cs'.getD o Go.undef := congrFun k1 o
        rw [e1]
        exact k3.2 o (by rw [(cells_at k2).1]; exact ho)

theorem CR.append {w : World} {l l' : List PV} {cs cs' : List Value} (h : CR w l cs) (h' : CR w l' cs') : CR w (l ++ l') (cs ++ cs') := by
  refine ⟨by rw [List.length_append, List.length_append, h.1, h'.1], fun i hi => ?_⟩
  rw [List.length_append] at hi
  simp only [List.getD_eq_getElem?_getD, List.getElem?_append, h.1]
  by_cases hlt : i < cs.length
  · rw [if_pos hlt, if_pos hlt]
    simpa only [List.getD_eq_getElem?_getD] using h.2 i hlt
  · rw [if_neg hlt, if_neg hlt]
    simpa only [List.getD_eq_getElem?_getD] using h'.2 (i - cs.length) (by omega)

/-- Another name for what is read. -/
theorem Reads.map {P : Program} {t : TypeId} {α β : Type} {enc : α → List PV} {enc' : β → List PV} {ok : α → Prop} {ok' : β → Prop} (h : Reads P t α enc ok) (f : α → β) (hf : ∀ a, ok a → ok' (f a) ∧ enc' (f a) = enc a) : Reads P t β enc' ok' := by
  intro H tok w base spare held fuel cs x hx hb
  obtain ⟨a, h1, h2⟩ := h hx hb
  obtain ⟨h3, h4⟩ := hf a h1
  exact ⟨f a, h3, h4 ▸ h2⟩

/-- Less told of what is read. -/
theorem Reads.less {P : Program} {t : TypeId} {α β : Type} {enc : α → List PV} {enc' : β → List PV} {ok : α → Prop} {ok' : β → Prop} (h : Reads P t α enc ok) (f : α → β) (hf : ∀ a, ok a → ok' (f a) ∧ LeL (enc a) (enc' (f a))) : Reads P t β enc' ok' := by
  intro H tok w base spare held fuel cs x hx hb
  obtain ⟨a, h1, h2⟩ := h hx hb
  obtain ⟨h3, h4⟩ := hf a h1
  exact ⟨f a, h3, h4.1.symm.trans h2.1, fun i hi => (h2.2 i hi).less (h4.2 i (by rw [h2.1]; exact hi))⟩

/-! ### Arguments -/
theorem Reads.argInt {P : Program} {t : TypeId} {k : IntKind} (ht : P.underlying t = some (.int k)) {H : Type} {tok : TypeId × Value → H} {w : World} {base b0 : Nat} {r : Reach} {spare : Nat → Bool} {held : Bool} {v : Value} {d : DataW H} {ps : List MemPlace}
    (hval : Value.okWide P w r b0 t v) (hd : DataW.Trod tok P w base spare held t v d ps) (hb : blk d ≤ 1048576) : ∃ n, (Lit.int k n).wf = true ∧ VR w B00 H0 V0 (.int k n) v := by
  obtain ⟨n, rfl⟩ := okWide_int ht hval
  obtain ⟨fuel, hd⟩ := hd
  obtain ⟨y, h1, h2⟩ := Reads.int ht hd hb
  exact ⟨y, h1, h2.2 0 (by simp [Value.cells])⟩
theorem Reads.argStruct {P : Program} {t : TypeId} {fs : Array Field} {α : Type} {enc : α → List PV} {ok : α → Prop} (h : Reads P t α enc ok) (ht : P.underlying t = some (.struct fs)) {H : Type} {tok : TypeId × Value → H} {w : World} {base b0 : Nat} {r : Reach} {spare : Nat → Bool} {held : Bool} {v : Value} {d : DataW H} {ps : List MemPlace}
    (hval : Value.okWide P w r b0 t v) (hd : DataW.Trod tok P w base spare held t v d ps) (hb : blk d ≤ 1048576) : ∃ a, ok a ∧ VR w B00 H0 V0 (.agg (enc a)) v := by
  obtain ⟨cs, rfl, _⟩ := okWide_struct ht hval
  obtain ⟨fuel, hd⟩ := hd
  obtain ⟨y, h1, h2⟩ := h hd hb
  refine ⟨y, h1, .agg (by simpa [Value.cells] using h2.1) fun i hi => ?_⟩
  have h3 := h2.1
  have h4 := h2.2 i (by omega)
  simpa [Value.cells, List.getD_eq_getElem?_getD, Array.getD_eq_getD_getElem?] using h4

theorem LR.nil0 {w : World} : LR w B00 H0 V0 [] #[] := ⟨rfl, fun i hi => absurd hi (by simp)⟩
theorem LR.cons0 {w : World} {x : PV} {v : Value} {l : List PV} {vs : List Value} (h : VR w B00 H0 V0 x v) (k : LR w B00 H0 V0 l vs.toArray) : LR w B00 H0 V0 (x :: l) (v :: vs).toArray :=
  ⟨by have := k.len; simp at this ⊢; exact this, fun i hi => by
    cases i with
    | zero => simpa using h
    | succ i => have := k.val i (by simpa using hi); simpa [Array.getD_eq_getD_getElem?] using this⟩

/-- A law that holds of what is read: what its row asks. -/
theorem law_of {H : Type} {enc : TypeId × Value → H} {P : Program} {f : FuncId} {fn : Func} {s : ChangeSpec} {apart fresh handsOn again : Bool} {W : World} {args : Array Value} {ds gs : List (DataW H)} {before : List MemPlace} {tb : TypeId} {l : List PV}
    (hl : laidOutB P = true) (hmr : mapsRowed P = true) (hz : ∀ t e, t < P.types.size → P.underlying t = some (.slice e) → 0 < P.cellsOf e) (hts : ∀ t ∈ fn.params.toList, t < P.types.size) (hvars : s.vars = [])
    (hfn : s.fn H ds = { results := [.lit (.bool true)], args := ds }) (hret : fn.resultTypes = #[tb]) (htb : P.underlying tb = some .bool)
    (hW : DataW.Whole enc P fn.params.toList s.vars apart W args.toList ds gs before) (h : CallsF P f l (.bool true)) (ha : LR W B00 H0 V0 l args) :
    Calls P f args W fun e W' => ∃ v, e = .returned v ∧ s.post enc P fn apart fresh handsOn again W args v W' := by
  refine (h.2 W B00 args (hr00 W) ha).mono fun e W' he => ?_
  obtain ⟨v, B', rfl, h1, h2⟩ := he
  generalize hx : PV.bool true = x at h1
  cases h1 <;> cases hx
  exact ⟨_, rfl, post_true h2 hl hmr hz hts hvars hfn hret htb (okWide_bool_mk htb _) hW⟩
end Go.Ab
namespace Go.Proofs.YtbclepldghjacaaGreat.Common
open Go Go.Ab Go.Proofs
open Go.ChangeShapes Go.WideShapes Go.ChangeAt Go.RowKit
set_option maxRecDepth 100000

theorem own : ownKnob Tryz.prog.godebug = none := by kernel_rfl
theorem laidOut : laidOutB Tryz.prog = true := by kernel_rfl
theorem rowed : mapsRowed Tryz.prog = true := by kernel_rfl
mutual
theorem blkEq {H : Type} : (d : DataW H) → blk d = Rows.uptoBulk d
  | .lit l => by cases l <;> simp [blk, Rows.uptoBulk]
  | .nil => by simp [blk, Rows.uptoBulk]
  | .ptr d => by simp [blk, Rows.uptoBulk, blkEq d]
  | .slice elems spare => by simp [blk, Rows.uptoBulk, blkAllEq elems, blkAllEq spare]
  | .agg parts => by simp [blk, Rows.uptoBulk, blkAllEq parts]
  | .iface _ d => by simp [blk, Rows.uptoBulk, blkEq d]
  | .map entries => by simp [blk, Rows.uptoBulk, blkEntriesEq entries]
  | .held _ => by simp [blk, Rows.uptoBulk]
theorem blkAllEq {H : Type} : (l : List (DataW H)) → blkAll l = Rows.uptoBulkAll l
  | [] => by simp [blkAll, Rows.uptoBulkAll]
  | d :: r => by simp [blkAll, Rows.uptoBulkAll, blkEq d, blkAllEq r]
theorem blkEntriesEq {H : Type} : (l : List (Lit × DataW H)) → blkEntries l = Rows.uptoBulkEntries l
  | [] => by simp [blkEntries, Rows.uptoBulkEntries]
  | x :: r => by simp [blkEntries, Rows.uptoBulkEntries, blkEntryEq x, blkEntriesEq r]
theorem blkEntryEq {H : Type} : (x : Lit × DataW H) → blkEntry x = Rows.uptoBulkEntry x
  | (l, d) => by cases l <;> simp [blkEntry, Rows.uptoBulkEntry, blkEq d]
end
/-- Each argument's bulk. -/
theorem small {H : Type} {ds : List (DataW H)} (hk : Rows.uptoSmall H (ds ++ []) = true) : ∀ d ∈ ds, blk d ≤ 1048576 := fun d hd => by
  have h : Rows.uptoBulkAll (ds ++ []) ≤ 1048576 := of_decide_eq_true hk
  rw [List.append_nil, ← blkAllEq] at h
  exact Nat.le_trans (blk_mem hd) h
theorem sizes : ∀ t e, t < Tryz.prog.types.size → Tryz.prog.underlying t = some (.slice e) → 0 < Tryz.prog.cellsOf e := by
  have h : (List.range Tryz.prog.types.size).all (fun t => match Tryz.prog.underlying t with
    | some (.slice e) => Nat.blt 0 (Tryz.prog.cellsOf e)
    | _ => true) = true := by kernel_rfl
  intro t e ht hu
  have := List.all_eq_true.1 h t (List.mem_range.2 ht)
  rw [hu] at this
  simpa [Nat.blt_eq] using this
theorem rInt : Reads Tryz.prog 3 Int (fun n => [.int .i64 n]) (fun n => (Lit.int .i64 n).wf = true) := Reads.int Tryz.underlying3
end Go.Proofs.YtbclepldghjacaaGreat.Common
namespace Go.Ab
open Classical
open Go.ChangeShapes Go.WideShapes Go.ChangeAt Go.RowKit

/-- Fields, one behind the other, as they read. -/
structure RFs (P : Program) (fs : List Field) (off m : Nat) (α : Type) (enc : α → List PV) (ok : α → Prop) : Prop where
  out : ∀ {H : Type} {tok : TypeId × Value → H} {w : World} {base : Nat} {spare : Nat → Bool} {held : Bool} {n : Nat} {cs : List Value} {xs : List (DataW H × List MemPlace)}, off + m ≤ cs.length → xs.length = fs.length →
    (∀ (i : Nat) (f : Field), fs[i]? = some f → DataW.trod tok P w base spare held n f.type ((cs.drop f.offset).take (P.cellsOf f.type)) = xs[i]?) → blkAll (xs.map (·.1)) ≤ 1048576 → ∃ a, ok a ∧ CR w (enc a) ((cs.drop off).take m)

theorem RFs.nil {P : Program} (off : Nat) : RFs P [] off 0 Unit (fun _ => []) (fun _ => True) :=
  ⟨fun h0 h1 h2 h3 => ⟨(), trivial, by simp, fun i hi => by simp at hi⟩⟩
theorem RFs.cons {P : Program} {f : Field} {fs : List Field} {off sz m : Nat} {α β : Type} {enc : α → List PV} {enc' : β → List PV} {ok : α → Prop} {ok' : β → Prop} (hf : f.offset = off) (hs : P.cellsOf f.type = sz) (h : Reads P f.type α enc ok) (k : RFs P fs (off + sz) m β enc' ok') :
    RFs P (f :: fs) off (sz + m) (α × β) (fun p => enc p.1 ++ enc' p.2) (fun p => ok p.1 ∧ ok' p.2) := by
  refine ⟨fun {H tok w base spare held n cs xs} h0 h1 h2 h3 => ?_⟩
  cases xs with
  | nil => simp at h1
  | cons x xs =>
    have e := h2 0 f rfl
    simp only [List.getElem?_cons_zero] at e
    simp only [List.map_cons, blkAll] at h3
    obtain ⟨a, k1, k2⟩ := h e (by omega)
    obtain ⟨b, k3, k4⟩ := k.out (n := n) (cs := cs) (xs := xs) (by omega) (by simpa using h1) (fun i g hg => by simpa using h2 (i + 1) g (by simpa using hg)) (by omega)
    refine ⟨(a, b), ⟨k1, k3⟩, ?_⟩
    rw [hf, hs] at k2
    have e2 : (cs.drop off).take (sz + m) = (cs.drop off).take sz ++ (cs.drop (off + sz)).take m := by
      rw [List.take_add, List.drop_drop]
    rw [e2]
    exact k2.append k4
theorem Reads.struct {P : Program} {t : TypeId} {fs : Array Field} {m : Nat} {α : Type} {enc : α → List PV} {ok : α → Prop} (ht : P.underlying t = some (.struct fs)) (hc : P.cellsOf t = m) (h : RFs P fs.toList 0 m α enc ok) : Reads P t α enc ok := by
  intro H tok w base spare held fuel cs x hx hb
  obtain ⟨xs, n, rfl, rfl, hl, hn, hi⟩ := DataW.trod_struct ht hx
  simp only [blk] at hb
  obtain ⟨a, k1, k2⟩ := h.out (n := n) (cs := cs) (xs := xs) (by omega) (by simpa using hn) (fun i f hf => hi i f (by simpa using hf)) (by omega)
  rw [List.drop_zero, List.take_of_length_le (by omega)] at k2
  exact ⟨a, k1, k2⟩
theorem LeL.same {l m : List PV} (h : l = m) : LeL l m := h ▸ ⟨rfl, fun _ _ => .refl _⟩
/-- A slice under another name. -/
theorem LeL.sliceP {α : Type} {d : α} {sz sz' : Nat} {enc : α → List PV} {l : List α} {g : Nat → Nat → PV} {n : Nat} (h1 : sz = sz') (h2 : l.length = n) (h : ∀ i o, i < n → o < sz' → NEq ((enc (l.getD i d)).getD o .undef) (g i o)) : LeL [Go.Ab.sliceP d sz enc l] [.frz sz' n g] :=
  .cons (NEq.frzs h1 h2 h) .nil
end Go.Ab
namespace Go.Ab
open Go.Proofs
set_option maxRecDepth 100000
set_option maxHeartbeats 1000000

def setsB (n : Int) : Bool := n == 1 || n == 12 || n == 2 || n == 4 || n == 14 || n == 6 || n == 7 || n == 13
theorem sets_spec (n : Int) : CallsF Tryz.prog 81 [.int .i64 n] (.bool (setsB n)) := by
  refine callsF_ofS mx Tryz.call81 Tryz.func81 rfl Tryz.ntmps81 Tryz.results81 (by kernel_rfl) (by simp) fun lo => ?_
  repeat' (first | refine vcI ?_ | refine And.intro ?_ ?_ | (intro hq; (try simp at hq); (try (exfalso; omega)); (try (revert hq; intro))))
  all_goals ((refine NEq.of_eq ?_; show PV.bool _ = PV.bool _; congr 1); simp_all [setsB])

theorem take_eq_succ {α : Type} [Inhabited α] {a b : List α} {k : Nat} (hl : a.length = b.length) (h : a.take k = b.take k) (hk : k < a.length) (e : a[k]?.getD default = b[k]?.getD default) : a.take (k + 1) = b.take (k + 1) := by
  have hk' : k < b.length := by omega
  simp [hk, hk'] at e
  rw [List.take_add_one, List.take_add_one, h, List.getElem?_eq_getElem hk, List.getElem?_eq_getElem hk', e]
theorem take_ne {α : Type} [Inhabited α] {a b : List α} {k : Nat} (e : ¬ a[k]?.getD default = b[k]?.getD default) : a ≠ b := fun h => e (by rw [h])
theorem take_all {α : Type} {a b : List α} {k : Nat} (hl : a.length = b.length) (h : a.take k = b.take k) (hk : a.length ≤ k) : a = b := by
  rwa [List.take_of_length_le hk, List.take_of_length_le (by omega)] at h

theorem sameInts_spec (a b : List Int) : CallsF Tryz.prog 14 [ints a, ints b] (.bool (decide (a = b))) := by
  refine callsF_ofS mx Tryz.call14 Tryz.func14 rfl Tryz.ntmps14 Tryz.results14 (by kernel_rfl) (by simp) fun lo => ?_
  repeat' (first | refine vcI ?_ | refine And.intro ?_ ?_ | (intro hq; (try simp at hq); (try (exfalso; omega)); (try (revert hq; intro))))
  · rename_i _ _ h
    (refine NEq.of_eq ?_; show PV.bool _ = PV.bool _; congr 1)
    simp only [Bool.false_eq, decide_eq_false_iff_not]
    intro e; subst e; exact h rfl
  · rename_i _ _ h
    have hl : a.length = b.length := by omega
    refine loopS mx (by decide) (by kernel_rfl) (fun k : Nat => k ≤ a.length ∧ a.take k = b.take k) (fun k => [(5, .int .i64 k), (0, ints a), (1, ints b)]) (fun _ => []) (fun k => a.length - k) 0 (by simp) ⟨by ((repeat' apply And.intro) <;> (first | exact True.intro | exact NEq.refl _ | (refine NEq.int ?_; first | exact rfl | omega | (rw [wrapI (by omega)]; first | exact rfl | omega)))), trivial, .nil⟩ ?_
    intro k nv ⟨hk, hc⟩
    repeat' (first | refine vcI ?_ | refine And.intro ?_ ?_ | (intro hq; (try simp at hq); (try (exfalso; omega)); (try (revert hq; intro))))
    · rename_i _ _ h3
      (refine NEq.of_eq ?_; show PV.bool _ = PV.bool _; congr 1)
      simp only [Bool.false_eq, decide_eq_false_iff_not]
      exact take_ne h3
    · rename_i _ h2 h3
      refine Exists.intro (k+1) ⟨⟨by omega, take_eq_succ hl hc h2 h3⟩, (by first | omega | (dsimp only; omega)), ⟨by ((repeat' apply And.intro) <;> (first | exact True.intro | exact NEq.refl _ | (refine NEq.int ?_; first | exact rfl | omega | (rw [wrapI (by omega)]; first | exact rfl | omega)))), trivial, .nil⟩⟩
    · rename_i _ h2
      (refine NEq.of_eq ?_; show PV.bool _ = PV.bool _; congr 1)
      simp only [Bool.true_eq, decide_eq_true_eq]
      exact take_all hl hc h2

theorem samePairs_spec (a b : List (Int × Int)) : CallsF Tryz.prog 15 [prs a, prs b] (.bool (decide (a = b))) := by
  refine callsF_ofS mx Tryz.call15 Tryz.func15 rfl Tryz.ntmps15 Tryz.results15 (by kernel_rfl) (by simp) fun lo => ?_
  repeat' (first | refine vcI ?_ | refine And.intro ?_ ?_ | (intro hq; (try simp at hq); (try (exfalso; omega)); (try (revert hq; intro))))
  · rename_i _ _ h
    (refine NEq.of_eq ?_; show PV.bool _ = PV.bool _; congr 1)
    simp only [Bool.false_eq, decide_eq_false_iff_not]
    intro e; subst e; exact h rfl
  · rename_i _ _ h
    have hl : a.length = b.length := by omega
    refine loopS mx (by decide) (by kernel_rfl) (fun k : Nat => k ≤ a.length ∧ a.take k = b.take k) (fun k => [(5, .int .i64 k), (0, prs a), (1, prs b)]) (fun _ => []) (fun k => a.length - k) 0 (by simp) ⟨by ((repeat' apply And.intro) <;> (first | exact True.intro | exact NEq.refl _ | (refine NEq.int ?_; first | exact rfl | omega | (rw [wrapI (by omega)]; first | exact rfl | omega)))), trivial, .nil⟩ ?_
    intro k nv ⟨hk, hc⟩
    repeat' (first | refine vcI ?_ | refine And.intro ?_ ?_ | (intro hq; (try simp at hq); (try (exfalso; omega)); (try (revert hq; intro))))
    · rename_i _ _ h3
      (refine NEq.of_eq ?_; show PV.bool _ = PV.bool _; congr 1)
      simp only [Bool.false_eq, decide_eq_false_iff_not]
      intro e
      subst e
      simp at h3
    · rename_i _ h2 h3
      exact Exists.intro (k+1) ⟨⟨by omega, take_eq_succ hl hc h2 (Prod.ext h3.1 h3.2)⟩, (by first | omega | (dsimp only; omega)), ⟨by ((repeat' apply And.intro) <;> (first | exact True.intro | exact NEq.refl _ | (refine NEq.int ?_; first | exact rfl | omega | (rw [wrapI (by omega)]; first | exact rfl | omega)))), trivial, .nil⟩⟩
    · rename_i _ h2
      (refine NEq.of_eq ?_; show PV.bool _ = PV.bool _; congr 1)
      simp only [Bool.true_eq, decide_eq_true_eq]
      exact take_all hl hc h2

end Go.Ab
namespace Go.Ab
open Go.Proofs
set_option maxRecDepth 100000
set_option maxHeartbeats 1000000

/-- A described value, a described frame, an instruction, a type, optimised code. -/
structure DV where
  k : Int
  n : Int
  m : Int
  vk : Int
  vn : Int
  vs : ByteArray
deriving Inhabited
structure DF where
  code : Int
  pc : Int
  self : DV
  holder : DV
  vars : List DV
  stack : List DV
  up : Int
  act : Int
deriving Inhabited
structure DT where
  k : Int
  n : Int
  vk : Int
  vn : Int
  vs : ByteArray
deriving Inhabited
structure DI where
  op : Int
  d : Int
  a : Int
  b : Int
  n : Int
  m : Int
  args : List Int
  s : ByteArray
  vk : Int
  vn : Int
  vs : ByteArray
  t : DT
deriving Inhabited
structure DS where
  name : ByteArray
  kind : Int
  vk : Int
  vn : Int
  vs : ByteArray
deriving Inhabited
structure DM where
  kind : Int
  slots : List DS
deriving Inhabited
structure DP where
  oid : Int
  whole : Bool
  map : DM
  slot : Int
  vk : Int
  vn : Int
  vs : ByteArray
deriving Inhabited
structure DO where
  code : Int
  recv : DT
  maps : List DM
  irs : List DI
  descs : List (List DF)
  types : List (List DT)
  deps : List DP
  regs : Int

def dvl (v : DV) : List PV := [.int .i64 v.k, .int .i64 v.n, .int .i64 v.m, .int .i64 v.vk, .int .i64 v.vn, .str v.vs]
def dvs (l : List DV) : PV := .frz 6 l.length fun i o => (dvl (l.getD i default)).getD o .undef
def dfl (f : DF) : List PV := [.int .i64 f.code, .int .i64 f.pc,
  .int .i64 f.self.k, .int .i64 f.self.n, .int .i64 f.self.m, .int .i64 f.self.vk, .int .i64 f.self.vn, .str f.self.vs,
  .int .i64 f.holder.k, .int .i64 f.holder.n, .int .i64 f.holder.m, .int .i64 f.holder.vk, .int .i64 f.holder.vn, .str f.holder.vs,
  dvs f.vars, dvs f.stack, .int .i64 f.up, .int .i64 f.act]
def dfs (l : List DF) : PV := .frz 18 l.length fun i o => (dfl (l.getD i default)).getD o .undef
def dfss (l : List (List DF)) : PV := .frz 1 l.length fun i _ => dfs (l.getD i [])
def dtl (t : DT) : List PV := [.int .i64 t.k, .int .i64 t.n, .int .i64 t.vk, .int .i64 t.vn, .str t.vs]
def dts (l : List DT) : PV := .frz 5 l.length fun i o => (dtl (l.getD i default)).getD o .undef
def dtss (l : List (List DT)) : PV := .frz 1 l.length fun i _ => dts (l.getD i [])
def dil (x : DI) : List PV := [.int .i64 x.op, .int .i64 x.d, .int .i64 x.a, .int .i64 x.b, .int .i64 x.n, .int .i64 x.m, ints x.args, .str x.s, .int .i64 x.vk, .int .i64 x.vn, .str x.vs,
  .int .i64 x.t.k, .int .i64 x.t.n, .int .i64 x.t.vk, .int .i64 x.t.vn, .str x.t.vs]
def dis (l : List DI) : PV := .frz 16 l.length fun i o => (dil (l.getD i default)).getD o .undef
def dsl (s : DS) : List PV := [.str s.name, .int .i64 s.kind, .int .i64 s.vk, .int .i64 s.vn, .str s.vs]
def dss (l : List DS) : PV := .frz 5 l.length fun i o => (dsl (l.getD i default)).getD o .undef
def dml (m : DM) : List PV := [.int .i64 m.kind, dss m.slots]
def dms (l : List DM) : PV := .frz 2 l.length fun i o => (dml (l.getD i default)).getD o .undef
def dpl (d : DP) : List PV := [.int .i64 d.oid, .bool d.whole, .int .i64 d.map.kind, dss d.map.slots, .int .i64 d.slot, .int .i64 d.vk, .int .i64 d.vn, .str d.vs]
def dps (l : List DP) : PV := .frz 8 l.length fun i o => (dpl (l.getD i default)).getD o .undef
def dol (o : DO) : List PV := [.int .i64 o.code, .int .i64 o.recv.k, .int .i64 o.recv.n, .int .i64 o.recv.vk, .int .i64 o.recv.vn, .str o.recv.vs, dms o.maps, dis o.irs, dfss o.descs, dtss o.types, dps o.deps, .int .i64 o.regs]

/-- No list is longer than 1048576. -/
def DF.small (f : DF) : Prop := f.vars.length ≤ 1048576 ∧ f.stack.length ≤ 1048576
def DO.small (o : DO) : Prop := o.irs.length ≤ 1048576 ∧ o.descs.length ≤ 1048576 ∧ o.types.length ≤ 1048576 ∧ (∀ x ∈ o.irs, x.args.length ≤ 1048576) ∧ (∀ l ∈ o.descs, l.length ≤ 1048576 ∧ ∀ f ∈ l, f.small) ∧ ∀ l ∈ o.types, l.length ≤ 1048576

def sumL {α : Type} (f : α → Nat) (l : List α) : Nat := (l.map f).sum
theorem sumL_take {α : Type} (d : α) (f : α → Nat) {l : List α} {k : Nat} (hk : k < l.length) : sumL f (l.take (k + 1)) = sumL f (l.take k) + f (l[k]?.getD d) := by
  unfold sumL
  rw [List.take_add_one, List.map_append, List.sum_append]
  simp [hk]
theorem sumL_le {α : Type} {f : α → Nat} {l : List α} {b : Nat} (h : ∀ x ∈ l, f x ≤ b) : sumL f l ≤ l.length * b := by
  induction l with
  | nil => simp [sumL]
  | cons x l ih =>
    have h1 := h x (by simp)
    have h2 := ih fun y hy => h y (List.mem_cons_of_mem _ hy)
    unfold sumL at h2 ⊢
    rw [List.map_cons, List.sum_cons, List.length_cons, Nat.add_mul]
    omega
theorem getD_mem {α : Type} (d : α) {l : List α} {k : Nat} (hk : k < l.length) : l[k]?.getD d ∈ l := by
  simp [hk]

def frN (l : List DF) : Nat := l.length + sumL (fun f => f.vars.length + f.stack.length) l
theorem frN_le {l : List DF} (hl : l.length ≤ 1048576 ∧ ∀ f ∈ l, f.small) : frN l ≤ 1048576 * 2097153 := by
  have h : sumL (fun f => f.vars.length + f.stack.length) l ≤ l.length * 2097152 := sumL_le fun x hx => by
    have h := hl.2 x hx
    simp only [DF.small] at h
    omega
  have h1 := hl.1
  unfold frN
  omega
theorem frames_spec (l : List DF) (hl : l.length ≤ 1048576 ∧ ∀ f ∈ l, f.small) : CallsF Tryz.prog 29 [dfs l] (.int .i64 (frN l)) := by
  refine callsF_ofS mx Tryz.call29 Tryz.func29 rfl Tryz.ntmps29 Tryz.results29 (by kernel_rfl) (by simp) fun lo => ?_
  repeat' (first | refine vcI ?_ | refine And.intro ?_ ?_ | (intro hq; (try simp at hq); (try (exfalso; omega)); (try (revert hq; intro))))
  refine loopS mx (by decide) (by kernel_rfl) (fun k : Nat => k ≤ l.length) (fun k => [(4, .int .i64 k), (3, .int .i64 ((l.length + sumL (fun f => f.vars.length + f.stack.length) (l.take k) : Nat) : Int)), (0, dfs l)]) (fun _ => []) (fun k => l.length - k) 0 (by simp) ⟨by ((repeat' apply And.intro) <;> (first | exact True.intro | exact NEq.refl _ | (refine NEq.int ?_; first | exact rfl | omega | (rw [wrapI (by omega)]; first | exact rfl | omega)))), trivial, .nil⟩ ?_
  intro k nv hk
  have hs : sumL (fun f : DF => f.vars.length + f.stack.length) (l.take k) ≤ 1048576 * 2097152 := Nat.le_trans (sumL_le (b := 2097152) fun x hx => by
    have := hl.2 x (List.mem_of_mem_take hx)
    simp only [DF.small] at this
    omega) (Nat.mul_le_mul_right _ (by rw [List.length_take]; omega))
  repeat' (first | refine vcI ?_ | refine And.intro ?_ ?_ | (intro hq; (try simp at hq); (try (exfalso; omega)); (try (revert hq; intro))))
  · rename_i h1
    have h2 : (l.getD (k : Int).toNat default).vars.length ≤ 1048576 ∧ (l.getD (k : Int).toNat default).stack.length ≤ 1048576 := hl.2 _ (getD_mem default h1)
    have h3 : sumL (fun f : DF => f.vars.length + f.stack.length) (l.take (k + 1)) = sumL (fun f : DF => f.vars.length + f.stack.length) (l.take k) + ((l.getD (k : Int).toNat default).vars.length + (l.getD (k : Int).toNat default).stack.length) := sumL_take default _ h1
    have w1 := wrapI (n := ((l.getD (k : Int).toNat default).vars.length : Int) + (l.getD (k : Int).toNat default).stack.length) (by omega)
    refine Exists.intro (k+1) ⟨by omega, (by first | omega | (dsimp only; omega)), ?_⟩
    exact ⟨by ((repeat' apply And.intro) <;> (first | exact True.intro | exact NEq.refl _ | (refine NEq.int ?_; first | exact rfl | omega | (rw [wrapI (by omega)]; first | exact rfl | omega)))), trivial, .nil⟩
  · obtain rfl : k = l.length := by omega
    rw [List.take_length]
    exact .refl _

def fewN (o : DO) : Nat := o.irs.length + o.descs.length + o.types.length + sumL (fun x : DI => x.args.length) o.irs + sumL List.length o.types + sumL frN o.descs
def fewB (o : DO) : Bool := decide (fewN o ≤ 6000) && decide (o.regs ≤ 60)

theorem few_spec (o : DO) (ho : o.small) : CallsF Tryz.prog 7 [.agg (dol o)] (.bool (fewB o)) := by
  obtain ⟨hi, hd, ht, hi1, hd1, ht1⟩ := ho
  have si : ∀ k, sumL (fun x : DI => x.args.length) (o.irs.take k) ≤ 1048576 * 1048576 := fun k => Nat.le_trans (sumL_le (b := 1048576) fun x hx => hi1 x (List.mem_of_mem_take hx)) (Nat.mul_le_mul_right _ (by rw [List.length_take]; omega))
  have st : ∀ k, sumL List.length (o.types.take k) ≤ 1048576 * 1048576 := fun k => Nat.le_trans (sumL_le (b := 1048576) fun x hx => ht1 x (List.mem_of_mem_take hx)) (Nat.mul_le_mul_right _ (by rw [List.length_take]; omega))
  have sd : ∀ k, sumL frN (o.descs.take k) ≤ 1048576 * (1048576 * 2097153) := fun k => Nat.le_trans (sumL_le (b := 1048576 * 2097153) fun x hx => frN_le (hd1 x (List.mem_of_mem_take hx))) (Nat.mul_le_mul_right _ (by rw [List.length_take]; omega))
  refine callsF_ofS mx Tryz.call7 Tryz.func7 rfl Tryz.ntmps7 Tryz.results7 (by kernel_rfl) (by simp) fun lo => ?_
  repeat' (first | refine vcI ?_ | refine And.intro ?_ ?_ | (intro hq; (try simp at hq); (try (exfalso; omega)); (try (revert hq; intro))))
  have w0 := wrapI (n := (o.irs.length : Int) + o.descs.length) (by omega)
  have w1 : IntKind.i64.wrap (IntKind.i64.wrap ((o.irs.length : Int) + o.descs.length) + o.types.length) = (o.irs.length : Int) + o.descs.length + o.types.length := by rw [w0]; exact wrapI (by omega)
  have g1 : ∀ k, k < o.irs.length → (o.irs.getD (k : Int).toNat default).args.length ≤ 1048576 ∧ sumL (fun x : DI => x.args.length) (o.irs.take (k + 1)) = sumL (fun x : DI => x.args.length) (o.irs.take k) + (o.irs.getD (k : Int).toNat default).args.length := fun k hk => ⟨hi1 _ (getD_mem default hk), sumL_take default _ hk⟩
  have g2 : ∀ k, k < o.types.length → (o.types.getD (k : Int).toNat []).length ≤ 1048576 ∧ sumL List.length (o.types.take (k + 1)) = sumL List.length (o.types.take k) + (o.types.getD (k : Int).toNat []).length := fun k hk => ⟨ht1 _ (getD_mem [] hk), sumL_take [] _ hk⟩
  have g3 : ∀ k, k < o.descs.length → frN (o.descs.getD (k : Int).toNat []) ≤ 1048576 * 2097153 ∧ sumL frN (o.descs.take (k + 1)) = sumL frN (o.descs.take k) + frN (o.descs.getD (k : Int).toNat []) := fun k hk => ⟨frN_le (hd1 _ (getD_mem [] hk)), sumL_take [] _ hk⟩
  have s0 : sumL (fun x : DI => x.args.length) (o.irs.take 0) = 0 := rfl
  have t0 : sumL List.length (o.types.take 0) = 0 := rfl
  have d0 : sumL frN (o.descs.take 0) = 0 := rfl
  refine loopS mx (by decide) (by kernel_rfl) (fun k : Nat => k ≤ o.irs.length) (fun k => [(4, .int .i64 k), (3, .int .i64 ((o.irs.length + o.descs.length + o.types.length + sumL (fun x : DI => x.args.length) (o.irs.take k) : Nat) : Int)), (1, .ptr (1, 1) 0 [] 0 0)]) (fun _ => [((1, 1), ⟨0, .obox 12 (rowL (dol o))⟩)]) (fun k => o.irs.length - k) 0 (by simp) ⟨by ((repeat' apply And.intro) <;> (first | exact True.intro | exact NEq.refl _ | (refine NEq.int ?_; first | exact rfl | omega | (rw [wrapI (by omega)]; first | exact rfl | omega)))), ⟨⟨rfl, .refl _⟩, trivial⟩, .nil⟩ ?_
  intro k nv hk
  have sk := si k
  repeat' (first | refine vcI ?_ | refine And.intro ?_ ?_ | (intro hq; (try simp at hq); (try (exfalso; omega)); (try (revert hq; intro))))
  · rename_i h1 _
    have h2 := g1 k h1
    exact Exists.intro (k+1) ⟨by omega, (by first | omega | (dsimp only; omega)), ⟨by ((repeat' apply And.intro) <;> (first | exact True.intro | exact NEq.refl _ | (refine NEq.int ?_; first | exact rfl | omega | (rw [wrapI (by omega)]; first | exact rfl | omega)))), ⟨⟨rfl, .refl _⟩, trivial⟩, .nil⟩⟩
  rename_i h1
  obtain rfl : k = o.irs.length := by omega
  rw [List.take_length] at sk ⊢
  have sN : ∃ N : Nat, N = sumL (fun x : DI => x.args.length) o.irs := ⟨_, rfl⟩
  refine loopS mx (by decide) (by kernel_rfl) (fun k : Nat => k ≤ o.types.length) (fun k => [(5, .int .i64 k), (3, .int .i64 ((o.irs.length + o.descs.length + o.types.length + sumL (fun x : DI => x.args.length) o.irs + sumL List.length (o.types.take k) : Nat) : Int)), (1, .ptr (1, 1) 0 [] 0 0)]) (fun _ => [((1, 1), ⟨0, .obox 12 (rowL (dol o))⟩)]) (fun k => o.types.length - k) 0 (by simp) ⟨by ((repeat' apply And.intro) <;> (first | exact True.intro | exact NEq.refl _ | (refine NEq.int ?_; first | exact rfl | omega | (rw [wrapI (by omega)]; first | exact rfl | omega)))), ⟨⟨rfl, .refl _⟩, trivial⟩, .nil⟩ ?_
  intro k nv hk
  have tk := st k
  repeat' (first | refine vcI ?_ | refine And.intro ?_ ?_ | (intro hq; (try simp at hq); (try (exfalso; omega)); (try (revert hq; intro))))
  · rename_i h1 _
    have h2 := g2 k h1
    exact Exists.intro (k+1) ⟨by omega, (by first | omega | (dsimp only; omega)), ⟨by ((repeat' apply And.intro) <;> (first | exact True.intro | exact NEq.refl _ | (refine NEq.int ?_; first | exact rfl | omega | (rw [wrapI (by omega)]; first | exact rfl | omega)))), ⟨⟨rfl, .refl _⟩, trivial⟩, .nil⟩⟩
  rename_i h1
  obtain rfl : k = o.types.length := by omega
  rw [List.take_length] at tk ⊢
  refine loopS mx (by decide) (by kernel_rfl) (fun k : Nat => k ≤ o.descs.length) (fun k => [(6, .int .i64 k), (3, .int .i64 ((o.irs.length + o.descs.length + o.types.length + sumL (fun x : DI => x.args.length) o.irs + sumL List.length o.types + sumL frN (o.descs.take k) : Nat) : Int)), (1, .ptr (1, 1) 0 [] 0 0)]) (fun _ => [((1, 1), ⟨0, .obox 12 (rowL (dol o))⟩)]) (fun k => o.descs.length - k) 0 (by simp) ⟨by ((repeat' apply And.intro) <;> (first | exact True.intro | exact NEq.refl _ | (refine NEq.int ?_; first | exact rfl | omega | (rw [wrapI (by omega)]; first | exact rfl | omega)))), ⟨⟨rfl, .refl _⟩, trivial⟩, .nil⟩ ?_
  intro k nv hk
  have dk := sd k
  repeat' (first | refine vcI ?_ | refine And.intro ?_ ?_ | (intro hq; (try simp at hq); (try (exfalso; omega)); (try (revert hq; intro))))
  · rename_i h1
    have h2 := g3 k h1
    refine CallS.frozen (.int .i64 (frN (o.descs.getD (k : Int).toNat []))) (frames_spec _ (hd1 _ (getD_mem [] h1))) (plainAll rfl) ?_
    repeat' (first | refine vcI ?_ | refine And.intro ?_ ?_ | (intro hq; (try simp at hq); (try (exfalso; omega)); (try (revert hq; intro))))
    exact Exists.intro (k+1) ⟨by omega, (by first | omega | (dsimp only; omega)), ⟨by ((repeat' apply And.intro) <;> (first | exact True.intro | exact NEq.refl _ | (refine NEq.int ?_; first | exact rfl | omega | (rw [wrapI (by omega)]; first | exact rfl | omega)))), ⟨⟨rfl, .refl _⟩, trivial⟩, .nil⟩⟩
  rename_i h1
  obtain rfl : k = o.descs.length := by omega
  (refine NEq.of_eq ?_; show PV.bool _ = PV.bool _; congr 1)
  rw [List.take_length]
  unfold fewB fewN
  generalize o.irs.length + o.descs.length + o.types.length + sumL (fun x : DI => x.args.length) o.irs + sumL List.length o.types + sumL frN o.descs = N
  cases hN : decide ((N : Int) ≤ 6000) <;> simp at hN <;> simp [hN] <;> omega

end Go.Ab
namespace Go.Proofs.YtbclepldghjacaaGreat.Common
open Go Go.Ab Go.Proofs
open Go.ChangeShapes Go.WideShapes Go.ChangeAt Go.RowKit
set_option maxRecDepth 100000

theorem rBool : Reads Tryz.prog 4 Bool (fun b => [.bool b]) (fun _ => True) := Reads.bool Tryz.underlying4
theorem rStr : Reads Tryz.prog 9 ByteArray (fun s => [.str s]) (fun s => s.size ≤ 1048576) := Reads.string Tryz.underlying9
theorem c1 : Tryz.prog.cellsOf 3 = 1 := by kernel_rfl
theorem cB : Tryz.prog.cellsOf 4 = 1 := by kernel_rfl
theorem cS : Tryz.prog.cellsOf 9 = 1 := by kernel_rfl
theorem rInts : Reads Tryz.prog 35 (List Int) (fun l => [ints l]) (fun l => l.length ≤ 1048576) :=
  Reads.less (Reads.slice (0 : Int) Tryz.underlying35 (by rw [c1]; decide) rInt) (fun l => l) fun l hl => ⟨hl.1, LeL.sliceP c1 rfl fun i o hi ho => by obtain rfl : o = 0 := (by omega); exact .refl _⟩
theorem rVal : Reads Tryz.prog 23 (Int × Int × ByteArray) (fun v => [.int .i64 v.1, .int .i64 v.2.1, .str v.2.2]) (fun _ => True) :=
  Reads.less (Reads.struct Tryz.underlying23 (by kernel_rfl) (RFs.cons rfl c1 rInt (RFs.cons rfl c1 rInt (RFs.cons rfl cS rStr (RFs.nil _))))) (fun (v : Int × Int × ByteArray × Unit) => (v.1, v.2.1, v.2.2.1)) fun v _ => ⟨trivial, LeL.same rfl⟩
theorem cVal : Tryz.prog.cellsOf 23 = 3 := by kernel_rfl
theorem rTy : Reads Tryz.prog 25 DT dtl (fun _ => True) :=
  Reads.less (Reads.struct Tryz.underlying25 (by kernel_rfl) (RFs.cons rfl c1 rInt (RFs.cons rfl c1 rInt (RFs.cons rfl cVal rVal (RFs.nil _))))) (fun (v : Int × Int × (Int × Int × ByteArray) × Unit) => ⟨v.1, v.2.1, v.2.2.1.1, v.2.2.1.2.1, v.2.2.1.2.2⟩) fun v _ => ⟨trivial, LeL.same rfl⟩
theorem cTy : Tryz.prog.cellsOf 25 = 5 := by kernel_rfl
theorem rTys : Reads Tryz.prog 59 (List DT) (fun l => [dts l]) (fun l => l.length ≤ 1048576) :=
  Reads.less (Reads.slice (default : DT) Tryz.underlying59 (by rw [cTy]; decide) rTy) (fun l => l) fun l hl => ⟨hl.1, LeL.sliceP cTy rfl fun i o hi ho => .refl _⟩
theorem cTys : Tryz.prog.cellsOf 59 = 1 := by kernel_rfl
theorem rTyss : Reads Tryz.prog 29 (List (List DT)) (fun l => [dtss l]) (fun l => l.length ≤ 1048576 ∧ ∀ x ∈ l, x.length ≤ 1048576) :=
  Reads.less (Reads.slice ([] : List DT) Tryz.underlying29 (by rw [cTys]; decide) rTys) (fun l => l) fun l hl => ⟨hl, LeL.sliceP cTys rfl fun i o hi ho => by obtain rfl : o = 0 := (by omega); exact .refl _⟩
theorem cSlot : Tryz.prog.cellsOf 115 = 5 := by kernel_rfl
theorem rSlot : Reads Tryz.prog 115 DS dsl (fun _ => True) :=
  Reads.less (Reads.struct Tryz.underlying115 (by kernel_rfl) (RFs.cons rfl cS rStr (RFs.cons rfl c1 rInt (RFs.cons rfl cVal rVal (RFs.nil _))))) (fun (v : ByteArray × Int × (Int × Int × ByteArray) × Unit) => ⟨v.1, v.2.1, v.2.2.1.1, v.2.2.1.2.1, v.2.2.1.2.2⟩) fun v _ => ⟨trivial, LeL.same rfl⟩
theorem rSlots : Reads Tryz.prog 110 (List DS) (fun l => [dss l]) (fun _ => True) :=
  Reads.less (Reads.slice (default : DS) Tryz.underlying110 (by rw [cSlot]; decide) rSlot) (fun l => l) fun l hl => ⟨trivial, LeL.sliceP cSlot rfl fun i o hi ho => .refl _⟩
theorem cSlots : Tryz.prog.cellsOf 110 = 1 := by kernel_rfl
theorem cMap : Tryz.prog.cellsOf 112 = 2 := by kernel_rfl
theorem rMap : Reads Tryz.prog 112 DM dml (fun _ => True) :=
  Reads.less (Reads.struct Tryz.underlying112 (by kernel_rfl) (RFs.cons rfl c1 rInt (RFs.cons rfl cSlots rSlots (RFs.nil _)))) (fun (v : Int × List DS × Unit) => ⟨v.1, v.2.1⟩) fun v _ => ⟨trivial, LeL.same rfl⟩
theorem rMaps : Reads Tryz.prog 26 (List DM) (fun l => [dms l]) (fun _ => True) :=
  Reads.less (Reads.slice (default : DM) Tryz.underlying26 (by rw [cMap]; decide) rMap) (fun l => l) fun l hl => ⟨trivial, LeL.sliceP cMap rfl fun i o hi ho => .refl _⟩
theorem cMaps : Tryz.prog.cellsOf 26 = 1 := by kernel_rfl
theorem cDep : Tryz.prog.cellsOf 119 = 8 := by kernel_rfl
theorem rDep : Reads Tryz.prog 119 DP dpl (fun _ => True) :=
  Reads.less (Reads.struct Tryz.underlying119 (by kernel_rfl) (RFs.cons rfl c1 rInt (RFs.cons rfl cB rBool (RFs.cons rfl cMap rMap (RFs.cons rfl c1 rInt (RFs.cons rfl cVal rVal (RFs.nil _))))))) (fun (v : Int × Bool × DM × Int × (Int × Int × ByteArray) × Unit) => ⟨v.1, v.2.1, v.2.2.1, v.2.2.2.1, v.2.2.2.2.1.1, v.2.2.2.2.1.2.1, v.2.2.2.2.1.2.2⟩) fun v _ => ⟨trivial, LeL.same rfl⟩
theorem rDeps : Reads Tryz.prog 30 (List DP) (fun l => [dps l]) (fun _ => True) :=
  Reads.less (Reads.slice (default : DP) Tryz.underlying30 (by rw [cDep]; decide) rDep) (fun l => l) fun l hl => ⟨trivial, LeL.sliceP cDep rfl fun i o hi ho => .refl _⟩
theorem cDeps : Tryz.prog.cellsOf 30 = 1 := by kernel_rfl
theorem cSVal : Tryz.prog.cellsOf 103 = 6 := by kernel_rfl
theorem rSVal : Reads Tryz.prog 103 DV dvl (fun _ => True) :=
  Reads.less (Reads.struct Tryz.underlying103 (by kernel_rfl) (RFs.cons rfl c1 rInt (RFs.cons rfl c1 rInt (RFs.cons rfl c1 rInt (RFs.cons rfl cVal rVal (RFs.nil _)))))) (fun (v : Int × Int × Int × (Int × Int × ByteArray) × Unit) => ⟨v.1, v.2.1, v.2.2.1, v.2.2.2.1.1, v.2.2.2.1.2.1, v.2.2.2.1.2.2⟩) fun v _ => ⟨trivial, LeL.same rfl⟩
theorem rSVals : Reads Tryz.prog 104 (List DV) (fun l => [dvs l]) (fun l => l.length ≤ 1048576) :=
  Reads.less (Reads.slice (default : DV) Tryz.underlying104 (by rw [cSVal]; decide) rSVal) (fun l => l) fun l hl => ⟨hl.1, LeL.sliceP cSVal rfl fun i o hi ho => .refl _⟩
theorem cSVals : Tryz.prog.cellsOf 104 = 1 := by kernel_rfl
theorem cFrame : Tryz.prog.cellsOf 106 = 18 := by kernel_rfl
theorem rFrame : Reads Tryz.prog 106 DF dfl DF.small :=
  Reads.less (Reads.struct Tryz.underlying106 (by kernel_rfl) (RFs.cons rfl c1 rInt (RFs.cons rfl c1 rInt (RFs.cons rfl cSVal rSVal (RFs.cons rfl cSVal rSVal (RFs.cons rfl cSVals rSVals (RFs.cons rfl cSVals rSVals (RFs.cons rfl c1 rInt (RFs.cons rfl c1 rInt (RFs.nil _))))))))))
    (fun (v : Int × Int × DV × DV × List DV × List DV × Int × Int × Unit) => ⟨v.1, v.2.1, v.2.2.1, v.2.2.2.1, v.2.2.2.2.1, v.2.2.2.2.2.1, v.2.2.2.2.2.2.1, v.2.2.2.2.2.2.2.1⟩) fun v hv => ⟨⟨hv.2.2.2.2.1, hv.2.2.2.2.2.1⟩, LeL.same rfl⟩
theorem rFrames : Reads Tryz.prog 61 (List DF) (fun l => [dfs l]) (fun l => l.length ≤ 1048576 ∧ ∀ f ∈ l, f.small) :=
  Reads.less (Reads.slice (default : DF) Tryz.underlying61 (by rw [cFrame]; decide) rFrame) (fun l => l) fun l hl => ⟨hl, LeL.sliceP cFrame rfl fun i o hi ho => .refl _⟩
theorem cFrames : Tryz.prog.cellsOf 61 = 1 := by kernel_rfl
theorem rFramess : Reads Tryz.prog 28 (List (List DF)) (fun l => [dfss l]) (fun l => l.length ≤ 1048576 ∧ ∀ x ∈ l, x.length ≤ 1048576 ∧ ∀ f ∈ x, f.small) :=
  Reads.less (Reads.slice ([] : List DF) Tryz.underlying28 (by rw [cFrames]; decide) rFrames) (fun l => l) fun l hl => ⟨hl, LeL.sliceP cFrames rfl fun i o hi ho => by obtain rfl : o = 0 := (by omega); exact .refl _⟩
theorem cFramess : Tryz.prog.cellsOf 28 = 1 := by kernel_rfl
theorem cTyss : Tryz.prog.cellsOf 29 = 1 := by kernel_rfl
theorem cInts : Tryz.prog.cellsOf 35 = 1 := by kernel_rfl
theorem cIr0 : Tryz.prog.cellsOf 58 = 16 := by kernel_rfl
theorem rIr : Reads Tryz.prog 58 DI dil (fun x => x.args.length ≤ 1048576) :=
  Reads.less (Reads.struct Tryz.underlying58 (by kernel_rfl) (RFs.cons rfl c1 rInt (RFs.cons rfl c1 rInt (RFs.cons rfl c1 rInt (RFs.cons rfl c1 rInt (RFs.cons rfl c1 rInt (RFs.cons rfl c1 rInt (RFs.cons rfl cInts rInts (RFs.cons rfl cS rStr (RFs.cons rfl cVal rVal (RFs.cons rfl cTy rTy (RFs.nil _))))))))))))
    (fun (v : Int × Int × Int × Int × Int × Int × List Int × ByteArray × (Int × Int × ByteArray) × DT × Unit) => ⟨v.1, v.2.1, v.2.2.1, v.2.2.2.1, v.2.2.2.2.1, v.2.2.2.2.2.1, v.2.2.2.2.2.2.1, v.2.2.2.2.2.2.2.1, v.2.2.2.2.2.2.2.2.1.1, v.2.2.2.2.2.2.2.2.1.2.1, v.2.2.2.2.2.2.2.2.1.2.2, v.2.2.2.2.2.2.2.2.2.1⟩) fun v hv => ⟨hv.2.2.2.2.2.2.1, LeL.same rfl⟩
theorem rIrs : Reads Tryz.prog 27 (List DI) (fun l => [dis l]) (fun l => l.length ≤ 1048576 ∧ ∀ x ∈ l, x.args.length ≤ 1048576) :=
  Reads.less (Reads.slice (default : DI) Tryz.underlying27 (by rw [cIr0]; decide) rIr) (fun l => l) fun l hl => ⟨hl, LeL.sliceP cIr0 rfl fun i o hi ho => .refl _⟩
theorem cIrs : Tryz.prog.cellsOf 27 = 1 := by kernel_rfl
theorem rOpt : Reads Tryz.prog 32 DO dol DO.small :=
  Reads.less (Reads.struct Tryz.underlying32 (by kernel_rfl) (RFs.cons rfl c1 rInt (RFs.cons rfl cTy rTy (RFs.cons rfl cMaps rMaps (RFs.cons rfl cIrs rIrs (RFs.cons rfl cFramess rFramess (RFs.cons rfl cTyss rTyss (RFs.cons rfl cDeps rDeps (RFs.cons rfl c1 rInt (RFs.nil _))))))))))
    (fun (v : Int × DT × List DM × List DI × List (List DF) × List (List DT) × List DP × Int × Unit) => ⟨v.1, v.2.1, v.2.2.1, v.2.2.2.1, v.2.2.2.2.1, v.2.2.2.2.2.1, v.2.2.2.2.2.2.1, v.2.2.2.2.2.2.2.1⟩) fun v hv => ⟨⟨hv.2.2.2.1.1, hv.2.2.2.2.1.1, hv.2.2.2.2.2.1.1, hv.2.2.2.1.2, hv.2.2.2.2.1.2, hv.2.2.2.2.2.1.2⟩, LeL.same rfl⟩
end Go.Proofs.YtbclepldghjacaaGreat.Common
namespace Go.Ab
open Go.Proofs
set_option maxRecDepth 100000
set_option maxHeartbeats 1000000

/-- A set of numbers as a map's entries. -/
def encS (ks : List Int) : List (PV × PV) := ks.map fun k => (.int .i64 k, .bool true)
def insS (ks : List Int) (n : Int) : List Int := if n ∈ ks then ks else ks ++ [n]
theorem sorts_enc (ks : List Int) (n : Int) : sortsB (.int .i64 n) (encS ks) = true := by
  induction ks with
  | nil => rfl
  | cons k ks ih => simp only [encS, List.map_cons, sortsB, keyB, if_true, Option.isSome_some, Bool.true_and]; exact ih
theorem find_enc (ks : List Int) (n : Int) : findE (encS ks) (.int .i64 n) = if n ∈ ks then some (.bool true) else none := by
  induction ks with
  | nil => rfl
  | cons k ks ih =>
    simp only [encS, List.map_cons, findE, keyB, if_true]
    by_cases h : n = k
    · subst h; simp
    · have : (n == k) = false := by simpa using h
      rw [this]
      simp only [List.mem_cons, h, false_or]
      exact ih
theorem upd_enc (ks : List Int) (n : Int) : updE (encS ks) (.int .i64 n) (.bool true) = encS (insS ks n) := by
  induction ks with
  | nil => rfl
  | cons k ks ih =>
    simp only [encS, List.map_cons, updE, keyB, if_true]
    by_cases h : n = k
    · subst h; simp [insS]
    · have : (n == k) = false := by simpa using h
      rw [this]
      simp only
      have e : updE (List.map (fun k => (PV.int IntKind.i64 k, PV.bool true)) ks) (.int .i64 n) (.bool true) = encS (insS ks n) := ih
      rw [e]
      unfold insS
      simp only [List.mem_cons, h, false_or]
      split <;> rfl
theorem mem_ins {ks : List Int} {n m : Int} : m ∈ insS ks n ↔ m ∈ ks ∨ m = n := by
  unfold insS
  split
  · rename_i h; exact ⟨.inl, fun h' => h'.elim id fun e => e ▸ h⟩
  · simp

theorem bif_and (a b : Bool) : (bif a then b else false) = (a && b) := by cases a <;> rfl
end Go.Ab
namespace Go.Ab
open Go.Proofs
set_option maxRecDepth 100000
set_option maxHeartbeats 1000000

theorem cW : Tryz.prog.cellsOf 66 = 1 := by kernel_rfl
def setC (ws : Nat → Nat) : Nat → PV := fun o => .int .u64 (ws o)
def bitW (ws : Nat → Nat) (r : Nat) : Bool := (ws (r / 64)).testBit (r % 64)

theorem wrap64_div {r : Nat} (hr : r < 1000) : IntKind.i64.wrap ((r : Int).tdiv 64) = ((r / 64 : Nat) : Int) := by
  have h : (r : Int).tdiv 64 = ((r / 64 : Nat) : Int) := by
    rw [Int.tdiv_eq_ediv_of_nonneg (by omega)]; rfl
  rw [h, IntKind.wrap_i64]; omega
theorem tmod64 (r : Nat) : (r : Int).tmod 64 = ((r % 64 : Nat) : Int) := by
  rw [Int.tmod_eq_emod_of_nonneg (by omega)]; rfl
theorem wrapU {n : Int} (h0 : 0 ≤ n) (h1 : n < 18446744073709551616) : IntKind.u64.wrap n = n := by
  simp [IntKind.wrap, IntKind.bits, IntKind.signed]; omega
theorem bit_at {w j : Nat} (hw : w < 18446744073709551616) (hj : j < 64) : (IntKind.u64.wrap ((BitVec.ofInt IntKind.u64.bits ((w : Int).fdiv (2 ^ min j IntKind.u64.bits)) &&& BitVec.ofInt IntKind.u64.bits 1).toNat : Int) == 1) = w.testBit j := by
  have hb : IntKind.u64.bits = 64 := rfl
  rw [hb, Nat.min_eq_left (by omega)]
  have h1 : (w : Int).fdiv (2 ^ j) = ((w / 2 ^ j : Nat) : Int) := by
    rw [Int.fdiv_eq_ediv_of_nonneg _ (by exact_mod_cast Nat.zero_le _)]
    norm_cast
  have h2 : BitVec.ofInt 64 ((w : Int).fdiv (2 ^ j)) = BitVec.ofNat 64 (w / 2 ^ j) := by rw [h1]; exact BitVec.ofInt_natCast ..
  have h3 : BitVec.ofInt 64 1 = BitVec.ofNat 64 1 := rfl
  have hlt : w / 2 ^ j < 2 ^ 64 := Nat.lt_of_le_of_lt (Nat.div_le_self ..) hw
  rw [h2, h3, BitVec.toNat_and, BitVec.toNat_ofNat, BitVec.toNat_ofNat, Nat.mod_eq_of_lt hlt]
  have h4 : w / 2 ^ j &&& 1 % 2 ^ 64 = (w / 2 ^ j) % 2 := by
    rw [show (1 % 2 ^ 64 : Nat) = 2 ^ 1 - 1 from rfl, Nat.and_two_pow_sub_one_eq_mod]
  rw [h4]
  have hm : (w / 2 ^ j) % 2 < 2 := Nat.mod_lt _ (by decide)
  rw [wrapU (by omega) (by omega), Nat.testBit_eq_decide_div_mod_eq]
  rw [Bool.eq_iff_iff]
  simp only [beq_iff_eq, decide_eq_true_eq]
  omega

theorem setHas_spec (ws : Nat → Nat) (hw : ∀ o, ws o < 18446744073709551616) (r : Nat) (hr : r < 256) : CallsF Tryz.prog 43 [.fptr 4 (setC ws) 0, .int .i64 r] (.bool (bitW ws r)) := by
  have e1 := wrap64_div (r := r) (by omega)
  have e2 := tmod64 r
  refine callsF_ofS mx Tryz.call43 Tryz.func43 rfl Tryz.ntmps43 Tryz.results43 (by kernel_rfl) (by simp) fun lo => ?_
  repeat' (first | refine vcI ?_ | refine And.intro ?_ ?_ | (intro hq; (try simp at hq); (try (exfalso; omega)); (try (revert hq; intro))))
  all_goals first | (rw [cW, e1]; simp; omega) | (rw [cW]; omega) | skip
  · (refine NEq.of_eq ?_; show PV.bool _ = PV.bool _; congr 1)
    rw [e1, e2, cW]
    simp only [Int.toNat_natCast, Nat.zero_add, Nat.mul_one]
    exact bit_at (hw _) (Nat.mod_lt _ (by decide))

/-- The registers of a set below one. -/
def listW (ws : Nat → Nat) (n : Nat) : List Int := ((List.range n).filter (bitW ws)).map Int.ofNat
theorem listW_yes {ws : Nat → Nat} {k : Nat} (h : bitW ws k = true) : listW ws (k + 1) = listW ws k ++ [(k : Int)] := by
  simp [listW, List.range_succ, List.filter_append, h]
theorem listW_no {ws : Nat → Nat} {k : Nat} (h : bitW ws k = false) : listW ws (k + 1) = listW ws k := by
  simp [listW, List.range_succ, List.filter_append, h]
theorem listW_len (ws : Nat → Nat) (k : Nat) : (listW ws k).length ≤ k := by
  unfold listW
  rw [List.length_map]
  exact Nat.le_trans (List.length_filter_le ..) (by simp)

theorem setList_spec (ws : Nat → Nat) (hw : ∀ o, ws o < 18446744073709551616) : CallsO Tryz.prog 32 [.fptr 4 (setC ws) 0] (oints (listW ws 250)) (fun id ver => .ref id ver [] 1 0 (listW ws 250).length) := by
  refine callsO_ofS mx Tryz.call32 Tryz.func32 rfl Tryz.ntmps32 Tryz.results32 (by kernel_rfl) (by simp) fun lo => ?_
  refine ghostS 3 (1, 1000) (by decide) 1 (fun _ _ => .undef) rfl (L' := []) (by simp [lkH]) fun v => ?_
  refine loopS2 mx (by decide) (by kernel_rfl) (fun (k v : Nat) => k ≤ 250) (fun k v => [(5, .int .i64 k), (3, .ref (1, 1000) v [] 1 0 (listW ws k).length), (0, .fptr 4 (setC ws) 0)]) (fun k v => [((1, 1000), ⟨v, oints (listW ws k)⟩)]) (fun k v => 250 - k) 0 v (by simp) ⟨?_, ?_, .nil⟩ ?_
  · exact ⟨.refl _, .refs rfl rfl rfl, .refl _, trivial⟩
  · exact ⟨⟨rfl, .owns rfl rfl fun i o hi => absurd hi (by simp [listW])⟩, trivial⟩
  intro k v nv hk
  have hkl := listW_len ws k
  repeat' (first | refine vcI ?_ | refine And.intro ?_ ?_ | (intro hq; (try simp at hq); (try (exfalso; omega)); (try (revert hq; intro))))
  · rename_i hlt
    refine CallS.frozen (.bool (bitW ws k)) (setHas_spec ws hw k (by omega)) (plainAll rfl) ?_
    repeat' (first | refine vcI ?_ | refine And.intro ?_ ?_ | (intro hq; (try simp at hq); (try (exfalso; omega)); (try (revert hq; intro))))
    · rename_i hb
      refine Exists.intro (oints [(k : Int)]) (And.intro ?_ (And.intro (by first | rfl | exact shape_prs (by simp) | exact shape_ints (by simp) | exact shape_odvs (by simp)) ?_))
      · refine NEq.owns rfl rfl fun i o hi ho => ?_
        obtain rfl : i = 0 := by simpa using hi
        obtain rfl : o = 0 := by omega
        exact .refl _
      repeat' (first | refine vcI ?_ | refine And.intro ?_ ?_ | (intro hq; (try simp at hq); (try (exfalso; omega)); (try (revert hq; intro))))
      refine Exists.intro (oints (listW ws k ++ [(k : Int)])) (And.intro ?_ (And.intro (by first | rfl | exact shape_prs (by simp) | exact shape_ints (by simp) | exact shape_odvs (by simp)) ?_))
      · exact app_ints rfl rfl (fun i o hi ho => by (try dsimp only); rw [if_pos hi]; exact .refl _) (fun i o hi ho => by (try dsimp only); rw [if_neg (by omega), Nat.add_sub_cancel_left]; (try rw [cellV_pcell]); (try simp only [Nat.zero_add]); exact .refl _)
      repeat' (first | refine vcI ?_ | refine And.intro ?_ ?_ | (intro hq; (try simp at hq); (try (exfalso; omega)); (try (revert hq; intro))))
      have e := listW_yes hb
      refine Exists.intro (k+1, _) ⟨by omega, (by first | omega | (dsimp only; omega)), ⟨?_, ⟨⟨rfl, ?_⟩, trivial⟩, .nil⟩⟩
      · refine ⟨(by refine NEq.int ?_; first | exact rfl | omega | (rw [wrapI (by omega)]; first | exact rfl | omega)), .refs rfl rfl ?_, .refl _, trivial⟩
        show _ = (listW ws (k+1)).length
        rw [e, List.length_append]; rfl
      · show NEq _ (oints (listW ws (k+1)))
        rw [e]; exact .refl _
    · rename_i hb
      have e := listW_no hb
      refine Exists.intro (k+1, _) ⟨by omega, (by first | omega | (dsimp only; omega)), ⟨?_, ⟨⟨rfl, ?_⟩, trivial⟩, .nil⟩⟩
      · refine ⟨(by refine NEq.int ?_; first | exact rfl | omega | (rw [wrapI (by omega)]; first | exact rfl | omega)), .refs rfl rfl ?_, .refl _, trivial⟩
        show _ = (listW ws (k+1)).length
        rw [e]
      · show NEq _ (oints (listW ws (k+1)))
        rw [e]; exact .refl _
  · rename_i hlt
    obtain rfl : k = 250 := by omega
    exact .inl ⟨(1, 1000), _, oints (listW ws 250), rfl, [], (fun j => by simp only [lkH]; split <;> rfl), fun id ver => ⟨.refs rfl rfl rfl, KpR_ints⟩⟩
end Go.Ab
namespace Go.Ab
open Go.Proofs
set_option maxRecDepth 100000
set_option maxHeartbeats 1000000

def setW (ws : Nat → Nat) (r : Nat) : Nat → Nat := fun o => if o = r / 64 then ws o ||| 2 ^ (r % 64) else ws o
theorem or_at {w j : Nat} (hw : w < 18446744073709551616) (hj : j < 64) : IntKind.u64.wrap ((BitVec.ofInt IntKind.u64.bits (w : Int) ||| BitVec.ofInt IntKind.u64.bits (IntKind.u64.wrap (1 * 2 ^ min j IntKind.u64.bits))).toNat : Int) = ((w ||| 2 ^ j : Nat) : Int) := by
  have hb : IntKind.u64.bits = 64 := rfl
  rw [hb, Nat.min_eq_left (by omega), Int.one_mul]
  have hj2 : 2 ^ j < 18446744073709551616 := Nat.pow_lt_pow_right (a := 2) (by decide) hj
  have h1 : (2 : Int) ^ j = ((2 ^ j : Nat) : Int) := by norm_cast
  have h2 : w ||| 2 ^ j < 18446744073709551616 := Nat.or_lt_two_pow (n := 64) hw hj2
  rw [h1]
  generalize 2 ^ j = p at *
  have h3 : IntKind.u64.wrap (p : Int) = p := wrapU (by omega) (by omega)
  rw [h3, BitVec.ofInt_natCast, BitVec.ofInt_natCast, BitVec.toNat_or, BitVec.toNat_ofNat, BitVec.toNat_ofNat, Nat.mod_eq_of_lt hw, Nat.mod_eq_of_lt hj2]
  generalize w ||| p = q at *
  exact wrapU (by omega) (by omega)
end Go.Ab
namespace Go.Ab
open Go.Proofs
set_option maxRecDepth 100000
set_option maxHeartbeats 1000000

def joinW (ws us : Nat → Nat) (k : Nat) : Nat → Nat := fun o => if o < k then ws o ||| us o else ws o
def aggW (us : Nat → Nat) : PV := .agg [.int .u64 (us 0), .int .u64 (us 1), .int .u64 (us 2), .int .u64 (us 3)]
theorem joinW_zero (ws us : Nat → Nat) : joinW ws us 0 = ws := by funext o; simp [joinW]
theorem orr_at {w u : Nat} (hw : w < 18446744073709551616) (hu : u < 18446744073709551616) : IntKind.u64.wrap ((BitVec.ofInt IntKind.u64.bits (w : Int) ||| BitVec.ofInt IntKind.u64.bits (u : Int)).toNat : Int) = ((w ||| u : Nat) : Int) := by
  have hb : IntKind.u64.bits = 64 := rfl
  have h2 : w ||| u < 18446744073709551616 := Nat.or_lt_two_pow (n := 64) hw hu
  rw [hb, BitVec.ofInt_natCast, BitVec.ofInt_natCast, BitVec.toNat_or, BitVec.toNat_ofNat, BitVec.toNat_ofNat, Nat.mod_eq_of_lt hw, Nat.mod_eq_of_lt hu]
  generalize w ||| u = q at *
  exact wrapU (by omega) (by omega)
end Go.Ab
namespace Go.Ab
open Go.Proofs
set_option maxRecDepth 100000
set_option maxHeartbeats 1000000

def usedL (x : DI) (fs : List DF) : List Int :=
  if x.op = 2 ∨ x.op = 4 ∨ x.op = 14 ∨ x.op = 3 then [x.a]
  else if x.op = 5 ∨ x.op = 15 then [x.a, x.b]
  else if x.op = 6 ∨ x.op = 7 then x.a :: x.args
  else if x.op = 10 then (if x.n = 0 then [x.a] else [x.a, IntKind.i64.wrap (x.n - 1)])
  else if x.op = 13 then (if 0 ≤ x.m ∧ x.m < fs.length then [IntKind.i64.wrap ((fs.getD x.m.toNat default).act - 1)] else [-1])
  else if x.op = 16 then x.args
  else []
theorem one_ints {sz n : Nat} {g : Nat → Nat → PV} (x : Int) (hsz : sz = 1) (hn : n = 1) (h0 : NEq (g 0 0) (.int .i64 x)) : NEq (.own sz n g) (oints [x]) := by
  refine NEq.owns hsz hn fun i o hi ho => ?_
  obtain rfl : i = 0 := by simpa using hi
  obtain rfl : o = 0 := by omega
  exact h0
theorem two_ints {sz n : Nat} {g : Nat → Nat → PV} (x y : Int) (hsz : sz = 1) (hn : n = 2) (h0 : NEq (g 0 0) (.int .i64 x)) (h1 : NEq (g 1 0) (.int .i64 y)) : NEq (.own sz n g) (oints [x, y]) := by
  refine NEq.owns hsz hn fun i o hi ho => ?_
  obtain rfl : o = 0 := by omega
  obtain rfl | rfl : i = 0 ∨ i = 1 := by simp at hi; omega
  · exact h0
  · exact h1
theorem keepS_ints {L : Hp} {r : RId} {v n : Nat} {l : List Int} (h : lkH L r = some ⟨v, oints l⟩) (hn : n = l.length) : keepS (fun id ver => .ref id ver [] 1 0 l.length) (oints l) (.ref r v [] 1 0 n) L :=
  .inl ⟨r, v, _, h, setH L r none, fun j => lookH_setH L r j none, fun id ver => ⟨.refs rfl rfl hn, KpR_ints⟩⟩
theorem keepS_nil {L : Hp} : keepS (fun id ver => .ref id ver [] 1 0 (List.length ([] : List Int))) (oints []) .nils L := .inr ⟨1, _, rfl, fun id ver => .nils rfl⟩
theorem Used_spec (x : DI) (fs : List DF) (hx : x.args.length ≤ 1048576) : CallsO Tryz.prog 80 [.agg (dil x), dfs fs] (oints (usedL x fs)) (fun id ver => .ref id ver [] 1 0 (usedL x fs).length) := by
  refine callsO_ofS mx Tryz.call80 Tryz.func80 rfl Tryz.ntmps80 Tryz.results80 (by kernel_rfl) (by simp) fun lo => ?_
  repeat' (first | refine vcI ?_ | refine And.intro ?_ ?_ | (intro hq; (try simp at hq); (try (exfalso; omega)); (try (revert hq; intro))))
  iterate 4
    · rw [show usedL x fs = [x.a] by simp [usedL, *]]
      refine Exists.intro (oints [x.a]) (And.intro ?_ (And.intro (by first | rfl | exact shape_prs (by simp) | exact shape_ints (by simp) | exact shape_odvs (by simp)) ?_))
      · exact one_ints _ rfl rfl (.refl _)
      exact keepS_ints rfl rfl
  iterate 2
    · rw [show usedL x fs = [x.a, x.b] by simp [usedL, *]]
      refine Exists.intro (oints [x.a, x.b]) (And.intro ?_ (And.intro (by first | rfl | exact shape_prs (by simp) | exact shape_ints (by simp) | exact shape_odvs (by simp)) ?_))
      · exact two_ints _ _ rfl rfl (.refl _) (.refl _)
      exact keepS_ints rfl rfl
  iterate 2
    · rw [show usedL x fs = x.a :: x.args by simp [usedL, *]]
      refine Exists.intro (oints [x.a]) (And.intro ?_ (And.intro (by first | rfl | exact shape_prs (by simp) | exact shape_ints (by simp) | exact shape_odvs (by simp)) ?_))
      · exact one_ints _ rfl rfl (.refl _)
      have hl : ([x.a] : List Int).length + x.args.length ≤ 1048577 := by simp; omega
      repeat' (first | refine vcI ?_ | refine And.intro ?_ ?_ | (intro hq; (try simp at hq); (try (exfalso; omega)); (try (revert hq; intro))))
      · rfl
      refine Exists.intro (oints ([x.a] ++ x.args)) (And.intro ?_ (And.intro (shape_ints (by rw [List.length_append])) ?_))
      · exact app_ints rfl rfl (fun i o hi ho => by (try dsimp only); rw [if_pos hi]; exact .refl _) (fun i o hi ho => by (try dsimp only); rw [if_neg (by omega), Nat.add_sub_cancel_left]; (try rw [cellV_pcell]); (try simp only [Nat.zero_add]); exact .refl _)
      refine keepS_ints rfl ?_
      show [x.a].length + x.args.length = ([x.a] ++ x.args).length
      rw [List.length_append]
  · rw [show usedL x fs = [x.a, IntKind.i64.wrap (x.n - 1)] by simp [usedL, *]]
    refine Exists.intro (oints [x.a, IntKind.i64.wrap (x.n - 1)]) (And.intro ?_ (And.intro (by first | rfl | exact shape_prs (by simp) | exact shape_ints (by simp) | exact shape_odvs (by simp)) ?_))
    · exact two_ints _ _ rfl rfl (.refl _) (.refl _)
    exact keepS_ints rfl rfl
  · rw [show usedL x fs = [x.a] by simp [usedL, *]]
    refine Exists.intro (oints [x.a]) (And.intro ?_ (And.intro (by first | rfl | exact shape_prs (by simp) | exact shape_ints (by simp) | exact shape_odvs (by simp)) ?_))
    · exact one_ints _ rfl rfl (.refl _)
    exact keepS_ints rfl rfl
  · rename_i h
    rw [show usedL x fs = [IntKind.i64.wrap ((fs.getD x.m.toNat default).act - 1)] by simp [usedL, *]]
    refine Exists.intro (oints [IntKind.i64.wrap ((fs.getD x.m.toNat default).act - 1)]) (And.intro ?_ (And.intro (by first | rfl | exact shape_prs (by simp) | exact shape_ints (by simp) | exact shape_odvs (by simp)) ?_))
    · exact one_ints _ rfl rfl (.refl _)
    exact keepS_ints rfl rfl
  · rename_i h
    rw [show usedL x fs = [-1] by
      unfold usedL; rw [if_neg (by omega), if_neg (by omega), if_neg (by omega), if_neg (by omega), if_pos (by assumption), if_neg (by omega)]]
    refine Exists.intro (oints [-1]) (And.intro ?_ (And.intro (by first | rfl | exact shape_prs (by simp) | exact shape_ints (by simp) | exact shape_odvs (by simp)) ?_))
    · exact one_ints _ rfl rfl (.refl _)
    exact keepS_ints rfl rfl
  · rename_i h _
    rw [show usedL x fs = [-1] by
      unfold usedL; rw [if_neg (by omega), if_neg (by omega), if_neg (by omega), if_neg (by omega), if_pos (by assumption), if_neg (by omega)]]
    refine Exists.intro (oints [-1]) (And.intro ?_ (And.intro (by first | rfl | exact shape_prs (by simp) | exact shape_ints (by simp) | exact shape_odvs (by simp)) ?_))
    · exact one_ints _ rfl rfl (.refl _)
    exact keepS_ints rfl rfl
  · rw [show usedL x fs = x.args by simp [usedL, *]]
    refine Exists.intro (oints []) (And.intro ?_ (And.intro (by first | rfl | exact shape_prs (by simp) | exact shape_ints (by simp) | exact shape_odvs (by simp)) ?_))
    · exact NEq.owns rfl rfl fun i o hi => absurd hi (by simp)
    have hl : ([] : List Int).length + x.args.length ≤ 1048577 := by simp; omega
    repeat' (first | refine vcI ?_ | refine And.intro ?_ ?_ | (intro hq; (try simp at hq); (try (exfalso; omega)); (try (revert hq; intro))))
    · rfl
    refine Exists.intro (oints ([] ++ x.args)) (And.intro ?_ (And.intro (shape_ints (by rw [List.length_append])) ?_))
    · exact app_ints rfl rfl (fun i o hi ho => by (try dsimp only); rw [if_pos hi]; exact .refl _) (fun i o hi ho => by (try dsimp only); rw [if_neg (by omega), Nat.add_sub_cancel_left]; (try rw [cellV_pcell]); (try simp only [Nat.zero_add]); exact .refl _)
    refine keepS_ints rfl ?_
    show ([] : List Int).length + x.args.length = ([] ++ x.args).length
    rw [List.length_append]
  · rw [show usedL x fs = [] by simp only [usedL, *]; simp]
    exact keepS_nil
end Go.Ab
namespace Go.Ab
open Go.Proofs
set_option maxRecDepth 100000
set_option maxHeartbeats 1000000

def putL : List Int → Int → List Int
  | [], n => [n]
  | x :: l, n => if x < n then x :: putL l n else if x = n then x :: l else n :: x :: l
theorem putL_has {l : List Int} {n : Int} : ∀ {k : Nat}, (∀ j, j < k → l.getD j 0 < n) → k < l.length → l.getD k 0 = n → putL l n = l := by
  induction l with
  | nil => intro k _ h; simp at h
  | cons x l ih =>
    intro k h1 h2 h3
    cases k with
    | zero => simp at h3; subst h3; simp [putL]
    | succ k =>
      have h0 : x < n := by simpa using h1 0 (by omega)
      simp only [putL, if_pos h0]
      rw [ih (k := k) (fun j hj => by simpa using h1 (j + 1) (by omega)) (by simpa using h2) (by simpa using h3)]
theorem putL_new {l : List Int} {n : Int} : ∀ {k : Nat}, (∀ j, j < k → l.getD j 0 < n) → k ≤ l.length → (k < l.length → n < l.getD k 0) → putL l n = l.take k ++ n :: l.drop k := by
  induction l with
  | nil => intro k _ h _; simp [putL]
  | cons x l ih =>
    intro k h1 h2 h3
    cases k with
    | zero =>
      have h0 : n < x := by simpa using h3 (by simp)
      simp [putL, show ¬ x < n by omega, show ¬ x = n by omega]
    | succ k =>
      have h0 : x < n := by simpa using h1 0 (by omega)
      simp only [putL, if_pos h0]
      rw [ih (k := k) (fun j hj => by simpa using h1 (j + 1) (by omega)) (by simpa using h2) (fun h => by simpa using h3 (by simp; omega))]
      simp
theorem putL_len (l : List Int) (n : Int) : (putL l n).length ≤ l.length + 1 := by
  induction l with
  | nil => simp [putL]
  | cons x l ih => simp only [putL]; split <;> (try split) <;> simp <;> omega

theorem put_spec (l : List Int) (n : Int) (hl : l.length ≤ 1048576) : CallsF Tryz.prog 104 [ints l, .int .i64 n] (ints (putL l n)) := by
  refine callsF_ofS mx Tryz.call104 Tryz.func104 rfl Tryz.ntmps104 Tryz.results104 (by kernel_rfl) (by simp) fun lo => ?_
  refine loopS mx (by decide) (by kernel_rfl) (fun k : Nat => k ≤ l.length ∧ ∀ j, j < k → l.getD j 0 < n) (fun k => [(5, .int .i64 k), (0, ints l), (1, .int .i64 n)]) (fun _ => []) (fun k => l.length - k) 0 ⟨by simp, fun j h => absurd h (by simp)⟩ ⟨by ((repeat' apply And.intro) <;> (first | exact True.intro | exact NEq.refl _ | (refine NEq.int ?_; first | exact rfl | omega | (rw [wrapI (by omega)]; first | exact rfl | omega)))), trivial, .nil⟩ ?_
  intro k nv ⟨hk, hj⟩
  repeat' (first | refine vcI ?_ | refine And.intro ?_ ?_ | (intro hq; (try simp at hq); (try (exfalso; omega)); (try (revert hq; intro))))
  · omega
  · rename_i h
    refine Exists.intro (k + 1) ⟨⟨by omega, fun j hj' => ?_⟩, (by first | omega | (dsimp only; omega)), ⟨by ((repeat' apply And.intro) <;> (first | exact True.intro | exact NEq.refl _ | (refine NEq.int ?_; first | exact rfl | omega | (rw [wrapI (by omega)]; first | exact rfl | omega)))), trivial, .nil⟩⟩
    by_cases e : j < k
    · exact hj j e
    · obtain rfl : j = k := by omega
      simpa [List.getD_eq_getElem?_getD] using h.2
  · omega
  · rename_i h
    have e := putL_has hj h.1 (by simpa [List.getD_eq_getElem?_getD] using h.2)
    rw [e]
    exact .refl _
  · rfl
  · rfl
  rename_i h1 _ h2 _
  have e := putL_new hj hk (fun h => by
    have a := h1 h
    have b := h2 h
    rw [List.getD_eq_getElem?_getD]
    omega)
  have hlen : (l.take k ++ n :: l.drop k).length = k + (1 + (l.length - k)) := by simp; omega
  rw [e]
  refine Exists.intro (oints (l.take k ++ n :: l.drop k)) (And.intro ?_ (And.intro (shape_ints hlen.symm) ?_))
  · refine NEq.owns rfl hlen.symm fun i o hi ho => ?_
    have ho' : o = 0 := by have : o < 1 := ho; omega
    subst ho'
    show NEq (if i < k then .int .i64 (l.getD (0 + i) 0) else cellV (1, 38) _ [] (0 + (i - k)) 0 (if 0 + (i - k) < 1 then List.getD [PV.int .i64 n] ((0 + (i - k)) * Tryz.prog.cellsOf 3 + 0) .undef else .int .i64 (l.getD (k + (0 + (i - k) - 1)) 0))) _
    rw [hlen] at hi
    have e3 : (l.take k).length = k := by simp; omega
    by_cases c1 : i < k
    · have e5 : (l.take k ++ n :: l.drop k).getD i 0 = (l.take k).getD i 0 := by rw [getD_app, if_pos (by rw [e3]; exact c1)]
      rw [if_pos c1, e5, Nat.zero_add]
      refine NEq.of_eq (congrArg (PV.int .i64) ?_)
      simp [List.getD_eq_getElem?_getD, List.getElem?_take, c1]
    · have e5 : (l.take k ++ n :: l.drop k).getD i 0 = (n :: l.drop k).getD (i - k) 0 := by rw [getD_app, if_neg (by rw [e3]; exact c1), e3]
      rw [if_neg c1, e5]
      by_cases c2 : i = k
      · subst c2
        rw [if_pos (by omega)]
        have e4 : 0 + (i - i) = 0 := by omega
        rw [e4, Nat.zero_mul, Nat.sub_self]
        exact .refl _
      · rw [if_neg (by omega)]
        show NEq (.int .i64 _) _
        refine NEq.of_eq (congrArg (PV.int .i64) ?_)
        obtain ⟨d, hd⟩ : ∃ d, i - k = d + 1 := ⟨i - k - 1, by omega⟩
        rw [hd]
        simp only [List.getD_eq_getElem?_getD, List.getElem?_cons_succ, List.getElem?_drop]
        congr 2
        omega
  · refine view_ints rfl ?_
    exact hlen.symm
end Go.Ab
namespace Go.Ab
open Go.Proofs
set_option maxRecDepth 100000
set_option maxHeartbeats 1000000

def odvs (l : List DV) : PV := .own 6 l.length fun i o => (dvl (l.getD i default)).getD o .undef
theorem dry_dvl (v : DV) {o : Nat} (h : o < 6) : dryCell ((dvl v).getD o .undef) = true := by
  match o with
  | 0 => rfl
  | 1 => rfl
  | 2 => rfl
  | 3 => rfl
  | 4 => rfl
  | 5 => rfl
  | o + 6 => omega
theorem view_dvl (k : Nat) (hp : Hp) (v : DV) (o : Nat) : view (k + 1) hp ((dvl v).getD o .undef) = (dvl v).getD o .undef := by
  match o with
  | 0 => rfl
  | 1 => rfl
  | 2 => rfl
  | 3 => rfl
  | 4 => rfl
  | 5 => rfl
  | o + 6 => rfl
theorem view_odvs {k : Nat} {L : Hp} {r : RId} {v n : Nat} {l : List DV} (h : lkH L r = some ⟨v, odvs l⟩) (hn : n = l.length) : NEq (view (k + 2) L (.ref r v [] 6 0 n)) (dvs l) := by
  subst hn
  rw [view, h]
  simp only [if_true, getAt, odvs]
  exact NEq.frzs rfl (by simp) fun i o _ _ => by rw [view_dvl, Nat.zero_add]; exact .refl _
theorem getD_appD {α : Type} (d : α) (xs ys : List α) (i : Nat) : (xs ++ ys).getD i d = if i < xs.length then xs.getD i d else ys.getD (i - xs.length) d := getD_app xs ys i d
def allL (f : DF) : List DV := [f.self, f.holder] ++ f.vars ++ f.stack
theorem cDV : Tryz.prog.cellsOf 103 = 6 := by kernel_rfl
theorem bDV : Tryz.prog.bytesOf 103 = 56 := by kernel_rfl
theorem all_spec (f : DF) (hf : f.small) : CallsF Tryz.prog 103 [.agg (dfl f)] (dvs (allL f)) := by
  obtain ⟨h1, h2⟩ := hf
  refine callsF_ofS mx Tryz.call103 Tryz.func103 rfl Tryz.ntmps103 Tryz.results103 (by kernel_rfl) (by simp) fun lo => ?_
  repeat' (first | refine vcI ?_ | refine And.intro ?_ ?_ | (intro hq; (try simp at hq); (try (exfalso; omega)); (try (revert hq; intro))))
  refine Exists.intro (odvs [f.self, f.holder]) (And.intro ?_ (And.intro rfl ?_))
  · refine NEq.owns rfl rfl fun i o hi ho => ?_
    have hi' : i < 2 := hi
    have ho' : o < 6 := ho
    rw [cDV]
    rcases (by omega : i = 0 ∨ i = 1) with rfl | rfl <;> rcases (by omega : o = 0 ∨ o = 1 ∨ o = 2 ∨ o = 3 ∨ o = 4 ∨ o = 5) with rfl | rfl | rfl | rfl | rfl | rfl <;> exact .refl _
  have hl : ([f.self, f.holder] : List DV).length + f.vars.length + f.stack.length ≤ 2097154 := by simp; omega
  refine Exists.intro [([], (false, [])), ([], (false, [])), ([8, 12], (false, [])), ([], (false, [8])), ([8, 12], (false, [])), ([8, 12], (false, [])), ([], (false, [8])), ([], (false, []))] (Exists.intro [6, 1, 1] (And.intro (by kernel_rfl) (And.intro (by kernel_rfl) ?_)))
  repeat' (first | refine vcI ?_ | refine And.intro ?_ ?_ | (intro hq; (try simp at hq); (try (exfalso; omega)); (try (revert hq; intro))))
  · exact dry_dvl _ (by assumption)
  · rw [bDV]; omega
  · omega
  · exact dry_dvl _ (by assumption)
  · rw [bDV]; omega
  · omega
  have hlen : ([f.self, f.holder] : List DV).length + f.vars.length + f.stack.length = (allL f).length := by unfold allL; rw [List.length_append, List.length_append]
  refine Exists.intro (odvs (allL f)) (And.intro ?_ (And.intro (show some (true, 6, (allL f).length) = some (true, 6, ([f.self, f.holder] : List DV).length + f.vars.length + f.stack.length) by rw [hlen]) ?_))
  · refine NEq.owns rfl hlen fun i o hi ho => ?_
    show NEq (if i < ([f.self, f.holder] : List DV).length + f.vars.length then (if i < ([f.self, f.holder] : List DV).length then (dvl (([f.self, f.holder] : List DV).getD i default)).getD o .undef else (dvl (f.vars.getD (i - ([f.self, f.holder] : List DV).length) default)).getD o .undef) else (dvl (f.stack.getD (i - (([f.self, f.holder] : List DV).length + f.vars.length)) default)).getD o .undef) ((dvl ((([f.self, f.holder] ++ f.vars) ++ f.stack).getD i default)).getD o .undef)
    rw [getD_appD, List.length_append, getD_appD]
    split
    · split <;> exact .refl _
    · exact .refl _
  · exact view_odvs rfl hlen
end Go.Ab
namespace Go.Ab
open Go.Proofs
set_option maxRecDepth 100000
set_option maxHeartbeats 1000000

theorem foldl_take {α β : Type} (d : α) (f : β → α → β) (b : β) {l : List α} {k : Nat} (hk : k < l.length) : (l.take (k + 1)).foldl f b = f ((l.take k).foldl f b) (l[k]?.getD d) := by
  rw [List.take_add_one, List.foldl_append]
  simp [hk]
end Go.Ab
namespace Go.Ab
open Go.Proofs
set_option maxRecDepth 100000
set_option maxHeartbeats 1000000

def useV (out : List Int) (v : DV) : List Int := if v.k = 1 then putL out v.n else out
def useA (out : List Int) (f : DF) : List Int := (allL f).foldl useV out
def useF (out : List Int) (f : DF) : List Int := if f.act = 0 then useA out f else putL (useA out f) (IntKind.i64.wrap (f.act - 1))
def usesL (fs : List DF) : List Int := fs.foldl useF []
theorem useV_len (out : List Int) (l : List DV) : (l.foldl useV out).length ≤ out.length + l.length := by
  induction l generalizing out with
  | nil => simp
  | cons v l ih =>
    rw [List.foldl_cons, List.length_cons]
    have h1 := ih (useV out v)
    have h2 : (useV out v).length ≤ out.length + 1 := by
      unfold useV
      split
      · exact putL_len _ _
      · omega
    omega
theorem allL_len (f : DF) : (allL f).length = f.vars.length + f.stack.length + 2 := by simp [allL]
theorem useF_len (out : List Int) (f : DF) : (useF out f).length ≤ out.length + (f.vars.length + f.stack.length) + 3 := by
  have h1 := useV_len out (allL f)
  rw [allL_len] at h1
  have h2 := putL_len (useA out f) (IntKind.i64.wrap (f.act - 1))
  unfold useF
  unfold useA at *
  split <;> omega
theorem usesL_len (out : List Int) (fs : List DF) : (fs.foldl useF out).length ≤ out.length + (3 * fs.length + sumL (fun f => f.vars.length + f.stack.length) fs) := by
  induction fs generalizing out with
  | nil => simp [sumL]
  | cons f fs ih =>
    have h1 := ih (useF out f)
    have h2 := useF_len out f
    rw [List.foldl_cons]
    unfold sumL at h1 ⊢
    rw [List.map_cons, List.sum_cons, List.length_cons]
    omega
theorem sumL_take_le {α : Type} (f : α → Nat) (l : List α) (k : Nat) : sumL f (l.take k) ≤ sumL f l := by
  unfold sumL
  conv => rhs; rw [← List.take_append_drop k l]
  rw [List.map_append, List.sum_append]
  omega
theorem sumL_mem {α : Type} {f : α → Nat} {l : List α} {x : α} (h : x ∈ l) : f x ≤ sumL f l := by
  unfold sumL
  induction l with
  | nil => cases h
  | cons y l ih =>
    rw [List.map_cons, List.sum_cons]
    rcases List.mem_cons.1 h with rfl | h
    · omega
    · have := ih h; omega

theorem cDF : Tryz.prog.cellsOf 106 = 18 := by kernel_rfl
theorem Uses_spec (fs : List DF) (hf : frN fs ≤ 6000) : CallsF Tryz.prog 63 [dfs fs] (ints (usesL fs)) := by
  have hN : fs.length + sumL (fun f => f.vars.length + f.stack.length) fs ≤ 6000 := hf
  have hout : ∀ k, k ≤ fs.length → (usesL (fs.take k)).length ≤ 18000 := fun k hk => by
    have h1 := usesL_len [] (fs.take k)
    have h2 := sumL_take_le (fun f : DF => f.vars.length + f.stack.length) fs k
    rw [List.length_take] at h1
    simp only [List.length_nil] at h1
    show ((fs.take k).foldl useF []).length ≤ 18000
    omega
  refine callsF_ofS mx Tryz.call63 Tryz.func63 rfl Tryz.ntmps63 Tryz.results63 (by kernel_rfl) (by simp) fun lo => ?_
  refine loopS mx (by decide) (by kernel_rfl) (fun k : Nat => k ≤ fs.length) (fun k => [(4, .int .i64 k), (3, ints (usesL (fs.take k))), (0, dfs fs)]) (fun _ => []) (fun k => fs.length - k) 0 (by simp) ⟨⟨(by refine NEq.int ?_; first | exact rfl | omega | (rw [wrapI (by omega)]; first | exact rfl | omega)), .nils, .refl _, trivial⟩, trivial, .nil⟩ ?_
  intro k nv hk
  have ho := hout k hk
  repeat' (first | refine vcI ?_ | refine And.intro ?_ ?_ | (intro hq; (try simp at hq); (try (exfalso; omega)); (try (revert hq; intro))))
  · rename_i h1
    have hmem : fs.getD (k : Int).toNat default ∈ fs := getD_mem default h1
    have hsm : (fs.getD (k : Int).toNat default).vars.length + (fs.getD (k : Int).toNat default).stack.length ≤ 6000 := by
      have := sumL_mem (f := fun f : DF => f.vars.length + f.stack.length) hmem
      omega
    have hstep : usesL (fs.take (k + 1)) = useF (usesL (fs.take k)) (fs.getD (k : Int).toNat default) := foldl_take default _ _ h1
    have hcall : CallsF Tryz.prog 103 [PV.agg (List.map (fun j => (dfl (fs.getD (k : Int).toNat default)).getD (0 + j) .undef) (List.range (Tryz.prog.cellsOf 106)))] (dvs (allL (fs.getD (k : Int).toNat default))) := by
      rw [cDF]
      exact all_spec _ ⟨by omega, by omega⟩
    refine CallS.frozen (dvs (allL (fs.getD (k : Int).toNat default))) hcall (plainAll rfl) ?_
    clear hcall
    repeat' (first | refine vcI ?_ | refine And.intro ?_ ?_ | (intro hq; (try simp at hq); (try (exfalso; omega)); (try (revert hq; intro))))
    have hin : ∀ j, (((allL (fs.getD (k : Int).toNat default)).take j).foldl useV (usesL (fs.take k))).length ≤ 30000 := fun j => by
      have a := useV_len (usesL (fs.take k)) ((allL (fs.getD (k : Int).toNat default)).take j)
      have b := allL_len (fs.getD (k : Int).toNat default)
      rw [List.length_take] at a
      omega
    refine loopS mx (by decide) (by kernel_rfl) (fun j : Nat => j ≤ (allL (fs.getD (k : Int).toNat default)).length) (fun j => [(6, .int .i64 j), (3, ints (((allL (fs.getD (k : Int).toNat default)).take j).foldl useV (usesL (fs.take k)))), (5, dvs (allL (fs.getD (k : Int).toNat default))), (4, .int .i64 k), (0, dfs fs)]) (fun _ => []) (fun j => (allL (fs.getD (k : Int).toNat default)).length - j) 0 (by simp) ⟨by ((repeat' apply And.intro) <;> (first | exact True.intro | exact NEq.refl _ | (refine NEq.int ?_; first | exact rfl | omega | (rw [wrapI (by omega)]; first | exact rfl | omega)))), trivial, .nil⟩ ?_
    intro j nv hj
    have hjl := hin j
    repeat' (first | refine vcI ?_ | refine And.intro ?_ ?_ | (intro hq; (try simp at hq); (try (exfalso; omega)); (try (revert hq; intro))))
    · rename_i h3; show (j : Int) < ((allL (fs[k]?.getD default)).length : Int); omega
    · rename_i h3 _; show (j : Int) < ((allL (fs[k]?.getD default)).length : Int); omega
    · rename_i h3 h4
      have e : ((allL (fs.getD (k : Int).toNat default)).take (j + 1)).foldl useV (usesL (fs.take k)) = useV (((allL (fs.getD (k : Int).toNat default)).take j).foldl useV (usesL (fs.take k))) ((allL (fs.getD (k : Int).toNat default)).getD (j : Int).toNat default) := foldl_take default _ _ h3
      have e2 : useV (((allL (fs.getD (k : Int).toNat default)).take j).foldl useV (usesL (fs.take k))) ((allL (fs.getD (k : Int).toNat default)).getD (j : Int).toNat default) = putL (((allL (fs.getD (k : Int).toNat default)).take j).foldl useV (usesL (fs.take k))) ((allL (fs.getD (k : Int).toNat default)).getD (j : Int).toNat default).n := if_pos h4
      refine CallS.frozen (ints (putL (((allL (fs.getD (k : Int).toNat default)).take j).foldl useV (usesL (fs.take k))) ((allL (fs.getD (k : Int).toNat default)).getD (j : Int).toNat default).n)) (put_spec _ _ (by omega)) (plainAll rfl) ?_
      repeat' (first | refine vcI ?_ | refine And.intro ?_ ?_ | (intro hq; (try simp at hq); (try (exfalso; omega)); (try (revert hq; intro))))
      exact Exists.intro (j + 1) ⟨by have h5 : j < (allL (fs.getD (k : Int).toNat default)).length := h3; omega, (by have h5 : j < (allL (fs.getD (k : Int).toNat default)).length := h3; dsimp only; omega), ⟨⟨(by refine NEq.int ?_; first | exact rfl | omega | (rw [wrapI (by omega)]; first | exact rfl | omega)), NEq.of_eq (congrArg ints (e.trans e2).symm), .refl _, .refl _, .refl _, trivial⟩, trivial, .nil⟩⟩
    · rename_i h3 h4
      have e : ((allL (fs.getD (k : Int).toNat default)).take (j + 1)).foldl useV (usesL (fs.take k)) = useV (((allL (fs.getD (k : Int).toNat default)).take j).foldl useV (usesL (fs.take k))) ((allL (fs.getD (k : Int).toNat default)).getD (j : Int).toNat default) := foldl_take default _ _ h3
      have e2 : useV (((allL (fs.getD (k : Int).toNat default)).take j).foldl useV (usesL (fs.take k))) ((allL (fs.getD (k : Int).toNat default)).getD (j : Int).toNat default) = ((allL (fs.getD (k : Int).toNat default)).take j).foldl useV (usesL (fs.take k)) := if_neg h4
      exact Exists.intro (j + 1) ⟨by have h5 : j < (allL (fs.getD (k : Int).toNat default)).length := h3; omega, (by have h5 : j < (allL (fs.getD (k : Int).toNat default)).length := h3; dsimp only; omega), ⟨⟨(by refine NEq.int ?_; first | exact rfl | omega | (rw [wrapI (by omega)]; first | exact rfl | omega)), NEq.of_eq (congrArg ints (e.trans e2).symm), .refl _, .refl _, .refl _, trivial⟩, trivial, .nil⟩⟩
    all_goals
      rename_i h3 h4
      have h5 : (allL (fs.getD (k : Int).toNat default)).length ≤ j := h3
      have e : ((allL (fs.getD (k : Int).toNat default)).take j).foldl useV (usesL (fs.take k)) = useA (usesL (fs.take k)) (fs.getD (k : Int).toNat default) := by rw [List.take_of_length_le h5]; rfl
    · have e2 : useF (usesL (fs.take k)) (fs.getD (k : Int).toNat default) = putL (((allL (fs.getD (k : Int).toNat default)).take j).foldl useV (usesL (fs.take k))) (IntKind.i64.wrap ((fs.getD (k : Int).toNat default).act - 1)) := by rw [e]; exact if_neg h4
      refine CallS.frozen (ints (putL (((allL (fs.getD (k : Int).toNat default)).take j).foldl useV (usesL (fs.take k))) (IntKind.i64.wrap ((fs.getD (k : Int).toNat default).act - 1)))) (put_spec _ _ (by omega)) (plainAll rfl) ?_
      repeat' (first | refine vcI ?_ | refine And.intro ?_ ?_ | (intro hq; (try simp at hq); (try (exfalso; omega)); (try (revert hq; intro))))
      exact Exists.intro (k + 1) ⟨by omega, (by first | omega | (dsimp only; omega)), ⟨⟨(by refine NEq.int ?_; first | exact rfl | omega | (rw [wrapI (by omega)]; first | exact rfl | omega)), NEq.of_eq (congrArg ints (hstep.trans e2).symm), .refl _, trivial⟩, trivial, .nil⟩⟩
    · have e2 : useF (usesL (fs.take k)) (fs.getD (k : Int).toNat default) = ((allL (fs.getD (k : Int).toNat default)).take j).foldl useV (usesL (fs.take k)) := by rw [e]; exact if_pos h4
      exact Exists.intro (k + 1) ⟨by omega, (by first | omega | (dsimp only; omega)), ⟨⟨(by refine NEq.int ?_; first | exact rfl | omega | (rw [wrapI (by omega)]; first | exact rfl | omega)), NEq.of_eq (congrArg ints (hstep.trans e2).symm), .refl _, trivial⟩, trivial, .nil⟩⟩
  · obtain rfl : k = fs.length := by omega
    rw [List.take_length]
    exact .refl _
end Go.Ab
namespace Go.Ab
open Go.Proofs
set_option maxRecDepth 100000
set_option maxHeartbeats 1000000

def NEqL : List PV → List PV → Prop
  | [], [] => True
  | x :: l, y :: m => NEq x y ∧ NEqL l m
  | _, _ => False
theorem NEqL.iff : ∀ {l m : List PV}, NEqL l m → l.length = m.length ∧ ∀ i, i < l.length → NEq (l.getD i .undef) (m.getD i .undef)
  | [], [], _ => ⟨rfl, fun i hi => absurd hi (by simp)⟩
  | x :: l, y :: m, h => by
    obtain ⟨h1, h2⟩ := NEqL.iff h.2
    refine ⟨by simp [h1], fun i hi => ?_⟩
    cases i with
    | zero => exact h.1
    | succ i => exact h2 i (by simpa using hi)
theorem NEqL.getD {l m : List PV} (h : NEqL l m) (o : Nat) : NEq (l.getD o .undef) (m.getD o .undef) := by
  obtain ⟨h1, h2⟩ := h.iff
  by_cases ho : o < l.length
  · exact h2 o ho
  · rw [List.getD_eq_getElem?_getD, List.getD_eq_getElem?_getD, List.getElem?_eq_none (by omega), List.getElem?_eq_none (by omega)]; exact .refl _
theorem NEqL.at {l m : List PV} (h : NEqL l m) {o' o : Nat} (e : o' = o) : NEq (l.getD o' .undef) (m.getD o .undef) := e ▸ h.getD o'
theorem take_succD {α : Type} (d : α) {l : List α} {k : Nat} (hk : k < l.length) : l.take (k + 1) = l.take k ++ [l.getD k d] := by
  rw [List.take_add_one]; simp [hk]
theorem NEq.aggL {l m : List PV} (h : NEqL l m) : NEq (.agg l) (.agg m) := .agg h.iff.1 h.iff.2
theorem shape_odvs {n : Nat} {xs : List DV} (h : n = xs.length) : shapeOf (odvs xs) = some (true, 6, n) := by subst h; rfl
theorem CloneV_spec (l : List DV) (hl : l.length ≤ 1048576) : CallsF Tryz.prog 124 [dvs l] (dvs l) := by
  refine callsF_ofS mx Tryz.call124 Tryz.func124 rfl Tryz.ntmps124 Tryz.results124 (by kernel_rfl) (by simp) fun lo => ?_
  repeat' (first | refine vcI ?_ | refine And.intro ?_ ?_ | (intro hq; (try simp at hq); (try (exfalso; omega)); (try (revert hq; intro))))
  · refine Exists.intro (PV.own 6 0 fun _ _ => .undef) (And.intro ?_ (And.intro (by first | rfl | exact shape_prs (by simp) | exact shape_ints (by simp) | exact shape_odvs (by simp)) ?_))
    · exact NEq.owns rfl rfl fun i o hi => absurd hi (by simp)
    repeat' (first | refine vcI ?_ | refine And.intro ?_ ?_ | (intro hq; (try simp at hq); (try (exfalso; omega)); (try (revert hq; intro))))
    · exact dry_dvl _ (by assumption)
    · rw [bDV]; omega
    · omega
    refine Exists.intro (odvs l) (And.intro ?_ (And.intro (by first | rfl | exact shape_prs (by simp) | exact shape_ints (by simp) | exact shape_odvs (by simp)) ?_))
    · refine NEq.owns rfl (by simp) fun i o hi ho => ?_
      dsimp only
      rw [if_neg (by omega), Nat.sub_zero]
      exact .refl _
    exact view_odvs rfl (by simp)
  · rename_i h1 b h2
    have : l = [] := by simpa using h1
    subst this
    exact .nils
  · rename_i h1 b h2
    refine Exists.intro (PV.own 6 0 fun _ _ => .undef) (And.intro ?_ (And.intro (by first | rfl | exact shape_prs (by simp) | exact shape_ints (by simp) | exact shape_odvs (by simp)) ?_))
    · exact NEq.owns rfl rfl fun i o hi => absurd hi (by simp)
    repeat' (first | refine vcI ?_ | refine And.intro ?_ ?_ | (intro hq; (try simp at hq); (try (exfalso; omega)); (try (revert hq; intro))))
    · exact dry_dvl _ (by assumption)
    · rw [bDV]; omega
    · omega
    refine Exists.intro (odvs l) (And.intro ?_ (And.intro (by first | rfl | exact shape_prs (by simp) | exact shape_ints (by simp) | exact shape_odvs (by simp)) ?_))
    · refine NEq.owns rfl (by simp) fun i o hi ho => ?_
      dsimp only
      rw [if_neg (by omega), Nat.sub_zero]
      exact .refl _
    exact view_odvs rfl (by simp)

theorem copied1_spec (f : DF) (hf : f.small) : CallsF Tryz.prog 123 [.agg (dfl f)] (.agg (dfl f)) := by
  obtain ⟨h1, h2⟩ := hf
  refine callsF_ofS mx Tryz.call123 Tryz.func123 rfl Tryz.ntmps123 Tryz.results123 (by kernel_rfl) (by simp) fun lo => ?_
  repeat' (first | refine vcI ?_ | refine And.intro ?_ ?_ | (intro hq; (try simp at hq); (try (exfalso; omega)); (try (revert hq; intro))))
  refine QS.frozen (dvs f.vars) (CloneV_spec _ h1) (plainAll rfl) ?_
  repeat' (first | refine vcI ?_ | refine And.intro ?_ ?_ | (intro hq; (try simp at hq); (try (exfalso; omega)); (try (revert hq; intro))))
  refine QS.frozen (dvs f.stack) (CloneV_spec _ h2) (plainAll rfl) ?_
  repeat' (first | refine vcI ?_ | refine And.intro ?_ ?_ | (intro hq; (try simp at hq); (try (exfalso; omega)); (try (revert hq; intro))))
  refine NEq.aggL ?_
  ((repeat' apply And.intro) <;> (first | exact True.intro | exact NEq.refl _))

def odfs (l : List DF) : PV := .own 18 l.length fun i o => (dfl (l.getD i default)).getD o .undef
theorem cellV_dfl (r : RId) (vr : Nat) (p : Path) (i o : Nat) (f : DF) (o' : Nat) : cellV r vr p i o ((dfl f).getD o' .undef) = (dfl f).getD o' .undef := by
  by_cases h : o' < 18
  · rcases (by omega : o' = 0 ∨ o' = 1 ∨ o' = 2 ∨ o' = 3 ∨ o' = 4 ∨ o' = 5 ∨ o' = 6 ∨ o' = 7 ∨ o' = 8 ∨ o' = 9 ∨ o' = 10 ∨ o' = 11 ∨ o' = 12 ∨ o' = 13 ∨ o' = 14 ∨ o' = 15 ∨ o' = 16 ∨ o' = 17) with rfl | rfl | rfl | rfl | rfl | rfl | rfl | rfl | rfl | rfl | rfl | rfl | rfl | rfl | rfl | rfl | rfl | rfl <;> rfl
  · rw [List.getD_eq_getElem?_getD, List.getElem?_eq_none (by show 18 ≤ o'; omega)]; rfl
theorem shape_odfs {n : Nat} {xs : List DF} (h : n = xs.length) : shapeOf (odfs xs) = some (true, 18, n) := by subst h; rfl
theorem view_odfs {k : Nat} {L : Hp} {r : RId} {v n : Nat} {l : List DF} (h : lkH L r = some ⟨v, odfs l⟩) (hn : n = l.length) : NEq (view (k + 3) L (.ref r v [] 18 0 n)) (dfs l) := by
  subst hn
  rw [view, h]
  simp only [if_true, getAt, odfs]
  exact NEq.frzs rfl (by simp) fun i o _ ho => by
    rw [Nat.zero_add]
    have ho' : o < 18 := ho
    generalize l.getD i default = f
    rcases (by omega : o = 0 ∨ o = 1 ∨ o = 2 ∨ o = 3 ∨ o = 4 ∨ o = 5 ∨ o = 6 ∨ o = 7 ∨ o = 8 ∨ o = 9 ∨ o = 10 ∨ o = 11 ∨ o = 12 ∨ o = 13 ∨ o = 14 ∨ o = 15 ∨ o = 16 ∨ o = 17) with rfl | rfl | rfl | rfl | rfl | rfl | rfl | rfl | rfl | rfl | rfl | rfl | rfl | rfl | rfl | rfl | rfl | rfl <;> exact .refl _
theorem bDF : Tryz.prog.bytesOf 106 = 192 := by kernel_rfl
theorem eachFr_spec (l : List DF) (hl : l.length ≤ 1048576 ∧ ∀ f ∈ l, f.small) : CallsF Tryz.prog 122 [dfs l, .func (.func 123) [] []] (dfs l) := by
  obtain ⟨hl, hs⟩ := hl
  refine callsF_ofS mx Tryz.call122 Tryz.func122 rfl Tryz.ntmps122 Tryz.results122 (by kernel_rfl) (by simp) fun lo => ?_
  repeat' (first | refine vcI ?_ | refine And.intro ?_ ?_ | (intro hq; (try simp at hq); (try (exfalso; omega)); (try (revert hq; intro))))
  refine ghostS 5 (1, 1000) (by decide) 18 (fun _ _ => .undef) rfl (L' := []) (by simp [lkH]) fun v => ?_
  refine loopS2 mx (by decide) (by kernel_rfl) (fun (k v : Nat) => k ≤ l.length) (fun k v => [(10, .int .i64 k), (5, .ref (1, 1000) v [] 18 0 k), (1, .func (.func 123) [] []), (8, dfs l), (9, .int .i64 l.length)]) (fun k v => [((1, 1000), ⟨v, odfs (l.take k)⟩)]) (fun k v => l.length - k) 0 v (by simp) ⟨?_, ?_, .nil⟩ ?_
  · exact ⟨.refl _, .refs rfl rfl rfl, .refl _, .refl _, .refl _, trivial⟩
  · exact ⟨⟨rfl, .owns rfl rfl fun i o hi => absurd hi (by simp)⟩, trivial⟩
  intro k v nv hk
  repeat' (first | refine vcI ?_ | refine And.intro ?_ ?_ | (intro hq; (try simp at hq); (try (exfalso; omega)); (try (revert hq; intro))))
  · rename_i hlt
    have hm := hs _ (getD_mem default hlt)
    refine CallS.frozen (.agg (dfl (l.getD (k : Int).toNat default))) ((copied1_spec (l.getD (k : Int).toNat default) hm).less ?_) (plainAll rfl) ?_
    · refine LeL.cons (NEq.aggL ?_) LeL.nil
      ((repeat' apply And.intro) <;> (first | exact True.intro | exact NEq.refl _))
    repeat' (first | refine vcI ?_ | refine And.intro ?_ ?_ | (intro hq; (try simp at hq); (try (exfalso; omega)); (try (revert hq; intro))))
    refine Exists.intro (odfs [l.getD (k : Int).toNat default]) (And.intro ?_ (And.intro (by first | rfl | exact shape_prs (by simp) | exact shape_ints (by simp) | exact shape_odvs (by simp)) ?_))
    · refine NEq.owns rfl rfl fun i o hi ho => ?_
      obtain rfl : i = 0 := by simpa using hi
      refine NEqL.at (m := dfl (l.getD (k : Int).toNat default)) ?_ (by simp)
      ((repeat' apply And.intro) <;> (first | exact True.intro | exact NEq.refl _))
    repeat' (first | refine vcI ?_ | refine And.intro ?_ ?_ | (intro hq; (try simp at hq); (try (exfalso; omega)); (try (revert hq; intro))))
    · simp; omega
    · rw [bDF]; simp; omega
    · simp; omega
    refine Exists.intro (odfs (l.take (k + 1))) (And.intro ?_ (And.intro (shape_odfs (by simp; omega)) ?_))
    · refine NEq.owns rfl (by simp; omega) fun i o hi ho => ?_
      dsimp only
      rw [take_succD default hlt, getD_appD, cellV_dfl, Nat.zero_add]
      split <;> exact .refl _
    repeat' (first | refine vcI ?_ | refine And.intro ?_ ?_ | (intro hq; (try simp at hq); (try (exfalso; omega)); (try (revert hq; intro))))
    refine Exists.intro (k + 1, _) ⟨by omega, (by first | omega | (dsimp only; omega)), ⟨?_, ⟨⟨rfl, .refl _⟩, trivial⟩, .nil⟩⟩
    exact ⟨(by refine NEq.int ?_; first | exact rfl | omega | (rw [wrapI (by omega)]; first | exact rfl | omega)), .refs rfl rfl (by simp; omega), .refl _, .refl _, .refl _, trivial⟩
  · rename_i hlt
    obtain rfl : k = l.length := by omega
    rw [List.take_length]
    repeat' (first | refine vcI ?_ | refine And.intro ?_ ?_ | (intro hq; (try simp at hq); (try (exfalso; omega)); (try (revert hq; intro))))
    exact view_odfs rfl rfl
end Go.Ab
namespace Go.Ab
open Go.Proofs
set_option maxRecDepth 100000
set_option maxHeartbeats 1000000

theorem LeHp.nodup {L : Hp} (h : (L.map (·.1)).Nodup) : LeHp L L := by
  have key : ∀ (M L : Hp), (L.map (·.1)).Nodup → (∀ x ∈ M, x ∈ L) → LeHp L M := by
    intro M
    induction M with
    | nil => intro L _ _; trivial
    | cons x M ih =>
      intro L hn hm
      refine ⟨?_, ih L hn fun y hy => hm y (List.mem_cons_of_mem _ hy)⟩
      have hx := hm x (by simp)
      have : lkH L x.1 = some x.2 := by
        clear ih hm
        induction L with
        | nil => cases hx
        | cons y L ih2 =>
          obtain ⟨k, v⟩ := y
          simp only [List.map_cons, List.nodup_cons] at hn
          simp only [lkH]
          rcases List.mem_cons.1 hx with rfl | hx'
          · simp
          · rw [if_neg (fun e => hn.1 (by rw [← e]; exact List.mem_map_of_mem hx'))]
            exact ih2 hn.2 hx'
      rw [this]
      exact ⟨rfl, .refl _⟩
  exact key L L h fun _ h => h
theorem Keeps.rfl' {S L : Hp} : Keeps S L L := .same fun _ h => h
theorem YieldS.mono {P : Program} {S : Hp} {r : RId} {v : Nat} {args : List PV} {L : Hp} {nv : Nat} {K K' : PV → Hp → Nat → Prop} (h : YieldS P S r v args L nv K) (hk : ∀ x L nv, K x L nv → K' x L nv) : YieldS P S r v args L nv K' :=
  ⟨YieldA.mono h.out fun x hp nv ⟨L', h1, h2⟩ => ⟨L', h1, by rw [fz_eq] at h2 ⊢; exact hk _ _ _ h2⟩⟩

/-- A pointer to a described value. -/
inductive VPtr : PV → DV → Prop
  | self (f : DF) : VPtr (.fptr 18 (fun o => (dfl f).getD o .undef) 2) f.self
  | holder (f : DF) : VPtr (.fptr 18 (fun o => (dfl f).getD o .undef) 8) f.holder
  | elem (x : DV) : VPtr (.fptr 6 (fun o => (dvl x).getD o .undef) 0) x

theorem copied_spec (l : List DF) (hl : l.length ≤ 1048576 ∧ ∀ f ∈ l, f.small) : CallsF Tryz.prog 102 [dfs l] (dfs l) := by
  refine callsF_ofS mx Tryz.call102 Tryz.func102 rfl Tryz.ntmps102 Tryz.results102 (by kernel_rfl) (by simp) fun lo => ?_
  repeat' (first | refine vcI ?_ | refine And.intro ?_ ?_ | (intro hq; (try simp at hq); (try (exfalso; omega)); (try (revert hq; intro))))
  refine CallS.frozen (dfs l) (eachFr_spec l hl) (plainAll rfl) ?_
  repeat' (first | refine vcI ?_ | refine And.intro ?_ ?_ | (intro hq; (try simp at hq); (try (exfalso; omega)); (try (revert hq; intro))))
  exact .refl _
theorem values_spec (l : List DF) : CallsF Tryz.prog 101 [dfs l] (.func (.func 121) [] [.fptr 1 (fun _ => dfs l) 0]) := by
  refine callsF_ofS mx Tryz.call101 Tryz.func101 rfl Tryz.ntmps101 Tryz.results101 (by kernel_rfl) (by simp) fun lo => ?_
  repeat' (first | refine vcI ?_ | refine And.intro ?_ ?_ | (intro hq; (try simp at hq); (try (exfalso; omega)); (try (revert hq; intro))))
  refine NEq.clos (NEq.fptr fun o ho => ?_)
  obtain rfl : o = 0 := by omega
  exact .refl _

theorem values1_spec (fs : List DF) (hf : fs.length ≤ 1048576 ∧ ∀ f ∈ fs, f.small) (id : RId) (v nv0 : Nat) (L0 S : Hp) (Inv : List DV → Hp → Prop) (h0 : Inv [] L0) (hnd : ∀ p L, Inv p L → (L.map (·.1)).Nodup)
    (hst : ∀ pre L nv p x i, Inv pre L → VPtr p x → YieldS Tryz.prog S id v [.int .i64 i, p] L nv fun y L' _ => y = .bool true ∧ Inv (pre ++ [x]) L') :
    CallsA Tryz.prog 121 [.sref .loop id v, .fptr 1 (fun _ => dfs fs) 0] (L0 ++ S) nv0 fun _ hp' _ => ∃ L', hp' = L' ++ S ∧ Inv (fs.flatMap allL) L' := by
  obtain ⟨hl, hs⟩ := hf
  refine callsA_ofS (lv := 2) (by decide) mx Tryz.call121 Tryz.func121 rfl Tryz.ntmps121 Tryz.results121 (by kernel_rfl) (by simp) fun lo => ?_
  repeat' (first | refine vcI ?_ | refine And.intro ?_ ?_ | (intro hq; (try simp at hq); (try (exfalso; omega)); (try (revert hq; intro))))
  refine loopS2 mx (by decide) (by kernel_rfl) (fun (k : Nat) (L : Hp) => k ≤ fs.length ∧ Inv ((fs.take k).flatMap allL) L) (fun k L => [(9, .int .i64 k), (8, .int .i64 fs.length), (0, .sref .loop id v), (1, .fptr 1 (fun _ => dfs fs) 0)]) (fun k L => L) (fun k L => fs.length - k) 0 L0 ⟨by simp, by simpa using h0⟩ ⟨by ((repeat' apply And.intro) <;> (first | exact True.intro | exact NEq.refl _ | (refine NEq.int ?_; first | exact rfl | omega | (rw [wrapI (by omega)]; first | exact rfl | omega)))), .nodup (hnd _ _ h0), .rfl'⟩ ?_
  rintro k L nv ⟨hk, hI⟩
  repeat' (first | refine vcI ?_ | refine And.intro ?_ ?_ | (intro hq; (try simp at hq); (try (exfalso; omega)); (try (revert hq; intro))))
  · rename_i hlt
    refine YieldS.mono (hst _ _ _ _ _ _ hI (.self (fs.getD (k : Int).toNat default))) ?_
    rintro y L1 nv1 ⟨rfl, hI1⟩
    repeat' (first | refine vcI ?_ | refine And.intro ?_ ?_ | (intro hq; (try simp at hq); (try (exfalso; omega)); (try (revert hq; intro))))
    · refine YieldS.mono (hst _ _ _ _ _ _ hI1 (.holder (fs.getD (k : Int).toNat default))) ?_
      rintro y L2 nv2 ⟨rfl, hI2⟩
      have hm := hs _ (getD_mem default hlt)
      repeat' (first | refine vcI ?_ | refine And.intro ?_ ?_ | (intro hq; (try simp at hq); (try (exfalso; omega)); (try (revert hq; intro))))
      refine loopS2 mx (by decide) (by kernel_rfl) (fun (j : Nat) (L : Hp) => j ≤ (fs.getD (k : Int).toNat default).vars.length ∧ Inv ((fs.take k).flatMap allL ++ [(fs.getD (k : Int).toNat default).self] ++ [(fs.getD (k : Int).toNat default).holder] ++ (fs.getD (k : Int).toNat default).vars.take j) L) (fun j L => [(36, .int .i64 j), (35, .int .i64 (fs.getD (k : Int).toNat default).vars.length), (3, .int .i64 k), (4, .fptr 18 (fun o => (dfl (fs.getD (k : Int).toNat default)).getD o .undef) 0), (9, .int .i64 k), (8, .int .i64 fs.length), (0, .sref .loop id v), (1, .fptr 1 (fun _ => dfs fs) 0)]) (fun j L => L) (fun j L => (fs.getD (k : Int).toNat default).vars.length - j) 0 L2 ⟨by simp, by simpa using hI2⟩ ⟨by ((repeat' apply And.intro) <;> (first | exact True.intro | exact NEq.refl _ | (refine NEq.int ?_; first | exact rfl | omega | (rw [wrapI (by omega)]; first | exact rfl | omega)))), .nodup (hnd _ _ hI2), .rfl'⟩ ?_
      rintro j L nv ⟨hj, hI⟩
      repeat' (first | refine vcI ?_ | refine And.intro ?_ ?_ | (intro hq; (try simp at hq); (try (exfalso; omega)); (try (revert hq; intro))))
      · rename_i hjl
        show (j : Int) < (((fs[k]?.getD default).vars.length : Nat) : Int)
        omega
      · rename_i hjl0
        have hjl : j < (fs.getD (k : Int).toNat default).vars.length := hjl0
        refine YieldS.mono (hst _ _ _ _ _ _ hI (.elem ((fs.getD (k : Int).toNat default).vars.getD (j : Int).toNat default))) ?_
        rintro y L3 nv3 ⟨rfl, hI3⟩
        repeat' (first | refine vcI ?_ | refine And.intro ?_ ?_ | (intro hq; (try simp at hq); (try (exfalso; omega)); (try (revert hq; intro))))
        have hI4 : Inv ((fs.take k).flatMap allL ++ [(fs.getD (k : Int).toNat default).self] ++ [(fs.getD (k : Int).toNat default).holder] ++ (fs.getD (k : Int).toNat default).vars.take (j + 1)) L3 := by
          rw [take_succD default hjl, ← List.append_assoc]; exact hI3
        exact Exists.intro (j + 1, L3) ⟨⟨by omega, hI4⟩, (by first | omega | (dsimp only; omega)), ⟨⟨(by refine NEq.int ?_; first | exact rfl | omega | (rw [wrapI (by omega)]; first | exact rfl | omega)), .refl _, .refl _, .refl _, .refl _, .refl _, .refl _, .refl _, trivial⟩, .nodup (hnd _ _ hI4), .rfl'⟩⟩
      · rename_i hjl0 _
        have hjl : (fs.getD (k : Int).toNat default).vars.length ≤ j := hjl0
        obtain rfl : j = (fs.getD (k : Int).toNat default).vars.length := by omega
        rw [List.take_length] at hI
        repeat' (first | refine vcI ?_ | refine And.intro ?_ ?_ | (intro hq; (try simp at hq); (try (exfalso; omega)); (try (revert hq; intro))))
        refine loopS2 mx (by decide) (by kernel_rfl) (fun (j : Nat) (L : Hp) => j ≤ (fs.getD (k : Int).toNat default).stack.length ∧ Inv ((fs.take k).flatMap allL ++ [(fs.getD (k : Int).toNat default).self] ++ [(fs.getD (k : Int).toNat default).holder] ++ (fs.getD (k : Int).toNat default).vars ++ (fs.getD (k : Int).toNat default).stack.take j) L) (fun j L => [(55, .int .i64 j), (54, .int .i64 (fs.getD (k : Int).toNat default).stack.length), (3, .int .i64 k), (4, .fptr 18 (fun o => (dfl (fs.getD (k : Int).toNat default)).getD o .undef) 0), (9, .int .i64 k), (8, .int .i64 fs.length), (0, .sref .loop id v), (1, .fptr 1 (fun _ => dfs fs) 0)]) (fun j L => L) (fun j L => (fs.getD (k : Int).toNat default).stack.length - j) 0 L ⟨by simp, by simpa using hI⟩ ⟨by ((repeat' apply And.intro) <;> (first | exact True.intro | exact NEq.refl _ | (refine NEq.int ?_; first | exact rfl | omega | (rw [wrapI (by omega)]; first | exact rfl | omega)))), .nodup (hnd _ _ hI), .rfl'⟩ ?_
        rintro j L nv ⟨hj2, hI⟩
        repeat' (first | refine vcI ?_ | refine And.intro ?_ ?_ | (intro hq; (try simp at hq); (try (exfalso; omega)); (try (revert hq; intro))))
        · rename_i hjl
          show (j : Int) < (((fs[k]?.getD default).stack.length : Nat) : Int)
          omega
        · rename_i hjl0
          have hjl : j < (fs.getD (k : Int).toNat default).stack.length := hjl0
          refine YieldS.mono (hst _ _ _ _ _ _ hI (.elem ((fs.getD (k : Int).toNat default).stack.getD (j : Int).toNat default))) ?_
          rintro y L3 nv3 ⟨rfl, hI3⟩
          repeat' (first | refine vcI ?_ | refine And.intro ?_ ?_ | (intro hq; (try simp at hq); (try (exfalso; omega)); (try (revert hq; intro))))
          have hI4 : Inv ((fs.take k).flatMap allL ++ [(fs.getD (k : Int).toNat default).self] ++ [(fs.getD (k : Int).toNat default).holder] ++ (fs.getD (k : Int).toNat default).vars ++ (fs.getD (k : Int).toNat default).stack.take (j + 1)) L3 := by
            rw [take_succD default hjl, ← List.append_assoc]; exact hI3
          exact Exists.intro (j + 1, L3) ⟨⟨by omega, hI4⟩, (by first | omega | (dsimp only; omega)), ⟨⟨(by refine NEq.int ?_; first | exact rfl | omega | (rw [wrapI (by omega)]; first | exact rfl | omega)), .refl _, .refl _, .refl _, .refl _, .refl _, .refl _, .refl _, trivial⟩, .nodup (hnd _ _ hI4), .rfl'⟩⟩
        · rename_i hjl0
          have hjl : (fs.getD (k : Int).toNat default).stack.length ≤ j := hjl0
          obtain rfl : j = (fs.getD (k : Int).toNat default).stack.length := by omega
          rw [List.take_length] at hI
          repeat' (first | refine vcI ?_ | refine And.intro ?_ ?_ | (intro hq; (try simp at hq); (try (exfalso; omega)); (try (revert hq; intro))))
          have hI4 : Inv ((fs.take (k + 1)).flatMap allL) L := by
            rw [take_succD default hlt, List.flatMap_append]
            simpa [allL] using hI
          exact Exists.intro (k + 1, L) ⟨⟨by omega, hI4⟩, (by first | omega | (dsimp only; omega)), ⟨⟨(by refine NEq.int ?_; first | exact rfl | omega | (rw [wrapI (by omega)]; first | exact rfl | omega)), .refl _, .refl _, .refl _, trivial⟩, .nodup (hnd _ _ hI4), .rfl'⟩⟩
  · rename_i hlt
    obtain rfl : k = fs.length := by omega
    rw [List.take_length] at hI
    exact ⟨.tup [], L, hI, .refl _, .nodup (hnd _ _ hI), .rfl'⟩
end Go.Ab
namespace Go.Proofs
open Go.Shelf
def Tryz.lays189_ren : Go.Shelf.Ren := ⟨fun | 189 => 84 | 125 => 117 | 257 => 116 | 128 => 135 | 129 => 136 | 294 => 126 | 295 => 127 | 296 => 128 | 297 => 129 | 298 => 130 | 299 => 131 | 216 => 132 | 300 => 133 | 301 => 134 | 328 => 138 | 329 => 139 | 330 => 140 | 331 => 141 | 332 => 142 | 215 => 143 | 343 => 144 | n => n, fun | 28 => 35 | 3 => 3 | 46 => 143 | 0 => 0 | 51 => 170 | 53 => 66 | 4 => 4 | 183 => 182 | 182 => 181 | 131 => 187 | 5 => 5 | 9 => 9 | 218 => 192 | 222 => 196 | 228 => 198 | 229 => 199 | n => n, fun | n => n⟩
theorem Tryz.lays189 : Go.Proofs.Lays.n189 Tryz.prog Tryz.lays189_ren := {
  mixed := by kernel_rfl
  f125 := Tryz.func117.trans (congrArg some (by kernel_rfl))
  f128 := Tryz.func135.trans (congrArg some (by kernel_rfl))
  f129 := Tryz.func136.trans (congrArg some (by kernel_rfl))
  f189 := Tryz.func84.trans (congrArg some (by kernel_rfl))
  f215 := Tryz.func143.trans (congrArg some (by kernel_rfl))
  f216 := Tryz.func132.trans (congrArg some (by kernel_rfl))
  f257 := Tryz.func116.trans (congrArg some (by kernel_rfl))
  f294 := Tryz.func126.trans (congrArg some (by kernel_rfl))
  f295 := Tryz.func127.trans (congrArg some (by kernel_rfl))
  f296 := Tryz.func128.trans (congrArg some (by kernel_rfl))
  f297 := Tryz.func129.trans (congrArg some (by kernel_rfl))
  f298 := Tryz.func130.trans (congrArg some (by kernel_rfl))
  f299 := Tryz.func131.trans (congrArg some (by kernel_rfl))
  f300 := Tryz.func133.trans (congrArg some (by kernel_rfl))
  f301 := Tryz.func134.trans (congrArg some (by kernel_rfl))
  f328 := Tryz.func138.trans (congrArg some (by kernel_rfl))
  f329 := Tryz.func139.trans (congrArg some (by kernel_rfl))
  f330 := Tryz.func140.trans (congrArg some (by kernel_rfl))
  f331 := Tryz.func141.trans (congrArg some (by kernel_rfl))
  f332 := Tryz.func142.trans (congrArg some (by kernel_rfl))
  f343 := Tryz.func144.trans (congrArg some (by kernel_rfl))
  t0 := Tryz.underlying0
  a0 := Tryz.isAgg0
  z0 := Tryz.sizeOf0
  v0 := Tryz.zeroValue0
  t3 := Tryz.underlying3
  a3 := Tryz.isAgg3
  z3 := Tryz.sizeOf3
  v3 := Tryz.zeroValue3
  t4 := Tryz.underlying4
  a4 := Tryz.isAgg4
  z4 := Tryz.sizeOf4
  v4 := Tryz.zeroValue4
  t5 := Tryz.underlying5
  a5 := Tryz.isAgg5
  z5 := Tryz.sizeOf5
  v5 := Tryz.zeroValue5
  t9 := Tryz.underlying9
  a9 := Tryz.isAgg9
  z9 := Tryz.sizeOf9
  v9 := Tryz.zeroValue9
  t28 := Tryz.underlying35
  a28 := Tryz.isAgg35
  z28 := Tryz.sizeOf35
  v28 := Tryz.zeroValue35
  t46 := Tryz.underlying143
  a46 := Tryz.isAgg143
  z46 := Tryz.sizeOf143
  v46 := Tryz.zeroValue143
  t51 := Tryz.underlying170
  a51 := Tryz.isAgg170
  z51 := Tryz.sizeOf170
  v51 := Tryz.zeroValue170
  t53 := Tryz.underlying66
  a53 := Tryz.isAgg66
  z53 := Tryz.sizeOf66
  v53 := Tryz.zeroValue66
  t131 := Tryz.underlying187
  a131 := Tryz.isAgg187
  z131 := Tryz.sizeOf187
  v131 := Tryz.zeroValue187
  t182 := Tryz.underlying181
  a182 := Tryz.isAgg181
  z182 := Tryz.sizeOf181
  v182 := Tryz.zeroValue181
  t183 := Tryz.underlying182
  a183 := Tryz.isAgg182
  z183 := Tryz.sizeOf182
  v183 := Tryz.zeroValue182
  t218 := Tryz.underlying192
  a218 := Tryz.isAgg192
  z218 := Tryz.sizeOf192
  v218 := Tryz.zeroValue192
  t222 := Tryz.underlying196
  a222 := Tryz.isAgg196
  z222 := Tryz.sizeOf196
  v222 := Tryz.zeroValue196
  t228 := Tryz.underlying198
  a228 := Tryz.isAgg198
  z228 := Tryz.sizeOf198
  v228 := Tryz.zeroValue198
  t229 := Tryz.underlying199
  a229 := Tryz.isAgg199
  z229 := Tryz.sizeOf199
  v229 := Tryz.zeroValue199 }
end Go.Proofs
namespace Go.Ab
open Go.Proofs
set_option maxRecDepth 100000
set_option maxHeartbeats 1000000

theorem growB {w : World} {B : Blocks} {H : Roots} {V : Nat → Prop} (hr : HR w B H V) (os : Array Obj) : HR (Go.Sort.grow w os) B H V ∧ Mono w B H V (Go.Sort.grow w os) B H V := by
  have hold : ∀ r p b, B r p = some b → b < w.heap.size := fun r p b h => (hr.dom r p b h).1
  have hm : Mono w B H V (Go.Sort.grow w os) B H V := by
    refine ⟨by simp, fun k hk hf => ⟨hf, Go.Sort.heap_grow_old w os hk⟩, fun r p b _ hb => ⟨hb, Go.Sort.heap_grow_old w os (hold _ _ _ hb)⟩, fun r p b hb => .inr ⟨r, p, hb⟩, fun k s hs => ?_, fun _ h => h, fun r rt h => .inr ⟨rt, h, rfl, fun _ _ h => ⟨h, rfl⟩⟩, rfl, rfl, rfl⟩
    have hk := shape_lt hs
    simp only [World.shape?] at hs ⊢
    rw [Go.Sort.heap_grow_old w os hk]
    exact hs
  refine ⟨⟨fun r rt h => (hr.root r rt h).mono hm (fun t s _ => ⟨rfl, fun b hb => Go.Sort.heap_grow_old w os (hold _ _ _ hb)⟩), hr.ver, fun r p b h => ?_, hr.lev, hr.inj⟩, hm⟩
  obtain ⟨h1, h2⟩ := hr.dom r p b h
  exact ⟨by simp; omega, h2⟩
theorem aheadB {w : World} {B : Blocks} {H : Roots} {V : Nat → Prop} (hr : HR w B H V) (n : Nat) : HR (Go.Sort.ahead w n) B H V ∧ Mono w B H V (Go.Sort.ahead w n) B H V := by
  have hm : Mono w B H V (Go.Sort.ahead w n) B H V := ⟨Nat.le_refl _, fun _ _ h => ⟨h, rfl⟩, fun _ _ _ _ h => ⟨h, rfl⟩, fun r p _ h => .inr ⟨r, p, h⟩, fun _ _ h => h, fun _ h => h, fun _ rt h => .inr ⟨rt, h, rfl, fun _ _ h => ⟨h, rfl⟩⟩, rfl, rfl, rfl⟩
  exact ⟨⟨fun r rt h => (hr.root r rt h).mono hm (fun _ _ _ => ⟨rfl, fun _ _ => rfl⟩), hr.ver, hr.dom, hr.lev, hr.inj⟩, hm⟩

theorem putRow_putBlock {w : World} {b : Nat} {cs : Array Value} {e : TypeId} (hh : w.heap[b]? = some (.cells cs e (0, 0))) (off : Nat) (zs : List Int) (hfit : off + zs.length ≤ cs.size) :
    Go.Sort.putRow (Value.int .i64) w b off zs.toArray = World.putBlock w b (putCells cs off (zs.map (Value.int .i64))) := by
  unfold Go.Sort.putRow Go.Sort.mapBlock World.putBlock
  congr 1
  apply Array.ext_getElem?
  intro k
  simp only [Array.getElem?_modify]
  by_cases hk : b = k
  · subst hk
    simp only [if_true, hh, Option.map_some, Go.Sort.onCells]
    congr 2
    apply Array.ext_getElem?
    intro j
    symm
    have hsz := putCells_size cs off (zs.map (Value.int .i64))
    by_cases hj : j < cs.size
    · have h1 := putCells_getD cs off (zs.map (Value.int .i64)) j (by simpa using hfit)
      rw [Array.getD_eq_getD_getElem?, Array.getElem?_eq_getElem (by rw [hsz]; exact hj), Option.getD_some] at h1
      rw [Array.getElem?_eq_getElem (by rw [hsz]; exact hj), h1]
      simp only [Go.Sort.putCells, Array.getElem?_mapIdx, Array.getElem?_eq_getElem hj, Option.map_some, List.size_toArray, List.length_map]
      congr 1
      by_cases c : off ≤ j ∧ j < off + zs.length
      · rw [if_pos c, if_pos c]
        have hlt : j - off < zs.length := by omega
        simp [hlt]
      · rw [if_neg c, if_neg c]
        simp [Array.getD_eq_getD_getElem?, hj]
    · rw [Array.getElem?_eq_none (by rw [hsz]; omega), Array.getElem?_eq_none (by simp [Go.Sort.putCells]; omega)]
  · simp [hk]

def sortI (zs : List Int) : List Int := zs.mergeSort fun x y => decide (x ≤ y)
theorem sortI_len (zs : List Int) : (sortI zs).length = zs.length := List.length_mergeSort ..

theorem sort_spec (zs : List Int) (hz : zs.length < 1099511627776) (r : RId) (v nv : Nat) (S : Hp) : CallsA Tryz.prog 84 [.ref r v [] 1 0 zs.length] ([(r, ⟨v, oints zs⟩)] ++ S) nv
    fun x hp' nv' => ∃ L', hp' = L' ++ S ∧ (x = .tup [] ∧ L' = [(r, ⟨v, oints (sortI zs)⟩)]) := by
  refine ⟨Tryz.call84, fun w B cs hr ha => ?_⟩
  have hsz : cs.size = 1 := by have := ha.len; simpa using this.symm
  obtain ⟨vx, rfl⟩ : ∃ vx, cs = #[vx] := ⟨cs[0], by apply Array.ext <;> simp_all⟩
  have hv := ha.val 0 (by simp)
  simp only [List.getD_cons_zero, Array.getD_eq_getD_getElem?] at hv
  have hH : lkH ([(r, (⟨v, oints zs⟩ : Root))] ++ S) r = some ⟨v, oints zs⟩ := by simp [lkH]
  have stay : sortI zs = zs → ∀ (p : Option Addr) cap, vx = .slice p 0 cap → Calls Tryz.prog 84 #[vx] w fun e w' => ∃ val B' res hp' nv', e = .returned val ∧ (∃ L', hp' = L' ++ S ∧ (res = .tup [] ∧ L' = [(r, (⟨v, oints (sortI zs)⟩ : Root))])) ∧ VR w' B' (lkH hp') (· < nv') res val ∧ HR w' B' (lkH hp') (· < nv') ∧ Mono w B (lkH ([(r, (⟨v, oints zs⟩ : Root))] ++ S)) (· < nv) w' B' (lkH hp') (· < nv') := by
    intro he p cap hvx
    subst hvx
    refine (Any.slices_Sort_int_none Tryz.lays189 p cap w).mono fun e w' ⟨h1, h2⟩ => ?_
    subst h1 h2
    rw [he]
    exact ⟨_, B, .tup [], _, nv, rfl, ⟨_, rfl, rfl, rfl⟩, .tup (by simp) (fun i hi => absurd hi (by simp)), hr, Mono.refl ..⟩
  have hsort0 : zs.length = 0 → sortI zs = zs := fun h => by
    have : zs = [] := List.eq_nil_of_length_eq_zero h
    subst this; exact List.mergeSort_nil
  have hvx : ∃ vx', vx' = vx ∧ VR w B (lkH ([(r, (⟨v, oints zs⟩ : Root))] ++ S)) (· < nv) (.ref r v [] 1 0 zs.length) vx' := ⟨vx, rfl, by simpa using hv⟩
  obtain ⟨vx', hvx', hv'⟩ := hvx
  cases hv' with
  | ref hver h =>
    obtain ⟨n', hat, hlo, hhi, hx⟩ := h _ hH rfl
    have hn' : n' = zs.length := by
      have := hat.2
      simp only [getAt, oints, shapeOf, Option.some.injEq, Prod.mk.injEq, true_and] at this
      exact this.symm
    subst hn'
    rcases hx with ⟨b, A, cap, e, m, hB, hvv, hcap, hA, hsh, hm⟩ | ⟨hB, ⟨A, hvv⟩, h0⟩
    · rw [Nat.sub_zero] at hvv
      by_cases h0 : zs.length = 0
      · rw [h0] at hvv
        exact stay (hsort0 h0) (some A) cap (hvx' ▸ hvv)
      · have hA' := hA (by omega)
        rw [Nat.zero_mul] at hA'
        subst hA'
        have hroot := hr.root r _ hH
        unfold oints at hroot
        generalize hN : zs.length = N at hroot
        cases hroot with
        | own hT =>
          cases hT with
          | nil hB' => exact absurd hN h0
          | leaf hl => cases hl
          | @own _ _ _ cap' b' Ad _ cs0 e' hAd hB' hh hc hn hmx hcells =>
            subst hN
            rw [hB] at hB'
            cases hB'
            have hcell : ∀ j, j < zs.length → cs0[j]? = some (Value.int .i64 (zs.getD j 0)) := fun j hj => by
              have h1 := hcells j 0 hj (by decide)
              have h2 : cs0.getD (j * 1 + 0) Go.undef = Value.int .i64 (zs.getD j 0) := by
                generalize cs0.getD (j * 1 + 0) Go.undef = u at h1
                cases h1 with
                | leaf hl => cases hl; rfl
              have hlt : j < cs0.size := by have := hc.1; omega
              rw [Nat.mul_one, Nat.add_zero, Array.getD_eq_getD_getElem?, Array.getElem?_eq_getElem hlt, Option.getD_some] at h2
              rw [Array.getElem?_eq_getElem hlt, h2]
            have hfit : 0 + zs.length ≤ cs0.size := by have := hc.1; omega
            have hHolds : Go.Sort.Holds (Value.int .i64) w b 0 zs.toArray := fun j hj => by
              have hj' : j < zs.length := by simpa using hj
              refine ⟨?_, ?_⟩
              · simp only [World.cell?, hh, Nat.zero_add]
                rw [if_neg (by simp), hcell j hj']
                simp [List.getD_eq_getElem?_getD, hj']
              · simp [World.frozen?, hh]
            subst hvx'
            rw [hvv]
            refine (Any.slices_Sort_int Tryz.lays189 b 0 cap zs w hHolds (lt_of_get hh) (by omega)).mono fun e w' ⟨h1, n, os, h2⟩ => ?_
            have hh2 : (Go.Sort.ahead w n).heap[b]? = some (.cells cs0 e' (0, 0)) := hh
            have h3 : w' = Go.Sort.grow (World.putBlock (Go.Sort.ahead w n) b (putCells cs0 0 ((sortI zs).map (Value.int .i64)))) os := by
              rw [h2, putRow_putBlock hh2 0 _ (by rw [List.length_mergeSort]; exact hfit)]; rfl
            obtain ⟨hr1, hm1⟩ := aheadB hr n
            obtain ⟨hr2, hm2⟩ := rows_put hr1 hH (p := []) (sz := 1) (n := zs.length) (f := fun i _ => .int .i64 (zs.getD i 0)) hat rfl hB hh2 (by simpa using hfit) (lo := 0) (k := zs.length) (by simp) (c := fun i _ => .int .i64 ((sortI zs).getD i 0)) (vs := (sortI zs).map (Value.int .i64)) (by simp [sortI_len]) (fun u hu => by
                obtain ⟨z, _, rfl⟩ := List.mem_map.1 hu; rfl) (fun i o hi ho => by
                obtain rfl : o = 0 := by omega
                have hi' : i < (sortI zs).length := by rw [sortI_len]; exact hi
                have : ((sortI zs).map (Value.int .i64)).getD (i * 1 + 0) Go.undef = Value.int .i64 ((sortI zs).getD i 0) := by
                  simp [hi']
                rw [this]
                exact .int _ _) (fun i o _ _ _ => rfl)
            rw [Nat.zero_mul] at hr2 hm2
            obtain ⟨hr3, hm3⟩ := growB hr2 os
            rw [← h3] at hr3 hm3
            have hmono := (hm1.trans hm2).trans hm3
            have hle : Le [(0, .tup [])] (setH ([(r, (⟨v, oints zs⟩ : Root))] ++ S) r (some ⟨v, updAt (setRows 0 zs.length fun i _ => .int .i64 ((sortI zs).getD i 0)) (oints zs) []⟩)) nv [(0, .tup [])] ([(r, (⟨v, oints (sortI zs)⟩ : Root))] ++ S) nv := by
              refine ⟨fun _ => .inr (.refl _), fun r' rt' h' => ?_, Nat.le_refl _⟩
              simp only [List.singleton_append, lkH] at h'
              by_cases e : r' = r
              · rw [if_pos e] at h'
                cases h'
                refine ⟨⟨v, updAt (setRows 0 zs.length fun i _ => .int .i64 ((sortI zs).getD i 0)) (oints zs) []⟩, by rw [lookH_setH, if_pos e], rfl, ?_⟩
                show NEq (.own 1 zs.length fun i o => if 0 ≤ i ∧ i < 0 + zs.length then .int .i64 ((sortI zs).getD (i - 0) 0) else .int .i64 (zs.getD i 0)) _
                refine NEq.owns rfl (by rw [sortI_len]) fun i o hi ho => ?_
                rw [if_pos ⟨Nat.zero_le _, by rw [sortI_len] at hi; omega⟩, Nat.sub_zero]
                exact .refl _
              · rw [if_neg e] at h'
                exact ⟨rt', by rw [lookH_setH, if_neg e]; simp only [List.singleton_append, lkH, if_neg e]; exact h', rfl, .refl _⟩
            have hs : SR ⟨1, 0⟩ [(0, .tup [])] _ nv w' B { tmps := #[.tuple #[]], defers := [] } := ⟨⟨fun t => by
              simp only [lk]
              split
              · rename_i h0; subst h0; exact .tup (by simp) (fun i hi => absurd hi (by simp))
              · exact .undef _, rfl, .nil (Nat.zero_le _)⟩, hr3⟩
            obtain ⟨g1, g2⟩ := hle.sound hs
            have g3 := g1.tm.val 0
            exact ⟨.tuple #[], _, .tup [], _, nv, h1, ⟨_, rfl, rfl, rfl⟩, by simpa [lk] using g3, g1.hp, hmono.trans g2⟩
    · have h0' : zs.length = 0 := h0
      exact stay (hsort0 h0') A 0 (hvx' ▸ hvv)
end Go.Ab
namespace Go.Ab
open Go.Proofs
set_option maxRecDepth 100000
set_option maxHeartbeats 1000000

def omS (ks : List Int) : PV := .omap (encS ks) (List.range ks.length) ks.length
theorem om_ins (ks : List Int) (n : Int) : PV.omap (updE (encS ks) (.int .i64 n) (.bool true)) (updBs (encS ks) (List.range ks.length) ks.length (.int .i64 n)) (updCl (encS ks) ks.length (.int .i64 n)) = omS (insS ks n) := by
  unfold omS
  rw [upd_enc]
  unfold updBs updCl
  rw [find_enc]
  unfold insS
  by_cases h : n ∈ ks
  · simp only [if_pos h]
  · simp only [if_neg h, List.length_append, List.length_singleton, List.range_succ]
def insV (ks : List Int) (v : DV) : List Int := if v.k = 1 then insS ks v.n else ks
def insF (ks : List Int) (f : DF) : List Int := if f.act = 0 then ks else insS ks (IntKind.i64.wrap (f.act - 1))
def symKs (fs : List DF) : List Int := fs.foldl insF ((fs.flatMap allL).foldl insV [])

theorem insS_nodup {ks : List Int} {n : Int} (h : ks.Nodup) : (insS ks n).Nodup := by
  unfold insS
  split
  · exact h
  · rename_i hn
    exact List.nodup_append.2 ⟨h, by simp, fun a ha b hb => by simp at hb; subst hb; exact fun e => hn (e ▸ ha)⟩
theorem insS_len (ks : List Int) (n : Int) : (insS ks n).length ≤ ks.length + 1 := by unfold insS; split <;> simp
theorem insV_nodup (l : List DV) : ∀ ks : List Int, ks.Nodup → (l.foldl insV ks).Nodup := by
  induction l with
  | nil => intro ks h; exact h
  | cons v l ih => intro ks h; exact ih _ (by unfold insV; split; exact insS_nodup h; exact h)
theorem insF_nodup (l : List DF) : ∀ ks : List Int, ks.Nodup → (l.foldl insF ks).Nodup := by
  induction l with
  | nil => intro ks h; exact h
  | cons v l ih => intro ks h; exact ih _ (by unfold insF; split; exact h; exact insS_nodup h)
theorem symKs_nodup (fs : List DF) : (symKs fs).Nodup := insF_nodup _ _ (insV_nodup _ _ List.nodup_nil)
theorem insV_len (l : List DV) : ∀ ks : List Int, (l.foldl insV ks).length ≤ ks.length + l.length := by
  induction l with
  | nil => intro ks; simp
  | cons v l ih =>
    intro ks
    have h1 := ih (insV ks v)
    have h2 : (insV ks v).length ≤ ks.length + 1 := by unfold insV; split; exact insS_len _ _; omega
    simp only [List.foldl_cons, List.length_cons]; omega
theorem insF_len (l : List DF) : ∀ ks : List Int, (l.foldl insF ks).length ≤ ks.length + l.length := by
  induction l with
  | nil => intro ks; simp
  | cons v l ih =>
    intro ks
    have h1 := ih (insF ks v)
    have h2 : (insF ks v).length ≤ ks.length + 1 := by unfold insF; split; omega; exact insS_len _ _
    simp only [List.foldl_cons, List.length_cons]; omega
theorem flat_len (fs : List DF) : (fs.flatMap allL).length = sumL (fun f => f.vars.length + f.stack.length) fs + 2 * fs.length := by
  induction fs with
  | nil => rfl
  | cons f fs ih =>
    rw [List.flatMap_cons, List.length_append, ih, allL_len]
    simp only [sumL, List.map_cons, List.sum_cons, List.length_cons]; omega
theorem symKs_len (fs : List DF) (hN : frN fs ≤ 6000) : (symKs fs).length ≤ 30000 := by
  have h1 := insF_len fs ((fs.flatMap allL).foldl insV [])
  have h2 := insV_len (fs.flatMap allL) []
  have h3 := flat_len fs
  unfold frN at hN
  unfold symKs
  simp only [List.length_nil] at h2
  omega

theorem nodup_len {α : Type} [DecidableEq α] : ∀ {l m : List α}, l.Nodup → (∀ x ∈ l, x ∈ m) → l.length ≤ m.length
  | [], m, _, _ => by simp
  | x :: l, m, h, hs => by
    obtain ⟨hx, hl⟩ := List.nodup_cons.1 h
    have hm := hs x (by simp)
    have h1 := nodup_len (l := l) (m := m.erase x) hl fun y hy => (List.mem_erase_of_ne (fun e => hx (by subst e; exact hy))).2 (hs y (List.mem_cons_of_mem _ hy))
    rw [List.length_erase_of_mem hm] at h1
    have h2 := List.length_pos_of_mem hm
    rw [List.length_cons]; omega
theorem seen_len {n : Nat} {seen : List Nat} (h1 : seen.Nodup) (h2 : ∀ x ∈ seen, x < n) : seen.length ≤ n := by
  have := nodup_len (m := List.range n) h1 fun x hx => List.mem_range.2 (h2 x hx)
  simpa using this

theorem mem_leftI {n i : Nat} {seen : List Nat} (h : i ∈ leftI (List.range n) seen) : i < n ∧ i ∉ seen := by
  unfold leftI at h
  rw [List.length_range, List.mem_filter, List.mem_range] at h
  refine ⟨h.1, fun hs => ?_⟩
  have := h.2
  rw [show (List.range n).getD i 0 = i by simp [h.1]] at this
  simp [hs] at this
theorem seen_perm {ks : List Int} {seen : List Nat} (h1 : seen.Nodup) (h2 : ∀ x ∈ seen, x < ks.length) (h : leftI (List.range ks.length) seen = []) : (seen.map fun b => ks.getD b 0).Perm ks := by
  have hmem : ∀ i, i < ks.length → i ∈ seen := fun i hi => by
    by_cases c : i ∈ seen
    · exact c
    · have : i ∈ leftI (List.range ks.length) seen := by
        unfold leftI
        rw [List.length_range, List.mem_filter, List.mem_range]
        refine ⟨hi, ?_⟩
        rw [show (List.range ks.length).getD i 0 = i by simp [hi]]
        simp [c]
      rw [h] at this; cases this
  have hp : seen.Perm (List.range ks.length) := (List.perm_ext_iff_of_nodup h1 List.nodup_range).2 fun a => ⟨fun ha => List.mem_range.2 (h2 a ha), fun ha => hmem a (List.mem_range.1 ha)⟩
  have hm := hp.map fun b => ks.getD b 0
  have e : (List.range ks.length).map (fun b => ks.getD b 0) = ks := by
    apply List.ext_getElem
    · simp
    · intro i h1 h2
      simp at h1
      simp [h2]
  rwa [e] at hm
theorem sortI_perm {l m : List Int} (h : l.Perm m) : sortI l = sortI m := by
  have tr : ∀ a b c : Int, decide (a ≤ b) = true → decide (b ≤ c) = true → decide (a ≤ c) = true := fun a b c h1 h2 => by simp at *; omega
  have tot : ∀ a b : Int, (decide (a ≤ b) || decide (b ≤ a)) = true := fun a b => by simp; omega
  refine List.Perm.eq_of_pairwise (le := fun a b => a ≤ b) (fun a b _ _ h1 h2 => Int.le_antisymm h1 h2) ?_ ?_ (((List.mergeSort_perm l _).trans h).trans (List.mergeSort_perm m _).symm)
  · exact (List.pairwise_mergeSort tr tot l).imp fun h => by simpa using h
  · exact (List.pairwise_mergeSort tr tot m).imp fun h => by simpa using h
theorem sort_at {P : Program} {f : FuncId} {r : RId} {v n m : Nat} {L : Hp} {nv : Nat} {R : PV → Hp → Nat → Prop} (e : n = m) (h : CallsA P f [.ref r v [] 1 0 m] L nv R) : CallsA P f [.ref r v [] 1 0 n] L nv R := e ▸ h

theorem entry_enc {ks : List Int} {seen : List Nat} {i : Nat} (hi : i < ks.length) : entryE (encS ks) (List.range ks.length) (seen ++ [i]) = some (.tup [.int .i64 (ks.getD i 0), .bool true]) := by
  have h1 : (List.range ks.length).idxOf? i = some i := by
    rw [List.idxOf?, List.findIdx?_eq_some_iff_getElem]
    refine ⟨by simpa using hi, by simp, fun j hj => ?_⟩
    simp; omega
  unfold entryE
  rw [List.getLast?_append]
  simp [h1, encS, hi]

/-- A loop over the values of frames. -/
theorem rangeValues {lv : Nat} {nt : FS} {S L : Hp} {tm : Tm} {nv : Nat} {Q : Post} {g : Operand} {ps : Array Tmp} {assign body : Code} (fs : List DF) (hf : fs.length ≤ 1048576 ∧ ∀ f ∈ fs, f.small)
    (hg : ev tm g = .func (.func 121) [] [.fptr 1 (fun _ => dfs fs) 0]) {σ : Type} (step : σ → DV → σ) (s0 : σ) (mem : σ → Hp)
    (hL : ∀ j, j ≠ (1, 1001) → lkH (mem s0) j = lkH L j) (hnd : ∀ s, (((1, 1001) : RId) :: (mem s).map (·.1)).Nodup)
    (hround : ∀ s x p i nv', VPtr p x → YieldS Tryz.prog S (1, 1001) nv [.int .i64 i, p] (((1, 1001), ⟨nv, .oloop ⟨.ready, none, nt.n, ps, assign, body⟩ (lk tm)⟩) :: mem s) nv'
      fun y L' _ => y = .bool true ∧ L' = ((1, 1001), ⟨nv, .oloop ⟨.ready, none, nt.n, ps, assign, body⟩ (lk tm)⟩) :: mem (step s x))
    (k : ∀ nv', delS (mem ((fs.flatMap allL).foldl step s0)) (1, 1001) fun L' => Q .normal tm (((1, 1001), ⟨nv, .oloop ⟨.exhausted, none, nt.n, ps, assign, body⟩ (lk tm)⟩) :: L') nv') :
    Ev Tryz.prog lv nt none (.rangeFunc g ps assign body) tm (L ++ S) nv (liftQ S Q) := by
  refine rangeS (1, 1001) (by decide) hg (fun _ hp' _ => ∃ L', hp' = L' ++ S ∧ L' = ((1, 1001), ⟨nv, .oloop ⟨.ready, none, nt.n, ps, assign, body⟩ (lk tm)⟩) :: mem ((fs.flatMap allL).foldl step s0)) (((1, 1001), ⟨nv, .oloop ⟨.ready, none, nt.n, ps, assign, body⟩ (lk tm)⟩) :: mem s0) (fun j => ?_) ?_ ?_
  · simp only [lkH]
    by_cases e : j = (1, 1001)
    · rw [if_pos e, if_pos e]
    · rw [if_neg e, if_neg e, hL j e]
  · refine values1_spec fs hf (1, 1001) nv (nv + 1) _ S (fun pre L => L = ((1, 1001), ⟨nv, .oloop ⟨.ready, none, nt.n, ps, assign, body⟩ (lk tm)⟩) :: mem (pre.foldl step s0)) rfl (fun p L h => by subst h; exact hnd _) fun pre L nv' p x i h hv => ?_
    subst h
    refine YieldS.mono (hround (pre.foldl step s0) x p i nv' hv) fun y L' nv2 ⟨h1, h2⟩ => ⟨h1, ?_⟩
    rw [List.foldl_append]
    exact h2
  · rintro res hp' nv' ⟨L', rfl, rfl⟩
    refine ⟨_, Rep.mk' S _, ?_⟩
    exact ⟨rfl, (fun h => by cases h), k nv'⟩

theorem symUses_spec (fs : List DF) (hf : fs.length ≤ 1048576 ∧ ∀ f ∈ fs, f.small) (hN : frN fs ≤ 6000) : CallsF Tryz.prog 61 [dfs fs] (ints (sortI (symKs fs))) := by
  refine callsF_ofS mx Tryz.call61 Tryz.func61 rfl Tryz.ntmps61 Tryz.results61 (by kernel_rfl) (by simp) fun lo => ?_
  repeat' (first | refine vcI ?_ | refine And.intro ?_ ?_ | (intro hq; (try simp at hq); (try (exfalso; omega)); (try (revert hq; intro))))
  refine Exists.intro (omS []) (And.intro rfl ?_)
  repeat' (first | refine vcI ?_ | refine And.intro ?_ ?_ | (intro hq; (try simp at hq); (try (exfalso; omega)); (try (revert hq; intro))))
  refine CallS.frozen (dfs fs) (copied_spec fs hf) (plainAll rfl) ?_
  repeat' (first | refine vcI ?_ | refine And.intro ?_ ?_ | (intro hq; (try simp at hq); (try (exfalso; omega)); (try (revert hq; intro))))
  refine CallS.frozen (.func (.func 121) [] [.fptr 1 (fun _ => dfs fs) 0]) (values_spec fs) (plainAll rfl) ?_
  refine lessS (tm' := [(13, .func (.func 121) [] [.fptr 1 (fun _ => dfs fs) 0]), (3, .ptr (1, 3) 2 [] 0 0), (0, dfs fs)]) (L' := [((1, 10), ⟨1, omS []⟩), ((1, 3), ⟨2, .obox 1 fun _ => .sref .map (1, 10) 1⟩)]) ⟨by ((repeat' apply And.intro) <;> (first | exact True.intro | exact NEq.refl _ | (refine NEq.int ?_; first | exact rfl | omega | (rw [wrapI (by omega)]; first | exact rfl | omega)))), ?_, .nil⟩ ?_
  · refine ⟨⟨rfl, .refl _⟩, ⟨rfl, .obox fun o ho => ?_⟩, trivial⟩
    obtain rfl : o = 0 := by have : o < 1 := ho; omega
    exact .refl _
  refine rangeValues fs hf ?_ insV [] (fun ks => [((1, 10), ⟨1, omS ks⟩), ((1, 3), ⟨2, .obox 1 fun _ => .sref .map (1, 10) 1⟩)]) ?_ ?_ ?_ ?_
  · rfl
  · intro j hj; rfl
  · intro s; simp
  · intro ks x p i nv' hp
    refine yieldS_of mx (lvb := 1) (by decide) rfl rfl rfl (by kernel_rfl) (by kernel_rfl) (by kernel_rfl) fun l lo => ?_
    cases hp with
    | self f =>
      repeat' (first | refine vcI ?_ | refine And.intro ?_ ?_ | (intro hq; (try simp at hq); (try (exfalso; omega)); (try (revert hq; intro))))
      · exact sorts_enc ks _
      · rename_i hk
        refine Exists.intro (omS (insS ks f.self.n)) (And.intro (om_ins ks _) ?_)
        have e : insS ks f.self.n = insV ks f.self := (if_pos hk).symm
        rw [e]
        exact ⟨rfl, rfl, rfl, rfl⟩
      · rename_i hk
        have e : ks = insV ks f.self := (if_neg hk).symm
        exact congrArg (fun t => _ :: [((1, 10), (⟨1, omS t⟩ : Root)), _]) e
    | holder f =>
      repeat' (first | refine vcI ?_ | refine And.intro ?_ ?_ | (intro hq; (try simp at hq); (try (exfalso; omega)); (try (revert hq; intro))))
      · exact sorts_enc ks _
      · rename_i hk
        refine Exists.intro (omS (insS ks f.holder.n)) (And.intro (om_ins ks _) ?_)
        have e : insS ks f.holder.n = insV ks f.holder := (if_pos hk).symm
        rw [e]
        exact ⟨rfl, rfl, rfl, rfl⟩
      · rename_i hk
        have e : ks = insV ks f.holder := (if_neg hk).symm
        exact congrArg (fun t => _ :: [((1, 10), (⟨1, omS t⟩ : Root)), _]) e
    | elem x =>
      repeat' (first | refine vcI ?_ | refine And.intro ?_ ?_ | (intro hq; (try simp at hq); (try (exfalso; omega)); (try (revert hq; intro))))
      · exact sorts_enc ks _
      · rename_i hk
        refine Exists.intro (omS (insS ks x.n)) (And.intro (om_ins ks _) ?_)
        have e : insS ks x.n = insV ks x := (if_pos hk).symm
        rw [e]
        exact ⟨rfl, rfl, rfl, rfl⟩
      · rename_i hk
        have e : ks = insV ks x := (if_neg hk).symm
        exact congrArg (fun t => _ :: [((1, 10), (⟨1, omS t⟩ : Root)), _]) e
  · intro nv'
    repeat' (first | refine vcI ?_ | refine And.intro ?_ ?_ | (intro hq; (try simp at hq); (try (exfalso; omega)); (try (revert hq; intro))))
    have hK0 : ∃ K0, K0 = (fs.flatMap allL).foldl insV [] := ⟨_, rfl⟩
    obtain ⟨K0, hK0⟩ := hK0
    refine loopS mx (by decide) (by kernel_rfl) (fun j : Nat => j ≤ fs.length) (fun j => [(28, .int .i64 j), (27, .int .i64 fs.length), (26, dfs fs), (3, .ptr (1, 3) 2 [] 0 0)]) (fun j => [((1, 10), ⟨1, omS ((fs.take j).foldl insF K0)⟩), ((1, 3), ⟨2, .obox 1 fun _ => .sref .map (1, 10) 1⟩)]) (fun j => fs.length - j) 0 (by simp) ⟨by ((repeat' apply And.intro) <;> (first | exact True.intro | exact NEq.refl _ | (refine NEq.int ?_; first | exact rfl | omega | (rw [wrapI (by omega)]; first | exact rfl | omega)))), ⟨⟨rfl, by rw [hK0]; exact .refl _⟩, ⟨rfl, .refl _⟩, trivial⟩, .nil⟩ ?_
    intro j nv hj
    repeat' (first | refine vcI ?_ | refine And.intro ?_ ?_ | (intro hq; (try simp at hq); (try (exfalso; omega)); (try (revert hq; intro))))
    · exact sorts_enc _ _
    · rename_i hjl hact
      have e : (fs.take (j + 1)).foldl insF K0 = insF ((fs.take j).foldl insF K0) (fs.getD (j : Int).toNat default) := foldl_take default _ _ hjl
      have e2 : insF ((fs.take j).foldl insF K0) (fs.getD (j : Int).toNat default) = insS ((fs.take j).foldl insF K0) (IntKind.i64.wrap ((fs.getD (j : Int).toNat default).act - 1)) := if_neg hact
      refine Exists.intro (omS ((fs.take (j + 1)).foldl insF K0)) (And.intro ((om_ins _ _).trans (congrArg omS (e.trans e2).symm)) ?_)
      repeat' (first | refine vcI ?_ | refine And.intro ?_ ?_ | (intro hq; (try simp at hq); (try (exfalso; omega)); (try (revert hq; intro))))
      exact Exists.intro (j + 1) ⟨by omega, (by first | omega | (dsimp only; omega)), ⟨⟨(by refine NEq.int ?_; first | exact rfl | omega | (rw [wrapI (by omega)]; first | exact rfl | omega)), .refl _, .refl _, .refl _, trivial⟩, ⟨⟨rfl, .refl _⟩, ⟨rfl, .refl _⟩, trivial⟩, .nil⟩⟩
    · rename_i hjl hact
      have e : (fs.take (j + 1)).foldl insF K0 = insF ((fs.take j).foldl insF K0) (fs.getD (j : Int).toNat default) := foldl_take default _ _ hjl
      have e2 : insF ((fs.take j).foldl insF K0) (fs.getD (j : Int).toNat default) = (fs.take j).foldl insF K0 := if_pos hact
      exact Exists.intro (j + 1) ⟨by omega, (by first | omega | (dsimp only; omega)), ⟨⟨(by refine NEq.int ?_; first | exact rfl | omega | (rw [wrapI (by omega)]; first | exact rfl | omega)), .refl _, .refl _, .refl _, trivial⟩, ⟨⟨rfl, NEq.of_eq (congrArg omS (e.trans e2).symm)⟩, ⟨rfl, .refl _⟩, trivial⟩, .nil⟩⟩
    · rename_i hjl
      obtain rfl : j = fs.length := by omega
      rw [List.take_length]
      have hks : ∃ ks, ks = fs.foldl insF K0 := ⟨_, rfl⟩
      obtain ⟨ks, hks⟩ := hks
      rw [← hks]
      have hnd : ks.Nodup := by rw [hks, hK0]; exact symKs_nodup fs
      have hkl : ks.length ≤ 30000 := by rw [hks, hK0]; exact symKs_len fs hN
      refine Exists.intro (PV.oiter (.sref .map (1, 10) 1) ks.length [] ks.length) (And.intro rfl ?_)
      refine ghostS0 8 (1, 1000) (by decide) 1 (fun _ _ => .undef) rfl rfl fun v => ?_
      refine loopS2 mx (by decide) (by kernel_rfl) (fun (seen : List Nat) (v : Nat) => seen.Nodup ∧ ∀ x ∈ seen, x < ks.length) (fun seen v => [(8, .ref (1, 1000) v [] 1 0 seen.length), (41, .sref .iter (1, 41) (nv + 1 + 1 + 1))]) (fun seen v => [((1, 1000), ⟨v, oints (seen.map fun b => ks.getD b 0)⟩), ((1, 41), ⟨nv + 1 + 1 + 1, .oiter (.sref .map (1, 10) 1) ks.length seen ks.length⟩), ((1, 10), ⟨1, omS ks⟩), ((1, 3), ⟨2, .obox 1 fun _ => .sref .map (1, 10) 1⟩)]) (fun seen v => ks.length - seen.length) [] v ⟨List.nodup_nil, fun x hx => absurd hx (by simp)⟩ ⟨?_, ?_, .nil⟩ ?_
      · exact ⟨.refl _, .refl _, trivial⟩
      · exact ⟨⟨rfl, .owns rfl rfl fun i o hi => absurd hi (by simp)⟩, ⟨rfl, .refl _⟩, ⟨rfl, .refl _⟩, ⟨rfl, .refl _⟩, trivial⟩
      clear v hj hjl
      rintro seen v nv2 ⟨hs1, hs2⟩
      have hsl : seen.length ≤ ks.length := seen_len hs1 hs2
      repeat' (first | refine vcI ?_ | refine And.intro ?_ ?_ | (intro hq; (try simp at hq); (try (exfalso; omega)); (try (revert hq; intro))))
      · rename_i _ hno _
        have hperm := seen_perm hs1 hs2 hno
        have hol : (seen.map fun b => ks.getD b 0).length ≤ 30000 := by rw [List.length_map]; omega
        repeat' (first | refine vcI ?_ | refine And.intro ?_ ?_ | (intro hq; (try simp at hq); (try (exfalso; omega)); (try (revert hq; intro))))
        refine CallS.onA (L0 := [((1, 1000), ⟨v, oints (seen.map fun b => ks.getD b 0)⟩)]) (M := [((1, 41), ⟨nv + 1 + 1 + 1, .oiter (.sref .map (1, 10) 1) ks.length seen ks.length⟩), ((1, 10), ⟨1, omS ks⟩), ((1, 3), ⟨2, .obox 1 fun _ => .sref .map (1, 10) 1⟩)]) (sort_at (by simp) (sort_spec _ (by omega) _ _ _ _)) (fun r => rfl) ?_
        rintro x L' nv' ⟨rfl, rfl⟩
        repeat' (first | refine vcI ?_ | refine And.intro ?_ ?_ | (intro hq; (try simp at hq); (try (exfalso; omega)); (try (revert hq; intro))))
        rw [sortI_perm hperm]
        have e : ks = symKs fs := by rw [hks, hK0]; rfl
        rw [← e]
        refine view_ints rfl ?_
        rw [sortI_len, ← hperm.length_eq, List.length_map]
      · rename_i _ _ i hi
        obtain ⟨hi1, hi2⟩ := mem_leftI hi
        refine Exists.intro (PV.oiter (.sref .map (1, 10) 1) ks.length (seen ++ [i]) ks.length) (And.intro (by rw [show (List.range ks.length).getD i 0 = i by simp [hi1]]) ?_)
        repeat' (first | refine vcI ?_ | refine And.intro ?_ ?_ | (intro hq; (try simp at hq); (try (exfalso; omega)); (try (revert hq; intro))))
        rename_i o ho
        rw [entry_enc hi1] at ho
        subst ho
        repeat' (first | refine vcI ?_ | refine And.intro ?_ ?_ | (intro hq; (try simp at hq); (try (exfalso; omega)); (try (revert hq; intro))))
        refine Exists.intro (oints [ks.getD i 0]) (And.intro ?_ (And.intro (by first | rfl | exact shape_prs (by simp) | exact shape_ints (by simp) | exact shape_odvs (by simp)) ?_))
        · refine NEq.owns rfl rfl fun i o hi ho => ?_
          obtain rfl : i = 0 := by simpa using hi
          obtain rfl : o = 0 := by omega
          exact .refl _
        have hol : (seen.map fun b => ks.getD b 0).length ≤ 30000 := by rw [List.length_map]; omega
        repeat' (first | refine vcI ?_ | refine And.intro ?_ ?_ | (intro hq; (try simp at hq); (try (exfalso; omega)); (try (revert hq; intro))))
        · simp
        refine Exists.intro (oints ((seen.map fun b => ks.getD b 0) ++ [ks.getD i 0])) (And.intro ?_ (And.intro (shape_ints (by simp)) ?_))
        · exact app_ints rfl (by simp) (fun i o hi ho => by (try dsimp only); rw [if_pos hi]; exact .refl _) (fun i o hi ho => by (try dsimp only); rw [if_neg (by omega), Nat.add_sub_cancel_left]; (try rw [cellV_pcell]); (try simp only [Nat.zero_add]); exact .refl _)
        repeat' (first | refine vcI ?_ | refine And.intro ?_ ?_ | (intro hq; (try simp at hq); (try (exfalso; omega)); (try (revert hq; intro))))
        have hs1' : (seen ++ [i]).Nodup := List.nodup_append.2 ⟨hs1, by simp, fun a ha b hb => by simp at hb; subst hb; exact fun e => hi2 (e ▸ ha)⟩
        have hs2' : ∀ x ∈ seen ++ [i], x < ks.length := fun x hx => (List.mem_append.1 hx).elim (hs2 x) fun h => by simp at h; omega
        have hl' := seen_len hs1' hs2'
        rw [List.length_append, List.length_singleton] at hl'
        refine Exists.intro (seen ++ [i], _) ⟨⟨hs1', hs2'⟩, by simp; omega, ⟨?_, ⟨⟨rfl, ?_⟩, ⟨rfl, .refl _⟩, ⟨rfl, .refl _⟩, ⟨rfl, .refl _⟩, trivial⟩, .nil⟩⟩
        · exact ⟨.refs rfl rfl (by simp), .refl _, trivial⟩
        · rw [List.map_append]; exact .refl _
end Go.Ab
namespace Go.Ab
open Go.Proofs
set_option maxRecDepth 100000
set_option maxHeartbeats 1000000

theorem putL_mem {l : List Int} {n x : Int} : x ∈ putL l n ↔ x ∈ l ∨ x = n := by
  induction l with
  | nil => simp [putL]
  | cons y l ih =>
    simp only [putL]
    split
    · rw [List.mem_cons, ih, List.mem_cons]; exact or_assoc.symm
    · split
      · rename_i h; subst h; simp only [List.mem_cons]
        constructor
        · exact .inl
        · rintro (h | h)
          · exact h
          · exact .inl h
      · simp only [List.mem_cons]
        constructor
        · rintro (h | h)
          · exact .inr h
          · exact .inl h
        · rintro (h | h)
          · exact .inr h
          · exact .inl h
theorem putL_sorted {l : List Int} {n : Int} (h : l.Pairwise (· < ·)) : (putL l n).Pairwise (· < ·) := by
  induction l with
  | nil => simp [putL]
  | cons y l ih =>
    obtain ⟨h1, h2⟩ := List.pairwise_cons.1 h
    simp only [putL]
    split
    · rename_i hy
      refine List.pairwise_cons.2 ⟨fun a ha => ?_, ih h2⟩
      rcases putL_mem.1 ha with ha | rfl
      · exact h1 a ha
      · exact hy
    · split
      · exact h
      · rename_i a b
        refine List.pairwise_cons.2 ⟨fun c hc => ?_, h⟩
        rcases List.mem_cons.1 hc with rfl | hc
        · omega
        · have := h1 c hc; omega

/-- A register occurs in a frame. -/
def usedIn (f : DF) (x : Int) : Prop := (∃ v ∈ allL f, v.k = 1 ∧ v.n = x) ∨ (f.act ≠ 0 ∧ IntKind.i64.wrap (f.act - 1) = x)
theorem useV_mem (l : List DV) (out : List Int) (x : Int) : x ∈ l.foldl useV out ↔ x ∈ out ∨ ∃ v ∈ l, v.k = 1 ∧ v.n = x := by
  induction l generalizing out with
  | nil => simp
  | cons v l ih =>
    rw [List.foldl_cons, ih]
    unfold useV
    by_cases h : v.k = 1
    · rw [if_pos h, putL_mem]
      constructor
      · rintro ((h1 | h1) | ⟨u, h1, h2⟩)
        · exact .inl h1
        · exact .inr ⟨v, by simp, h, h1.symm⟩
        · exact .inr ⟨u, List.mem_cons_of_mem _ h1, h2⟩
      · rintro (h1 | ⟨u, h1, h2, h3⟩)
        · exact .inl (.inl h1)
        · rcases List.mem_cons.1 h1 with rfl | h1
          · exact .inl (.inr h3.symm)
          · exact .inr ⟨u, h1, h2, h3⟩
    · rw [if_neg h]
      constructor
      · rintro (h1 | ⟨u, h1, h2⟩)
        · exact .inl h1
        · exact .inr ⟨u, List.mem_cons_of_mem _ h1, h2⟩
      · rintro (h1 | ⟨u, h1, h2, h3⟩)
        · exact .inl h1
        · rcases List.mem_cons.1 h1 with rfl | h1
          · exact absurd h2 h
          · exact .inr ⟨u, h1, h2, h3⟩
theorem useF_mem (out : List Int) (f : DF) (x : Int) : x ∈ useF out f ↔ x ∈ out ∨ usedIn f x := by
  unfold useF useA usedIn
  by_cases h : f.act = 0
  · rw [if_pos h, useV_mem]; simp [h]
  · rw [if_neg h, putL_mem, useV_mem]
    simp only [h, ne_eq, not_false_eq_true, true_and, or_assoc, eq_comm (a := x)]
theorem usesL_mem (fs : List DF) (x : Int) : x ∈ usesL fs ↔ ∃ f ∈ fs, usedIn f x := by
  have key : ∀ (fs : List DF) (out : List Int), x ∈ fs.foldl useF out ↔ x ∈ out ∨ ∃ f ∈ fs, usedIn f x := by
    intro fs
    induction fs with
    | nil => intro out; simp
    | cons f fs ih =>
      intro out
      rw [List.foldl_cons, ih, useF_mem]
      simp only [List.mem_cons, exists_eq_or_imp, or_assoc]
  rw [usesL, key]; simp
theorem insV_mem (l : List DV) (out : List Int) (x : Int) : x ∈ l.foldl insV out ↔ x ∈ out ∨ ∃ v ∈ l, v.k = 1 ∧ v.n = x := by
  induction l generalizing out with
  | nil => simp
  | cons v l ih =>
    rw [List.foldl_cons, ih]
    unfold insV
    by_cases h : v.k = 1
    · rw [if_pos h, mem_ins]; simp only [List.mem_cons, exists_eq_or_imp, h, true_and, or_assoc, eq_comm (a := x)]
    · rw [if_neg h]; simp only [List.mem_cons, exists_eq_or_imp, h, false_and, false_or]
theorem insF_mem (l : List DF) (out : List Int) (x : Int) : x ∈ l.foldl insF out ↔ x ∈ out ∨ ∃ f ∈ l, f.act ≠ 0 ∧ IntKind.i64.wrap (f.act - 1) = x := by
  induction l generalizing out with
  | nil => simp
  | cons v l ih =>
    rw [List.foldl_cons, ih]
    unfold insF
    by_cases h : v.act = 0
    · rw [if_pos h]; simp only [List.mem_cons, exists_eq_or_imp, h, ne_eq, not_true_eq_false, false_and, false_or]
    · rw [if_neg h, mem_ins]; simp only [List.mem_cons, exists_eq_or_imp, h, ne_eq, not_false_eq_true, true_and, or_assoc, eq_comm (a := x)]
theorem symKs_mem (fs : List DF) (x : Int) : x ∈ symKs fs ↔ ∃ f ∈ fs, usedIn f x := by
  unfold symKs usedIn
  rw [insF_mem, insV_mem]
  constructor
  · rintro ((h | ⟨v, hv, h⟩) | ⟨f, hf, h⟩)
    · cases h
    · obtain ⟨f, hf, hv⟩ := List.mem_flatMap.1 hv
      exact ⟨f, hf, .inl ⟨v, hv, h⟩⟩
    · exact ⟨f, hf, .inr h⟩
  · rintro ⟨f, hf, ⟨v, hv, h⟩ | h⟩
    · exact .inl (.inr ⟨v, List.mem_flatMap.2 ⟨f, hf, hv⟩, h⟩)
    · exact .inr ⟨f, hf, h⟩
theorem usesL_sorted (fs : List DF) : (usesL fs).Pairwise (· < ·) := by
  have h1 : ∀ (l : List DV) (out : List Int), out.Pairwise (· < ·) → (l.foldl useV out).Pairwise (· < ·) := by
    intro l
    induction l with
    | nil => intro out h; exact h
    | cons v l ih => intro out h; exact ih _ (by unfold useV; split; exact putL_sorted h; exact h)
  have h2 : ∀ (l : List DF) (out : List Int), out.Pairwise (· < ·) → (l.foldl useF out).Pairwise (· < ·) := by
    intro l
    induction l with
    | nil => intro out h; exact h
    | cons v l ih => intro out h; exact ih _ (by unfold useF useA; split; exact h1 _ _ h; exact putL_sorted (h1 _ _ h))
  exact h2 fs [] List.Pairwise.nil
theorem sortI_sorted {l : List Int} (h : l.Pairwise (· < ·)) : sortI l = l := by
  unfold sortI
  exact List.mergeSort_of_pairwise (h.imp fun h => by simp; omega)
theorem symUses_eq (fs : List DF) : sortI (symKs fs) = usesL fs := by
  have hp : (symKs fs).Perm (usesL fs) := (List.perm_ext_iff_of_nodup (symKs_nodup fs) ((usesL_sorted fs).imp fun h => Int.ne_of_lt h)).2 fun a => by rw [symKs_mem, usesL_mem]
  rw [sortI_perm hp, sortI_sorted (usesL_sorted fs)]
theorem symUses (fs : List DF) (hf : fs.length ≤ 1048576 ∧ ∀ f ∈ fs, f.small) (hN : frN fs ≤ 6000) : CallsF Tryz.prog 61 [dfs fs] (ints (usesL fs)) := symUses_eq fs ▸ symUses_spec fs hf hN
end Go.Ab
namespace Go.Ab

/-- As 'view', by a function. -/
def viewX : Nat → Roots → PV → PV
  | 0, _, _ => .undef
  | k + 1, H, x => match x with
    | .ref r ver p sz lo hi => match H r with
      | some rt => match Nat.beq rt.ver ver with
        | true => match getAt rt.node p with
          | .own _ _ f => .frz sz (hi - lo) fun i o => viewX k H (f (lo + i) o)
          | _ => .undef
        | false => .undef
      | none => .undef
    | .ptr r ver p i o => match H r with
      | some rt => match Nat.beq rt.ver ver with
        | true => match getAt rt.node p with
          | .own sz _ f => .fptr sz (fun j => viewX k H (f i j)) o
          | .obox sz c => .fptr sz (fun j => viewX k H (c j)) o
          | _ => .undef
        | false => .undef
      | none => .undef
    | .agg l => .agg (l.map (viewX k H))
    | .tup l => .tup (l.map (viewX k H))
    | .func fn l l' => .func fn (l.map (viewX k H)) (l'.map (viewX k H))
    | .int ik n => .int ik n
    | .bool b => .bool b
    | .str s => .str s
    | .nilp => .nilp
    | .nilf => .nilf
    | .nilm => .nilm
    | .nili => .nili
    | .nils => .nils
    | _ => .undef

def neqX : Nat → PV → PV → Bool
  | 0, _, _ => false
  | k + 1, x, y => match x, y with
    | .int i a, .int j b => decide (i = j) && decide (a = b)
    | .bool a, .bool b => a == b
    | .nilf, .nilf => true
    | .nils, .nils => true
    | .nilp, .nilp => true
    | .func (.func f) l l', .func (.func g) m m' => Nat.beq f g && (Nat.beq l.length m.length && (l.zip m).all fun p => neqX k p.1 p.2) && (Nat.beq l'.length m'.length && (l'.zip m').all fun p => neqX k p.1 p.2)
    | .agg l, .agg m => Nat.beq l.length m.length && (l.zip m).all fun p => neqX k p.1 p.2
    | .fptr sz c o, .fptr sz' c' o' => Nat.beq sz sz' && Nat.beq o o' && (List.range sz).all fun j => neqX k (c j) (c' j)
    | .frz sz n c, .frz sz' n' c' => Nat.beq sz sz' && Nat.beq n n' && (List.range n).all fun i => (List.range sz).all fun j => neqX k (c i j) (c' i j)
    | _, _ => false


theorem zip_all {l m : List PV} {k : Nat} (h : (Nat.beq l.length m.length && (l.zip m).all fun p => neqX k p.1 p.2) = true) : l.length = m.length ∧ ∀ i, i < l.length → neqX k (l.getD i .undef) (m.getD i .undef) = true := by
  rw [Bool.and_eq_true] at h
  have h1 := Nat.eq_of_beq_eq_true h.1
  refine ⟨h1, fun i hi => ?_⟩
  have := List.all_eq_true.1 h.2 (l.getD i .undef, m.getD i .undef) (by
    rw [List.getD_eq_getElem?_getD, List.getD_eq_getElem?_getD, List.getElem?_eq_getElem hi, List.getElem?_eq_getElem (h1 ▸ hi)]
    exact List.mem_iff_getElem.2 ⟨i, by simp; omega, by simp⟩)
  exact this

theorem neqX_sound : ∀ (k : Nat) (x y : PV), neqX k x y = true → NEq x y := by
  intro k
  induction k with
  | zero => intro x y h; cases h
  | succ k ih =>
    intro x y h
    unfold neqX at h
    split at h
    · simp only [Bool.and_eq_true, decide_eq_true_eq] at h; obtain ⟨rfl, rfl⟩ := h; exact .refl _
    · have := eq_of_beq h; subst this; exact .refl _
    · exact .refl _
    · exact .refl _
    · exact .refl _
    · rw [Bool.and_eq_true, Bool.and_eq_true] at h
      obtain ⟨⟨h1, h2⟩, h3⟩ := h
      obtain rfl := Nat.eq_of_beq_eq_true h1
      obtain ⟨a1, a2⟩ := zip_all h2
      obtain ⟨b1, b2⟩ := zip_all h3
      exact .func a1 b1 (fun i hi => ih _ _ (a2 i hi)) (fun i hi => ih _ _ (b2 i hi))
    · obtain ⟨a1, a2⟩ := zip_all h
      exact .agg a1 fun i hi => ih _ _ (a2 i hi)
    · rw [Bool.and_eq_true, Bool.and_eq_true] at h
      obtain ⟨⟨h1, h2⟩, h3⟩ := h
      obtain rfl := Nat.eq_of_beq_eq_true h1
      obtain rfl := Nat.eq_of_beq_eq_true h2
      exact .fptr fun j hj => ih _ _ (List.all_eq_true.1 h3 j (List.mem_range.2 hj))
    · rw [Bool.and_eq_true, Bool.and_eq_true] at h
      obtain ⟨⟨h1, h2⟩, h3⟩ := h
      obtain rfl := Nat.eq_of_beq_eq_true h1
      obtain rfl := Nat.eq_of_beq_eq_true h2
      exact .frz fun i j hi hj => ih _ _ (List.all_eq_true.1 (List.all_eq_true.1 h3 i (List.mem_range.2 hi)) j (List.mem_range.2 hj))
    · cases h

/-- What is seen by the function tells no more. -/
theorem viewX_less : ∀ (k : Nat) (hp : Hp) (x y : PV) (n : Nat), neqX n (viewX k (lkH hp) x) y = true → NEq (view k hp x) y := by
  intro k
  induction k with
  | zero =>
    intro hp x y n h
    cases n with
    | zero => cases h
    | succ n => simp [viewX, neqX] at h
  | succ k ih =>
    intro hp x y n h
    cases n with
    | zero => cases h
    | succ n =>
      unfold viewX at h
      have lst : ∀ {l m : List PV}, (Nat.beq (l.map (viewX k (lkH hp))).length m.length && ((l.map (viewX k (lkH hp))).zip m).all fun p => neqX n p.1 p.2) = true → (l.map (view k hp)).length = m.length ∧ ∀ i, i < (l.map (view k hp)).length → NEq ((l.map (view k hp)).getD i .undef) (m.getD i .undef) := by
        intro l m h
        obtain ⟨h1, h2⟩ := zip_all h
        refine ⟨by simpa using h1, fun i hi => ?_⟩
        have hi' : i < l.length := by simpa using hi
        have := h2 i (by simpa using hi')
        have e1 : (l.map (viewX k (lkH hp))).getD i .undef = viewX k (lkH hp) (l.getD i .undef) := by simp [hi']
        have e2 : (l.map (view k hp)).getD i .undef = view k hp (l.getD i .undef) := by simp [hi']
        rw [e1] at this
        rw [e2]
        exact ih _ _ _ _ this
      cases x with
      | ref r ver p sz lo hi =>
        simp only [view] at h ⊢
        cases hr : lkH hp r with
        | none => rw [hr] at h; simp [neqX] at h
        | some rt =>
          rw [hr] at h
          simp only at h ⊢
          cases hb : Nat.beq rt.ver ver with
          | false => rw [hb] at h; simp [neqX] at h
          | true =>
            rw [hb] at h
            rw [if_pos (Nat.eq_of_beq_eq_true hb)]
            simp only at h
            split at h
            · rename_i f hg
              rw [hg]
              simp only
              cases y with
              | frz sz' n' g =>
                simp only [neqX, Bool.and_eq_true] at h
                obtain ⟨⟨h1, h2⟩, h3⟩ := h
                obtain rfl := Nat.eq_of_beq_eq_true h1
                obtain rfl := Nat.eq_of_beq_eq_true h2
                exact .frz fun i j hi hj => ih _ _ _ _ (List.all_eq_true.1 (List.all_eq_true.1 h3 i (List.mem_range.2 hi)) j (List.mem_range.2 hj))
              | _ => simp [neqX] at h
            · simp [neqX] at h
      | ptr r ver p i o =>
        simp only [view] at h ⊢
        cases hr : lkH hp r with
        | none => rw [hr] at h; simp [neqX] at h
        | some rt =>
          rw [hr] at h
          simp only at h ⊢
          cases hb : Nat.beq rt.ver ver with
          | false => rw [hb] at h; simp [neqX] at h
          | true =>
            rw [hb] at h
            rw [if_pos (Nat.eq_of_beq_eq_true hb)]
            simp only at h
            split at h
            · rename_i sz f hg
              rw [hg]
              simp only
              cases y with
              | fptr sz' c' o' =>
                simp only [neqX, Bool.and_eq_true] at h
                obtain ⟨⟨h1, h2⟩, h3⟩ := h
                obtain rfl := Nat.eq_of_beq_eq_true h1
                obtain rfl := Nat.eq_of_beq_eq_true h2
                exact .fptr fun j hj => ih _ _ _ _ (List.all_eq_true.1 h3 j (List.mem_range.2 hj))
              | _ => simp [neqX] at h
            · rename_i sz f hg
              rw [hg]
              simp only
              cases y with
              | fptr sz' c' o' =>
                simp only [neqX, Bool.and_eq_true] at h
                obtain ⟨⟨h1, h2⟩, h3⟩ := h
                obtain rfl := Nat.eq_of_beq_eq_true h1
                obtain rfl := Nat.eq_of_beq_eq_true h2
                exact .fptr fun j hj => ih _ _ _ _ (List.all_eq_true.1 h3 j (List.mem_range.2 hj))
              | _ => simp [neqX] at h
            · simp [neqX] at h
      | agg l =>
        simp only [view] at h ⊢
        cases y with
        | agg m => simp only [neqX] at h; obtain ⟨a, b⟩ := lst h; exact .agg a b
        | _ => simp [neqX] at h
      | func fn l l' =>
        simp only [view] at h ⊢
        cases y with
        | func fn' m m' =>
          cases fn <;> cases fn' <;> simp only [neqX] at h <;> try (cases h; done)
          rw [Bool.and_eq_true, Bool.and_eq_true] at h
          obtain ⟨⟨h1, h2⟩, h3⟩ := h
          obtain rfl := Nat.eq_of_beq_eq_true h1
          obtain ⟨a1, a2⟩ := lst h2
          obtain ⟨b1, b2⟩ := lst h3
          exact .func a1 b1 a2 b2
        | _ => cases fn <;> simp [neqX] at h
      | tup l => simp [neqX] at h
      | int ik m => exact neqX_sound _ _ _ h
      | bool b => exact neqX_sound _ _ _ h
      | str s => exact neqX_sound _ _ _ h
      | nilp => exact neqX_sound _ _ _ h
      | nilf => exact neqX_sound _ _ _ h
      | nilm => exact neqX_sound _ _ _ h
      | nili => exact neqX_sound _ _ _ h
      | nils => exact neqX_sound _ _ _ h
      | _ => simp [neqX] at h

/-- A closed call that answers with a value. -/
theorem callsF_val {P : Program} (hP : goodP P = true) {f : FuncId} {args : List PV} {res : PV} (n m : Nat) (h : funX P n f args .nil 0 (fun x H _ => match neqX m (viewX 9 H.roots x) res with | true => some true | false => none) = some true) : CallsF P f args res := by
  obtain ⟨x, H', nv', h1, h2, hp', hl⟩ := funX_ok hP n _ _ _ _ _ _ ⟨[], by funext r; simp [lkH, HT.roots, Tr.get_nil]⟩ h
  refine callsF_of_X h2 hl (viewX_less 9 hp' x res m ?_)
  rw [hl]
  cases hb : neqX m (viewX 9 H'.roots x) res with
  | true => rfl
  | false => rw [hb] at h1; cases h1
end Go.Ab
namespace Go.Ab
open Classical
open Go.Proofs
set_option maxRecDepth 100000
set_option maxHeartbeats 1000000

def bitsK {β : Type} (ws : Nat → Nat) : Nat → List Int → (List Int → β) → β
  | 0, acc, k => k acc
  | r + 1, acc, k => match bitW ws r with
    | true => bitsK ws r (Int.ofNat r :: acc) k
    | false => bitsK ws r acc k
theorem bitsK_eq {β : Type} (ws : Nat → Nat) : ∀ (n : Nat) (acc : List Int) (k : List Int → β), bitsK ws n acc k = k (listW ws n ++ acc) := by
  intro n
  induction n with
  | zero => intro acc k; rfl
  | succ n ih =>
    intro acc k
    unfold bitsK
    cases h : bitW ws n with
    | true => simp only [ih, listW_yes h, List.append_assoc, List.singleton_append]; rfl
    | false => simp only [ih, listW_no h]

def wordX {β : Type} (x : PV) (k : Nat → Option β) : Option β := match x with
  | .int ik z => match ik with
    | .u64 => match z with
      | .ofNat m => match Nat.blt m 18446744073709551616 with
        | true => natK m k
        | false => none
      | .negSucc _ => none
    | _ => none
  | _ => none
theorem wordX_iff {β : Type} {x : PV} {k : Nat → Option β} {y : β} (h : wordX x k = some y) : ∃ m : Nat, x = .int .u64 m ∧ m < 18446744073709551616 ∧ k m = some y := by
  unfold wordX at h
  split at h
  · split at h
    · split at h
      · split at h
        · rename_i hb
          exact ⟨_, rfl, by simpa [Nat.blt_eq] using hb, by rwa [natK_eq] at h⟩
        · cases h
      · cases h
    · cases h
  · cases h
def ws4 (a b c d : Nat) : Nat → Nat
  | 0 => a
  | 1 => b
  | 2 => c
  | 3 => d
  | _ => 0
def cellsX {β : Type} (x : PV) (H : HT) (k : (Nat → PV) → Option β) : Option β := match x with
  | .fptr sz c o => match o with
    | 0 => match Nat.beq sz 4 with
      | true => k c
      | false => none
    | _ => none
  | .ptr r v p i o => match o with
    | 0 => match H.roots r with
      | some ⟨v', node⟩ => match Nat.beq v' v with
        | true => match getAt node p with
          | .own sz _ f => match Nat.beq sz 4 with
            | true => k (f i)
            | false => none
          | .obox sz c => match Nat.beq sz 4 with
            | true => k c
            | false => none
          | _ => none
        | false => none
      | none => none
    | _ => none
  | _ => none
theorem cellsX_iff {β : Type} {x : PV} {H : HT} {k : (Nat → PV) → Option β} {y : β} {hp : Hp} (hh : lkH hp = H.roots) (h : cellsX x H k = some y) : ∃ c, k c = some y ∧ (view 9 hp x = .fptr 4 c 0 ∨ view 9 hp x = .fptr 4 (fun j => view 8 hp (c j)) 0) := by
  unfold cellsX at h
  split at h
  · split at h
    · split at h
      · rename_i hb
        obtain rfl := Nat.eq_of_beq_eq_true hb
        exact ⟨_, h, .inl rfl⟩
      · cases h
    · cases h
  · split at h
    · split at h
      · rename_i hr
        split at h
        · rename_i hb
          obtain rfl := Nat.eq_of_beq_eq_true hb
          split at h
          · split at h
            · rename_i hg _ hb
              obtain rfl := Nat.eq_of_beq_eq_true hb
              refine ⟨_, h, .inr ?_⟩
              rw [view, hh, hr]
              simp only [if_true]
              rw [hg]
            · cases h
          · split at h
            · rename_i hg _ hb
              obtain rfl := Nat.eq_of_beq_eq_true hb
              refine ⟨_, h, .inr ?_⟩
              rw [view, hh, hr]
              simp only [if_true]
              rw [hg]
            · cases h
          · cases h
        · cases h
      · cases h
    · cases h
  · cases h

def listX {β : Type} (ags : List PV) (H : HT) (nv : Nat) (k : PV → HT → Nat → Option β) : Option β := match ags with
  | [x] => cellsX x H fun c => wordX (c 0) fun w0 => wordX (c 1) fun w1 => wordX (c 2) fun w2 => wordX (c 3) fun w3 => bitsK (ws4 w0 w1 w2 w3) 250 [] fun l => natK l.length fun n => natK (nv + 1) fun lv => match Nat.blt lv 1000000000 with
    | true => H.putK (lv, 999998) (some ⟨nv, .own 1 n fun i _ => .int .i64 (l.getD i 0)⟩) fun H => k (.ref (lv, 999998) nv [] 1 0 n) H lv
    | false => none
  | _ => none

/-- Where 'list' is known. -/
def ovL {β : Type} (call : CallX β) : CallX β := fun f ags H nv k => match Nat.beq f 32 with
  | true => listX ags H nv k
  | false => call f ags H nv k

theorem ovL_ok {β : Type} (call : CallX β) (h : CallOK Tryz.prog call) : CallOK Tryz.prog (ovL call) := by
  intro f ags H nv k y hl hk
  unfold ovL at hk
  split at hk
  · rename_i hf
    obtain rfl := Nat.eq_of_beq_eq_true hf
    obtain ⟨hp, hh⟩ := hl
    unfold listX at hk
    split at hk
    · rename_i x
      obtain ⟨c, hk, hv⟩ := cellsX_iff hh hk
      obtain ⟨w0, e0, l0, hk⟩ := wordX_iff hk
      obtain ⟨w1, e1, l1, hk⟩ := wordX_iff hk
      obtain ⟨w2, e2, l2, hk⟩ := wordX_iff hk
      obtain ⟨w3, e3, l3, hk⟩ := wordX_iff hk
      rw [bitsK_eq, List.append_nil, natK_eq, natK_eq] at hk
      split at hk
      · rename_i hb
        obtain ⟨H', h1, h2⟩ := HT.putK_spec H (nv + 1, 999998) (some ⟨nv, .own 1 (listW (ws4 w0 w1 w2 w3) 250).length fun i _ => .int .i64 ((listW (ws4 w0 w1 w2 w3) 250).getD i 0)⟩) (fun H => k (.ref (nv + 1, 999998) nv [] 1 0 (listW (ws4 w0 w1 w2 w3) 250).length) H (nv + 1)) (by simpa [Nat.blt_eq] using hb)
        rw [h1] at hk
        have hcell : ∀ j, j < 4 → c j = setC (ws4 w0 w1 w2 w3) j := fun j hj => by
          match j, hj with
          | 0, _ => exact e0
          | 1, _ => exact e1
          | 2, _ => exact e2
          | 3, _ => exact e3
        have hq : NEq (view 9 hp x) (.fptr 4 (setC (ws4 w0 w1 w2 w3)) 0) := by
          rcases hv with hv | hv <;> rw [hv]
          · exact .fptr fun j hj => by rw [hcell j hj]; exact .refl _
          · exact .fptr fun j hj => by rw [hcell j hj]; exact .refl _
        refine ⟨_, H', nv + 1, hk, callsX_of_O (id := (nv + 1, 999998)) (by simp) hh ((setList_spec (ws4 w0 w1 w2 w3) fun o => ?_).less (.cons hq .nil)) (fun i o hi => trivial) h2, setH hp (nv + 1, 999998) (some ⟨nv, .own 1 (listW (ws4 w0 w1 w2 w3) 250).length fun i _ => .int .i64 ((listW (ws4 w0 w1 w2 w3) 250).getD i 0)⟩), ?_⟩
        · match o with
          | 0 => exact l0
          | 1 => exact l1
          | 2 => exact l2
          | 3 => exact l3
          | _ + 4 => exact Nat.zero_lt_succ _
        · rw [h2]; funext j; rw [lookH_setH, hh]
      · cases hk
    · cases hk
  · exact h _ _ _ _ _ _ hl hk

theorem good : goodP Tryz.prog = true := by kernel_rfl
end Go.Ab
namespace Go.Ab
open Go.Proofs
set_option maxRecDepth 100000
set_option maxHeartbeats 1000000

def fnV (k : Nat) : PV := .func (.func k) [] []
/-- A row's cells. -/
def rowC (u : PV) (s f g : Bool) : List PV := [u, .bool s, .bool f, .bool g]
def uNone : PV := fnV 109
def uA : PV := fnV 106
def uAB : PV := fnV 107
def uAll : PV := fnV 108
def uRet : PV := .func (.func 110) [] [.fptr 1 (fun _ => uA) 0]
def uBlk : PV := fnV 111
def uDrop : PV := fnV 112
def rowAt : Nat → List PV
  | 1 => rowC uNone true true false
  | 2 => rowC uA true true false
  | 3 => rowC uA false true true
  | 4 => rowC uA true true false
  | 5 => rowC uAB false true false
  | 6 => rowC uAll true true true
  | 7 => rowC uAll true true false
  | 8 => rowC uNone false true false
  | 9 => rowC uNone false false true
  | 10 => rowC uRet false false false
  | 11 => rowC uNone false false false
  | 12 => rowC uNone true true false
  | 13 => rowC uBlk true true false
  | 14 => rowC uA true true false
  | 15 => rowC uAB false true false
  | 16 => rowC uDrop false true false
  | _ => rowC .nilf false false false
def rowsL : List PV := (List.range 17).flatMap rowAt
/-- The cells of code with its table. -/
def codeL (o : DO) (lv : PV) : List PV := dol o ++ (rowsL ++ [lv])

theorem table_spec : CallsF Tryz.prog 76 [] (.agg rowsL) := callsF_val good 10 10 (by kernel_rfl)
end Go.Ab
namespace Go.Ab
open Go.Proofs
set_option maxRecDepth 100000
set_option maxHeartbeats 1000000

def codeC (o : DO) (lv : PV) : Nat → PV := fun j => (codeL o lv).getD j .undef
/-- A pointer to code, in frozen memory. -/
def codeP (o : DO) (lv : PV) : PV := .fptr 81 (codeC o lv) 0

theorem uNone_spec (p : PV) (i : Int) : CallsF Tryz.prog 109 [p, .int .i64 i] (ints []) := by
  refine callsF_ofS mx Tryz.call109 Tryz.func109 rfl Tryz.ntmps109 Tryz.results109 (by kernel_rfl) (by simp) fun lo => ?_
  repeat' (first | refine vcI ?_ | refine And.intro ?_ ?_ | (intro hq; (try simp at hq); (try (exfalso; omega)); (try (revert hq; intro))))
  exact .nils
theorem uA_spec (o : DO) (lv : PV) (i : Nat) (hi : i < o.irs.length) (hl : o.irs.length ≤ 1048576) : CallsF Tryz.prog 106 [codeP o lv, .int .i64 i] (ints [(o.irs.getD i default).a]) := by
  refine callsF_ofS mx Tryz.call106 Tryz.func106 rfl Tryz.ntmps106 Tryz.results106 (by kernel_rfl) (by simp) fun lo => ?_
  repeat' (first | refine vcI ?_ | refine And.intro ?_ ?_ | (intro hq; (try simp at hq); (try (exfalso; omega)); (try (revert hq; intro))))
  · refine Exists.intro (oints [(o.irs.getD i default).a]) (And.intro ?_ (And.intro (by first | rfl | exact shape_prs (by simp) | exact shape_ints (by simp) | exact shape_odvs (by simp)) ?_))
    · exact one_ints _ rfl rfl (.refl _)
    exact view_ints rfl rfl
theorem uAB_spec (o : DO) (lv : PV) (i : Nat) (hi : i < o.irs.length) (hl : o.irs.length ≤ 1048576) : CallsF Tryz.prog 107 [codeP o lv, .int .i64 i] (ints [(o.irs.getD i default).a, (o.irs.getD i default).b]) := by
  refine callsF_ofS mx Tryz.call107 Tryz.func107 rfl Tryz.ntmps107 Tryz.results107 (by kernel_rfl) (by simp) fun lo => ?_
  repeat' (first | refine vcI ?_ | refine And.intro ?_ ?_ | (intro hq; (try simp at hq); (try (exfalso; omega)); (try (revert hq; intro))))
  · refine Exists.intro (oints [(o.irs.getD i default).a, (o.irs.getD i default).b]) (And.intro ?_ (And.intro (by first | rfl | exact shape_prs (by simp) | exact shape_ints (by simp) | exact shape_odvs (by simp)) ?_))
    · exact two_ints _ _ rfl rfl (.refl _) (.refl _)
    exact view_ints rfl rfl
theorem uDrop_spec (o : DO) (lv : PV) (i : Nat) (hi : i < o.irs.length) (hl : o.irs.length ≤ 1048576) : CallsF Tryz.prog 112 [codeP o lv, .int .i64 i] (ints (o.irs.getD i default).args) := by
  refine callsF_ofS mx Tryz.call112 Tryz.func112 rfl Tryz.ntmps112 Tryz.results112 (by kernel_rfl) (by simp) fun lo => ?_
  repeat' (first | refine vcI ?_ | refine And.intro ?_ ?_ | (intro hq; (try simp at hq); (try (exfalso; omega)); (try (revert hq; intro))))
  exact .refl _
theorem uAll_spec (o : DO) (lv : PV) (i : Nat) (hi : i < o.irs.length) (hl : o.irs.length ≤ 1048576) (ha : (o.irs.getD i default).args.length ≤ 1048576) : CallsF Tryz.prog 108 [codeP o lv, .int .i64 i] (ints ((o.irs.getD i default).a :: (o.irs.getD i default).args)) := by
  have ha' : (o.irs.getD (i : Int).toNat default).args.length ≤ 1048576 := ha
  refine callsF_ofS mx Tryz.call108 Tryz.func108 rfl Tryz.ntmps108 Tryz.results108 (by kernel_rfl) (by simp) fun lo => ?_
  repeat' (first | refine vcI ?_ | refine And.intro ?_ ?_ | (intro hq; (try simp at hq); (try (exfalso; omega)); (try (revert hq; intro))))
  · rfl
  refine Exists.intro (oints ([(o.irs.getD i default).a] ++ (o.irs.getD i default).args)) (And.intro ?_ (And.intro (shape_ints (by rw [List.length_append]; rfl)) ?_))
  · refine NEq.owns rfl (by rw [List.length_append]; rfl) fun j q hj hq => ?_
    obtain rfl : q = 0 := by omega
    rw [getD_app]
    show NEq (if j < 1 then _ else _) _
    by_cases c : j < 1
    · rw [if_pos c]
      obtain rfl : j = 0 := by omega
      exact .refl _
    · rw [if_neg c, if_neg (by simpa using c)]
      exact .refl _
  · refine view_ints rfl ?_
    rw [List.length_cons]; exact Nat.add_comm ..
theorem uRet_spec (o : DO) (lv : PV) (i : Nat) (hi : i < o.irs.length) (hl : o.irs.length ≤ 1048576) : CallsF Tryz.prog 110 [codeP o lv, .int .i64 i, .fptr 1 (fun _ => uA) 0] (ints (if (o.irs.getD i default).n = 0 then [(o.irs.getD i default).a] else [(o.irs.getD i default).a, IntKind.i64.wrap ((o.irs.getD i default).n - 1)])) := by
  refine callsF_ofS mx Tryz.call110 Tryz.func110 rfl Tryz.ntmps110 Tryz.results110 (by kernel_rfl) (by simp) fun lo => ?_
  repeat' (first | refine vcI ?_ | refine And.intro ?_ ?_ | (intro hq; (try simp at hq); (try (exfalso; omega)); (try (revert hq; intro))))
  · rename_i h
    have h' : ¬ (o.irs.getD i default).n = 0 := h
    rw [if_neg h']
    refine Exists.intro (oints [(o.irs.getD i default).a, IntKind.i64.wrap ((o.irs.getD i default).n - 1)]) (And.intro ?_ (And.intro (by first | rfl | exact shape_prs (by simp) | exact shape_ints (by simp) | exact shape_odvs (by simp)) ?_))
    · exact two_ints _ _ rfl rfl (.refl _) (.refl _)
    exact view_ints rfl rfl
  · rename_i h
    have h' : (o.irs.getD i default).n = 0 := h
    rw [if_pos h']
    refine CallS.frozen (ints [(o.irs.getD i default).a]) (uA_spec o lv i hi hl) (plainAll rfl) ?_
    repeat' (first | refine vcI ?_ | refine And.intro ?_ ?_ | (intro hq; (try simp at hq); (try (exfalso; omega)); (try (revert hq; intro))))
    exact .refl _
theorem uBlk_spec (o : DO) (lv : PV) (i : Nat) (hi : i < o.irs.length) (hl : o.irs.length ≤ 1048576) (hd : i < o.descs.length) (hdl : o.descs.length ≤ 1048576) (hm : 0 ≤ (o.irs.getD i default).m ∧ (o.irs.getD i default).m < ((o.descs.getD i []).length : Int)) (hml : (o.descs.getD i []).length ≤ 1048576) : CallsF Tryz.prog 111 [codeP o lv, .int .i64 i] (ints [IntKind.i64.wrap (((o.descs.getD i []).getD (o.irs.getD i default).m.toNat default).act - 1)]) := by
  refine callsF_ofS mx Tryz.call111 Tryz.func111 rfl Tryz.ntmps111 Tryz.results111 (by kernel_rfl) (by simp) fun lo => ?_
  repeat' (first | refine vcI ?_ | refine And.intro ?_ ?_ | (intro hq; (try simp at hq); (try (exfalso; omega)); (try (revert hq; intro))))
  · exact hm.1
  · exact hm.2
  · refine Exists.intro (oints [IntKind.i64.wrap (((o.descs.getD i []).getD (o.irs.getD i default).m.toNat default).act - 1)]) (And.intro ?_ (And.intro (by first | rfl | exact shape_prs (by simp) | exact shape_ints (by simp) | exact shape_odvs (by simp)) ?_))
    · exact one_ints _ rfl rfl (.refl _)
    exact view_ints rfl rfl
end Go.Ab
namespace Go.Ab
open Go.Proofs
set_option maxRecDepth 100000
set_option maxHeartbeats 1000000

def insB (n : Nat) (i : Int) : Bool := decide (0 ≤ i ∧ i < n)
theorem insideIr_spec (l : List DI) (i : Int) : CallsF Tryz.prog 31 [dis l, .int .i64 i] (.bool (insB l.length i)) := by
  refine callsF_ofS mx Tryz.call31 Tryz.func31 rfl Tryz.ntmps31 Tryz.results31 (by kernel_rfl) (by simp) fun lo => ?_
  repeat' (first | refine vcI ?_ | refine And.intro ?_ ?_ | (intro hq; (try simp at hq); (try (exfalso; omega)); (try (revert hq; intro))))
  all_goals
    (refine NEq.of_eq ?_; show PV.bool _ = PV.bool _; congr 1)
    unfold insB
    by_cases h1 : 0 ≤ i <;> by_cases h2 : i < (l.length : Int) <;> simp [h1, h2] <;> omega
theorem insideFrame_spec (l : List DF) (i : Int) : CallsF Tryz.prog 113 [dfs l, .int .i64 i] (.bool (insB l.length i)) := by
  refine callsF_ofS mx Tryz.call113 Tryz.func113 rfl Tryz.ntmps113 Tryz.results113 (by kernel_rfl) (by simp) fun lo => ?_
  repeat' (first | refine vcI ?_ | refine And.intro ?_ ?_ | (intro hq; (try simp at hq); (try (exfalso; omega)); (try (revert hq; intro))))
  all_goals
    (refine NEq.of_eq ?_; show PV.bool _ = PV.bool _; congr 1)
    unfold insB
    by_cases h1 : 0 ≤ i <;> by_cases h2 : i < (l.length : Int) <;> simp [h1, h2] <;> omega
end Go.Ab
namespace Go.Ab
open Go.Proofs
set_option maxRecDepth 100000
set_option maxHeartbeats 1000000

/-- A number is that of a register. -/
def regB (o : DO) (r : Int) : Bool := decide (0 ≤ r) && decide (r < o.regs)
theorem reg_spec (o : DO) (lv : PV) (r : Int) : CallsF Tryz.prog 91 [codeP o lv, .int .i64 r] (.bool (regB o r)) := by
  refine callsF_ofS mx Tryz.call91 Tryz.func91 rfl Tryz.ntmps91 Tryz.results91 (by kernel_rfl) (by simp) fun lo => ?_
  repeat' (first | refine vcI ?_ | refine And.intro ?_ ?_ | (intro hq; (try simp at hq); (try (exfalso; omega)); (try (revert hq; intro))))
  (refine NEq.of_eq ?_; show PV.bool _ = PV.bool _; congr 1)
  rw [bif_and]; rfl
theorem bad_spec (o : DO) (lv : PV) (r : Int) : CallsF Tryz.prog 114 [.int .i64 r, .fptr 1 (fun _ => codeP o lv) 0] (.bool (!regB o r)) := by
  refine callsF_ofS mx Tryz.call114 Tryz.func114 rfl Tryz.ntmps114 Tryz.results114 (by kernel_rfl) (by simp) fun lo => ?_
  repeat' (first | refine vcI ?_ | refine And.intro ?_ ?_ | (intro hq; (try simp at hq); (try (exfalso; omega)); (try (revert hq; intro))))
  refine CallS.frozen (.bool (regB o r)) (reg_spec o lv r) (plainAll rfl) ?_
  repeat' (first | refine vcI ?_ | refine And.intro ?_ ?_ | (intro hq; (try simp at hq); (try (exfalso; omega)); (try (revert hq; intro))))
  exact .refl _
def idxN (p : Int → Bool) (l : List Int) : Int := match l.findIdx? p with
  | some i => i
  | none => -1
theorem idxN_take {p : Int → Bool} {l : List Int} {k : Nat} (hk : k < l.length) (hn : (l.take k).any p = false) : (p (l.getD k 0) = true → idxN p l = k) ∧ (p (l.getD k 0) = false → (l.take (k + 1)).any p = false) := by
  constructor
  · intro h
    have : l.findIdx? p = some k := by
      rw [List.findIdx?_eq_some_iff_getElem]
      refine ⟨hk, by simpa [List.getD_eq_getElem?_getD, hk] using h, fun j hj => ?_⟩
      rw [List.any_eq_false] at hn
      exact hn l[j] (List.mem_iff_getElem.2 ⟨j, by simp; omega, by simp⟩)
    simp [idxN, this]
  · intro h
    rw [List.take_add_one, List.any_append, hn]
    simp [hk]
    simpa [List.getD_eq_getElem?_getD, hk] using h
theorem idxN_none {p : Int → Bool} {l : List Int} (h : l.any p = false) : idxN p l = -1 := by
  have : l.findIdx? p = none := by
    rw [List.findIdx?_eq_none_iff]
    intro x hx
    have := List.any_eq_false.1 h x hx
    simpa using this
  simp [idxN, this]
theorem idxN_any (l : List Int) (p : Int → Bool) : decide (idxN p l ≥ 0) = l.any p := by
  unfold idxN
  cases h : l.findIdx? p with
  | some i =>
    have : l.any p = true := by
      rw [List.findIdx?_eq_some_iff_getElem] at h
      obtain ⟨h1, h2, _⟩ := h
      exact List.any_eq_true.2 ⟨_, List.getElem_mem h1, h2⟩
    rw [this]
    simp
  | none =>
    have : l.any p = false := by
      rw [List.findIdx?_eq_none_iff] at h
      exact List.any_eq_false.2 fun x hx => by rw [h x hx]; simp
    rw [this]
    simp
theorem IndexFuncN (l : List Int) (g : FuncId) (c : PV) (p : Int → Bool) (hc : plainArg c) (hp : ∀ x, CallsF Tryz.prog g [.int .i64 x, c] (.bool (p x))) : CallsF Tryz.prog 120 [ints l, .func (.func g) [] [c]] (.int .i64 (idxN p l)) := by
  refine callsF_ofS mx Tryz.call120 Tryz.func120 rfl Tryz.ntmps120 Tryz.results120 (by kernel_rfl) (by simp) fun lo => ?_
  repeat' (first | refine vcI ?_ | refine And.intro ?_ ?_ | (intro hq; (try simp at hq); (try (exfalso; omega)); (try (revert hq; intro))))
  rename_i hlen
  refine loopS mx (by decide) (by kernel_rfl) (fun k : Nat => k ≤ l.length ∧ (l.take k).any p = false) (fun k => [(8, .int .i64 k), (7, .int .i64 l.length), (0, ints l), (1, .func (.func g) [] [c])]) (fun _ => []) (fun k => l.length - k) 0 (by simp) ⟨by ((repeat' apply And.intro) <;> (first | exact True.intro | exact NEq.refl _ | (refine NEq.int ?_; first | exact rfl | omega | (rw [wrapI (by omega)]; first | exact rfl | omega)))), trivial, .nil⟩ ?_
  intro k nv ⟨hk, hn⟩
  repeat' (first | refine vcI ?_ | refine And.intro ?_ ?_ | (intro hq; (try simp at hq); (try (exfalso; omega)); (try (revert hq; intro))))
  · rename_i h1
    have hi := idxN_take h1 hn
    refine CallS.frozen (.bool (p (l.getD k 0))) (hp (l.getD k 0)) (plainCons (plainLB_plainL rfl) (plainCons (plainArg_L hc) plainNil)) ?_
    repeat' (first | refine vcI ?_ | refine And.intro ?_ ?_ | (intro hq; (try simp at hq); (try (exfalso; omega)); (try (revert hq; intro))))
    · rename_i h2
      refine NEq.int ?_
      exact (hi.1 h2).symm
    · rename_i h2
      exact Exists.intro (k+1) ⟨⟨h1, hi.2 h2⟩, (by first | omega | (dsimp only; omega)), ⟨by ((repeat' apply And.intro) <;> (first | exact True.intro | exact NEq.refl _ | (refine NEq.int ?_; first | exact rfl | omega | (rw [wrapI (by omega)]; first | exact rfl | omega)))), trivial, .nil⟩⟩
  · rename_i h1
    rw [List.take_of_length_le h1] at hn
    refine NEq.int ?_
    exact (idxN_none hn).symm
theorem ContainsFuncN (l : List Int) (g : FuncId) (c : PV) (p : Int → Bool) (hc : plainArg c) (hp : ∀ x, CallsF Tryz.prog g [.int .i64 x, c] (.bool (p x))) : CallsF Tryz.prog 89 [ints l, .func (.func g) [] [c]] (.bool (l.any p)) := by
  refine callsF_ofS mx Tryz.call89 Tryz.func89 rfl Tryz.ntmps89 Tryz.results89 (by kernel_rfl) (by simp) fun lo => ?_
  refine CallS.frozen (.int .i64 (idxN p l)) (IndexFuncN l g c p hc hp) (plainCons (plainLB_plainL rfl) (plainCons ⟨fun _ h => (by cases h), fun x h => (by rw [List.mem_singleton] at h; subst h; exact hc)⟩ plainNil)) ?_
  repeat' (first | refine vcI ?_ | refine And.intro ?_ ?_ | (intro hq; (try simp at hq); (try (exfalso; omega)); (try (revert hq; intro))))
  (refine NEq.of_eq ?_; show PV.bool _ = PV.bool _; congr 1)
  exact idxN_any l p
theorem badAny_spec (o : DO) (lv : PV) (l : List Int) : CallsF Tryz.prog 89 [ints l, .func (.func 114) [] [.fptr 1 (fun _ => codeP o lv) 0]] (.bool (l.any fun r => !regB o r)) :=
  ContainsFuncN l _ _ _ trivial (bad_spec o lv)
end Go.Ab
namespace Go.Ab
open Go.Proofs
set_option maxRecDepth 100000
set_option maxHeartbeats 1000000

theorem cRow : Tryz.prog.cellsOf 71 = 4 := by kernel_rfl
def fallsB (op : Int) : Bool := !(op == 9 || op == 10 || op == 11)
def goesB (op : Int) : Bool := op == 3 || op == 6 || op == 9
def usesF (op : Int) : PV := (rowAt op.toNat).getD 0 .undef
def rowF (op : Int) : List PV := [usesF op, .bool (setsB op), .bool (fallsB op), .bool (goesB op)]
theorem ops {p : Nat → Prop} (h : ∀ n, n < 17 → 1 ≤ n → p n) {op : Int} (ho : 1 ≤ op ∧ op ≤ 16) : p op.toNat := h _ (by omega) (by omega)
theorem row_cell (o : DO) (lv : PV) {op : Int} (h : 1 ≤ op ∧ op ≤ 16) {off q : Nat} (hq : q < 4) (hoff : off = 12 + op.toNat * 4 + q) : codeC o lv off = (rowF op).getD q .undef := by
  subst hoff
  obtain ⟨n, rfl⟩ : ∃ n : Nat, op = n := ⟨op.toNat, (Int.toNat_of_nonneg (by omega)).symm⟩
  have hn : 1 ≤ n ∧ n ≤ 16 := by omega
  rcases (by omega : n = 1 ∨ n = 2 ∨ n = 3 ∨ n = 4 ∨ n = 5 ∨ n = 6 ∨ n = 7 ∨ n = 8 ∨ n = 9 ∨ n = 10 ∨ n = 11 ∨ n = 12 ∨ n = 13 ∨ n = 14 ∨ n = 15 ∨ n = 16) with rfl | rfl | rfl | rfl | rfl | rfl | rfl | rfl | rfl | rfl | rfl | rfl | rfl | rfl | rfl | rfl <;>
    (rcases (by omega : q = 0 ∨ q = 1 ∨ q = 2 ∨ q = 3) with rfl | rfl | rfl | rfl <;> rfl)
theorem mk_usesF (o : DO) (lv : PV) {op : Int} {off : Nat} (h : 1 ≤ op ∧ op ≤ 16) (hoff : off = 12 + op.toNat * 4) : mkV Tryz.prog 69 (codeC o lv) off = usesF op := by
  show codeC o lv off = _
  rw [row_cell o lv h (q := 0) (by omega) (by omega)]; rfl
theorem row_list (o : DO) (lv : PV) {op : Int} {off : Nat} (h : 1 ≤ op ∧ op ≤ 16) (hoff : off = 12 + op.toNat * 4) : List.map (fun j => codeC o lv (off + j)) (List.range 4) = rowF op := by
  show [codeC o lv (off + 0), codeC o lv (off + 1), codeC o lv (off + 2), codeC o lv (off + 3)] = _
  rw [row_cell o lv h (q := 0) (by omega) (by omega), row_cell o lv h (q := 1) (by omega) (by omega), row_cell o lv h (q := 2) (by omega) (by omega), row_cell o lv h (q := 3) (by omega) (by omega)]
  rfl
theorem row_cells {op : Int} (h : 1 ≤ op ∧ op ≤ 16) : allCells (rowF op) = true := by
  obtain ⟨n, rfl⟩ : ∃ n : Nat, op = n := ⟨op.toNat, (Int.toNat_of_nonneg (by omega)).symm⟩
  have hn : 1 ≤ n ∧ n ≤ 16 := by omega
  rcases (by omega : n = 1 ∨ n = 2 ∨ n = 3 ∨ n = 4 ∨ n = 5 ∨ n = 6 ∨ n = 7 ∨ n = 8 ∨ n = 9 ∨ n = 10 ∨ n = 11 ∨ n = 12 ∨ n = 13 ∨ n = 14 ∨ n = 15 ∨ n = 16) with rfl | rfl | rfl | rfl | rfl | rfl | rfl | rfl | rfl | rfl | rfl | rfl | rfl | rfl | rfl | rfl <;> rfl
theorem usesF_fn {op : Int} (h : 1 ≤ op ∧ op ≤ 16) (hne : op ≠ 10) : ∃ fn, usesF op = .func (.func fn) [] [] := by
  obtain ⟨n, rfl⟩ : ∃ n : Nat, op = n := ⟨op.toNat, (Int.toNat_of_nonneg (by omega)).symm⟩
  have hn : 1 ≤ n ∧ n ≤ 16 ∧ n ≠ 10 := by omega
  rcases (by omega : n = 1 ∨ n = 2 ∨ n = 3 ∨ n = 4 ∨ n = 5 ∨ n = 6 ∨ n = 7 ∨ n = 8 ∨ n = 9 ∨ n = 11 ∨ n = 12 ∨ n = 13 ∨ n = 14 ∨ n = 15 ∨ n = 16) with rfl | rfl | rfl | rfl | rfl | rfl | rfl | rfl | rfl | rfl | rfl | rfl | rfl | rfl | rfl <;> exact ⟨_, rfl⟩
theorem usedL_len (x : DI) (fs : List DF) {b : Nat} (h : x.args.length ≤ b) : (usedL x fs).length ≤ b + 2 := by
  unfold usedL
  (repeat' split) <;> (try simp only [List.length_cons, List.length_nil]) <;> omega
theorem uses_of (o : DO) (lv : PV) (i : Nat) (hi : i < o.irs.length) (hl : o.irs.length ≤ 1048576) (hd : i < o.descs.length) (hdl : o.descs.length ≤ 1048576) (hml : (o.descs.getD i []).length ≤ 1048576) (ha : (o.irs.getD i default).args.length ≤ 1048576)
    (hop : 1 ≤ (o.irs.getD i default).op ∧ (o.irs.getD i default).op ≤ 16) (hne : (o.irs.getD i default).op ≠ 10) :
    ∃ fn, usesF (o.irs.getD i default).op = .func (.func fn) [] [] ∧ (((o.irs.getD i default).op = 13 → 0 ≤ (o.irs.getD i default).m ∧ (o.irs.getD i default).m < ((o.descs.getD i []).length : Int)) → CallsF Tryz.prog fn [codeP o lv, .int .i64 i] (ints (usedL (o.irs.getD i default) (o.descs.getD i [])))) := by
  have e : ∀ {u : List Int} {fn}, usedL (o.irs.getD i default) (o.descs.getD i []) = u → usesF (o.irs.getD i default).op = .func (.func fn) [] [] → CallsF Tryz.prog fn [codeP o lv, .int .i64 i] (ints u) → ∃ fn, usesF (o.irs.getD i default).op = .func (.func fn) [] [] ∧ (((o.irs.getD i default).op = 13 → 0 ≤ (o.irs.getD i default).m ∧ (o.irs.getD i default).m < ((o.descs.getD i []).length : Int)) → CallsF Tryz.prog fn [codeP o lv, .int .i64 i] (ints (usedL (o.irs.getD i default) (o.descs.getD i [])))) := fun h1 h2 h4 => ⟨_, h2, fun _ => h1 ▸ h4⟩
  rcases (by omega : (o.irs.getD i default).op = 1 ∨ (o.irs.getD i default).op = 2 ∨ (o.irs.getD i default).op = 3 ∨ (o.irs.getD i default).op = 4 ∨ (o.irs.getD i default).op = 5 ∨ (o.irs.getD i default).op = 6 ∨ (o.irs.getD i default).op = 7 ∨ (o.irs.getD i default).op = 8 ∨ (o.irs.getD i default).op = 9 ∨ (o.irs.getD i default).op = 11 ∨ (o.irs.getD i default).op = 12 ∨ (o.irs.getD i default).op = 13 ∨ (o.irs.getD i default).op = 14 ∨ (o.irs.getD i default).op = 15 ∨ (o.irs.getD i default).op = 16) with h | h | h | h | h | h | h | h | h | h | h | h | h | h | h
  · exact e (by simp only [usedL, h]; simp) (by rw [h]; rfl) (uNone_spec _ _)
  · exact e (by simp only [usedL, h]; simp) (by rw [h]; rfl) (uA_spec o lv i hi hl)
  · exact e (by simp only [usedL, h]; simp) (by rw [h]; rfl) (uA_spec o lv i hi hl)
  · exact e (by simp only [usedL, h]; simp) (by rw [h]; rfl) (uA_spec o lv i hi hl)
  · exact e (by simp only [usedL, h]; simp) (by rw [h]; rfl) (uAB_spec o lv i hi hl)
  · exact e (by simp only [usedL, h]; simp) (by rw [h]; rfl) (uAll_spec o lv i hi hl ha)
  · exact e (by simp only [usedL, h]; simp) (by rw [h]; rfl) (uAll_spec o lv i hi hl ha)
  · exact e (by simp only [usedL, h]; simp) (by rw [h]; rfl) (uNone_spec _ _)
  · exact e (by simp only [usedL, h]; simp) (by rw [h]; rfl) (uNone_spec _ _)
  · exact e (by simp only [usedL, h]; simp) (by rw [h]; rfl) (uNone_spec _ _)
  · exact e (by simp only [usedL, h]; simp) (by rw [h]; rfl) (uNone_spec _ _)
  · exact ⟨_, by rw [h]; rfl, fun hm => by rw [show usedL (o.irs.getD i default) (o.descs.getD i []) = [IntKind.i64.wrap (((o.descs.getD i []).getD (o.irs.getD i default).m.toNat default).act - 1)] by simp only [usedL, h]; simp only [hm h]; simp]; exact uBlk_spec o lv i hi hl hd hdl (hm h) hml⟩
  · exact e (by simp only [usedL, h]; simp) (by rw [h]; rfl) (uA_spec o lv i hi hl)
  · exact e (by simp only [usedL, h]; simp) (by rw [h]; rfl) (uAB_spec o lv i hi hl)
  · exact e (by simp only [usedL, h]; simp) (by rw [h]; rfl) (uDrop_spec o lv i hi hl)
theorem uses_ret (o : DO) (lv : PV) (i : Nat) (hi : i < o.irs.length) (hl : o.irs.length ≤ 1048576) (h : (o.irs.getD i default).op = 10) : CallsF Tryz.prog 110 [codeP o lv, .int .i64 i, .fptr 1 (fun _ => uA) 0] (ints (usedL (o.irs.getD i default) (o.descs.getD i []))) := by
  rw [show usedL (o.irs.getD i default) (o.descs.getD i []) = if (o.irs.getD i default).n = 0 then [(o.irs.getD i default).a] else [(o.irs.getD i default).a, IntKind.i64.wrap ((o.irs.getD i default).n - 1)] by simp only [usedL, h]; simp]
  exact uRet_spec o lv i hi hl
end Go.Ab
namespace Go.Ab
open Go.Proofs
set_option maxRecDepth 100000
set_option maxHeartbeats 4000000

def badP (o : DO) (lv : PV) : PV := .func (.func 114) [] [.fptr 1 (fun _ => codeP o lv) 0]
/-- What a frame asks for, and the like: an instruction may not stand here. -/
def swB (o : DO) (x : DI) (fs : List DF) : Bool :=
  if goesB x.op && !insB o.irs.length x.n then true
  else if x.op = 12 then !insB fs.length x.n || (insB fs.length (fs.getD x.n.toNat default).up && (fs.getD (fs.getD x.n.toNat default).up.toNat default).act == 0)
  else if x.op = 13 then !insB fs.length x.m || (fs.getD x.m.toNat default).act == 0
  else if x.op = 10 then decide (x.n < 0) || decide (x.n > o.regs)
  else false
def badL (o : DO) (l : List Int) : Bool := l.any fun r => !regB o r
def shapedX (o : DO) (x : DI) (fs : List DF) : Bool := decide (1 ≤ x.op) && (decide (x.op ≤ 16) && (decide (x.args.length ≤ 20) && (!swB o x fs && (!badL o (usedL x fs) && ((!setsB x.op || regB o x.d) && !badL o (usesL fs))))))
theorem bad_view {o : DO} {lv : PV} {hp : Hp} {r : RId} {v k : Nat} {c : Nat → PV} (h : lkH hp r = some ⟨v, .obox 1 c⟩) (hc : c 0 = codeP o lv) : NEq (view (k + 3) hp (.func (.func 114) [] [.ptr r v [] 0 0])) (badP o lv) := by
  refine .clos ?_
  rw [view, h]
  simp only [if_true, getAt]
  refine .fptr fun q hq => ?_
  obtain rfl : q = 0 := by omega
  rw [hc]
  exact .refl _
theorem badL_spec (o : DO) (lv : PV) {l : List Int} {b : Bool} (h : badL o l = b) : CallsF Tryz.prog 89 [ints l, badP o lv] (.bool b) := h ▸ badAny_spec o lv l
theorem regB_spec (o : DO) (lv : PV) {r : Int} {b : Bool} (h : regB o r = b) : CallsF Tryz.prog 91 [codeP o lv, .int .i64 r] (.bool b) := h ▸ reg_spec o lv r
theorem insIr_spec (l : List DI) {i : Int} {b : Bool} (h : insB l.length i = b) : CallsF Tryz.prog 31 [dis l, .int .i64 i] (.bool b) := h ▸ insideIr_spec l i
theorem insFr_spec (l : List DF) {i : Int} {b : Bool} (h : insB l.length i = b) : CallsF Tryz.prog 113 [dfs l, .int .i64 i] (.bool b) := h ▸ insideFrame_spec l i
section
variable {o : DO} {x : DI} {fs : List DF}
theorem shX_args (h : ¬ x.args.length ≤ 20) : shapedX o x fs = false := by simp [shapedX, h]
theorem shX_sw (h : swB o x fs = true) : shapedX o x fs = false := by simp [shapedX, h]
theorem shX_bad (h : badL o (usedL x fs) = true) : shapedX o x fs = false := by simp [shapedX, h]
theorem shX_reg (h : setsB x.op = true) (h2 : regB o x.d = false) : shapedX o x fs = false := by simp [shapedX, h, h2]
theorem shX_uses (h : badL o (usesL fs) = true) : shapedX o x fs = false := by simp [shapedX, h]
theorem shX_ok (h1 : 1 ≤ x.op) (h2 : x.op ≤ 16) (h3 : x.args.length ≤ 20) (h4 : swB o x fs = false) (h5 : badL o (usedL x fs) = false) (h6 : setsB x.op = true → regB o x.d = true) (h7 : badL o (usesL fs) = false) : shapedX o x fs = true := by
  simp only [shapedX, h1, h2, h3, h4, h5, h7, decide_true, Bool.true_and, Bool.not_false, Bool.and_true]
  cases hs : setsB x.op with
  | false => rfl
  | true => simp [h6 hs]
end
/-- What is known of an instruction that is looked at. -/
structure ShH (o : DO) (i : Nat) (k : Int) (u : List Int) : Prop where
  hi : i < o.irs.length
  hil : o.irs.length ≤ 6000
  hd : i < o.descs.length
  hdl : o.descs.length ≤ 6000
  hop : (o.irs.getD i default).op = k
  hU : usedL (o.irs.getD i default) (o.descs.getD i []) = u
  hfs : (o.descs.getD i []).length ≤ 1048576 ∧ ∀ f ∈ o.descs.getD i [], f.small
  hfN : frN (o.descs.getD i []) ≤ 6000
  ha : (o.irs.getD i default).args.length ≤ 6000
end Go.Ab
namespace Go.Ab
open Go.Proofs
set_option maxRecDepth 100000
set_option maxHeartbeats 4000000

theorem shaped_out (o : DO) (lv : PV) (i : Nat) (hi : i < o.irs.length) (hil : o.irs.length ≤ 6000) (hd : i < o.descs.length) (hdl : o.descs.length ≤ 6000) (ha : (o.irs.getD i default).args.length ≤ 6000) (hop : (o.irs.getD i default).op < 1 ∨ 16 < (o.irs.getD i default).op) : CallsF Tryz.prog 77 [codeP o lv, .int .i64 i] (.bool (shapedX o (o.irs.getD i default) (o.descs.getD i []))) := by
  have hop1 : (o.irs[i]?.getD default).op < 1 ∨ 16 < (o.irs[i]?.getD default).op := hop
  have ha1 : (o.irs[i]?.getD default).args.length ≤ 6000 := ha
  have hres : shapedX o (o.irs.getD i default) (o.descs.getD i []) = false := by
    unfold shapedX
    rcases hop with h | h
    · rw [decide_eq_false (show ¬ 1 ≤ (o.irs.getD i default).op by omega)]; rfl
    · rw [decide_eq_false (show ¬ (o.irs.getD i default).op ≤ 16 by omega), Bool.false_and, Bool.and_false]
  rw [hres]
  refine callsF_ofS mx Tryz.call77 Tryz.func77 rfl Tryz.ntmps77 Tryz.results77 (by kernel_rfl) (by simp) fun lo => ?_
  repeat' (first | refine vcI ?_ | refine And.intro ?_ ?_ | (intro hq; (try simp at hq); (try (exfalso; omega)); (try (revert hq; intro))))
  all_goals (refine NEq.of_eq ?_; show PV.bool _ = PV.bool _; congr 1)

theorem rowF_eq (op : Int) : rowF op = [usesF op, .bool (setsB op), .bool (fallsB op), .bool (goesB op)] := rfl
structure ShG (o : DO) (i : Nat) : Prop where
  hi : i < o.irs.length
  hil : o.irs.length ≤ 6000
  hd : i < o.descs.length
  hdl : o.descs.length ≤ 6000
  hop : 1 ≤ (o.irs.getD i default).op ∧ (o.irs.getD i default).op ≤ 16
  hfs : (o.descs.getD i []).length ≤ 1048576 ∧ ∀ f ∈ o.descs.getD i [], f.small
  hfN : frN (o.descs.getD i []) ≤ 6000
  ha : (o.irs.getD i default).args.length ≤ 6000
theorem shaped_nF (o : DO) (lv : PV) (i : Nat) (H : ShG o i) (h10 : (o.irs.getD i default).op ≠ 10) (h12 : (o.irs.getD i default).op ≠ 12) (h13 : (o.irs.getD i default).op ≠ 13) (hgo : goesB (o.irs.getD i default).op = false) (hst : setsB (o.irs.getD i default).op = false) : CallsF Tryz.prog 77 [codeP o lv, .int .i64 i] (.bool (shapedX o (o.irs.getD i default) (o.descs.getD i []))) := by
  have hi := H.hi
  have hil := H.hil
  have hd := H.hd
  have hdl := H.hdl
  have hop2 := H.hop
  have hop1 : 1 ≤ (o.irs[i]?.getD default).op ∧ (o.irs[i]?.getD default).op ≤ 16 := hop2
  have ha1 : (o.irs[i]?.getD default).args.length ≤ 6000 := H.ha
  obtain ⟨us, hus⟩ : ∃ us, us = usedL (o.irs.getD i default) (o.descs.getD i []) := ⟨_, rfl⟩
  obtain ⟨ws, hws⟩ : ∃ ws, ws = usesL (o.descs.getD i []) := ⟨_, rfl⟩
  have hU2 : CallsF Tryz.prog 61 [dfs (o.descs.getD i [])] (ints ws) := by rw [hws]; exact symUses _ H.hfs H.hfN
  refine callsF_ofS mx Tryz.call77 Tryz.func77 rfl Tryz.ntmps77 Tryz.results77 (by kernel_rfl) (by simp) fun lo => ?_
  repeat' (first | refine vcI ?_ | refine And.intro ?_ ?_ | (intro hq; (try simp at hq); (try (exfalso; omega)); (try (revert hq; intro))))
  · simp; omega
  · have h20 : ¬ (o.irs.getD i default).args.length ≤ 20 := by
      show ¬ (o.irs[i]?.getD default).args.length ≤ 20
      omega
    repeat' (first | refine vcI ?_ | refine And.intro ?_ ?_ | (intro hq; (try simp at hq); (try (exfalso; omega)); (try (revert hq; intro))))
    (refine NEq.of_eq ?_; show PV.bool _ = PV.bool _; congr 1)
    exact (shX_args h20).symm
  · show 0 ≤ (o.irs.getD i default).op; omega
  · show (o.irs.getD i default).op < _; omega
  · rw [cRow]; decide
  · rw [cRow]; show 0 + 12 + (o.irs.getD i default).op.toNat * 4 + 4 ≤ 81; omega
  · rw [cRow]; decide
  · rw [cRow, row_list o lv hop2 (by show 0 + 12 + (o.irs.getD i default).op.toNat * 4 = _; omega)]; exact row_cells hop2
  · rw [List.length_map, List.length_range, cRow]; decide
  have h20 : (o.irs.getD i default).args.length ≤ 20 := by
    show (o.irs[i]?.getD default).args.length ≤ 20
    omega
  rw [cRow, row_list o lv hop2 (by show 0 + 12 + (o.irs.getD i default).op.toNat * 4 = _; omega)]
  obtain ⟨fn, hu1, hu2⟩ := uses_of o lv i hi (by omega) hd (by omega) H.hfs.1 (by omega) hop2 h10
  rw [← hus] at hu2
  rw [rowF_eq, hu1]
  have n12 : ¬ (o.irs[i]?.getD default).op = 12 := h12
  have n13 : ¬ (o.irs[i]?.getD default).op = 13 := h13
  have n10 : ¬ (o.irs[i]?.getD default).op = 10 := h10
  have hcu := hu2 fun h => absurd h h13
  have hsw0 : (goesB (o.irs.getD i default).op && !insB o.irs.length (o.irs.getD i default).n) = false → swB o (o.irs.getD i default) (o.descs.getD i []) = false := fun h => by unfold swB; rw [h, if_neg (by simp), if_neg h12, if_neg h13, if_neg h10]
  have hsw := hsw0 (by rw [hgo]; rfl)
  rw [hgo, hst]
  repeat' (first | refine vcI ?_ | refine And.intro ?_ ?_ | (intro hq; (try simp at hq); (try (exfalso; omega)); (try (revert hq; intro))))
  refine QS.frozen (ints us) hcu (plainAll rfl) ?_
  repeat' (first | refine vcI ?_ | refine And.intro ?_ ?_ | (intro hq; (try simp at hq); (try (exfalso; omega)); (try (revert hq; intro))))
  rcases hbu : badL o us with _ | _
  · refine CallS.plain [ints us, badP o lv] (.bool false) (badL_spec o lv hbu) (LeL.cons (.refl _) (LeL.cons (bad_view rfl rfl) LeL.nil)) trivial ?_
    repeat' (first | refine vcI ?_ | refine And.intro ?_ ?_ | (intro hq; (try simp at hq); (try (exfalso; omega)); (try (revert hq; intro))))
    refine QS.frozen (ints ws) hU2 (plainAll rfl) ?_
    repeat' (first | refine vcI ?_ | refine And.intro ?_ ?_ | (intro hq; (try simp at hq); (try (exfalso; omega)); (try (revert hq; intro))))
    rcases hbw : badL o ws with _ | _
    · refine CallS.plain [ints ws, badP o lv] (.bool false) (badL_spec o lv hbw) (LeL.cons (.refl _) (LeL.cons (bad_view rfl rfl) LeL.nil)) trivial ?_
      repeat' (first | refine vcI ?_ | refine And.intro ?_ ?_ | (intro hq; (try simp at hq); (try (exfalso; omega)); (try (revert hq; intro))))
      (refine NEq.of_eq ?_; show PV.bool _ = PV.bool _; congr 1)
      exact (shX_ok hop2.1 hop2.2 h20 hsw (by rw [← hus]; exact hbu) (fun h => by rw [hst] at h; cases h) (by rw [← hws]; exact hbw)).symm
    · refine CallS.plain [ints ws, badP o lv] (.bool true) (badL_spec o lv hbw) (LeL.cons (.refl _) (LeL.cons (bad_view rfl rfl) LeL.nil)) trivial ?_
      repeat' (first | refine vcI ?_ | refine And.intro ?_ ?_ | (intro hq; (try simp at hq); (try (exfalso; omega)); (try (revert hq; intro))))
      (refine NEq.of_eq ?_; show PV.bool _ = PV.bool _; congr 1)
      exact (shX_uses (by rw [← hws]; exact hbw)).symm
  · refine CallS.plain [ints us, badP o lv] (.bool true) (badL_spec o lv hbu) (LeL.cons (.refl _) (LeL.cons (bad_view rfl rfl) LeL.nil)) trivial ?_
    repeat' (first | refine vcI ?_ | refine And.intro ?_ ?_ | (intro hq; (try simp at hq); (try (exfalso; omega)); (try (revert hq; intro))))
    (refine NEq.of_eq ?_; show PV.bool _ = PV.bool _; congr 1)
    exact (shX_bad (by rw [← hus]; exact hbu)).symm
theorem shaped_gF (o : DO) (lv : PV) (i : Nat) (H : ShG o i) (h10 : (o.irs.getD i default).op ≠ 10) (h12 : (o.irs.getD i default).op ≠ 12) (h13 : (o.irs.getD i default).op ≠ 13) (hgo : goesB (o.irs.getD i default).op = true) (hin : insB o.irs.length (o.irs.getD i default).n = true) (hst : setsB (o.irs.getD i default).op = false) : CallsF Tryz.prog 77 [codeP o lv, .int .i64 i] (.bool (shapedX o (o.irs.getD i default) (o.descs.getD i []))) := by
  have hi := H.hi
  have hil := H.hil
  have hd := H.hd
  have hdl := H.hdl
  have hop2 := H.hop
  have hop1 : 1 ≤ (o.irs[i]?.getD default).op ∧ (o.irs[i]?.getD default).op ≤ 16 := hop2
  have ha1 : (o.irs[i]?.getD default).args.length ≤ 6000 := H.ha
  obtain ⟨us, hus⟩ : ∃ us, us = usedL (o.irs.getD i default) (o.descs.getD i []) := ⟨_, rfl⟩
  obtain ⟨ws, hws⟩ : ∃ ws, ws = usesL (o.descs.getD i []) := ⟨_, rfl⟩
  have hU2 : CallsF Tryz.prog 61 [dfs (o.descs.getD i [])] (ints ws) := by rw [hws]; exact symUses _ H.hfs H.hfN
  refine callsF_ofS mx Tryz.call77 Tryz.func77 rfl Tryz.ntmps77 Tryz.results77 (by kernel_rfl) (by simp) fun lo => ?_
  repeat' (first | refine vcI ?_ | refine And.intro ?_ ?_ | (intro hq; (try simp at hq); (try (exfalso; omega)); (try (revert hq; intro))))
  · simp; omega
  · have h20 : ¬ (o.irs.getD i default).args.length ≤ 20 := by
      show ¬ (o.irs[i]?.getD default).args.length ≤ 20
      omega
    repeat' (first | refine vcI ?_ | refine And.intro ?_ ?_ | (intro hq; (try simp at hq); (try (exfalso; omega)); (try (revert hq; intro))))
    (refine NEq.of_eq ?_; show PV.bool _ = PV.bool _; congr 1)
    exact (shX_args h20).symm
  · show 0 ≤ (o.irs.getD i default).op; omega
  · show (o.irs.getD i default).op < _; omega
  · rw [cRow]; decide
  · rw [cRow]; show 0 + 12 + (o.irs.getD i default).op.toNat * 4 + 4 ≤ 81; omega
  · rw [cRow]; decide
  · rw [cRow, row_list o lv hop2 (by show 0 + 12 + (o.irs.getD i default).op.toNat * 4 = _; omega)]; exact row_cells hop2
  · rw [List.length_map, List.length_range, cRow]; decide
  have h20 : (o.irs.getD i default).args.length ≤ 20 := by
    show (o.irs[i]?.getD default).args.length ≤ 20
    omega
  rw [cRow, row_list o lv hop2 (by show 0 + 12 + (o.irs.getD i default).op.toNat * 4 = _; omega)]
  obtain ⟨fn, hu1, hu2⟩ := uses_of o lv i hi (by omega) hd (by omega) H.hfs.1 (by omega) hop2 h10
  rw [← hus] at hu2
  rw [rowF_eq, hu1]
  have n12 : ¬ (o.irs[i]?.getD default).op = 12 := h12
  have n13 : ¬ (o.irs[i]?.getD default).op = 13 := h13
  have n10 : ¬ (o.irs[i]?.getD default).op = 10 := h10
  have hcu := hu2 fun h => absurd h h13
  have hsw0 : (goesB (o.irs.getD i default).op && !insB o.irs.length (o.irs.getD i default).n) = false → swB o (o.irs.getD i default) (o.descs.getD i []) = false := fun h => by unfold swB; rw [h, if_neg (by simp), if_neg h12, if_neg h13, if_neg h10]
  have hsw := hsw0 (by rw [hgo, hin]; rfl)
  rw [hgo, hst]
  repeat' (first | refine vcI ?_ | refine And.intro ?_ ?_ | (intro hq; (try simp at hq); (try (exfalso; omega)); (try (revert hq; intro))))
  refine CallS.frozen (.bool true) (insIr_spec o.irs hin) (plainAll rfl) ?_
  repeat' (first | refine vcI ?_ | refine And.intro ?_ ?_ | (intro hq; (try simp at hq); (try (exfalso; omega)); (try (revert hq; intro))))
  refine QS.frozen (ints us) hcu (plainAll rfl) ?_
  repeat' (first | refine vcI ?_ | refine And.intro ?_ ?_ | (intro hq; (try simp at hq); (try (exfalso; omega)); (try (revert hq; intro))))
  rcases hbu : badL o us with _ | _
  · refine CallS.plain [ints us, badP o lv] (.bool false) (badL_spec o lv hbu) (LeL.cons (.refl _) (LeL.cons (bad_view rfl rfl) LeL.nil)) trivial ?_
    repeat' (first | refine vcI ?_ | refine And.intro ?_ ?_ | (intro hq; (try simp at hq); (try (exfalso; omega)); (try (revert hq; intro))))
    refine QS.frozen (ints ws) hU2 (plainAll rfl) ?_
    repeat' (first | refine vcI ?_ | refine And.intro ?_ ?_ | (intro hq; (try simp at hq); (try (exfalso; omega)); (try (revert hq; intro))))
    rcases hbw : badL o ws with _ | _
    · refine CallS.plain [ints ws, badP o lv] (.bool false) (badL_spec o lv hbw) (LeL.cons (.refl _) (LeL.cons (bad_view rfl rfl) LeL.nil)) trivial ?_
      repeat' (first | refine vcI ?_ | refine And.intro ?_ ?_ | (intro hq; (try simp at hq); (try (exfalso; omega)); (try (revert hq; intro))))
      (refine NEq.of_eq ?_; show PV.bool _ = PV.bool _; congr 1)
      exact (shX_ok hop2.1 hop2.2 h20 hsw (by rw [← hus]; exact hbu) (fun h => by rw [hst] at h; cases h) (by rw [← hws]; exact hbw)).symm
    · refine CallS.plain [ints ws, badP o lv] (.bool true) (badL_spec o lv hbw) (LeL.cons (.refl _) (LeL.cons (bad_view rfl rfl) LeL.nil)) trivial ?_
      repeat' (first | refine vcI ?_ | refine And.intro ?_ ?_ | (intro hq; (try simp at hq); (try (exfalso; omega)); (try (revert hq; intro))))
      (refine NEq.of_eq ?_; show PV.bool _ = PV.bool _; congr 1)
      exact (shX_uses (by rw [← hws]; exact hbw)).symm
  · refine CallS.plain [ints us, badP o lv] (.bool true) (badL_spec o lv hbu) (LeL.cons (.refl _) (LeL.cons (bad_view rfl rfl) LeL.nil)) trivial ?_
    repeat' (first | refine vcI ?_ | refine And.intro ?_ ?_ | (intro hq; (try simp at hq); (try (exfalso; omega)); (try (revert hq; intro))))
    (refine NEq.of_eq ?_; show PV.bool _ = PV.bool _; congr 1)
    exact (shX_bad (by rw [← hus]; exact hbu)).symm
theorem shaped_nT (o : DO) (lv : PV) (i : Nat) (H : ShG o i) (h10 : (o.irs.getD i default).op ≠ 10) (h12 : (o.irs.getD i default).op ≠ 12) (h13 : (o.irs.getD i default).op ≠ 13) (hgo : goesB (o.irs.getD i default).op = false) (hst : setsB (o.irs.getD i default).op = true) : CallsF Tryz.prog 77 [codeP o lv, .int .i64 i] (.bool (shapedX o (o.irs.getD i default) (o.descs.getD i []))) := by
  have hi := H.hi
  have hil := H.hil
  have hd := H.hd
  have hdl := H.hdl
  have hop2 := H.hop
  have hop1 : 1 ≤ (o.irs[i]?.getD default).op ∧ (o.irs[i]?.getD default).op ≤ 16 := hop2
  have ha1 : (o.irs[i]?.getD default).args.length ≤ 6000 := H.ha
  obtain ⟨us, hus⟩ : ∃ us, us = usedL (o.irs.getD i default) (o.descs.getD i []) := ⟨_, rfl⟩
  obtain ⟨ws, hws⟩ : ∃ ws, ws = usesL (o.descs.getD i []) := ⟨_, rfl⟩
  have hU2 : CallsF Tryz.prog 61 [dfs (o.descs.getD i [])] (ints ws) := by rw [hws]; exact symUses _ H.hfs H.hfN
  refine callsF_ofS mx Tryz.call77 Tryz.func77 rfl Tryz.ntmps77 Tryz.results77 (by kernel_rfl) (by simp) fun lo => ?_
  repeat' (first | refine vcI ?_ | refine And.intro ?_ ?_ | (intro hq; (try simp at hq); (try (exfalso; omega)); (try (revert hq; intro))))
  · simp; omega
  · have h20 : ¬ (o.irs.getD i default).args.length ≤ 20 := by
      show ¬ (o.irs[i]?.getD default).args.length ≤ 20
      omega
    repeat' (first | refine vcI ?_ | refine And.intro ?_ ?_ | (intro hq; (try simp at hq); (try (exfalso; omega)); (try (revert hq; intro))))
    (refine NEq.of_eq ?_; show PV.bool _ = PV.bool _; congr 1)
    exact (shX_args h20).symm
  · show 0 ≤ (o.irs.getD i default).op; omega
  · show (o.irs.getD i default).op < _; omega
  · rw [cRow]; decide
  · rw [cRow]; show 0 + 12 + (o.irs.getD i default).op.toNat * 4 + 4 ≤ 81; omega
  · rw [cRow]; decide
  · rw [cRow, row_list o lv hop2 (by show 0 + 12 + (o.irs.getD i default).op.toNat * 4 = _; omega)]; exact row_cells hop2
  · rw [List.length_map, List.length_range, cRow]; decide
  have h20 : (o.irs.getD i default).args.length ≤ 20 := by
    show (o.irs[i]?.getD default).args.length ≤ 20
    omega
  rw [cRow, row_list o lv hop2 (by show 0 + 12 + (o.irs.getD i default).op.toNat * 4 = _; omega)]
  obtain ⟨fn, hu1, hu2⟩ := uses_of o lv i hi (by omega) hd (by omega) H.hfs.1 (by omega) hop2 h10
  rw [← hus] at hu2
  rw [rowF_eq, hu1]
  have n12 : ¬ (o.irs[i]?.getD default).op = 12 := h12
  have n13 : ¬ (o.irs[i]?.getD default).op = 13 := h13
  have n10 : ¬ (o.irs[i]?.getD default).op = 10 := h10
  have hcu := hu2 fun h => absurd h h13
  have hsw0 : (goesB (o.irs.getD i default).op && !insB o.irs.length (o.irs.getD i default).n) = false → swB o (o.irs.getD i default) (o.descs.getD i []) = false := fun h => by unfold swB; rw [h, if_neg (by simp), if_neg h12, if_neg h13, if_neg h10]
  have hsw := hsw0 (by rw [hgo]; rfl)
  rw [hgo, hst]
  repeat' (first | refine vcI ?_ | refine And.intro ?_ ?_ | (intro hq; (try simp at hq); (try (exfalso; omega)); (try (revert hq; intro))))
  refine QS.frozen (ints us) hcu (plainAll rfl) ?_
  repeat' (first | refine vcI ?_ | refine And.intro ?_ ?_ | (intro hq; (try simp at hq); (try (exfalso; omega)); (try (revert hq; intro))))
  rcases hbu : badL o us with _ | _
  · refine CallS.plain [ints us, badP o lv] (.bool false) (badL_spec o lv hbu) (LeL.cons (.refl _) (LeL.cons (bad_view rfl rfl) LeL.nil)) trivial ?_
    repeat' (first | refine vcI ?_ | refine And.intro ?_ ?_ | (intro hq; (try simp at hq); (try (exfalso; omega)); (try (revert hq; intro))))
    rcases hbr : regB o (o.irs.getD i default).d with _ | _
    · refine CallS.frozen (.bool false) (regB_spec o lv hbr) (plainAll rfl) ?_
      repeat' (first | refine vcI ?_ | refine And.intro ?_ ?_ | (intro hq; (try simp at hq); (try (exfalso; omega)); (try (revert hq; intro))))
      (refine NEq.of_eq ?_; show PV.bool _ = PV.bool _; congr 1)
      exact (shX_reg hst hbr).symm
    · refine CallS.frozen (.bool true) (regB_spec o lv hbr) (plainAll rfl) ?_
      repeat' (first | refine vcI ?_ | refine And.intro ?_ ?_ | (intro hq; (try simp at hq); (try (exfalso; omega)); (try (revert hq; intro))))
      refine QS.frozen (ints ws) hU2 (plainAll rfl) ?_
      repeat' (first | refine vcI ?_ | refine And.intro ?_ ?_ | (intro hq; (try simp at hq); (try (exfalso; omega)); (try (revert hq; intro))))
      rcases hbw : badL o ws with _ | _
      · refine CallS.plain [ints ws, badP o lv] (.bool false) (badL_spec o lv hbw) (LeL.cons (.refl _) (LeL.cons (bad_view rfl rfl) LeL.nil)) trivial ?_
        repeat' (first | refine vcI ?_ | refine And.intro ?_ ?_ | (intro hq; (try simp at hq); (try (exfalso; omega)); (try (revert hq; intro))))
        (refine NEq.of_eq ?_; show PV.bool _ = PV.bool _; congr 1)
        exact (shX_ok hop2.1 hop2.2 h20 hsw (by rw [← hus]; exact hbu) (fun _ => hbr) (by rw [← hws]; exact hbw)).symm
      · refine CallS.plain [ints ws, badP o lv] (.bool true) (badL_spec o lv hbw) (LeL.cons (.refl _) (LeL.cons (bad_view rfl rfl) LeL.nil)) trivial ?_
        repeat' (first | refine vcI ?_ | refine And.intro ?_ ?_ | (intro hq; (try simp at hq); (try (exfalso; omega)); (try (revert hq; intro))))
        (refine NEq.of_eq ?_; show PV.bool _ = PV.bool _; congr 1)
        exact (shX_uses (by rw [← hws]; exact hbw)).symm
  · refine CallS.plain [ints us, badP o lv] (.bool true) (badL_spec o lv hbu) (LeL.cons (.refl _) (LeL.cons (bad_view rfl rfl) LeL.nil)) trivial ?_
    repeat' (first | refine vcI ?_ | refine And.intro ?_ ?_ | (intro hq; (try simp at hq); (try (exfalso; omega)); (try (revert hq; intro))))
    (refine NEq.of_eq ?_; show PV.bool _ = PV.bool _; congr 1)
    exact (shX_bad (by rw [← hus]; exact hbu)).symm
theorem shaped_gT (o : DO) (lv : PV) (i : Nat) (H : ShG o i) (h10 : (o.irs.getD i default).op ≠ 10) (h12 : (o.irs.getD i default).op ≠ 12) (h13 : (o.irs.getD i default).op ≠ 13) (hgo : goesB (o.irs.getD i default).op = true) (hin : insB o.irs.length (o.irs.getD i default).n = true) (hst : setsB (o.irs.getD i default).op = true) : CallsF Tryz.prog 77 [codeP o lv, .int .i64 i] (.bool (shapedX o (o.irs.getD i default) (o.descs.getD i []))) := by
  have hi := H.hi
  have hil := H.hil
  have hd := H.hd
  have hdl := H.hdl
  have hop2 := H.hop
  have hop1 : 1 ≤ (o.irs[i]?.getD default).op ∧ (o.irs[i]?.getD default).op ≤ 16 := hop2
  have ha1 : (o.irs[i]?.getD default).args.length ≤ 6000 := H.ha
  obtain ⟨us, hus⟩ : ∃ us, us = usedL (o.irs.getD i default) (o.descs.getD i []) := ⟨_, rfl⟩
  obtain ⟨ws, hws⟩ : ∃ ws, ws = usesL (o.descs.getD i []) := ⟨_, rfl⟩
  have hU2 : CallsF Tryz.prog 61 [dfs (o.descs.getD i [])] (ints ws) := by rw [hws]; exact symUses _ H.hfs H.hfN
  refine callsF_ofS mx Tryz.call77 Tryz.func77 rfl Tryz.ntmps77 Tryz.results77 (by kernel_rfl) (by simp) fun lo => ?_
  repeat' (first | refine vcI ?_ | refine And.intro ?_ ?_ | (intro hq; (try simp at hq); (try (exfalso; omega)); (try (revert hq; intro))))
  · simp; omega
  · have h20 : ¬ (o.irs.getD i default).args.length ≤ 20 := by
      show ¬ (o.irs[i]?.getD default).args.length ≤ 20
      omega
    repeat' (first | refine vcI ?_ | refine And.intro ?_ ?_ | (intro hq; (try simp at hq); (try (exfalso; omega)); (try (revert hq; intro))))
    (refine NEq.of_eq ?_; show PV.bool _ = PV.bool _; congr 1)
    exact (shX_args h20).symm
  · show 0 ≤ (o.irs.getD i default).op; omega
  · show (o.irs.getD i default).op < _; omega
  · rw [cRow]; decide
  · rw [cRow]; show 0 + 12 + (o.irs.getD i default).op.toNat * 4 + 4 ≤ 81; omega
  · rw [cRow]; decide
  · rw [cRow, row_list o lv hop2 (by show 0 + 12 + (o.irs.getD i default).op.toNat * 4 = _; omega)]; exact row_cells hop2
  · rw [List.length_map, List.length_range, cRow]; decide
  have h20 : (o.irs.getD i default).args.length ≤ 20 := by
    show (o.irs[i]?.getD default).args.length ≤ 20
    omega
  rw [cRow, row_list o lv hop2 (by show 0 + 12 + (o.irs.getD i default).op.toNat * 4 = _; omega)]
  obtain ⟨fn, hu1, hu2⟩ := uses_of o lv i hi (by omega) hd (by omega) H.hfs.1 (by omega) hop2 h10
  rw [← hus] at hu2
  rw [rowF_eq, hu1]
  have n12 : ¬ (o.irs[i]?.getD default).op = 12 := h12
  have n13 : ¬ (o.irs[i]?.getD default).op = 13 := h13
  have n10 : ¬ (o.irs[i]?.getD default).op = 10 := h10
  have hcu := hu2 fun h => absurd h h13
  have hsw0 : (goesB (o.irs.getD i default).op && !insB o.irs.length (o.irs.getD i default).n) = false → swB o (o.irs.getD i default) (o.descs.getD i []) = false := fun h => by unfold swB; rw [h, if_neg (by simp), if_neg h12, if_neg h13, if_neg h10]
  have hsw := hsw0 (by rw [hgo, hin]; rfl)
  rw [hgo, hst]
  repeat' (first | refine vcI ?_ | refine And.intro ?_ ?_ | (intro hq; (try simp at hq); (try (exfalso; omega)); (try (revert hq; intro))))
  refine CallS.frozen (.bool true) (insIr_spec o.irs hin) (plainAll rfl) ?_
  repeat' (first | refine vcI ?_ | refine And.intro ?_ ?_ | (intro hq; (try simp at hq); (try (exfalso; omega)); (try (revert hq; intro))))
  refine QS.frozen (ints us) hcu (plainAll rfl) ?_
  repeat' (first | refine vcI ?_ | refine And.intro ?_ ?_ | (intro hq; (try simp at hq); (try (exfalso; omega)); (try (revert hq; intro))))
  rcases hbu : badL o us with _ | _
  · refine CallS.plain [ints us, badP o lv] (.bool false) (badL_spec o lv hbu) (LeL.cons (.refl _) (LeL.cons (bad_view rfl rfl) LeL.nil)) trivial ?_
    repeat' (first | refine vcI ?_ | refine And.intro ?_ ?_ | (intro hq; (try simp at hq); (try (exfalso; omega)); (try (revert hq; intro))))
    rcases hbr : regB o (o.irs.getD i default).d with _ | _
    · refine CallS.frozen (.bool false) (regB_spec o lv hbr) (plainAll rfl) ?_
      repeat' (first | refine vcI ?_ | refine And.intro ?_ ?_ | (intro hq; (try simp at hq); (try (exfalso; omega)); (try (revert hq; intro))))
      (refine NEq.of_eq ?_; show PV.bool _ = PV.bool _; congr 1)
      exact (shX_reg hst hbr).symm
    · refine CallS.frozen (.bool true) (regB_spec o lv hbr) (plainAll rfl) ?_
      repeat' (first | refine vcI ?_ | refine And.intro ?_ ?_ | (intro hq; (try simp at hq); (try (exfalso; omega)); (try (revert hq; intro))))
      refine QS.frozen (ints ws) hU2 (plainAll rfl) ?_
      repeat' (first | refine vcI ?_ | refine And.intro ?_ ?_ | (intro hq; (try simp at hq); (try (exfalso; omega)); (try (revert hq; intro))))
      rcases hbw : badL o ws with _ | _
      · refine CallS.plain [ints ws, badP o lv] (.bool false) (badL_spec o lv hbw) (LeL.cons (.refl _) (LeL.cons (bad_view rfl rfl) LeL.nil)) trivial ?_
        repeat' (first | refine vcI ?_ | refine And.intro ?_ ?_ | (intro hq; (try simp at hq); (try (exfalso; omega)); (try (revert hq; intro))))
        (refine NEq.of_eq ?_; show PV.bool _ = PV.bool _; congr 1)
        exact (shX_ok hop2.1 hop2.2 h20 hsw (by rw [← hus]; exact hbu) (fun _ => hbr) (by rw [← hws]; exact hbw)).symm
      · refine CallS.plain [ints ws, badP o lv] (.bool true) (badL_spec o lv hbw) (LeL.cons (.refl _) (LeL.cons (bad_view rfl rfl) LeL.nil)) trivial ?_
        repeat' (first | refine vcI ?_ | refine And.intro ?_ ?_ | (intro hq; (try simp at hq); (try (exfalso; omega)); (try (revert hq; intro))))
        (refine NEq.of_eq ?_; show PV.bool _ = PV.bool _; congr 1)
        exact (shX_uses (by rw [← hws]; exact hbw)).symm
  · refine CallS.plain [ints us, badP o lv] (.bool true) (badL_spec o lv hbu) (LeL.cons (.refl _) (LeL.cons (bad_view rfl rfl) LeL.nil)) trivial ?_
    repeat' (first | refine vcI ?_ | refine And.intro ?_ ?_ | (intro hq; (try simp at hq); (try (exfalso; omega)); (try (revert hq; intro))))
    (refine NEq.of_eq ?_; show PV.bool _ = PV.bool _; congr 1)
    exact (shX_bad (by rw [← hus]; exact hbu)).symm
theorem shaped_go (o : DO) (lv : PV) (i : Nat) (H : ShG o i) (h10 : (o.irs.getD i default).op ≠ 10) (hgo : goesB (o.irs.getD i default).op = true) (hin : insB o.irs.length (o.irs.getD i default).n = false) : CallsF Tryz.prog 77 [codeP o lv, .int .i64 i] (.bool (shapedX o (o.irs.getD i default) (o.descs.getD i []))) := by
  have hi := H.hi
  have hil := H.hil
  have hd := H.hd
  have hdl := H.hdl
  have hop2 := H.hop
  have hop1 : 1 ≤ (o.irs[i]?.getD default).op ∧ (o.irs[i]?.getD default).op ≤ 16 := hop2
  have ha1 : (o.irs[i]?.getD default).args.length ≤ 6000 := H.ha
  obtain ⟨us, hus⟩ : ∃ us, us = usedL (o.irs.getD i default) (o.descs.getD i []) := ⟨_, rfl⟩
  obtain ⟨ws, hws⟩ : ∃ ws, ws = usesL (o.descs.getD i []) := ⟨_, rfl⟩
  have hU2 : CallsF Tryz.prog 61 [dfs (o.descs.getD i [])] (ints ws) := by rw [hws]; exact symUses _ H.hfs H.hfN
  refine callsF_ofS mx Tryz.call77 Tryz.func77 rfl Tryz.ntmps77 Tryz.results77 (by kernel_rfl) (by simp) fun lo => ?_
  repeat' (first | refine vcI ?_ | refine And.intro ?_ ?_ | (intro hq; (try simp at hq); (try (exfalso; omega)); (try (revert hq; intro))))
  · simp; omega
  · have h20 : ¬ (o.irs.getD i default).args.length ≤ 20 := by
      show ¬ (o.irs[i]?.getD default).args.length ≤ 20
      omega
    repeat' (first | refine vcI ?_ | refine And.intro ?_ ?_ | (intro hq; (try simp at hq); (try (exfalso; omega)); (try (revert hq; intro))))
    (refine NEq.of_eq ?_; show PV.bool _ = PV.bool _; congr 1)
    exact (shX_args h20).symm
  · show 0 ≤ (o.irs.getD i default).op; omega
  · show (o.irs.getD i default).op < _; omega
  · rw [cRow]; decide
  · rw [cRow]; show 0 + 12 + (o.irs.getD i default).op.toNat * 4 + 4 ≤ 81; omega
  · rw [cRow]; decide
  · rw [cRow, row_list o lv hop2 (by show 0 + 12 + (o.irs.getD i default).op.toNat * 4 = _; omega)]; exact row_cells hop2
  · rw [List.length_map, List.length_range, cRow]; decide
  have h20 : (o.irs.getD i default).args.length ≤ 20 := by
    show (o.irs[i]?.getD default).args.length ≤ 20
    omega
  rw [cRow, row_list o lv hop2 (by show 0 + 12 + (o.irs.getD i default).op.toNat * 4 = _; omega)]
  obtain ⟨fn, hu1, hu2⟩ := uses_of o lv i hi (by omega) hd (by omega) H.hfs.1 (by omega) hop2 h10
  rw [← hus] at hu2
  rw [rowF_eq, hu1]
  have hsw : swB o (o.irs.getD i default) (o.descs.getD i []) = true := by unfold swB; rw [hgo, hin]; rfl
  rw [hgo]
  repeat' (first | refine vcI ?_ | refine And.intro ?_ ?_ | (intro hq; (try simp at hq); (try (exfalso; omega)); (try (revert hq; intro))))
  refine CallS.frozen (.bool false) (insIr_spec o.irs hin) (plainAll rfl) ?_
  repeat' (first | refine vcI ?_ | refine And.intro ?_ ?_ | (intro hq; (try simp at hq); (try (exfalso; omega)); (try (revert hq; intro))))
  (refine NEq.of_eq ?_; show PV.bool _ = PV.bool _; congr 1)
  exact (shX_sw hsw).symm
theorem shaped_10 (o : DO) (lv : PV) (i : Nat) (H : ShG o i) (h10 : (o.irs.getD i default).op = 10) : CallsF Tryz.prog 77 [codeP o lv, .int .i64 i] (.bool (shapedX o (o.irs.getD i default) (o.descs.getD i []))) := by
  have hi := H.hi
  have hil := H.hil
  have hd := H.hd
  have hdl := H.hdl
  have hop2 := H.hop
  have hop1 : 1 ≤ (o.irs[i]?.getD default).op ∧ (o.irs[i]?.getD default).op ≤ 16 := hop2
  have ha1 : (o.irs[i]?.getD default).args.length ≤ 6000 := H.ha
  obtain ⟨us, hus⟩ : ∃ us, us = usedL (o.irs.getD i default) (o.descs.getD i []) := ⟨_, rfl⟩
  obtain ⟨ws, hws⟩ : ∃ ws, ws = usesL (o.descs.getD i []) := ⟨_, rfl⟩
  have hU2 : CallsF Tryz.prog 61 [dfs (o.descs.getD i [])] (ints ws) := by rw [hws]; exact symUses _ H.hfs H.hfN
  refine callsF_ofS mx Tryz.call77 Tryz.func77 rfl Tryz.ntmps77 Tryz.results77 (by kernel_rfl) (by simp) fun lo => ?_
  repeat' (first | refine vcI ?_ | refine And.intro ?_ ?_ | (intro hq; (try simp at hq); (try (exfalso; omega)); (try (revert hq; intro))))
  · simp; omega
  · have h20 : ¬ (o.irs.getD i default).args.length ≤ 20 := by
      show ¬ (o.irs[i]?.getD default).args.length ≤ 20
      omega
    repeat' (first | refine vcI ?_ | refine And.intro ?_ ?_ | (intro hq; (try simp at hq); (try (exfalso; omega)); (try (revert hq; intro))))
    (refine NEq.of_eq ?_; show PV.bool _ = PV.bool _; congr 1)
    exact (shX_args h20).symm
  · show 0 ≤ (o.irs.getD i default).op; omega
  · show (o.irs.getD i default).op < _; omega
  · rw [cRow]; decide
  · rw [cRow]; show 0 + 12 + (o.irs.getD i default).op.toNat * 4 + 4 ≤ 81; omega
  · rw [cRow]; decide
  · rw [cRow, row_list o lv hop2 (by show 0 + 12 + (o.irs.getD i default).op.toNat * 4 = _; omega)]; exact row_cells hop2
  · rw [List.length_map, List.length_range, cRow]; decide
  have h20 : (o.irs.getD i default).args.length ≤ 20 := by
    show (o.irs[i]?.getD default).args.length ≤ 20
    omega
  rw [cRow, row_list o lv hop2 (by show 0 + 12 + (o.irs.getD i default).op.toNat * 4 = _; omega)]
  have hcu := uses_ret o lv i hi (by omega) h10
  rw [← hus] at hcu
  have hst : setsB (o.irs.getD i default).op = false := by rw [h10]; rfl
  have hop4 : (o.irs[i]?.getD default).op = 10 := h10
  have hop3 : (o.irs.getD (i : Int).toNat default).op = 10 := h10
  rw [show rowF (o.irs.getD i default).op = [uRet, .bool false, .bool false, .bool false] by rw [h10]; rfl, hop3]
  repeat' (first | refine vcI ?_ | refine And.intro ?_ ?_ | (intro hq; (try simp at hq); (try (exfalso; omega)); (try (revert hq; intro))))
  · rename_i h0
    show (((o.irs.getD (i : Int).toNat default).op == 10) == true && (((o.irs.getD (i : Int).toNat default).op == 10) == true && decide ((o.irs.getD (i : Int).toNat default).n < 0) == false)) = true
    have h1 : ¬ (o.irs.getD (i : Int).toNat default).n < 0 := by
      show ¬ (o.irs[i]?.getD default).n < 0
      omega
    rw [hop3, decide_eq_false h1]; rfl
  · rename_i h0
    have hsw : swB o (o.irs.getD i default) (o.descs.getD i []) = true := by
      unfold swB
      rw [h10]
      show (decide ((o.irs.getD i default).n < 0) || decide ((o.irs.getD i default).n > o.regs)) = true
      rw [Bool.or_eq_true, decide_eq_true_eq, decide_eq_true_eq]
      exact h0.2
    repeat' (first | refine vcI ?_ | refine And.intro ?_ ?_ | (intro hq; (try simp at hq); (try (exfalso; omega)); (try (revert hq; intro))))
    (refine NEq.of_eq ?_; show PV.bool _ = PV.bool _; congr 1)
    exact (shX_sw hsw).symm
  · rename_i h0 _
    have hsw : swB o (o.irs.getD i default) (o.descs.getD i []) = false := by
      unfold swB
      rw [h10]
      show (decide ((o.irs.getD i default).n < 0) || decide ((o.irs.getD i default).n > o.regs)) = false
      have h1 := h0 hop4
      have h2 : 0 ≤ (o.irs.getD i default).n ∧ (o.irs.getD i default).n ≤ o.regs := h1
      rw [decide_eq_false (by omega), decide_eq_false (by omega)]; rfl
    refine QS.frozen (ints us) hcu (plainAll rfl) ?_
    repeat' (first | refine vcI ?_ | refine And.intro ?_ ?_ | (intro hq; (try simp at hq); (try (exfalso; omega)); (try (revert hq; intro))))
    rcases hbu : badL o us with _ | _
    · refine CallS.plain [ints us, badP o lv] (.bool false) (badL_spec o lv hbu) (LeL.cons (.refl _) (LeL.cons (bad_view rfl rfl) LeL.nil)) trivial ?_
      repeat' (first | refine vcI ?_ | refine And.intro ?_ ?_ | (intro hq; (try simp at hq); (try (exfalso; omega)); (try (revert hq; intro))))
      refine QS.frozen (ints ws) hU2 (plainAll rfl) ?_
      repeat' (first | refine vcI ?_ | refine And.intro ?_ ?_ | (intro hq; (try simp at hq); (try (exfalso; omega)); (try (revert hq; intro))))
      rcases hbw : badL o ws with _ | _
      · refine CallS.plain [ints ws, badP o lv] (.bool false) (badL_spec o lv hbw) (LeL.cons (.refl _) (LeL.cons (bad_view rfl rfl) LeL.nil)) trivial ?_
        repeat' (first | refine vcI ?_ | refine And.intro ?_ ?_ | (intro hq; (try simp at hq); (try (exfalso; omega)); (try (revert hq; intro))))
        (refine NEq.of_eq ?_; show PV.bool _ = PV.bool _; congr 1)
        exact (shX_ok hop2.1 hop2.2 h20 hsw (by rw [← hus]; exact hbu) (fun h => by rw [hst] at h; cases h) (by rw [← hws]; exact hbw)).symm
      · refine CallS.plain [ints ws, badP o lv] (.bool true) (badL_spec o lv hbw) (LeL.cons (.refl _) (LeL.cons (bad_view rfl rfl) LeL.nil)) trivial ?_
        repeat' (first | refine vcI ?_ | refine And.intro ?_ ?_ | (intro hq; (try simp at hq); (try (exfalso; omega)); (try (revert hq; intro))))
        (refine NEq.of_eq ?_; show PV.bool _ = PV.bool _; congr 1)
        exact (shX_uses (by rw [← hws]; exact hbw)).symm
    · refine CallS.plain [ints us, badP o lv] (.bool true) (badL_spec o lv hbu) (LeL.cons (.refl _) (LeL.cons (bad_view rfl rfl) LeL.nil)) trivial ?_
      repeat' (first | refine vcI ?_ | refine And.intro ?_ ?_ | (intro hq; (try simp at hq); (try (exfalso; omega)); (try (revert hq; intro))))
      (refine NEq.of_eq ?_; show PV.bool _ = PV.bool _; congr 1)
      exact (shX_bad (by rw [← hus]; exact hbu)).symm
end Go.Ab
namespace Go.Ab
open Go.Proofs
set_option maxRecDepth 100000
set_option maxHeartbeats 4000000
theorem shaped_12 (o : DO) (lv : PV) (i : Nat) (H : ShG o i) (h1 : (o.irs.getD i default).op = 12) : CallsF Tryz.prog 77 [codeP o lv, .int .i64 i] (.bool (shapedX o (o.irs.getD i default) (o.descs.getD i []))) := by
  have hi := H.hi
  have hil := H.hil
  have hd := H.hd
  have hdl := H.hdl
  have hop2 := H.hop
  have hop1 : 1 ≤ (o.irs[i]?.getD default).op ∧ (o.irs[i]?.getD default).op ≤ 16 := hop2
  have ha1 : (o.irs[i]?.getD default).args.length ≤ 6000 := H.ha
  obtain ⟨us, hus⟩ : ∃ us, us = usedL (o.irs.getD i default) (o.descs.getD i []) := ⟨_, rfl⟩
  obtain ⟨ws, hws⟩ : ∃ ws, ws = usesL (o.descs.getD i []) := ⟨_, rfl⟩
  have hU2 : CallsF Tryz.prog 61 [dfs (o.descs.getD i [])] (ints ws) := by rw [hws]; exact symUses _ H.hfs H.hfN
  refine callsF_ofS mx Tryz.call77 Tryz.func77 rfl Tryz.ntmps77 Tryz.results77 (by kernel_rfl) (by simp) fun lo => ?_
  repeat' (first | refine vcI ?_ | refine And.intro ?_ ?_ | (intro hq; (try simp at hq); (try (exfalso; omega)); (try (revert hq; intro))))
  · simp; omega
  · have h20 : ¬ (o.irs.getD i default).args.length ≤ 20 := by
      show ¬ (o.irs[i]?.getD default).args.length ≤ 20
      omega
    repeat' (first | refine vcI ?_ | refine And.intro ?_ ?_ | (intro hq; (try simp at hq); (try (exfalso; omega)); (try (revert hq; intro))))
    (refine NEq.of_eq ?_; show PV.bool _ = PV.bool _; congr 1)
    exact (shX_args h20).symm
  · show 0 ≤ (o.irs.getD i default).op; omega
  · show (o.irs.getD i default).op < _; omega
  · rw [cRow]; decide
  · rw [cRow]; show 0 + 12 + (o.irs.getD i default).op.toNat * 4 + 4 ≤ 81; omega
  · rw [cRow]; decide
  · rw [cRow, row_list o lv hop2 (by show 0 + 12 + (o.irs.getD i default).op.toNat * 4 = _; omega)]; exact row_cells hop2
  · rw [List.length_map, List.length_range, cRow]; decide
  have h20 : (o.irs.getD i default).args.length ≤ 20 := by
    show (o.irs[i]?.getD default).args.length ≤ 20
    omega
  rw [cRow, row_list o lv hop2 (by show 0 + 12 + (o.irs.getD i default).op.toNat * 4 = _; omega)]
  have h10 : (o.irs.getD i default).op ≠ 10 := by omega
  obtain ⟨fn, hu1, hu2⟩ := uses_of o lv i hi (by omega) hd (by omega) H.hfs.1 (by omega) hop2 h10
  rw [← hus] at hu2
  rw [rowF_eq, hu1]
  have hop4 : (o.irs[i]?.getD default).op = 12 := h1
  have hop3 : (o.irs.getD (i : Int).toNat default).op = 12 := h1
  have hst : setsB (o.irs.getD i default).op = true := by rw [h1]; rfl
  rw [show goesB (o.irs.getD i default).op = false by rw [h1]; rfl, hst]
  try rw [hop3]
  repeat' (first | refine vcI ?_ | refine And.intro ?_ ?_ | (intro hq; (try simp at hq); (try (exfalso; omega)); (try (revert hq; intro))))
  have hcu := hu2 fun h => by omega
  rcases hins : insB (o.descs.getD i []).length (o.irs.getD i default).n with _ | _
  · have hsw : swB o (o.irs.getD i default) (o.descs.getD i []) = true := by unfold swB; rw [h1, hins]; rfl
    refine CallS.frozen (.bool false) (insFr_spec (o.descs.getD i []) hins) (plainAll rfl) ?_
    repeat' (first | refine vcI ?_ | refine And.intro ?_ ?_ | (intro hq; (try simp at hq); (try (exfalso; omega)); (try (revert hq; intro))))
    (refine NEq.of_eq ?_; show PV.bool _ = PV.bool _; congr 1)
    exact (shX_sw hsw).symm
  · have hm : 0 ≤ (o.irs.getD i default).n ∧ (o.irs.getD i default).n < ((o.descs.getD i []).length : Int) := by simpa [insB] using hins
    refine CallS.frozen (.bool true) (insFr_spec (o.descs.getD i []) hins) (plainAll rfl) ?_
    repeat' (first | refine vcI ?_ | refine And.intro ?_ ?_ | (intro hq; (try simp at hq); (try (exfalso; omega)); (try (revert hq; intro))))
    · exact hm.1
    · exact hm.2
    rcases hins2 : insB (o.descs.getD i []).length ((o.descs.getD i []).getD (o.irs.getD i default).n.toNat default).up with _ | _
    · have hsw : swB o (o.irs.getD i default) (o.descs.getD i []) = false := by unfold swB; rw [h1, hins, hins2]; rfl
      refine CallS.frozen (.bool false) (insFr_spec (o.descs.getD i []) hins2) (plainAll rfl) ?_
      repeat' (first | refine vcI ?_ | refine And.intro ?_ ?_ | (intro hq; (try simp at hq); (try (exfalso; omega)); (try (revert hq; intro))))
      refine QS.frozen (ints us) hcu (plainAll rfl) ?_
      repeat' (first | refine vcI ?_ | refine And.intro ?_ ?_ | (intro hq; (try simp at hq); (try (exfalso; omega)); (try (revert hq; intro))))
      rcases hbu : badL o us with _ | _
      · refine CallS.plain [ints us, badP o lv] (.bool false) (badL_spec o lv hbu) (LeL.cons (.refl _) (LeL.cons (bad_view rfl rfl) LeL.nil)) trivial ?_
        repeat' (first | refine vcI ?_ | refine And.intro ?_ ?_ | (intro hq; (try simp at hq); (try (exfalso; omega)); (try (revert hq; intro))))
        rcases hbr : regB o (o.irs.getD i default).d with _ | _
        · refine CallS.frozen (.bool false) (regB_spec o lv hbr) (plainAll rfl) ?_
          repeat' (first | refine vcI ?_ | refine And.intro ?_ ?_ | (intro hq; (try simp at hq); (try (exfalso; omega)); (try (revert hq; intro))))
          (refine NEq.of_eq ?_; show PV.bool _ = PV.bool _; congr 1)
          exact (shX_reg hst hbr).symm
        · refine CallS.frozen (.bool true) (regB_spec o lv hbr) (plainAll rfl) ?_
          repeat' (first | refine vcI ?_ | refine And.intro ?_ ?_ | (intro hq; (try simp at hq); (try (exfalso; omega)); (try (revert hq; intro))))
          refine QS.frozen (ints ws) hU2 (plainAll rfl) ?_
          repeat' (first | refine vcI ?_ | refine And.intro ?_ ?_ | (intro hq; (try simp at hq); (try (exfalso; omega)); (try (revert hq; intro))))
          rcases hbw : badL o ws with _ | _
          · refine CallS.plain [ints ws, badP o lv] (.bool false) (badL_spec o lv hbw) (LeL.cons (.refl _) (LeL.cons (bad_view rfl rfl) LeL.nil)) trivial ?_
            repeat' (first | refine vcI ?_ | refine And.intro ?_ ?_ | (intro hq; (try simp at hq); (try (exfalso; omega)); (try (revert hq; intro))))
            (refine NEq.of_eq ?_; show PV.bool _ = PV.bool _; congr 1)
            exact (shX_ok hop2.1 hop2.2 h20 hsw (by rw [← hus]; exact hbu) (fun _ => hbr) (by rw [← hws]; exact hbw)).symm
          · refine CallS.plain [ints ws, badP o lv] (.bool true) (badL_spec o lv hbw) (LeL.cons (.refl _) (LeL.cons (bad_view rfl rfl) LeL.nil)) trivial ?_
            repeat' (first | refine vcI ?_ | refine And.intro ?_ ?_ | (intro hq; (try simp at hq); (try (exfalso; omega)); (try (revert hq; intro))))
            (refine NEq.of_eq ?_; show PV.bool _ = PV.bool _; congr 1)
            exact (shX_uses (by rw [← hws]; exact hbw)).symm
      · refine CallS.plain [ints us, badP o lv] (.bool true) (badL_spec o lv hbu) (LeL.cons (.refl _) (LeL.cons (bad_view rfl rfl) LeL.nil)) trivial ?_
        repeat' (first | refine vcI ?_ | refine And.intro ?_ ?_ | (intro hq; (try simp at hq); (try (exfalso; omega)); (try (revert hq; intro))))
        (refine NEq.of_eq ?_; show PV.bool _ = PV.bool _; congr 1)
        exact (shX_bad (by rw [← hus]; exact hbu)).symm
    · have hm2 : 0 ≤ ((o.descs.getD i []).getD (o.irs.getD i default).n.toNat default).up ∧ ((o.descs.getD i []).getD (o.irs.getD i default).n.toNat default).up < ((o.descs.getD i []).length : Int) := by simpa [insB] using hins2
      refine CallS.frozen (.bool true) (insFr_spec (o.descs.getD i []) hins2) (plainAll rfl) ?_
      repeat' (first | refine vcI ?_ | refine And.intro ?_ ?_ | (intro hq; (try simp at hq); (try (exfalso; omega)); (try (revert hq; intro))))
      · exact hm.1
      · exact hm.2
      · exact hm2.1
      · exact hm2.2
      · have hact : ((o.descs.getD i []).getD ((o.descs.getD i []).getD (o.irs.getD i default).n.toNat default).up.toNat default).act = 0 := by
          show ((o.descs[i]?.getD [])[((o.descs[i]?.getD [])[(o.irs[i]?.getD default).n.toNat]?.getD default).up.toNat]?.getD default).act = 0
          assumption
        have hsw : swB o (o.irs.getD i default) (o.descs.getD i []) = true := by
          unfold swB; rw [h1, hins, hins2, hact]; rfl
        repeat' (first | refine vcI ?_ | refine And.intro ?_ ?_ | (intro hq; (try simp at hq); (try (exfalso; omega)); (try (revert hq; intro))))
        (refine NEq.of_eq ?_; show PV.bool _ = PV.bool _; congr 1)
        exact (shX_sw hsw).symm
      · have hact : ¬ ((o.descs.getD i []).getD ((o.descs.getD i []).getD (o.irs.getD i default).n.toNat default).up.toNat default).act = 0 := by
          show ¬ ((o.descs[i]?.getD [])[((o.descs[i]?.getD [])[(o.irs[i]?.getD default).n.toNat]?.getD default).up.toNat]?.getD default).act = 0
          assumption
        have hsw : swB o (o.irs.getD i default) (o.descs.getD i []) = false := by
          unfold swB; rw [h1, hins, hins2]
          show (((o.descs.getD i []).getD ((o.descs.getD i []).getD (o.irs.getD i default).n.toNat default).up.toNat default).act == 0) = false
          simpa using hact
        refine QS.frozen (ints us) hcu (plainAll rfl) ?_
        repeat' (first | refine vcI ?_ | refine And.intro ?_ ?_ | (intro hq; (try simp at hq); (try (exfalso; omega)); (try (revert hq; intro))))
        rcases hbu : badL o us with _ | _
        · refine CallS.plain [ints us, badP o lv] (.bool false) (badL_spec o lv hbu) (LeL.cons (.refl _) (LeL.cons (bad_view rfl rfl) LeL.nil)) trivial ?_
          repeat' (first | refine vcI ?_ | refine And.intro ?_ ?_ | (intro hq; (try simp at hq); (try (exfalso; omega)); (try (revert hq; intro))))
          rcases hbr : regB o (o.irs.getD i default).d with _ | _
          · refine CallS.frozen (.bool false) (regB_spec o lv hbr) (plainAll rfl) ?_
            repeat' (first | refine vcI ?_ | refine And.intro ?_ ?_ | (intro hq; (try simp at hq); (try (exfalso; omega)); (try (revert hq; intro))))
            (refine NEq.of_eq ?_; show PV.bool _ = PV.bool _; congr 1)
            exact (shX_reg hst hbr).symm
          · refine CallS.frozen (.bool true) (regB_spec o lv hbr) (plainAll rfl) ?_
            repeat' (first | refine vcI ?_ | refine And.intro ?_ ?_ | (intro hq; (try simp at hq); (try (exfalso; omega)); (try (revert hq; intro))))
            refine QS.frozen (ints ws) hU2 (plainAll rfl) ?_
            repeat' (first | refine vcI ?_ | refine And.intro ?_ ?_ | (intro hq; (try simp at hq); (try (exfalso; omega)); (try (revert hq; intro))))
            rcases hbw : badL o ws with _ | _
            · refine CallS.plain [ints ws, badP o lv] (.bool false) (badL_spec o lv hbw) (LeL.cons (.refl _) (LeL.cons (bad_view rfl rfl) LeL.nil)) trivial ?_
              repeat' (first | refine vcI ?_ | refine And.intro ?_ ?_ | (intro hq; (try simp at hq); (try (exfalso; omega)); (try (revert hq; intro))))
              (refine NEq.of_eq ?_; show PV.bool _ = PV.bool _; congr 1)
              exact (shX_ok hop2.1 hop2.2 h20 hsw (by rw [← hus]; exact hbu) (fun _ => hbr) (by rw [← hws]; exact hbw)).symm
            · refine CallS.plain [ints ws, badP o lv] (.bool true) (badL_spec o lv hbw) (LeL.cons (.refl _) (LeL.cons (bad_view rfl rfl) LeL.nil)) trivial ?_
              repeat' (first | refine vcI ?_ | refine And.intro ?_ ?_ | (intro hq; (try simp at hq); (try (exfalso; omega)); (try (revert hq; intro))))
              (refine NEq.of_eq ?_; show PV.bool _ = PV.bool _; congr 1)
              exact (shX_uses (by rw [← hws]; exact hbw)).symm
        · refine CallS.plain [ints us, badP o lv] (.bool true) (badL_spec o lv hbu) (LeL.cons (.refl _) (LeL.cons (bad_view rfl rfl) LeL.nil)) trivial ?_
          repeat' (first | refine vcI ?_ | refine And.intro ?_ ?_ | (intro hq; (try simp at hq); (try (exfalso; omega)); (try (revert hq; intro))))
          (refine NEq.of_eq ?_; show PV.bool _ = PV.bool _; congr 1)
          exact (shX_bad (by rw [← hus]; exact hbu)).symm
theorem shaped_13 (o : DO) (lv : PV) (i : Nat) (H : ShG o i) (h1 : (o.irs.getD i default).op = 13) : CallsF Tryz.prog 77 [codeP o lv, .int .i64 i] (.bool (shapedX o (o.irs.getD i default) (o.descs.getD i []))) := by
  have hi := H.hi
  have hil := H.hil
  have hd := H.hd
  have hdl := H.hdl
  have hop2 := H.hop
  have hop1 : 1 ≤ (o.irs[i]?.getD default).op ∧ (o.irs[i]?.getD default).op ≤ 16 := hop2
  have ha1 : (o.irs[i]?.getD default).args.length ≤ 6000 := H.ha
  obtain ⟨us, hus⟩ : ∃ us, us = usedL (o.irs.getD i default) (o.descs.getD i []) := ⟨_, rfl⟩
  obtain ⟨ws, hws⟩ : ∃ ws, ws = usesL (o.descs.getD i []) := ⟨_, rfl⟩
  have hU2 : CallsF Tryz.prog 61 [dfs (o.descs.getD i [])] (ints ws) := by rw [hws]; exact symUses _ H.hfs H.hfN
  refine callsF_ofS mx Tryz.call77 Tryz.func77 rfl Tryz.ntmps77 Tryz.results77 (by kernel_rfl) (by simp) fun lo => ?_
  repeat' (first | refine vcI ?_ | refine And.intro ?_ ?_ | (intro hq; (try simp at hq); (try (exfalso; omega)); (try (revert hq; intro))))
  · simp; omega
  · have h20 : ¬ (o.irs.getD i default).args.length ≤ 20 := by
      show ¬ (o.irs[i]?.getD default).args.length ≤ 20
      omega
    repeat' (first | refine vcI ?_ | refine And.intro ?_ ?_ | (intro hq; (try simp at hq); (try (exfalso; omega)); (try (revert hq; intro))))
    (refine NEq.of_eq ?_; show PV.bool _ = PV.bool _; congr 1)
    exact (shX_args h20).symm
  · show 0 ≤ (o.irs.getD i default).op; omega
  · show (o.irs.getD i default).op < _; omega
  · rw [cRow]; decide
  · rw [cRow]; show 0 + 12 + (o.irs.getD i default).op.toNat * 4 + 4 ≤ 81; omega
  · rw [cRow]; decide
  · rw [cRow, row_list o lv hop2 (by show 0 + 12 + (o.irs.getD i default).op.toNat * 4 = _; omega)]; exact row_cells hop2
  · rw [List.length_map, List.length_range, cRow]; decide
  have h20 : (o.irs.getD i default).args.length ≤ 20 := by
    show (o.irs[i]?.getD default).args.length ≤ 20
    omega
  rw [cRow, row_list o lv hop2 (by show 0 + 12 + (o.irs.getD i default).op.toNat * 4 = _; omega)]
  have h10 : (o.irs.getD i default).op ≠ 10 := by omega
  obtain ⟨fn, hu1, hu2⟩ := uses_of o lv i hi (by omega) hd (by omega) H.hfs.1 (by omega) hop2 h10
  rw [← hus] at hu2
  rw [rowF_eq, hu1]
  have hop4 : (o.irs[i]?.getD default).op = 13 := h1
  have hop3 : (o.irs.getD (i : Int).toNat default).op = 13 := h1
  have hst : setsB (o.irs.getD i default).op = true := by rw [h1]; rfl
  rw [show goesB (o.irs.getD i default).op = false by rw [h1]; rfl, hst]
  try rw [hop3]
  repeat' (first | refine vcI ?_ | refine And.intro ?_ ?_ | (intro hq; (try simp at hq); (try (exfalso; omega)); (try (revert hq; intro))))
  try rw [hop3]
  rcases hins : insB (o.descs.getD i []).length (o.irs.getD i default).m with _ | _
  · have hsw : swB o (o.irs.getD i default) (o.descs.getD i []) = true := by unfold swB; rw [h1, hins]; rfl
    refine CallS.frozen (.bool false) (insFr_spec (o.descs.getD i []) hins) (plainAll rfl) ?_
    repeat' (first | refine vcI ?_ | refine And.intro ?_ ?_ | (intro hq; (try simp at hq); (try (exfalso; omega)); (try (revert hq; intro))))
    (refine NEq.of_eq ?_; show PV.bool _ = PV.bool _; congr 1)
    exact (shX_sw hsw).symm
  · have hm : 0 ≤ (o.irs.getD i default).m ∧ (o.irs.getD i default).m < ((o.descs.getD i []).length : Int) := by simpa [insB] using hins
    have hcu := hu2 fun _ => hm
    refine CallS.frozen (.bool true) (insFr_spec (o.descs.getD i []) hins) (plainAll rfl) ?_
    repeat' (first | refine vcI ?_ | refine And.intro ?_ ?_ | (intro hq; (try simp at hq); (try (exfalso; omega)); (try (revert hq; intro))))
    · exact hm.1
    · exact hm.2
    · have hact : ((o.descs.getD i []).getD (o.irs.getD i default).m.toNat default).act = 0 := by
        show ((o.descs[i]?.getD [])[(o.irs[i]?.getD default).m.toNat]?.getD default).act = 0
        assumption
      have hsw : swB o (o.irs.getD i default) (o.descs.getD i []) = true := by
        unfold swB; rw [h1, hins, hact]; rfl
      repeat' (first | refine vcI ?_ | refine And.intro ?_ ?_ | (intro hq; (try simp at hq); (try (exfalso; omega)); (try (revert hq; intro))))
      (refine NEq.of_eq ?_; show PV.bool _ = PV.bool _; congr 1)
      exact (shX_sw hsw).symm
    · have hact : ¬ ((o.descs.getD i []).getD (o.irs.getD i default).m.toNat default).act = 0 := by
        show ¬ ((o.descs[i]?.getD [])[(o.irs[i]?.getD default).m.toNat]?.getD default).act = 0
        assumption
      have hsw : swB o (o.irs.getD i default) (o.descs.getD i []) = false := by
        unfold swB; rw [h1, hins]
        show (((o.descs.getD i []).getD (o.irs.getD i default).m.toNat default).act == 0) = false
        simpa using hact
      refine QS.frozen (ints us) hcu (plainAll rfl) ?_
      repeat' (first | refine vcI ?_ | refine And.intro ?_ ?_ | (intro hq; (try simp at hq); (try (exfalso; omega)); (try (revert hq; intro))))
      rcases hbu : badL o us with _ | _
      · refine CallS.plain [ints us, badP o lv] (.bool false) (badL_spec o lv hbu) (LeL.cons (.refl _) (LeL.cons (bad_view rfl rfl) LeL.nil)) trivial ?_
        repeat' (first | refine vcI ?_ | refine And.intro ?_ ?_ | (intro hq; (try simp at hq); (try (exfalso; omega)); (try (revert hq; intro))))
        rcases hbr : regB o (o.irs.getD i default).d with _ | _
        · refine CallS.frozen (.bool false) (regB_spec o lv hbr) (plainAll rfl) ?_
          repeat' (first | refine vcI ?_ | refine And.intro ?_ ?_ | (intro hq; (try simp at hq); (try (exfalso; omega)); (try (revert hq; intro))))
          (refine NEq.of_eq ?_; show PV.bool _ = PV.bool _; congr 1)
          exact (shX_reg hst hbr).symm
        · refine CallS.frozen (.bool true) (regB_spec o lv hbr) (plainAll rfl) ?_
          repeat' (first | refine vcI ?_ | refine And.intro ?_ ?_ | (intro hq; (try simp at hq); (try (exfalso; omega)); (try (revert hq; intro))))
          refine QS.frozen (ints ws) hU2 (plainAll rfl) ?_
          repeat' (first | refine vcI ?_ | refine And.intro ?_ ?_ | (intro hq; (try simp at hq); (try (exfalso; omega)); (try (revert hq; intro))))
          rcases hbw : badL o ws with _ | _
          · refine CallS.plain [ints ws, badP o lv] (.bool false) (badL_spec o lv hbw) (LeL.cons (.refl _) (LeL.cons (bad_view rfl rfl) LeL.nil)) trivial ?_
            repeat' (first | refine vcI ?_ | refine And.intro ?_ ?_ | (intro hq; (try simp at hq); (try (exfalso; omega)); (try (revert hq; intro))))
            (refine NEq.of_eq ?_; show PV.bool _ = PV.bool _; congr 1)
            exact (shX_ok hop2.1 hop2.2 h20 hsw (by rw [← hus]; exact hbu) (fun _ => hbr) (by rw [← hws]; exact hbw)).symm
          · refine CallS.plain [ints ws, badP o lv] (.bool true) (badL_spec o lv hbw) (LeL.cons (.refl _) (LeL.cons (bad_view rfl rfl) LeL.nil)) trivial ?_
            repeat' (first | refine vcI ?_ | refine And.intro ?_ ?_ | (intro hq; (try simp at hq); (try (exfalso; omega)); (try (revert hq; intro))))
            (refine NEq.of_eq ?_; show PV.bool _ = PV.bool _; congr 1)
            exact (shX_uses (by rw [← hws]; exact hbw)).symm
      · refine CallS.plain [ints us, badP o lv] (.bool true) (badL_spec o lv hbu) (LeL.cons (.refl _) (LeL.cons (bad_view rfl rfl) LeL.nil)) trivial ?_
        repeat' (first | refine vcI ?_ | refine And.intro ?_ ?_ | (intro hq; (try simp at hq); (try (exfalso; omega)); (try (revert hq; intro))))
        (refine NEq.of_eq ?_; show PV.bool _ = PV.bool _; congr 1)
        exact (shX_bad (by rw [← hus]; exact hbu)).symm
theorem shaped_spec (o : DO) (lv : PV) (i : Nat) (hi : i < o.irs.length) (hd : i < o.descs.length) (hf : fewN o ≤ 6000) (hs : ∀ l ∈ o.descs, l.length ≤ 1048576 ∧ ∀ f ∈ l, f.small) : CallsF Tryz.prog 77 [codeP o lv, .int .i64 i] (.bool (shapedX o (o.irs.getD i default) (o.descs.getD i []))) := by
  have hil : o.irs.length ≤ 6000 := by unfold fewN at hf; omega
  have hdl : o.descs.length ≤ 6000 := by unfold fewN at hf; omega
  have ha : (o.irs.getD i default).args.length ≤ 6000 := by
    have := sumL_mem (f := fun x : DI => x.args.length) (getD_mem default hi)
    rw [List.getD_eq_getElem?_getD]
    unfold fewN at hf; omega
  have hfN : frN (o.descs.getD i []) ≤ 6000 := by
    have := sumL_mem (f := frN) (getD_mem [] hd)
    rw [List.getD_eq_getElem?_getD]
    unfold fewN at hf; omega
  by_cases hop : (o.irs.getD i default).op < 1 ∨ 16 < (o.irs.getD i default).op
  · exact shaped_out o lv i hi hil hd hdl ha hop
  have H : ShG o i := ⟨hi, hil, hd, hdl, by omega, hs _ (getD_mem [] hd), hfN, ha⟩
  by_cases h10 : (o.irs.getD i default).op = 10
  · exact shaped_10 o lv i H h10
  by_cases h12 : (o.irs.getD i default).op = 12
  · exact shaped_12 o lv i H h12
  by_cases h13 : (o.irs.getD i default).op = 13
  · exact shaped_13 o lv i H h13
  rcases hgo : goesB (o.irs.getD i default).op with _ | _
  · rcases hst : setsB (o.irs.getD i default).op with _ | _
    · exact shaped_nF o lv i H h10 h12 h13 hgo hst
    · exact shaped_nT o lv i H h10 h12 h13 hgo hst
  · rcases hin : insB o.irs.length (o.irs.getD i default).n with _ | _
    · exact shaped_go o lv i H h10 hgo hin
    · rcases hst : setsB (o.irs.getD i default).op with _ | _
      · exact shaped_gF o lv i H h10 h12 h13 hgo hin hst
      · exact shaped_gT o lv i H h10 h12 h13 hgo hin hst
end Go.Ab
namespace Go.Ab
open Go.Proofs
set_option maxRecDepth 100000
set_option maxHeartbeats 1000000

theorem sortNil_spec : CallsF Tryz.prog 84 [.nils] (.tup []) := by
  refine ⟨Tryz.call84, fun w B cs hr ha => ?_⟩
  have hsz : cs.size = 1 := by have := ha.len; simpa using this.symm
  obtain ⟨vx, rfl⟩ : ∃ vx, cs = #[vx] := ⟨cs[0], by apply Array.ext <;> simp_all⟩
  have hv := ha.val 0 (by simp)
  simp only [List.getD_cons_zero, Array.getD_eq_getD_getElem?] at hv
  have hv' : VR w B H0 V0 .nils vx := by simpa using hv
  cases hv'
  refine (Any.slices_Sort_int_none Tryz.lays189 none 0 w).mono fun e w' ⟨h1, h2⟩ => ?_
  subst h1 h2
  exact ⟨_, B, rfl, .tup (by simp) (fun i hi => absurd hi (by simp)), Mono.refl ..⟩
theorem compactNil_spec : CallsF Tryz.prog 85 [.nils] .nils := by
  refine callsF_ofS mx Tryz.call85 Tryz.func85 rfl Tryz.ntmps85 Tryz.results85 (by kernel_rfl) (by simp) fun lo => ?_
  repeat' (first | refine vcI ?_ | refine And.intro ?_ ?_ | (intro hq; (try simp at hq); (try (exfalso; omega)); (try (revert hq; intro))))
  exact .refl _
theorem compact1_27 (x : Int) (v nv : Nat) (S : Hp) : CallsA Tryz.prog 85 [.ref (1, 27) v [] 1 0 1] ([((1, 27), ⟨v, oints [x]⟩)] ++ S) nv
    fun y hp' nv' => ∃ L', hp' = L' ++ S ∧ (y = .ref (1, 27) v [] 1 0 1 ∧ L' = [((1, 27), ⟨v, oints [x]⟩)]) := by
  refine callsA_ofS (lv := 2) (by decide) mx Tryz.call85 Tryz.func85 rfl Tryz.ntmps85 Tryz.results85 (by kernel_rfl) (by simp) fun lo => ?_
  repeat' (first | refine vcI ?_ | refine And.intro ?_ ?_ | (intro hq; (try simp at hq); (try (exfalso; omega)); (try (revert hq; intro))))
  exact ⟨_, _, ⟨rfl, rfl⟩, .refl _, ⟨⟨rfl, .refl _⟩, trivial⟩, .names rfl⟩
theorem compact1_41 (x : Int) (v nv : Nat) (S : Hp) : CallsA Tryz.prog 85 [.ref (1, 41) v [] 1 0 1] ([((1, 41), ⟨v, oints [x]⟩)] ++ S) nv
    fun y hp' nv' => ∃ L', hp' = L' ++ S ∧ (y = .ref (1, 41) v [] 1 0 1 ∧ L' = [((1, 41), ⟨v, oints [x]⟩)]) := by
  refine callsA_ofS (lv := 2) (by decide) mx Tryz.call85 Tryz.func85 rfl Tryz.ntmps85 Tryz.results85 (by kernel_rfl) (by simp) fun lo => ?_
  repeat' (first | refine vcI ?_ | refine And.intro ?_ ?_ | (intro hq; (try simp at hq); (try (exfalso; omega)); (try (revert hq; intro))))
  exact ⟨_, _, ⟨rfl, rfl⟩, .refl _, ⟨⟨rfl, .refl _⟩, trivial⟩, .names rfl⟩
theorem compact2_27 (x y : Int) (v nv : Nat) (S : Hp) : CallsA Tryz.prog 85 [.ref (1, 27) v [] 1 0 2] ([((1, 27), ⟨v, oints [x, y]⟩)] ++ S) nv
    fun z hp' nv' => ∃ L', hp' = L' ++ S ∧ (z = .ref (1, 27) v [] 1 0 (if x = y then 1 else 2) ∧ L' = [((1, 27), ⟨v, oints (if x = y then [x, 0] else [x, y])⟩)]) := by
  refine callsA_ofS (lv := 2) (by decide) mx Tryz.call85 Tryz.func85 rfl Tryz.ntmps85 Tryz.results85 (by kernel_rfl) (by simp) fun lo => ?_
  repeat' (first | refine vcI ?_ | refine And.intro ?_ ?_ | (intro hq; (try simp at hq); (try (exfalso; omega)); (try (revert hq; intro))))
  refine loopS mx (by decide) (by kernel_rfl) (fun k : Nat => k = 1 ∨ (k = 2 ∧ x ≠ y)) (fun k => [(3, .int .i64 k), (0, .ref (1, 27) v [] 1 0 2)]) (fun _ => [((1, 27), ⟨v, oints [x, y]⟩)]) (fun k => 2 - k) 1 (.inl rfl) ⟨by ((repeat' apply And.intro) <;> (first | exact True.intro | exact NEq.refl _ | (refine NEq.int ?_; first | exact rfl | omega | (rw [wrapI (by omega)]; first | exact rfl | omega)))), ⟨⟨rfl, .refl _⟩, trivial⟩, .names rfl⟩ ?_
  rintro k nv (rfl | ⟨rfl, hne⟩)
  · repeat' (first | refine vcI ?_ | refine And.intro ?_ ?_ | (intro hq; (try simp at hq); (try (exfalso; omega)); (try (revert hq; intro))))
    · decide
    · decide
    · rename_i hxy
      have hxy' : x = y := Eq.symm hxy
      subst hxy'
      refine loopS mx (by decide) (by kernel_rfl) (fun _ : Unit => True) (fun _ => [(5, .int .i64 1), (4, .ref (1, 27) v [] 1 1 2), (3, .int .i64 1), (0, .ref (1, 27) v [] 1 0 2)]) (fun _ => [((1, 27), ⟨v, oints [x, x]⟩)]) (fun _ => 0) () trivial ⟨by ((repeat' apply And.intro) <;> (first | exact True.intro | exact NEq.refl _ | (refine NEq.int ?_; first | exact rfl | omega | (rw [wrapI (by omega)]; first | exact rfl | omega)))), ⟨⟨rfl, .refl _⟩, trivial⟩, .names rfl⟩ ?_
      intro u nv _
      repeat' (first | refine vcI ?_ | refine And.intro ?_ ?_ | (intro hq; (try simp at hq); (try (exfalso; omega)); (try (revert hq; intro))))
      · rfl
      refine Exists.intro (oints [x, 0]) (And.intro ?_ (And.intro (by first | rfl | exact shape_prs (by simp) | exact shape_ints (by simp) | exact shape_odvs (by simp)) ?_))
      · refine NEq.owns rfl rfl fun i o hi ho => ?_
        obtain rfl : o = 0 := by omega
        obtain rfl | rfl : i = 0 ∨ i = 1 := by simp at hi; omega
        · exact .refl _
        · exact .refl _
      repeat' (first | refine vcI ?_ | refine And.intro ?_ ?_ | (intro hq; (try simp at hq); (try (exfalso; omega)); (try (revert hq; intro))))
      rw [if_pos rfl, if_pos rfl]
      exact ⟨_, _, ⟨rfl, rfl⟩, .refl _, ⟨⟨rfl, .refl _⟩, trivial⟩, .names rfl⟩
    · rename_i hxy
      have hxy' : ¬ x = y := fun e => hxy (Eq.symm e)
      exact Exists.intro 2 ⟨.inr ⟨rfl, hxy'⟩, (by first | omega | (dsimp only; omega)), ⟨⟨(by refine NEq.int ?_; first | exact rfl | omega | (rw [wrapI (by omega)]; first | exact rfl | omega)), .refl _, trivial⟩, ⟨⟨rfl, .refl _⟩, trivial⟩, .names rfl⟩⟩
  · repeat' (first | refine vcI ?_ | refine And.intro ?_ ?_ | (intro hq; (try simp at hq); (try (exfalso; omega)); (try (revert hq; intro))))
    rw [if_neg hne, if_neg hne]
    exact ⟨_, _, ⟨rfl, rfl⟩, .refl _, ⟨⟨rfl, .refl _⟩, trivial⟩, .names rfl⟩
end Go.Ab
