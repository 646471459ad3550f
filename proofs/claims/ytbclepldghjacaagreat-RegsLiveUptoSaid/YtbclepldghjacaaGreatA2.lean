/- Drawn regions: the rule, and its forms for simp. -/
import Derived.Test.YtbclepldghjacaaGreatA1
import Derived.Lib.AppendZeros
import Derived.RangeFuncIn
import Derived.RangeFuncRecord
import Derived.RangeFuncLeaves
import Derived.OrdersIn
set_option linter.unusedVariables false
set_option linter.unusedSimpArgs false
namespace Go.Ab

/-- Are two keys the same? (`none`: not of one kind) -/
def keyB : PV → PV → Option Bool
  | .int k a, .int k' b => if k = k' then some (a == b) else none
  | .str a, .str b => some (a == b)
  | .bool a, .bool b => some (a == b)
  | _, _ => none

def fitsK (P : Program) (kt : TypeId) (k : PV) : Bool := match P.underlying kt, k with
  | some (.int _), .int .. => true
  | some .string, .str _ => true
  | some .bool, .bool _ => true
  | _, _ => false

def sortsB (k : PV) : List (PV × PV) → Bool
  | [] => true
  | e :: es => (keyB k e.1).isSome && sortsB k es

def findE : List (PV × PV) → PV → Option PV
  | [], _ => none
  | e :: es, k => match keyB k e.1 with
    | some true => some e.2
    | _ => findE es k

def updE : List (PV × PV) → PV → PV → List (PV × PV)
  | [], k, v => [(k, v)]
  | e :: es, k, v => match keyB k e.1 with
    | some true => (k, v) :: es
    | _ => e :: updE es k v

def updBs (es : List (PV × PV)) (bs : List Nat) (cl : Nat) (k : PV) : List Nat := match findE es k with
  | some _ => bs
  | none => bs ++ [cl]
def updCl (es : List (PV × PV)) (cl : Nat) (k : PV) : Nat := match findE es k with
  | some _ => cl
  | none => cl + 1

def zeroPV (P : Program) (t : TypeId) : Option PV := ((P.info? t).bind (·.zero)).map fun v => match v with
  | .agg cs => .agg (cs.toList.map cv)
  | v => cv v

def lkRes (ok : Bool) (v : PV) (b : Bool) : PV := match ok with
  | true => .tup [v, .bool b]
  | false => v

def findA (ok : Bool) (z : PV) (es : List (PV × PV)) (k : PV) : A := .opt (findE es k) fun o => match o with
  | some v => .ret (lkRes ok v true)
  | none => .ret (lkRes ok z false)

def lookupA (P : Program) (t : TypeId) (ok : Bool) (x k : PV) : A := match P.underlying t with
  | some (.map kt et) => match zeroPV P et with
    | some z => .vc (fitsK P kt k = true) <| match x with
      | .nilm => .ret (lkRes ok z false)
      | .fmap es => .vc (sortsB k es = true) (findA ok z es k)
      | .sref .map r v => .rd r fun
        | some rt => .vc (rt.ver = v) <| match rt.node with
          | .omap es _ _ => .vc (sortsB k es = true) (findA ok z es k)
          | _ => .fail
        | none => .fail
      | _ => .fail
    | none => .fail
  | _ => .fail

def mapUpdateA (P : Program) (t : TypeId) (x k v : PV) : A := match P.underlying t with
  | some (.map kt _) => .vc (fitsK P kt k = true) <| match x with
    | .sref .map r w => .rd r fun
      | some rt => .vc (rt.ver = w) <| match rt.node with
        | .omap es bs cl => .vc (sortsB k es = true) (.wr r (some ⟨rt.ver, .omap (updE es k v) (updBs es bs cl k) (updCl es cl k)⟩) (.ret .undef))
        | _ => .fail
      | none => .fail
    | _ => .fail
  | _ => .fail

def makeMapA (P : Program) (id : RId) (ver : Nat) (t : TypeId) (r : Option PV) : A := match r, P.underlying t with
  | none, _ => .wr id (some ⟨ver, .omap [] [] 0⟩) (.ret (.sref .map id ver))
  | some (.int _ _), some (.map _ _) => .wr id (some ⟨ver, .omap [] [] 0⟩) (.ret (.sref .map id ver))
  | _, _ => .fail

/-- The length of a map. -/
def lenM (P : Program) (t : TypeId) (x : PV) : A := match P.underlying t with
  | some (.map _ _) => match x with
    | .nilm => .ret (.int .i64 0)
    | .fmap es => .ret (.int .i64 es.length)
    | .sref .map r v => .rd r fun
      | some rt => .vc (rt.ver = v) <| match rt.node with
        | .omap es _ _ => .ret (.int .i64 es.length)
        | _ => .fail
      | none => .fail
    | _ => .fail
  | _ => .fail

/-! Ranging over a map to which nothing is added -/
def leftI (bs seen : List Nat) : List Nat := (List.range bs.length).filter fun i => !seen.contains (bs.getD i 0)

def entryE (es : List (PV × PV)) (bs seen : List Nat) : Option PV := match seen.getLast? with
  | some s => (bs.idxOf? s).bind fun i => (es[i]?).map fun e => .tup [e.1, e.2]
  | none => none

def rangeA (P : Program) (id : RId) (ver : Nat) (t : TypeId) (x : PV) : A := match P.underlying t with
  | some (.map _ _) => match x with
    | .nilm => .wr id (some ⟨ver, .oiter .nilm 0 [] 0⟩) (.ret (.sref .iter id ver))
    | .sref .map r v => .rd r fun
      | some rt => .vc (rt.ver = v) <| match rt.node with
        | .omap _ _ cl => .wr id (some ⟨ver, .oiter (.sref .map r v) cl [] cl⟩) (.ret (.sref .iter id ver))
        | _ => .fail
      | none => .fail
    | _ => .fail
  | _ => .fail

def nextA (str : Bool) (x : PV) : A := match str, x with
  | false, .sref .iter r v => .rd r fun
    | some rt => .vc (rt.ver = v) <| match rt.node with
      | .oiter .nilm _ _ _ => .ret (.tup [.bool false])
      | .oiter (.sref .map r2 v2) since seen last => .rd r2 fun
        | some rt2 => .vc (rt2.ver = v2) <| match rt2.node with
          | .omap es bs cl => .hyp (bs.length = es.length ∧ bs.Nodup ∧ ∀ x ∈ bs, x < cl) (.vc (cl = since ∧ since ≤ last) (.ifD (leftI bs seen = [])
            (.ret (.tup [.bool false]))
            (.all (leftI bs seen) fun i => .wr r (some ⟨rt.ver, .oiter (.sref .map r2 v2) since (seen ++ [bs.getD i 0]) cl⟩) (.ret (.tup [.bool true, (es.getD i (.undef, .undef)).1, (es.getD i (.undef, .undef)).2])))))
          | _ => .fail
        | none => .fail
      | _ => .fail
    | none => .fail
  | _, _ => .fail

def entryA (x : PV) : A := match x with
  | .sref .iter r v => .rd r fun
    | some rt => .vc (rt.ver = v) <| match rt.node with
      | .oiter (.sref .map r2 v2) _ seen last => .rd r2 fun
        | some rt2 => .vc (rt2.ver = v2) <| match rt2.node with
          | .omap es bs cl => .vc (cl = last) (.opt (entryE es bs seen) fun o => match o with
            | some x => .ret x
            | none => .fail)
          | _ => .fail
        | none => .fail
      | _ => .fail
    | none => .fail
  | _ => .fail

/-! ### Proofs -/
open Classical
open Go.ChangeMaps (setBlock)

theorem zeroPV_some {P : Program} {t : TypeId} {z : PV} (h : zeroPV P t = some z) (w : World) : ∃ v, (zeroValue t).run P w = .ok v w ∧ ∀ B H V, VR w B H V z v := by
  unfold zeroPV at h
  cases hi : P.info? t with
  | none => simp [hi] at h
  | some i =>
    cases hz : i.zero with
    | none => simp [hi, hz] at h
    | some v =>
      simp only [hi, Option.bind_some, hz, Option.map_some, Option.some.injEq] at h
      refine ⟨v, by simp [zeroValue, typeInfo, hi, hz], fun B H V => ?_⟩
      subst h
      split
      · rename_i cs
        refine .agg (by simp) (fun i hi => ?_)
        simp only [List.length_map, Array.length_toList] at hi
        simp only [List.getD, List.getElem?_map, Array.getElem?_toList, Array.getD_eq_getD_getElem?]
        rw [Array.getElem?_eq_getElem hi]
        exact .cv _
      · exact .cv _

theorem bytes_eq (a b : ByteArray) : (a == b) = true ↔ a = b := MapKept.bytes_beq a b
/-- A key's kind. -/
inductive KeyAt (P : Program) (kt : TypeId) : PV → Value → TypeDesc → Prop
  | int {d : IntKind} (h : P.underlying kt = some (.int d)) (k : IntKind) (n : Int) : KeyAt P kt (.int k n) (.int k n) (.int d)
  | str (h : P.underlying kt = some .string) (s : ByteArray) : KeyAt P kt (.str s) (.string s) .string
  | bool (h : P.underlying kt = some .bool) (b : Bool) : KeyAt P kt (.bool b) (.bool b) .bool

theorem fitsK_at {P : Program} {kt : TypeId} {k : PV} (h : fitsK P kt k = true) {w B H V} {kv : Value} (hk : VR w B H V k kv) : ∃ d, P.underlying kt = some d ∧ KeyAt P kt k kv d := by
  unfold fitsK at h
  split at h
  · rename_i d ik n hu; cases hk; exact ⟨_, hu, .int hu _ _⟩
  · rename_i s hu; cases hk; exact ⟨_, hu, .str hu _⟩
  · rename_i b hu; cases hk; exact ⟨_, hu, .bool hu _⟩
  · cases h

theorem KeyAt.check {P : Program} {kt : TypeId} {k : PV} {kv : Value} {d : TypeDesc} (h : KeyAt P kt k kv d) (w : World) (e : Bool) : (Instr.checkKey e 10000 kt kv).run P w = .ok () w := by
  cases h with
  | int h => unfold Instr.checkKey; simp [run_underlying' h]
  | str h => unfold Instr.checkKey; simp [run_underlying' h]
  | bool h => unfold Instr.checkKey; simp [run_underlying' h]

theorem KeyAt.same {P : Program} {kt : TypeId} {k : PV} {kv : Value} {d : TypeDesc} (h : KeyAt P kt k kv d) {w B H V} {k' : PV} {kv' : Value} (hk' : VR w B H V k' kv') {b : Bool} (hb : keyB k k' = some b) :
    Instr.sameNow d kv kv' = some b ∧ (b = true → kv' = kv) := by
  cases h with
  | int h ik n =>
    cases hk' <;> simp only [keyB] at hb <;> try cases hb
    split at hb
    · rename_i e
      subst e
      cases hb
      refine ⟨by simp [Instr.sameNow], fun h => ?_⟩
      have := eq_of_beq h
      rw [this]
    · cases hb
  | str h s =>
    cases hk' <;> simp only [keyB] at hb <;> try cases hb
    refine ⟨by simp [Instr.sameNow], fun h => ?_⟩
    have := (bytes_eq _ _).1 h
    rw [this]
  | bool h s =>
    cases hk' <;> simp only [keyB] at hb <;> try cases hb
    refine ⟨by simp [Instr.sameNow], fun h => ?_⟩
    have := eq_of_beq h
    rw [this]

theorem KeyAt.bits {P : Program} {kt : TypeId} {k : PV} {kv : Value} {d : TypeDesc} (h : KeyAt P kt k kv d) : Instr.sameBits 10000 kv kv = true := by
  cases h with
  | str _ s => exact (bytes_eq s s).2 rfl
  | _ => simp [Instr.sameBits]

/-- What the machine's look finds. -/
theorem find_spec {P : Program} {kt : TypeId} {k : PV} {kv : Value} {d : TypeDesc} (h : KeyAt P kt k kv d) {w B H V} (v : PV) : ∀ (es : List (PV × PV)) (l : List MapEntry) (i0 : Nat), l.length = es.length → sortsB k es = true →
    (∀ i, i < es.length → VR w B H V (es.getD i (.undef, .undef)).1 (l.getD i default).key) →
    (∃ j, j < es.length ∧ findE es k = some (es.getD j (.undef, .undef)).2 ∧ (l.getD j default).key = kv ∧ updE es k v = es.set j (k, v) ∧ Instr.findNow d kv l i0 = some (some (i0 + j, (l.getD j default).val))) ∨
    (findE es k = none ∧ updE es k v = es ++ [(k, v)] ∧ Instr.findNow d kv l i0 = some none) := by
  intro es
  induction es with
  | nil =>
    intro l i0 hl _ _
    have : l = [] := by simpa using hl
    subst this
    exact .inr ⟨rfl, rfl, rfl⟩
  | cons e es ih =>
    intro l i0 hl hs hk
    cases l with
    | nil => simp at hl
    | cons x l =>
      simp only [sortsB, Bool.and_eq_true] at hs
      obtain ⟨b, hb⟩ := Option.isSome_iff_exists.1 hs.1
      have hx := hk 0 (by simp)
      simp only [List.getD_cons_zero] at hx
      obtain ⟨h1, h2⟩ := h.same hx hb
      cases b with
      | true => exact .inl ⟨0, by simp, by simp [findE, hb], by simpa using h2 rfl, by simp [updE, hb], by simp [Instr.findNow, h1]⟩
      | false =>
        rcases ih l (i0 + 1) (by simpa using hl) hs.2 (fun i hi => by simpa using hk (i + 1) (by simpa using hi)) with ⟨j, g1, g2, g3, g4, g5⟩ | ⟨g1, g2, g3⟩
        · exact .inl ⟨j + 1, by simpa using g1, by simpa [findE, hb] using g2, by simpa using g3, by simpa [updE, hb] using g4, by simp [Instr.findNow, h1, g5]; omega⟩
        · exact .inr ⟨by simpa [findE, hb] using g1, by simpa [updE, hb] using g2, by simpa [Instr.findNow, h1] using g3⟩

theorem run_getObj' {P : Program} {w : World} {b : Nat} {o : Obj} (h : w.heap[b]? = some o) (ho : isCells o = false) : (getObj b).run P w = .ok o w := by
  simp only [getObj, Sem.run, h]
  cases o <;> first | rfl | cases ho
theorem run_setObj' {P : Program} {w : World} {b : Nat} {o : Obj} (o' : Obj) (h : w.heap[b]? = some o) (ho : isCells o = false) : (setObj b o').run P w = .ok () (setBlock w b o') := by
  simp only [setObj, Sem.run, h, setBlock]
  cases o <;> first | rfl | cases ho

theorem lkRes_VR {w B H V} {z : PV} {v : Value} (h : VR w B H V z v) (ok b : Bool) : VR w B H V (lkRes ok z b) (if ok then .tuple #[v, .bool b] else v) := by
  cases ok with
  | false => exact h
  | true =>
    refine .tup rfl (fun i hi => ?_)
    rcases i with _ | _ | i
    · simpa using h
    · exact .bool b
    · simp at hi; omega

theorem Real.lookup {P : Program} {w : World} {B : Blocks} {hp : List (RId × Root)} {V : Nat → Prop} {ver : Nat} (hr : HR w B (lkH hp) V) (t : TypeId) (ok : Bool) {x k : PV} {vx vk : Value}
    (hx : VR w B (lkH hp) V x vx) (hk : VR w B (lkH hp) V k vk) : Real P w B hp V ver (Instr.lookup t vx vk ok) (lookupA P t ok x k) := by
  refine .of_pure hr fun K hK => ?_
  unfold lookupA at hK
  split at hK
  · rename_i kt et hu
    split at hK
    · rename_i z hz
      obtain ⟨hf, hK⟩ := hK
      obtain ⟨d, hd, hat⟩ := fitsK_at hf hk
      obtain ⟨zv, hz1, hz2⟩ := zeroPV_some hz w
      -- a map's entries
      have found : ∀ (b clock : Nat) (es : List (PV × PV)) (cs : Array MapEntry), vx = .map (some b) → w.heap[b]? = some (.map cs clock) → cs.size = es.length → sortsB k es = true →
          (∀ i, i < es.length → VR w B (lkH hp) V (es.getD i (.undef, .undef)).1 (cs.getD i default).key) → (∀ i, i < es.length → VR w B (lkH hp) V (es.getD i (.undef, .undef)).2 (cs.getD i default).val) →
          (findA ok z es k).wp hp K → ∃ v x, (Instr.lookup t vx vk ok).run P w = .ok v w ∧ K x hp ∧ VR w B (lkH hp) V x v := by
        rintro b clock es cs rfl hh hn hs hkk hvv hK
        have hgd : ∀ i, cs.toList.getD i default = cs.getD i default := fun i => by simp [List.getD_eq_getElem?_getD, Array.getD_eq_getD_getElem?]
        rcases find_spec hat k es cs.toList 0 (by simpa using hn) hs (fun i hi => by rw [hgd]; exact hkk i hi) with ⟨j, h1, h2, h3, _, h5⟩ | ⟨h1, _, h3⟩
        · simp only [findA, A.wp, h2] at hK
          refine ⟨_, _, ?_, hK, lkRes_VR (hvv j h1) ok true⟩
          rw [hgd] at h5
          simp [Instr.lookup, run_underlying' hu, run_getObj' hh rfl, hat.check, Instr.findKey, run_underlying' hd, h5]
        · simp only [findA, A.wp, h1] at hK
          refine ⟨_, _, ?_, hK, lkRes_VR (hz2 _ _ _) ok false⟩
          simp [Instr.lookup, run_underlying' hu, run_getObj' hh rfl, hat.check, Instr.findKey, run_underlying' hd, h3, hz1]
      split at hK
      · cases hx
        refine ⟨_, _, ?_, hK, lkRes_VR (hz2 _ _ _) ok false⟩
        simp [Instr.lookup, run_underlying' hu, hat.check, Instr.findKey, run_underlying' hd, Instr.findNow, hz1]
      · rename_i es
        obtain ⟨hs, hK⟩ := hK
        cases hx with
        | fmap hfr hh hn hkk hvv =>
          exact found _ _ es _ rfl hh hn hs (fun i hi => (hkk i hi).lift (fun _ _ _ h => h)) (fun i hi => (hvv i hi).lift (fun _ _ _ h => h)) hK
      · rename_i r v
        simp only [A.wp] at hK
        cases hH : lkH hp r with
        | none => rw [hH] at hK; exact hK.elim
        | some rt =>
          rw [hH] at hK
          obtain ⟨hv, hK⟩ := hK
          have hroot := hr.root r rt hH
          split at hK
          · rename_i es bs cl hnode
            obtain ⟨hs, hK⟩ := hK
            rw [hnode] at hroot
            cases hx with
            | sref _ h =>
            obtain ⟨b, _, hB, rfl⟩ := h rt hH hv
            cases hroot with
            | omap hB' hh hn hbs hcl hkk hvv =>
              rw [hB] at hB'
              cases hB'
              exact found _ _ es _ rfl hh hn hs hkk hvv hK
          · exact hK.elim
      · exact hK.elim
    · exact hK.elim
  · exact hK.elim

theorem getD_toList (cs : Array MapEntry) (i : Nat) : cs.toList.getD i default = cs.getD i default := by simp [List.getD_eq_getElem?_getD, Array.getD_eq_getD_getElem?]

theorem Real.mapUpdate {P : Program} {w : World} {B : Blocks} {hp : List (RId × Root)} {V : Nat → Prop} {ver : Nat} (hr : HR w B (lkH hp) V) (t : TypeId) {x k u : PV} {vx vk vu : Value}
    (hx : VR w B (lkH hp) V x vx) (hk : VR w B (lkH hp) V k vk) (hu : VR w B (lkH hp) V u vu) : Real P w B hp V ver (do Instr.mapUpdate t vx vk vu; pure Go.undef) (mapUpdateA P t x k u) := by
  intro K hK
  unfold mapUpdateA at hK
  split at hK
  · rename_i kt et hut
    obtain ⟨hf, hK⟩ := hK
    obtain ⟨d, hd, hat⟩ := fitsK_at hf hk
    split at hK
    · rename_i r v
      simp only [A.wp] at hK
      cases hH : lkH hp r with
      | none => rw [hH] at hK; exact hK.elim
      | some rt =>
        rw [hH] at hK
        obtain ⟨hv, hK⟩ := hK
        have hroot := hr.root r rt hH
        split at hK
        · rename_i es bs cl hnode
          obtain ⟨hs, hK⟩ := hK
          rw [hnode] at hroot
          have hsp : spec rt.node = true := by rw [hnode]; rfl
          cases hx with
          | sref _ h =>
          obtain ⟨b, _, hB, rfl⟩ := h rt hH hv
          cases hroot with
          | @omap _ _ b' _ cs hB' hh hn hbs hcl hkk hvv =>
          rw [hB] at hB'
          cases hB'
          have hlk : ∀ (es' : List (PV × PV)) (bs' : List Nat) (cl' : Nat), ∀ j, lkH (setH hp r (some ⟨rt.ver, .omap es' bs' cl'⟩)) j = if j = r then some ⟨rt.ver, .omap es' bs' cl'⟩ else lkH hp j := fun _ _ _ j => lookH_setH ..
          rcases find_spec hat u es cs.toList 0 (by simpa using hn) hs (fun i hi => by rw [getD_toList]; exact hkk i hi) with ⟨j, h1, h2, h3, h4, h5⟩ | ⟨h1, h2, h3⟩
          · rw [getD_toList] at h3 h5
            have hj : j < cs.size := by omega
            have hkj : cs[j].key = vk := by simpa [Array.getD_eq_getD_getElem?, hj] using h3
            have hrun : (do Instr.mapUpdate t (.map (some b)) vk vu; pure Go.undef : Sem Value).run P w = .ok Go.undef (setBlock w b (.map (cs.modify j fun e => { e with key := vk, val := vu }) cl)) := by
              simp [Instr.mapUpdate, run_underlying' hut, run_getObj' hh rfl, hat.check, Instr.findKey, run_underlying' hd, h5, hj, hkj, Instr.keyThatStays, hat.bits, run_setObj' _ hh rfl]
            have hbs' : updBs es bs cl k = bs := by simp [updBs, h2]
            have hcl' : updCl es cl k = cl := by simp [updCl, h2]
            rw [h4, hbs', hcl'] at hK
            obtain ⟨g1, g2⟩ := hr.putS (H' := lkH (setH hp r (some ⟨rt.ver, .omap (es.set j (k, u)) bs cl⟩))) hH hsp hB hh (o' := .map (cs.modify j fun e => { e with key := vk, val := vu }) cl) rfl (node := .omap (es.set j (k, u)) bs cl) rfl (hlk _ _ _) (fun hm => by
              have hget : ∀ i, (cs.modify j fun e => { e with key := vk, val := vu }).getD i default = if i = j then { cs.getD i default with key := vk, val := vu } else cs.getD i default := by
                intro i
                simp only [Array.getD_eq_getD_getElem?, Array.getElem?_modify]
                by_cases e : j = i
                · subst e; simp [hj]
                · simp [e, Ne.symm e]
              have hge : ∀ i, (es.set j (k, u)).getD i (.undef, .undef) = if i = j then (k, u) else es.getD i (.undef, .undef) := by
                intro i
                simp only [List.getD_eq_getElem?_getD, List.getElem?_set]
                by_cases e : j = i
                · subst e; simp [h1]
                · simp [e, Ne.symm e]
              refine .omap hB (setBlock_self _ hh) (by simpa using hn) ?_ hcl (fun i hi => ?_) (fun i hi => ?_)
              · rw [hbs]
                apply List.ext_getElem
                · simp
                · intro i h1 h2
                  simp only [List.getElem_map, Array.getElem_toList, Array.getElem_modify]
                  by_cases e : j = i
                  · simp [e]
                  · simp [e]
              · simp only [List.length_set] at hi
                rw [hget, hge]
                split
                · exact hk.mono hm
                · exact (hkk i hi).mono hm
              · simp only [List.length_set] at hi
                rw [hget, hge]
                split
                · exact hu.mono hm
                · exact (hvv i hi).mono hm)
            exact ⟨_, _, B, _, _, hrun, hK, .undef _, g1.more ver, g2.trans (Mono.more ..)⟩
          · have hrun : (do Instr.mapUpdate t (.map (some b)) vk vu; pure Go.undef : Sem Value).run P w = .ok Go.undef (setBlock w b (.map (cs.push { key := vk, val := vu, born := cl }) (cl + 1))) := by
              simp [Instr.mapUpdate, run_underlying' hut, run_getObj' hh rfl, hat.check, Instr.findKey, run_underlying' hd, h3, run_setObj' _ hh rfl]
            have hbs' : updBs es bs cl k = bs ++ [cl] := by simp [updBs, h1]
            have hcl' : updCl es cl k = cl + 1 := by simp [updCl, h1]
            rw [h2, hbs', hcl'] at hK
            obtain ⟨g1, g2⟩ := hr.putS (H' := lkH (setH hp r (some ⟨rt.ver, .omap (es ++ [(k, u)]) (bs ++ [cl]) (cl + 1)⟩))) hH hsp hB hh (o' := .map (cs.push { key := vk, val := vu, born := cl }) (cl + 1)) rfl (node := .omap (es ++ [(k, u)]) (bs ++ [cl]) (cl + 1)) rfl (hlk _ _ _) (fun hm => by
              have hget : ∀ i, i < es.length + 1 → (cs.push { key := vk, val := vu, born := cl }).getD i default = if i = es.length then { key := vk, val := vu, born := cl } else cs.getD i default := by
                intro i hi
                simp only [Array.getD_eq_getD_getElem?, Array.getElem?_push, hn]
                split <;> simp
              have hge : ∀ i, i < es.length + 1 → (es ++ [(k, u)]).getD i (.undef, .undef) = if i = es.length then (k, u) else es.getD i (.undef, .undef) := by
                intro i hi
                simp only [List.getD_eq_getElem?_getD]
                by_cases e : i = es.length
                · subst e; simp
                · rw [List.getElem?_append_left (by omega)]; simp [e]
              refine .omap hB (setBlock_self _ hh) (by simpa using hn) (by simp [hbs]) ⟨?_, fun x hx => ?_⟩ (fun i hi => ?_) (fun i hi => ?_)
              · rw [List.nodup_append]
                refine ⟨hcl.1, by simp, fun x hx y hy => ?_⟩
                simp only [List.mem_singleton] at hy
                have := hcl.2 x hx
                omega
              · rcases List.mem_append.1 hx with h | h
                · have := hcl.2 x h; omega
                · simp only [List.mem_singleton] at h; omega
              · simp only [List.length_append, List.length_singleton] at hi
                rw [hget i hi, hge i hi]
                split
                · exact hk.mono hm
                · exact (hkk i (by omega)).mono hm
              · simp only [List.length_append, List.length_singleton] at hi
                rw [hget i hi, hge i hi]
                split
                · exact hu.mono hm
                · exact (hvv i (by omega)).mono hm)
            exact ⟨_, _, B, _, _, hrun, hK, .undef _, g1.more ver, g2.trans (Mono.more ..)⟩
        · exact hK.elim
    · exact hK.elim
  · exact hK.elim

theorem Real.makeMap {P : Program} {w : World} {B : Blocks} {hp : List (RId × Root)} {V : Nat → Prop} {ver : Nat} (hr : HR w B (lkH hp) V) (hver : ¬ V ver) (id : RId) (hid : id.1 ≠ 0) (t : TypeId) {x : Option PV} {vx : Option Value} (hx : OV w B (lkH hp) V x vx) :
    Real P w B hp V ver (Instr.makeMap t vx) (makeMapA P id ver t x) := by
  intro K hK
  have fin : (Instr.makeMap t vx).run P w = .ok (.map (some w.heap.size)) (w.alloc (.map #[] 0)) → K (.sref .map id ver) (setH hp id (some ⟨ver, .omap [] [] 0⟩)) →
      ∃ v w' B' hp' x', (Instr.makeMap t vx).run P w = .ok v w' ∧ K x' hp' ∧ VR w' B' (lkH hp') (ors V ver) x' v ∧ HR w' B' (lkH hp') (ors V ver) ∧ Mono w B (lkH hp) V w' B' (lkH hp') (ors V ver) := by
    intro hrun hk
    obtain ⟨g1, g2⟩ := hr.newS hver id hid (node := .omap [] [] 0) rfl (o := .map #[] 0) rfl (fun _ => .omap (newB_self ..) (heap_alloc_new ..) rfl rfl ⟨List.nodup_nil, fun x hx => by simp at hx⟩ (fun i hi => by simp at hi) (fun i hi => by simp at hi))
    refine ⟨_, _, _, _, _, hrun, hk, .sref (.inr rfl) (fun rt h _ => ?_), g1, g2⟩
    rw [lookH_setH, if_pos rfl] at h
    cases h
    exact ⟨w.heap.size, at_nil.2 rfl, newB_self .., rfl⟩
  unfold makeMapA at hK
  split at hK
  · cases vx with
    | none => exact fin rfl hK
    | some v => exact hx.elim
  · rename_i ik n kt et hu
    cases vx with
    | none => exact hx.elim
    | some v =>
      cases hx
      exact fin (by simp [Instr.makeMap, run_underlying' hu, asInt, asIntOf]) hK
  · exact hK.elim

theorem Real.lenM {P : Program} {w : World} {B : Blocks} {hp : List (RId × Root)} {V : Nat → Prop} {ver : Nat} (hr : HR w B (lkH hp) V) (t rt0 : TypeId) {x : PV} {vx : Value} (hx : VR w B (lkH hp) V x vx) :
    Real P w B hp V ver (Builtin.len_ #[t] rt0 #[vx]) (Ab.lenM P t x) := by
  refine .of_pure hr fun K hK => ?_
  unfold Ab.lenM at hK
  split at hK
  · rename_i kt et hu
    split at hK
    · cases hx
      exact ⟨_, _, by simp [Builtin.len_, run_underlying' hu]; rfl, hK, .int _ _⟩
    · cases hx with
      | fmap hf hh hn _ _ => exact ⟨_, _, by simp [Builtin.len_, run_underlying' hu, run_getObj' hh rfl, hn, goInt], hK, .int _ _⟩
    · rename_i r v
      simp only [A.wp] at hK
      cases hH : lkH hp r with
      | none => rw [hH] at hK; exact hK.elim
      | some rt =>
        rw [hH] at hK
        obtain ⟨hv, hK⟩ := hK
        have hroot := hr.root r rt hH
        split at hK
        · rename_i es bs cl hnode
          rw [hnode] at hroot
          cases hx with
          | sref _ h =>
          obtain ⟨b, _, hB, rfl⟩ := h rt hH hv
          cases hroot with
          | omap hB' hh hn _ _ _ _ =>
            rw [hB] at hB'
            cases hB'
            exact ⟨_, _, by simp [SK.val, Builtin.len_, run_underlying' hu, run_getObj' hh rfl, hn, goInt], hK, .int _ _⟩
        · exact hK.elim
    · exact hK.elim
  · exact hK.elim

theorem Real.range {P : Program} {w : World} {B : Blocks} {hp : List (RId × Root)} {V : Nat → Prop} {ver : Nat} (hr : HR w B (lkH hp) V) (hver : ¬ V ver) (id : RId) (hid : id.1 ≠ 0) (t : TypeId) {x : PV} {vx : Value} (hx : VR w B (lkH hp) V x vx) :
    Real P w B hp V ver (Instr.range t vx) (rangeA P id ver t x) := by
  intro K hK
  have fin : ∀ (m : PV) (om : Option Nat) (since : Nat), VR w B (lkH hp) V m (.map om) → (Instr.range t vx).run P w = .ok (.pointer (some ⟨w.heap.size, 0, none⟩)) (w.alloc (.mapIter om since #[] since)) → K (.sref .iter id ver) (setH hp id (some ⟨ver, .oiter m since [] since⟩)) →
      ∃ v w' B' hp' x', (Instr.range t vx).run P w = .ok v w' ∧ K x' hp' ∧ VR w' B' (lkH hp') (ors V ver) x' v ∧ HR w' B' (lkH hp') (ors V ver) ∧ Mono w B (lkH hp) V w' B' (lkH hp') (ors V ver) := by
    intro m om since hm hrun hk
    obtain ⟨g1, g2⟩ := hr.newS hver id hid (node := .oiter m since [] since) rfl (o := .mapIter om since #[] since) rfl (fun hmo => .oiter (newB_self ..) (heap_alloc_new ..) (hm.mono hmo))
    refine ⟨_, _, _, _, _, hrun, hk, .sref (.inr rfl) (fun rt h _ => ?_), g1, g2⟩
    rw [lookH_setH, if_pos rfl] at h
    cases h
    exact ⟨w.heap.size, at_nil.2 rfl, newB_self .., rfl⟩
  unfold rangeA at hK
  split at hK
  · rename_i kt et hu
    split at hK
    · have hx' := hx
      cases hx'
      exact fin _ none 0 hx (by simp [Instr.range, run_underlying' hu]) hK
    · rename_i r v
      simp only [A.wp] at hK
      cases hH : lkH hp r with
      | none => rw [hH] at hK; exact hK.elim
      | some rt =>
        rw [hH] at hK
        obtain ⟨hv, hK⟩ := hK
        have hroot := hr.root r rt hH
        split at hK
        · rename_i es bs cl hnode
          rw [hnode] at hroot
          have hx' := hx
          cases hx' with
          | sref _ h =>
          obtain ⟨b, _, hB, rfl⟩ := h rt hH hv
          cases hroot with
          | omap hB' hh hn _ _ _ _ =>
            rw [hB] at hB'
            cases hB'
            exact fin _ (some b) cl hx (by simp [SK.val, Instr.range, run_underlying' hu, run_getObj' hh rfl]) hK
        · exact hK.elim
    · exact hK.elim
  · exact hK.elim

theorem getElem_getD (cs : Array MapEntry) {i : Nat} (h : i < cs.size) : cs.getD i default = cs[i] := by simp [Array.getD_eq_getD_getElem?, h]

theorem tup3 {w B H V} {k v : PV} {vk vv : Value} (hk : VR w B H V k vk) (hv : VR w B H V v vv) : VR w B H V (.tup [.bool true, k, v]) (.tuple #[.bool true, vk, vv]) := by
  refine .tup rfl (fun i hi => ?_)
  rcases i with _ | _ | _ | i
  · exact .bool true
  · simpa using hk
  · simpa using hv
  · simp at hi; omega

theorem Real.next {P : Program} {w : World} {B : Blocks} {hp : List (RId × Root)} {V : Nat → Prop} {ver : Nat} (hr : HR w B (lkH hp) V) (str : Bool) (ty : TypeId) {x : PV} {vx : Value} (hx : VR w B (lkH hp) V x vx) :
    Real P w B hp V ver (Instr.next vx str ty) (nextA str x) := by
  intro K hK
  unfold nextA at hK
  split at hK
  · rename_i r v
    simp only [A.wp] at hK
    cases hH : lkH hp r with
    | none => rw [hH] at hK; exact hK.elim
    | some rt =>
      rw [hH] at hK
      obtain ⟨hv, hK⟩ := hK
      have hroot := hr.root r rt hH
      cases hx with
      | sref _ h =>
      obtain ⟨b, _, hB, rfl⟩ := h rt hH hv
      split at hK
      · rename_i since seen last hnode
        rw [hnode] at hroot
        cases hroot with
        | oiter hB' hh hm =>
          rw [hB] at hB'
          cases hB'
          cases hm
          refine ⟨.tuple #[.bool false], w, B, hp, _, ?_, hK, .tup rfl (fun i hi => ?_), hr.more ver, Mono.more ..⟩
          · simp [SK.val, Instr.next, run_getObj' hh rfl]
          · obtain rfl : i = 0 := by simp at hi; omega
            exact .bool false
      · rename_i r2 v2 since seen last hnode
        have hsp : spec rt.node = true := by rw [hnode]; rfl
        rw [hnode] at hroot
        simp only [A.wp] at hK
        cases hH2 : lkH hp r2 with
        | none => rw [hH2] at hK; exact hK.elim
        | some rt2 =>
          rw [hH2] at hK
          obtain ⟨hv2, hK⟩ := hK
          have hroot2 := hr.root r2 rt2 hH2
          split at hK
          · rename_i es bs cl hnode2
            rw [hnode2] at hroot2
            cases hroot2 with
            | @omap _ _ b2 _ cs hB2 hh2 hn hbs hcl hkk hvv =>
            have hlen : bs.length = es.length := by rw [hbs]; simp [hn]
            obtain ⟨⟨rfl, hle⟩, hK⟩ := hK ⟨hlen, hcl⟩
            rw [A.ifD_wp] at hK
            cases hroot with
            | @oiter _ _ _ b' _ om hB' hh hm =>
            rw [hB] at hB'
            cases hB'
            have hm' := hm
            cases hm' with
            | sref _ h2 =>
            obtain ⟨b2', _, hB2', he⟩ := h2 rt2 hH2 hv2
            rw [hB2] at hB2'
            cases hB2'
            simp only [SK.val, Value.map.injEq] at he
            subst he
            have hold : ∀ x ∈ cs.toList, x.born < cl := fun x hx => hcl.2 _ (by rw [hbs]; exact List.mem_map_of_mem hx)
            have hbget : ∀ i, i < cs.size → bs.getD i 0 = (cs.getD i default).born := fun i hi => by
              rw [hbs]
              simp [List.getD_eq_getElem?_getD, Array.getD_eq_getD_getElem?, hi]
            have hmem : ∀ i, i ∈ leftI bs seen ↔ i < cs.size ∧ (cs.getD i default).born ∉ seen := fun i => by
              unfold leftI
              simp only [List.mem_filter, List.mem_range, hlen, ← hn]
              constructor
              · rintro ⟨h1, h2⟩; rw [hbget i h1] at h2; exact ⟨h1, by simpa using h2⟩
              · rintro ⟨h1, h2⟩; rw [hbget i h1]; exact ⟨h1, by simpa using h2⟩
            rcases run_next_at (P := P) w ty b b2 cl last seen.toArray cs cl hh hh2 hold hle with ⟨h0, hrun⟩ | ⟨e, he, w1, hw1, hrun⟩
            · have hnil : leftI bs seen = [] := by
                refine List.eq_nil_iff_forall_not_mem.2 fun i hi => ?_
                obtain ⟨h1, h2⟩ := (hmem i).1 hi
                have : cs.getD i default ∈ leftOf cs seen.toArray := by
                  unfold leftOf
                  rw [getElem_getD cs h1] at h2 ⊢
                  simp [Array.mem_filter, h2]
                have h3 : leftOf cs seen.toArray = #[] := Array.eq_empty_of_size_eq_zero h0
                rw [h3] at this
                simp at this
              rw [if_pos hnil] at hK
              refine ⟨_, w, B, hp, _, hrun, hK, .tup rfl (fun i hi => ?_), hr.more ver, Mono.more ..⟩
              obtain rfl : i = 0 := by simp at hi; omega
              exact .bool false
            · have he2 : e ∈ cs ∧ e.born ∉ seen := by
                have : e ∈ leftOf cs seen.toArray := by simpa using he
                unfold leftOf at this
                simpa [Array.mem_filter] using this
              obtain ⟨i, hi, rfl⟩ := Array.getElem_of_mem he2.1
              have hil : i ∈ leftI bs seen := (hmem i).2 ⟨hi, by rw [getElem_getD cs hi]; exact he2.2⟩
              rw [if_neg (fun h => by rw [h] at hil; simp at hil)] at hK
              have hK := hK i hil
              have hb : bs.getD i 0 = cs[i].born := by rw [hbget i hi, getElem_getD cs hi]
              have hturn : ∃ hr1 : HR w1 B (lkH hp) V, Mono w B (lkH hp) V w1 B (lkH hp) V ∧ w1.heap = w.heap := by
                rcases hw1 with rfl | rfl
                · exact ⟨hr, Mono.refl .., rfl⟩
                · exact ⟨hr.drew.1, hr.drew.2, rfl⟩
              obtain ⟨hr1, hm1, hheap⟩ := hturn
              have hh1 : w1.heap[b]? = some (.mapIter (some b2) cl seen.toArray last) := by rw [hheap]; exact hh
              obtain ⟨g1, g2⟩ := hr1.putS (H' := lkH (setH hp r (some ⟨rt.ver, .oiter (.sref .map r2 v2) cl (seen ++ [bs.getD i 0]) cl⟩))) hH hsp hB hh1 (o' := .mapIter (some b2) cl (seen.toArray.push cs[i].born) cl) rfl (node := .oiter (.sref .map r2 v2) cl (seen ++ [bs.getD i 0]) cl) rfl (fun j => lookH_setH ..) (fun hmo => by
                refine .oiter hB ?_ ((hm.mono hm1).mono hmo)
                rw [setBlock_self _ hh1, hb]
                simp)
              refine ⟨_, _, B, _, _, hrun, hK, ?_, g1.more ver, (hm1.trans g2).trans (Mono.more ..)⟩
              have h1 := hkk i (by omega)
              have h2 := hvv i (by omega)
              rw [getElem_getD cs hi] at h1 h2
              exact (tup3 ((h1.mono hm1).mono g2) ((h2.mono hm1).mono g2)).mono (Mono.more ..)
          · exact hK.elim
      · exact hK.elim
  · exact hK.elim

theorem Real.entry {P : Program} {w : World} {B : Blocks} {hp : List (RId × Root)} {V : Nat → Prop} {ver : Nat} (hr : HR w B (lkH hp) V) {x : PV} {vx : Value} (hx : VR w B (lkH hp) V x vx) :
    Real P w B hp V ver (Instr.entry vx) (entryA x) := by
  refine .of_pure hr fun K hK => ?_
  unfold entryA at hK
  split at hK
  · rename_i r v
    simp only [A.wp] at hK
    cases hH : lkH hp r with
    | none => rw [hH] at hK; exact hK.elim
    | some rt =>
      rw [hH] at hK
      obtain ⟨hv, hK⟩ := hK
      have hroot := hr.root r rt hH
      cases hx with
      | sref _ h =>
      obtain ⟨b, _, hB, rfl⟩ := h rt hH hv
      split at hK
      · rename_i r2 v2 since seen last hnode
        rw [hnode] at hroot
        simp only [A.wp] at hK
        cases hH2 : lkH hp r2 with
        | none => rw [hH2] at hK; exact hK.elim
        | some rt2 =>
          rw [hH2] at hK
          obtain ⟨hv2, hK⟩ := hK
          have hroot2 := hr.root r2 rt2 hH2
          split at hK
          · rename_i es bs cl hnode2
            rw [hnode2] at hroot2
            cases hroot2 with
            | @omap _ _ b2 _ cs hB2 hh2 hn hbs hcl hkk hvv =>
            obtain ⟨rfl, hK⟩ := hK
            cases hroot with
            | @oiter _ _ _ b' _ om hB' hh hm =>
            rw [hB] at hB'
            cases hB'
            cases hm with
            | sref _ h2 =>
            obtain ⟨b2', _, hB2', he⟩ := h2 rt2 hH2 hv2
            rw [hB2] at hB2'
            cases hB2'
            simp only [SK.val, Value.map.injEq] at he
            subst he
            cases hE : entryE es bs seen with
            | none => rw [hE] at hK; exact hK.elim
            | some y =>
              rw [hE] at hK
              unfold entryE at hE
              cases hl : seen.getLast? with
              | none => rw [hl] at hE; cases hE
              | some s =>
                rw [hl] at hE
                simp only at hE
                cases hi : bs.idxOf? s with
                | none => rw [hi] at hE; cases hE
                | some i =>
                  rw [hi] at hE
                  simp only [Option.bind_some, Option.map_eq_some_iff] at hE
                  obtain ⟨e, he, rfl⟩ := hE
                  obtain ⟨hib, hbi⟩ : ∃ h : i < bs.length, bs[i] = s := by
                    have := List.idxOf?_eq_some_iff.1 hi
                    obtain ⟨h1, h2, _⟩ := this
                    exact ⟨h1, by simpa using h2⟩
                  have hi' : i < cs.size := by rw [hbs] at hib; simpa using hib
                  have hborn : cs[i].born = s := by
                    rw [← hbi]
                    simp [hbs]
                  obtain ⟨front, hfront⟩ := List.getLast?_eq_some_iff.1 hl
                  have hh' : w.heap[b]? = some (.mapIter (some b2) since (front.toArray.push cs[i].born) cl) := by
                    rw [hh, hfront, hborn]
                    simp
                  have hrun := run_entry_at (P := P) w b b2 since front.toArray cs cl cs[i] hh' hh2 (by simp) (by rw [← hbs]; exact hcl.1)
                  have hes : es.getD i (.undef, .undef) = e := by simp [List.getD_eq_getElem?_getD, he]
                  have hie : i < es.length := by omega
                  have h1 := hkk i hie
                  have h2 := hvv i hie
                  rw [hes, getElem_getD cs hi'] at h1 h2
                  refine ⟨_, _, hrun, hK, .tup rfl (fun j hj => ?_)⟩
                  rcases j with _ | _ | j
                  · simpa using h1
                  · simpa using h2
                  · simp at hj; omega
          · exact hK.elim
      · exact hK.elim
  · exact hK.elim
end Go.Ab
namespace Go.Ab

def capA (P : Program) (t : TypeId) (x : PV) : A := match sliceOf P t, x with
  | some _, .nils => .ret (.int .i64 0)
  | some _, .fcl _ n _ => .ret (.int .i64 n)
  | _, _ => .fail

theorem Real.cap {P : Program} {w : World} {B : Blocks} {hp : List (RId × Root)} {V : Nat → Prop} {ver : Nat} (hr : HR w B (lkH hp) V) (t rt0 : TypeId) {x : PV} {vx : Value} (hx : VR w B (lkH hp) V x vx) :
    Real P w B hp V ver (Builtin.cap_ #[t] rt0 #[vx]) (capA P t x) := by
  refine .of_pure hr fun K hK => ?_
  unfold capA at hK
  split at hK
  · rename_i e he
    cases hx
    exact ⟨_, _, by simp [Builtin.cap_, run_underlying' (sliceOf_some he), goInt], hK, .int _ _⟩
  · rename_i e sz n f he
    cases hx
    exact ⟨_, _, by simp [Builtin.cap_, run_underlying' (sliceOf_some he), goInt], hK, .int _ _⟩
  · exact hK.elim

/-- The length of what has one. -/
def lenT (P : Program) (t : TypeId) (x : PV) : A := match x with
  | .nilm => lenM P t .nilm
  | .fmap es => lenM P t (.fmap es)
  | .sref k r v => lenM P t (.sref k r v)
  | .fcl _ n _ => match sliceOf P t with
    | some _ => .ret (.int .i64 n)
    | none => .fail
  | x => lenA P t x

theorem Real.lenT {P : Program} {w : World} {B : Blocks} {hp : List (RId × Root)} {V : Nat → Prop} {ver : Nat} (hr : HR w B (lkH hp) V) (t rt0 : TypeId) {x : PV} {vx : Value} (hx : VR w B (lkH hp) V x vx) :
    Real P w B hp V ver (Builtin.len_ #[t] rt0 #[vx]) (Ab.lenT P t x) := by
  unfold Ab.lenT
  split
  · exact .lenM hr t rt0 hx
  · exact .lenM hr t rt0 hx
  · exact .lenM hr t rt0 hx
  · refine .of_pure hr fun K hK => ?_
    split at hK
    · rename_i e he
      cases hx
      exact ⟨_, _, by simp [Builtin.len_, run_underlying' (sliceOf_some he), goInt], hK, .int _ _⟩
    · exact hK.elim
  · exact .len hr t rt0 hx
end Go.Ab
namespace Go.Ab

theorem loadFrom_take {P : Program} {w : World} (a : Addr) : ∀ (n i : Nat) (acc arr : Array Value) (w' : World), (loadCellsFrom a i n acc).run P w = .ok arr w' → w' = w ∧ arr.size = acc.size + n ∧ ∀ k, k ≤ n → (loadCellsFrom a i k acc).run P w = .ok (arr.toList.take (acc.size + k)).toArray w
  | 0, i, acc, arr, w', h => by
    simp [loadCellsFrom] at h
    obtain ⟨rfl, rfl⟩ := h
    refine ⟨rfl, rfl, fun k hk => ?_⟩
    obtain rfl : k = 0 := by omega
    simp only [loadCellsFrom, Sem.run_pure, Nat.add_zero]
    rw [List.take_of_length_le (by simp), Array.toArray_toList]
  | n + 1, i, acc, arr, w', h => by
    unfold loadCellsFrom at h
    rw [Sem.run_bind] at h
    cases hr : (load (a.add i)).run P w with
    | halt hh w1 => rw [hr] at h; cases h
    | ok v w1 =>
      have e : w1 = w := by
        rw [run_load] at hr
        split at hr
        · cases hr; rfl
        · split at hr
          · cases hr; rfl
          · cases hr
      subst e
      rw [hr] at h
      obtain ⟨h1, h2, h3⟩ := loadFrom_take a n (i + 1) (acc.push v) arr w' h
      refine ⟨h1, by rw [h2, Array.size_push]; omega, fun k hk => ?_⟩
      cases k with
      | zero =>
        have h4 := (h3 0 (by omega))
        simp only [loadCellsFrom, Sem.run_pure, Nat.add_zero, Array.size_push] at h4 ⊢
        have h5 : acc.push v = (arr.toList.take (acc.size + 1)).toArray := by injection h4
        have h6 := congrArg (fun x : Array Value => x.toList.take acc.size) h5
        simp only [List.take_take] at h6
        rw [Nat.min_eq_left (by omega)] at h6
        have h7 : (acc.push v).toList.take acc.size = acc.toList := by simp
        rw [← h6, h7]
      | succ k =>
        have h4 := h3 k (by omega)
        unfold loadCellsFrom
        rw [Sem.run_bind, hr]
        simp only [Result.andThen_ok]
        rw [h4]
        rw [show acc.size + (k + 1) = (acc.push v).size + k by simp; omega]

/-- The first of what is read. -/
theorem first_take {P : Program} {w : World} {sz m k : Nat} {x : Value} {news : List Value} (hk : k ≤ m) (hs : ∃ A n c, x = .slice A n c) (h : (Builtin.firstCells sz m x).run P w = .ok news.toArray w) (hn : news.length = m * sz) :
    (Builtin.firstCells sz k x).run P w = .ok (news.take (k * sz)).toArray w := by
  obtain ⟨A, n, c, rfl⟩ := hs
  cases A with
  | none =>
    simp [Builtin.firstCells] at h ⊢
    simp [h]
  | some a =>
    simp only [Builtin.firstCells, loadCells] at h ⊢
    obtain ⟨_, h2, h3⟩ := loadFrom_take a _ _ _ _ _ h
    have := h3 (k * sz) (Nat.mul_le_mul_right _ hk)
    simpa using this

def copyA (P : Program) (t : TypeId) (x y : PV) : A := match sliceOf P t with
  | some e => match x with
    | .ref r v p sz lo hi => .rd r fun
      | some rt => .vc (rt.ver = v ∧ P.cellsOf e = sz ∧ 0 < sz ∧ (P.info? e).isSome) <| match getAt rt.node p with
        | .own _ n f => srcA sz y fun m c => .ifD (m = 0 ∨ hi ≤ lo) (.ret (.int .i64 0)) (.vc (∀ i, i < lo + Nat.min m (hi - lo) → lo ≤ i → ∀ o, o < sz → shapeOf (f i o) = none)
            (.wr r (some ⟨rt.ver, updAt (setRows lo (Nat.min m (hi - lo)) c) rt.node p⟩) (.ret (.int .i64 (Nat.min m (hi - lo))))))
        | _ => .fail
      | none => .fail
    | _ => .fail
  | none => .fail

theorem srcA_slice {w : World} {B : Blocks} {H : Roots} {V : Nat → Prop} {P : Program} {sz m : Nat} {y : PV} {vy : Value} {t e : TypeId} {news : List Value} (hu : P.underlying t = some (.slice e)) (h : Src P sz t vy m news w) (hy : VR w B H V y vy) (hb : ∃ (k : Nat → (Nat → Nat → PV) → A) (hp : List (RId × Root)) (K : PV → List (RId × Root) → Prop), (∀ r v p s lo hi, y = .ref r v p s lo hi → lkH hp = H) ∧ (srcA sz y k).wp hp K) : ∃ A n c, vy = .slice A n c := by
  obtain ⟨k, hp, K, he, hk⟩ := hb
  unfold srcA at hk
  split at hk
  · cases hy; exact ⟨_, _, _, rfl⟩
  · cases hy; exact ⟨_, _, _, rfl⟩
  · cases hy; exact ⟨_, _, _, rfl⟩
  · rename_i r v p sz' lo hi
    have he := he _ _ _ _ _ _ rfl
    simp only [A.wp] at hk
    rw [he] at hk
    cases hH : H r with
    | none => rw [hH] at hk; exact hk.elim
    | some rt =>
      rw [hH] at hk
      cases hy with
      | ref hv hy =>
      obtain ⟨n, hat, hlo, hhi, hx⟩ := hy rt hH hk.1.1
      rcases hx with ⟨b, A, cap, e', mm, hB, rfl, _⟩ | ⟨hB, ⟨A0, rfl⟩, h00⟩
      · exact ⟨_, _, _, rfl⟩
      · exact ⟨_, _, _, rfl⟩
  · exact hk.elim

theorem Real.copy {P : Program} {w : World} {B : Blocks} {hp : List (RId × Root)} {V : Nat → Prop} {ver : Nat} (hr : HR w B (lkH hp) V) (t ty : TypeId) {x y : PV} {vx vy : Value}
    (hx : VR w B (lkH hp) V x vx) (hy : VR w B (lkH hp) V y vy) : Real P w B hp V ver (Builtin.copy_ #[t, t] ty #[vx, vy]) (copyA P t x y) := by
  intro K hK
  unfold copyA at hK
  split at hK
  · rename_i e he
    have hu := sliceOf_some he
    split at hK
    · rename_i r v p sz lo hi
      simp only [A.wp] at hK
      cases hH : lkH hp r with
      | none => rw [hH] at hK; exact hK.elim
      | some rt =>
        rw [hH] at hK
        obtain ⟨⟨hv, rfl, h0, hi0⟩, hK⟩ := hK
        obtain ⟨i, hi'⟩ := Option.isSome_iff_exists.1 hi0
        have hsize : i.size = P.cellsOf e := by simp [Program.cellsOf, hi']
        cases hx with
        | ref hV h =>
        obtain ⟨n, hat, hlo, hhi, hxx⟩ := h rt hH hv
        split at hK
        · rename_i sz' n' f hg
          have hs := hat.2
          rw [hg] at hs
          simp only [shapeOf, Option.some.injEq, Prod.mk.injEq, true_and] at hs
          obtain ⟨rfl, rfl⟩ := hs
          obtain ⟨m, c, val, hk, hsrc, hval⟩ := srcA_wp hr hu h0 hy hK
          have hsl : ∃ A n c, vy = .slice A n c := srcA_slice hu hsrc hy ⟨_, hp, K, fun _ _ _ _ _ _ _ => rfl, hK⟩
          rw [A.ifD_wp] at hk
          have first : ∀ k, k ≤ m → (Builtin.firstCells (P.cellsOf e) k vy).run P w = .ok (((List.range (m * P.cellsOf e)).map val).take (k * P.cellsOf e)).toArray w := fun k hk => first_take hk hsl hsrc.cells (by simp)
          have hxv : ∃ A c, vx = .slice A (hi - lo) c := by
            rcases hxx with ⟨b, A, cap, e', mm, hB, rfl, _⟩ | ⟨hB, ⟨A0, rfl⟩, h00⟩
            · exact ⟨_, _, rfl⟩
            · exact ⟨A0, 0, by rw [show hi - lo = 0 by omega]⟩
          obtain ⟨A0, c0, hvx⟩ := hxv
          have hrun0 : (Builtin.copy_ #[t, t] ty #[vx, vy]).run P w = Result.andThen ((match A0 with | some a => storeCells a (((List.range (m * P.cellsOf e)).map val).take (Nat.min m (hi - lo) * P.cellsOf e)) | none => pure ()).run P w) fun _ w' => (pure (goInt (Nat.min m (hi - lo))) : Sem Value).run P w' := by
            subst hvx
            have h1 := hsrc.len
            have h2 := first (Nat.min m (hi - lo)) (Nat.min_le_left _ _)
            have hso : ∀ w : World, (sizeOf e).run P w = .ok (P.cellsOf e) w := fun w => by simp [sizeOf, typeInfo, hi', hsize]
            simp only [Builtin.copy_, List.getElem?_toArray, List.getElem?_cons_zero, List.getElem?_cons_succ, Sem.run_bind, run_underlying' hu, Result.andThen_ok, h1, hso, h2]
            cases A0 <;> simp
          split at hk
          · rename_i hm0
            have hmin : Nat.min m (hi - lo) = 0 := by
              rcases hm0 with h | h
              · rw [h]; exact Nat.zero_min _
              · rw [show hi - lo = 0 by omega]; exact Nat.min_zero _
            rw [hmin] at hrun0
            refine ⟨_, w, B, hp, _, ?_, hk, .int _ _, hr.more ver, Mono.more ..⟩
            rw [hrun0]
            cases A0 <;> simp [storeCells, goInt]
          · rename_i hm0
            obtain ⟨hold, hk⟩ := hk
            have hkm : Nat.min m (hi - lo) ≤ m := Nat.min_le_left _ _
            have hkh : Nat.min m (hi - lo) ≤ hi - lo := Nat.min_le_right _ _
            have hkp : 0 < Nat.min m (hi - lo) := by
              show 0 < Min.min m (hi - lo)
              omega
            generalize hkk : Nat.min m (hi - lo) = k at *
            have hnode := (hr.root r rt hH).node p hat
            rcases hnode.out with ⟨hBn, hn0⟩ | ⟨b, cs, e2, hB, hh, ⟨hsz, _⟩, _⟩
            · omega
            · rcases hxx with ⟨b', A, cap, e', mm, hB', hvx', hcap, hA, hsh, hle⟩ | ⟨hB', _, _⟩
              · obtain rfl : b' = b := by rw [hB] at hB'; exact (Option.some.inj hB').symm
                obtain rfl := hA (by omega)
                rw [hvx] at hvx'
                cases hvx'
                have hlen : (((List.range (m * P.cellsOf e)).map val).take (k * P.cellsOf e)).length = k * P.cellsOf e := by
                  simp only [List.length_take, List.length_map, List.length_range]
                  exact Nat.min_eq_left (Nat.mul_le_mul_right _ hkm)
                have hget : ∀ j, j < k * P.cellsOf e → (((List.range (m * P.cellsOf e)).map val).take (k * P.cellsOf e)).getD j Go.undef = val j := fun j hj => by
                  have hj2 : j < m * P.cellsOf e := Nat.lt_of_lt_of_le hj (Nat.mul_le_mul_right _ hkm)
                  rw [List.getD_eq_getElem?_getD, List.getElem?_take, if_pos hj, List.getElem?_map, List.getElem?_range hj2]
                  rfl
                have hfit2 : lo * P.cellsOf e + (((List.range (m * P.cellsOf e)).map val).take (k * P.cellsOf e)).length ≤ cs.size := by
                  rw [hlen, ← Nat.add_mul]
                  exact Nat.le_trans (Nat.mul_le_mul_right _ (by omega)) hsz
                have hne : (((List.range (m * P.cellsOf e)).map val).take (k * P.cellsOf e)) ≠ [] := fun e0 => by
                  rw [e0] at hlen
                  have := Nat.mul_pos hkp h0
                  simp at hlen
                  omega
                have hone : ∀ u ∈ (((List.range (m * P.cellsOf e)).map val).take (k * P.cellsOf e)), u.oneCell' = true := fun u hu => hsrc.one u (List.mem_of_mem_take hu)
                have hst := run_storeCells' (P := P) _ w cs (lo * P.cellsOf e) 0 hh (by simpa using hfit2) hone hne
                obtain ⟨g1, g2⟩ := rows_put hr hH hat hg hB hh hsz (lo := lo) (k := k) (by omega) (c := c) hlen hone (fun a o ha ho => by
                  have hj : a * P.cellsOf e + o < k * P.cellsOf e := by have := mul_lt_le (s := P.cellsOf e) ha; omega
                  rw [hget _ hj]; exact hval a o (by omega) ho) (fun a o h1 h2 h3 => hold a h2 h1 o h3)
                refine ⟨_, _, B, _, _, ?_, hk, .int _ _, g1.more ver, g2.trans (Mono.more ..)⟩
                rw [hrun0]
                simp only
                rw [hst]
                simp [goInt]
                rfl
              · rw [hB] at hB'; cases hB'
        · exact hK.elim
    · exact hK.elim
  · exact hK.elim
end Go.Ab
namespace Go.Ab

def appendZA (P : Program) (id : RId) (ver : Nat) (t tn : TypeId) (x y : PV) : A := match sliceOf P t with
  | some e => match P.underlying tn with
    | some (.int _) => match zeroL P e with
      | some z => .vc (z.length = P.cellsOf e ∧ 0 < z.length ∧ z.all dryCell = true) <| match x with
        | .nils => match y with
          | .int _ n => .vc (0 < n ∧ n.toNat * P.bytesOf e ≤ 140737488355328 ∧ n.toNat ≤ 140737488355328) (.wr id (some ⟨ver, .own z.length n.toNat fun _ o => z.getD o .undef⟩) (.ret (.ref id ver [] z.length 0 n.toNat)))
          | _ => .fail
        | _ => .fail
      | none => .fail
    | _ => .fail
  | none => .fail

theorem Real.appendZ {P : Program} {w : World} {B : Blocks} {hp : List (RId × Root)} {V : Nat → Prop} {ver : Nat} (hr : HR w B (lkH hp) V) (hver : ¬ V ver) (id : RId) (hid : id.1 ≠ 0) (t tn ty : TypeId) {x y : PV} {vx vy : Value}
    (hx : VR w B (lkH hp) V x vx) (hy : VR w B (lkH hp) V y vy) : Real P w B hp V ver (Builtin.append_ #[t, tn] ty #[vx, vy]) (appendZA P id ver t tn x y) := by
  intro K hK
  unfold appendZA at hK
  split at hK
  · rename_i e he
    have hu := sliceOf_some he
    split at hK
    · rename_i kn hkn
      split at hK
      · rename_i z hz
        obtain ⟨⟨hzl, h0, hdry⟩, hK⟩ := hK
        obtain ⟨zv, e1, e2, e3⟩ := zeroL_some hz w
        have hi : (P.info? e).isSome := by unfold zeroL at hz; cases hh : P.info? e <;> simp_all
        obtain ⟨i, hi'⟩ := Option.isSome_iff_exists.1 hi
        have hbytes : P.bytesOf e = i.bytes := by simp [Program.bytesOf, hi']
        have hsize : i.size = z.length := by rw [hzl]; simp [Program.cellsOf, hi']
        obtain ⟨zz, hzz, hzzl⟩ : ∃ zz, i.zero = some zz ∧ zz.cells.toList.map cv = z := by
          unfold zeroL at hz
          rw [hi'] at hz
          simp only [Option.bind_some, Option.map_eq_some_iff] at hz
          obtain ⟨zz, h1, h2⟩ := hz
          exact ⟨zz, h1, h2⟩
        have hzzs : zz.cells.size = z.length := by rw [← hzzl]; simp
        have hL : ∀ w B V, LR w B (lkH hp) V z zz.cells := fun w B V => ⟨hzzs.symm, fun j hj => by
          rw [← hzzl]
          have : j < zz.cells.size := by omega
          simp [List.getD_eq_getElem?_getD, Array.getD_eq_getD_getElem?, this]
          exact VR.cv _⟩
        have hzone : OneCells zz.cells := oneCells_of (hL w B V) fun c hc => dryCell_one (List.all_eq_true.1 hdry c hc)
        split at hK
        · cases hx
          split at hK
          · rename_i k nn
            obtain ⟨⟨hp0, hb1, hb2⟩, hk⟩ := hK
            cases hy
            obtain ⟨m, rfl⟩ : ∃ m : Nat, nn = m := ⟨nn.toNat, by omega⟩
            simp only [Int.toNat_natCast] at hb1 hb2 hk
            have hm : 0 < m := by omega
            obtain ⟨hrd, hmd⟩ := hr.drew
            have hrun := Lib.run_append_nil_zeros (P := P) w t tn ty e i zz k kn hu hkn hi' hzz m hm (by omega) (by omega) (by rw [← hbytes]; omega)
            generalize hval : (fun j => zz.cells.getD (j % z.length) Go.undef) = val at *
            have hzc : Builtin.zeroCells zz.cells m = ((List.range (m * z.length)).map val).toArray := by
              apply Array.ext'
              simp only [Builtin.zeroCells, hzzs]
              apply List.ext_getElem?
              intro j
              simp only [Array.getElem?_toList, Array.getElem?_map, List.getElem?_map, Array.getElem?_range]
              by_cases hj : j < m * z.length
              · rw [List.getElem?_range hj, if_pos hj, ← hval]
                have : j % z.length < zz.cells.size := by rw [hzzs]; exact Nat.mod_lt _ h0
                simp [this]
              · rw [if_neg hj, List.getElem?_eq_none (by simpa using hj)]
                rfl
            have hvone : ∀ v ∈ (List.range (m * z.length)).map val, v.oneCell' = true := fun v hv => by
              obtain ⟨j, hj, rfl⟩ := List.mem_map.1 hv
              rw [← hval]
              exact hzone _ (by rw [hzzs]; exact Nat.mod_lt _ h0)
            rw [hzc] at hrun
            have hge := grownCap_ge w m 0 e
            obtain ⟨q1, q2, q3⟩ := grown_cells (olds := []) (news := (List.range (m * z.length)).map val) (z := zz.cells) (sz := z.length) (n := 0) (m := m) (cap := grownCap w m 0 e) hzzs (by simp) (by simp) (by omega)
            simp only [Nat.zero_add, List.nil_append, Nat.zero_mul] at q1 q2 q3
            have hone : OneCells (((List.range (m * z.length)).map val).toArray ++ Builtin.zeroCells zz.cells (grownCap w m 0 e - m)) := oneCells_grown hvone hzone (by omega)
            have hf : Fresh w.drew B (lkH hp) V z.length m (.own z.length m fun _ o => z.getD o .undef) (fun _ _ => none) (((List.range (m * z.length)).map val).toArray ++ Builtin.zeroCells zz.cells (grownCap w m 0 e - m)) := by
              refine ⟨fun i o hi ho _ => ?_, (fun i o r _ _ h => by cases h), (fun _ _ _ _ _ _ _ _ _ h => by cases h), hone⟩
              have hj : i * z.length + o < m * z.length := by have := mul_lt_le (s := z.length) hi; omega
              rw [q3 _ hj, getD_rangeMap _ _ _ hj, ← hval]
              simp only
              rw [show (i * z.length + o) % z.length = o by rw [Nat.mul_comm, Nat.mul_add_mod, Nat.mod_eq_of_lt ho]]
              exact (hL w.drew B V).val o ho
            obtain ⟨g1, g2⟩ := newRoot (hp' := setH hp id (some ⟨ver, .own z.length m fun _ o => z.getD o .undef⟩)) hrd hver id hid (q := true) rfl e hf (.inl rfl) (by omega) (by
              simp only [if_true]
              rw [q1]
              exact Nat.mul_le_mul_right _ hge) (fun r => by rw [lookH_setH]; simp)
            refine ⟨_, _, _, _, _, hrun, hk, .ref (.inr rfl) (fun rt h _ => ?_), g1, hmd.trans g2⟩
            rw [lookH_setH, if_pos rfl] at h
            cases h
            exact ⟨m, at_nil.2 rfl, Nat.zero_le _, Nat.le_refl _, .inl ⟨w.heap.size, ⟨w.heap.size, 0, none⟩, grownCap w m 0 e, e, (((List.range (m * z.length)).map val).toArray ++ Builtin.zeroCells zz.cells (grownCap w m 0 e - m)).size, by simp [movedB, heap_drew], rfl, by omega, fun _ => by simp, by
              have hnew := heap_alloc_new w.drew (.cells (((List.range (m * z.length)).map val).toArray ++ Builtin.zeroCells zz.cells (grownCap w m 0 e - m)) e)
              rw [heap_drew] at hnew
              simp only [World.shape?, hnew], by rw [q1]; simp⟩⟩
          · exact hK.elim
        · exact hK.elim
      · exact hK.elim
    · exact hK.elim
  · exact hK.elim
end Go.Ab
namespace Go.Ab
open Classical

theorem Regrow.hr' {w w' B B' H H' V ver} {r : RId} {x : Option Nat} {rt : Root} {sz n n' : Nat} {f f' : Nat → Nat → PV} {v : Value} (g : Regrow w w' B B' H H' r x ⟨ver, .own sz n' f'⟩) (hr : HR w B H V) (hver : ¬ V ver) (hH : H r = some rt)
    (hnode : rt.node = .own sz n f) (hd : ∀ i o p s, at? (.own sz n f) ((i, o) :: p) s → at? (.own sz n' f') ((i, o) :: p) s) (ht : TR w' B' H' (ors V ver) r [] (.own sz n' f') v) : HR w' B' H' (ors V ver) := by
  have hm := g.mono hr hver rfl hH
  have hlt : ∀ r p b, B r p = some b → b < w.heap.size := fun r p b h => (hr.dom r p b h).1
  have hne : ∀ r' p b, ¬ (r' = r ∧ p = []) → B r' p = some b → x ≠ some b := by
    intro r' p b h1 h2 e
    rcases g.old with h | ⟨nb, h, h3⟩
    · exact h1 (hr.inj _ _ _ _ _ h2 (h ▸ e))
    · rw [h] at e; cases e; have := hlt _ _ _ h2; omega
  refine ⟨fun j rt2 h => ?_, fun j rt2 h => ?_, fun r' p b h => ?_, fun j rt2 h => ?_, fun r1 p1 r2 p2 b h1 h2 => ?_⟩
  · rw [g.roots] at h
    split at h
    · rename_i e; subst e; cases h; exact .own ht
    · rename_i hj
      exact (hr.root j rt2 h).mono hm (fun t s _ => ⟨by rw [g.blk, if_neg (fun e => hj e.1)], fun b hb => g.heap b (hlt _ _ _ hb) (hne j t b (fun e => hj e.1) hb)⟩)
  · rw [g.roots] at h
    split at h
    · cases h; exact .inr rfl
    · exact .inl (hr.ver j rt2 h)
  · rw [g.blk] at h
    split at h
    · rename_i e
      obtain ⟨rfl, rfl⟩ := e
      exact ⟨g.lt b h, .inr ⟨⟨ver, .own sz n' f'⟩, (true, sz, n'), by rw [g.roots, if_pos rfl], at_nil.2 rfl⟩⟩
    · rename_i hrp
      obtain ⟨h1, h2⟩ := hr.dom r' p b h
      refine ⟨Nat.lt_of_lt_of_le h1 g.size, h2.imp id fun ⟨rt2, s, h3, h4⟩ => ?_⟩
      by_cases e : r' = r
      · subst e
        rw [hH] at h3
        cases h3
        refine ⟨_, s, by rw [g.roots, if_pos rfl], ?_⟩
        rw [hnode] at h4
        cases p with
        | nil => exact absurd ⟨rfl, rfl⟩ hrp
        | cons y p =>
          obtain ⟨i, o⟩ := y
          exact hd i o p s h4
      · exact ⟨rt2, s, by rw [g.roots, if_neg e]; exact h3, h4⟩
  · rw [g.roots] at h
    split at h
    · rename_i e; rw [e]; exact hr.lev r rt hH
    · exact hr.lev j rt2 h
  · rw [g.blk] at h1 h2
    split at h1
    · rename_i e1
      split at h2
      · rename_i e2; exact ⟨e1.1.trans e2.1.symm, e1.2.trans e2.2.symm⟩
      · rename_i e2; exact absurd h1 (hne _ _ _ e2 h2)
    · rename_i e1
      split at h2
      · exact absurd h2 (hne _ _ _ e1 h1)
      · exact hr.inj _ _ _ _ _ h1 h2

theorem grow_fin' {w w' : World} {B B' : Blocks} {hp : List (RId × Root)} {V : Nat → Prop} {ver : Nat} {r : RId} {rt : Root} {sz NN n m : Nat} {f c : Nat → Nat → PV} {xb : Option Nat} (hr : HR w B (lkH hp) V) (hver : ¬ V ver) (hH : lkH hp r = some rt) (hnode : rt.node = .own sz NN f) (hd : ∀ i o p s, at? (.own sz NN f) ((i, o) :: p) s → at? (.own sz (n + m) fun i o => if i < n then f i o else c (i - n) o) ((i, o) :: p) s)
    (g : Regrow w w' B B' (lkH hp) (lkH (setH hp r (some ⟨ver, .own sz (n + m) fun i o => if i < n then f i o else c (i - n) o⟩))) r xb ⟨ver, .own sz (n + m) fun i o => if i < n then f i o else c (i - n) o⟩) {b cap : Nat} {cs cs' : Array Value} {e : TypeId}
    (hx : xb = some b) (hold : ∀ i o, i < n → o < sz → TR w B (lkH hp) V r [(i, o)] (f i o) (cs.getD (i * sz + o) Go.undef)) (hh : w'.heap[b]? = some (.cells cs' e (0, 0))) (hcap : cap * sz ≤ cs'.size) (hone : OneCells cs') (hle : n + m ≤ cap) (hmax : n + m ≤ 140737488355328)
    (h1 : ∀ i o, i < n → o < sz → cs'.getD (i * sz + o) Go.undef = cs.getD (i * sz + o) Go.undef) (h2 : ∀ i o, i < m → o < sz → VR w B (lkH hp) V (c i o) (cs'.getD ((n + i) * sz + o) Go.undef)) {Ad : Addr} (hAd : 0 < cap → Ad = ⟨b, 0, none⟩) :
    HR w' B' (lkH (setH hp r (some ⟨ver, .own sz (n + m) fun i o => if i < n then f i o else c (i - n) o⟩))) (ors V ver) ∧
    Mono w B (lkH hp) V w' B' (lkH (setH hp r (some ⟨ver, .own sz (n + m) fun i o => if i < n then f i o else c (i - n) o⟩))) (ors V ver) ∧
    VR w' B' (lkH (setH hp r (some ⟨ver, .own sz (n + m) fun i o => if i < n then f i o else c (i - n) o⟩))) (ors V ver) (.ref r ver [] sz 0 (n + m)) (.slice (some Ad) (n + m) cap) := by
  have hm := g.mono hr hver rfl hH
  have hBr : B' r [] = some b := by rw [g.blk, if_pos ⟨rfl, rfl⟩, hx]
  have hne : ∀ i o t k, B r ((i, o) :: t) = some k → xb ≠ some k := by
    intro i o t k h1 e
    rcases g.old with h | ⟨nb, h, h3⟩
    · have := (hr.inj _ _ _ _ _ h1 (h ▸ e)).2; cases this
    · rw [h] at e; cases e; have := (hr.dom _ _ _ h1).1; omega
  have htr : TR w' B' (lkH (setH hp r (some ⟨ver, .own sz (n + m) fun i o => if i < n then f i o else c (i - n) o⟩))) (ors V ver) r [] (.own sz (n + m) fun i o => if i < n then f i o else c (i - n) o) (.slice (some Ad) (n + m) cap) := by
    refine .own hAd hBr hh ⟨hcap, hone⟩ hle hmax fun i o hi ho => ?_
    by_cases h : i < n
    · simp only [h, if_true]
      rw [h1 i o h ho]
      refine (hold i o h ho).mono hm fun t s _ => ⟨?_, fun k hk => g.heap k (hr.dom _ _ _ hk).1 (hne _ _ _ _ hk)⟩
      show B' r ((i, o) :: t) = B r ((i, o) :: t)
      rw [g.blk, if_neg (fun e => by cases e.2)]
    · simp only [h, if_false]
      have := h2 (i - n) o (by omega) ho
      rw [show n + (i - n) = i by omega] at this
      exact .leaf (this.mono hm)
  refine ⟨g.hr' hr hver hH hnode hd htr, hm, .ref (.inr rfl) fun rt2 h _ => ?_⟩
  rw [lookH_setH, if_pos rfl] at h
  cases h
  refine ⟨n + m, at_nil.2 rfl, Nat.zero_le _, Nat.le_refl _, .inl ⟨b, Ad, cap, e, cs'.size, hBr, rfl, by omega, fun h => by rw [hAd h]; simp, ?_, by simpa using hcap⟩⟩
  simp [World.shape?, hh]


/-- How many elements a source has. -/
def lenK (y : PV) (k : Nat → A) : A := match y with
  | .ref _ _ _ _ lo hi => k (hi - lo)
  | .frz _ n _ => k n
  | .fcl _ n _ => k n
  | _ => k 0
theorem lenK_wp {y : PV} {k : Nat → A} {hp : List (RId × Root)} {K : PV → List (RId × Root) → Prop} (h : (lenK y k).wp hp K) : ∃ m, (k m).wp hp K := by
  unfold lenK at h
  split at h <;> exact ⟨_, h⟩

def overA (P : Program) (ver : Nat) (t : TypeId) (r : RId) (v sz hi : Nat) (y : PV) : A :=
  match sliceOf P t with
  | some e => match zeroL P e with
    | some z => .vc (z.length = P.cellsOf e ∧ 0 < z.length ∧ z.all dryCell = true ∧ sz = z.length) <| .rd r fun
      | some rt => match rt.node with
        | .own sz'' n f => .vc (rt.ver = v ∧ sz'' = z.length ∧ hi < n ∧ ∀ i, i < n → hi ≤ i → ∀ o, o < sz'' → shapeOf (f i o) = none) (srcA z.length y fun m c => .vc ((hi + m) * P.bytesOf e ≤ 140737488355328 ∧ hi + m ≤ 140737488355328 ∧ 0 < m)
            (.wr r (some ⟨ver, .own z.length (hi + m) fun i o => if i < hi then f i o else c (i - hi) o⟩) (.ret (.ref r ver [] z.length 0 (hi + m)))))
        | _ => .fail
      | none => .fail
    | none => .fail
  | none => .fail

theorem Real.over {P : Program} {w : World} {B : Blocks} {hp : List (RId × Root)} {V : Nat → Prop} {ver : Nat} (hr : HR w B (lkH hp) V) (hver : ¬ V ver) (t ty : TypeId) {r : RId} {v sz hi0 : Nat} {y : PV} {vx vy : Value}
    (hx : VR w B (lkH hp) V (.ref r v [] sz 0 hi0) vx) (hy : VR w B (lkH hp) V y vy) : Real P w B hp V ver (Builtin.append_ #[t, t] ty #[vx, vy]) (overA P ver t r v sz hi0 y) := by
  intro K hK
  unfold overA at hK
  split at hK
  · rename_i e he
    split at hK
    · rename_i z hz
      obtain ⟨⟨hzl, h0, hdry, rfl⟩, hK⟩ := hK
      have hu := sliceOf_some he
      obtain ⟨zv, e1, e2, e3⟩ := zeroL_some hz w
      have hi : (P.info? e).isSome := by unfold zeroL at hz; cases hh : P.info? e <;> simp_all
      obtain ⟨i, hi'⟩ := Option.isSome_iff_exists.1 hi
      have hbytes : P.bytesOf e = i.bytes := by simp [Program.bytesOf, hi']
      have hsize : i.size = z.length := by rw [hzl]; simp [Program.cellsOf, hi']
      obtain ⟨zz, hzz, hzzl⟩ : ∃ zz, i.zero = some zz ∧ zz.cells.toList.map cv = z := by
        unfold zeroL at hz
        rw [hi'] at hz
        simp only [Option.bind_some, Option.map_eq_some_iff] at hz
        obtain ⟨zz, h1, h2⟩ := hz
        exact ⟨zz, h1, h2⟩
      have hzzs : zz.cells.size = z.length := by rw [← hzzl]; simp
      have hzone : OneCells zz.cells := by
        have hL : LR w B (lkH hp) V z zz.cells := ⟨hzzs.symm, fun j hj => by
          rw [← hzzl]
          have : j < zz.cells.size := by omega
          simp [List.getD_eq_getElem?_getD, Array.getD_eq_getD_getElem?, this]
          exact VR.cv _⟩
        exact oneCells_of hL fun c hc => dryCell_one (List.all_eq_true.1 hdry c hc)
      simp only [A.wp] at hK
      cases hH : lkH hp r with
      | none => rw [hH] at hK; exact hK.elim
      | some rt =>
        rw [hH] at hK
        simp only at hK
        split at hK
        · rename_i sz'' n f hnode
          obtain ⟨⟨hvr, rfl, hin, hsh0⟩, hK⟩ := hK
          obtain ⟨m, c, val, hk, hsrc, hval⟩ := srcA_wp hr hu h0 hy hK
          obtain ⟨⟨hb1, hb2, hm⟩, hk⟩ := hk
          have hsrc' : Src P i.size t vy m ((List.range (m * z.length)).map val) w := by rw [hsize]; exact hsrc
          cases hx with
          | ref hv hx =>
          obtain ⟨n', hat, _, hle, hx⟩ := hx rt hH hvr
          have hnn : n' = n := by
            have := hat.2
            rw [hnode] at this
            simp [getAt, shapeOf] at this
            exact this.symm
          subst hnn
          have hroot := (hr.root r rt hH).node [] hat
          rw [hnode] at hroot
          have hlkr : ∀ j, lkH (setH hp r (some ⟨ver, .own z.length (hi0 + m) fun i o => if i < hi0 then f i o else c (i - hi0) o⟩)) j = if j = r then some ⟨ver, .own z.length (hi0 + m) fun i o => if i < hi0 then f i o else c (i - hi0) o⟩ else lkH hp j := fun j => lookH_setH ..
          have hrid : r.1 ≠ 0 := hr.lev r rt hH
          have hd : ∀ i o p s, at? (.own z.length n' f) ((i, o) :: p) s → at? (.own z.length (hi0 + m) fun i o => if i < hi0 then f i o else c (i - hi0) o) ((i, o) :: p) s := by
            rintro i o p s ⟨⟨h1, h2, h3⟩, h4⟩
            by_cases hlt : i < hi0
            · refine ⟨⟨by omega, h2, by simp only [if_pos hlt]; exact h3⟩, ?_⟩
              simp only [getAt, if_pos hlt] at h4 ⊢
              exact h4
            · exfalso
              have h5 := hsh0 i h1 (by omega) o h2
              simp only [getAt] at h4
              cases p with
              | nil => simp only [getAt] at h4; rw [h5] at h4; cases h4
              | cons y p =>
                obtain ⟨a, b⟩ := y
                generalize f i o = q at h3 h4 h5
                cases q <;> first | (simp [getAt, shapeOf] at h4; done) | (simp [shapeOf] at h5)
          -- the new block
          have grow : ∀ (base : Option Addr) (cap : Nat) (cs : Array Value), vx = .slice base hi0 cap → cap < hi0 + m → (Builtin.firstCells i.size hi0 (.slice base hi0 cap)).run P w.drew = .ok ((List.range (hi0 * z.length)).map fun j => cs.getD j Go.undef).toArray w.drew →
              (∀ j, j < hi0 * z.length → (cs.getD j Go.undef).oneCell' = true) → (∀ i o, i < hi0 → o < z.length → TR w B (lkH hp) V r [(i, o)] (f i o) (cs.getD (i * z.length + o) Go.undef)) →
              ∃ v w' B' hp' x', (Builtin.append_ #[t, t] ty #[vx, vy]).run P w = .ok v w' ∧ K x' hp' ∧ VR w' B' (lkH hp') (ors V ver) x' v ∧ HR w' B' (lkH hp') (ors V ver) ∧ Mono w B (lkH hp) V w' B' (lkH hp') (ors V ver) := by
            rintro base cap cs rfl hg hold holdone htr
            have hrun := run_append_grow_src w t t ty e i zz hu hi' hzz base hi0 cap _ hold vy m _ hsrc' hg (by omega) (growslice_fits hg (by rw [← hbytes]; exact hb1))
            have hge := grownCap_ge w (hi0 + m) cap e
            obtain ⟨q1, q2, q3⟩ := grown_cells (olds := (List.range (hi0 * z.length)).map fun j => cs.getD j Go.undef) (news := (List.range (m * z.length)).map val) (z := zz.cells) (sz := z.length) (n := hi0) (m := m) (cap := grownCap w (hi0 + m) cap e) hzzs (by simp) (by simp) hge
            generalize hcells : (((List.range (hi0 * z.length)).map fun j => cs.getD j Go.undef) ++ (List.range (m * z.length)).map val).toArray ++ Builtin.zeroCells zz.cells (grownCap w (hi0 + m) cap e - (hi0 + m)) = cells at hrun q1 q2 q3
            have hone : OneCells cells := by
              rw [← hcells]
              refine oneCells_grown (fun u hu => ?_) hzone (by omega)
              rcases List.mem_append.1 hu with h | h
              · obtain ⟨j, hj, rfl⟩ := List.mem_map.1 h
                exact holdone j (List.mem_range.1 hj)
              · exact hsrc.one u h
            obtain ⟨hrd, hmd⟩ := hr.drew
            have hlt : ∀ i o, i < hi0 → o < z.length → i * z.length + o < hi0 * z.length := fun i o hi ho => by have := mul_lt_le (s := z.length) hi; omega
            have g : Regrow w (w.drew.alloc (.cells cells e)) B (fun r' p => if r' = r ∧ p = [] then some w.heap.size else B r' p) (lkH hp) (lkH (setH hp r (some ⟨ver, .own z.length (hi0 + m) fun i o => if i < hi0 then f i o else c (i - hi0) o⟩))) r (some w.heap.size) ⟨ver, .own z.length (hi0 + m) fun i o => if i < hi0 then f i o else c (i - hi0) o⟩ := by
              refine ⟨fun _ _ => rfl, .inr ⟨_, rfl, Nat.le_refl _⟩, fun b h => ?_, hlkr, ?_, fun k hk _ => heap_alloc_lt w.drew _ hk, fun k s hs => ?_, rfl, rfl, rfl⟩
              · cases h; simp [heap_drew]
              · simp [heap_drew]
              · have hk : k < w.heap.size := shape_lt hs
                simp only [World.shape?] at hs ⊢
                rw [heap_alloc_lt w.drew _ hk]
                exact hs
            have hnew : (w.drew.alloc (.cells cells e)).heap[w.heap.size]? = some (.cells cells e (0, 0)) := heap_alloc_new w.drew _
            obtain ⟨k1, k2, k3⟩ := grow_fin' hr hver hH hnode hd g (b := w.heap.size) (cap := grownCap w (hi0 + m) cap e) (cs := cs) (cs' := cells) (e := e) rfl htr hnew (by rw [q1]; exact Nat.le_refl _) hone hge hb2
              (fun i o hi ho => by rw [q2 _ (hlt i o hi ho), getD_rangeMap _ _ _ (hlt i o hi ho)])
              (fun i o hi ho => by
                have hj : i * z.length + o < m * z.length := by have := mul_lt_le (s := z.length) hi; omega
                rw [show (hi0 + i) * z.length + o = hi0 * z.length + (i * z.length + o) by rw [Nat.add_mul]; omega, q3 _ hj, getD_rangeMap _ _ _ hj]
                exact hval i o hi ho) (Ad := ⟨w.heap.size, 0, none⟩) (fun _ => rfl)
            exact ⟨_, _, _, _, _, hrun, hk, k3, k1, k2⟩
          rcases hx with ⟨b, A, cap, e', mm, hB, rfl, hcap, hA, hsh, hle'⟩ | ⟨hB, ⟨A0, rfl⟩, h00⟩
          · simp only [Nat.sub_zero] at *
            rcases hroot.out with ⟨hBn, _⟩ | ⟨b', cs, e2, hB', hh, ⟨hsz, hone⟩, htr⟩
            · rw [hB] at hBn; cases hBn
            · obtain rfl : b' = b := by rw [hB] at hB'; exact (Option.some.inj hB').symm
              have hmm : mm = cs.size := by simp [World.shape?, hh] at hsh; exact hsh.2.symm
              have hcs : cap * z.length ≤ cs.size := by rw [← hmm]; simpa using hle'
              have htr' : ∀ i o, i < hi0 → o < z.length → TR w B (lkH hp) V r [(i, o)] (f i o) (cs.getD (i * z.length + o) Go.undef) := fun i o hi ho => by simpa [getAt, cellAt] using (htr i o (by omega) ho).1
              have hncs : hi0 * z.length ≤ cs.size := Nat.le_trans (Nat.mul_le_mul_right _ (by omega)) hcs
              by_cases hroom : hi0 + m ≤ cap
              · -- there is room
                have gB : ∀ w' : World, w.heap.size ≤ w'.heap.size → (∀ k, k ≠ b' → w'.heap[k]? = w.heap[k]?) → (∀ k s, w.shape? k = some s → w'.shape? k = some s) → w'.os = w.os → w'.tape = w.tape → w'.output = w.output →
                    Regrow w w' B B (lkH hp) (lkH (setH hp r (some ⟨ver, .own z.length (hi0 + m) fun i o => if i < hi0 then f i o else c (i - hi0) o⟩))) r (some b') ⟨ver, .own z.length (hi0 + m) fun i o => if i < hi0 then f i o else c (i - hi0) o⟩ := by
                  intro w' j1 j2 j3 j4 j5 j6
                  refine ⟨fun r' p => ?_, .inl hB.symm, fun b h => ?_, hlkr, j1, fun k _ hne => j2 k (fun e => hne (by rw [e])), j3, j4, j5, j6⟩
                  · split
                    · rename_i e; obtain ⟨rfl, rfl⟩ := e; exact hB
                    · rfl
                  · cases h; exact Nat.lt_of_lt_of_le (hr.dom _ _ _ hB).1 j1
                · obtain rfl := hA (by omega)
                  simp only [Nat.zero_mul] at *
                  have hfit : hi0 * z.length + ((List.range (m * z.length)).map val).length ≤ cs.size := by
                    have := Nat.mul_le_mul_right z.length hroom
                    rw [Nat.add_mul] at this
                    simp
                    omega
                  obtain ⟨cs', s1, s2, s3, s4, s5, s6, s7, s8⟩ := setCells_facts ((List.range (m * z.length)).map val) (hi0 * z.length) w cs hh hfit
                  have hrun := run_append_room_src w t t ty e i hu hi' b' 0 hi0 cap vy m _ hsrc' hroom (fun j hj => by
                    rw [hsize]
                    have : hi0 * z.length + j < cs.size := by omega
                    simp [World.cell?, hh, this]) (fun j hj => by
                    simp [World.frozen?, hh])
                  rw [hsize, Nat.zero_add] at hrun
                  have hlt : ∀ i o, i < hi0 → o < z.length → i * z.length + o < hi0 * z.length := fun i o hi ho => by have := mul_lt_le (s := z.length) hi; omega
                  obtain ⟨k1, k2, k3⟩ := grow_fin' hr hver hH hnode hd (gB _ (by rw [s4]; exact Nat.le_refl _) s5 (fun k s hs => by
                      by_cases hk : k = b'
                      · subst hk
                        simp only [World.shape?, hh] at hs
                        simp only [World.shape?, s1, s2]
                        exact hs
                      · simp only [World.shape?, s5 k hk]; exact hs) s6 s7 s8) (b := b') (cap := cap) (cs := cs) (cs' := cs') (e := e2) rfl htr' s1 (by rw [s2]; exact hcs) (fun j hj => by
                      rw [s3]
                      by_cases h : hi0 * z.length ≤ j ∧ j < hi0 * z.length + ((List.range (m * z.length)).map val).length
                      · rw [if_pos h]
                        refine hsrc.one _ ?_
                        simp [List.getD_eq_getElem?_getD]
                        have : j - hi0 * z.length < m * z.length := by simp at h; omega
                        simp [this]
                        exact ⟨_, this, rfl⟩
                      · rw [if_neg h]; exact hone j (by rw [← s2]; exact hj)) hroom hb2
                    (fun i o hi ho => by rw [s3, if_neg (by have := hlt i o hi ho; omega)])
                    (fun i o hi ho => by
                      have hj : i * z.length + o < m * z.length := by have := mul_lt_le (s := z.length) hi; omega
                      rw [s3, show (hi0 + i) * z.length + o = hi0 * z.length + (i * z.length + o) by rw [Nat.add_mul]; omega, if_pos (by simp; omega), Nat.add_sub_cancel_left, getD_rangeMap _ _ _ hj]
                      exact hval i o hi ho) (Ad := ⟨b', 0, none⟩) (fun _ => rfl)
                  exact ⟨_, _, _, _, _, hrun, hk, k3, k1, k2⟩
              · refine grow (some A) cap cs rfl (by omega) ?_ (fun j hj => hone j (by omega)) htr'
                rw [hsize]
                refine run_firstCells_some w.drew z.length hi0 A hi0 cap _ (by simp) (fun j u hu => ?_)
                simp only [List.getElem?_map] at hu
                have hj : j < hi0 * z.length := by
                  rcases Nat.lt_or_ge j (hi0 * z.length) with h1 | h1
                  · exact h1
                  · rw [List.getElem?_eq_none (by simpa using h1)] at hu; cases hu
                rw [List.getElem?_range hj] at hu
                simp only [Option.map_some, Option.some.injEq] at hu
                subst hu
                have hn0 : 0 < hi0 := by
                  rcases Nat.eq_zero_or_pos hi0 with h | h
                  · subst h; omega
                  · exact h
                rw [hA (by omega), add_plain]
                have : j < cs.size := by omega
                simp [World.cell?, heap_drew, hh, this, Array.getD_eq_getD_getElem?]
          · exfalso
            rcases hroot.out with ⟨_, hn0⟩ | ⟨b', cs, e2, hB', _⟩
            · omega
            · rw [hB] at hB'; cases hB'
        · exact hK.elim
    · exact hK.elim
  · exact hK.elim

def appendU (P : Program) (id : RId) (ver : Nat) (t : TypeId) (x y : PV) : A := match x with
  | .ref r v [] sz 0 hi => .rd r fun
    | some rt => match shapeOf rt.node with
      | some (_, _, n) => .ifD (0 = 0 ∧ hi = n) (appendA P id ver t (.ref r v [] sz 0 hi) y) (lenK y fun m => .ifD (n < hi + m) (overA P ver t r v sz hi y) (inPlaceA P t r v [] sz 0 hi y))
      | none => .fail
    | none => .fail
  | x => appendT P id ver t x y

theorem Real.appendU {P : Program} {w : World} {B : Blocks} {hp : List (RId × Root)} {V : Nat → Prop} {ver : Nat} (hr : HR w B (lkH hp) V) (hver : ¬ V ver) (id : RId) (hid : id.1 ≠ 0) (t ty : TypeId) {x y : PV} {vx vy : Value}
    (hx : VR w B (lkH hp) V x vx) (hy : VR w B (lkH hp) V y vy) : Real P w B hp V ver (Builtin.append_ #[t, t] ty #[vx, vy]) (Ab.appendU P id ver t x y) := by
  intro K hK
  unfold Ab.appendU at hK
  split at hK
  · rename_i r v sz hi
    simp only [A.wp] at hK
    cases hH : lkH hp r with
    | none => rw [hH] at hK; exact hK.elim
    | some rt =>
      rw [hH] at hK
      simp only at hK
      split at hK
      · rw [A.ifD_wp] at hK
        split at hK
        · exact Real.append hr hver id hid t ty hx hy K hK
        · obtain ⟨m, hK⟩ := lenK_wp hK
          rw [A.ifD_wp] at hK
          split at hK
          · exact Real.over hr hver t ty hx hy K hK
          · exact Real.inPlace hr t ty hx hy K hK
      · exact hK.elim
  · exact Real.appendT hr hver id hid t ty hx hy K hK
end Go.Ab
namespace Go.Ab
open Classical

/-- An operand that is there. -/
def opnd (tm : List (Nat × PV)) (x : Operand) (k : PV → A) : A := match ev tm x with
  | .whn g (.whn g' v) => .vc (g = true ∧ g' = true) (k v)
  | .whn g v => .vc (g = true) (k v)
  | v => k v

def opnds (tm : List (Nat × PV)) : List Operand → (List PV → A) → A
  | [], k => k []
  | x :: l, k => opnd tm x fun v => opnds tm l fun vs => k (v :: vs)

def parts (tm : List (Nat × PV)) : List (Nat × Operand) → (List (Nat × PV) → A) → A
  | [], k => k []
  | (i, x) :: l, k => opnd tm x fun v => parts tm l fun vs => k ((i, v) :: vs)

/-- An operand that may be left out. -/
def opndO (tm : List (Nat × PV)) (x : Option Operand) (k : Option PV → A) : A := match x with
  | none => k none
  | some x => opnd tm x fun v => k (some v)

/-- Go's own functions. -/
def builtinA (P : Program) (id : RId) (ver : Nat) (tm : List (Nat × PV)) (b : Builtin) (args : List Operand) (types : List TypeId) : A := match b, args, types with
  | .len, [x], [t] => opnd tm x fun v => lenT P t v
  | .cap, [x], [t] => opnd tm x fun v => capA P t v
  | .append, [x, y], [t, t'] => if t = t' then opnd tm x fun v => opnd tm y fun u => appendU P id ver t v u else opnd tm x fun v => opnd tm y fun u => appendZA P id ver t t' v u
  | .max, [x, y], _ => opnd tm x fun v => opnd tm y fun u => maxA v u
  | .min, [x, y], _ => opnd tm x fun v => opnd tm y fun u => minA v u
  | .clear, [x], [t] => opnd tm x fun v => clearA P t v
  | .copy, [x, y], [t, t'] => if t = t' then opnd tm x fun v => opnd tm y fun u => copyA P t v u else .fail
  | _, _, _ => .fail

/-- An operation; `id`: the name of the root that it may make. -/
def opB (P : Program) (id : RId) (ver : Nat) (tm : List (Nat × PV)) (o : Op) : A :=
  match o with
  | .move x => .ret (ev tm x)
  | .assign x => .ret (ev tm x)
  | .pick c a b => opnd tm c fun c => pickA c (ev tm a) (ev tm b)
  | .alloc t => allocA P id ver t
  | .box _ x => opnd tm x fun v => boxA id ver v
  | .build t ps => parts tm ps.toList fun l => buildA P t l
  | .buildSlice t n ps => parts tm ps.toList fun l => buildSliceA P id ver t n l
  | .load t a => opnd tm a fun v => loadA P t v
  | .store t a x => opnd tm a fun v => opnd tm x fun u => storeA P t v u
  | .nilCheck x => opnd tm x fun v => nilCheckA v
  | .binOp op t x y _ => opnd tm x fun v => opnd tm y fun u => binT P t op v u
  | .unOp op _ x => opnd tm x fun v => unA op v
  | .makeFunc fn first captured => opnds tm first.toList fun l => opnds tm captured.toList fun l' => .ret (.func fn l l')
  | .makeSlice t l c => opnd tm l fun v => opnd tm c fun u => makeSliceA P id ver t v u
  | .fieldAddr t x f => opnd tm x fun v => fieldAddrA P t f v
  | .indexAddr t x i => opnd tm x fun v => opnd tm i fun u => indexAddrA P t v u
  | .extract x i => opnd tm x fun v => extractA i v
  | .call { callee := .builtin b, args, argTypes } => builtinA P id ver tm b args.toList argTypes.toList
  | .slice t x lo hi mx => opnd tm x fun v => opndO tm lo fun l => opndO tm hi fun h => opndO tm mx fun m => sliceA P t v l h m
  | .convert s d x => opnd tm x fun v => convA P s d v
  | .field t x f => opnd tm x fun v => fieldA P t f v
  | .index t x y => opnd tm x fun v => opnd tm y fun u => indexA P t v u
  | .lookup t x y ok => opnd tm x fun v => opnd tm y fun u => lookupA P t ok v u
  | .mapUpdate t m k x => opnd tm m fun v => opnd tm k fun u => opnd tm x fun y => mapUpdateA P t v u y
  | .makeMap t r => opndO tm r fun v => makeMapA P id ver t v
  | .range t x => opnd tm x fun v => rangeA P id ver t v
  | .next x str => opnd tm x fun v => nextA str v
  | .entry x => opnd tm x fun v => entryA v
  | _ => .fail

def opA (P : Program) (lv ver : Nat) (tm : List (Nat × PV)) (o : Oper) : A := opB P (lv, o.dst.getD 0) ver tm o.op

/-- An operation's outcome: a value, or nothing. -/
def Real' (P : Program) (w : World) (B : Blocks) (hp : List (RId × Root)) (V : Nat → Prop) (ver : Nat) (m : Sem Next) (a : A) : Prop :=
  ∀ K, a.wp hp K → ∃ nx v w' B' hp' x, m.run P w = .ok nx w' ∧ (nx = .value v ∨ nx = .skip ∧ v = Go.undef) ∧ K x hp' ∧ VR w' B' (lkH hp') (ors V ver) x v ∧ HR w' B' (lkH hp') (ors V ver) ∧
    Mono w B (lkH hp) V w' B' (lkH hp') (ors V ver)

theorem Real.value {P w B hp V ver} {m : Sem Value} {a : A} (h : Real P w B hp V ver m a) : Real' P w B hp V ver (do pure (.value (← m))) a := by
  intro K hK
  obtain ⟨v, w', B', hp', x, e, h1, h2, h3, h4⟩ := h K hK
  exact ⟨.value v, v, w', B', hp', x, by simp [e], .inl rfl, h1, h2, h3, h4⟩

theorem Real'.opnd {P w B hp V ver} {nt : FS} {tm : List (Nat × PV)} {a : Act} {m : Sem Next} (ht : TmR w B (lkH hp) V nt tm a) (x : Operand) {k : PV → A}
    (h : ∀ v, VR w B (lkH hp) V v (a.eval x) → Real' P w B hp V ver m (k v)) : Real' P w B hp V ver m (Ab.opnd tm x k) := by
  intro K hK
  unfold Ab.opnd at hK
  have he := ht.ev x
  split at hK
  · rename_i g g' v e
    rw [e] at he
    obtain ⟨⟨hg, hg'⟩, hk⟩ := hK
    cases he with
    | whn he _ =>
      cases he hg with
      | whn he' _ => exact h v (he' hg') K hk
  · rename_i g v _ e
    rw [e] at he
    obtain ⟨hg, hk⟩ := hK
    cases he with
    | whn he _ => exact h v (he hg) K hk
  · exact h _ he K hK

theorem Real'.opndO {P w B hp V ver} {nt : FS} {tm : List (Nat × PV)} {a : Act} {m : Sem Next} (ht : TmR w B (lkH hp) V nt tm a) (x : Option Operand) {k : Option PV → A}
    (h : ∀ v, OV w B (lkH hp) V v (x.map a.eval) → Real' P w B hp V ver m (k v)) : Real' P w B hp V ver m (Ab.opndO tm x k) := by
  cases x with
  | none => exact h none trivial
  | some x => exact .opnd ht x fun v hv => h (some v) hv

theorem Real'.opnds {P w B hp V ver} {nt : FS} {tm : List (Nat × PV)} {a : Act} {m : Sem Next} (ht : TmR w B (lkH hp) V nt tm a) (xs : List Operand) {k : List PV → A}
    (h : ∀ vs, vs.length = xs.length → (∀ i, i < vs.length → VR w B (lkH hp) V (vs.getD i .undef) (a.eval (xs.getD i (.tmp 0)))) → Real' P w B hp V ver m (k vs)) : Real' P w B hp V ver m (Ab.opnds tm xs k) := by
  induction xs generalizing k with
  | nil => exact h [] rfl (fun i hi => by simp at hi)
  | cons x xs ih =>
    refine .opnd ht x (fun v hv => ih (fun vs hl hvs => h (v :: vs) (by simp [hl]) (fun i hi => ?_)))
    cases i with
    | zero => simpa using hv
    | succ i => simpa using hvs i (by simpa using hi)

theorem Real'.parts {P w B hp V ver} {nt : FS} {tm : List (Nat × PV)} {a : Act} {m : Sem Next} (ht : TmR w B (lkH hp) V nt tm a) (xs : List (Nat × Operand)) {k : List (Nat × PV) → A}
    (h : ∀ vs, vs.length = xs.length → (∀ i, i < vs.length → (vs.getD i default).1 = ((xs.map fun (y : Nat × Operand) => (y.1, a.eval y.2)).getD i default).1 ∧ VR w B (lkH hp) V (vs.getD i default).2 ((xs.map fun (y : Nat × Operand) => (y.1, a.eval y.2)).getD i default).2) →
      Real' P w B hp V ver m (k vs)) : Real' P w B hp V ver m (Ab.parts tm xs k) := by
  induction xs generalizing k with
  | nil => exact h [] rfl (fun i hi => by simp at hi)
  | cons x xs ih =>
    obtain ⟨j, x⟩ := x
    refine .opnd ht x (fun v hv => ih (fun vs hl hvs => h ((j, v) :: vs) (by simp [hl]) (fun i hi => ?_)))
    cases i with
    | zero => exact ⟨by simp, by simpa using hv⟩
    | succ i => simpa using hvs i (by simpa using hi)

theorem Real.nilCheck {P w B hp V ver} (hr : HR w B (lkH hp) V) {ρ : Operand → Value} {x : Operand} {v : PV} {o : Oper} (ho : o.op = .nilCheck x) (hv : VR w B (lkH hp) V v (ρ x)) :
    Real' P w B hp V ver (execOp ρ o) (nilCheckA v) := by
  intro K hK
  have fin : ∀ u : PV, K u hp → VR w B (lkH hp) V u (ρ x) → (execOp ρ o).run P w = .ok (.value (ρ x)) w → ∃ nx v w' B' hp' x', (execOp ρ o).run P w = .ok nx w' ∧ (nx = .value v ∨ nx = .skip ∧ v = Go.undef) ∧ K x' hp' ∧
      VR w' B' (lkH hp') (ors V ver) x' v ∧ HR w' B' (lkH hp') (ors V ver) ∧ Mono w B (lkH hp) V w' B' (lkH hp') (ors V ver) :=
    fun u hk hu e => ⟨_, _, w, B, hp, u, e, .inl rfl, hk, hu.mono (Mono.more ..), hr.more ver, Mono.more ..⟩
  unfold nilCheckA at hK
  split at hK
  · refine fin _ hK hv ?_
    cases hx : ρ x <;> rw [hx] at hv <;> first | (cases hv; done) | skip
    cases hv
    simp [execOp, ho, hx]
  · rename_i r ver' p i o'
    simp only [A.wp] at hK
    cases hH : lkH hp r with
    | none => rw [hH] at hK; exact hK.elim
    | some rt =>
      rw [hH] at hK
      have hv' := hv
      cases hv with
      | ptr _ h =>
        obtain ⟨_, _, _, b, _, _, _, _, e⟩ := h rt hH hK.1
        exact fin _ hK.2 hv' (by simp [execOp, ho, e])
  · have hv' := hv
    cases hx : ρ x <;> rw [hx] at hv <;> first | (cases hv; done) | skip
    cases hv
    exact fin _ hK hv' (by simp [execOp, ho, hx])
  · have hv' := hv
    cases hx : ρ x <;> rw [hx] at hv <;> first | (cases hv; done) | skip
    cases hv
    exact fin _ hK hv' (by simp [execOp, ho, hx])
  · exact hK.elim

theorem opA_real {P w B hp V ver} {lv : Nat} {nt : FS} {tm : List (Nat × PV)} {a : Act} (hlv : lv ≠ 0) (hr : HR w B (lkH hp) V) (hver : ¬ V ver) (ht : TmR w B (lkH hp) V nt tm a) (o : Oper) :
    Real' P w B hp V ver (execOp a.eval o) (opA P lv ver tm o) := by
  unfold opA opB
  split
  · rename_i x ho
    intro K hK
    exact ⟨_, _, w, B, hp, _, by simp [execOp, ho], .inl rfl, hK, (ht.ev x).mono (Mono.more ..), hr.more ver, Mono.more ..⟩
  · rename_i x ho
    intro K hK
    exact ⟨_, _, w, B, hp, _, by simp [execOp, ho], .inl rfl, hK, (ht.ev x).mono (Mono.more ..), hr.more ver, Mono.more ..⟩
  · rename_i c x y ho
    refine .opnd ht c (fun v hv => ?_)
    have := (Real.pick (P := P) (ver := ver) hr hv (ht.ev x) (ht.ev y)).value
    simpa [execOp, ho] using this
  · rename_i t ho
    have := (Real.alloc (P := P) hr hver (lv, o.dst.getD 0) hlv t).value
    simpa [execOp, ho] using this
  · rename_i t x ho
    refine .opnd ht x (fun v hv => ?_)
    have := (Real.box (P := P) hr hver (lv, o.dst.getD 0) hlv t hv).value
    simpa [execOp, ho] using this
  · rename_i t ps ho
    refine .parts ht _ (fun vs hl hvs => ?_)
    have := (Real.build (P := P) (ver := ver) hr t (vs := ps.map fun (y : Nat × Operand) => (y.1, a.eval y.2)) (by simpa using hl) (by simpa using hvs)).value
    simpa [execOp, ho] using this
  · rename_i t n ps ho
    refine .parts ht _ (fun vs hl hvs => ?_)
    have := (Real.buildSlice (P := P) hr hver (lv, o.dst.getD 0) hlv t n (vs := ps.map fun (y : Nat × Operand) => (y.1, a.eval y.2)) (by simpa using hl) (by simpa using hvs)).value
    simpa [execOp, ho] using this
  · rename_i t x ho
    refine .opnd ht x (fun v hv => ?_)
    have := (Real.load (P := P) (ver := ver) hr t hv).value
    simpa [execOp, ho] using this
  · rename_i t x y ho
    refine .opnd ht x (fun v hv => .opnd ht y (fun u hu => ?_))
    intro K hK
    obtain ⟨v', w', B', hp', x', e, h1, h2, h3, h4⟩ := Real.store (P := P) (ver := ver) hr t hv hu K hK
    have : (Instr.storeAt t (a.eval x) (a.eval y)).run P w = .ok () w' ∧ v' = Go.undef := by
      simp only [Sem.run_bind, Sem.run_pure] at e
      cases hs : (Instr.storeAt t (a.eval x) (a.eval y)).run P w with
      | ok u w2 => rw [hs] at e; simp at e; exact ⟨by rw [e.2], e.1.symm⟩
      | halt _ _ => rw [hs] at e; simp at e
    exact ⟨.skip, v', w', B', hp', x', by simp [execOp, ho, this.1], .inr ⟨rfl, this.2⟩, h1, h2, h3, h4⟩
  · rename_i x ho
    exact .opnd ht x (fun v hv => Real.nilCheck hr ho hv)
  · rename_i op t x y t' ho
    refine .opnd ht x (fun v hv => .opnd ht y (fun u hu => ?_))
    have := (Real.binT (P := P) (ver := ver) hr op t x y hv hu).value
    simpa [execOp, ho] using this
  · rename_i op t x ho
    refine .opnd ht x (fun v hv => ?_)
    have := (Real.un (P := P) (ver := ver) hr op hv).value
    simpa [execOp, ho] using this
  · rename_i fn first captured ho
    refine .opnds ht _ (fun vs hl hvs => .opnds ht _ (fun us hl' hus => ?_))
    intro K hK
    refine ⟨.value (.func fn (first.map a.eval) (captured.map a.eval)), _, w, B, hp, _, by simp [execOp, ho, Instr.makeFunc], .inl rfl, hK, ?_, hr.more ver, Mono.more ..⟩
    refine VR.mono (Mono.more ..) (.func (by simpa using hl) (by simpa using hl') (fun i hi => ?_) (fun i hi => ?_))
    · have := hvs i hi
      have hi' : i < first.size := by rw [hl] at hi; simpa using hi
      simpa [List.getD_eq_getElem?_getD, Array.getD_eq_getD_getElem?, hi'] using this
    · have := hus i hi
      have hi' : i < captured.size := by rw [hl'] at hi; simpa using hi
      simpa [List.getD_eq_getElem?_getD, Array.getD_eq_getD_getElem?, hi'] using this
  · rename_i t x y ho
    refine .opnd ht x (fun v hv => .opnd ht y (fun u hu => ?_))
    have := (Real.makeSlice (P := P) hr hver (lv, o.dst.getD 0) hlv t hv hu).value
    simpa [execOp, ho] using this
  · rename_i t x f ho
    refine .opnd ht x (fun v hv => ?_)
    have := (Real.fieldAddr (P := P) (ver := ver) hr t f hv).value
    simpa [execOp, ho] using this
  · rename_i t x y ho
    refine .opnd ht x (fun v hv => .opnd ht y (fun u hu => ?_))
    have := (Real.indexAddr (P := P) (ver := ver) hr t hv hu).value
    simpa [execOp, ho] using this
  · rename_i x i ho
    refine .opnd ht x (fun v hv => ?_)
    have := (Real.extract (P := P) (ver := ver) hr i hv).value
    simpa [execOp, ho] using this
  · rename_i b args argTypes ho
    unfold builtinA
    split
    · rename_i x t hx htt
      refine .opnd ht x (fun v hv => ?_)
      have := (Real.lenT (P := P) (ver := ver) hr t o.type hv).value
      have h1 : args = #[x] := by apply Array.ext'; simpa using hx
      have h2 : argTypes = #[t] := by apply Array.ext'; simpa using htt
      simpa [execOp, ho, resolve, invoke, builtin, h1, h2] using this
    · rename_i x t hx htt
      refine .opnd ht x (fun v hv => ?_)
      have := (Real.cap (P := P) (ver := ver) hr t o.type hv).value
      have h1 : args = #[x] := by apply Array.ext'; simpa using hx
      have h2 : argTypes = #[t] := by apply Array.ext'; simpa using htt
      simpa [execOp, ho, resolve, invoke, builtin, h1, h2] using this
    · rename_i x y t t' hx htt
      split
      · rename_i e
        subst e
        refine .opnd ht x (fun v hv => .opnd ht y (fun u hu => ?_))
        have := (Real.appendU (P := P) hr hver (lv, o.dst.getD 0) hlv t o.type hv hu).value
        have h1 : args = #[x, y] := by apply Array.ext'; simpa using hx
        have h2 : argTypes = #[t, t] := by apply Array.ext'; simpa using htt
        simpa [execOp, ho, resolve, invoke, builtin, h1, h2] using this
      · refine .opnd ht x (fun v hv => .opnd ht y (fun u hu => ?_))
        have := (Real.appendZ (P := P) hr hver (lv, o.dst.getD 0) hlv t t' o.type hv hu).value
        have h1 : args = #[x, y] := by apply Array.ext'; simpa using hx
        have h2 : argTypes = #[t, t'] := by apply Array.ext'; simpa using htt
        simpa [execOp, ho, resolve, invoke, builtin, h1, h2] using this
    · rename_i x y hx
      refine .opnd ht x (fun v hv => .opnd ht y (fun u hu => ?_))
      have := (Real.max (P := P) (ver := ver) hr argTypes o.type hv hu).value
      have h1 : args = #[x, y] := by apply Array.ext'; simpa using hx
      simpa [execOp, ho, resolve, invoke, builtin, h1] using this
    · rename_i x y hx
      refine .opnd ht x (fun v hv => .opnd ht y (fun u hu => ?_))
      have := (Real.min (P := P) (ver := ver) hr argTypes o.type hv hu).value
      have h1 : args = #[x, y] := by apply Array.ext'; simpa using hx
      simpa [execOp, ho, resolve, invoke, builtin, h1] using this
    · rename_i x t hx htt
      refine .opnd ht x (fun v hv => ?_)
      have := (Real.clear (P := P) (ver := ver) hr t o.type hv).value
      have h1 : args = #[x] := by apply Array.ext'; simpa using hx
      have h2 : argTypes = #[t] := by apply Array.ext'; simpa using htt
      simpa [execOp, ho, resolve, invoke, builtin, h1, h2] using this
    · rename_i x y t t' hx htt
      split
      · rename_i e
        subst e
        refine .opnd ht x (fun v hv => .opnd ht y (fun u hu => ?_))
        have := (Real.copy (P := P) (ver := ver) hr t o.type hv hu).value
        have h1 : args = #[x, y] := by apply Array.ext'; simpa using hx
        have h2 : argTypes = #[t, t] := by apply Array.ext'; simpa using htt
        simpa [execOp, ho, resolve, invoke, builtin, h1, h2] using this
      · intro K hK; exact hK.elim
    · intro K hK; exact hK.elim
  · rename_i t x lo hi mx ho
    refine .opnd ht x (fun v hv => .opndO ht lo (fun l hl => .opndO ht hi (fun h hh => .opndO ht mx (fun m hm => ?_))))
    have := (Real.slice (P := P) (ver := ver) hr t hv hl hh hm).value
    simpa [execOp, ho] using this
  · rename_i s d x ho
    refine .opnd ht x (fun v hv => ?_)
    have := (Real.conv (P := P) (ver := ver) hr s d hv).value
    simpa [execOp, ho] using this
  · rename_i t x f ho
    refine .opnd ht x (fun v hv => ?_)
    have := (Real.field (P := P) (ver := ver) hr t f hv).value
    simpa [execOp, ho] using this
  · rename_i t x y ho
    refine .opnd ht x (fun v hv => .opnd ht y (fun u hu => ?_))
    have := (Real.index (P := P) (ver := ver) hr t hv hu).value
    simpa [execOp, ho] using this
  · rename_i t x y ok ho
    refine .opnd ht x (fun v hv => .opnd ht y (fun u hu => ?_))
    have := (Real.lookup (P := P) (ver := ver) hr t ok hv hu).value
    simpa [execOp, ho] using this
  · rename_i t m k x ho
    refine .opnd ht m (fun v hv => .opnd ht k (fun u hu => .opnd ht x (fun y hy => ?_)))
    intro K hK
    obtain ⟨v', w', B', hp', x', e, h1, h2, h3, h4⟩ := Real.mapUpdate (P := P) (ver := ver) hr t hv hu hy K hK
    have : (Instr.mapUpdate t (a.eval m) (a.eval k) (a.eval x)).run P w = .ok () w' ∧ v' = Go.undef := by
      simp only [Sem.run_bind, Sem.run_pure] at e
      cases hs : (Instr.mapUpdate t (a.eval m) (a.eval k) (a.eval x)).run P w with
      | ok u w2 => rw [hs] at e; simp at e; exact ⟨by rw [e.2], e.1.symm⟩
      | halt _ _ => rw [hs] at e; simp at e
    exact ⟨.skip, v', w', B', hp', x', by simp [execOp, ho, this.1], .inr ⟨rfl, this.2⟩, h1, h2, h3, h4⟩
  · rename_i t r ho
    refine .opndO ht r (fun v hv => ?_)
    have := (Real.makeMap (P := P) hr hver (lv, o.dst.getD 0) hlv t hv).value
    simpa [execOp, ho] using this
  · rename_i t x ho
    refine .opnd ht x (fun v hv => ?_)
    have := (Real.range (P := P) hr hver (lv, o.dst.getD 0) hlv t hv).value
    simpa [execOp, ho] using this
  · rename_i x str ho
    refine .opnd ht x (fun v hv => ?_)
    have := (Real.next (P := P) (ver := ver) hr str o.type hv).value
    simpa [execOp, ho] using this
  · rename_i x ho
    refine .opnd ht x (fun v hv => ?_)
    have := (Real.entry (P := P) (ver := ver) hr hv).value
    simpa [execOp, ho] using this
  · intro K hK; exact hK.elim
end Go.Ab
namespace Go.Ab
open Classical

/-- Data that lies in no memory of its own. -/
def leafy : PV → Prop
  | .int .. | .bool _ | .str _ | .nilp | .nilf | .nilm | .nili | .nils | .ref .. | .ptr .. | .sref .. | .undef => True
  | .own _ n f => ∀ i o, i < n → leafy (f i o)
  | _ => False

def leafyL : PV → Prop
  | .agg l => ∀ c ∈ l, leafy c
  | .tup l => ∀ c ∈ l, leafy c
  | x => leafy x

/-- An argument in which no root is named. -/
def plainArg : PV → Prop
  | .int .. | .bool _ | .str _ | .nilp | .nilf | .nilm | .nili | .nils | .frz .. | .fptr .. | .fcl .. | .fmap .. => True
  | _ => False
def plainArgL : PV → Prop
  | .agg l => ∀ c ∈ l, plainArg c
  | .func _ l l' => (∀ c ∈ l, plainArg c) ∧ ∀ c ∈ l', plainArg c
  | x => plainArg x

/-- What belongs to callers, seen by the callee. -/
noncomputable def callerB (S : Nat → Prop) : Blocks := fun r p => if r = (0, 0) then match p with
  | [(b, 0)] => if S b then some b else none
  | _ => none
  else none

theorem callerB_some {S : Nat → Prop} {r : RId} {p : Path} {b : Nat} (h : callerB S r p = some b) : S b ∧ r = (0, 0) ∧ p = [(b, 0)] := by
  unfold callerB at h
  split at h
  · rename_i hr
    split at h
    · split at h
      · cases h; exact ⟨by assumption, hr, rfl⟩
      · cases h
    · cases h
  · cases h

theorem callerB_at {S : Nat → Prop} {b : Nat} (h : S b) : callerB S (0, 0) [(b, 0)] = some b := by simp [callerB, h]

theorem callerB_HR {w : World} {S : Nat → Prop} (hS : ∀ b, S b → b < w.heap.size) : HR w (callerB S) H0 V0 where
  root r rt h := by cases h
  ver r rt h := by cases h
  dom r p b h := by
    obtain ⟨h1, rfl, rfl⟩ := callerB_some h
    exact ⟨hS b h1, .inl rfl⟩
  lev r rt h := by cases h
  inj r p r' p' b h h' := by
    obtain ⟨_, rfl, rfl⟩ := callerB_some h
    obtain ⟨_, rfl, rfl⟩ := callerB_some h'
    exact ⟨rfl, rfl⟩

/-- Change of who owns what, for data that refers to nothing. -/
theorem VR.conv {w : World} {B B' : Blocks} {H : Roots} {V : Nat → Prop} {x : PV} {v : Value} (h : VR w B H V x v) (hH : H = H0) (hV : V = V0) (hb : ∀ b, b < w.heap.size → free B b → free B' b) : VR w B' H0 V0 x v := by
  induction h with
  | undef v => exact .undef v
  | int k n => exact .int k n
  | bool b => exact .bool b
  | str s => exact .str s
  | nilp => exact .nilp
  | nilf => exact .nilf
  | nilm => exact .nilm
  | nili => exact .nili
  | nils => exact .nils
  | agg hl _ ih => exact .agg hl (fun i hi => ih i hi hH hV)
  | tup hl _ ih => exact .tup hl (fun i hi => ih i hi hH hV)
  | whn _ h' ih => exact .whn (fun hg => ih hg hH hV) h'
  | frz hn hmx hA _ ih =>
    refine .frz hn hmx (fun h0 => ?_) (fun i o hi ho => ih i o hi ho rfl rfl)
    obtain ⟨b, off, e, hf, hlt, hc⟩ := hA h0
    exact ⟨b, off, e, hb b hlt hf, hlt, hc⟩
  | fptr ho hf hlt hc _ ih => exact .fptr ho (hb _ hlt hf) hlt hc (fun j hj => ih j hj rfl rfl)
  | ref hv h => subst hV; exact hv.elim
  | ptr hv h => subst hV; exact hv.elim
  | func hl hl' _ _ ih ih' => exact .func hl hl' (fun i hi => ih i hi hH hV) (fun i hi => ih' i hi hH hV)
  | iface _ ih => exact .iface (ih hH hV)
  | fcl hmx hA _ ih =>
    refine .fcl hmx (fun h0 => ?_) (fun i o hi ho => ih i o hi ho rfl rfl)
    obtain ⟨b, off, e, hf, hlt, hc⟩ := hA h0
    exact ⟨b, off, e, hb b hlt hf, hlt, hc⟩
  | sref hv h => subst hV; exact hv.elim
  | fmap hf hh hn _ _ ihk ihv => exact .fmap (hb _ (lt_of_get hh) hf) hh hn (fun i hi => ihk i hi rfl rfl) (fun i hi => ihv i hi rfl rfl)

theorem VR.leafy {w w' : World} {B B' : Blocks} {x : PV} {v : Value} (h : VR w B H0 V0 x v) (hl : Ab.leafy x) : VR w' B' H0 V0 x v := by
  cases h <;> first | (constructor; done) | exact hl.elim | skip
  · rename_i hv _; exact hv.elim
  · rename_i hv _; exact hv.elim
  · rename_i hv _; exact hv.elim

theorem VR.leafyL {w w' : World} {B B' : Blocks} {x : PV} {v : Value} (h : VR w B H0 V0 x v) (hl : Ab.leafyL x) : VR w' B' H0 V0 x v := by
  cases h with
  | @agg _ _ l cs hs h => exact .agg hs (fun i hi => (h i hi).leafy (hl _ (by simp [List.getD_eq_getElem?_getD, hi, List.getElem_mem])))
  | @tup _ _ l cs hs h => exact .tup hs (fun i hi => (h i hi).leafy (hl _ (by simp [List.getD_eq_getElem?_getD, hi, List.getElem_mem])))
  | whn _ _ => exact hl.elim
  | frz _ _ _ _ => exact hl.elim
  | fptr _ _ _ _ _ => exact hl.elim
  | func _ _ _ _ => exact hl.elim
  | iface _ => exact hl.elim
  | fcl _ _ _ => exact hl.elim
  | fmap _ _ _ _ _ => exact hl.elim
  | sref hv _ => exact hv.elim
  | ref hv _ => exact hv.elim
  | ptr hv _ => exact hv.elim
  | undef => exact .undef _
  | int => exact .int _ _
  | bool => exact .bool _
  | str => exact .str _
  | nilp => exact .nilp
  | nilf => exact .nilf
  | nilm => exact .nilm
  | nili => exact .nili
  | nils => exact .nils

theorem VR.plain {w : World} {B : Blocks} {H : Roots} {V : Nat → Prop} {x : PV} {v : Value} (h : VR w B H V x v) (hp : plainArg x) : VR w B H0 V0 x v := by
  cases h <;> first | (constructor; done) | exact hp.elim | skip
  · rename_i h1 h2 h3 h4; exact .frz h1 h2 h3 h4
  · rename_i h1 h2 h3 h4 h5; exact .fptr h1 h2 h3 h4 h5
  · rename_i h1 h2 h3; exact .fcl h1 h2 h3
  · rename_i h1 h2 h3 h4 h5; exact .fmap h1 h2 h3 h4 h5

theorem VR.plainL {w : World} {B : Blocks} {H : Roots} {V : Nat → Prop} {x : PV} {v : Value} (h : VR w B H V x v) (hp : plainArgL x) : VR w B H0 V0 x v := by
  cases h with
  | @agg _ _ l cs hs h => exact .agg hs (fun i hi => (h i hi).plain (hp _ (by simp [List.getD_eq_getElem?_getD, hi, List.getElem_mem])))
  | @func _ _ fn l l' cs cs' hs hs' h h' => exact .func hs hs' (fun i hi => (h i hi).plain (hp.1 _ (by simp [List.getD_eq_getElem?_getD, hi, List.getElem_mem]))) (fun i hi => (h' i hi).plain (hp.2 _ (by simp [List.getD_eq_getElem?_getD, hi, List.getElem_mem])))
  | tup _ _ => exact hp.elim
  | whn _ _ => exact hp.elim
  | frz h1 h2 h3 h4 => exact .frz h1 h2 h3 h4
  | fptr h1 h2 h3 h4 h5 => exact .fptr h1 h2 h3 h4 h5
  | iface _ => exact hp.elim
  | fcl h1 h2 h3 => exact .fcl h1 h2 h3
  | fmap h1 h2 h3 h4 h5 => exact .fmap h1 h2 h3 h4 h5
  | sref _ _ => exact hp.elim
  | ref _ _ => exact hp.elim
  | ptr _ _ => exact hp.elim
  | undef => exact .undef _
  | int => exact .int _ _
  | bool => exact .bool _
  | str => exact .str _
  | nilp => exact .nilp
  | nilf => exact .nilf
  | nilm => exact .nilm
  | nili => exact .nili
  | nils => exact .nils

theorem VR.swap {w : World} {B B' : Blocks} {H : Roots} {V : Nat → Prop} {x : PV} {v : Value} (h : VR w B H V x v) (hl : Ab.leafy x) (hB : ∀ r rt, H r = some rt → ∀ p, B' r p = B r p) : VR w B' H V x v := by
  cases h <;> first | (constructor; done) | exact hl.elim | skip
  · rename_i hv h
    refine .ref hv (fun rt hr he => ?_)
    obtain ⟨n, h1, h2, h3, h4⟩ := h rt hr he
    rw [← hB _ rt hr] at h4
    exact ⟨n, h1, h2, h3, h4⟩
  · rename_i hv h
    refine .ptr hv (fun rt hr he => ?_)
    obtain ⟨q, sz, n, b, h1, h2, h3, h4, h5⟩ := h rt hr he
    rw [← hB _ rt hr] at h4
    exact ⟨q, sz, n, b, h1, h2, h3, h4, h5⟩
  · rename_i hv h
    refine .sref hv (fun rt hr he => ?_)
    obtain ⟨b, h1, h2, h3⟩ := h rt hr he
    rw [← hB _ rt hr] at h2
    exact ⟨b, h1, h2, h3⟩

theorem VR.swapL {w : World} {B B' : Blocks} {H : Roots} {V : Nat → Prop} {x : PV} {v : Value} (h : VR w B H V x v) (hl : Ab.leafyL x) (hB : ∀ r rt, H r = some rt → ∀ p, B' r p = B r p) : VR w B' H V x v := by
  by_cases ha : ∃ l, x = .agg l ∨ x = .tup l
  · obtain ⟨l, rfl | rfl⟩ := ha
    · cases h with
      | agg hs h => exact .agg hs (fun i hi => (h i hi).swap (hl _ (by simp [List.getD_eq_getElem?_getD, hi, List.getElem_mem])) hB)
    · cases h with
      | tup hs h => exact .tup hs (fun i hi => (h i hi).swap (hl _ (by simp [List.getD_eq_getElem?_getD, hi, List.getElem_mem])) hB)
  · refine h.swap ?_ hB
    cases x <;> first | exact hl | (exfalso; exact ha ⟨_, .inl rfl⟩) | (exfalso; exact ha ⟨_, .inr rfl⟩)

theorem TR.swap {w : World} {B B' : Blocks} {H : Roots} {V : Nat → Prop} {r : RId} {p : Path} {x : PV} {v : Value} (h : TR w B H V r p x v) (hl : Ab.leafy x) (hB : ∀ r rt, H r = some rt → ∀ p, B' r p = B r p) (hr : ∀ p, B' r p = B r p) : TR w B' H V r p x v := by
  induction h with
  | leaf h => exact .leaf (h.swap hl hB)
  | own hA hB' hh hc hn hm _ ih => exact .own hA ((hr _).trans hB') hh hc hn hm (fun i o hi ho => ih i o hi ho (hl i o hi))
  | nil hB' => exact .nil ((hr _).trans hB')

/-- A call of a loop's yield: one round. -/
def YieldA (P : Program) (r : RId) (v : Nat) (args : List PV) (hp : List (RId × Root)) (nv : Nat) (Post : PV → List (RId × Root) → Nat → Prop) : Prop :=
  ∃ rt li c, lkH hp r = some rt ∧ rt.ver = v ∧ rt.node = .oloop li c ∧ li.st = .ready ∧ args.length = li.params.size ∧
    ∀ (w : World) (B : Blocks) (cs : Array Value) (l : Nat) (tmps : Array Value) (d : Nat) (fn : FuncId) (ro : Option Nat), HR w B (lkH hp) (· < nv) → LR w B (lkH hp) (· < nv) args cs → B r [] = some l →
      w.heap[l]? = some (.loop { state := li.st, pending := li.pend, fn := fn, tmps := tmps, params := li.params, assign := li.assign, body := li.body, defers := d }) →
      (∀ t, VR w B (lkH hp) (· < nv) (c t) (tmps.getD t Go.undef)) → tmps.size = li.nt →
      RoundIn { Fence.wide with round := ro } 0 P l fn ((li.params.zip cs).foldl (fun tmps (t, a) => tmps.setIfInBounds t a) tmps) li.assign li.body w fun e w' =>
        ∃ v B' res hp' nv', e = .returned v ∧ Post res hp' nv' ∧ VR w' B' (lkH hp') (· < nv') res v ∧ HR w' B' (lkH hp') (· < nv') ∧ Mono w B (lkH hp) (· < nv) w' B' (lkH hp') (· < nv')

theorem roundIn_mono {F : Fence} {n : Nat} {P : Program} {l : Nat} {f : FuncId} {tmps : Array Value} {assign body : Code} {w : World} {R R' : Ending → World → Prop} (h : RoundIn F n P l f tmps assign body w R) (hR : ∀ e w', R e w' → R' e w') : RoundIn F n P l f tmps assign body w R' :=
  ⟨h.1, fun c cs hr => by obtain ⟨e, w', h1, h2⟩ := h.2 c cs hr; exact ⟨e, w', hR e w' h1, h2⟩⟩

/-- What a call may be met by. -/
inductive CallWp (P : Program) (id : RId) (ver : Nat) (f : FuncId) (args : List PV) (hp : List (RId × Root)) (nv : Nat) (K : PV → List (RId × Root) → Nat → Prop) : Prop
  /-- frozen data out of frozen data -/
  | frozen (res : PV) (h : CallsF P f args res) (hpl : ∀ c ∈ args, plainArgL c) (k : K res hp nv)
  /-- plain data out of whatever is read -/
  | plain (res : PV) (h : CallsF P f (args.map (view 9 hp)) res) (hr : leafyL res) (k : K res hp nv)
  /-- a new root, out of frozen data -/
  | own (node : PV) (res : RId → Nat → PV) (h : CallsO P f args node res) (hpl : ∀ c ∈ args, plainArgL c) (k : K (res id ver) (setH hp id (some ⟨ver, node⟩)) nv)
  /-- a new root of plain data, out of whatever is read -/
  | ownPlain (sz n : Nat) (g : Nat → Nat → PV) (res : RId → Nat → PV) (h : CallsO P f (args.map (view 9 hp)) (.own sz n g) res) (hr : leafyL (res id ver)) (hg : ∀ i o, i < n → leafy (g i o)) (k : K (res id ver) (setH hp id (some ⟨ver, .own sz n g⟩)) nv)
  /-- on the caller's own roots -/
  | on (Post : PV → List (RId × Root) → Nat → Prop) (h : CallsA P f args hp nv Post) (k : ∀ res hp' nv', Post res hp' nv' → K res hp' nv')

theorem LR.map {w w' : World} {B B' : Blocks} {H H' : Roots} {V V' : Nat → Prop} {l : List PV} {cs : Array Value} (h : LR w B H V l cs) {g : PV → PV} (hg : ∀ x v, x ∈ l → VR w B H V x v → VR w' B' H' V' (g x) v) : LR w' B' H' V' (l.map g) cs :=
  ⟨by simpa using h.len, fun i hi => by simp at hi; rw [getD_map _ _ _ hi]; exact hg _ _ (by simp [List.getD_eq_getElem?_getD, hi, List.getElem_mem]) (h.val i hi)⟩

theorem LR.turn {w w' : World} {B B' : Blocks} {H H' : Roots} {V V' : Nat → Prop} {l : List PV} {cs : Array Value} (h : LR w B H V l cs) (hg : ∀ x v, x ∈ l → VR w B H V x v → VR w' B' H' V' x v) : LR w' B' H' V' l cs :=
  ⟨h.len, fun i hi => hg _ _ (by simp [List.getD_eq_getElem?_getD, hi, List.getElem_mem]) (h.val i hi)⟩

/-- The caller's heap, behind a call that had none of it. -/
theorem caller_mono {w w' : World} {B Bc B' : Blocks} {H H' : Roots} {V V' : Nat → Prop} (hr : HR w B H V) {Hc : Roots} {Vc : Nat → Prop} (hm : Mono w Bc H0 V0 w' B' Hc Vc)
    (hB : ∀ b, b < w.heap.size → w'.heap[b]? = w.heap[b]?) (hV : ∀ n, V n → V' n) (hH : ∀ r rt, H' r = some rt → ¬ V rt.ver ∨ H r = some rt) (B2 : Blocks) (hB2 : ∀ r p, r.1 = 0 → B2 r p = B r p)
    (hB3 : ∀ r rt, H' r = some rt → V rt.ver → ∀ p, B2 r p = B r p) (hB4 : ∀ r p b, B2 r p = some b → w.heap.size ≤ b ∨ B r p = some b) : Mono w B H V w' B2 H' V' where
  size := hm.size
  free b hb hf := ⟨fun r p h => by
    rcases hB4 r p b h with h1 | h1
    · omega
    · exact hf r p h1, hB b hb⟩
  foreign r p b h0 h := ⟨(hB2 r p h0).trans h, hB b (hr.dom _ _ _ h).1⟩
  fresh r p b h := (hB4 r p b h).imp id (fun h => ⟨r, p, h⟩)
  shape := hm.shape
  vers := hV
  root r rt h := by
    by_cases hv : V rt.ver
    · rcases hH r rt h with h1 | h1
      · exact absurd hv h1
      · exact .inr ⟨rt, h1, rfl, fun p s hp => ⟨hp, hB3 r rt h hv p⟩⟩
    · exact .inl hv
  os := hm.os
  tape := hm.tape
  output := hm.output

/-- The caller's blocks lie as they lay. -/
theorem untouched {w w' : World} {S : Nat → Prop} {B' : Blocks} {Hc : Roots} {Vc : Nat → Prop} (hm : Mono w (callerB S) H0 V0 w' B' Hc Vc) (b : Nat) (hb : b < w.heap.size) : w'.heap[b]? = w.heap[b]? := by
  by_cases hS : S b
  · exact (hm.foreign (0, 0) _ b rfl (callerB_at hS)).2
  · exact (hm.free b hb (fun r p h => hS (callerB_some h).1)).2

theorem CallWp.sound {P : Program} {id : RId} {ver : Nat} {f : FuncId} {args : List PV} {hp : List (RId × Root)} {nv : Nat} {K : PV → List (RId × Root) → Nat → Prop} (hid : id.1 ≠ 0)
    (hcall : CallWp P id ver f args hp nv K) {w : World} {B : Blocks} {cs : Array Value} (hv1 : nv ≤ ver) {top : Nat} (htop : ver < top)
    (hr : HR w B (lkH hp) (· < nv)) (ha : LR w B (lkH hp) (· < nv) args cs) :
    Enters P f ∧ Calls P f cs w fun e w' => ∃ v B' res hp' nv', e = .returned v ∧ K res hp' nv' ∧ VR w' B' (lkH hp') (· < max top nv') res v ∧ HR w' B' (lkH hp') (· < max top nv') ∧
      Mono w B (lkH hp) (· < nv) w' B' (lkH hp') (· < max top nv') := by
  have hVup : ∀ nv' n, nv ≤ nv' → n < nv → n < max top nv' := fun nv' n h h' => by omega
  -- contracts over frozen data
  have hF : ∀ (S : Nat → Prop), (∀ b, S b → b < w.heap.size) → ∀ (az : List PV) (res : PV), CallsF P f az res → LR w (callerB S) H0 V0 az cs → (∀ w' B' v, Mono w (callerB S) H0 V0 w' B' H0 V0 → VR w' B' H0 V0 res v → VR w' B H0 V0 res v) → K res hp nv →
      Enters P f ∧ Calls P f cs w fun e w' => ∃ v B' res hp' nv', e = .returned v ∧ K res hp' nv' ∧ VR w' B' (lkH hp') (· < max top nv') res v ∧ HR w' B' (lkH hp') (· < max top nv') ∧
        Mono w B (lkH hp) (· < nv) w' B' (lkH hp') (· < max top nv') := by
    intro S hS az res hc hargs hback hk
    refine ⟨hc.1, (hc.2 w (callerB S) cs (callerB_HR hS) hargs).mono fun e w' he => ?_⟩
    obtain ⟨v, B', rfl, hv, hm⟩ := he
    have hm' : Mono w B (lkH hp) (· < nv) w' B (lkH hp) (· < max top nv) :=
      caller_mono hr hm (fun b hb => untouched hm b hb) (fun n hn => by omega) (fun r rt h => .inr h) B (fun _ _ _ => rfl) (fun _ _ _ _ _ => rfl) (fun r p b h => .inr h)
    refine ⟨v, B, res, hp, nv, rfl, hk, (hback w' B' v hm hv).lift (fun _ _ _ h => h), ⟨fun r rt h => (hr.root r rt h).mono hm' (fun t s ht => ⟨rfl, fun b hb => untouched hm b (hr.dom _ _ _ hb).1⟩), fun r rt h => by have := hr.ver r rt h; omega, fun r p b h => ?_, hr.lev, hr.inj⟩, hm'⟩
    obtain ⟨h1, h2⟩ := hr.dom r p b h
    exact ⟨Nat.lt_of_lt_of_le h1 hm.size, h2⟩
  -- contracts that make a root
  have hO : ∀ (S : Nat → Prop), (∀ b, S b → b < w.heap.size) → ∀ (az : List PV) (node : PV) (res : RId → Nat → PV), CallsO P f az node res → LR w (callerB S) H0 V0 az cs →
      (∀ w' B' B2 v, Mono w (callerB S) H0 V0 w' B' (one id ⟨ver, node⟩) (· = ver) → HR w' B' (one id ⟨ver, node⟩) (· = ver) → (∀ p, B2 id p = B' id p) → (∀ r p b, r ≠ id → B2 r p = some b → B r p = some b) →
        (VR w' B' (one id ⟨ver, node⟩) (· = ver) (res id ver) v → VR w' B2 (one id ⟨ver, node⟩) (· = ver) (res id ver) v) ∧ (RootOK w' B' (one id ⟨ver, node⟩) (· = ver) id node → RootOK w' B2 (one id ⟨ver, node⟩) (· = ver) id node)) →
      K (res id ver) (setH hp id (some ⟨ver, node⟩)) nv →
      Enters P f ∧ Calls P f cs w fun e w' => ∃ v B' res hp' nv', e = .returned v ∧ K res hp' nv' ∧ VR w' B' (lkH hp') (· < max top nv') res v ∧ HR w' B' (lkH hp') (· < max top nv') ∧
        Mono w B (lkH hp) (· < nv) w' B' (lkH hp') (· < max top nv') := by
    intro S hS az node res hc hargs hback hk
    refine ⟨hc.1, (hc.2 w (callerB S) cs id ver hid (callerB_HR hS) hargs).mono fun e w' he => ?_⟩
    obtain ⟨v, B', rfl, hv, hr', hm⟩ := he
    let B2 : Blocks := fun r p => if r = id then B' r p else B r p
    have hB2id : ∀ p, B2 id p = B' id p := fun p => by simp [B2]
    have hB2ne : ∀ r p, r ≠ id → B2 r p = B r p := fun r p h => by simp [B2, h]
    have hnew : ∀ p b, B' id p = some b → w.heap.size ≤ b := by
      intro p b h
      rcases hm.fresh id p b h with h1 | ⟨r0, p0, h1⟩
      · exact h1
      · obtain ⟨_, rfl, rfl⟩ := callerB_some h1
        have h2 := (hm.foreign _ _ _ rfl h1).1
        exact absurd (congrArg Prod.fst (hr'.inj _ _ _ _ _ h h2).1) hid
    have hlook : ∀ r, lkH (setH hp id (some ⟨ver, node⟩)) r = if r = id then some ⟨ver, node⟩ else lkH hp r := fun r => lookH_setH ..
    have hm' : Mono w B (lkH hp) (· < nv) w' B2 (lkH (setH hp id (some ⟨ver, node⟩))) (· < max top nv) := by
      refine caller_mono hr hm (fun b hb => untouched hm b hb) (fun n hn => by omega) (fun r rt h => ?_) B2 (fun r p h0 => hB2ne r p (fun e => hid (e ▸ h0))) (fun r rt h hv p => ?_) (fun r p b h => ?_)
      · rw [hlook] at h
        split at h
        · cases h; exact .inl (by show ¬ ver < nv; omega)
        · exact .inr h
      · rw [hlook] at h
        split at h
        · cases h; exact absurd hv (by show ¬ ver < nv; omega)
        · rename_i hne; exact hB2ne r p hne
      · by_cases hri : r = id
        · subst hri; rw [hB2id] at h; exact .inl (hnew p b h)
        · rw [hB2ne r p hri] at h; exact .inr h
    have hup : Mono w' B2 (one id ⟨ver, node⟩) (· = ver) w' B2 (lkH (setH hp id (some ⟨ver, node⟩))) (· < max top nv) :=
      ⟨Nat.le_refl _, fun _ _ h => ⟨h, rfl⟩, fun _ _ _ _ h => ⟨h, rfl⟩, fun r p _ h => .inr ⟨r, p, h⟩, fun _ _ h => h, fun n hn => by have hn' : n = ver := hn; show n < max top nv; omega, fun r rt h => by
        rw [hlook] at h
        split at h
        · rename_i e0
          exact .inr ⟨rt, by simp [one, e0, h], rfl, fun _ _ h => ⟨h, rfl⟩⟩
        · refine .inl (fun he => ?_)
          have h5 : rt.ver < nv := hr.ver r rt h
          have h6 : rt.ver = ver := he
          omega, rfl, rfl, rfl⟩
    obtain ⟨hb1, hb2⟩ := hback w' B' B2 v hm hr' hB2id (fun r p b hne h => by rw [hB2ne r p hne] at h; exact h)
    refine ⟨v, B2, res id ver, _, nv, rfl, hk, (hb1 hv).mono hup, ⟨fun r rt h => ?_, fun r rt h => ?_, fun r p b h => ?_, fun r rt h => ?_, fun r p r' p' b h h' => ?_⟩, hm'⟩
    · rw [hlook] at h
      split at h
      · rename_i e0
        subst e0
        obtain rfl : (⟨ver, node⟩ : Root) = rt := Option.some.inj h
        exact (hb2 (hr'.root r ⟨ver, node⟩ (by simp [one]))).mono hup (fun t s ht => ⟨rfl, fun _ _ => rfl⟩)
      · rename_i hne
        exact (hr.root r rt h).mono hm' (fun t s ht => ⟨hB2ne r t hne, fun b hb => untouched hm b (hr.dom _ _ _ hb).1⟩)
    · rw [hlook] at h
      split at h
      · cases h; show ver < max top nv; omega
      · have := hr.ver r rt h; simp at this ⊢; omega
    · by_cases hri : r = id
      · subst hri
        rw [hB2id] at h
        obtain ⟨h1, h2⟩ := hr'.dom _ _ _ h
        obtain ⟨rt, s, h3, h4⟩ := h2.resolve_left hid
        simp [one] at h3
        subst h3
        exact ⟨h1, .inr ⟨_, s, by rw [hlook, if_pos rfl], h4⟩⟩
      · rw [hB2ne r p hri] at h
        obtain ⟨h1, h2⟩ := hr.dom _ _ _ h
        refine ⟨Nat.lt_of_lt_of_le h1 hm.size, h2.imp (fun h => h) (fun ⟨rt, s, h3, h4⟩ => ⟨rt, s, by rw [hlook, if_neg hri]; exact h3, h4⟩)⟩
    · rw [hlook] at h
      split at h
      · rename_i e0; rw [e0]; exact hid
      · exact hr.lev r rt h
    · by_cases hri : r = id
      · subst hri
        rw [hB2id] at h
        by_cases hri' : r' = r
        · subst hri'
          rw [hB2id] at h'
          exact hr'.inj _ _ _ _ _ h h'
        · rw [hB2ne r' p' hri'] at h'
          have h5 := hnew p b h
          have h6 := (hr.dom _ _ _ h').1
          omega
      · rw [hB2ne r p hri] at h
        by_cases hri' : r' = id
        · subst hri'
          rw [hB2id] at h'
          have h5 := hnew p' b h'
          have h6 := (hr.dom _ _ _ h).1
          omega
        · rw [hB2ne r' p' hri'] at h'
          exact hr.inj _ _ _ _ _ h h'
  have hall : ∀ b, (∃ r p, B r p = some b) → b < w.heap.size := fun b ⟨r, p, h⟩ => (hr.dom r p b h).1
  have hfreeAll : ∀ b, free B b → free (callerB fun b => ∃ r p, B r p = some b) b := fun b hf r p h => by
    obtain ⟨⟨r0, p0, h1⟩, _, _⟩ := callerB_some h
    exact hf r0 p0 h1
  have hfreeNone : ∀ b, free (callerB fun _ => False) b := fun b r p h => (callerB_some h).1
  cases hcall with
  | frozen res hc hpl hk =>
    refine hF (fun b => ∃ r p, B r p = some b) hall args res hc (ha.turn fun x v hx hv => (hv.plainL (hpl x hx)).conv rfl rfl (fun b _ hf => hfreeAll b hf)) (fun w' B' v hm hv => hv.conv rfl rfl (fun b _ hf r p h => ?_)) hk
    exact hf _ _ (hm.foreign (0, 0) _ b rfl (callerB_at ⟨r, p, h⟩)).1
  | plain res hc hl hk =>
    exact hF (fun _ => False) (fun _ h => h.elim) _ res hc (ha.map fun x v _ hv => (VR.view hr (fun b _ _ => hfreeNone b) (fun _ _ b _ _ => hfreeNone b) 9).1 x v hv) (fun w' B' v hm hv => hv.leafyL hl) hk
  | own node res hc hpl hk =>
    refine hO (fun b => ∃ r p, B r p = some b) hall args node res hc (ha.turn fun x v hx hv => (hv.plainL (hpl x hx)).conv rfl rfl (fun b _ hf => hfreeAll b hf)) (fun w' B' B2 v hm hr' h1 h2 => ?_) hk
    have hfr : ∀ b, free B' b → free B2 b := by
      intro b hf r p h
      by_cases hri : r = id
      · subst hri; rw [h1] at h; exact hf _ _ h
      · exact hf _ _ (hm.foreign (0, 0) _ b rfl (callerB_at ⟨r, p, h2 r p b hri h⟩)).1
    have ht : Turn w' B' (one id ⟨ver, node⟩) (· = ver) w' B2 (one id ⟨ver, node⟩) (· = ver) :=
      ⟨Nat.le_refl _, fun b _ hf => ⟨hfr b hf, .inl rfl⟩, fun _ _ h => h, fun _ h => h, fun r rt h => .inr ⟨rt, h, rfl, fun p s hp => ⟨hp, by
        simp only [one] at h
        split at h
        · rename_i e0; rw [e0]; exact h1 p
        · cases h⟩⟩⟩
    exact ⟨fun h => h.turn ht, fun h => h.turn ht (fun t s _ => ⟨h1 t, fun _ _ => rfl⟩)⟩
  | ownPlain sz n g res hc hl hg hk =>
    refine hO (fun _ => False) (fun _ h => h.elim) _ (.own sz n g) res hc (ha.map fun x v _ hv => (VR.view hr (fun b _ _ => hfreeNone b) (fun _ _ b _ _ => hfreeNone b) 9).1 x v hv) (fun w' B' B2 v hm hr' h1 h2 => ?_) hk
    have hB : ∀ r rt, one id ⟨ver, .own sz n g⟩ r = some rt → ∀ p, B2 r p = B' r p := by
      intro r rt h p
      simp only [one] at h
      split at h
      · rename_i e0; rw [e0]; exact h1 p
      · cases h
    refine ⟨fun h => h.swapL hl hB, fun h => ?_⟩
    cases h with
    | own h => exact .own (h.swap hg hB h1)
  | on Post hc hk =>
    refine ⟨hc.1, (hc.2 w B cs hr ha).mono fun e w' he => ?_⟩
    obtain ⟨v, B', res, hp', nv', rfl, hpost, hv, hr', hm⟩ := he
    have hup : Mono w' B' (lkH hp') (· < nv') w' B' (lkH hp') (· < max top nv') :=
      ⟨Nat.le_refl _, fun _ _ h => ⟨h, rfl⟩, fun _ _ _ _ h => ⟨h, rfl⟩, fun r p _ h => .inr ⟨r, p, h⟩, fun _ _ h => h, fun n hn => by omega, fun r rt h => .inr ⟨rt, h, rfl, fun _ _ h => ⟨h, rfl⟩⟩, rfl, rfl, rfl⟩
    exact ⟨v, B', res, hp', nv', rfl, hk _ _ _ hpost, hv.mono hup, ⟨fun r rt h => (hr'.root r rt h).mono hup (fun _ _ _ => ⟨rfl, fun _ _ => rfl⟩), fun r rt h => by have := hr'.ver r rt h; simp at this ⊢; omega, hr'.dom, hr'.lev, hr'.inj⟩, hm.trans hup⟩
end Go.Ab
namespace Go.Ab
open Classical

/-- Memory-making and memory-changing operations. -/
def changes : Op → Bool
  | .alloc _ | .box .. | .buildSlice .. | .makeSlice .. | .store .. | .call _ | .mapUpdate .. | .makeMap .. | .insert .. | .mapEntry .. | .entryStore .. | .range .. | .next .. => true
  | _ => false

/-- What stands for the answer of an operation that is passed over. -/
def noT (P : Program) (o : Oper) : PV := match o.op with
  | .call _ => match P.underlying o.type with
    | some .bool => .whn false (.bool false)
    | some (.int k) => .whn false (.int k 0)
    | _ => .undef
  | _ => .undef
theorem noT_cases (P : Program) (o : Oper) : noT P o = .undef ∨ ∃ v, noT P o = .whn false v := by
  unfold noT
  split
  · split
    · exact .inr ⟨_, rfl⟩
    · exact .inr ⟨_, rfl⟩
    · exact .inl rfl
  · exact .inl rfl
theorem noT_VR {w : World} {B : Blocks} {H : Roots} {V : Nat → Prop} (P : Program) (o : Oper) : VR w B H V (noT P o) Go.undef := by
  rcases noT_cases P o with h | ⟨v, h⟩ <;> rw [h]
  · exact .undef _
  · exact .whn (fun e => by cases e) fun _ => rfl

/-- May the operation run? (by the test that guards it) -/
def guardC (ops : List Oper) (tm : List (Nat × PV)) (g : Option (Nat × Bool)) : Option Bool := match g with
  | none => some true
  | some (j, want) => match (ops[j]?).bind (·.dst) with
    | some d => match lk tm d with
      | .bool b => some (b == want)
      | .whn g (.bool b) => some (g && (b == want))
      | .whn g (.whn g' (.bool b)) => some (g && (g' && (b == want)))
      | _ => none
    | none => none

/-- What a heap-pure operation gives where it may run; where it may not, nothing is known of its value. -/
def A.gwp (c : Bool) : A → List (RId × Root) → (PV → Prop) → Prop
  | .ret x, _, K => K x
  | @A.vc p _ k, h, K => (c = true → p) ∧ A.gwp c k h K
  | .hyp p k, h, K => (c = true → p) → A.gwp c k h K
  | .rd r k, h, K => A.gwp c (k (lkH h r)) h K
  | .wr .., _, _ => False
  | .any k, h, K => ∀ b, A.gwp c (k b) h K
  | @A.dec p d k, h, K => A.gwp c (k (@decide p d)) h K
  | .opt o k, h, K => A.gwp c (k o) h K
  | .all .., _, _ => False
  | .fail, _, _ => False

theorem A.gwp_true {a : A} {h : List (RId × Root)} {K : PV → Prop} (hg : a.gwp true h K) : a.wp h fun x h' => h' = h ∧ K x := by
  induction a generalizing h with
  | ret x => exact ⟨rfl, hg⟩
  | vc p k ih => exact ⟨hg.1 rfl, ih hg.2⟩
  | hyp p k ih => exact fun hp => ih (hg fun _ => hp)
  | rd r k ih => exact ih _ hg
  | wr r x k ih => exact hg.elim
  | any k ih => exact fun b => ih b (hg b)
  | dec p k ih => exact ih _ hg
  | opt o k ih => exact ih _ hg
  | all p k ih => exact hg.elim
  | fail => exact hg.elim

theorem A.gwp_false {a : A} {h : List (RId × Root)} {K : PV → Prop} (hg : a.gwp false h K) : ∃ x, K x := by
  induction a generalizing h with
  | ret x => exact ⟨x, hg⟩
  | vc p k ih => exact ih hg.2
  | hyp p k ih => exact ih (hg fun h => by cases h)
  | rd r k ih => exact ih _ hg
  | wr r x k ih => exact hg.elim
  | any k ih => exact ih true (hg true)
  | dec p k ih => exact ih _ hg
  | opt o k ih => exact ih _ hg
  | all p k ih => exact hg.elim
  | fail => exact hg.elim

/-- An operand that is called. -/
def evC (tm : List (Nat × PV)) (x : Operand) : PV := match ev tm x with
  | .whn true v => v
  | v => v
theorem TmR.evC {w : World} {B : Blocks} {H : Roots} {V : Nat → Prop} {nt : FS} {tm : List (Nat × PV)} {a : Act} (h : TmR w B H V nt tm a) (x : Operand) : VR w B H V (evC tm x) (a.eval x) := by
  have := h.ev x
  unfold Ab.evC
  split
  · rename_i v hv
    rw [hv] at this
    cases this with
    | whn h1 _ => exact h1 rfl
  · exact this

/-- The function that a call operation calls, and the arguments. -/
def callee (tm : List (Nat × PV)) (o : Op) (k : FuncId → List PV → Prop) : Prop := match o with
  | .call { callee := .value f, args, .. } => match evC tm f with
    | .func (.func g) first caps => match vals tm args.toList with
      | some az => k g (first ++ az ++ caps)
      | none => False
    | _ => False
  | _ => False
where
  vals (tm : List (Nat × PV)) : List Operand → Option (List PV)
    | [] => some []
    | x :: l => match vals tm l with
      | none => none
      | some vs => match ev tm x with
        | .whn true v => some (v :: vs)
        | .whn false _ => none
        | v => some (v :: vs)

/-- A call of a loop's yield, and its arguments. -/
def yieldO (tm : List (Nat × PV)) : Op → Option (RId × Nat × List PV)
  | .call { callee := .value f, args, .. } => match evC tm f with
    | .sref .loop r v => match callee.vals tm args.toList with
      | some az => some (r, v, az)
      | none => none
    | _ => none
  | _ => none

def isCall : Op → Bool
  | .call { callee := .value _, .. } => true
  | _ => false

def putT (tm : List (Nat × PV)) (d : Option Tmp) (x : PV) : List (Nat × PV) := match d with
  | some d => (d, x) :: tm
  | none => tm

def dstOK (nt : Nat) (d : Option Tmp) : Bool := match d with
  | some d => decide (d < nt)
  | none => true

/-- One operation of a region; `N`: what comes next. -/
def stepWp (P : Program) (lv : Nat) (all : List Oper) (o : Oper) (N : List (Nat × PV) → List (RId × Root) → Nat → Prop) (tm : List (Nat × PV)) (hp : List (RId × Root)) (nv : Nat) : Prop :=
  if isCall o.op then match guardC all tm o.guard with
    | some c => (c = true → match yieldO tm o.op with
        | some (r, v, az) => YieldA P r v az hp nv fun x hp' nv' => N (putT tm o.dst x) hp' (max (nv + 1) nv')
        | none => callee tm o.op fun f args => CallWp P (lv, o.dst.getD 0) nv f args hp nv fun x hp' nv' => N (putT tm o.dst x) hp' (max (nv + 1) nv')) ∧
      (c = false → N (putT tm o.dst (noT P o)) hp (nv + 1))
    | none => False
  else match o.guard with
    | none => (opA P lv nv tm o).wp hp fun x hp' => N (putT tm o.dst x) hp' (nv + 1)
    | some g => match guardC all tm (some g) with
      | some c => if changes o.op then (c = true → (opA P lv nv tm o).wp hp fun x hp' => N (putT tm o.dst x) hp' (nv + 1)) ∧ (c = false → N (putT tm o.dst (noT P o)) hp (nv + 1))
        else (opA P lv nv tm o).gwp c hp fun x => N (putT tm o.dst (.whn c x)) hp (nv + 1)
      | none => False

/-! ### Soundness -/
def Wd (ro : Option Nat) : Fence := { Fence.wide with round := ro }

theorem callsIn_Wd {ro : Option Nat} {n : Nat} {P : Program} {f : FuncId} {args : Array Value} {w : World} {R : Ending → World → Prop} (h : Calls P f args w R) : CallsIn (Wd ro) n P f args w R := by
  cases ro with
  | none => exact callsIn_wide.2 h
  | some l =>
    have h2 : CallsIn Fence.wide n P f args w R := callsIn_wide.2 h
    exact h2

theorem LR.append {w B H V} {l m : List PV} {cs ds : Array Value} (h : LR w B H V l cs) (k : LR w B H V m ds) : LR w B H V (l ++ m) (cs ++ ds) := by
  refine ⟨by simp [h.len, k.len], fun i hi => ?_⟩
  simp only [List.length_append] at hi
  simp only [List.getD_eq_getElem?_getD, Array.getD_eq_getD_getElem?]
  by_cases h1 : i < l.length
  · rw [List.getElem?_append_left h1, Array.getElem?_append_left (by rw [← h.len]; exact h1)]
    have := h.val i h1
    simpa [List.getD_eq_getElem?_getD, Array.getD_eq_getD_getElem?] using this
  · rw [List.getElem?_append_right (by omega), Array.getElem?_append_right (by rw [← h.len]; omega), ← h.len]
    have := k.val (i - l.length) (by omega)
    simpa [List.getD_eq_getElem?_getD, Array.getD_eq_getD_getElem?] using this

theorem vals_LR {w B H V nt} {tm : List (Nat × PV)} {a : Act} (ht : TmR w B H V nt tm a) : ∀ (l : List Operand) (az : List PV), callee.vals tm l = some az → LR w B H V az (l.toArray.map a.eval) := by
  intro l
  induction l with
  | nil => intro az h; simp [callee.vals] at h; subst h; exact ⟨by simp, fun i hi => by simp at hi⟩
  | cons x l ih =>
    intro az h
    simp only [callee.vals] at h
    split at h
    · cases h
    · rename_i vs hvs
      obtain ⟨h1, h2⟩ := ih _ hvs
      have fin : ∀ v, VR w B H V v (a.eval x) → LR w B H V (v :: vs) ((x :: l).toArray.map a.eval) := by
        intro v hv
        refine ⟨by simp at h1; simp [h1], fun i hi => ?_⟩
        cases i with
        | zero => simpa using hv
        | succ i =>
          have := h2 i (by simpa using hi)
          simpa [List.getD_eq_getElem?_getD, Array.getD_eq_getD_getElem?] using this
      have he := ht.ev x
      split at h
      · rename_i v hx
        cases h
        rw [hx] at he
        cases he with
        | whn he _ => exact fin v (he rfl)
      · cases h
      · cases h
        exact fin _ he

theorem TmR.putT {w B H V nt} {tm : List (Nat × PV)} {a : Act} (h : TmR w B H V nt tm a) {d : Option Tmp} (hd : dstOK nt d = true) {x : PV} {v : Value} (hv : VR w B H V x v) : TmR w B H V nt (Ab.putT tm d x) (a.put d v) := by
  cases d with
  | none => exact h
  | some d => exact h.put (by simpa [dstOK] using hd) hv

theorem guard_sound {w B H V nt} {tm : List (Nat × PV)} {a : Act} (ht : TmR w B H V nt tm a) (ops : Array Oper) (o : Oper) {c : Bool} (h : guardC ops.toList tm o.guard = some c) : Region.wanted o (yielded ops a.tmps) = c := by
  unfold guardC at h
  have hw : ∀ j want, o.guard = some (j, want) → Region.wanted o (yielded ops a.tmps) = (yielded ops a.tmps j == some want) := fun j want hg => by simp [Region.wanted, hg]
  split at h
  · rename_i hg
    cases h
    simp [Region.wanted, hg]
  · rename_i j want hg
    rw [hw j want hg]
    split at h
    · rename_i d hd
      have hd' : (ops[j]?).bind (·.dst) = some d := by rw [← hd]; simp
      have hv := ht.val d
      have key : ∀ b : Bool, a.tmps.getD d Go.undef = .bool b → yielded ops a.tmps j = some b := by
        intro b hb
        simp only [yielded, hd', Option.bind_some]
        rw [Array.getD_eq_getD_getElem?] at hb
        cases ht' : a.tmps[d]? with
        | none => rw [ht'] at hb; simp [Go.undef] at hb
        | some x => rw [ht'] at hb; simp at hb; rw [hb]
      have key2 : a.tmps.getD d Go.undef = Go.undef → yielded ops a.tmps j = none := by
        intro hb
        simp only [yielded, hd', Option.bind_some]
        rw [Array.getD_eq_getD_getElem?] at hb
        cases ht' : a.tmps[d]? with
        | none => rfl
        | some x => rw [ht'] at hb; simp at hb; rw [hb]; rfl
      split at h
      · rename_i b hb
        cases h
        rw [hb] at hv
        cases hx : a.tmps.getD d Go.undef <;> rw [hx] at hv <;> cases hv
        rw [key _ hx]
        simp
      · rename_i g b hb
        cases h
        rw [hb] at hv
        generalize hx : a.tmps.getD d Go.undef = x at hv
        cases hv with
        | whn h1 h2 =>
          cases g with
          | true =>
            have := h1 rfl
            cases this
            rw [key _ hx]
            simp
          | false =>
            have := h2 rfl
            subst this
            rw [key2 hx]
            simp
      · rename_i g g' b hb
        cases h
        rw [hb] at hv
        generalize hx : a.tmps.getD d Go.undef = x at hv
        cases hv with
        | whn h1 h2 =>
          cases g with
          | true =>
            have := h1 rfl
            cases this with
            | whn h3 h4 =>
            cases g' with
            | true =>
              have := h3 rfl
              cases this
              rw [key _ hx]
              simp
            | false =>
              have := h4 rfl
              subst this
              rw [key2 hx]
              simp
          | false =>
            have := h2 rfl
            subst this
            rw [key2 hx]
            simp
      · cases h
    · cases h

theorem ors_up {nv n : Nat} (h : ors (· < nv) nv n) : n < nv + 1 := by
  rcases h with h | h
  · exact Nat.lt_succ_of_lt h
  · omega

/-- Versions below a bound, and no gap. -/
theorem Mono.up {w B H V w' B' H' V' V''} (h : Mono w B H V w' B' H' V') (hV : ∀ n, V' n → V'' n) : Mono w B H V w' B' H' V'' :=
  ⟨h.size, h.free, h.foreign, h.fresh, h.shape, fun n hn => hV n (h.vers n hn), h.root, h.os, h.tape, h.output⟩
theorem VR.up {w : World} {B : Blocks} {H : Roots} {V V'' : Nat → Prop} {x : PV} {v : Value} (h : VR w B H V x v) (hV : ∀ n, V n → V'' n) : VR w B H V'' x v :=
  h.turn ⟨Nat.le_refl _, fun _ _ h => ⟨h, .inl rfl⟩, fun _ _ h => h, hV, fun r rt h => .inr ⟨rt, h, rfl, fun _ _ h => ⟨h, rfl⟩⟩⟩
theorem HR.up {w : World} {B : Blocks} {H : Roots} {V V'' : Nat → Prop} (h : HR w B H V) (hV : ∀ n, V n → V'' n) : HR w B H V'' :=
  ⟨fun r rt hr => (h.root r rt hr).turn ⟨Nat.le_refl _, fun _ _ h => ⟨h, .inl rfl⟩, fun _ _ h => h, hV, fun r rt h => .inr ⟨rt, h, rfl, fun _ _ h => ⟨h, rfl⟩⟩⟩ (fun _ _ _ => ⟨rfl, fun _ _ => rfl⟩), fun r rt hr => hV _ (h.ver r rt hr), h.dom, h.lev, h.inj⟩

theorem oneOpK {P : Program} {lv : Nat} {nt : FS} {ro : Option Nat} {ops : Array Oper} {N : List (Nat × PV) → List (RId × Root) → Nat → Prop} {Q : Exit → Act → World → Prop} (hlv : lv ≠ 0)
    {w0 : World} {B0 : Blocks} {hp0 : List (RId × Root)} {nv0 : Nat} {rest : Act → World → Prop} {i : Nat} {o : Oper} (hio : ops[i]? = some o) (hdo : dstOK nt o.dst = true)
    (hN : ∀ tm hp nv B w a, N tm hp nv → TmR w B (lkH hp) (· < nv) nt tm a → HR w B (lkH hp) (· < nv) → Mono w0 B0 (lkH hp0) (· < nv0) w B (lkH hp) (· < nv) → rest a w)
    (tm : List (Nat × PV)) (hp : List (RId × Root)) (nv : Nat) (B : Blocks) (w : World) (a : Act) (h : stepWp P lv ops.toList o N tm hp nv) (ht : TmR w B (lkH hp) (· < nv) nt tm a) (hr : HR w B (lkH hp) (· < nv))
    (hm : Mono w0 B0 (lkH hp0) (· < nv0) w B (lkH hp) (· < nv)) : wpOpIn (Wd ro) 0 P ops Q i rest a w := by
  simp only [wpOpIn, hio]
  -- a value has come
  have value : ∀ (nx : Next) (v : Value) (w' : World) (B' : Blocks) (hp' : List (RId × Root)) (x : PV) (nv' : Nat), (o.semAt ro a.eval).run P w = .ok nx w' → (nx = .value v ∨ nx = .skip ∧ v = Go.undef) →
      N (putT tm o.dst x) hp' nv' → VR w' B' (lkH hp') (· < nv') x v → HR w' B' (lkH hp') (· < nv') → Mono w B (lkH hp) (· < nv) w' B' (lkH hp') (· < nv') →
      Oper.wpIn (Wd ro) 0 P o a w rest Q := by
    intro nx v w' B' hp' x nv' he hnx hk hv hr' hm'
    refine ⟨fun _ _ => trivial, ?_⟩
    show o.uponIn (Wd ro) 0 P a _ Q ((o.semAt ro a.eval).run P w)
    rw [he]
    have := hN _ _ _ B' w' _ hk ((ht.mono hm').putT hdo hv) hr' (hm.trans hm')
    rcases hnx with rfl | ⟨rfl, rfl⟩
    · exact this
    · exact this
  -- it is passed over
  have passV : ∀ u, (∀ w B (H : Roots) (V : Nat → Prop), VR w B H V u Go.undef) → N (putT tm o.dst u) hp (nv + 1) → rest (a.put o.dst Go.undef) w := by
    intro u hu hk
    have hup : ∀ n, n < nv → n < nv + 1 := fun n h => Nat.lt_succ_of_lt h
    have hmu := (Mono.refl w B (lkH hp) (· < nv)).up hup
    exact hN _ _ _ B w _ hk ((ht.mono hmu).putT hdo (hu _ _ _ _)) (hr.up hup) (hm.trans hmu)
  have pass : N (putT tm o.dst .undef) hp (nv + 1) → rest (a.put o.dst Go.undef) w := passV _ fun _ _ _ _ => .undef _
  have passN : N (putT tm o.dst (noT P o)) hp (nv + 1) → rest (a.put o.dst Go.undef) w := passV _ fun _ _ _ _ => noT_VR _ _
  -- a call
  have call : ∀ (hc : isCall o.op = true), (callee tm o.op fun f args => CallWp P (lv, o.dst.getD 0) nv f args hp nv fun x hp' nv' => N (putT tm o.dst x) hp' (max (nv + 1) nv')) →
      Oper.wpIn (Wd ro) 0 P o a w rest Q := by
    intro hc hcall
    refine ⟨fun _ _ => trivial, ?_⟩
    show o.uponIn (Wd ro) 0 P a _ Q ((o.semAt ro a.eval).run P w)
    unfold callee at hcall
    split at hcall
    · rename_i f args _ hop
      have hev := ht.evC f
      split at hcall
      · rename_i g first caps hfe
        rw [hfe] at hev
        split at hcall
        · rename_i az has
          generalize hfv : a.eval f = fv at hev
          cases hev with
          | @func _ _ _ _ _ cs1 cs2 hl hl' h1 h2 =>
            have hargs : LR w B (lkH hp) (· < nv) (first ++ az ++ caps) (cs1 ++ args.map a.eval ++ cs2) := by
              refine LR.append (LR.append ⟨hl, h1⟩ ?_) ⟨hl', h2⟩
              simpa using vals_LR ht args.toList az has
            obtain ⟨hen, hcalls⟩ := hcall.sound (top := nv + 1) (id := (lv, o.dst.getD 0)) hlv (Nat.le_refl _) (by omega) hr hargs
            have he : (o.semAt ro a.eval).run P w = .ok (.enter g (cs1 ++ args.map a.eval ++ cs2)) w := by
              rw [Oper.semAt_eq _ _ _ (by rw [hop]; intro c h; cases h)]
              simp [execOp, hop, resolve, hfv, Deferred.ofValue, invoke, hen _ w]
            rw [he, Oper.uponIn_enter]
            refine ⟨fun h => by simp [Wd, Fence.wide] at h, callsIn_Wd (hcalls.mono fun e w' he => ?_)⟩
            obtain ⟨v, B', res, hp', nv', rfl, hk, hv, hr', hm'⟩ := he
            exact hN _ _ _ B' w' _ hk ((ht.mono hm').putT hdo hv) hr' (hm.trans hm')
        · exact hcall.elim
      · exact hcall.elim
    · exact hcall.elim
  -- a round
  have round : ∀ (hc : isCall o.op = true) r v az, yieldO tm o.op = some (r, v, az) → (YieldA P r v az hp nv fun x hp' nv' => N (putT tm o.dst x) hp' (max (nv + 1) nv')) →
      Oper.wpIn (Wd ro) 0 P o a w rest Q := by
    intro hc r v az hy hya
    refine ⟨fun _ _ => trivial, ?_⟩
    show o.uponIn (Wd ro) 0 P a _ Q ((o.semAt ro a.eval).run P w)
    unfold yieldO at hy
    split at hy
    · rename_i f args _ hop
      have hev := ht.evC f
      split at hy
      · rename_i r0 v0 hfe
        rw [hfe] at hev
        split at hy
        · rename_i as0 has
          cases hy
          obtain ⟨rt, li, c, hH, hv, hn, hst, hal, hround⟩ := hya
          generalize hfv : a.eval f = fv at hev
          cases hev with
          | sref _ h1 =>
          obtain ⟨l, _, hB, rfl⟩ := h1 rt hH hv
          have hroot := hr.root r rt hH
          rw [hn] at hroot
          cases hroot with
          | @oloop _ _ l' d tmps fn hB' hh hsz hval =>
          rw [hB] at hB'
          cases hB'
          have hargs := vals_LR ht args.toList az has
          have hcs : (args.map a.eval).size = li.params.size := by
            have := hargs.len
            simp at this
            rw [← hal, this]
            simp
          have he : (o.semAt ro a.eval).run P w = .ok (.round l fn ((li.params.zip (args.map a.eval)).foldl (fun tmps (t, a) => tmps.setIfInBounds t a) tmps) li.assign li.body) w := by
            rw [Oper.semAt_eq _ _ _ (by rw [hop]; intro c h; cases h)]
            have hy := run_yield (P := P) (w := w) (l := l) (args := args.map a.eval) hh hcs
            simp [execOp, hop, resolve, hfv, SK.val, Deferred.ofValue, invoke, hy]
          rw [he, Oper.uponIn_round]
          refine ⟨fun h => by simp [Wd, Fence.wide] at h, ?_⟩
          have h2 := hround w B (args.map a.eval) l tmps d fn ro hr (by simpa using hargs) hB hh hval hsz
          refine roundIn_mono h2 fun e w' he => ?_
          obtain ⟨v, B', res, hp', nv', rfl, hk, hv, hr', hm'⟩ := he
          have hup : Mono w' B' (lkH hp') (· < nv') w' B' (lkH hp') (· < max (nv + 1) nv') := (Mono.refl ..).up fun n hn => by omega
          exact hN _ _ _ B' w' _ hk ((ht.mono (hm'.trans hup)).putT hdo (hv.mono hup)) ⟨fun r rt h => (hr'.root r rt h).mono hup (fun _ _ _ => ⟨rfl, fun _ _ => rfl⟩), fun r rt h => by have := hr'.ver r rt h; simp at this ⊢; omega, hr'.dom, hr'.lev, hr'.inj⟩ (hm.trans (hm'.trans hup))
        · cases hy
      · cases hy
    · cases hy
  -- another operation
  have other : (opA P lv nv tm o).wp hp (fun x hp' => N (putT tm o.dst x) hp' (nv + 1)) → Oper.wpIn (Wd ro) 0 P o a w rest Q := by
    intro ho
    have hnd : ∀ c, o.op ≠ .defer c := fun c hc => by
      unfold opA opB at ho
      rw [hc] at ho
      exact ho
    obtain ⟨nx, v, w', B', hp', x, he, hnx, hk, hv, hr', hm'⟩ := opA_real (P := P) (ver := nv) hlv hr (by omega) ht o _ ho
    exact value nx v w' B' hp' x (nv + 1) (by rw [Oper.semAt_eq _ _ _ hnd]; exact he) hnx hk (hv.up fun _ => ors_up) (hr'.up fun _ => ors_up) (hm'.up fun _ => ors_up)
  unfold stepWp at h
  split at h
  · rename_i hc
    cases hg : guardC ops.toList tm o.guard with
    | none => rw [hg] at h; exact h.elim
    | some c =>
      rw [hg] at h
      simp only at h
      have hw := guard_sound ht ops o (c := c) hg
      rw [hw]
      cases c with
      | true =>
        simp only [if_true]
        have h1 := h.1 rfl
        cases hy : yieldO tm o.op with
        | none => rw [hy] at h1; exact call hc h1
        | some x => obtain ⟨r, v, az⟩ := x; rw [hy] at h1; exact round hc r v az hy h1
      | false => simp only [Bool.false_eq_true, if_false]; exact ⟨fun _ _ => trivial, passN (h.2 rfl)⟩
  · rename_i hc
    cases hg : o.guard with
    | none =>
      have hw : Region.wanted o (yielded ops a.tmps) = true := by simp [Region.wanted, hg]
      rw [if_pos hw]
      simp only [hg] at h
      exact other h
    | some g =>
      simp only [hg] at h
      split at h
      · rename_i c hgc
        have hw := guard_sound ht ops o (c := c) (by rw [hg]; exact hgc)
        rw [hw]
        split at h
        · cases c with
          | true => simp only [if_true]; exact other (h.1 rfl)
          | false => simp only [Bool.false_eq_true, if_false]; exact ⟨fun _ _ => trivial, passN (h.2 rfl)⟩
        · cases c with
          | true =>
            simp only [if_true]
            have h1 := A.gwp_true h
            have hnd : ∀ c, o.op ≠ .defer c := fun c hc => by
              unfold opA opB at h1
              rw [hc] at h1
              exact h1
            obtain ⟨nx, v, w', B', hp', x, he, hnx, ⟨rfl, hk⟩, hv, hr', hm'⟩ := opA_real (P := P) (ver := nv) hlv hr (by omega) ht o _ h1
            exact value nx v w' B' hp' (.whn true x) (nv + 1) (by rw [Oper.semAt_eq _ _ _ hnd]; exact he) hnx hk (.whn (fun _ => hv.up fun _ => ors_up) (fun h => by cases h)) (hr'.up fun _ => ors_up) (hm'.up fun _ => ors_up)
          | false =>
            simp only [Bool.false_eq_true, if_false]
            obtain ⟨x, hk⟩ := A.gwp_false h
            have hup : ∀ n, n < nv → n < nv + 1 := fun n h => Nat.lt_succ_of_lt h
            have hmu := (Mono.refl w B (lkH hp) (· < nv)).up hup
            exact ⟨fun _ _ => trivial, hN _ _ _ B w _ hk ((ht.mono hmu).putT hdo (.whn (fun h => by cases h) (fun _ => rfl))) (hr.up hup) (hm.trans hmu)⟩
      · exact h.elim


/-- Operations in a row, and what comes then. -/
def wpOpsK (F : Fence) (n : Nat) (P : Program) (ops : Array Oper) (Q : Exit → Act → World → Prop) (K : Act → World → Prop) : List Nat → Act → World → Prop
  | [] => K
  | i :: l => wpOpIn F n P ops Q i (wpOpsK F n P ops Q K l)
theorem wpOpsK_ops {F : Fence} {n : Nat} {P : Program} {ops : Array Oper} {Q : Exit → Act → World → Prop} : ∀ (l : List Nat), wpOpsK F n P ops Q (Q .normal) l = wpOpsIn F n P ops Q l := by
  intro l
  induction l with
  | nil => rfl
  | cons i l ih =>
    funext a w
    show wpOpIn F n P ops Q i (wpOpsK F n P ops Q (Q .normal) l) a w = _
    rw [ih, wpOpsIn_cons]

theorem oneOp_sound {P : Program} {lv : Nat} {nt : FS} {ro : Option Nat} {ops : Array Oper} {N : List (Nat × PV) → List (RId × Root) → Nat → Prop} {Q : Exit → Act → World → Prop} (hlv : lv ≠ 0)
    {w0 : World} {B0 : Blocks} {hp0 : List (RId × Root)} {nv0 : Nat} {rest : List Nat} {i : Nat} {o : Oper} (hio : ops[i]? = some o) (hdo : dstOK nt o.dst = true)
    (hN : ∀ tm hp nv B w a, N tm hp nv → TmR w B (lkH hp) (· < nv) nt tm a → HR w B (lkH hp) (· < nv) → Mono w0 B0 (lkH hp0) (· < nv0) w B (lkH hp) (· < nv) → wpOpsIn (Wd ro) 0 P ops Q rest a w)
    (tm : List (Nat × PV)) (hp : List (RId × Root)) (nv : Nat) (B : Blocks) (w : World) (a : Act) (h : stepWp P lv ops.toList o N tm hp nv) (ht : TmR w B (lkH hp) (· < nv) nt tm a) (hr : HR w B (lkH hp) (· < nv))
    (hm : Mono w0 B0 (lkH hp0) (· < nv0) w B (lkH hp) (· < nv)) : wpOpsIn (Wd ro) 0 P ops Q (i :: rest) a w := by
  rw [wpOpsIn_cons]
  exact oneOpK hlv hio hdo hN tm hp nv B w a h ht hr hm

theorem ops_at {ops : Array Oper} {i : Nat} {o : Oper} {os : List Oper} (hi : ops.toList.drop i = o :: os) : ops[i]? = some o ∧ ops.toList.drop (i + 1) = os ∧ o ∈ ops.toList := by
  have h1 : ops.toList[i]? = some o := by
    have := congrArg (fun l => l[0]?) hi
    simpa using this
  exact ⟨by simpa using h1, by have := congrArg List.tail hi; simpa using this, List.mem_of_getElem? h1⟩

end Go.Ab
namespace Go.Ab
open Classical

abbrev Tm := List (Nat × PV)
abbrev Hp := List (RId × Root)
abbrev Post := Exit → Tm → Hp → Nat → Prop

structure SR (nt : FS) (tm : Tm) (hp : Hp) (nv : Nat) (w : World) (B : Blocks) (a : Act) : Prop where
  tm : TmR w B (lkH hp) (· < nv) nt tm a
  hp : HR w B (lkH hp) (· < nv)

/-- A piece of code, run from an abstract state, ends as told. -/
structure Ev (P : Program) (lv : Nat) (nt : FS) (ro : Option Nat) (c : Code) (tm : Tm) (hp : Hp) (nv : Nat) (Q : Post) : Prop where
  out : ∀ (w : World) (B : Blocks) (a : Act), SR nt tm hp nv w B a →
    c.wpIn (Wd ro) 0 P (fun e a' w' => ∃ tm' hp' nv' B', Q e tm' hp' nv' ∧ SR nt tm' hp' nv' w' B' a' ∧ Mono w B (lkH hp) (· < nv) w' B' (lkH hp') (· < nv')) a w

section
variable {P : Program} {lv : Nat} {nt : FS} {ro : Option Nat} {tm : Tm} {hp : Hp} {nv : Nat} {Q : Post}

theorem Ev.mono {c : Code} {Q' : Post} (h : Ev P lv nt ro c tm hp nv Q) (hq : ∀ e tm hp nv, Q e tm hp nv → Q' e tm hp nv) : Ev P lv nt ro c tm hp nv Q' :=
  ⟨fun w B a hs => wpIn_mono (h.out w B a hs) fun e a' w' ⟨tm', hp', nv', B', h1, h2, h3⟩ => ⟨tm', hp', nv', B', hq _ _ _ _ h1, h2, h3⟩⟩

theorem Ev.skip (h : Q .normal tm hp nv) : Ev P lv nt ro .skip tm hp nv Q := ⟨fun w B a hs => wpIn_skip ⟨tm, hp, nv, B, h, hs, Mono.refl ..⟩⟩
theorem Ev.label {l : Nat} (h : Q .normal tm hp nv) : Ev P lv nt ro (.label l) tm hp nv Q := ⟨fun w B a hs => wpIn_label ⟨tm, hp, nv, B, h, hs, Mono.refl ..⟩⟩
theorem Ev.exit {i : Nat} (h : Q (.exit i) tm hp nv) : Ev P lv nt ro (.exit i) tm hp nv Q := ⟨fun w B a hs => wpIn_exit ⟨tm, hp, nv, B, h, hs, Mono.refl ..⟩⟩
theorem Ev.goto {i : Nat} (h : Q (.goto i) tm hp nv) : Ev P lv nt ro (.goto i) tm hp nv Q := ⟨fun w B a hs => wpIn_goto ⟨tm, hp, nv, B, h, hs, Mono.refl ..⟩⟩
theorem Ev.ret (h : Q .ret tm hp nv) : Ev P lv nt ro .ret tm hp nv Q := ⟨fun w B a hs => wpIn_ret ⟨tm, hp, nv, B, h, hs, Mono.refl ..⟩⟩

/-- Behind a normal end: what comes next; else: as it is. -/
def thenQ (next : Tm → Hp → Nat → Prop) (Q : Post) : Post
  | .normal, tm, hp, nv => next tm hp nv
  | e, tm, hp, nv => Q e tm hp nv

theorem Ev.seq {x y : Code} (h : Ev P lv nt ro x tm hp nv (thenQ (fun tm hp nv => Ev P lv nt ro y tm hp nv Q) Q)) : Ev P lv nt ro (.seq x y) tm hp nv Q := by
  refine ⟨fun w B a hs => wpIn_seq (wpIn_mono (h.out w B a hs) ?_)⟩
  rintro e a' w' ⟨tm', hp', nv', B', h1, h2, h3⟩
  cases e with
  | normal => exact wpIn_mono (h1.out w' B' a' h2) fun e a2 w2 ⟨tm2, hp2, nv2, B2, k1, k2, k3⟩ => ⟨tm2, hp2, nv2, B2, k1, k2, h3.trans k3⟩
  | _ => exact ⟨tm', hp', nv', B', h1, h2, h3⟩

theorem Ev.cond {c : Operand} {x y : Code} {b : Bool} (hc : ev tm c = .bool b) (h1 : b = true → Ev P lv nt ro x tm hp nv Q) (h2 : b = false → Ev P lv nt ro y tm hp nv Q) : Ev P lv nt ro (.cond c x y) tm hp nv Q := by
  refine ⟨fun w B a hs => ?_⟩
  have hv := hs.tm.ev c
  rw [hc] at hv
  generalize hx : a.eval c = v at hv
  cases hv
  cases b with
  | true => exact wpIn_cond hx ((h1 rfl).out w B a hs)
  | false => exact wpIn_cond hx ((h2 rfl).out w B a hs)

def blockQ (id : Nat) (Q : Post) : Post
  | .exit i, tm, hp, nv => if i = id then Q .normal tm hp nv else Q (.exit i) tm hp nv
  | e, tm, hp, nv => Q e tm hp nv

theorem Ev.block {id : Nat} {c : Code} (h : Ev P lv nt ro c tm hp nv (blockQ id Q)) : Ev P lv nt ro (.block id c) tm hp nv Q := by
  refine ⟨fun w B a hs => wpIn_block (wpIn_mono (h.out w B a hs) ?_)⟩
  rintro e a' w' ⟨tm', hp', nv', B', h1, h2, h3⟩
  cases e with
  | exit i =>
    simp only [Exit.inBlock, blockQ] at h1 ⊢
    split
    · rename_i e; rw [if_pos e] at h1; exact ⟨tm', hp', nv', B', h1, h2, h3⟩
    · rename_i e; rw [if_neg e] at h1; exact ⟨tm', hp', nv', B', h1, h2, h3⟩
  | _ => exact ⟨tm', hp', nv', B', h1, h2, h3⟩
end

/-! ### Knowing less -/
/-- The second tells no more than the first. -/
inductive NEq : PV → PV → Prop
  | refl (v : PV) : NEq v v
  | undef {v : PV} (h : shapeOf v = none) : NEq v .undef
  | own {sz n : Nat} {f g : Nat → Nat → PV} (h : ∀ i o, i < n → o < sz → NEq (f i o) (g i o)) : NEq (.own sz n f) (.own sz n g)
  | obox {sz : Nat} {f g : Nat → PV} (h : ∀ o, o < sz → NEq (f o) (g o)) : NEq (.obox sz f) (.obox sz g)
  | frz {sz n : Nat} {f g : Nat → Nat → PV} (h : ∀ i o, i < n → o < sz → NEq (f i o) (g i o)) : NEq (.frz sz n f) (.frz sz n g)
  | fptr {sz o : Nat} {f g : Nat → PV} (h : ∀ o, o < sz → NEq (f o) (g o)) : NEq (.fptr sz f o) (.fptr sz g o)
  | agg {l m : List PV} (hl : l.length = m.length) (h : ∀ i, i < l.length → NEq (l.getD i .undef) (m.getD i .undef)) : NEq (.agg l) (.agg m)
  | tup {l m : List PV} (hl : l.length = m.length) (h : ∀ i, i < l.length → NEq (l.getD i .undef) (m.getD i .undef)) : NEq (.tup l) (.tup m)
  | nils {sz : Nat} {f : Nat → Nat → PV} : NEq .nils (.frz sz 0 f)
  | fcl {sz n : Nat} {f g : Nat → Nat → PV} (h : ∀ i o, i < n → o < sz → NEq (f i o) (g i o)) : NEq (.fcl sz n f) (.fcl sz n g)
  | clip {sz n : Nat} {f g : Nat → Nat → PV} (h : ∀ i o, i < n → o < sz → NEq (f i o) (g i o)) : NEq (.fcl sz n f) (.frz sz n g)
  | func {fn : Fn} {l m l' m' : List PV} (hl : l.length = m.length) (hl' : l'.length = m'.length) (h : ∀ i, i < l.length → NEq (l.getD i .undef) (m.getD i .undef)) (h' : ∀ i, i < l'.length → NEq (l'.getD i .undef) (m'.getD i .undef)) : NEq (.func fn l l') (.func fn m m')
  | iface {t : TypeId} {x y : PV} (h : NEq x y) : NEq (.iface t x) (.iface t y)

theorem NEq.at {v v' : PV} (h : NEq v v') : ∀ p s, at? v' p s ↔ at? v p s := by
  induction h with
  | refl v => exact fun _ _ => Iff.rfl
  | undef h => exact fun p s => ⟨fun k => absurd k (at_leaf rfl p s), fun k => absurd k (at_leaf h p s)⟩
  | @own sz n f g _ ih =>
    intro p s
    cases p with
    | nil => rw [at_nil, at_nil]; rfl
    | cons y p =>
      obtain ⟨i, o⟩ := y
      rw [at_cons, at_cons]
      simp only [shapeOf, cellAt, Option.some.injEq, Prod.mk.injEq, true_and]
      constructor
      · rintro ⟨sz', n', ⟨rfl, rfl⟩, h1, h2, h3⟩; exact ⟨_, _, ⟨rfl, rfl⟩, h1, h2, (ih i o h1 h2 p s).1 h3⟩
      · rintro ⟨sz', n', ⟨rfl, rfl⟩, h1, h2, h3⟩; exact ⟨_, _, ⟨rfl, rfl⟩, h1, h2, (ih i o h1 h2 p s).2 h3⟩
  | obox _ _ =>
    intro p s
    cases p with
    | nil => rw [at_nil, at_nil]; rfl
    | cons y p => exact ⟨fun h => h.1.elim, fun h => h.1.elim⟩
  | _ => exact fun p s => ⟨fun k => absurd k (at_leaf rfl p s), fun k => absurd k (at_leaf rfl p s)⟩

theorem VR.less {w : World} {B : Blocks} {v v' : PV} (hn : NEq v v') : ∀ {H : Roots} {V : Nat → Prop} {x : Value}, VR w B H V v x → VR w B H V v' x := by
  induction hn with
  | refl v => exact fun h => h
  | undef _ => exact fun _ => .undef _
  | own _ _ => intro H V x h; cases h
  | obox _ _ => intro H V x h; cases h
  | frz _ ih =>
    intro H V x h
    cases h with
    | frz h1 h2 h3 h4 => exact .frz h1 h2 h3 (fun i o hi ho => ih i o hi ho (h4 i o hi ho))
  | fptr _ ih =>
    intro H V x h
    cases h with
    | fptr h1 h2 h3 h4 h5 => exact .fptr h1 h2 h3 h4 (fun j hj => ih j hj (h5 j hj))
  | agg hl _ ih =>
    intro H V x h
    cases h with
    | agg h1 h2 => exact .agg (hl.symm.trans h1) (fun i hi => ih i (by omega) (h2 i (by omega)))
  | tup hl _ ih =>
    intro H V x h
    cases h with
    | tup h1 h2 => exact .tup (hl.symm.trans h1) (fun i hi => ih i (by omega) (h2 i (by omega)))
  | fcl _ ih =>
    intro H V x h
    cases h with
    | fcl h1 h2 h3 => exact .fcl h1 h2 (fun i o hi ho => ih i o hi ho (h3 i o hi ho))
  | clip _ ih =>
    intro H V x h
    cases h with
    | fcl h1 h2 h3 => exact .frz (Nat.le_refl _) h1 h2 (fun i o hi ho => ih i o hi ho (h3 i o hi ho))
  | func hl hl' _ _ ih ih' =>
    intro H V x h
    cases h with
    | func h1 h2 h3 h4 => exact .func (hl.symm.trans h1) (hl'.symm.trans h2) (fun i hi => ih i (by omega) (h3 i (by omega))) (fun i hi => ih' i (by omega) (h4 i (by omega)))
  | iface _ ih =>
    intro H V x h
    cases h with
    | iface h => exact .iface (ih h)
  | nils =>
    intro H V x h
    cases h
    exact .frz (g := fun _ _ => Go.undef) (Nat.le_refl _) (by omega) (fun h => by omega) (fun i o hi => by omega)

theorem TR.less {w : World} {B : Blocks} {H : Roots} {V : Nat → Prop} {r : RId} {v v' : PV} (hn : NEq v v') : ∀ {p : Path} {x : Value}, TR w B H V r p v x → TR w B H V r p v' x := by
  induction hn with
  | own _ ih =>
    intro p x h
    cases h with
    | leaf h => cases h
    | own h1 h2 h3 h4 h5 h6 h7 => exact .own h1 h2 h3 h4 h5 h6 (fun i o hi ho => ih i o hi ho (h7 i o hi ho))
    | nil h => exact .nil h
  | obox _ _ => intro p x h; cases h with | leaf h => cases h
  | refl => exact fun h => h
  | undef hs =>
    intro p x h
    cases h with
    | leaf h => exact .leaf (.undef _)
    | own => simp [shapeOf] at hs
    | nil => simp [shapeOf] at hs
  | frz h _ => intro p x h'; cases h' with | leaf h' => exact .leaf (h'.less (.frz h))
  | fptr h _ => intro p x h'; cases h' with | leaf h' => exact .leaf (h'.less (.fptr h))
  | agg hl h _ => intro p x h'; cases h' with | leaf h' => exact .leaf (h'.less (.agg hl h))
  | tup hl h _ => intro p x h'; cases h' with | leaf h' => exact .leaf (h'.less (.tup hl h))
  | nils => intro p x h'; cases h' with | leaf h' => exact .leaf (h'.less .nils)
  | fcl h _ => intro p x h'; cases h' with | leaf h' => exact .leaf (h'.less (.fcl h))
  | clip h _ => intro p x h'; cases h' with | leaf h' => exact .leaf (h'.less (.clip h))
  | func hl hl' h h2 _ _ => intro p x h'; cases h' with | leaf h' => exact .leaf (h'.less (.func hl hl' h h2))
  | iface h _ => intro p x h'; cases h' with | leaf h' => exact .leaf (h'.less (.iface h))

theorem RootOK.less {w : World} {B : Blocks} {H : Roots} {V : Nat → Prop} {r : RId} {v v' : PV} (hn : NEq v v') (h : RootOK w B H V r v) : RootOK w B H V r v' := by
  cases h with
  | own h =>
    cases hn with
    | refl => exact .own h
    | undef hs => simp [shapeOf] at hs
    | own hc => exact .own (h.less (.own hc))
  | obox h1 h2 h3 h4 =>
    cases hn with
    | refl => exact .obox h1 h2 h3 h4
    | undef hs => simp [shapeOf] at hs
    | obox hc => exact .obox h1 h2 h3 (fun o ho => (h4 o ho).less (hc o ho))
  | omap h1 h2 h3 h4 h5 h6 h7 =>
    cases hn with
    | refl => exact .omap h1 h2 h3 h4 h5 h6 h7
    | undef hs => simp [shapeOf] at hs
  | oiter h1 h2 h3 =>
    cases hn with
    | refl => exact .oiter h1 h2 h3
    | undef hs => simp [shapeOf] at hs
  | oloop h1 h2 h3 h4 =>
    cases hn with
    | refl => exact .oloop h1 h2 h3 h4
    | undef hs => simp [shapeOf] at hs

/-- A state that tells no more (roots may be gone). -/
structure Le (tm : Tm) (hp : Hp) (nv : Nat) (tm' : Tm) (hp' : Hp) (nv' : Nat) : Prop where
  tm : ∀ t, lk tm' t = .undef ∨ NEq (lk tm t) (lk tm' t)
  hp : ∀ r rt', lkH hp' r = some rt' → ∃ rt, lkH hp r = some rt ∧ rt.ver = rt'.ver ∧ NEq rt.node rt'.node
  nv : nv ≤ nv'

theorem Le.refl (tm : Tm) (hp : Hp) (nv : Nat) : Le tm hp nv tm hp nv := ⟨fun _ => .inr (.refl _), fun r rt h => ⟨rt, h, rfl, .refl _⟩, Nat.le_refl _⟩

noncomputable def keepB (hp' : Hp) (B : Blocks) : Blocks := fun r p => if r.1 = 0 ∨ (lkH hp' r).isSome then B r p else none

theorem Le.sound {nt : FS} {tm tm' : Tm} {hp hp' : Hp} {nv nv' : Nat} (h : Le tm hp nv tm' hp' nv') {w : World} {B : Blocks} {a : Act} (hs : SR nt tm hp nv w B a) :
    SR nt tm' hp' nv' w (keepB hp' B) a ∧ Mono w B (lkH hp) (· < nv) w (keepB hp' B) (lkH hp') (· < nv') := by
  have hkeep : ∀ r rt', lkH hp' r = some rt' → ∀ p, keepB hp' B r p = B r p := fun r rt' hr p => by simp [keepB, hr]
  have hsub : ∀ r p b, keepB hp' B r p = some b → B r p = some b := fun r p b h => by
    unfold keepB at h
    split at h
    · exact h
    · cases h
  have hm : Mono w B (lkH hp) (· < nv) w (keepB hp' B) (lkH hp') (· < nv') := by
    refine ⟨Nat.le_refl _, fun b _ hf => ⟨fun r p h => hf r p (hsub r p b h), rfl⟩, fun r p b h0 hb => ⟨by simp [keepB, h0, hb], rfl⟩, fun r p b hb => .inr ⟨r, p, hsub r p b hb⟩, fun _ _ h => h, fun n hn => Nat.lt_of_lt_of_le hn h.nv, fun r rt' hr => ?_, rfl, rfl, rfl⟩
    obtain ⟨rt, h1, h2, h3⟩ := h.hp r rt' hr
    exact .inr ⟨rt, h1, h2, fun p s hp => ⟨(h3.at p s).2 hp, hkeep r rt' hr p⟩⟩
  refine ⟨⟨⟨fun t => ?_, hs.tm.size, hs.tm.defers.mono hm⟩, ⟨fun r rt' hr => ?_, fun r rt' hr => ?_, fun r p b hb => ?_, fun r rt' hr => ?_, fun r p r' p' b h1 h2 => hs.hp.inj r p r' p' b (hsub _ _ _ h1) (hsub _ _ _ h2)⟩⟩, hm⟩
  · rcases h.tm t with h1 | h1
    · rw [h1]; exact .undef _
    · exact ((hs.tm.val t).mono hm).less h1
  · obtain ⟨rt, h1, h2, h3⟩ := h.hp r rt' hr
    exact ((hs.hp.root r rt h1).mono hm (fun t s _ => ⟨hkeep r rt' hr t, fun _ _ => rfl⟩)).less h3
  · obtain ⟨rt, h1, h2, h3⟩ := h.hp r rt' hr
    rw [← h2]
    exact Nat.lt_of_lt_of_le (hs.hp.ver r rt h1) h.nv
  · obtain ⟨h1, h2⟩ := hs.hp.dom r p b (hsub r p b hb)
    refine ⟨h1, ?_⟩
    by_cases h0 : r.1 = 0
    · exact .inl h0
    · obtain ⟨rt, s, h3, h4⟩ := h2.resolve_left h0
      cases hr : lkH hp' r with
      | none => simp [keepB, h0, hr] at hb
      | some rt' =>
        obtain ⟨rt2, k1, k2, k3⟩ := h.hp r rt' hr
        rw [h3] at k1
        cases k1
        exact .inr ⟨rt', s, rfl, (k3.at p s).2 h4⟩
  · obtain ⟨rt, h1, _⟩ := h.hp r rt' hr
    exact hs.hp.lev r rt h1

def LeTm (tm : Tm) : Tm → Prop
  | [] => True
  | (k, v) :: l => NEq (lk tm k) v ∧ LeTm tm l
def LeHp (hp : Hp) : Hp → Prop
  | [] => True
  | (r, x) :: l => (match lkH hp r with | some rt => rt.ver = x.ver ∧ NEq rt.node x.node | none => False) ∧ LeHp hp l

theorem Le.of {tm tm' : Tm} {hp hp' : Hp} {nv : Nat} (h1 : LeTm tm tm') (h2 : LeHp hp hp') : Le tm hp nv tm' hp' nv where
  tm := by
    induction tm' with
    | nil => intro t; exact .inl rfl
    | cons x l ih =>
      obtain ⟨k, v⟩ := x
      intro t
      simp only [lk]
      split
      · rename_i e; subst e; exact .inr h1.1
      · exact ih h1.2 t
  hp := by
    induction hp' with
    | nil => intro r rt h; simp [lkH] at h
    | cons x l ih =>
      obtain ⟨k, v⟩ := x
      intro r rt h
      simp only [lkH] at h
      split at h
      · rename_i e
        subst e
        cases h
        have := h2.1
        cases hl : lkH hp r with
        | none => simp [hl] at this
        | some rt0 => simp only [hl] at this; exact ⟨rt0, rfl, this.1, this.2⟩
      · exact ih h2.2 r rt h
  nv := Nat.le_refl _

theorem NEq.int {k : IntKind} {a b : Int} (h : a = b) : NEq (.int k a) (.int k b) := h ▸ .refl _
theorem NEq.bool {a b : Bool} (h : a = b) : NEq (.bool a) (.bool b) := h ▸ .refl _
theorem NEq.of_eq {a b : PV} (h : a = b) : NEq a b := h ▸ .refl _

theorem wrapI {n : Int} (h : -9223372036854775808 ≤ n ∧ n ≤ 9223372036854775807) : IntKind.i64.wrap n = n := by
  simp [IntKind.wrap, IntKind.bits, IntKind.signed]
  omega

section
variable {P : Program} {lv : Nat} {nt : FS} {ro : Option Nat} {tm : Tm} {hp : Hp} {nv : Nat} {Q : Post}

theorem Ev.less {c : Code} {tm' : Tm} {hp' : Hp} {nv' : Nat} (hl : Le tm hp nv tm' hp' nv') (h : Ev P lv nt ro c tm' hp' nv' Q) : Ev P lv nt ro c tm hp nv Q := by
  refine ⟨fun w B a hs => ?_⟩
  obtain ⟨h1, h2⟩ := hl.sound hs
  exact wpIn_mono (h.out w _ a h1) fun e a' w' ⟨tm2, hp2, nv2, B2, k1, k2, k3⟩ => ⟨tm2, hp2, nv2, B2, k1, k2, h2.trans k3⟩

theorem exists_least {p : Nat → Prop} (h : ∃ n, p n) : ∃ n, p n ∧ ∀ m, p m → n ≤ m := by
  obtain ⟨n, hn⟩ := h
  induction n using Nat.strongRecOn with
  | _ n ih =>
    by_cases h : ∃ m, m < n ∧ p m
    · obtain ⟨m, h1, h2⟩ := h; exact ih m h1 h2
    · exact ⟨n, hn, fun m hm => Nat.le_of_not_lt fun hlt => h ⟨m, hlt, hm⟩⟩

noncomputable def least (p : Nat → Prop) : Nat := if h : ∃ n, p n then (exists_least h).choose else 0
theorem least_spec {p : Nat → Prop} (h : ∃ n, p n) : p (least p) := by unfold least; rw [dif_pos h]; exact (exists_least h).choose_spec.1
theorem least_le {p : Nat → Prop} {n : Nat} (h : p n) : least p ≤ n := by unfold least; rw [dif_pos ⟨n, h⟩]; exact (exists_least ⟨n, h⟩).choose_spec.2 n h

theorem stepR_scope {b : Frame} {a : Act} {k : List Item} {cs : List Frame} {w : World} {c : Code} : step P (lone (b.atR a (.code (.scope c) :: k)) cs w) = .next (lone (b.atR a (.code c :: .inScope c :: k)) cs w) :=
  step_lone_go (by simp [stepG, stepG.exec, Frame.atR])
theorem stepR_inScope {b : Frame} {a : Act} {k : List Item} {cs : List Frame} {w : World} {c : Code} : step P (lone (b.atR a (.inScope c :: k)) cs w) = .next (lone (b.atR a k) cs w) :=
  step_lone_go (by simp [stepG, stepG.exec, Frame.atR])

/-- A loop: at every round's head the state is one of a family, and a measure goes down. -/
theorem Ev.loop {c : Code} {ι : Type} (tmS : ι → Tm) (hpS : ι → Hp) (μ : ι → Nat) (i0 : ι) (h0 : Le tm hp nv (tmS i0) (hpS i0) nv)
    (hr : ∀ i nv, Ev P lv nt ro c (tmS i) (hpS i) nv (thenQ (fun tm hp nv => ∃ j, Le tm hp nv (tmS j) (hpS j) nv ∧ μ j < μ i) Q)) : Ev P lv nt ro (.loop c) tm hp nv Q := by
  refine ⟨fun w B a hs => ?_⟩
  obtain ⟨g1, g2⟩ := h0.sound hs
  let at_ : Act → World → Nat → Prop := fun a' w' n => ∃ i nv' B', SR nt (tmS i) (hpS i) nv' w' B' a' ∧ Mono w B (lkH hp) (· < nv) w' B' (lkH (hpS i)) (· < nv') ∧ μ i = n
  refine wpIn_loop (fun a' w' => ∃ n, at_ a' w' n) (fun a' w' => least (at_ a' w')) ⟨_, i0, nv, _, g1, g2, rfl⟩ ?_
  intro a1 w1 hI
  obtain ⟨i, nv1, B1, h1, h2, h3⟩ := least_spec hI
  refine wpIn_mono ((hr i nv1).out w1 B1 a1 h1) ?_
  rintro e a2 w2 ⟨tm2, hp2, nv2, B2, k1, k2, k3⟩
  cases e with
  | normal =>
    obtain ⟨j, hj, hlt⟩ := k1
    obtain ⟨g1, g2⟩ := Le.sound hj k2
    have hat : at_ a2 w2 (μ j) := ⟨j, nv2, _, g1, (h2.trans k3).trans g2, rfl⟩
    exact ⟨⟨_, hat⟩, Nat.lt_of_le_of_lt (least_le hat) (h3 ▸ hlt)⟩
  | _ => exact ⟨tm2, hp2, nv2, B2, k1, k2, h2.trans k3⟩

/-- A scope with a label, to which code jumps back. -/
theorem Ev.scope {c rest : Code} {ι : Type} (l : Nat) (hf : findLabel c l = some rest) (tmS : ι → Tm) (hpS : ι → Hp) (μ : ι → Nat)
    (first : Ev P lv nt ro c tm hp nv fun e tm hp nv => match e with | .goto l' => l' = l ∧ ∃ j, Le tm hp nv (tmS j) (hpS j) nv | e => Q e tm hp nv)
    (pass : ∀ i nv, Ev P lv nt ro rest (tmS i) (hpS i) nv fun e tm hp nv => match e with | .goto l' => l' = l ∧ ∃ j, Le tm hp nv (tmS j) (hpS j) nv ∧ μ j < μ i | e => Q e tm hp nv) :
    Ev P lv nt ro (.scope c) tm hp nv Q := by
  refine ⟨fun w B a hs b k cs hro hb hroom => ?_⟩
  have hg : gotoIn l (.inScope c :: k) = some (.code rest :: .inScope c :: k) := by simp [gotoIn, hf]
  have room : ∀ n, (Wd ro).room n := fun n _ h => by simp [Wd, Fence.wide] at h
  have hfn : ∀ f, (Wd ro).fn f := fun _ => trivial
  have post : ∀ (e : Exit) (tm1 : Tm) (hp1 : Hp) (nv1 : Nat) (w1 : World) (B1 : Blocks) (a1 : Act), True := fun _ _ _ _ _ _ _ => trivial
  -- what a way out of the code gives, behind the scope
  have out : ∀ (m : Machine) (e : Exit) (a' : Act) (w' : World), (∀ t, e ≠ .goto t) → ArrivesIn (Machine.fenced P (Wd ro)) P m b (.inScope c :: k) cs e a' w' → ArrivesIn (Machine.fenced P (Wd ro)) P m b k cs e a' w' := by
    intro m e a' w' hne harr
    cases e with
    | normal => exact harr.trans (.one (fenced_calm (n := 0) hb (room _) rfl) (stepR_inScope (b := b)))
    | exit id => exact ⟨fun k' hk => harr.1 k' (by simp [exitTo, hk]), fun hr hk => harr.2 hr (by simp [exitTo, hk])⟩
    | goto t => exact absurd rfl (hne t)
    | ret => exact harr
    | panic ch => exact harr
    | outgrown => exact harr
  have key : ∀ n i nv1 w1 B1 a1, μ i = n → SR nt (tmS i) (hpS i) nv1 w1 B1 a1 → Mono w B (lkH hp) (· < nv) w1 B1 (lkH (hpS i)) (· < nv1) →
      ∃ e a' w', (∃ tm' hp' nv' B', Q e tm' hp' nv' ∧ SR nt tm' hp' nv' w' B' a' ∧ Mono w B (lkH hp) (· < nv) w' B' (lkH hp') (· < nv')) ∧
        ArrivesIn (Machine.fenced P (Wd ro)) P (lone (b.atR a1 (.code rest :: .inScope c :: k)) cs w1) b k cs e a' w' := by
    intro n
    induction n using Nat.strongRecOn with
    | _ n ih =>
      intro i nv1 w1 B1 a1 hn hs1 hm1
      obtain ⟨e, a2, w2, ⟨tm2, hp2, nv2, B2, hq, hs2, hm2⟩, harr⟩ := (pass i nv1).out w1 B1 a1 hs1 b (.inScope c :: k) cs hro (hfn _) (room _)
      cases e with
      | goto t =>
        obtain ⟨rfl, j, hj, hlt⟩ := hq
        obtain ⟨g1, g2⟩ := hj.sound hs2
        obtain ⟨e3, a3, w3, h3, harr3⟩ := ih (μ j) (by omega) j nv2 w2 _ a2 rfl g1 ((hm1.trans hm2).trans g2)
        exact ⟨e3, a3, w3, h3, .of_steps (harr.1 _ hg) harr3⟩
      | _ => exact ⟨_, a2, w2, ⟨tm2, hp2, nv2, B2, hq, hs2, hm1.trans hm2⟩, out _ _ _ _ (by simp) harr⟩
  obtain ⟨e, a2, w2, ⟨tm2, hp2, nv2, B2, hq, hs2, hm2⟩, harr⟩ := first.out w B a hs b (.inScope c :: k) cs hro (hfn _) (room _)
  have hstep : StepsIn (Machine.fenced P (Wd ro)) P (lone (b.atR a (.code (.scope c) :: k)) cs w) (lone (b.atR a (.code c :: .inScope c :: k)) cs w) := .one (fenced_calm (n := 0) hb (room _) rfl) (stepR_scope (b := b))
  cases e with
  | goto t =>
    obtain ⟨rfl, j, hj⟩ := hq
    obtain ⟨g1, g2⟩ := hj.sound hs2
    obtain ⟨e3, a3, w3, h3, harr3⟩ := key (μ j) j nv2 w2 _ a2 rfl g1 (hm2.trans g2)
    exact ⟨e3, a3, w3, h3, .of_steps (hstep.trans (harr.1 _ hg)) harr3⟩
  | _ => exact ⟨_, a2, w2, ⟨tm2, hp2, nv2, B2, hq, hs2, hm2⟩, .of_steps hstep (out _ _ _ _ (by simp) harr)⟩
end
end Go.Ab
namespace Go.Ab
open Classical

def params : Nat → List PV → Tm
  | _, [] => []
  | i, x :: l => (i, x) :: params (i + 1) l

theorem lk_params (l : List PV) : ∀ (k t : Nat), lk (params k l) t = if k ≤ t ∧ t < k + l.length then l.getD (t - k) .undef else .undef := by
  induction l with
  | nil => intro k t; simp [params, lk]
  | cons x l ih =>
    intro k t
    simp only [params, lk, ih, List.length_cons]
    by_cases h : t = k
    · subst h; simp
    · rw [if_neg h]
      by_cases h2 : k + 1 ≤ t ∧ t < k + 1 + l.length
      · rw [if_pos h2, if_pos (by omega)]
        obtain ⟨d, hd⟩ : ∃ d, t - k = d + 1 := ⟨t - k - 1, by omega⟩
        rw [hd, show t - (k + 1) = d by omega]
        rfl
      · rw [if_neg h2, if_neg (by omega)]

def A.bind : A → (PV → A) → A
  | .ret x, f => f x
  | @A.vc p d k, f => @A.vc p d (k.bind f)
  | .hyp p k, f => .hyp p (k.bind f)
  | .rd r k, f => .rd r fun x => (k x).bind f
  | .wr r x k, f => .wr r x (k.bind f)
  | .any k, f => .any fun b => (k b).bind f
  | @A.dec p d k, f => @A.dec p d fun b => (k b).bind f
  | .opt o k, f => .opt o fun b => (k b).bind f
  | .all p k, f => .all p fun b => (k b).bind f
  | .fail, _ => .fail

theorem A.wp_bind (a : A) (f : PV → A) (h : Hp) (K : PV → Hp → Prop) : (a.bind f).wp h K ↔ a.wp h fun x h' => (f x).wp h' K := by
  induction a generalizing h with
  | ret x => exact Iff.rfl
  | vc p k ih => simp only [A.bind, A.wp, ih]
  | hyp p k ih => simp only [A.bind, A.wp, ih]
  | rd r k ih => simp only [A.bind, A.wp, ih]
  | wr r x k ih => simp only [A.bind, A.wp, ih]
  | any k ih => simp only [A.bind, A.wp, ih]
  | dec p k ih => simp only [A.bind, A.wp, ih]
  | opt o k ih => simp only [A.bind, A.wp, ih]
  | all p k ih => simp only [A.bind, A.wp, ih]
  | fail => exact Iff.rfl

def resA (P : Program) (tm : Tm) : List ResultVar → (List PV → A) → A
  | [], k => k []
  | .tmp t :: l, k => opnd tm (.tmp t) fun v => resA P tm l fun vs => k (v :: vs)
  | .cell a t :: l, k => opnd tm (.tmp a) fun p => (loadA P t p).bind fun v => resA P tm l fun vs => k (v :: vs)

def resultsA (P : Program) (tm : Tm) (l : List ResultVar) : A := resA P tm l fun vs => match vs with
  | [v] => .ret v
  | vs => .ret (.tup vs)

def resSem (tmps : Array Value) : ResultVar → Sem Value
  | .tmp t => pure (tmps.getD t Go.undef)
  | .cell b t => do loadVar t (← asAddr (tmps.getD b Go.undef))

theorem results_eq (fn : Func) (tmps : Array Value) : results fn tmps = (do
  let vs ← fn.results.mapM (resSem tmps)
  pure (if h : vs.size = 1 then vs[0] else .tuple vs)) := rfl

theorem resA_real {P : Program} {nt : FS} {w : World} {B : Blocks} {tm : Tm} {hp : Hp} {V : Nat → Prop} {a : Act} (hr : HR w B (lkH hp) V) (ht : TmR w B (lkH hp) V nt tm a) {K : PV → Hp → Prop} :
    ∀ (l : List ResultVar) {k : List PV → A}, (resA P tm l k).wp hp K →
      ∃ vs cs, (l.mapM (resSem a.tmps)).run P w = .ok cs w ∧ LR w B (lkH hp) V vs cs.toArray ∧ (k vs).wp hp K := by
  intro l
  induction l with
  | nil => intro k h; exact ⟨[], [], by simp, ⟨by simp, fun i hi => by simp at hi⟩, h⟩
  | cons r l ih =>
    intro k h
    have cons : ∀ (v : PV) (x : Value) (vs : List PV) (cs : List Value), VR w B (lkH hp) V v x → LR w B (lkH hp) V vs cs.toArray → LR w B (lkH hp) V (v :: vs) (x :: cs).toArray := by
      intro v x vs cs hv hl
      refine ⟨by have := hl.len; simp at this; simp [this], fun i hi => ?_⟩
      cases i with
      | zero => simpa using hv
      | succ i =>
        have := hl.val i (by simpa using hi)
        simpa [List.getD_eq_getElem?_getD, Array.getD_eq_getD_getElem?] using this
    have hop : ∀ (t : Nat) {k' : PV → A}, (opnd tm (.tmp t) k').wp hp K → ∃ v, VR w B (lkH hp) V v (a.tmps.getD t Go.undef) ∧ (k' v).wp hp K := by
      intro t k' h
      unfold opnd at h
      have he := ht.ev (.tmp t)
      split at h
      · rename_i g g' v e
        rw [e] at he
        obtain ⟨⟨hg, hg'⟩, hk⟩ := h
        cases he with
        | whn he _ =>
          cases he hg with
          | whn he' _ => exact ⟨v, he' hg', hk⟩
      · rename_i g v _ e
        rw [e] at he
        obtain ⟨hg, hk⟩ := h
        cases he with
        | whn he _ => exact ⟨v, he hg, hk⟩
      · exact ⟨_, he, h⟩
    cases r with
    | tmp t =>
      obtain ⟨v, hv, h⟩ := hop t h
      obtain ⟨vs, cs, h1, h2, h3⟩ := ih h
      refine ⟨v :: vs, _ :: cs, ?_, cons _ _ _ _ hv h2, h3⟩
      rw [List.mapM_cons]
      simp only [Sem.run_bind, resSem, Sem.run_pure, Result.andThen_ok, h1]
    | cell b t =>
      obtain ⟨p, hp', h⟩ := hop b h
      rw [A.wp_bind] at h
      obtain ⟨v, x, h1, h2, h3⟩ := load_pure hr t hp' _ h
      obtain ⟨vs, cs, g1, g2, g3⟩ := ih h2
      refine ⟨x :: vs, v :: cs, ?_, cons _ _ _ _ h3 g2, g3⟩
      have hlv : (do loadVar t (← asAddr (a.tmps.getD b Go.undef)) : Sem Value).run P w = .ok v w := by
        simp only [Instr.loadAt] at h1
        cases hx : a.tmps.getD b Go.undef <;> rw [hx] at h1 <;> simp [Instr.sureAddr] at h1
        rename_i o
        cases o with
        | none => simp [Instr.sureAddr] at h1
        | some ad => simpa [asAddr, Instr.sureAddr] using h1
      rw [List.mapM_cons]
      simp only [Sem.run_bind, resSem] at hlv ⊢
      rw [hlv]
      simp only [Result.andThen_ok, g1, Sem.run_pure]

theorem results_real {P : Program} {fn : Func} {nt : FS} {w : World} {B : Blocks} {tm : Tm} {hp : Hp} {V : Nat → Prop} {a : Act} (hr : HR w B (lkH hp) V) (ht : TmR w B (lkH hp) V nt tm a) {K : PV → Hp → Prop}
    (h : (resultsA P tm fn.results.toList).wp hp K) : ∃ v x, (results fn a.tmps).run P w = .ok v w ∧ K x hp ∧ VR w B (lkH hp) V x v := by
  obtain ⟨vs, cs, h1, h2, h3⟩ := resA_real hr ht _ h
  have hrun : (results fn a.tmps).run P w = .ok (if h : cs.toArray.size = 1 then cs.toArray[0] else .tuple cs.toArray) w := by
    rw [results_eq]
    simp only [Sem.run_bind]
    have : (fn.results.mapM (resSem a.tmps)).run P w = .ok cs.toArray w := by
      rw [Array.mapM_eq_mapM_toList]
      simp only [Sem.run_map]
      rw [h1]
      rfl
    rw [this]
    rfl
  split at h3
  · rename_i v
    have hl : cs.toArray.size = 1 := by rw [← h2.len]; rfl
    rw [dif_pos hl] at hrun
    refine ⟨_, v, hrun, h3, ?_⟩
    have := h2.val 0 (by simp)
    simpa [Array.getD_eq_getD_getElem?, hl] using this
  · rename_i hne
    have hl : cs.toArray.size ≠ 1 := by
      intro hl
      rw [← h2.len] at hl
      match vs, hl with
      | [v], _ => exact hne v rfl
    rw [dif_neg hl] at hrun
    exact ⟨_, _, hrun, h3, .tup h2.len h2.val⟩

/-- What a body must end in. -/
def bodyQ (P : Program) (rs : List ResultVar) (R : PV → Hp → Nat → Prop) : Post
  | .normal, tm, hp, nv | .ret, tm, hp, nv => (resultsA P tm rs).wp hp fun x hp' => R x hp' nv
  | _, _, _, _ => False

theorem start_tm {nt : FS} {w : World} {B : Blocks} {H : Roots} {V : Nat → Prop} {args : List PV} {cs : Array Value} (ha : LR w B H V args cs) (hn : args.length ≤ nt) (hlo : nt.lo ≤ w.heap.size) :
    TmR w B H V nt (params 0 args) { tmps := cs ++ Array.replicate (nt - cs.size) Go.undef, defers := [] } where
  val t := by
    rw [lk_params]
    by_cases h : 0 ≤ t ∧ t < 0 + args.length
    · rw [if_pos h]
      have hlt : t < cs.size := by rw [← ha.len]; omega
      have := ha.val t (by omega)
      simpa [Array.getD_eq_getD_getElem?, Array.getElem?_append, hlt] using this
    · rw [if_neg h]; exact .undef _
  size := by have := ha.len; simp; omega
  defers := .nil hlo

/-! ### The marks are taken -/
open Go.ChangeMaps (setBlock)
def takeB (w : World) (bs : List Nat) : World := bs.foldl (fun w b => setBlock w b (.deferred none)) w

theorem takeB_size (w : World) (bs : List Nat) : (takeB w bs).heap.size = w.heap.size := by
  induction bs generalizing w with
  | nil => rfl
  | cons b bs ih => exact (ih (setBlock w b (.deferred none))).trans (by simp [setBlock])

theorem takeB_ne {bs : List Nat} {k : Nat} : ∀ {w : World}, k ∉ bs → (takeB w bs).heap[k]? = w.heap[k]? := by
  induction bs with
  | nil => intro w _; rfl
  | cons b bs ih =>
    intro w h
    simp only [List.mem_cons, not_or] at h
    exact (ih h.2).trans (setBlock_ne _ h.1)

theorem takeB_eq (w : World) (bs : List Nat) : (takeB w bs).os = w.os ∧ (takeB w bs).tape = w.tape ∧ (takeB w bs).output = w.output := by
  induction bs generalizing w with
  | nil => exact ⟨rfl, rfl, rfl⟩
  | cons b bs ih => exact ih (setBlock w b (.deferred none))

theorem leaves_marks {F : Fence} {n : Nat} {P : Program} {fn : Func} {tmps : Array Value} {R : Ending → World → Prop} : ∀ (bs : List Nat) (w : World), bs.Nodup → (∀ b ∈ bs, w.heap[b]? = some (.deferred (some []))) →
    (∃ v, (results fn tmps).run P (takeB w bs) = .ok v (takeB w bs) ∧ R (.returned v) (takeB w bs)) → LeavesInM F n P fn tmps R (bs.map fun b => ⟨.collected b, #[]⟩) .returning w := by
  intro bs
  induction bs with
  | nil => intro w _ _ h; exact h
  | cons b bs ih =>
    intro w hnd hb h
    rw [List.nodup_cons] at hnd
    refine ⟨by simp, .inl ⟨b, setBlock w b (.deferred none), rfl, ?_, ih _ hnd.2 (fun c hc => ?_) h⟩⟩
    · have h1 := hb b (by simp)
      have hg : (getObj b).run P w = .ok (.deferred (some [])) w := by simp only [getObj, Sem.run, h1]
      have hs : (setObj b (.deferred none)).run P w = .ok () (setBlock w b (.deferred none)) := by simp only [setObj, Sem.run, h1, setBlock]
      simp [Instr.takeDeferred, hg, hs]
    · rw [setBlock_ne _ (fun e : c = b => hnd.1 (e ▸ hc))]
      exact hb c (by simp [hc])

/-- The marks taken: nothing else turns. -/
theorem take_turn {w0 w : World} {B0 B : Blocks} {H0' H : Roots} {V0' V : Nat → Prop} {bs : List Nat} (hr : HR w B H V) (hm : Mono w0 B0 H0' V0' w B H V) (hb : ∀ b ∈ bs, w0.heap.size ≤ b ∧ free B b ∧ w.heap[b]? = some (.deferred (some []))) :
    Turn w B H V (takeB w bs) B H V ∧ HR (takeB w bs) B H V ∧ Mono w0 B0 H0' V0' (takeB w bs) B H V := by
  have hshape : ∀ b s, w.shape? b = some s → (takeB w bs).shape? b = some s := fun b s hs => by
    by_cases h : b ∈ bs
    · simp only [World.shape?, (hb b h).2.2] at hs
      cases hs
    · simp only [World.shape?] at hs ⊢
      rw [takeB_ne h]
      exact hs
  have ht : Turn w B H V (takeB w bs) B H V := by
    refine ⟨by rw [takeB_size]; exact Nat.le_refl _, fun b hlt hf => ⟨hf, ?_⟩, hshape, fun _ h => h, fun r rt h => .inr ⟨rt, h, rfl, fun _ _ h => ⟨h, rfl⟩⟩⟩
    by_cases h : b ∈ bs
    · exact .inr ⟨_, (hb b h).2.2⟩
    · exact .inl (takeB_ne h)
  have hown : ∀ r p b, B r p = some b → (takeB w bs).heap[b]? = w.heap[b]? := fun r p b h => takeB_ne fun hm => (hb b hm).2.1 r p h
  refine ⟨ht, ⟨fun r rt h => (hr.root r rt h).turn ht (fun t s _ => ⟨rfl, fun b h => hown _ _ _ h⟩), hr.ver, fun r p b h => ?_, hr.lev, hr.inj⟩, ?_⟩
  · obtain ⟨h1, h2⟩ := hr.dom r p b h
    exact ⟨by rw [takeB_size]; exact h1, h2⟩
  · refine ⟨by rw [takeB_size]; exact hm.size, fun b hlt hf => ?_, fun r p b h0 h => ?_, hm.fresh, fun b s hs => hshape b s (hm.shape b s hs), hm.vers, hm.root, ?_, ?_, ?_⟩
    · obtain ⟨h1, h2⟩ := hm.free b hlt hf
      exact ⟨h1, (takeB_ne fun hx => by have := (hb b hx).1; omega).trans h2⟩
    · obtain ⟨h1, h2⟩ := hm.foreign r p b h0 h
      exact ⟨h1, (hown _ _ _ h1).trans h2⟩
    · exact (takeB_eq w bs).1.trans hm.os
    · exact (takeB_eq w bs).2.1.trans hm.tape
    · exact (takeB_eq w bs).2.2.trans hm.output

/-- The body, walked with the caller's roots beside it. -/
theorem body_calls {P : Program} {f : FuncId} {fn : Func} {c : Code} {lv nt : Nat} {rs : Array ResultVar} {hp : Hp} {nv : Nat} {args : List PV} {R : PV → Hp → Nat → Prop} (hf : P.funcs[f]? = some fn) (hb : fn.body = some c) (hnt : fn.ntmps = nt) (hrs : fn.results = rs) (hn : args.length ≤ nt)
    (h : ∀ lo, Ev P lv ⟨nt, lo⟩ none c (params 0 args) hp nv (bodyQ P rs.toList R)) {w : World} {B : Blocks} {cs : Array Value} (hr : HR w B (lkH hp) (· < nv)) (ha : LR w B (lkH hp) (· < nv) args cs) :
    Calls P f cs w fun e w' => ∃ v x hp' nv' B', e = .returned v ∧ R x hp' nv' ∧ VR w' B' (lkH hp') (· < nv') x v ∧ HR w' B' (lkH hp') (· < nv') ∧ Mono w B (lkH hp) (· < nv) w' B' (lkH hp') (· < nv') := by
  subst hnt hrs
  refine callsIn_wide.1 (callsIn_of_wp_marks (n := 0) hf hb trivial (wpIn_mono ((h w.heap.size).out w B _ ⟨start_tm (nt := ⟨fn.ntmps, w.heap.size⟩) ha hn (Nat.le_refl _), hr⟩) ?_))
  rintro e a' w' ⟨tm', hp', nv', B', h1, h2, h3⟩
  have fin : (resultsA P tm' fn.results.toList).wp hp' (fun x hp'' => R x hp'' nv') → LeavesInM Fence.wide 0 P fn a'.tmps (fun e w' => ∃ v x hp' nv' B', e = .returned v ∧ R x hp' nv' ∧ VR w' B' (lkH hp') (· < nv') x v ∧ HR w' B' (lkH hp') (· < nv') ∧ Mono w B (lkH hp) (· < nv) w' B' (lkH hp') (· < nv')) a'.defers .returning w' := by
    intro hk
    obtain ⟨_, bs, e1, e2, e3⟩ := h2.tm.defers
    obtain ⟨ht, hr', hm'⟩ := take_turn h2.hp h3 e3
    have ht2 : TmR (takeB w' bs) B' (lkH hp') (· < nv') ⟨fn.ntmps, 0⟩ tm' { tmps := a'.tmps, defers := [] } := ⟨fun t => (h2.tm.val t).turn ht, h2.tm.size, .nil (Nat.zero_le _)⟩
    obtain ⟨v, x, g1, g2, g3⟩ := results_real hr' ht2 hk
    rw [e1]
    exact leaves_marks bs w' e2 (fun b hb => (e3 b hb).2.2) ⟨v, g1, v, x, hp', nv', B', rfl, g2, g3, hr', hm'⟩
  cases e with
  | normal => exact fin h1
  | ret => exact fin h1
  | _ => exact h1.elim

noncomputable def base0 (B : Blocks) : Blocks := fun r p => if r.1 = 0 then B r p else none

/-- A contract that answers with data. -/
theorem callsF_of {P : Program} {f : FuncId} {fn : Func} {c : Code} {nt : Nat} {rs : Array ResultVar} {args : List PV} {res : PV} (he : Enters P f) (hf : P.funcs[f]? = some fn) (hb : fn.body = some c) (hnt : fn.ntmps = nt) (hrs : fn.results = rs) (hn : args.length ≤ nt)
    (h : ∀ lo, Ev P 1 ⟨nt, lo⟩ none c (params 0 args) [] 0 (bodyQ P rs.toList fun x hp nv => NEq (view 9 hp x) res)) : CallsF P f args res := by
  refine ⟨he, fun w B cs hr ha => ?_⟩
  have hr' : HR w B (lkH []) (· < 0) := ⟨fun r rt h => (by simp [lkH] at h), fun r rt h => (by simp [lkH] at h), fun r p b h => by
    obtain ⟨h1, h2⟩ := hr.dom r p b h
    exact ⟨h1, h2.imp (fun h => h) (fun ⟨rt, s, h, _⟩ => by cases h)⟩, fun r rt h => (by simp [lkH] at h), hr.inj⟩
  have ha' : LR w B (lkH []) (· < 0) args cs := ha.turn fun x v _ hv => hv.lift (fun _ _ _ h => h)
  refine (body_calls hf hb hnt hrs hn h hr' ha').mono fun e w' he => ?_
  obtain ⟨v, x, hp', nv', B', rfl, hx, hv, hr2, hm⟩ := he
  have hsub : ∀ r p b, base0 B' r p = some b → B' r p = some b ∧ r.1 = 0 := fun r p b h => by
    unfold base0 at h
    split at h
    · exact ⟨h, by assumption⟩
    · cases h
  refine ⟨v, base0 B', rfl, ?_, ⟨hm.size, fun b hb hfr => ⟨fun r p h => (hm.free b hb hfr).1 r p (hsub r p b h).1, (hm.free b hb hfr).2⟩, fun r p b h0 h => ⟨by simp [base0, h0, (hm.foreign r p b h0 h).1], (hm.foreign r p b h0 h).2⟩,
    fun r p b h => hm.fresh r p b (hsub r p b h).1, hm.shape, fun _ h => h, fun r rt h => (by simp [H0] at h), hm.os, hm.tape, hm.output⟩⟩
  exact ((VR.view hr2 (Bc := base0 B') (fun b _ hfr r p h => hfr r p (hsub r p b h).1) (fun r p b h0 h r' p' h' => h0 ((hr2.inj _ _ _ _ _ h (hsub _ _ _ h').1).1 ▸ (hsub _ _ _ h').2)) 9).1 x v hv).less hx

/-- A contract on roots of the caller's. -/
theorem callsA_of {P : Program} {f : FuncId} {fn : Func} {c : Code} {lv nt : Nat} {rs : Array ResultVar} {hp : Hp} {nv : Nat} {args : List PV} {R : PV → Hp → Nat → Prop} (he : Enters P f) (hf : P.funcs[f]? = some fn) (hb : fn.body = some c) (hnt : fn.ntmps = nt) (hrs : fn.results = rs) (hn : args.length ≤ nt)
    (h : ∀ lo, Ev P lv ⟨nt, lo⟩ none c (params 0 args) hp nv (bodyQ P rs.toList fun x hp' nv' => ∃ tm2 hp2, R (lk tm2 0) hp2 nv' ∧ Le [(0, x)] hp' nv' tm2 hp2 nv')) : CallsA P f args hp nv R := by
  refine ⟨he, fun w B cs hr ha => ?_⟩
  refine (body_calls hf hb hnt hrs hn h hr ha).mono fun e w' he => ?_
  obtain ⟨v, x, hp', nv', B', rfl, ⟨tm2, hp2, hR, hle⟩, hv, hr2, hm⟩ := he
  have hs : SR ⟨1, 0⟩ [(0, x)] hp' nv' w' B' { tmps := #[v], defers := [] } := ⟨⟨fun t => by
    simp only [lk]
    split
    · rename_i h0; subst h0; simpa using hv
    · exact .undef _, rfl, .nil (Nat.zero_le _)⟩, hr2⟩
  obtain ⟨g1, g2⟩ := hle.sound hs
  have := g1.tm.val 0
  exact ⟨v, _, lk tm2 0, hp2, nv', rfl, hR, by simpa using this, g1.hp, hm.trans g2⟩
end Go.Ab
namespace Go.Ab
open Classical

/-- A small program's outcome, with roots that it may not look at, and roots that it may write. -/
def A.ok (fb ow : RId → Prop) : A → Roots → PV → Roots → Prop
  | .ret x, H, v, H' => v = x ∧ H' = H
  | @A.vc p _ k, H, v, H' => p ∧ A.ok fb ow k H v H'
  | .hyp _ k, H, v, H' => A.ok fb ow k H v H'
  | .rd r k, H, v, H' => ¬ fb r ∧ A.ok fb ow (k (H r)) H v H'
  | .wr r x k, H, v, H' => ow r ∧ A.ok fb ow k (fun j => if j = r then x else H j) v H'
  | .any _, _, _, _ => False
  | @A.dec p d k, H, v, H' => A.ok fb ow (k (@decide p d)) H v H'
  | .opt o k, H, v, H' => A.ok fb ow (k o) H v H'
  | .all .., _, _, _ => False
  | .fail, _, _, _ => False

theorem A.ok_wp {fb ow : RId → Prop} {a : A} {hp : Hp} {v : PV} {H' : Roots} (h : a.ok fb ow (lkH hp) v H') {K : PV → Hp → Prop} (hk : ∀ hp', lkH hp' = H' → K v hp') : a.wp hp K := by
  induction a generalizing hp with
  | ret x => obtain ⟨rfl, rfl⟩ := h; exact hk hp rfl
  | vc p k ih => exact ⟨h.1, ih h.2⟩
  | hyp p k ih => exact fun _ => ih h
  | rd r k ih => exact ih _ h.2
  | wr r x k ih =>
    refine ih (hp := setH hp r x) ?_
    have : (lkH (setH hp r x)) = fun j => if j = r then x else lkH hp j := funext fun j => lookH_setH hp r j x
    rw [this]
    exact h.2
  | any k ih => exact h.elim
  | dec p k ih => exact ih _ h
  | opt o k ih => exact ih _ h
  | all p k ih => exact h.elim
  | fail => exact h.elim

/-- What may have changed, in two runs alike. -/
def Chg (ow : RId → Prop) (H H1 H' H1' : Roots) : Prop :=
  (∀ r, ¬ ow r → H1 r = H r ∧ H1' r = H' r) ∧ ∀ r, ow r → (H1 r = H r ∧ H1' r = H' r) ∨ H1 r = H1' r

theorem A.ok_frame {fb ow : RId → Prop} {a : A} {H H1 : Roots} {v : PV} (h : a.ok fb ow H v H1) {H' : Roots} (hag : ∀ r, ¬ fb r → H r = H' r) :
    ∃ H1', a.ok fb ow H' v H1' ∧ Chg ow H H1 H' H1' := by
  induction a generalizing H H' with
  | ret x => obtain ⟨rfl, rfl⟩ := h; exact ⟨H', ⟨rfl, rfl⟩, fun r _ => ⟨rfl, rfl⟩, fun r _ => .inl ⟨rfl, rfl⟩⟩
  | vc p k ih => obtain ⟨H1', h1, h2⟩ := ih h.2 hag; exact ⟨H1', ⟨h.1, h1⟩, h2⟩
  | hyp p k ih => exact ih h hag
  | rd r k ih =>
    obtain ⟨h1, h2⟩ := h
    obtain ⟨H1', h3, h4⟩ := ih _ h2 hag
    exact ⟨H1', ⟨h1, by rw [← hag r h1]; exact h3⟩, h4⟩
  | wr r x k ih =>
    obtain ⟨h1, h2⟩ := h
    obtain ⟨H1', h3, h4⟩ := ih h2 (H' := fun j => if j = r then x else H' j) (fun j hj => by simp only [hag j hj])
    refine ⟨H1', ⟨h1, h3⟩, fun j hj => ?_, fun j hj => ?_⟩
    · have hne : j ≠ r := fun e => hj (e ▸ h1)
      have := h4.1 j hj
      simpa [hne] using this
    · rcases h4.2 j hj with h5 | h5
      · by_cases e : j = r
        · subst e; simp only [if_true] at h5; exact .inr (h5.1.trans h5.2.symm)
        · simp only [e, if_false] at h5; exact .inl h5
      · exact .inr h5
  | any k ih => exact h.elim
  | dec p k ih => exact ih _ h hag
  | opt o k ih => exact ih _ h hag
  | all p k ih => exact h.elim
  | fail => exact h.elim

/-- Neither reads nor writes. -/
def A.pure : A → Prop
  | .ret _ => True
  | @A.vc _ _ k => A.pure k
  | .hyp _ k => A.pure k
  | .rd .. => False
  | .wr .. => False
  | .any _ => False
  | @A.dec _ _ k => ∀ b, A.pure (k b)
  | .opt _ k => ∀ o, A.pure (k o)
  | .all .. => False
  | .fail => True

theorem A.ok_pure {fb ow : RId → Prop} {a : A} (hp : a.pure) {H H1 : Roots} {v : PV} (h : a.ok fb ow H v H1) : H1 = H ∧ ∀ fb' ow' H', a.ok fb' ow' H' v H' := by
  induction a with
  | ret x => obtain ⟨rfl, rfl⟩ := h; exact ⟨rfl, fun _ _ _ => ⟨rfl, rfl⟩⟩
  | vc p k ih => obtain ⟨h1, h2⟩ := ih hp h.2; exact ⟨h1, fun fb' ow' H' => ⟨h.1, h2 fb' ow' H'⟩⟩
  | hyp p k ih => exact ih hp h
  | rd r k ih => exact hp.elim
  | wr r x k ih => exact hp.elim
  | any k ih => exact h.elim
  | dec p k ih => exact ih _ (hp _) h
  | opt o k ih => exact ih _ (hp _) h
  | all p k ih => exact h.elim
  | fail => exact h.elim

/-- Roots of the same shape. -/
def Shp (H H' : Roots) : Prop := ∀ r, match H r, H' r with
  | none, none => True
  | some a, some b => a.ver = b.ver ∧ ∀ p, shapeOf (getAt a.node p) = shapeOf (getAt b.node p)
  | _, _ => False

theorem Shp.refl (H : Roots) : Shp H H := fun r => by cases H r <;> simp
theorem Shp.symm {H H' : Roots} (h : Shp H H') : Shp H' H := fun r => by
  have := h r
  cases h1 : H r <;> cases h2 : H' r <;> simp_all

/-- Looks at shapes only, and writes nothing. -/
def A.shp (a : A) : Prop := ∀ fb ow H v H1, a.ok fb ow H v H1 → H1 = H ∧ ∀ H', Shp H H' → a.ok fb ow H' v H'

theorem A.pure.shp {a : A} (h : a.pure) : a.shp := fun _ _ _ _ _ h1 => ⟨(A.ok_pure h h1).1, fun H' _ => (A.ok_pure h h1).2 _ _ H'⟩

/-- Writes that leave shapes. -/
def A.mild (a : A) : Prop := ∀ fb ow H v H1, a.ok fb ow H v H1 → Shp H H1

/-! ### The operations' kinds -/
/-- 0: pure; 1: looks at shapes; 2: reads, and may make a root; 3: writes into roots; 4: whatever else. -/
def kindOf : Op → Nat
  | .move _ | .assign _ | .pick .. | .unOp .. | .extract .. | .makeFunc .. | .convert .. | .field .. | .index .. => 0
  | .binOp op .. => if isEq op then 1 else 0
  | .indexAddr .. | .fieldAddr .. | .nilCheck _ | .slice .. => 1
  | .store .. => 3
  | _ => 2

/-- May it make a root? -/
def makes : Op → Bool
  | .alloc _ | .box .. | .buildSlice .. | .makeSlice .. | .call _ | .makeMap .. => true
  | _ => false

theorem opnd_pure {tm : Tm} {x : Operand} {k : PV → A} (h : ∀ v, (k v).pure) : (opnd tm x k).pure := by
  unfold opnd; split
  · exact h _
  · exact h _
  · exact h _
theorem opnds_pure {tm : Tm} {l : List Operand} {k : List PV → A} (h : ∀ v, (k v).pure) : (opnds tm l k).pure := by
  induction l generalizing k with
  | nil => exact h _
  | cons x l ih => exact opnd_pure fun v => ih fun vs => h _
theorem opnd_shp {tm : Tm} {x : Operand} {k : PV → A} (h : ∀ v, (k v).shp) : (opnd tm x k).shp := by
  unfold opnd; split
  · rename_i g g' v _
    exact fun fb ow H v' H1 hk => ⟨(h v fb ow H v' H1 hk.2).1, fun H' hs => ⟨hk.1, (h v fb ow H v' H1 hk.2).2 H' hs⟩⟩
  · rename_i g v _ _
    exact fun fb ow H v' H1 hk => ⟨(h v fb ow H v' H1 hk.2).1, fun H' hs => ⟨hk.1, (h v fb ow H v' H1 hk.2).2 H' hs⟩⟩
  · exact h _

theorem binA_pure (op : BinOp) (x y : PV) : (binA op x y).pure := by
  unfold binA
  split <;> (try split) <;> simp [A.pure]
theorem unA_pure (op : UnOp) (x : PV) : (unA op x).pure := by
  unfold unA
  repeat' split
  all_goals first | trivial | simp [A.pure]
theorem pickA_pure (c x y : PV) : (pickA c x y).pure := by
  unfold pickA pickA0
  repeat' split
  all_goals simp [A.pure]
theorem extractA_pure (i : Nat) (x : PV) : (extractA i x).pure := by
  unfold extractA
  split <;> simp [A.pure]

theorem rd_shp {r : RId} {k : Option Root → A} (h : ∀ o, (k o).shp) (hk : ∀ fb ow (a b : Root), a.ver = b.ver → (∀ p, shapeOf (getAt a.node p) = shapeOf (getAt b.node p)) → ∀ H v H1, (k (some a)).ok fb ow H v H1 → (k (some b)).ok fb ow H v H1) : (A.rd r k).shp := by
  intro fb ow H v H1 ⟨h1, h2⟩
  obtain ⟨h3, h4⟩ := h _ fb ow H v H1 h2
  refine ⟨h3, fun H' hs => ⟨h1, ?_⟩⟩
  have h5 := h4 H' hs
  have h6 := hs r
  cases ha : H r with
  | none =>
    cases hb : H' r with
    | none => rw [ha] at h5; exact h5
    | some b => simp [ha, hb] at h6
  | some a =>
    cases hb : H' r with
    | none => simp [ha, hb] at h6
    | some b =>
      simp only [ha, hb] at h6
      rw [ha] at h5
      exact hk fb ow a b h6.1 h6.2 _ _ _ h5

theorem indexAddrA_shp (P : Program) (t : TypeId) (x y : PV) : (indexAddrA P t x y).shp := by
  unfold indexAddrA
  split
  · split
    · exact A.pure.shp (by simp [A.pure])
    · exact A.pure.shp (by simp [A.pure])
  · split
    · refine rd_shp (fun o => ?_) (fun fb ow a b h1 h2 H v H1 h => ?_)
      · cases o <;> exact A.pure.shp (by simp [A.pure])
      · simp only [A.ok] at h ⊢; rw [← h1]; exact h
    · exact A.pure.shp (by simp [A.pure])
  · split
    · exact A.pure.shp (by simp [A.pure])
    · exact A.pure.shp (by simp [A.pure])
  · split
    · refine rd_shp (fun o => ?_) (fun fb ow a b h1 h2 H v H1 h => ?_)
      · cases o
        · exact A.pure.shp (by simp [A.pure])
        · refine A.pure.shp ?_
          simp only [A.pure]
          split <;> simp [A.pure]
      · simp only [A.ok] at h ⊢; rw [← h1, ← h2]; exact h
    · exact A.pure.shp (by simp [A.pure])
  · exact A.pure.shp (by simp [A.pure])

theorem fieldAddrA_shp (P : Program) (t : TypeId) (f : Nat) (x : PV) : (fieldAddrA P t f x).shp := by
  unfold fieldAddrA
  split
  · split
    · exact A.pure.shp (by simp [A.pure])
    · exact A.pure.shp (by simp [A.pure])
  · split
    · refine rd_shp (fun o => ?_) (fun fb ow a b h1 h2 H v H1 h => ?_)
      · cases o
        · exact A.pure.shp (by simp [A.pure])
        · refine A.pure.shp ?_
          simp only [A.pure]
          split <;> simp [A.pure]
      · simp only [A.ok] at h ⊢; rw [← h1, ← h2]; exact h
    · exact A.pure.shp (by simp [A.pure])
  · exact A.pure.shp (by simp [A.pure])

theorem nilCheckA_shp (x : PV) : (nilCheckA x).shp := by
  unfold nilCheckA
  split
  · exact A.pure.shp (by simp [A.pure])
  · refine rd_shp (fun o => ?_) (fun fb ow a b h1 h2 H v H1 h => ?_)
    · cases o <;> exact A.pure.shp (by simp [A.pure])
    · simp only [A.ok] at h ⊢; rw [← h1]; exact h
  · exact A.pure.shp (by simp [A.pure])
  · exact A.pure.shp (by simp [A.pure])
  · exact A.pure.shp (by simp [A.pure])

theorem opndO_shp {tm : Tm} {x : Option Operand} {k : Option PV → A} (h : ∀ v, (k v).shp) : (opndO tm x k).shp := by
  cases x with
  | none => exact h none
  | some x => exact opnd_shp fun v => h _

theorem sliceA0_shp (P : Program) (t : TypeId) (x : PV) (l h m : Option PV) : (sliceA0 P t x l h m).shp := by
  unfold sliceA0
  split
  · split
    · exact A.pure.shp (by cases m <;> simp [A.pure])
    · exact A.pure.shp (by simp [A.pure])
  · split
    · exact A.pure.shp (by cases m <;> cases h <;> simp [A.pure])
    · exact A.pure.shp (by simp [A.pure])
  · split
    · exact A.pure.shp (by simp [A.pure])
    · exact A.pure.shp (by simp [A.pure])
  · split
    · refine rd_shp (fun o => ?_) (fun fb ow a b h1 h2 H v H1 h => ?_)
      · cases o
        · exact A.pure.shp (by simp [A.pure])
        · refine A.pure.shp ?_
          simp only [A.pure]
          split
          · split
            · split
              · simp [A.pure]
              · simp [A.pure]
            · simp [A.pure]
          · simp [A.pure]
      · simp only [A.ok] at h ⊢; rw [← h1, ← h2]; exact h
    · exact A.pure.shp (by simp [A.pure])
  · exact A.pure.shp (by simp [A.pure])

theorem sliceA_shp (P : Program) (t : TypeId) (x : PV) (l h m : Option PV) : (sliceA P t x l h m).shp :=
  fun fb ow H v H1 hk => ⟨(sliceA0_shp P t x l h m fb ow H v H1 hk.2).1, fun H' hs => ⟨hk.1, (sliceA0_shp P t x l h m fb ow H v H1 hk.2).2 H' hs⟩⟩

theorem eqFin_pure (op : BinOp) (b : Bool) : (eqFin op b).pure := by
  unfold eqFin; split <;> trivial
theorem nilE_shp (op : BinOp) (p : Prop) [Decidable p] : (nilE op p).shp := by
  intro fb ow H v H1 h
  unfold nilE at h ⊢
  simp only [A.ok] at h ⊢
  by_cases hp : p
  · simp only [hp, decide_true] at h ⊢
    exact ((eqFin_pure op false).shp) fb ow H v H1 h
  · simp only [hp, decide_false] at h
    exact h.elim
theorem eqA_shp (P : Program) (t : TypeId) (op : BinOp) (x y : PV) : (eqA P t op x y).shp := by
  unfold eqA
  split
  · exact (eqFin_pure _ _).shp
  · exact (eqFin_pure _ _).shp
  · exact nilE_shp _ _
  · exact nilE_shp _ _
  · refine rd_shp (fun o => ?_) (fun fb ow a b h1 h2 H v H1 h => ?_)
    · cases o with
      | none => exact A.pure.shp trivial
      | some rt =>
        exact fun fb ow H v H1 h => ⟨(nilE_shp _ _ fb ow H v H1 h.2).1, fun H' hs => ⟨h.1, (nilE_shp _ _ fb ow H v H1 h.2).2 H' hs⟩⟩
    · simp only [A.ok] at h ⊢; rw [← h1]; exact h
  · exact (eqFin_pure _ _).shp
  · exact (eqFin_pure _ _).shp
  · refine rd_shp (fun o => ?_) (fun fb ow a b h1 h2 H v H1 h => ?_)
    · cases o with
      | none => exact A.pure.shp trivial
      | some rt => exact A.pure.shp (eqFin_pure _ _)
    · simp only [A.ok] at h ⊢; rw [← h1]; exact h
  · exact (eqFin_pure _ _).shp
  · exact (eqFin_pure _ _).shp
  · exact A.pure.shp trivial
theorem binT_shp (P : Program) (t : TypeId) (op : BinOp) (x y : PV) : (binT P t op x y).shp := by
  unfold binT
  split
  · unfold eqT
    split
    · exact (binA_pure _ _ _).shp
    · exact (binA_pure _ _ _).shp
    · split
      · split
        · exact (eqFin_pure _ _).shp
        · exact A.pure.shp trivial
      · exact A.pure.shp trivial
    · exact eqA_shp _ _ _ _ _
  · exact (binA_pure _ _ _).shp
theorem binT_pure {P : Program} {t : TypeId} {op : BinOp} (h : isEq op = false) (x y : PV) : (binT P t op x y).pure := by
  unfold binT
  rw [h]
  exact binA_pure _ _ _

theorem convA_pure (P : Program) (s d : TypeId) (x : PV) : (convA P s d x).pure := by
  unfold convA; split <;> trivial

theorem fieldA_pure (P : Program) (t : TypeId) (f : Nat) (x : PV) : (fieldA P t f x).pure := by
  unfold fieldA
  split
  · simp only [A.pure]; split <;> trivial
  · trivial
theorem indexA_pure (P : Program) (t : TypeId) (x y : PV) : (indexA P t x y).pure := by
  unfold indexA
  split
  · split
    · simp only [A.pure]; split <;> trivial
    · trivial
  · split
    · split
      · split <;> trivial
      · trivial
    · trivial
  · trivial

theorem kind0 {P lv ver tm} {o : Oper} (h : kindOf o.op = 0) : (opA P lv ver tm o).pure := by
  unfold opA opB
  split <;> rename_i ho <;> first
    | (rw [ho] at h; simp only [kindOf] at h; split at h <;> cases h; done)
    | (rw [ho] at h; simp [kindOf] at h; done)
    | exact trivial
    | exact opnd_pure fun _ => pickA_pure _ _ _
    | exact opnd_pure fun _ => opnd_pure fun _ => binT_pure (by rw [ho] at h; simp only [kindOf] at h; split at h <;> simp_all) _ _
    | exact opnd_pure fun _ => unA_pure _ _
    | exact opnds_pure fun _ => opnds_pure fun _ => trivial
    | exact opnd_pure fun _ => extractA_pure _ _
    | exact opnd_pure fun _ => convA_pure _ _ _ _
    | exact opnd_pure fun _ => fieldA_pure _ _ _ _
    | exact opnd_pure fun _ => opnd_pure fun _ => indexA_pure _ _ _ _
    | skip

theorem kind1 {P lv ver tm} {o : Oper} (h : kindOf o.op = 1) : (opA P lv ver tm o).shp := by
  unfold opA opB
  split <;> rename_i ho <;> first
    | (rw [ho] at h; simp only [kindOf] at h; split at h <;> cases h; done)
    | (rw [ho] at h; simp [kindOf] at h; done)
    | exact opnd_shp fun _ => opnd_shp fun _ => indexAddrA_shp _ _ _ _
    | exact opnd_shp fun _ => fieldAddrA_shp _ _ _ _
    | exact opnd_shp fun _ => nilCheckA_shp _
    | exact opnd_shp fun _ => opnd_shp fun _ => binT_shp _ _ _ _ _
    | exact opnd_shp fun _ => opndO_shp fun _ => opndO_shp fun _ => opndO_shp fun _ => sliceA_shp _ _ _ _ _ _
    | exact A.pure.shp trivial

theorem leaf_getAt {v : PV} (h : shapeOf v = none) (q : Path) : shapeOf (getAt v q) = none := by
  cases q with
  | nil => cases v <;> simpa [getAt] using h
  | cons x q => cases v <;> simp_all [getAt, shapeOf]

theorem updAt_shape (g : PV → PV) (v : PV) (p : Path) (hg : ∀ q, shapeOf (getAt (g (getAt v p)) q) = shapeOf (getAt (getAt v p) q)) : ∀ q, shapeOf (getAt (updAt g v p) q) = shapeOf (getAt v q) := by
  induction p generalizing v with
  | nil =>
    have e : getAt v [] = v := by cases v <;> rfl
    have e2 : updAt g v [] = g v := by cases v <;> rfl
    rw [e] at hg
    rw [e2]
    exact hg
  | cons x p ih =>
    obtain ⟨i, o⟩ := x
    cases v with
    | own sz n f =>
      intro q
      cases q with
      | nil => simp [updAt, getAt, shapeOf]
      | cons y q =>
        obtain ⟨a, b⟩ := y
        simp only [updAt, getAt]
        split
        · rename_i e; obtain ⟨rfl, rfl⟩ := e; exact ih (f a b) hg q
        · rfl
    | _ => intro q; simp [updAt]

theorem setCells_shape {v : PV} {i o : Nat} {l : List PV} (hv : (∃ sz c, v = .obox sz c) ∨ ∃ sz n f, v = .own sz n f ∧ (∀ j, j < l.length → shapeOf (f i (o + j)) = none)) (hl : ∀ c ∈ l, shapeOf c = none) :
    ∀ q, shapeOf (getAt (setCells i o l v) q) = shapeOf (getAt v q) := by
  rcases hv with ⟨sz, c, rfl⟩ | ⟨sz, n, f, rfl, hf⟩
  · intro q; cases q <;> simp [setCells, getAt, shapeOf]
  · intro q
    cases q with
    | nil => simp [setCells, getAt, shapeOf]
    | cons y q =>
      obtain ⟨a, b⟩ := y
      simp only [setCells, getAt]
      split
      · rename_i e
        obtain ⟨rfl, h1, h2⟩ := e
        have h3 := hf (b - o) (by omega)
        rw [show o + (b - o) = b by omega] at h3
        rw [leaf_getAt h3 q]
        refine leaf_getAt (hl _ ?_) q
        simp [List.getD_eq_getElem?_getD, show b - o < l.length by omega, List.getElem_mem]
      · rfl

theorem isCell_leaf {v : PV} (h : isCell v = true) : shapeOf v = none := by cases v <;> simp_all [isCell, shapeOf]

theorem shp_write {H : Roots} {r : RId} {rt : Root} (hH : H r = some rt) {node : PV} (h : ∀ q, shapeOf (getAt node q) = shapeOf (getAt rt.node q)) : Shp H (fun j => if j = r then some ⟨rt.ver, node⟩ else H j) := by
  intro j
  by_cases e : j = r
  · subst e; rw [hH]; simp only [if_true]; exact ⟨trivial, fun p => (h p).symm⟩
  · simp only [e, if_false]; cases H j <;> simp

theorem standA_mild {l : List PV} {k : A} (h : k.mild) : (standA l k).mild := by
  induction l with
  | nil => exact h
  | cons x l ih =>
    unfold standA
    split <;> first | exact ih | skip
    all_goals
      intro fb ow H v H1 ⟨h1, h2⟩
      cases hH : H _ with
      | none => rw [hH] at h2; exact h2.elim
      | some rt => rw [hH] at h2; exact ih _ _ _ _ _ h2.2

theorem storeA_mild (P : Program) (t : TypeId) (x y : PV) : (storeA P t x y).mild := by
  unfold storeA
  split
  · rename_i x0 r ver p i o
    split
    · rename_i l hl
      intro fb ow H v H1 ⟨h1, h2⟩
      have hleaf : ∀ c ∈ l, shapeOf c = none := fun c hc => isCell_leaf (List.all_eq_true.1 h1.1 c hc)
      refine standA_mild (k := _) (fun fb ow H v H1 h2 => ?_) fb ow H v H1 h2
      obtain ⟨_, h2⟩ := h2
      cases hH : H r with
      | none => rw [hH] at h2; exact h2.elim
      | some rt =>
        rw [hH] at h2
        obtain ⟨_, h2⟩ := h2
        split at h2
        · rename_i sz c hg
          obtain ⟨_, _, rfl, rfl⟩ := h2
          exact shp_write hH (updAt_shape _ _ _ (setCells_shape (.inl ⟨sz, c, hg⟩) hleaf))
        · rename_i sz n f hg
          obtain ⟨h3, _, rfl, rfl⟩ := h2
          exact shp_write hH (updAt_shape _ _ _ (setCells_shape (.inr ⟨sz, n, f, hg, h3.2⟩) hleaf))
        · exact h2.elim
    · exact fun fb ow H v H1 h => h.elim
  · exact fun fb ow H v H1 h => h.elim

theorem opnd_mild {tm : Tm} {x : Operand} {k : PV → A} (h : ∀ v, (k v).mild) : (opnd tm x k).mild := by
  unfold opnd; split
  · rename_i g g' v _
    exact fun fb ow H v' H1 hk => h v fb ow H v' H1 hk.2
  · rename_i g v _ _
    exact fun fb ow H v' H1 hk => h v fb ow H v' H1 hk.2
  · exact h _

theorem kind3 {P lv ver tm} {o : Oper} (h : kindOf o.op = 3) : (opA P lv ver tm o).mild := by
  unfold opA opB
  split <;> rename_i ho <;> first
    | (rw [ho] at h; simp only [kindOf] at h; split at h <;> cases h; done)
    | (rw [ho] at h; simp [kindOf] at h; done)
    | exact opnd_mild fun _ => opnd_mild fun _ => storeA_mild _ _ _ _
    | exact fun fb ow H v H1 h => h.elim
end Go.Ab
namespace Go.Ab
open Classical

def calleeO (tm : Tm) : Op → Option (FuncId × List PV)
  | .call { callee := .value f, args, .. } => match evC tm f with
    | .func (.func g) first caps => (callee.vals tm args.toList).map fun az => (g, first ++ az ++ caps)
    | _ => none
  | _ => none

theorem callee_iff {tm : Tm} {o : Op} {k : FuncId → List PV → Prop} : callee tm o k ↔ ∃ f az, calleeO tm o = some (f, az) ∧ k f az := by
  unfold callee calleeO
  split
  · split
    · rename_i f args _ _ g first caps he
      cases hv : callee.vals tm args.toList with
      | none => simp [he, hv]
      | some az =>
        simp only [he, hv, Option.map_some, Option.some.injEq, Prod.mk.injEq]
        exact ⟨fun h => ⟨_, _, ⟨rfl, rfl⟩, h⟩, fun ⟨_, _, ⟨h1, h2⟩, h⟩ => by subst h1 h2; exact h⟩
    · simp
  · simp

/-- Quiet calls. -/
inductive QCall (P : Program) (id : RId) (ver : Nat) (fb : RId → Prop) (f : FuncId) (args : List PV) (H : Roots) : PV → Roots → Prop
  | frozen (res : PV) (h : CallsF P f args res) (hpl : ∀ c ∈ args, plainArgL c) : QCall P id ver fb f args H res H
  | plain (res : PV) (hp : Hp) (hH : lkH hp = H) (hfb : ∀ r, ¬ fb r) (h : CallsF P f (args.map (view 9 hp)) res) (hr : leafyL res) : QCall P id ver fb f args H res H
  | own (node : PV) (res : RId → Nat → PV) (h : CallsO P f args node res) (hpl : ∀ c ∈ args, plainArgL c) : QCall P id ver fb f args H (res id ver) (fun j => if j = id then some ⟨ver, node⟩ else H j)
  | ownPlain (sz n : Nat) (g : Nat → Nat → PV) (res : RId → Nat → PV) (hp : Hp) (hH : lkH hp = H) (hfb : ∀ r, ¬ fb r) (h : CallsO P f (args.map (view 9 hp)) (.own sz n g) res) (hr : leafyL (res id ver)) (hg : ∀ i o, i < n → leafy (g i o)) :
      QCall P id ver fb f args H (res id ver) (fun j => if j = id then some ⟨ver, .own sz n g⟩ else H j)

/-- An operation, its test passed. -/
def StepT (P : Program) (lv ver : Nat) (fb ow : RId → Prop) (tm : Tm) (o : Oper) (H : Roots) (v : PV) (H' : Roots) : Prop :=
  if isCall o.op then ow (lv, o.dst.getD 0) ∧ ∃ f az, calleeO tm o.op = some (f, az) ∧ QCall P (lv, o.dst.getD 0) ver fb f az H v H' else (opA P lv ver tm o).ok fb ow H v H'

def fbOf (lv : Nat) (l : List Nat) : RId → Prop := fun r => r ∈ l.map fun d => (lv, d)
/-- For an operation: roots that it may not look at; whether it may write any; roots that it may write beside one that it makes. -/
abbrev Fl := List Nat × (Bool × List Nat)
def wrOf (fl : Fl) (o : Oper) : List Nat := match makes o.op with
  | true => o.dst.getD 0 :: fl.2.2
  | false => fl.2.2
/-- A store that may write anywhere: of which no one says where. -/
def kind3w (ws : List Nat) (o : Op) : Bool := match ws with
  | [] => Nat.beq (kindOf o) 3
  | _ :: _ => false
def owOf (lv : Nat) (fl : Fl) (o : Oper) : RId → Prop := fun r => fl.2.1 = true ∨ kind3w fl.2.2 o.op = true ∨ r ∈ (wrOf fl o).map fun d => (lv, d)

/-- With its test: `chg`: it makes or changes memory; `gd`: it has a test. -/
def StepC (P : Program) (lv ver : Nat) (fl : Fl) (tm : Tm) (o : Oper) (H : Roots) (u : PV) (H' : Roots) (c gd : Bool) : Bool → Prop
  | true => (c = true → StepT P lv ver (fbOf lv fl.1) (owOf lv fl o) tm o H u H') ∧ (c = false → (u = .undef ∨ u = noT P o) ∧ H' = H)
  | false => ∃ v, (c = true → StepT P lv ver (fbOf lv fl.1) (owOf lv fl o) tm o H v H') ∧ (c = false → H' = H) ∧ u = (if gd then .whn c v else v)

def Step (P : Program) (lv : Nat) (all : List Oper) (ver : Nat) (fl : Fl) (tm : Tm) (o : Oper) (H : Roots) (u : PV) (H' : Roots) : Prop :=
  ∃ c, guardC all tm o.guard = some c ∧ StepC P lv ver fl tm o H u H' c o.guard.isSome (changes o.op)

def usesT (all : List Oper) (o : Oper) : List Nat := (o.op.operands.toList.filterMap fun | .tmp t => some t | _ => none) ++
  (match o.guard with | some (j, _) => (match (all[j]?).bind (·.dst) with | some d => [d] | none => []) | none => [])

def agT (l : List Nat) (tm tm' : Tm) : Prop := ∀ t ∈ l, lk tm t = lk tm' t

theorem ev_ag {tm tm' : Tm} {x : Operand} (h : ∀ t, x = .tmp t → lk tm t = lk tm' t) : ev tm x = ev tm' x := by
  unfold ev
  cases x <;> first | rfl | exact h _ rfl

theorem ag_ops {all : List Oper} {o : Oper} {tm tm' : Tm} (h : agT (usesT all o) tm tm') : ∀ x ∈ o.op.operands, ev tm x = ev tm' x := fun x hx => ev_ag fun t ht => h t (by
  subst ht
  exact List.mem_append_left _ (List.mem_filterMap.2 ⟨.tmp t, by simpa using hx, rfl⟩))

theorem guardC_ag {all : List Oper} {o : Oper} {tm tm' : Tm} (h : agT (usesT all o) tm tm') : guardC all tm o.guard = guardC all tm' o.guard := by
  unfold guardC
  split
  · rfl
  · rename_i j want hg
    split
    · rename_i d hd
      rw [h d (List.mem_append_right _ (by simp [hg, hd]))]
    · rfl

theorem opnd_ag {tm tm' : Tm} {x : Operand} {k k' : PV → A} (h : ev tm x = ev tm' x) (hk : k = k') : opnd tm x k = opnd tm' x k' := by
  unfold opnd; rw [h, hk]
theorem opnds_ag {tm tm' : Tm} {l : List Operand} {k k' : List PV → A} (h : ∀ x ∈ l, ev tm x = ev tm' x) (hk : k = k') : opnds tm l k = opnds tm' l k' := by
  subst hk
  induction l generalizing k with
  | nil => rfl
  | cons x l ih => exact opnd_ag (h x (by simp)) (funext fun v => ih (fun y hy => h y (by simp [hy])))
theorem parts_ag {tm tm' : Tm} {l : List (Nat × Operand)} {k : List (Nat × PV) → A} (h : ∀ x ∈ l, ev tm x.2 = ev tm' x.2) : parts tm l k = parts tm' l k := by
  induction l generalizing k with
  | nil => rfl
  | cons x l ih => exact opnd_ag (h x (by simp)) (funext fun v => ih (fun y hy => h y (by simp [hy])))
theorem vals_ag {tm tm' : Tm} {l : List Operand} (h : ∀ x ∈ l, ev tm x = ev tm' x) : callee.vals tm l = callee.vals tm' l := by
  induction l with
  | nil => rfl
  | cons x l ih => simp only [callee.vals, h x (by simp), ih (fun y hy => h y (by simp [hy]))]

theorem opA_ag {P lv ver} {o : Oper} {tm tm' : Tm} (h : ∀ x ∈ o.op.operands, ev tm x = ev tm' x) : opA P lv ver tm o = opA P lv ver tm' o := by
  obtain ⟨dst, op, ty, pos, af, gd⟩ := o
  cases op
  case move x => simp only [opA, opB]; rw [h x (by simp [Op.operands])]
  case assign x => simp only [opA, opB]; rw [h x (by simp [Op.operands])]
  case pick c a b => simp only [opA, opB, opnd]; rw [h c (by simp [Op.operands]), h a (by simp [Op.operands]), h b (by simp [Op.operands])]
  case box t x => simp only [opA, opB, opnd]; rw [h x (by simp [Op.operands])]
  case build t ps => exact parts_ag fun x hx => h _ (by simp [Op.operands]; exact ⟨x.1, by simpa using hx⟩)
  case buildSlice t n ps => exact parts_ag fun x hx => h _ (by simp [Op.operands]; exact ⟨x.1, by simpa using hx⟩)
  case load t x => simp only [opA, opB, opnd]; rw [h x (by simp [Op.operands])]
  case store t x y => simp only [opA, opB, opnd]; rw [h x (by simp [Op.operands]), h y (by simp [Op.operands])]
  case nilCheck x => simp only [opA, opB, opnd]; rw [h x (by simp [Op.operands])]
  case binOp op t x y t' => simp only [opA, opB, opnd]; rw [h x (by simp [Op.operands]), h y (by simp [Op.operands])]
  case unOp op t x => simp only [opA, opB, opnd]; rw [h x (by simp [Op.operands])]
  case makeFunc fn first captured =>
    exact opnds_ag (fun x hx => h _ (by simp [Op.operands]; exact .inl (by simpa using hx))) (funext fun v => opnds_ag (fun x hx => h _ (by simp [Op.operands]; exact .inr (by simpa using hx))) rfl)
  case makeSlice t x y => simp only [opA, opB, opnd]; rw [h x (by simp [Op.operands]), h y (by simp [Op.operands])]
  case fieldAddr t x f => simp only [opA, opB, opnd]; rw [h x (by simp [Op.operands])]
  case indexAddr t x y => simp only [opA, opB, opnd]; rw [h x (by simp [Op.operands]), h y (by simp [Op.operands])]
  case extract x i => simp only [opA, opB, opnd]; rw [h x (by simp [Op.operands])]
  case convert s d x => simp only [opA, opB, opnd]; rw [h x (by simp [Op.operands])]
  case field t x f => simp only [opA, opB, opnd]; rw [h x (by simp [Op.operands])]
  case index t x y => simp only [opA, opB, opnd]; rw [h x (by simp [Op.operands]), h y (by simp [Op.operands])]
  case slice t x lo hi mx =>
    have hO : ∀ (y : Option Operand) (k k' : Option PV → A), (∀ z, y = some z → ev tm z = ev tm' z) → k = k' → opndO tm y k = opndO tm' y k' := by
      rintro y k _ hy rfl
      cases y with
      | none => rfl
      | some z => exact opnd_ag (hy z rfl) rfl
    exact opnd_ag (h x (by simp [Op.operands])) (funext fun v => hO lo _ _ (fun z hz => h z (by simp [Op.operands, hz])) (funext fun l => hO hi _ _ (fun z hz => h z (by simp [Op.operands, hz])) (funext fun hh => hO mx _ _ (fun z hz => h z (by simp [Op.operands, hz])) rfl)))
  case lookup t x y ok => simp only [opA, opB, opnd]; rw [h x (by simp [Op.operands]), h y (by simp [Op.operands])]
  case mapUpdate t m k x => simp only [opA, opB, opnd]; rw [h m (by simp [Op.operands]), h k (by simp [Op.operands]), h x (by simp [Op.operands])]
  case range t x => simp only [opA, opB, opnd]; rw [h x (by simp [Op.operands])]
  case next x str => simp only [opA, opB, opnd]; rw [h x (by simp [Op.operands])]
  case entry x => simp only [opA, opB, opnd]; rw [h x (by simp [Op.operands])]
  case makeMap t r =>
    cases r with
    | none => rfl
    | some z => exact opnd_ag (h z (by simp [Op.operands])) rfl
  case call c =>
    obtain ⟨cal, args, at_⟩ := c
    cases cal
    case builtin b =>
      have hx : ∀ x ∈ args.toList, ev tm x = ev tm' x := fun x hx => h x (by simp [Op.operands, Call.operands]; simpa using hx)
      simp only [opA, opB]
      generalize args.toList = l at hx
      generalize at_.toList = l'
      unfold builtinA
      split
      · rename_i x t; exact opnd_ag (hx x (by simp)) rfl
      · rename_i x t; exact opnd_ag (hx x (by simp)) rfl
      · rename_i x y t t'
        simp only [opnd]
        rw [hx x (by simp), hx y (by simp)]
      · rename_i x y
        simp only [opnd]
        rw [hx x (by simp), hx y (by simp)]
      · rename_i x y
        simp only [opnd]
        rw [hx x (by simp), hx y (by simp)]
      · rename_i x t; exact opnd_ag (hx x (by simp)) rfl
      · rename_i x y t t'
        simp only [opnd]
        rw [hx x (by simp), hx y (by simp)]
      · rfl
    all_goals rfl
  all_goals rfl

theorem calleeO_ag {o : Op} {tm tm' : Tm} (h : ∀ x ∈ o.operands, ev tm x = ev tm' x) : calleeO tm o = calleeO tm' o := by
  unfold calleeO evC
  split
  · rename_i f args _
    simp only [Op.operands, Call.operands] at h
    rw [h f (by simp), vals_ag (l := args.toList) (tm' := tm') (fun x hx => h x (by simp at hx ⊢; exact .inr hx))]
  · rfl

theorem StepT.ag {P lv ver fb ow} {o : Oper} {tm tm' : Tm} (h : ∀ x ∈ o.op.operands, ev tm x = ev tm' x) {H H' : Roots} {u : PV} (hs : StepT P lv ver fb ow tm o H u H') : StepT P lv ver fb ow tm' o H u H' := by
  unfold StepT at *
  rw [← opA_ag h, ← calleeO_ag h]
  exact hs

theorem StepC.imp {P lv ver fl} {tm tm' : Tm} {o : Oper} {H H' H1 H1' : Roots} {u : PV} {c gd chg : Bool} (h : StepC P lv ver fl tm o H u H' c gd chg)
    (ht : ∀ v, StepT P lv ver (fbOf lv fl.1) (owOf lv fl o) tm o H v H' → StepT P lv ver (fbOf lv fl.1) (owOf lv fl o) tm' o H1 v H1') (he : c = false → H' = H → H1' = H1) : StepC P lv ver fl tm' o H1 u H1' c gd chg := by
  cases chg with
  | true => exact ⟨fun e => ht _ (h.1 e), fun e => ⟨(h.2 e).1, he e (h.2 e).2⟩⟩
  | false => obtain ⟨v, h1, h2, h3⟩ := h; exact ⟨v, fun e => ht _ (h1 e), fun e => he e (h2 e), h3⟩

theorem Step.ag {P lv all ver fl} {o : Oper} {tm tm' : Tm} (h : agT (usesT all o) tm tm') {H H' : Roots} {u : PV} (hs : Step P lv all ver fl tm o H u H') : Step P lv all ver fl tm' o H u H' := by
  obtain ⟨c, h1, h2⟩ := hs
  exact ⟨c, (guardC_ag h).symm.trans h1, h2.imp (fun v hv => hv.ag (ag_ops h)) fun _ e => e⟩

/-! ### Frames -/
theorem view_congr {hp hp' : Hp} (h : lkH hp = lkH hp') (k : Nat) (x : PV) : view k hp x = view k hp' x := by
  induction k generalizing x with
  | zero => rfl
  | succ k ih =>
    have e : view k hp = view k hp' := funext ih
    unfold view
    rw [h, e]

theorem StepT.frame {P lv ver} {fb ow : RId → Prop} {tm : Tm} {o : Oper} {H H1 : Roots} {v : PV} (h : StepT P lv ver fb ow tm o H v H1) {H' : Roots} (hp' : ∃ hp, lkH hp = H') (hag : ∀ r, ¬ fb r → H r = H' r) :
    ∃ H1', StepT P lv ver fb ow tm o H' v H1' ∧ Chg ow H H1 H' H1' := by
  unfold StepT at *
  split
  · rename_i hc
    rw [if_pos hc] at h
    obtain ⟨how, f, az, h1, h2⟩ := h
    have new : ∀ node, Chg ow H (fun j => if j = (lv, o.dst.getD 0) then some ⟨ver, node⟩ else H j) H' (fun j => if j = (lv, o.dst.getD 0) then some ⟨ver, node⟩ else H' j) := by
      refine fun node => ⟨fun r hr => ?_, fun r hr => ?_⟩
      · have : r ≠ (lv, o.dst.getD 0) := fun e => hr (e ▸ how)
        simp [this]
      · by_cases e : r = (lv, o.dst.getD 0)
        · simp [e]
        · simp [e]
    have same : Chg ow H H H' H' := ⟨fun _ _ => ⟨rfl, rfl⟩, fun _ _ => .inl ⟨rfl, rfl⟩⟩
    cases h2 with
    | frozen _ h hpl => exact ⟨H', ⟨how, f, az, h1, .frozen _ h hpl⟩, same⟩
    | plain _ hp hH hfb h hr =>
      have e : H = H' := funext fun r => hag r (hfb r)
      exact ⟨H', ⟨how, f, az, h1, .plain _ hp (hH.trans e) hfb h hr⟩, same⟩
    | own node res h hpl => exact ⟨_, ⟨how, f, az, h1, .own node res h hpl⟩, new _⟩
    | ownPlain sz n g res hp hH hfb h hr hg =>
      have e : H = H' := funext fun r => hag r (hfb r)
      exact ⟨_, ⟨how, f, az, h1, .ownPlain sz n g res hp (hH.trans e) hfb h hr hg⟩, new _⟩
  · rename_i hc
    rw [if_neg hc] at h
    exact A.ok_frame h hag

theorem Step.frame {P lv all ver fl} {tm : Tm} {o : Oper} {H H1 : Roots} {u : PV} (h : Step P lv all ver fl tm o H u H1) {H' : Roots} (hp' : ∃ hp, lkH hp = H') (hag : ∀ r, ¬ fbOf lv fl.1 r → H r = H' r) :
    ∃ H1', Step P lv all ver fl tm o H' u H1' ∧ Chg (owOf lv fl o) H H1 H' H1' := by
  have same : Chg (owOf lv fl o) H H H' H' := ⟨fun _ _ => ⟨rfl, rfl⟩, fun _ _ => .inl ⟨rfl, rfl⟩⟩
  obtain ⟨c, hg, h⟩ := h
  suffices ∃ H1', StepC P lv ver fl tm o H' u H1' c o.guard.isSome (changes o.op) ∧ Chg (owOf lv fl o) H H1 H' H1' by
    obtain ⟨H1', h1, h2⟩ := this
    exact ⟨H1', ⟨c, hg, h1⟩, h2⟩
  generalize changes o.op = chg at h ⊢
  cases chg with
  | true =>
    cases c with
    | true =>
      obtain ⟨H1', h1, h2⟩ := (h.1 rfl).frame hp' hag
      exact ⟨H1', ⟨fun _ => h1, (fun e => by cases e)⟩, h2⟩
    | false =>
      obtain ⟨hu, rfl⟩ := h.2 rfl
      exact ⟨H', ⟨(fun e => by cases e), fun _ => ⟨hu, rfl⟩⟩, same⟩
  | false =>
    obtain ⟨v, h1, h2, h3⟩ := h
    cases c with
    | true =>
      obtain ⟨H1', h1, h4⟩ := (h1 rfl).frame hp' hag
      exact ⟨H1', ⟨v, fun _ => h1, (fun e => by cases e), h3⟩, h4⟩
    | false =>
      obtain rfl := h2 rfl
      exact ⟨H', ⟨v, (fun e => by cases e), fun _ => rfl, h3⟩, same⟩

theorem kind_nocall {o : Op} (h : kindOf o ≠ 2) : isCall o = false := by
  unfold isCall
  split
  · simp [kindOf] at h
  · rfl

/-- A property of a step is that of the operation. -/
theorem Step.lift {P lv all ver fl} {tm : Tm} {o : Oper} {H H1 : Roots} {u : PV} (h : Step P lv all ver fl tm o H u H1) (hk : kindOf o.op ≠ 2) {R : Roots → Roots → Prop} (hrefl : R H H)
    (hR : ∀ v, (opA P lv ver tm o).ok (fbOf lv fl.1) (owOf lv fl o) H v H1 → R H H1) : R H H1 := by
  obtain ⟨c, hg, h⟩ := h
  have ht : ∀ v, StepT P lv ver (fbOf lv fl.1) (owOf lv fl o) tm o H v H1 → R H H1 := fun v hv => by
    unfold StepT at hv
    rw [if_neg (by simp [kind_nocall hk])] at hv
    exact hR _ hv
  generalize changes o.op = chg at h
  cases chg with
  | true =>
    cases c with
    | true => exact ht _ (h.1 rfl)
    | false => rw [(h.2 rfl).2]; exact hrefl
  | false =>
    obtain ⟨v, h1, h2, h3⟩ := h
    cases c with
    | true => exact ht _ (h1 rfl)
    | false => rw [h2 rfl]; exact hrefl

theorem Step.move {P lv all ver fl} {tm : Tm} {o : Oper} {H H' : Roots} {u : PV} (h : Step P lv all ver fl tm o H u H) (hk : kindOf o.op ≠ 2)
    (hR : ∀ v, (opA P lv ver tm o).ok (fbOf lv fl.1) (owOf lv fl o) H v H → (opA P lv ver tm o).ok (fbOf lv fl.1) (owOf lv fl o) H' v H') : Step P lv all ver fl tm o H' u H' := by
  obtain ⟨c, hg, h⟩ := h
  refine ⟨c, hg, h.imp (fun v hv => ?_) fun _ _ => rfl⟩
  unfold StepT at *
  rw [if_neg (by simp [kind_nocall hk])] at *
  exact hR _ hv

theorem Step.k0 {P lv all ver fl} {tm : Tm} {o : Oper} {H H1 : Roots} {u : PV} (h : Step P lv all ver fl tm o H u H1) (hk : kindOf o.op = 0) : H1 = H ∧ ∀ H', Step P lv all ver fl tm o H' u H' := by
  have e : H1 = H := h.lift (R := fun a b => b = a) (by omega) rfl (fun v hv => (A.ok_pure (kind0 hk) hv).1)
  subst e
  exact ⟨rfl, fun H' => h.move (by omega) fun v hv => (A.ok_pure (kind0 hk) hv).2 _ _ H'⟩

theorem Step.k1 {P lv all ver fl} {tm : Tm} {o : Oper} {H H1 : Roots} {u : PV} (h : Step P lv all ver fl tm o H u H1) (hk : kindOf o.op = 1) : H1 = H ∧ ∀ H', Shp H H' → Step P lv all ver fl tm o H' u H' := by
  have e : H1 = H := h.lift (R := fun a b => b = a) (by omega) rfl (fun v hv => (kind1 hk _ _ _ _ _ hv).1)
  subst e
  exact ⟨rfl, fun H' hs => h.move (by omega) fun v hv => (kind1 hk _ _ _ _ _ hv).2 H' hs⟩

theorem Step.k3 {P lv all ver fl} {tm : Tm} {o : Oper} {H H1 : Roots} {u : PV} (h : Step P lv all ver fl tm o H u H1) (hk : kindOf o.op = 3) : Shp H H1 :=
  h.lift (R := Shp) (by omega) (Shp.refl _) (fun v hv => kind3 hk _ _ _ _ _ hv)

def kindF (fl : Fl) (o : Oper) : Nat := if fl.2.1 then 4 else match kindOf o.op, fl.2.2 with
  | 3, _ :: _ => 2
  | k, _ => k

def makesOK (fi : Fl) (fx : Fl) (x : Oper) : Bool := (wrOf fx x).all fi.1.contains
def apartOK (fx : Fl) (x : Oper) (fi : Fl) (i : Oper) : Bool := (wrOf fx x).all fun d => !(wrOf fi i).contains d

/-- Two operations whose order is of no account. -/
def pairOK (all : List Oper) (x : Oper) (fx : Fl) (i : Oper) (fi : Fl) : Bool :=
  (match x.dst with | some d => !(usesT all i).contains d | none => true) && (match i.dst with | some d => !(usesT all x).contains d | none => true) &&
  (match x.dst, i.dst with | some d, some e => d != e | _, _ => true) &&
  (match kindF fx x, kindF fi i with
   | 0, _ => true
   | _, 0 => true
   | 1, 3 => true
   | 3, 1 => true
   | 1, 1 => makesOK fi fx x && makesOK fx fi i && apartOK fx x fi i
   | 1, 2 => makesOK fi fx x && makesOK fx fi i && apartOK fx x fi i
   | 2, 1 => makesOK fi fx x && makesOK fx fi i && apartOK fx x fi i
   | 2, 2 => makesOK fi fx x && makesOK fx fi i && apartOK fx x fi i
   | _, _ => false)

theorem lk_putT (tm : Tm) (d : Option Tmp) (u : PV) (t : Nat) : lk (putT tm d u) t = if d = some t then u else lk tm t := by
  cases d with
  | none => simp [putT]
  | some d =>
    by_cases h : t = d
    · subst h; simp [putT, lk]
    · simp [putT, lk, h]; intro e; exact absurd e.symm h

theorem swapH {P lv all vx vi fx fi} {tm : Tm} {x i : Oper} {H H1 H2 : Roots} {u w : PV} (hH : ∃ hp, lkH hp = H) (hpr : pairOK all x fx i fi = true) (h1 : Step P lv all vx fx tm x H u H1) (h2 : Step P lv all vi fi tm i H1 w H2)
    (hl1 : ∀ H', (∃ hp, lkH hp = H') → ∀ ver fl o v H1', Step P lv all ver fl tm o H' v H1' → ∃ hp, lkH hp = H1') :
    ∃ H1', Step P lv all vi fi tm i H w H1' ∧ Step P lv all vx fx tm x H1' u H2 := by
  simp only [pairOK, Bool.and_eq_true] at hpr
  obtain ⟨_, hpr⟩ := hpr
  have flag : ∀ {fl : Fl} {o : Oper} {k : Nat}, kindF fl o = k → k ≠ 4 → k ≠ 2 → fl.2.1 = false ∧ kindOf o.op = k := by
    intro fl o k h hk hk2
    unfold kindF at h
    cases hf : fl.2.1 <;> simp [hf] at h
    · refine ⟨rfl, ?_⟩
      split at h
      · exact absurd h.symm hk2
      · exact h
    · exact absurd h.symm hk
  have flag2 : ∀ {fl : Fl} {o : Oper} {k : Nat}, kindF fl o = k → (k = 1 ∨ k = 2) → fl.2.1 = false ∧ kind3w fl.2.2 o.op = false := by
    intro fl o k h hk
    unfold kindF at h
    cases hf : fl.2.1 <;> simp [hf] at h
    · refine ⟨rfl, ?_⟩
      cases hw : fl.2.2 with
      | cons d l => rfl
      | nil =>
        rw [hw] at h
        show Nat.beq (kindOf o.op) 3 = false
        cases hb : Nat.beq (kindOf o.op) 3 with
        | false => rfl
        | true =>
          have h3 := Nat.eq_of_beq_eq_true hb
          rw [h3] at h
          simp at h
          omega
    · omega
  have gen : fx.2.1 = false → fi.2.1 = false → kind3w fx.2.2 x.op = false → kind3w fi.2.2 i.op = false → (makesOK fi fx x && makesOK fx fi i && apartOK fx x fi i) = true →
      ∃ H1', Step P lv all vi fi tm i H w H1' ∧ Step P lv all vx fx tm x H1' u H2 := by
    intro e1 e2 e3 e4 hm
    simp only [Bool.and_eq_true, makesOK, apartOK, List.all_eq_true, Bool.not_eq_true', List.contains_eq_mem, decide_eq_true_eq, decide_eq_false_iff_not] at hm
    obtain ⟨⟨m1, m2⟩, m3⟩ := hm
    have owx : ∀ r, owOf lv fx x r → fbOf lv fi.1 r ∧ ¬ owOf lv fi i r := by
      intro r hr
      rcases hr with h | h | h
      · rw [e1] at h; cases h
      · rw [e3] at h; cases h
      · obtain ⟨d, hd, rfl⟩ := List.mem_map.1 h
        refine ⟨List.mem_map.2 ⟨d, m1 d hd, rfl⟩, fun hi => ?_⟩
        rcases hi with h' | h' | h'
        · rw [e2] at h'; cases h'
        · rw [e4] at h'; cases h'
        · obtain ⟨d', hd', e⟩ := List.mem_map.1 h'
          have e := (Prod.mk.inj e).2
          subst e
          exact m3 _ hd hd'
    have owi : ∀ r, owOf lv fi i r → fbOf lv fx.1 r ∧ ¬ owOf lv fx x r := by
      intro r hr
      refine ⟨?_, fun hx => (owx r hx).2 hr⟩
      rcases hr with h | h | h
      · rw [e2] at h; cases h
      · rw [e4] at h; cases h
      · obtain ⟨d, hd, rfl⟩ := List.mem_map.1 h
        exact List.mem_map.2 ⟨d, m2 d hd, rfl⟩
    have c0 := h1.frame (H' := H) hH (fun _ _ => rfl)
    obtain ⟨_, _, c0⟩ := c0
    have a1 : ∀ r, ¬ fbOf lv fi.1 r → H1 r = H r := fun r hr => (c0.1 r (fun ho => hr (owx r ho).1)).1
    obtain ⟨H1', s1, c1⟩ := h2.frame (H' := H) hH a1
    have a2 : ∀ r, ¬ fbOf lv fx.1 r → H r = H1' r := fun r hr => ((c1.1 r (fun ho => hr (owi r ho).1)).2).symm
    obtain ⟨H2', s2, c2⟩ := h1.frame (H' := H1') (hl1 H hH _ _ _ _ _ s1) a2
    refine ⟨H1', s1, ?_⟩
    have : H2' = H2 := funext fun r => by
      by_cases hx : owOf lv fx x r
      · have hi := (owx r hx).2
        obtain ⟨g1, g2⟩ := c1.1 r hi
        rcases c2.2 r hx with ⟨g3, g4⟩ | g3
        · rw [g4, g2, g1, g3]
        · rw [g1, ← g3]
      · obtain ⟨g1, g2⟩ := c2.1 r hx
        by_cases hi : owOf lv fi i r
        · rcases c1.2 r hi with ⟨g3, g4⟩ | g3
          · rw [g2, g4, g3, g1]
          · rw [g2, g3]
        · obtain ⟨g3, g4⟩ := c1.1 r hi
          rw [g2, g4, g3, g1]
    rw [← this]
    exact s2
  have ne3 : ∀ {k : Nat}, (k = 1 ∨ k = 2) → k ≠ 3 := fun h => by omega
  split at hpr
  · rename_i hk
    obtain ⟨_, hk⟩ := flag hk (by omega) (by omega)
    obtain ⟨rfl, h3⟩ := h1.k0 hk
    exact ⟨H2, h2, h3 _⟩
  · rename_i hk _
    obtain ⟨_, hk⟩ := flag hk (by omega) (by omega)
    obtain ⟨rfl, h3⟩ := h2.k0 hk
    exact ⟨H, h3 _, h1⟩
  · rename_i hk hk'
    obtain ⟨_, hk⟩ := flag hk (by omega) (by omega)
    obtain ⟨_, hk'⟩ := flag hk' (by omega) (by omega)
    obtain ⟨rfl, h3⟩ := h1.k1 hk
    exact ⟨H2, h2, h3 _ (h2.k3 hk')⟩
  · rename_i hk hk'
    obtain ⟨_, hk⟩ := flag hk (by omega) (by omega)
    obtain ⟨_, hk'⟩ := flag hk' (by omega) (by omega)
    obtain ⟨rfl, h3⟩ := h2.k1 hk'
    exact ⟨H, h3 _ (h1.k3 hk).symm, h1⟩
  all_goals first
    | (rename_i hk hk'
       obtain ⟨f1, hk⟩ := flag2 hk (by omega)
       obtain ⟨f2, hk'⟩ := flag2 hk' (by omega)
       exact gen f1 f2 hk hk' hpr)
    | cases hpr
end Go.Ab
namespace Go.Ab
open Classical

theorem QCall.sound {P : Program} {id : RId} {ver : Nat} {fb : RId → Prop} {f : FuncId} {args : List PV} {hp : Hp} {u : PV} {H' : Roots} (hid : id.1 ≠ 0)
    (hcall : QCall P id ver fb f args (lkH hp) u H') {w : World} {B : Blocks} {cs : Array Value} {V V' : Nat → Prop} (hv1 : ¬ V ver) (hv2 : V' ver) (hVV : ∀ n, V n → V' n)
    (hr : HR w B (lkH hp) V) (ha : LR w B (lkH hp) V args cs) :
    Enters P f ∧ Calls P f cs w fun e w' => ∃ v B', e = .returned v ∧ VR w' B' H' V' u v ∧ HR w' B' H' V' ∧ Mono w B (lkH hp) V w' B' H' V' := by
  -- contracts over frozen data
  have hF : ∀ (S : Nat → Prop), (∀ b, S b → b < w.heap.size) → ∀ (az : List PV) (res : PV), CallsF P f az res → LR w (callerB S) H0 V0 az cs → (∀ w' B' v, Mono w (callerB S) H0 V0 w' B' H0 V0 → VR w' B' H0 V0 res v → VR w' B H0 V0 res v) → 
      Enters P f ∧ Calls P f cs w fun e w' => ∃ v B', e = .returned v ∧ VR w' B' (lkH hp) V' res v ∧ HR w' B' (lkH hp) V' ∧ Mono w B (lkH hp) V w' B' (lkH hp) V' := by
    intro S hS az res hc hargs hback
    refine ⟨hc.1, (hc.2 w (callerB S) cs (callerB_HR hS) hargs).mono fun e w' he => ?_⟩
    obtain ⟨v, B', rfl, hv, hm⟩ := he
    have hm' : Mono w B (lkH hp) V w' B (lkH hp) V' :=
      caller_mono hr hm (fun b hb => untouched hm b hb) hVV (fun r rt h => .inr h) B (fun _ _ _ => rfl) (fun _ _ _ _ _ => rfl) (fun r p b h => .inr h)
    refine ⟨v, B, rfl, (hback w' B' v hm hv).lift (fun _ _ _ h => h), ⟨fun r rt h => (hr.root r rt h).mono hm' (fun t s ht => ⟨rfl, fun b hb => untouched hm b (hr.dom _ _ _ hb).1⟩), fun r rt h => hVV _ (hr.ver r rt h), fun r p b h => ?_, hr.lev, hr.inj⟩, hm'⟩
    obtain ⟨h1, h2⟩ := hr.dom r p b h
    exact ⟨Nat.lt_of_lt_of_le h1 hm.size, h2⟩
  -- contracts that make a root
  have hO : ∀ (S : Nat → Prop), (∀ b, S b → b < w.heap.size) → ∀ (az : List PV) (node : PV) (res : RId → Nat → PV), CallsO P f az node res → LR w (callerB S) H0 V0 az cs →
      (∀ w' B' B2 v, Mono w (callerB S) H0 V0 w' B' (one id ⟨ver, node⟩) (· = ver) → HR w' B' (one id ⟨ver, node⟩) (· = ver) → (∀ p, B2 id p = B' id p) → (∀ r p b, r ≠ id → B2 r p = some b → B r p = some b) →
        (VR w' B' (one id ⟨ver, node⟩) (· = ver) (res id ver) v → VR w' B2 (one id ⟨ver, node⟩) (· = ver) (res id ver) v) ∧ (RootOK w' B' (one id ⟨ver, node⟩) (· = ver) id node → RootOK w' B2 (one id ⟨ver, node⟩) (· = ver) id node)) →
      Enters P f ∧ Calls P f cs w fun e w' => ∃ v B', e = .returned v ∧ VR w' B' (lkH (setH hp id (some ⟨ver, node⟩))) V' (res id ver) v ∧ HR w' B' (lkH (setH hp id (some ⟨ver, node⟩))) V' ∧
        Mono w B (lkH hp) V w' B' (lkH (setH hp id (some ⟨ver, node⟩))) V' := by
    intro S hS az node res hc hargs hback
    refine ⟨hc.1, (hc.2 w (callerB S) cs id ver hid (callerB_HR hS) hargs).mono fun e w' he => ?_⟩
    obtain ⟨v, B', rfl, hv, hr', hm⟩ := he
    let B2 : Blocks := fun r p => if r = id then B' r p else B r p
    have hB2id : ∀ p, B2 id p = B' id p := fun p => by simp [B2]
    have hB2ne : ∀ r p, r ≠ id → B2 r p = B r p := fun r p h => by simp [B2, h]
    have hnew : ∀ p b, B' id p = some b → w.heap.size ≤ b := by
      intro p b h
      rcases hm.fresh id p b h with h1 | ⟨r0, p0, h1⟩
      · exact h1
      · obtain ⟨_, rfl, rfl⟩ := callerB_some h1
        have h2 := (hm.foreign _ _ _ rfl h1).1
        exact absurd (congrArg Prod.fst (hr'.inj _ _ _ _ _ h h2).1) hid
    have hlook : ∀ r, lkH (setH hp id (some ⟨ver, node⟩)) r = if r = id then some ⟨ver, node⟩ else lkH hp r := fun r => lookH_setH ..
    have hm' : Mono w B (lkH hp) V w' B2 (lkH (setH hp id (some ⟨ver, node⟩))) V' := by
      refine caller_mono hr hm (fun b hb => untouched hm b hb) hVV (fun r rt h => ?_) B2 (fun r p h0 => hB2ne r p (fun e => hid (e ▸ h0))) (fun r rt h hv p => ?_) (fun r p b h => ?_)
      · rw [hlook] at h
        split at h
        · cases h; exact .inl hv1
        · exact .inr h
      · rw [hlook] at h
        split at h
        · cases h; exact absurd hv hv1
        · rename_i hne; exact hB2ne r p hne
      · by_cases hri : r = id
        · subst hri; rw [hB2id] at h; exact .inl (hnew p b h)
        · rw [hB2ne r p hri] at h; exact .inr h
    have hup : Mono w' B2 (one id ⟨ver, node⟩) (· = ver) w' B2 (lkH (setH hp id (some ⟨ver, node⟩))) V' :=
      ⟨Nat.le_refl _, fun _ _ h => ⟨h, rfl⟩, fun _ _ _ _ h => ⟨h, rfl⟩, fun r p _ h => .inr ⟨r, p, h⟩, fun _ _ h => h, fun n hn => by have hn' : n = ver := hn; rw [hn']; exact hv2, fun r rt h => by
        rw [hlook] at h
        split at h
        · rename_i e0
          exact .inr ⟨rt, by simp [one, e0, h], rfl, fun _ _ h => ⟨h, rfl⟩⟩
        · refine .inl (fun he => ?_)
          have h5 := hr.ver r rt h
          have h6 : rt.ver = ver := he
          rw [h6] at h5
          exact hv1 h5, rfl, rfl, rfl⟩
    obtain ⟨hb1, hb2⟩ := hback w' B' B2 v hm hr' hB2id (fun r p b hne h => by rw [hB2ne r p hne] at h; exact h)
    refine ⟨v, B2, rfl, (hb1 hv).mono hup, ⟨fun r rt h => ?_, fun r rt h => ?_, fun r p b h => ?_, fun r rt h => ?_, fun r p r' p' b h h' => ?_⟩, hm'⟩
    · rw [hlook] at h
      split at h
      · rename_i e0
        subst e0
        obtain rfl : (⟨ver, node⟩ : Root) = rt := Option.some.inj h
        exact (hb2 (hr'.root r ⟨ver, node⟩ (by simp [one]))).mono hup (fun t s ht => ⟨rfl, fun _ _ => rfl⟩)
      · rename_i hne
        exact (hr.root r rt h).mono hm' (fun t s ht => ⟨hB2ne r t hne, fun b hb => untouched hm b (hr.dom _ _ _ hb).1⟩)
    · rw [hlook] at h
      split at h
      · cases h; exact hv2
      · exact hVV _ (hr.ver r rt h)
    · by_cases hri : r = id
      · subst hri
        rw [hB2id] at h
        obtain ⟨h1, h2⟩ := hr'.dom _ _ _ h
        obtain ⟨rt, s, h3, h4⟩ := h2.resolve_left hid
        simp [one] at h3
        subst h3
        exact ⟨h1, .inr ⟨_, s, by rw [hlook, if_pos rfl], h4⟩⟩
      · rw [hB2ne r p hri] at h
        obtain ⟨h1, h2⟩ := hr.dom _ _ _ h
        refine ⟨Nat.lt_of_lt_of_le h1 hm.size, h2.imp (fun h => h) (fun ⟨rt, s, h3, h4⟩ => ⟨rt, s, by rw [hlook, if_neg hri]; exact h3, h4⟩)⟩
    · rw [hlook] at h
      split at h
      · rename_i e0; rw [e0]; exact hid
      · exact hr.lev r rt h
    · by_cases hri : r = id
      · subst hri
        rw [hB2id] at h
        by_cases hri' : r' = r
        · subst hri'
          rw [hB2id] at h'
          exact hr'.inj _ _ _ _ _ h h'
        · rw [hB2ne r' p' hri'] at h'
          have h5 := hnew p b h
          have h6 := (hr.dom _ _ _ h').1
          omega
      · rw [hB2ne r p hri] at h
        by_cases hri' : r' = id
        · subst hri'
          rw [hB2id] at h'
          have h5 := hnew p' b h'
          have h6 := (hr.dom _ _ _ h).1
          omega
        · rw [hB2ne r' p' hri'] at h'
          exact hr.inj _ _ _ _ _ h h'
  have hall : ∀ b, (∃ r p, B r p = some b) → b < w.heap.size := fun b ⟨r, p, h⟩ => (hr.dom r p b h).1
  have hfreeAll : ∀ b, free B b → free (callerB fun b => ∃ r p, B r p = some b) b := fun b hf r p h => by
    obtain ⟨⟨r0, p0, h1⟩, _, _⟩ := callerB_some h
    exact hf r0 p0 h1
  have hfreeNone : ∀ b, free (callerB fun _ => False) b := fun b r p h => (callerB_some h).1
  have hset : ∀ x, lkH (setH hp id (some x)) = fun j => if j = id then some x else lkH hp j := fun x => funext fun j => lookH_setH hp id j (some x)
  cases hcall with
  | frozen _ hc hpl =>
    refine hF (fun b => ∃ r p, B r p = some b) hall args _ hc (ha.turn fun x v hx hv => (hv.plainL (hpl x hx)).conv rfl rfl (fun b _ hf => hfreeAll b hf)) (fun w' B' v hm hv => hv.conv rfl rfl (fun b _ hf r p h => ?_))
    exact hf _ _ (hm.foreign (0, 0) _ b rfl (callerB_at ⟨r, p, h⟩)).1
  | plain _ hp2 hH hfb hc hl =>
    have hmap : args.map (view 9 hp2) = args.map (view 9 hp) := List.map_congr_left fun x _ => view_congr hH 9 x
    rw [hmap] at hc
    exact hF (fun _ => False) (fun _ h => h.elim) _ _ hc (ha.map fun x v _ hv => (VR.view hr (fun b _ _ => hfreeNone b) (fun _ _ b _ _ => hfreeNone b) 9).1 x v hv) (fun w' B' v hm hv => hv.leafyL hl)
  | own node res hc hpl =>
    rw [← hset]
    refine hO (fun b => ∃ r p, B r p = some b) hall args node res hc (ha.turn fun x v hx hv => (hv.plainL (hpl x hx)).conv rfl rfl (fun b _ hf => hfreeAll b hf)) (fun w' B' B2 v hm hr' h1 h2 => ?_)
    have hfr : ∀ b, free B' b → free B2 b := by
      intro b hf r p h
      by_cases hri : r = id
      · subst hri; rw [h1] at h; exact hf _ _ h
      · exact hf _ _ (hm.foreign (0, 0) _ b rfl (callerB_at ⟨r, p, h2 r p b hri h⟩)).1
    have ht : Turn w' B' (one id ⟨ver, node⟩) (· = ver) w' B2 (one id ⟨ver, node⟩) (· = ver) :=
      ⟨Nat.le_refl _, fun b _ hf => ⟨hfr b hf, .inl rfl⟩, fun _ _ h => h, fun _ h => h, fun r rt h => .inr ⟨rt, h, rfl, fun p s hp => ⟨hp, by
        simp only [one] at h
        split at h
        · rename_i e0; rw [e0]; exact h1 p
        · cases h⟩⟩⟩
    exact ⟨fun h => h.turn ht, fun h => h.turn ht (fun t s _ => ⟨h1 t, fun _ _ => rfl⟩)⟩
  | ownPlain sz n g res hp2 hH hfb hc hl hg =>
    have hmap : args.map (view 9 hp2) = args.map (view 9 hp) := List.map_congr_left fun x _ => view_congr hH 9 x
    rw [hmap] at hc
    rw [← hset]
    refine hO (fun _ => False) (fun _ h => h.elim) _ (.own sz n g) res hc (ha.map fun x v _ hv => (VR.view hr (fun b _ _ => hfreeNone b) (fun _ _ b _ _ => hfreeNone b) 9).1 x v hv) (fun w' B' B2 v hm hr' h1 h2 => ?_)
    have hB : ∀ r rt, one id ⟨ver, .own sz n g⟩ r = some rt → ∀ p, B2 r p = B' r p := by
      intro r rt h p
      simp only [one] at h
      split at h
      · rename_i e0; rw [e0]; exact h1 p
      · cases h
    refine ⟨fun h => h.swapL hl hB, fun h => ?_⟩
    cases h with
    | own h => exact .own (h.swap hg hB h1)

/-- The steps of a list of operations, by their numbers. -/
def Run (P : Program) (lv : Nat) (all : List Oper) (fls : List Fl) (nv : Nat) : List Nat → Tm → Roots → Tm → Roots → Prop
  | [], tm, H, tm', H' => tm' = tm ∧ H' = H
  | i :: l, tm, H, tm', H' => ∃ o fl u H1, all[i]? = some o ∧ fls[i]? = some fl ∧ Step P lv all (nv + i) fl tm o H u H1 ∧ Run P lv all fls nv l (putT tm o.dst u) H1 tm' H'

def Teq (tm tm' : Tm) : Prop := ∀ t, lk tm t = lk tm' t
theorem Teq.put {tm tm' : Tm} (h : Teq tm tm') (d : Option Tmp) (u : PV) : Teq (putT tm d u) (putT tm' d u) := fun t => by rw [lk_putT, lk_putT, h t]

theorem Run.teq {P lv all fls nv} {l : List Nat} {tm tm1 tm' : Tm} {H H' : Roots} (h : Run P lv all fls nv l tm H tm' H') (ht : Teq tm tm1) : ∃ tm1', Run P lv all fls nv l tm1 H tm1' H' ∧ Teq tm' tm1' := by
  induction l generalizing tm tm1 H with
  | nil => obtain ⟨rfl, rfl⟩ := h; exact ⟨tm1, ⟨rfl, rfl⟩, ht⟩
  | cons i l ih =>
    obtain ⟨o, fl, u, H1, h1, h2, h3, h4⟩ := h
    obtain ⟨tm1', h5, h6⟩ := ih h4 (ht.put o.dst u)
    exact ⟨tm1', ⟨o, fl, u, H1, h1, h2, h3.ag (fun t _ => ht t), h5⟩, h6⟩

theorem A.ok_list {fb ow} {a : A} {hp : Hp} {v : PV} {H' : Roots} (h : a.ok fb ow (lkH hp) v H') : ∃ hp', lkH hp' = H' := by
  induction a generalizing hp with
  | ret x => obtain ⟨rfl, rfl⟩ := h; exact ⟨hp, rfl⟩
  | vc p k ih => exact ih h.2
  | hyp p k ih => exact ih h
  | rd r k ih => exact ih _ h.2
  | wr r x k ih =>
    refine ih (hp := setH hp r x) ?_
    have : (lkH (setH hp r x)) = fun j => if j = r then x else lkH hp j := funext fun j => lookH_setH hp r j x
    rw [this]
    exact h.2
  | any k ih => exact h.elim
  | dec p k ih => exact ih _ h
  | opt o k ih => exact ih _ h
  | all p k ih => exact h.elim
  | fail => exact h.elim

theorem Step.list {P lv all ver fl} {tm : Tm} {o : Oper} {H H' : Roots} {u : PV} (h : Step P lv all ver fl tm o H u H') (hH : ∃ hp, lkH hp = H) : ∃ hp, lkH hp = H' := by
  obtain ⟨hp, rfl⟩ := hH
  obtain ⟨c, _, h⟩ := h
  have key : ∀ v, StepT P lv ver (fbOf lv fl.1) (owOf lv fl o) tm o (lkH hp) v H' → ∃ hp, lkH hp = H' := by
    intro v hv
    unfold StepT at hv
    split at hv
    · obtain ⟨_, f, az, _, h⟩ := hv
      cases h with
      | frozen => exact ⟨hp, rfl⟩
      | plain => exact ⟨hp, rfl⟩
      | own node res _ _ => exact ⟨setH hp (lv, o.dst.getD 0) (some ⟨ver, node⟩), funext fun j => lookH_setH ..⟩
      | ownPlain sz n g res _ _ _ _ _ _ => exact ⟨setH hp (lv, o.dst.getD 0) (some ⟨ver, .own sz n g⟩), funext fun j => lookH_setH ..⟩
    · exact A.ok_list hv
  generalize changes o.op = chg at h
  cases chg with
  | true =>
    cases c with
    | true => exact key _ (h.1 rfl)
    | false => exact ⟨hp, (h.2 rfl).2.symm⟩
  | false =>
    obtain ⟨v, h1, h2, _⟩ := h
    cases c with
    | true => exact key _ (h1 rfl)
    | false => exact ⟨hp, (h2 rfl).symm⟩

/-- An operation taken ahead of those that it may pass. -/
theorem Run.first {P lv all fls nv} {l1 l2 : List Nat} {i : Nat} {oi : Oper} {fi : Fl} (hoi : all[i]? = some oi) (hfi : fls[i]? = some fi)
    (hc : ∀ x ∈ l1, ∀ ox fx, all[x]? = some ox → fls[x]? = some fx → pairOK all ox fx oi fi = true) {tm tm' : Tm} {H H' : Roots} (hH : ∃ hp, lkH hp = H) (h : Run P lv all fls nv (l1 ++ i :: l2) tm H tm' H') :
    ∃ u H1, Step P lv all (nv + i) fi tm oi H u H1 ∧ ∃ tm'', Run P lv all fls nv (l1 ++ l2) (putT tm oi.dst u) H1 tm'' H' ∧ Teq tm' tm'' := by
  induction l1 generalizing tm H with
  | nil =>
    obtain ⟨o, fl, u, H1, h1, h2, h3, h4⟩ := h
    rw [hoi] at h1; rw [hfi] at h2
    cases h1; cases h2
    exact ⟨u, H1, h3, tm', h4, fun _ => rfl⟩
  | cons x l1 ih =>
    obtain ⟨ox, fx, ux, Hx, h1, h2, h3, h4⟩ := h
    obtain ⟨u, H1, h5, tm'', h6, h7⟩ := ih (fun y hy => hc y (by simp [hy])) (h3.list hH) h4
    have hpr := hc x (by simp) ox fx h1 h2
    have hpr' := hpr
    simp only [pairOK, Bool.and_eq_true] at hpr'
    obtain ⟨⟨⟨p1, p2⟩, p3⟩, _⟩ := hpr'
    have ag1 : agT (usesT all oi) (putT tm ox.dst ux) tm := fun t ht => by
      rw [lk_putT]
      split
      · rename_i e; rw [e] at p1; simp at p1; exact absurd ht p1
      · rfl
    have ag2 : agT (usesT all ox) tm (putT tm oi.dst u) := fun t ht => by
      rw [lk_putT]
      split
      · rename_i e; rw [e] at p2; simp at p2; exact absurd ht p2
      · rfl
    obtain ⟨H1', s1, s2⟩ := swapH hH hpr h3 (h5.ag ag1) (fun H' hH' ver fl o v H1' hs => hs.list hH')
    have hte : Teq (putT (putT tm ox.dst ux) oi.dst u) (putT (putT tm oi.dst u) ox.dst ux) := fun t => by
      simp only [lk_putT]
      by_cases e1 : oi.dst = some t
      · by_cases e2 : ox.dst = some t
        · rw [e1, e2] at p3; simp at p3
        · simp [e1, e2]
      · simp [e1]
    obtain ⟨tm3, h8, h9⟩ := h6.teq hte
    exact ⟨u, H1', s1, tm3, ⟨ox, fx, ux, H1, h1, h2, s2.ag ag2, h8⟩, fun t => (h7 t).trans (h9 t)⟩

/-! ### The check -/
def preds (o : Oper) : List Nat := (o.after.toList.filter fun e => Region.binds .any e).map (·.on)

def masksGo : List Oper → List Nat → List Nat
  | [], ms => ms
  | o :: os, ms => masksGo os (ms ++ [(preds o).foldl (fun m p => m ||| (1 <<< p) ||| ms.getD p 0) 0])

def drawOK (all : List Oper) (fls : List Fl) (ms : List Nat) : Bool :=
  all.length == fls.length && (List.range all.length).all fun i => match all[i]?, fls[i]? with
    | some o, some fl => (preds o).all (fun p => decide (p < i)) && (List.range i).all fun x =>
      if (ms.getD i 0).testBit x then (preds o).any fun p => p == x || (decide (x < p) && (ms.getD p 0).testBit x)
      else match all[x]?, fls[x]? with
        | some ox, some fx => pairOK all ox fx o fl
        | _, _ => false
    | _, _ => false

theorem drawOK_at {all : List Oper} {fls : List Fl} {ms : List Nat} (h : drawOK all fls ms = true) {i : Nat} {o : Oper} (hi : all[i]? = some o) :
    ∃ fl, fls[i]? = some fl ∧ (∀ p ∈ preds o, p < i) ∧ ∀ x < i, ((∃ p ∈ preds o, p = x ∨ x < p ∧ (ms.getD p 0).testBit x = true) ∨ (ms.getD i 0).testBit x = false ∧ ∃ ox fx, all[x]? = some ox ∧ fls[x]? = some fx ∧ pairOK all ox fx o fl = true) := by
  unfold drawOK at h
  rw [Bool.and_eq_true] at h
  have hlt : i < all.length := (List.getElem?_eq_some_iff.1 hi).1
  have h2 := List.all_eq_true.1 h.2 i (List.mem_range.2 hlt)
  rw [hi] at h2
  cases hf : fls[i]? with
  | none => rw [hf] at h2; cases h2
  | some fl =>
    rw [hf] at h2
    simp only [Bool.and_eq_true] at h2
    obtain ⟨h3, h4⟩ := h2
    refine ⟨fl, rfl, fun p hp => by simpa using List.all_eq_true.1 h3 p hp, fun x hx => ?_⟩
    have h5 := List.all_eq_true.1 h4 x (List.mem_range.2 hx)
    split at h5
    · obtain ⟨p, hp, h6⟩ := List.any_eq_true.1 h5
      exact .inl ⟨p, hp, by simpa using h6⟩
    · rename_i hb
      split at h5
      · rename_i ox fx h6 h7
        exact .inr ⟨by simpa using hb, ox, fx, h6, h7, h5⟩
      · cases h5
end Go.Ab
namespace Go.Ab
open Classical

theorem step_sound {P : Program} {lv : Nat} {nt : FS} {ro : Option Nat} {ops : Array Oper} {Q : Exit → Act → World → Prop} (hlv : lv ≠ 0) {i ver : Nat} {o : Oper} {fl : Fl} {tm : Tm} {hp : Hp} {u : PV} {H1 : Roots} {V : Nat → Prop} {w : World} {B : Blocks} {a : Act}
    (hio : ops[i]? = some o) (hdo : dstOK nt o.dst = true) (hver : ¬ V ver) (hs : Step P lv ops.toList ver fl tm o (lkH hp) u H1) (ht : TmR w B (lkH hp) V nt tm a) (hr : HR w B (lkH hp) V) {K : Act → World → Prop}
    (hK : ∀ w' B' hp' a', lkH hp' = H1 → TmR w' B' (lkH hp') (ors V ver) nt (putT tm o.dst u) a' → HR w' B' (lkH hp') (ors V ver) → Mono w B (lkH hp) V w' B' (lkH hp') (ors V ver) → K a' w') :
    wpOpIn (Wd ro) 0 P ops Q i K a w := by
  obtain ⟨c, hg, h⟩ := hs
  have hw := guard_sound ht ops o hg
  simp only [wpOpIn, hio, hw]
  have hab : ∀ f, o.about P w a.eval = some f → (Wd ro).fn f := fun _ _ => trivial
  have value : ∀ (nx : Next) (v : Value) (w' : World) (B' : Blocks) (hp' : Hp), (o.semAt ro a.eval).run P w = .ok nx w' → (nx = .value v ∨ nx = .skip ∧ v = Go.undef) →
      lkH hp' = H1 → VR w' B' (lkH hp') (ors V ver) u v → HR w' B' (lkH hp') (ors V ver) → Mono w B (lkH hp) V w' B' (lkH hp') (ors V ver) → Oper.wpIn (Wd ro) 0 P o a w K Q := by
    intro nx v w' B' hp' he hnx hh hv hr' hm'
    refine ⟨fun _ _ => trivial, ?_⟩
    show o.uponIn (Wd ro) 0 P a K Q ((o.semAt ro a.eval).run P w)
    rw [he]
    have := hK w' B' hp' _ hh ((ht.mono hm').putT hdo hv) hr' hm'
    rcases hnx with rfl | ⟨rfl, rfl⟩
    · exact this
    · exact this
  have stepT : ∀ x, StepT P lv ver (fbOf lv fl.1) (owOf lv fl o) tm o (lkH hp) x H1 → (∀ w B H V v, VR w B H V x v → VR w B H V u v) → Oper.wpIn (Wd ro) 0 P o a w K Q := by
    intro x hx hxu
    unfold StepT at hx
    split at hx
    · rename_i hc
      obtain ⟨_, f, az, h1, h2⟩ := hx
      have hc2 : callee tm o.op fun f' az' => f' = f ∧ az' = az := callee_iff.2 ⟨f, az, h1, rfl, rfl⟩
      refine ⟨fun _ _ => trivial, ?_⟩
      show o.uponIn (Wd ro) 0 P a K Q ((o.semAt ro a.eval).run P w)
      unfold callee at hc2
      split at hc2
      · rename_i fo args _ hop
        have hev := ht.evC fo
        split at hc2
        · rename_i g first caps hfe
          rw [hfe] at hev
          split at hc2
          · rename_i az' has
            obtain ⟨rfl, rfl⟩ := hc2
            generalize hfv : a.eval fo = fv at hev
            cases hev with
            | @func _ _ _ _ _ cs1 cs2 hl hl' g1 g2 =>
              have hargs : LR w B (lkH hp) V (first ++ az' ++ caps) (cs1 ++ args.map a.eval ++ cs2) := by
                refine LR.append (LR.append ⟨hl, g1⟩ ?_) ⟨hl', g2⟩
                simpa using vals_LR ht args.toList az' has
              obtain ⟨hen, hcalls⟩ := h2.sound (V' := ors V ver) hlv hver (.inr rfl) (fun _ h => .inl h) hr hargs
              have he : (o.semAt ro a.eval).run P w = .ok (.enter g (cs1 ++ args.map a.eval ++ cs2)) w := by
                rw [Oper.semAt_eq _ _ _ (by rw [hop]; intro c h; cases h)]
                simp [execOp, hop, resolve, hfv, Deferred.ofValue, invoke, hen _ w]
              rw [he, Oper.uponIn_enter]
              refine ⟨fun h => by simp [Wd, Fence.wide] at h, callsIn_Wd (hcalls.mono fun e w' he => ?_)⟩
              obtain ⟨v, B', rfl, hv, hr', hm'⟩ := he
              have hlist : ∃ hp', lkH hp' = H1 := by
                cases h2 with
                | frozen => exact ⟨hp, rfl⟩
                | plain => exact ⟨hp, rfl⟩
                | own node res _ _ => exact ⟨setH hp (lv, o.dst.getD 0) (some ⟨ver, node⟩), funext fun j => lookH_setH ..⟩
                | ownPlain sz n g res _ _ _ _ _ _ => exact ⟨setH hp (lv, o.dst.getD 0) (some ⟨ver, .own sz n g⟩), funext fun j => lookH_setH ..⟩
              obtain ⟨hp', rfl⟩ := hlist
              exact hK w' B' hp' _ rfl ((ht.mono hm').putT hdo (hxu _ _ _ _ _ hv)) hr' hm'
          · exact hc2.elim
        · exact hc2.elim
      · exact hc2.elim
    · have hok : (opA P lv ver tm o).wp hp fun v hp' => v = x ∧ lkH hp' = H1 := A.ok_wp hx fun hp' h => ⟨rfl, h⟩
      have hnd : ∀ c, o.op ≠ .defer c := fun c hc => by
        unfold opA opB at hok
        rw [hc] at hok
        exact hok
      obtain ⟨nx, v, w', B', hp', x', he, hnx, ⟨rfl, hh⟩, hv, hr', hm'⟩ := opA_real (P := P) (ver := ver) hlv hr hver ht o _ hok
      exact value nx v w' B' hp' (by rw [Oper.semAt_eq _ _ _ hnd]; exact he) hnx hh (hxu _ _ _ _ _ hv) hr' hm'
  have pass : u = .undef ∨ (∃ v, u = .whn false v) → H1 = lkH hp → K (a.put o.dst Go.undef) w := by
    intro hu hh
    have hmu : Mono w B (lkH hp) V w B (lkH hp) (ors V ver) := Mono.more ..
    refine hK w B hp _ hh.symm ((ht.mono hmu).putT hdo ?_) (hr.more ver) hmu
    rcases hu with rfl | ⟨v, rfl⟩
    · exact .undef _
    · exact .whn (fun e => by cases e) (fun _ => rfl)
  generalize hchg : changes o.op = chg at h
  cases chg with
  | true =>
    cases c with
    | true => simp only [if_true]; exact stepT u (h.1 rfl) (fun _ _ _ _ _ h => h)
    | false => simp only [Bool.false_eq_true, if_false]; exact ⟨hab, pass ((h.2 rfl).1.elim .inl fun e => by rw [e]; exact noT_cases P o) (h.2 rfl).2⟩
  | false =>
    obtain ⟨v, h1, h2, h3⟩ := h
    cases c with
    | true =>
      simp only [if_true]
      refine stepT v (h1 rfl) (fun w B H V x hx => ?_)
      rw [h3]
      split
      · exact .whn (fun _ => hx) (fun e => by cases e)
      · exact hx
    | false =>
      simp only [Bool.false_eq_true, if_false]
      refine ⟨hab, pass (.inr ⟨v, ?_⟩) (h2 rfl)⟩
      rw [h3]
      cases hgd : o.guard with
      | none => simp [guardC, hgd] at hg
      | some _ => rfl

def Vl (nv : Nat) (listed : Array Bool) : Nat → Prop := fun v => v < nv ∨ ∃ j, listed.getD j false = true ∧ v = nv + j

def rem (n : Nat) (listed : Array Bool) : List Nat := (List.range n).filter fun j => !listed.getD j true

theorem getD_agree {l : Array Bool} {j : Nat} (h : j < l.size) : l.getD j true = l.getD j false := by simp [Array.getD, h]

theorem set_getD {l : Array Bool} {i j : Nat} (hi : i < l.size) : (l.setIfInBounds i true).getD j false = (if j = i then true else l.getD j false) := by
  by_cases e : j = i
  · subst e; simp [hi]
  · rw [getD_set_ne _ (fun h => e h.symm), if_neg e]

theorem rem_split {n : Nat} {listed : Array Bool} {i : Nat} (hi : i < n) (hl : listed.getD i true = false) : ∃ l1 l2, rem n listed = l1 ++ i :: l2 ∧ (∀ x ∈ l1, x < i ∧ listed.getD x true = false) ∧ rem n (listed.setIfInBounds i true) = l1 ++ l2 := by
  have hsz : i < listed.size := by
    rcases Nat.lt_or_ge i listed.size with h | h
    · exact h
    · simp [Array.getElem?_eq_none h] at hl
  have hr : List.range n = List.range i ++ i :: List.range' (i + 1) (n - i - 1) := by
    have h1 : n = i + (1 + (n - i - 1)) := by omega
    conv => lhs; rw [h1]
    rw [List.range_eq_range', List.range_eq_range', ← List.range'_append_1, Nat.zero_add, Nat.add_comm 1, List.range'_succ]
  refine ⟨(List.range i).filter fun j => !listed.getD j true, (List.range' (i + 1) (n - i - 1)).filter fun j => !listed.getD j true, ?_, fun x hx => ?_, ?_⟩
  · unfold rem; rw [hr, List.filter_append, List.filter_cons, hl]; rfl
  · obtain ⟨h1, h2⟩ := List.mem_filter.1 hx
    exact ⟨List.mem_range.1 h1, by simpa using h2⟩
  · unfold rem
    rw [hr, List.filter_append, List.filter_cons]
    have e1 : (listed.setIfInBounds i true).getD i true = true := by simp [hsz]
    rw [e1]
    congr 1
    · refine List.filter_congr fun x hx => ?_
      have : i ≠ x := fun e => by have := List.mem_range.1 hx; omega
      rw [getD_set_ne _ this]
    · refine List.filter_congr fun x hx => ?_
      have : i ≠ x := fun e => by have := (List.mem_range'_1.1 hx).1; omega
      rw [getD_set_ne _ this]

theorem mem_preds {o : Oper} {p : Nat} : p ∈ preds o ↔ ∃ e ∈ o.after, Region.binds .any e = true ∧ e.on = p := by
  unfold preds
  simp only [List.mem_map, List.mem_filter, Array.mem_toList_iff]
  exact ⟨fun ⟨e, ⟨h1, h2⟩, h3⟩ => ⟨e, h1, h2, h3⟩, fun ⟨e, h1, h2, h3⟩ => ⟨e, ⟨h1, h2⟩, h3⟩⟩

/-- All that come from one place on wait for all that come ahead of it. -/
def cutB (ms : List Nat) (e : Nat) : Bool := (ms.drop e).all fun m => Nat.beq (m % 2 ^ e) (2 ^ e - 1)
theorem cutB_bits {ms : List Nat} {e : Nat} (h : cutB ms e = true) {i x : Nat} (hi : e ≤ i) (hlt : i < ms.length) (hx : x < e) : (ms.getD i 0).testBit x = true := by
  have hm : ms.getD i 0 ∈ ms.drop e := by
    rw [List.getD_eq_getElem?_getD, List.getElem?_eq_getElem hlt]
    exact List.mem_iff_getElem.2 ⟨i - e, by simp; omega, by simp [show e + (i - e) = i by omega]⟩
  have h1 := Nat.eq_of_beq_eq_true (List.all_eq_true.1 h _ hm)
  have h2 : (ms.getD i 0 % 2 ^ e).testBit x = true := by
    rw [h1, Nat.testBit_two_pow_sub_one]
    simpa using hx
  rw [Nat.testBit_mod_two_pow] at h2
  simp at h2
  exact h2.2

/-- What runs when all ahead of one place are done. -/
def AnyAt (ro : Option Nat) (P : Program) (ops : Array Oper) (Q : Exit → Act → World → Prop) (s : Nat) (a : Act) (w : World) : Prop :=
  ∀ listed : Array Bool, listed.size = ops.size → (∀ j, listed.getD j false = true ↔ j < s) → wpAnyIn (Wd ro) 0 P .any ops Q (ops.size - s) listed a w

theorem any_seg {P : Program} {lv nv nv0 : Nat} {nt : FS} {ro : Option Nat} {ops : Array Oper} {fls : List Fl} {ms : List Nat} {Q : Exit → Act → World → Prop} (hlv : lv ≠ 0) (hd : ∀ o ∈ ops.toList, dstOK nt o.dst = true)
    (hck : drawOK ops.toList fls ms = true) {e : Nat} (hcut : ∀ i x, e ≤ i → i < ops.size → x < e → (ms.getD i 0).testBit x = true) (hsz : e ≤ ops.size) {w0 : World} {B0 : Blocks} {hp0 : Hp} {tmF : Tm} {HF : Roots}
    (hQ : ∀ tm hp w B a, Teq tmF tm → lkH hp = HF → TmR w B (lkH hp) (· < nv + e) nt tm a → HR w B (lkH hp) (· < nv + e) → Mono w0 B0 (lkH hp0) (· < nv0) w B (lkH hp) (· < nv + e) → AnyAt ro P ops Q e a w) :
    ∀ (fuel : Nat) (listed : Array Bool), listed.size = ops.size → (∀ j, e ≤ j → listed.getD j false = false) → (rem e listed).length = fuel →
      (∀ i, listed.getD i false = true → ∀ x, x < i → (ms.getD i 0).testBit x = true → listed.getD x false = true) →
      ∀ tm tm' hp w B a, Run P lv ops.toList fls nv (rem e listed) tm (lkH hp) tm' HF → Teq tmF tm' → TmR w B (lkH hp) (Vl nv listed) nt tm a → HR w B (lkH hp) (Vl nv listed) →
        Mono w0 B0 (lkH hp0) (· < nv0) w B (lkH hp) (Vl nv listed) → wpAnyIn (Wd ro) 0 P .any ops Q (fuel + (ops.size - e)) listed a w := by
  intro fuel
  have hready : ∀ (listed : Array Bool), listed.size = ops.size → (∀ j, e ≤ j → listed.getD j false = false) → rem e listed ≠ [] → Region.ready .any ops listed ≠ [] := by
    intro listed hsz' hhi hne hre
    cases hrem : rem e listed with
    | nil => exact hne hrem
    | cons i rest =>
      have hi : i ∈ rem e listed := by rw [hrem]; simp
      obtain ⟨h1, h2⟩ := List.mem_filter.1 hi
      have hlte := List.mem_range.1 h1
      have hlt : i < ops.size := by omega
      obtain ⟨l1, l2, h3, h4, _⟩ := rem_split hlte (by simpa using h2 : listed.getD i true = false)
      have hl1 : l1 = [] := by
        cases l1 with
        | nil => rfl
        | cons x l1 =>
          rw [hrem] at h3
          obtain ⟨rfl, _⟩ := List.cons.inj h3
          have := (h4 i (by simp)).1
          omega
      have hsmall : ∀ x < i, listed.getD x false = true := by
        intro x hx
        cases hb : listed.getD x true with
        | true => rw [← getD_agree (by omega)]; exact hb
        | false =>
          obtain ⟨l1', l2', h5, h6, _⟩ := rem_split (show x < e by omega) hb
          have hl1' : l1' = [] ∨ ∃ r, l1' = i :: r := by
            cases l1' with
            | nil => exact .inl rfl
            | cons y l1' => rw [hrem] at h5; obtain ⟨rfl, _⟩ := List.cons.inj h5; exact .inr ⟨_, rfl⟩
          rcases hl1' with rfl | ⟨r, rfl⟩
          · rw [hrem] at h5; obtain ⟨rfl, _⟩ := List.cons.inj h5; omega
          · have := (h6 i (by simp)).1; omega
      obtain ⟨o, ho⟩ : ∃ o, ops[i]? = some o := ⟨ops[i], by simp [hlt]⟩
      obtain ⟨fl, _, hp, _⟩ := drawOK_at hck (i := i) (o := o) (by simpa using ho)
      have : i ∈ Region.ready .any ops listed := mem_ready.2 ⟨by simpa using h2, o, ho, fun e he hb => hsmall _ (hp _ (mem_preds.2 ⟨e, he, hb, rfl⟩))⟩
      rw [hre] at this
      cases this
  induction fuel with
  | zero =>
    intro listed hsz' hhi hlen hdc tm tm' hp w B a hrun hte ht hr hm
    have hrem := List.eq_nil_of_length_eq_zero hlen
    rw [hrem] at hrun
    obtain ⟨rfl, rfl⟩ := hrun
    have hV : ∀ v, Vl nv listed v → v < nv + e := by
      rintro v (h | ⟨j, h1, rfl⟩)
      · omega
      · rcases Nat.lt_or_ge j e with h | h
        · omega
        · rw [hhi j h] at h1; cases h1
    have hup : Mono w B (lkH hp) (Vl nv listed) w B (lkH hp) (· < nv + e) := (Mono.refl ..).up hV
    rw [Nat.zero_add]
    refine hQ _ hp w B a hte rfl (ht.mono hup) (hr.up hV) (hm.trans hup) listed hsz' fun j => ⟨fun h => ?_, fun h => ?_⟩
    · rcases Nat.lt_or_ge j e with h' | h'
      · exact h'
      · rw [hhi j h'] at h; cases h
    · cases hb : listed.getD j true with
      | true => rw [← getD_agree (by omega)]; exact hb
      | false =>
        have : j ∈ rem e listed := List.mem_filter.2 ⟨List.mem_range.2 h, by rw [hb]; rfl⟩
        rw [hrem] at this
        cases this
  | succ fuel ih =>
    intro listed hsz' hhi hlen hdc tm tm' hp w B a hrun hte ht hr hm
    have hne : rem e listed ≠ [] := fun h => by rw [h] at hlen; cases hlen
    rw [Nat.succ_add]
    refine ⟨fun hre => absurd hre (hready listed hsz' hhi hne), fun i hi => ?_⟩
    obtain ⟨h1, o, ho, hpre⟩ := mem_ready.1 hi
    have hlt := (Array.getElem?_eq_some_iff.1 ho).1
    obtain ⟨fl, hfl, hpl, hpair⟩ := drawOK_at hck (i := i) (o := o) (by simpa using ho)
    have hpred : ∀ p ∈ preds o, listed.getD p false = true := fun p hp => by
      obtain ⟨e, he, hb, rfl⟩ := mem_preds.1 hp
      exact hpre e he hb
    have hbits : ∀ x, x < i → (ms.getD i 0).testBit x = true → listed.getD x false = true := fun x hx hb => by
      rcases hpair x hx with ⟨p, hp, h6⟩ | ⟨h6, _⟩
      · rcases h6 with rfl | ⟨h6, h7⟩
        · exact hpred p hp
        · exact hdc p (hpred p hp) x h6 h7
      · rw [h6] at hb; cases hb
    have hie : i < e := by
      rcases Nat.lt_or_ge i e with h | h
      · exact h
      · exfalso
        cases hrem : rem e listed with
        | nil => exact hne hrem
        | cons x rest =>
          have hx : x ∈ rem e listed := by rw [hrem]; simp
          obtain ⟨g1, g2⟩ := List.mem_filter.1 hx
          have hxe := List.mem_range.1 g1
          have := hbits x (by omega) (hcut i x h hlt hxe)
          rw [← getD_agree (by omega)] at this
          rw [this] at g2
          cases g2
    obtain ⟨l1, l2, h3, h4, h5⟩ := rem_split hie h1
    rw [h3] at hrun
    obtain ⟨u, H1, hs, tm'', hrun', hte'⟩ := Run.first (l1 := l1) (l2 := l2) (oi := o) (fi := fl) (by simpa using ho) hfl (fun x hx ox fx hox hfx => by
      obtain ⟨hxi, hxl⟩ := h4 x hx
      have hxf : listed.getD x false = false := by rw [← getD_agree (by omega)]; exact hxl
      rcases hpair x hxi with ⟨p, hp, h6⟩ | ⟨_, ox', fx', h6, h7, h8⟩
      · exfalso
        rcases h6 with rfl | ⟨h6, h7⟩
        · rw [hpred p hp] at hxf; cases hxf
        · rw [hdc p (hpred p hp) x h6 h7] at hxf; cases hxf
      · rw [hox] at h6; rw [hfx] at h7
        cases h6; cases h7
        exact h8) ⟨hp, rfl⟩ hrun
    have hver : ¬ Vl nv listed (nv + i) := by
      rintro (h | ⟨j, h6, h7⟩)
      · omega
      · obtain rfl : j = i := by omega
        rw [getD_agree (by omega), h6] at h1
        cases h1
    refine step_sound (fl := fl) hlv ho (hd o (by simpa using List.mem_of_getElem? (show ops.toList[i]? = some o by simpa using ho))) hver hs ht hr (fun w' B' hp' a' hh ht' hr' hm' => ?_)
    have hV : ∀ v, ors (Vl nv listed) (nv + i) v → Vl nv (listed.setIfInBounds i true) v := by
      rintro v ((h | ⟨j, h6, rfl⟩) | rfl)
      · exact .inl h
      · exact .inr ⟨j, getD_set_true h6, rfl⟩
      · exact .inr ⟨i, by rw [set_getD (by omega), if_pos rfl], rfl⟩
    have hup : Mono w' B' (lkH hp') (ors (Vl nv listed) (nv + i)) w' B' (lkH hp') (Vl nv (listed.setIfInBounds i true)) := (Mono.refl ..).up hV
    subst hh
    refine ih (listed.setIfInBounds i true) (by simpa using hsz') (fun j hj => ?_) ?_ ?_ _ tm'' hp' w' B' a' (by rw [h5]; exact hrun') (fun t => (hte t).trans (hte' t)) (ht'.mono hup) (hr'.up hV) (hm.trans (hm'.trans hup))
    · rw [set_getD (by omega), if_neg (by omega)]; exact hhi j hj
    · rw [h5]
      rw [h3] at hlen
      simp only [List.length_append, List.length_cons] at hlen ⊢
      omega
    · intro j hj x hx hb
      rw [set_getD (by omega)] at hj ⊢
      split
      · rfl
      · split at hj
        · rename_i e
          subst e
          exact hbits x hx hb
        · exact hdc j hj x hx hb

/-- One operation that waits for all ahead of it, and for which all behind it wait. -/
theorem any_one {P : Program} {ro : Option Nat} {ops : Array Oper} {fls : List Fl} {ms : List Nat} {Q : Exit → Act → World → Prop} (hck : drawOK ops.toList fls ms = true) {s : Nat} (hcut : ∀ i x, s + 1 ≤ i → i < ops.size → x < s + 1 → (ms.getD i 0).testBit x = true) (hs : s < ops.size)
    {a : Act} {w : World} (h : wpOpIn (Wd ro) 0 P ops Q s (AnyAt ro P ops Q (s + 1)) a w) : AnyAt ro P ops Q s a w := by
  intro listed hsz hl
  rw [show ops.size - s = (ops.size - (s + 1)) + 1 by omega]
  obtain ⟨o, ho⟩ : ∃ o, ops[s]? = some o := ⟨ops[s], by simp [hs]⟩
  obtain ⟨fl, _, hp, _⟩ := drawOK_at hck (i := s) (o := o) (by simpa using ho)
  have hfs : listed.getD s false = false := by
    cases hb : listed.getD s false with
    | false => rfl
    | true => have := (hl s).1 hb; omega
  have hin : s ∈ Region.ready .any ops listed := mem_ready.2 ⟨by rw [getD_agree (by omega)]; exact hfs, o, ho, fun e he hb => (hl _).2 (hp _ (mem_preds.2 ⟨e, he, hb, rfl⟩))⟩
  refine ⟨fun hre => (by rw [hre] at hin; cases hin), fun i hi => ?_⟩
  obtain ⟨h1, oi, hoi, hpre⟩ := mem_ready.1 hi
  have hlt := (Array.getElem?_eq_some_iff.1 hoi).1
  have his : i = s := by
    have hnl : ¬ i < s := fun h => by
      have := (hl i).2 h
      rw [← getD_agree (by omega)] at this
      rw [this] at h1
      cases h1
    rcases Nat.lt_or_ge s i with h | h
    · exfalso
      obtain ⟨fi, _, hpl, hpair⟩ := drawOK_at hck (i := i) (o := oi) (by simpa using hoi)
      have hb := hcut i s h hlt (Nat.lt_succ_self s)
      rcases hpair s h with ⟨p, hp, h6⟩ | ⟨h6, _⟩
      · obtain ⟨e, he, hbb, rfl⟩ := mem_preds.1 hp
        have hpl2 := (hl _).1 (hpre e he hbb)
        rcases h6 with h6 | ⟨h6, _⟩ <;> omega
      · rw [h6] at hb; cases hb
    · omega
  subst his
  refine wpOpIn_mono (fun a w hk => ?_) h
  refine hk _ (by simpa using hsz) fun j => ?_
  rw [set_getD (by omega)]
  split
  · rename_i e; subst e; simp
  · rename_i e
    rw [hl]
    omega

end Go.Ab
namespace Go.Ab
open Classical

def A.wpD (fb ow : RId → Prop) : A → Hp → (PV → Hp → Prop) → Prop
  | .ret x, h, K => K x h
  | @A.vc p _ k, h, K => p ∧ A.wpD fb ow k h K
  | .hyp _ k, h, K => A.wpD fb ow k h K
  | .rd r k, h, K => ¬ fb r ∧ A.wpD fb ow (k (lkH h r)) h K
  | .wr r x k, h, K => ow r ∧ A.wpD fb ow k (setH h r x) K
  | .any _, _, _ => False
  | @A.dec p d k, h, K => A.wpD fb ow (k (@decide p d)) h K
  | .opt o k, h, K => A.wpD fb ow (k o) h K
  | .all .., _, _ => False
  | .fail, _, _ => False

theorem A.wpD_ok {fb ow} {a : A} {hp : Hp} {K : PV → Hp → Prop} (h : a.wpD fb ow hp K) : ∃ v hp', a.ok fb ow (lkH hp) v (lkH hp') ∧ K v hp' := by
  induction a generalizing hp with
  | ret x => exact ⟨x, hp, ⟨rfl, rfl⟩, h⟩
  | vc p k ih => obtain ⟨v, hp', h1, h2⟩ := ih h.2; exact ⟨v, hp', ⟨h.1, h1⟩, h2⟩
  | hyp p k ih => exact ih h
  | rd r k ih => obtain ⟨v, hp', h1, h2⟩ := ih _ h.2; exact ⟨v, hp', ⟨h.1, h1⟩, h2⟩
  | wr r x k ih =>
    obtain ⟨v, hp', h1, h2⟩ := ih h.2
    have : (lkH (setH hp r x)) = fun j => if j = r then x else lkH hp j := funext fun j => lookH_setH hp r j x
    rw [this] at h1
    exact ⟨v, hp', ⟨h.1, h1⟩, h2⟩
  | any k ih => exact h.elim
  | dec p k ih => exact ih _ h
  | opt o k ih => exact ih _ h
  | all p k ih => exact h.elim
  | fail => exact h.elim

def A.gwpD (c : Bool) (fb : RId → Prop) : A → Hp → (PV → Prop) → Prop
  | .ret x, _, K => K x
  | @A.vc p _ k, h, K => (c = true → p) ∧ A.gwpD c fb k h K
  | .hyp _ k, h, K => A.gwpD c fb k h K
  | .rd r k, h, K => (c = true → ¬ fb r) ∧ A.gwpD c fb (k (lkH h r)) h K
  | .wr .., _, _ => False
  | .any _, _, _ => False
  | @A.dec p d k, h, K => A.gwpD c fb (k (@decide p d)) h K
  | .opt o k, h, K => A.gwpD c fb (k o) h K
  | .all .., _, _ => False
  | .fail, _, _ => False

theorem A.gwpD_ok {c : Bool} {fb ow} {a : A} {hp : Hp} {K : PV → Prop} (h : a.gwpD c fb hp K) : ∃ v, (c = true → a.ok fb ow (lkH hp) v (lkH hp)) ∧ K v := by
  induction a with
  | ret x => exact ⟨x, fun _ => ⟨rfl, rfl⟩, h⟩
  | vc p k ih => obtain ⟨v, h1, h2⟩ := ih h.2; exact ⟨v, fun e => ⟨h.1 e, h1 e⟩, h2⟩
  | hyp p k ih => exact ih h
  | rd r k ih => obtain ⟨v, h1, h2⟩ := ih _ h.2; exact ⟨v, fun e => ⟨h.1 e, h1 e⟩, h2⟩
  | wr r x k ih => exact h.elim
  | any k ih => exact h.elim
  | dec p k ih => exact ih _ h
  | opt o k ih => exact ih _ h
  | all p k ih => exact h.elim
  | fail => exact h.elim

/-- What a quiet call may be met by. -/
inductive QWp (P : Program) (id : RId) (ver : Nat) (fb : RId → Prop) (f : FuncId) (args : List PV) (hp : Hp) (K : PV → Hp → Prop) : Prop
  | frozen (res : PV) (h : CallsF P f args res) (hpl : ∀ c ∈ args, plainArgL c) (k : K res hp)
  | plain (res : PV) (hfb : ∀ r, ¬ fb r) (h : CallsF P f (args.map (view 9 hp)) res) (hr : leafyL res) (k : K res hp)
  | own (node : PV) (res : RId → Nat → PV) (h : CallsO P f args node res) (hpl : ∀ c ∈ args, plainArgL c) (k : K (res id ver) (setH hp id (some ⟨ver, node⟩)))
  | ownPlain (sz n : Nat) (g : Nat → Nat → PV) (res : RId → Nat → PV) (hfb : ∀ r, ¬ fb r) (h : CallsO P f (args.map (view 9 hp)) (.own sz n g) res) (hr : leafyL (res id ver)) (hg : ∀ i o, i < n → leafy (g i o)) (k : K (res id ver) (setH hp id (some ⟨ver, .own sz n g⟩)))

theorem QWp.ok {P id ver fb f args hp K} (h : QWp P id ver fb f args hp K) : ∃ v hp', QCall P id ver fb f args (lkH hp) v (lkH hp') ∧ K v hp' := by
  have hset : ∀ x, lkH (setH hp id (some x)) = fun j => if j = id then some x else lkH hp j := fun x => funext fun j => lookH_setH hp id j (some x)
  cases h with
  | frozen res h hpl k => exact ⟨res, hp, .frozen res h hpl, k⟩
  | plain res hfb h hr k => exact ⟨res, hp, .plain res hp rfl hfb h hr, k⟩
  | own node res h hpl k => exact ⟨_, _, by rw [hset]; exact .own node res h hpl, k⟩
  | ownPlain sz n g res hfb h hr hg k => exact ⟨_, _, by rw [hset]; exact .ownPlain sz n g res hp rfl hfb h hr hg, k⟩

/-- The operations of a drawn region, in the text's order. -/
def opsD (P : Program) (lv : Nat) (all : List Oper) (K : Tm → Hp → Nat → Prop) : List Oper → List Fl → Tm → Hp → Nat → Prop
  | [], _, tm, hp, nv => K tm hp nv
  | o :: os, fls, tm, hp, nv => match guardC all tm o.guard with
    | none => False
    | some c => if isCall o.op then
        (c = true → owOf lv (fls.headD default) o (lv, o.dst.getD 0) ∧ callee tm o.op fun f args => QWp P (lv, o.dst.getD 0) nv (fbOf lv (fls.headD default).1) f args hp fun x hp' => opsD P lv all K os fls.tail (putT tm o.dst x) hp' (nv + 1)) ∧
        (c = false → opsD P lv all K os fls.tail (putT tm o.dst (noT P o)) hp (nv + 1))
      else if changes o.op then
        (c = true → (opA P lv nv tm o).wpD (fbOf lv (fls.headD default).1) (owOf lv (fls.headD default) o) hp fun x hp' => opsD P lv all K os fls.tail (putT tm o.dst x) hp' (nv + 1)) ∧
        (c = false → opsD P lv all K os fls.tail (putT tm o.dst (noT P o)) hp (nv + 1))
      else (opA P lv nv tm o).gwpD c (fbOf lv (fls.headD default).1) hp fun x => opsD P lv all K os fls.tail (putT tm o.dst (if o.guard.isSome then .whn c x else x)) hp (nv + 1)

theorem changes_call {o : Op} (h : isCall o = true) : changes o = true := by
  unfold isCall at h
  split at h
  · rfl
  · cases h

theorem opsD_run {P lv nv} {all : List Oper} {fls : List Fl} {K : Tm → Hp → Nat → Prop} (hlen : all.length = fls.length) : ∀ (os : List Oper) (i : Nat), (∃ tl, all.drop i = os ++ tl) → ∀ tm hp, opsD P lv all K os (fls.drop i) tm hp (nv + i) →
    ∃ tm' hp', Run P lv all fls nv (List.range' i os.length) tm (lkH hp) tm' (lkH hp') ∧ K tm' hp' (nv + (i + os.length)) := by
  intro os
  induction os with
  | nil => intro i _ tm hp h; exact ⟨tm, hp, ⟨rfl, rfl⟩, h⟩
  | cons o os ih =>
    intro i ⟨tl, hi⟩ tm hp h
    have hio : all[i]? = some o := by
      have := congrArg (fun l => l[0]?) hi
      simpa using this
    have hlt : i < all.length := (List.getElem?_eq_some_iff.1 hio).1
    have hos : ∃ tl, all.drop (i + 1) = os ++ tl := by
      have := congrArg List.tail hi
      exact ⟨tl, by simpa using this⟩
    obtain ⟨fl, hfl⟩ : ∃ fl, fls[i]? = some fl := ⟨fls[i]'(by omega), by simp [show i < fls.length by omega]⟩
    have hfd : fls.drop i = fl :: fls.drop (i + 1) := by
      rw [List.drop_eq_getElem_cons (by omega)]
      congr 1
      have := List.getElem?_eq_some_iff.1 hfl
      exact this.2
    have key : ∀ (u : PV) (hp1 : Hp), Step P lv all (nv + i) fl tm o (lkH hp) u (lkH hp1) → opsD P lv all K os (fls.drop (i + 1)) (putT tm o.dst u) hp1 (nv + i + 1) →
        ∃ tm' hp', Run P lv all fls nv (List.range' i (o :: os).length) tm (lkH hp) tm' (lkH hp') ∧ K tm' hp' (nv + (i + (o :: os).length)) := by
      intro u hp1 hs hk
      obtain ⟨tm', hp', h1, h2⟩ := ih (i + 1) hos _ hp1 (by rw [← Nat.add_assoc]; exact hk)
      refine ⟨tm', hp', ?_, ?_⟩
      · rw [List.length_cons, List.range'_succ]
        exact ⟨o, fl, u, lkH hp1, hio, hfl, hs, h1⟩
      · rw [List.length_cons, show i + (os.length + 1) = i + 1 + os.length by omega]; exact h2
    rw [hfd] at h
    simp only [opsD, List.headD_cons, List.tail_cons] at h
    cases hg : guardC all tm o.guard with
    | none => rw [hg] at h; exact h.elim
    | some c =>
      rw [hg] at h
      simp only at h
      have skip : changes o.op = true → c = false → opsD P lv all K os (fls.drop (i + 1)) (putT tm o.dst (noT P o)) hp (nv + i + 1) →
          ∃ tm' hp', Run P lv all fls nv (List.range' i (o :: os).length) tm (lkH hp) tm' (lkH hp') ∧ K tm' hp' (nv + (i + (o :: os).length)) := by
        rintro hch rfl hk
        refine key (noT P o) hp ⟨false, hg, ?_⟩ hk
        rw [hch]
        exact ⟨(fun e => by cases e), fun _ => ⟨.inr rfl, rfl⟩⟩
      have doit : changes o.op = true → c = true → ∀ u hp1, StepT P lv (nv + i) (fbOf lv fl.1) (owOf lv fl o) tm o (lkH hp) u (lkH hp1) → opsD P lv all K os (fls.drop (i + 1)) (putT tm o.dst u) hp1 (nv + i + 1) →
          ∃ tm' hp', Run P lv all fls nv (List.range' i (o :: os).length) tm (lkH hp) tm' (lkH hp') ∧ K tm' hp' (nv + (i + (o :: os).length)) := by
        rintro hch rfl u hp1 hs hk
        refine key u hp1 ⟨true, hg, ?_⟩ hk
        rw [hch]
        exact ⟨fun _ => hs, (fun e => by cases e)⟩
      split at h
      · rename_i hc
        cases c with
        | true =>
          obtain ⟨how, h1⟩ := h.1 rfl
          obtain ⟨f, az, h2, h3⟩ := callee_iff.1 h1
          obtain ⟨v, hp1, h4, h5⟩ := h3.ok
          refine doit (changes_call hc) rfl v hp1 ?_ h5
          unfold StepT
          rw [if_pos hc]
          exact ⟨how, f, az, h2, h4⟩
        | false => exact skip (changes_call hc) rfl (h.2 rfl)
      · rename_i hc
        split at h
        · rename_i hch
          cases c with
          | true =>
            obtain ⟨v, hp1, h1, h2⟩ := A.wpD_ok (h.1 rfl)
            refine doit hch rfl v hp1 ?_ h2
            unfold StepT
            rw [if_neg hc]
            exact h1
          | false => exact skip hch rfl (h.2 rfl)
        · rename_i hch
          obtain ⟨v, h1, h2⟩ := A.gwpD_ok (ow := owOf lv fl o) h
          refine key _ hp ⟨c, hg, ?_⟩ h2
          rw [show changes o.op = false by simpa using hch]
          refine ⟨v, fun e => ?_, fun _ => rfl, rfl⟩
          unfold StepT
          rw [if_neg hc]
          exact h1 e

/-- Where a region is cut: lengths. -/
def cutsOK (ms : List Nat) (n : Nat) : Nat → List Nat → Bool
  | s, [] => Nat.beq s n
  | s, k :: ks => cutB ms (s + k) && cutsOK ms n (s + k) ks

theorem masksGo_length : ∀ (os : List Oper) (ms : List Nat), (masksGo os ms).length = ms.length + os.length := by
  intro os
  induction os with
  | nil => intro ms; simp [masksGo]
  | cons o os ih => intro ms; simp only [masksGo, ih, List.length_append, List.length_cons, List.length_nil]; omega

end Go.Ab
