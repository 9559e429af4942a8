/- Maps, type assertions and lengths of the evaluator stand for the machine's, wherever it answers. -/
import Derived.Test.YtgjpnajfapcobaaGreatAeF
import Derived.MapKept
set_option autoImplicit false
set_option linter.unusedVariables false
set_option linter.unusedSimpArgs false
namespace Go.Ae

/-! ### 18. Maps whose keys are numbers, strings or truths -/
def simpleKind : TypeDesc → Bool
  | .int _ | .string | .bool => true
  | _ => false
def keyAt (kind : TypeDesc) (k : Value) : List (Value × Value) → Nat → Option (Option (Nat × Value))
  | [], _ => some none
  | (k', v) :: es, i =>
    match Instr.sameNow kind k k' with
    | some true => some (some (i, v))
    | some false => keyAt kind k es (i + 1)
    | none => none

theorem sameNow_rel {μ : Mu} {kind : TypeDesc} {k k' q q' : Value} {b : Bool} (hk : VR μ k k') (hq : VR μ q q') (h : Instr.sameNow kind k q = some b) : k' = k ∧ q' = q := by
  unfold Instr.sameNow at h
  split at h
  · exact ⟨hk.inv_int, hq.inv_int⟩
  · exact ⟨hk.inv_string, hq.inv_string⟩
  · exact ⟨hk.inv_bool, hq.inv_bool⟩
  · cases h

theorem keyAt_sound {μ : Mu} {kind : TypeDesc} {k k' : Value} (hk : VR μ k k') : ∀ (es : List (Value × Value)) (l : List MapEntry) (i : Nat) (r : Option (Nat × Value)), MapRel μ es l → keyAt kind k es i = some r →
    ∃ r', Instr.findNow kind k' l i = some r' ∧ (r = none ∧ r' = none ∨ ∃ j v v', r = some (j, v) ∧ r' = some (j, v') ∧ VR μ v v' ∧ i ≤ j ∧ ∃ (e : MapEntry) (q : Value), l[j - i]? = some e ∧ es[j - i]? = some (q, v) ∧ Instr.sameNow kind k q = some true ∧ k' = k ∧ e.key = q)
  | [], [], i, r, _, h => by simp only [keyAt, Option.some.injEq] at h; subst h; exact ⟨none, rfl, .inl ⟨rfl, rfl⟩⟩
  | [], _ :: _, _, _, h, _ => h.elim
  | _ :: _, [], _, _, h, _ => h.elim
  | (q, v) :: es, e :: l, i, r, hm, h => by
    obtain ⟨h1, h2, h3⟩ := hm
    simp only [keyAt] at h
    split at h
    · rename_i hs
      cases h
      obtain ⟨e1, e2⟩ := sameNow_rel hk h1 hs
      refine ⟨some (i, e.val), ?_, .inr ⟨i, v, e.val, rfl, rfl, h2, Nat.le_refl _, e, q, by simp, by simp, hs, e1, e2⟩⟩
      simp only [Instr.findNow, e1, e2, hs]
    · rename_i hs
      obtain ⟨e1, e2⟩ := sameNow_rel hk h1 hs
      obtain ⟨r', a1, a2⟩ := keyAt_sound hk es l (i + 1) r h3 h
      refine ⟨r', by simp only [Instr.findNow]; rw [e1] at a1 ⊢; rw [e2, hs]; exact a1, ?_⟩
      rcases a2 with a2 | ⟨j, v1, v1', b1, b2, b3, b4, e0, q0, c1, c2, c3⟩
      · exact .inl a2
      · refine .inr ⟨j, v1, v1', b1, b2, b3, by omega, e0, q0, ?_, ?_, c3⟩
        · rw [show j - i = (j - (i + 1)) + 1 by omega]; simpa using c1
        · rw [show j - i = (j - (i + 1)) + 1 by omega]; simpa using c2
    · cases h

theorem run_checkKey_simple {P : Program} (w : World) {t : TypeId} {kind : TypeDesc} (h : P.underlying t = some kind) (hk : simpleKind kind = true) (em : Bool) (v : Value) :
    (Instr.checkKey em 10000 t v).run P w = .ok () w := by
  rw [show (10000 : Nat) = 9999 + 1 from rfl]
  unfold Instr.checkKey
  simp only [Sem.run_bind, run_underlying h, Result.andThen_ok]
  cases kind <;> simp only [simpleKind, Bool.false_eq_true] at hk <;> rfl

def aLookup (P : Program) (H : Heap) (t : TypeId) (x k : Value) (ok : Bool) : Option Value :=
  match P.underlying t with
  | some (.map kt et) =>
    match P.underlying kt, zeroOf P et with
    | some kind, some z =>
      if simpleKind kind = true then
        match x with
        | .map none => some (if ok then .tuple ⟨[z, .bool false]⟩ else z)
        | .map (some i) =>
          match H.get i with
          | some (.map es) =>
            match keyAt kind k es 0 with
            | some (some (_, v)) => some (if ok then .tuple ⟨[v, .bool true]⟩ else v)
            | some none => some (if ok then .tuple ⟨[z, .bool false]⟩ else z)
            | none => none
          | _ => none
        | _ => none
      else none
    | _, _ => none
  | _ => none

theorem pair_VR {μ : Mu} {ok : Bool} {v v' : Value} (b : Bool) (h : VR μ v v') : VR μ (if ok then .tuple ⟨[v, .bool b]⟩ else v) (if ok then .tuple #[v', .bool b] else v') := by
  cases ok
  · simpa using h
  · simp only [if_true]
    exact .tuple _ _ (.cons _ _ _ _ h (.cons _ _ _ _ (.bool b) .nil))

theorem aLookup_sound {P : Program} {μ : Mu} {H : Heap} {w : World} (h : Rel μ H w) {t : TypeId} {x x' k k' v : Value} {ok : Bool} (hx : VR μ x x') (hk : VR μ k k') (he : aLookup P H t x k ok = some v) :
    ∃ v', (Instr.lookup t x' k' ok).run P w = .ok v' w ∧ VR μ v v' := by
  unfold aLookup at he
  split at he
  · rename_i kt et ht
    split at he
    · rename_i kind z hkt hz
      split at he
      · rename_i hs
        split at he
        · cases he
          cases hx
          refine ⟨_, ?_, pair_VR false (zeroOf_VR hz μ)⟩
          simp only [Instr.lookup, Sem.run_bind, run_underlying ht, Result.andThen_ok, Sem.run_pure, run_checkKey_simple w hkt hs, Instr.findKey, run_underlying hkt, Instr.findNow, run_zeroValue hz]
        · rename_i i
          obtain ⟨b, sh, sz, rfl, hm⟩ := hx.inv_map
          split at he
          · rename_i es hg
            obtain ⟨a, clk, hw, hrel⟩ := h.map i es b sh sz hg hm
            split at he
            · rename_i j v1 hf
              cases he
              obtain ⟨r', q1, q2⟩ := keyAt_sound hk es a.toList 0 _ hrel hf
              rcases q2 with ⟨q2, _⟩ | ⟨j, v2, v2', e1, rfl, e3, _⟩
              · cases q2
              · cases e1
                refine ⟨_, ?_, pair_VR true e3⟩
                simp only [Instr.lookup, Sem.run_bind, run_underlying ht, Result.andThen_ok, Sem.run_pure, MapKept.run_getObj_map hw, run_checkKey_simple w hkt hs, Instr.findKey, run_underlying hkt, q1]
            · rename_i hf
              cases he
              obtain ⟨r', q1, q2⟩ := keyAt_sound hk es a.toList 0 _ hrel hf
              rcases q2 with ⟨_, rfl⟩ | ⟨j, v2, v2', e1, _⟩
              · refine ⟨_, ?_, pair_VR false (zeroOf_VR hz μ)⟩
                simp only [Instr.lookup, Sem.run_bind, run_underlying ht, Result.andThen_ok, Sem.run_pure, MapKept.run_getObj_map hw, run_checkKey_simple w hkt hs, Instr.findKey, run_underlying hkt, q1, run_zeroValue hz]
              · cases e1
            · cases he
          · cases he
        · cases he
      · cases he
    · cases he
  · cases he

theorem Rel.change_map {μ : Mu} {H : Heap} {w : World} (h : Rel μ H w) {i : Nat} {es es2 : List (Value × Value)} {b sh sz : Nat} (hg : H.get i = some (.map es)) (hx : μ i = some (b, sh, sz))
    {a : Array MapEntry} {clk : Nat} (hw : w.heap[b]? = some (.map a clk)) (a2 : Array MapEntry) (clk2 : Nat) (hr : MapRel μ es2 a2.toList) :
    Rel μ (H.set i (.map es2)) { w with heap := w.heap.setIfInBounds b (.map a2 clk2) } ∧ Step μ H w μ (H.set i (.map es2)) { w with heap := w.heap.setIfInBounds b (.map a2 clk2) } := by
  have hlt := (Array.getElem?_eq_some_iff.1 hw).1
  have h2 : (w.heap.setIfInBounds b (.map a2 clk2))[b]? = some (.map a2 clk2) := by rw [Array.getElem?_setIfInBounds]; simp [hlt]
  have ho : ∀ b', b' ≠ b → (w.heap.setIfInBounds b (.map a2 clk2))[b']? = w.heap[b']? := fun b' hb => Array.getElem?_setIfInBounds_ne (Ne.symm hb)
  have hs : (w.heap.setIfInBounds b (.map a2 clk2)).size = w.heap.size := by simp
  have hown : isOwn H i := ⟨_, hg, rfl⟩
  have hal : ∀ j, isAlive (H.set i (.map es2)) j → isAlive H j := by
    rintro j ⟨x, h1, h2⟩
    rcases Heap.get_set_or hg h1 with ⟨rfl, _⟩ | ⟨_, h1⟩
    · exact hown.alive
    · exact ⟨x, h1, h2⟩
  have how : ∀ j, isOwn (H.set i (.map es2)) j → isOwn H j := by
    rintro j ⟨x, h1, h2⟩
    rcases Heap.get_set_or hg h1 with ⟨rfl, _⟩ | ⟨_, h1⟩
    · exact hown
    · exact ⟨x, h1, h2⟩
  have hne : ∀ j b' sh' sz', μ j = some (b', sh', sz') → isAlive H j → j ≠ i → b' ≠ b := by
    rintro j b' sh' sz' hj ha hji rfl
    exact hji (h.excl i j b' sh sz sh' sz' hx hj hown ha).symm
  refine ⟨⟨h.dom, fun j b' s z hj => by show b' < (w.heap.setIfInBounds b (.map a2 clk2)).size; rw [hs]; exact h.lt j b' s z hj, ?_, ?_, ?_⟩, ⟨rfl, rfl, rfl, by show w.heap.size ≤ (w.heap.setIfInBounds b (.map a2 clk2)).size; omega, Mu.le_refl _, by simp, fun _ _ h => h, ?_, ?_⟩⟩
  · intro j o ds b' sh' sz' hgj hj
    rcases Heap.get_set_or hg hgj with ⟨rfl, hb⟩ | ⟨hji, hgj⟩
    · cases hb
    · obtain ⟨c', e', fr', q1, q2⟩ := h.row j o ds b' sh' sz' hgj hj
      exact ⟨c', e', fr', by show (w.heap.setIfInBounds b (.map a2 clk2))[b']? = _; rw [ho b' (hne j b' sh' sz' hj ⟨_, hgj, rfl⟩ hji)]; exact q1, q2⟩
  · intro j ds b' sh' sz' hgj hj
    rcases Heap.get_set_or hg hgj with ⟨rfl, hb⟩ | ⟨hji, hgj⟩
    · cases hb
      rw [hx] at hj; cases hj
      exact ⟨a2, clk2, h2, hr⟩
    · obtain ⟨c', e', q1, q2⟩ := h.map j ds b' sh' sz' hgj hj
      exact ⟨c', e', by show (w.heap.setIfInBounds b (.map a2 clk2))[b']? = _; rw [ho b' (hne j b' sh' sz' hj ⟨_, hgj, rfl⟩ hji)]; exact q1, q2⟩
  · intro j k b' s z s' z' hj hk ho' ha
    exact h.excl j k b' s z s' z' hj hk (how j ho') (hal k ha)
  · intro b' hb' hno
    exact ho b' (fun e => hno (e ▸ ⟨i, sh, sz, hx, hown⟩))
  · rintro b' hb' ⟨j, s, z, hj, hjo⟩
    exact ⟨j, s, z, hj, how j hjo⟩

def aMapUpdate (P : Program) (H : Heap) (t : TypeId) (m k v : Value) : Option Heap :=
  match P.underlying t, m with
  | some (.map kt _), .map (some i) =>
    match P.underlying kt, H.get i with
    | some kind, some (.map es) =>
      if simpleKind kind = true then
        match keyAt kind k es 0 with
        | some (some (j, _)) => some (H.set i (.map (es.set j (k, v))))
        | some none => some (H.set i (.map (es ++ [(k, v)])))
        | none => none
      else none
    | _, _ => none
  | _, _ => none

theorem MapRel.set {μ : Mu} {k v : Value} {e : MapEntry} (hk : VR μ k e.key) (hv : VR μ v e.val) : ∀ {es : List (Value × Value)} {l : List MapEntry} (j : Nat), MapRel μ es l → MapRel μ (es.set j (k, v)) (l.set j e)
  | [], [], _, _ => by simp [MapRel]
  | (_, _) :: es, _ :: l, 0, h => ⟨hk, hv, h.2.2⟩
  | (_, _) :: es, _ :: l, j + 1, h => ⟨h.1, h.2.1, MapRel.set hk hv j h.2.2⟩
  | [], _ :: _, _, h => h.elim
  | _ :: _, [], _, h => h.elim
theorem MapRel.snoc {μ : Mu} {k v : Value} {e : MapEntry} (hk : VR μ k e.key) (hv : VR μ v e.val) : ∀ {es : List (Value × Value)} {l : List MapEntry}, MapRel μ es l → MapRel μ (es ++ [(k, v)]) (l ++ [e])
  | [], [], _ => ⟨hk, hv, trivial⟩
  | (_, _) :: es, _ :: l, h => ⟨h.1, h.2.1, MapRel.snoc hk hv h.2.2⟩
  | [], _ :: _, h => h.elim
  | _ :: _, [], h => h.elim

theorem sameNow_bits {kind : TypeDesc} {k q : Value} (h : Instr.sameNow kind k q = some true) : Instr.sameBits 10000 q k = true := by
  unfold Instr.sameNow at h
  split at h
  · split at h
    · rename_i hk; subst hk
      simp only [Option.some.injEq, beq_iff_eq] at h
      simp [Instr.sameBits, h]
    · cases h
  · simp only [Option.some.injEq] at h
    simp only [Instr.sameBits]
    rw [beq_toListBytes] at h ⊢
    rw [beq_iff_eq] at h ⊢
    exact h.symm
  · simp only [Option.some.injEq, beq_iff_eq] at h
    simp [Instr.sameBits, h]
  · cases h

theorem aMapUpdate_sound {P : Program} {μ : Mu} {H H' : Heap} {w : World} (h : Rel μ H w) {t : TypeId} {m m' k k' v v' : Value} (hm : VR μ m m') (hk : VR μ k k') (hv : VR μ v v') (he : aMapUpdate P H t m k v = some H') :
    ∃ w', (Instr.mapUpdate t m' k' v').run P w = .ok () w' ∧ Rel μ H' w' ∧ Step μ H w μ H' w' := by
  unfold aMapUpdate at he
  split at he
  · rename_i kt et i ht
    obtain ⟨b, sh, sz, rfl, hx⟩ := hm.inv_map
    split at he
    · rename_i kind es hkt hg
      obtain ⟨a, clk, hw, hrel⟩ := h.map i es b sh sz hg hx
      split at he
      · rename_i hs
        split at he
        · rename_i j v0 hf
          cases he
          obtain ⟨r', q1, q2⟩ := keyAt_sound hk es a.toList 0 _ hrel hf
          rcases q2 with ⟨q2, _⟩ | ⟨j2, v2, v2', e1, rfl, e3, _, e, q, g1, g2, g3, g4, g5⟩
          · cases q2
          · cases e1
            have hj : a[j]? = some e := by simpa using g1
            have hbits : Instr.sameBits 10000 (((a[j]?).map (·.key)).getD k') k' = true := by
              rw [hj, g4]; simp only [Option.map_some, Option.getD_some]; rw [g5]; exact sameNow_bits g3
            have hmod : (a.modify j fun e => { e with key := k', val := v' }).toList = a.toList.set j { e with key := k', val := v' } := by
              have hjl := (Array.getElem?_eq_some_iff.1 hj).1
              apply List.ext_getElem?
              intro n
              rw [Array.getElem?_toList, Array.getElem?_modify, List.getElem?_set]
              by_cases hn : j = n
              · subst hn
                rw [if_pos rfl, if_pos rfl, hj]
                simp [hjl]
              · rw [if_neg hn, if_neg hn, Array.getElem?_toList]
            obtain ⟨r1, r2⟩ := h.change_map hg hx hw (a.modify j fun e => { e with key := k', val := v' }) clk (es2 := es.set j (k, v)) (by rw [hmod]; exact MapRel.set hk hv j hrel)
            refine ⟨_, ?_, r1, r2⟩
            simp only [Instr.mapUpdate, Sem.run_bind, run_underlying ht, Result.andThen_ok, MapKept.run_getObj_map hw, run_checkKey_simple w hkt hs, Instr.findKey, run_underlying hkt, q1, Sem.run_pure, Instr.keyThatStays, hbits, if_true, MapKept.run_setObj_map _ hw]
        · rename_i hf
          cases he
          obtain ⟨r', q1, q2⟩ := keyAt_sound hk es a.toList 0 _ hrel hf
          rcases q2 with ⟨_, rfl⟩ | ⟨j2, v2, v2', e1, _⟩
          · obtain ⟨r1, r2⟩ := h.change_map hg hx hw (a.push { key := k', val := v', born := clk }) (clk + 1) (es2 := es ++ [(k, v)]) (by
              rw [Array.toList_push]; exact MapRel.snoc (e := { key := k', val := v', born := clk }) hk hv hrel)
            refine ⟨_, ?_, r1, r2⟩
            simp only [Instr.mapUpdate, Sem.run_bind, run_underlying ht, Result.andThen_ok, MapKept.run_getObj_map hw, run_checkKey_simple w hkt hs, Instr.findKey, run_underlying hkt, q1, Sem.run_pure, MapKept.run_setObj_map _ hw]
          · cases e1
        · cases he
      · cases he
    · cases he
  · cases he

/-! ### 19. Assertions, checks, lengths -/
def isIface : TypeDesc → Bool
  | .interface _ => true
  | _ => false
def aAssert (P : Program) (x : Value) (xt t : TypeId) (ok : Bool) : Option Value :=
  match P.underlying t with
  | some d =>
    if isIface d = true then none else
    match x with
    | .iface u v =>
      if u = t then some (if ok then .tuple ⟨[v, .bool true]⟩ else v)
      else if ok = true then (zeroOf P t).map fun z => .tuple ⟨[z, .bool false]⟩ else none
    | .nilIface => if ok = true then (zeroOf P t).map fun z => .tuple ⟨[z, .bool false]⟩ else none
    | _ => none
  | none => none
theorem aAssert_sound {P : Program} {μ : Mu} {w : World} {x x' v : Value} {xt t : TypeId} {ok : Bool} (hx : VR μ x x') (he : aAssert P x xt t ok = some v) :
    ∃ v', (Instr.typeAssert x' xt t ok).run P w = .ok v' w ∧ VR μ v v' := by
  unfold aAssert at he
  split at he
  · rename_i d hd
    split at he
    · cases he
    · rename_i hni
      split at he
      · rename_i u y
        obtain ⟨y', rfl, hy⟩ := hx.inv_iface
        split at he
        · rename_i hut
          subst hut
          cases he
          refine ⟨_, ?_, pair_VR true hy⟩
          simp only [Instr.typeAssert, Sem.run_bind, run_underlying hd, Result.andThen_ok]
          cases d <;> first | exact absurd rfl hni | simp
        · rename_i hut
          split at he
          · rename_i hok
            subst hok
            obtain ⟨z, hz, rfl⟩ := Option.map_eq_some_iff.1 he
            refine ⟨.tuple #[z, .bool false], ?_, .tuple _ _ (.cons _ _ _ _ (zeroOf_VR hz μ) (.cons _ _ _ _ (.bool _) .nil))⟩
            simp only [Instr.typeAssert, Sem.run_bind, run_underlying hd, Result.andThen_ok]
            cases d <;> first | exact absurd rfl hni | simp [hut, run_zeroValue hz]
          · cases he
      · rw [hx.inv_nilIface]
        split at he
        · rename_i hok
          subst hok
          obtain ⟨z, hz, rfl⟩ := Option.map_eq_some_iff.1 he
          refine ⟨.tuple #[z, .bool false], ?_, .tuple _ _ (.cons _ _ _ _ (zeroOf_VR hz μ) (.cons _ _ _ _ (.bool _) .nil))⟩
          simp only [Instr.typeAssert, Sem.run_bind, run_underlying hd, Result.andThen_ok]
          cases d <;> first | exact absurd rfl hni | simp [run_zeroValue hz]
        · cases he
      · cases he
  · cases he

def aLen (P : Program) (H : Heap) (ts : List TypeId) (x : Value) : Option Value :=
  match ts with
  | t :: _ =>
    match P.underlying t, x with
    | some .string, .string s => some (.int .i64 s.size)
    | some (.slice _), .slice _ n _ => some (.int .i64 n)
    | some (.map _ _), .map none => some (.int .i64 0)
    | some (.map _ _), .map (some i) =>
      match H.get i with
      | some (.map es) => some (.int .i64 es.length)
      | _ => none
    | _, _ => none
  | _ => none
theorem MapRel.length {μ : Mu} : ∀ {es : List (Value × Value)} {l : List MapEntry}, MapRel μ es l → es.length = l.length
  | [], [], _ => rfl
  | (_, _) :: es, _ :: l, h => by simp [MapRel.length h.2.2]
  | [], _ :: _, h => h.elim
  | _ :: _, [], h => h.elim
theorem aLen_sound {P : Program} {μ : Mu} {H : Heap} {w : World} (h : Rel μ H w) {ts : List TypeId} {ty : TypeId} {x x' v : Value} (hx : VR μ x x') (he : aLen P H ts x = some v) :
    ∃ v', (Builtin.len_ ⟨ts⟩ ty #[x']).run P w = .ok v' w ∧ VR μ v v' := by
  unfold aLen at he
  split at he
  · rename_i t tl
    split at he
    · rename_i s ht
      cases he; rw [hx.inv_string]
      refine ⟨_, ?_, .int _ _⟩
      simp only [Builtin.len_]
      simp [run_underlying ht, goInt]
    · rename_i e a n c ht
      cases he
      refine ⟨.int .i64 n, ?_, .int _ _⟩
      cases a with
      | none => obtain ⟨rfl, rfl, _⟩ := hx.inv_nilslice; simp only [Builtin.len_]; simp [run_underlying ht, goInt]
      | some a => obtain ⟨_, _, _, _, _, rfl, _⟩ := hx.inv_slice; simp only [Builtin.len_]; simp [run_underlying ht, goInt]
    · rename_i k e ht
      cases he; cases hx
      refine ⟨_, ?_, .int _ _⟩
      simp only [Builtin.len_]
      simp [run_underlying ht, goInt]
    · rename_i k e i ht
      split at he
      · rename_i es hg
        cases he
        obtain ⟨b, sh, sz, rfl, hm⟩ := hx.inv_map
        obtain ⟨a, clk, hw, hrel⟩ := h.map i es b sh sz hg hm
        refine ⟨.int .i64 es.length, ?_, .int _ _⟩
        have hl := hrel.length
        simp only [Array.length_toList] at hl
        simp only [Builtin.len_]
        simp [run_underlying ht, goInt, MapKept.run_getObj_map hw, hl]
      · cases he
    · cases he
  · cases he

def aCap (P : Program) (ts : List TypeId) (x : Value) : Option Value :=
  match ts with
  | t :: _ =>
    match P.underlying t, x with
    | some (.slice _), .slice _ n c => if c = n then some (.int .i64 n) else none
    | _, _ => none
  | _ => none
theorem aCap_sound {P : Program} {μ : Mu} {w : World} {ts : List TypeId} {ty : TypeId} {x x' v : Value} (hx : VR μ x x') (he : aCap P ts x = some v) :
    ∃ v', (Builtin.cap_ ⟨ts⟩ ty #[x']).run P w = .ok v' w ∧ VR μ v v' := by
  unfold aCap at he
  split at he
  · rename_i t tl
    split at he
    · rename_i e a n c ht
      split at he
      · rename_i hc
        subst hc
        cases he
        refine ⟨_, ?_, .int _ _⟩
        cases a with
        | none => obtain ⟨rfl, rfl, _⟩ := hx.inv_nilslice; simp only [Builtin.cap_]; simp [run_underlying ht, goInt]
        | some a => obtain ⟨_, _, _, _, cap', rfl, _, _, _, hcc, _⟩ := hx.inv_slice; rw [hcc rfl]; simp only [Builtin.cap_]; simp [run_underlying ht, goInt]
      · cases he
    · cases he
  · cases he

def aNil : Value → Option Value
  | .pointer (some a) => some (.pointer (some a))
  | .func (.func f) x y => some (.func (.func f) x y)
  | .iface t v => some (.iface t v)
  | _ => none
end Go.Ae
