/- The evaluator's operators on numbers, strings and conversions are the machine's, wherever it answers. -/
import Derived.Test.YtgjpnajfapcobaaGreatAeE
import Derived.Lib.ConvBytes
import Derived.Laws.BytesArg
set_option autoImplicit false
set_option linter.unusedVariables false
set_option linter.unusedSimpArgs false
namespace Go.Ae

/-! ### 16. Operators -/
def bitsOf (op : BinOp) (k : IntKind) (x y : Int) : Option Value :=
  match op with
  | .and => some (.int k (k.wrap (BitVec.ofInt k.bits x &&& BitVec.ofInt k.bits y).toNat))
  | .or => some (.int k (k.wrap (BitVec.ofInt k.bits x ||| BitVec.ofInt k.bits y).toNat))
  | .xor => some (.int k (k.wrap (BitVec.ofInt k.bits x ^^^ BitVec.ofInt k.bits y).toNat))
  | .andNot => some (.int k (k.wrap (BitVec.ofInt k.bits x &&& ~~~BitVec.ofInt k.bits y).toNat))
  | _ => none
def intBin (op : BinOp) (k k' : IntKind) (a b : Int) : Option Value :=
  match op with
  | .shl => if b < 0 then none else some (.int k (k.wrap (a * 2 ^ (min b.toNat k.bits))))
  | .shr => if b < 0 then none else some (.int k (a.fdiv (2 ^ (min b.toNat k.bits))))
  | _ =>
    if k = k' then
      match op with
      | .add => some (.int k (k.wrap (a + b)))
      | .sub => some (.int k (k.wrap (a - b)))
      | .mul => some (.int k (k.wrap (a * b)))
      | .quo => if b = 0 then none else some (.int k (k.wrap (a.tdiv b)))
      | .rem => if b = 0 then none else some (.int k (a.tmod b))
      | .eql => some (.bool (a == b))
      | .neq => some (.bool (a != b))
      | .lss => some (.bool (decide (a < b)))
      | .leq => some (.bool (decide (a ≤ b)))
      | .gtr => some (.bool (decide (a > b)))
      | .geq => some (.bool (decide (a ≥ b)))
      | _ => bitsOf op k a b
    else none
theorem intBin_sound {P : Program} (w : World) {op : BinOp} {t : TypeId} {k k' : IntKind} {a b : Int} {v : Value} (he : intBin op k k' a b = some v) :
    (binOp op t (.int k a) (.int k' b)).run P w = .ok v w ∧ ∃ u, v = u ∧ pureV 1 v = true := by
  cases op <;> simp only [intBin, bitsOf] at he
  all_goals
    first
    | (split at he
       · cases he
       · rename_i hb
         cases he
         refine ⟨?_, _, rfl, rfl⟩
         simp [binOp, Op.shift, hb]
         done)
    | (split at he
       · rename_i hk
         subst hk
         first
         | (cases he
            refine ⟨?_, _, rfl, rfl⟩
            simp [binOp, Op.intArith, Op.intCmp, Op.intBits]
            done)
         | (split at he
            · cases he
            · rename_i hb
              cases he
              refine ⟨?_, _, rfl, rfl⟩
              simp [binOp, Op.intDiv, hb]
              done)
       · cases he)
    | cases he

def strBin (op : BinOp) (a b : ByteArray) : Option Value :=
  match op with
  | .add => if a.size + b.size ≤ 140737488355328 then some (.string (a ++ b)) else none
  | .eql => some (.bool (a.data.toList == b.data.toList))
  | .neq => some (.bool !(a.data.toList == b.data.toList))
  | .lss => some (.bool (Op.bytesLess a.data.toList b.data.toList))
  | .leq => some (.bool (Op.bytesLess a.data.toList b.data.toList || a.data.toList == b.data.toList))
  | .gtr => some (.bool !(Op.bytesLess a.data.toList b.data.toList || a.data.toList == b.data.toList))
  | .geq => some (.bool !(Op.bytesLess a.data.toList b.data.toList))
  | _ => none
theorem strBin_sound {P : Program} (w : World) {op : BinOp} {t : TypeId} {a b : ByteArray} {v : Value} (he : strBin op a b = some v) :
    (binOp op t (.string a) (.string b)).run P w = .ok v w ∧ pureV 1 v = true := by
  cases op <;> simp only [strBin] at he
  all_goals
    first
    | (cases he
       refine ⟨?_, rfl⟩
       simp [binOp, Op.stringOp, ByteArray.toList_eq]
       done)
    | (split at he
       · rename_i hc
         cases he
         refine ⟨?_, rfl⟩
         have : ¬ (9223372036854775807 < ((a.size : Int) + (b.size : Int))) := by omega
         simp [binOp, Op.stringOp, this]
         done
       · cases he)
    | cases he

def eqFs (P : Program) (eq : TypeId → Value → Value → Option Bool) (xs ys : List Value) : List Field → Option Bool
  | [] => some true
  | f :: fs =>
    if f.name ≠ "_" then
      match aPart P f.type xs f.offset, aPart P f.type ys f.offset with
      | some a, some b =>
        match eq f.type a b with
        | some true => eqFs P eq xs ys fs
        | some false => some false
        | none => none
      | _, _ => none
    else eqFs P eq xs ys fs

def eqL (P : Program) : Nat → TypeId → Value → Value → Option Bool
  | 0, _, _, _ => none
  | d + 1, t, u, v =>
    match P.underlying t, u, v with
    | some .bool, .bool a, .bool b => some (a == b)
    | some (.int _), .int k a, .int k' b => if k = k' then some (a == b) else none
    | some .string, .string a, .string b => some (a.data.toList == b.data.toList)
    | some (.pointer _), .pointer none, .pointer b => some b.isNone
    | some (.pointer _), .pointer (some _), .pointer none => some false
    | some (.interface _), .nilIface, .nilIface => some true
    | some (.interface _), .nilIface, .iface _ _ => some false
    | some (.interface _), .iface _ _, .nilIface => some false
    | some (.slice _), .slice none _ _, .slice b _ _ => some b.isNone
    | some (.slice _), .slice (some _) _ _, .slice none _ _ => some false
    | some (.map _ _), .map none, .map b => some b.isNone
    | some (.map _ _), .map (some _), .map none => some false
    | some (.func _ _ _), .nilFunc, .nilFunc => some true
    | some (.func _ _ _), .nilFunc, .func _ _ _ => some false
    | some (.func _ _ _), .func _ _ _, .nilFunc => some false
    | some (.struct fs), .agg xs, .agg ys => if P.stoodInHeld t = true then none else eqFs P (eqL P d) xs.toList ys.toList fs.toList
    | _, _, _ => none

theorem eqFs_sound {P : Program} {μ : Mu} {w : World} {eq : TypeId → Value → Value → Option Bool} {D : Nat}
    (ih : ∀ t u u' v v' b, VR μ u u' → VR μ v v' → eq t u v = some b → (Op.equalIn D t u' v').run P w = .ok b w) {xs ys : List Value} {xs' ys' : Array Value} (hx : VRs μ xs xs'.toList) (hy : VRs μ ys ys'.toList) :
    ∀ (fs : List Field) (b : Bool), eqFs P eq xs ys fs = some b → (Op.eqFields D xs' ys' fs).run P w = .ok b w
  | [], b, h => by simp only [eqFs, Option.some.injEq] at h; subst h; simp [Op.eqFields]
  | f :: fs, b, h => by
    unfold eqFs at h
    unfold Op.eqFields
    split at h
    · rename_i hn
      rw [if_pos hn]
      split at h
      · rename_i a c ha hc
        obtain ⟨a', p1, p2⟩ := aPart_sound (w := w) hx ha
        obtain ⟨c', q1, q2⟩ := aPart_sound (w := w) hy hc
        simp only [Sem.run_bind, p1, q1, Result.andThen_ok]
        split at h
        · rename_i he
          rw [ih _ _ _ _ _ _ p2 q2 he]
          simp only [Result.andThen_ok, Bool.not_true, Bool.false_eq_true, if_false]
          exact eqFs_sound ih hx hy fs b h
        · rename_i he
          cases h
          rw [ih _ _ _ _ _ _ p2 q2 he]
          simp
        · cases h
      · cases h
    · rename_i hn
      rw [if_neg hn]
      exact eqFs_sound ih hx hy fs b h

theorem eqL_sound {P : Program} {μ : Mu} {w : World} : ∀ (d D : Nat), d ≤ D → ∀ t u u' v v' b, VR μ u u' → VR μ v v' → eqL P d t u v = some b → (Op.equalIn D t u' v').run P w = .ok b w
  | 0, D, _, t, u, u', v, v', b, _, _, he => by simp [eqL] at he
  | d + 1, D, hD, t, u, u', v, v', b, hu, hv, he => by
    obtain ⟨D, rfl⟩ : ∃ D', D = D' + 1 := ⟨D - 1, by omega⟩
    unfold eqL at he
    split at he
    · rename_i a c ht; cases he; rw [hu.inv_bool, hv.inv_bool]; simp [Op.equalIn, run_underlying ht]
    · rename_i k' k a k'' c ht
      rw [hu.inv_int, hv.inv_int]
      split at he
      · rename_i hk; subst hk; cases he; simp [Op.equalIn, run_underlying ht]
      · cases he
    · rename_i a c ht
      cases he; rw [hu.inv_string, hv.inv_string]; simp [Op.equalIn, run_underlying ht, beq_toListBytes, ByteArray.toList_eq]
    · rename_i e c ht
      cases he; rw [hu.inv_nilptr]
      cases c with
      | none => rw [hv.inv_nilptr]; simp [Op.equalIn, run_underlying ht]
      | some c => obtain ⟨_, _, _, _, rfl, _⟩ := hv.inv_ptr; simp [Op.equalIn, run_underlying ht]
    · rename_i e c ht
      cases he; rw [hv.inv_nilptr]
      obtain ⟨_, _, _, _, rfl, _⟩ := hu.inv_ptr; simp [Op.equalIn, run_underlying ht]
    · rename_i ms ht; cases he; rw [hu.inv_nilIface, hv.inv_nilIface]; simp [Op.equalIn, run_underlying ht]
    · rename_i ms t' x ht; cases he; rw [hu.inv_nilIface]; obtain ⟨x', rfl, _⟩ := hv.inv_iface; simp [Op.equalIn, run_underlying ht]
    · rename_i ms t' x ht; cases he; rw [hv.inv_nilIface]; obtain ⟨x', rfl, _⟩ := hu.inv_iface; simp [Op.equalIn, run_underlying ht]
    · rename_i e _ _ c l cc ht
      cases he; obtain ⟨rfl, _, _⟩ := hu.inv_nilslice
      cases c with
      | none => obtain ⟨rfl, _, _⟩ := hv.inv_nilslice; simp [Op.equalIn, run_underlying ht]
      | some c => obtain ⟨_, _, _, _, _, rfl, _⟩ := hv.inv_slice; simp [Op.equalIn, run_underlying ht]
    · rename_i e c l cc _ _ ht
      cases he; obtain ⟨rfl, _, _⟩ := hv.inv_nilslice
      obtain ⟨_, _, _, _, _, rfl, _⟩ := hu.inv_slice; simp [Op.equalIn, run_underlying ht]
    · rename_i k e c ht
      cases he
      cases hu
      cases c with
      | none => cases hv; simp [Op.equalIn, run_underlying ht]
      | some c => obtain ⟨_, _, _, rfl, _⟩ := hv.inv_map; simp [Op.equalIn, run_underlying ht]
    · rename_i k e c ht
      cases he
      cases hv
      obtain ⟨_, _, _, rfl, _⟩ := hu.inv_map; simp [Op.equalIn, run_underlying ht]
    · rename_i ht; cases he; rw [hu.inv_nilFunc, hv.inv_nilFunc]; simp [Op.equalIn, run_underlying ht]
    · rename_i ht; cases he; rw [hu.inv_nilFunc]; obtain ⟨_, _, rfl, _, _⟩ := hv.inv_func; simp [Op.equalIn, run_underlying ht]
    · rename_i ht; cases he; rw [hv.inv_nilFunc]; obtain ⟨_, _, rfl, _, _⟩ := hu.inv_func; simp [Op.equalIn, run_underlying ht]
    · rename_i fs xs ys ht
      split at he
      · cases he
      · rename_i hp
        have hp' : P.stoodInHeld t = false := by simpa using hp
        obtain ⟨xs', rfl, hx⟩ := hu.inv_agg
        obtain ⟨ys', rfl, hy⟩ := hv.inv_agg
        have hfs : P.fieldsOf t = fs := by simp [Program.fieldsOf, ht]
        rw [run_equalIn_struct w D t xs' ys' (by rw [hfs]; exact ht) hp', hfs]
        exact eqFs_sound (fun t u u' v v' b hu hv he => eqL_sound d D (by omega) t u u' v v' b hu hv he) hx hy fs.toList b he
    · cases he

def elseV : Value → Bool
  | .int _ _ | .string _ | .float _ _ | .complex _ _ _ | .chan _ => false
  | _ => true
def isConstO : Operand → Bool
  | .const _ => true
  | _ => false
def guardOk (P : Program) (t : TypeId) (x y : Operand) : Value → Value → Bool
  | .nilIface, .nilIface => isConstO x || isConstO y
  | .agg _, .agg _ => !P.eqGuardType P.depth t
  | _, _ => true
def aBin (P : Program) (op : BinOp) (t : TypeId) (x y : Operand) (u v : Value) : Option Value :=
  match u, v with
  | .int k a, .int k' b => intBin op k k' a b
  | .string a, .string b => strBin op a b
  | _, _ =>
    match op with
    | .eql => if guardOk P t x y u v = true ∧ elseV u = true ∧ elseV v = true then (eqL P 8 t u v).map .bool else none
    | .neq => if guardOk P t x y u v = true ∧ elseV u = true ∧ elseV v = true then (eqL P 8 t u v).map fun b => .bool !b else none
    | _ => none

theorem guard_sound {P : Program} {μ : Mu} (w : World) {op : BinOp} {t : TypeId} {x y : Operand} {u v u' v' : Value} (hu : VR μ u u') (hv : VR μ v v') (hne1 : elseV u = true) (hne2 : elseV v = true) (hg : guardOk P t x y u v = true) :
    (eqGuard op t x y u' v').run P w = .ok () w := by
  cases hu
  case any => cases hne1
  case bool => rw [eqGuard_at_bool]; rfl
  case int => rw [eqGuard_at_int]; rfl
  case string => rw [eqGuard_at_string]; rfl
  case nilptr => rw [eqGuard_at_pointer]; rfl
  case ptr => rw [eqGuard_at_pointer]; rfl
  case nilslice => rw [eqGuard_at_slice]; rfl
  case slice => rw [eqGuard_at_slice]; rfl
  case nilmap => rw [eqGuard_at_map]; rfl
  case map => rw [eqGuard_at_map]; rfl
  case nilFunc => rw [eqGuard_at_nilFunc]; rfl
  case func => rw [eqGuard_at_func]; rfl
  case iface => rw [eqGuard_at_iface]; rfl
  case tuple => rw [eqGuard_at_tuple]; rfl
  case nilIface =>
    cases hv
    case nilIface =>
      simp only [guardOk, Bool.or_eq_true] at hg
      rcases hg with hg | hg
      · cases x <;> first | (rw [eqGuard_nil_constL]; rfl) | exact absurd hg (by simp [isConstO])
      · cases y <;> first | (rw [eqGuard_nil_constR]; rfl) | exact absurd hg (by simp [isConstO])
    case any => cases hne2
    all_goals (cases op <;> rfl)
  case agg =>
    cases hv
    case agg => simp only [guardOk, Bool.not_eq_true'] at hg; exact run_eqGuard_agg w op t x y _ _ hg
    case any => cases hne2
    all_goals (cases op <;> rfl)

theorem binOp_eql_else {P : Program} (w : World) {t : TypeId} {u v : Value} {b : Bool} (h1 : ∀ k n, u ≠ .int k n) (h2 : ∀ s, u ≠ .string s) (h3 : ∀ k n, u ≠ .float k n) (h4 : ∀ k x y, u ≠ .complex k x y)
    (h : (Op.equal t u v).run P w = .ok b w) : (binOp .eql t u v).run P w = .ok (.bool b) w ∧ (binOp .neq t u v).run P w = .ok (.bool !b) w := by
  cases u <;> first
    | exact absurd rfl (h1 _ _)
    | exact absurd rfl (h2 _)
    | exact absurd rfl (h3 _ _)
    | exact absurd rfl (h4 _ _ _)
    | exact ⟨by
        show (Op.equal t _ v >>= fun b => (pure (.bool b) : Sem Value)).run P w = _
        rw [Sem.run_bind, h]; rfl, by
        show (Op.equal t _ v >>= fun b => (pure (.bool !b) : Sem Value)).run P w = _
        rw [Sem.run_bind, h]; rfl⟩

theorem aBin_sound {P : Program} {μ : Mu} {w : World} {op : BinOp} {t : TypeId} {x y : Operand} {u v u' v' r : Value} (hu : VR μ u u') (hv : VR μ v v') (he : aBin P op t x y u v = some r) :
    ∃ r', (do eqGuard op t x y u' v'; binOp op t u' v' : Sem Value).run P w = .ok r' w ∧ VR μ r r' := by
  unfold aBin at he
  split at he
  · rename_i k a k' b
    rw [hu.inv_int, hv.inv_int]
    obtain ⟨q1, _, _, q2⟩ := intBin_sound (P := P) w (t := t) he
    refine ⟨r, ?_, pureV_VR μ 1 r q2⟩
    rw [eqGuard_at_int]
    simpa using q1
  · rename_i a b
    rw [hu.inv_string, hv.inv_string]
    obtain ⟨q1, q2⟩ := strBin_sound (P := P) w (t := t) he
    refine ⟨r, ?_, pureV_VR μ 1 r q2⟩
    rw [eqGuard_at_string]
    simpa using q1
  · rename_i hni hns
    have key : ∀ b, elseV u = true → eqL P 8 t u v = some b → (binOp .eql t u' v').run P w = .ok (.bool b) w ∧ (binOp .neq t u' v').run P w = .ok (.bool !b) w := by
      intro b hel hb
      have hq := eqL_sound (w := w) 8 10000 (by omega) t u u' v v' b hu hv hb
      have hel' : elseV u' = true := by cases hu <;> first | rfl | exact hel | exact absurd hel (by simp [elseV])
      exact binOp_eql_else w (by rintro k n rfl; cases hel') (by rintro s rfl; cases hel') (by rintro k n rfl; cases hel') (by rintro k x y rfl; cases hel') hq
    split at he
    · split at he
      · rename_i hg
        obtain ⟨b, hb, rfl⟩ := Option.map_eq_some_iff.1 he
        refine ⟨.bool b, ?_, .bool _⟩
        simp only [Sem.run_bind, guard_sound w hu hv hg.2.1 hg.2.2 hg.1, Result.andThen_ok]
        exact (key b hg.2.1 hb).1
      · cases he
    · split at he
      · rename_i hg
        obtain ⟨b, hb, rfl⟩ := Option.map_eq_some_iff.1 he
        refine ⟨.bool !b, ?_, .bool _⟩
        simp only [Sem.run_bind, guard_sound w hu hv hg.2.1 hg.2.2 hg.1, Result.andThen_ok]
        exact (key b hg.2.1 hb).2
      · cases he
    · cases he

def aUn (op : UnOp) (x : Value) : Option Value :=
  match op, x with
  | .neg, .int k n => some (.int k (k.wrap (0 - n)))
  | .xor, .int k n => bitsOf .xor k (if k.signed then -1 else k.max) n
  | .not, .bool b => some (.bool !b)
  | _, _ => none
theorem aUn_sound {P : Program} {μ : Mu} {w : World} {op : UnOp} {x x' r : Value} (hx : VR μ x x') (he : aUn op x = some r) : ∃ r', (Op.unary op x').run P w = .ok r' w ∧ VR μ r r' := by
  unfold aUn at he
  split at he
  · cases he; rw [hx.inv_int]; exact ⟨_, by simp [Op.unary, Op.intArith], .int _ _⟩
  · simp only [bitsOf, Option.some.injEq] at he; subst he; rw [hx.inv_int]; exact ⟨_, by simp [Op.unary, Op.intBits], .int _ _⟩
  · cases he; rw [hx.inv_bool]; exact ⟨_, by simp [Op.unary], .bool _⟩
  · cases he

/-! ### 17. Conversions -/
def bytesVal : List Value → Option (List Int)
  | [] => some []
  | .int .u8 n :: l => (bytesVal l).map (n :: ·)
  | _ => none
theorem bytesVal_get : ∀ (l : List Value) (xs : List Int), bytesVal l = some xs → l = xs.map (Value.int .u8)
  | [], xs, h => by simp only [bytesVal, Option.some.injEq] at h; subst h; rfl
  | v :: l, xs, h => by
    unfold bytesVal at h
    split at h
    · rename_i hh; cases hh
    · rename_i n l' hh
      cases hh
      obtain ⟨ys, h1, rfl⟩ := Option.map_eq_some_iff.1 h
      rw [bytesVal_get l ys h1]; rfl
    · cases h
def isByte (P : Program) (e : TypeId) : Bool :=
  match P.underlying e with
  | some (.int .u8) => true
  | _ => false
theorem isByte_spec {P : Program} {e : TypeId} (h : isByte P e = true) : P.underlying e = some (.int .u8) := by
  unfold isByte at h
  split at h
  · assumption
  · cases h
def aConvert (P : Program) (H : Heap) (src dst : TypeId) (x : Value) : Option (Value × Heap) :=
  match P.underlying src, P.underlying dst, x with
  | some _, some (.int k), .int _ n => some (.int k (k.wrap n), H)
  | some _, some .string, .string s => some (.string s, H)
  | some _, some (.slice e), .string s =>
    if isByte P e = true then some (.slice (some ⟨H.n, 0, none⟩) s.size (s.size + 1 + 1), H.push (.row true (s.data.toList.map fun b => .int .u8 b.toNat))) else none
  | some (.slice e), some .string, .slice none _ _ => if isByte P e = true then some (.string ByteArray.empty, H) else none
  | some (.slice e), some .string, .slice (some a) len _ =>
    if isByte P e = true then
      match a.spot, H.get a.block with
      | none, some (.row _ cs) =>
        if a.off + len ≤ cs.length then
          match bytesVal ((cs.drop a.off).take len) with
          | some xs => if len = 0 then some (.string ByteArray.empty, H) else some (.string (strOfNums xs), H)
          | none => none
        else none
      | _, _ => none
    else none
  | _, _, _ => none

theorem aConvert_sound {P : Program} {μ : Mu} {H H' : Heap} {w : World} (h : Rel μ H w) {src dst : TypeId} {x x' v : Value} (hx : VR μ x x') (he : aConvert P H src dst x = some (v, H')) :
    OutV P (convert src dst x') μ H w v H' := by
  unfold aConvert at he
  split at he
  · rename_i d k k' n hs hd
    cases he
    rw [hx.inv_int]
    refine OutV.pure h ?_ (.int _ _)
    simp only [convert, Sem.run_bind, run_underlying hs, run_underlying hd, Result.andThen_ok, Conv.intToInt]
    rfl
  · rename_i d s hs hd
    cases he
    rw [hx.inv_string]
    refine OutV.pure h ?_ (.string _)
    simp only [convert, Sem.run_bind, run_underlying hs, run_underlying hd, Result.andThen_ok]
    cases d <;> rfl
  · rename_i d e s hs hd
    split at he
    · rename_i hb
      cases he
      rw [hx.inv_string]
      have hrun := Lib.run_convert_string_bytes (P := P) w src dst e s hs hd (isByte_spec hb)
      have hlen : (s.data.toList.map fun b => Value.int .u8 b.toNat).length = s.size := by rw [List.length_map, Array.length_toList]; rfl
      have hg := grownCap_ge w (need := s.size) 0 e
      have hsz : (Lib.bytesCells w e s).size = grownCap w s.size 0 e := by
        have : s.data.size = s.size := rfl
        simp [Lib.bytesCells]; omega
      obtain ⟨a1, a2⟩ := h.alloc_gen (Lib.bytesWorld w e s) (s.data.toList.map fun b => .int .u8 b.toNat) (Lib.bytesCells w e s) e ((Lib.bytesCells w e s).size, (Lib.bytesCells w e s).size + 1) rfl rfl rfl
        (Lib.bytesWorld_size w e s) (fun b hb => Lib.bytesWorld_at_old w e s b hb) (Lib.bytesWorld_at_new w e s) (by omega) (fun j u hj => by
          have hjl : j < s.size := by have := (List.getElem?_eq_some_iff.1 hj).1; omega
          have hc := Lib.bytesWorld_cell w e s j hjl
          have hn := Lib.bytesWorld_at_new w e s
          simp only [World.cell?, hn] at hc
          refine ⟨_, by simpa using hc, ?_⟩
          have hd : j < s.data.toList.length := by rw [Array.length_toList]; exact hjl
          rw [List.getElem?_map, List.getElem?_eq_getElem hd] at hj
          simp only [Option.map_some, Option.some.injEq] at hj
          subst hj
          have hd2 : s.data[j]?.getD 0 = s.data.toList[j] := by
            rw [← Array.getElem?_toList, List.getElem?_eq_getElem hd]; rfl
          rw [hd2]
          exact .int _ _) (fun j hj => by simp only; omega)
      refine ⟨_, _, _, hrun, ?_, a1, a2⟩
      refine .slice H.n 0 s.size (s.size + 1 + 1) w.heap.size 0 (Lib.bytesCells w e s).size _ ⟨w.heap.size, 0, none⟩ (Mu.put_same _ _ _) (fun _ => rfl) hg (fun hh => by omega) (fun k hk hh => ?_)
      have : k = 1 := by omega
      subst this
      rw [hsz]; omega
    · cases he
  · rename_i e l c hs hd
    split at he
    · rename_i hb
      cases he
      obtain ⟨rfl, _, _⟩ := hx.inv_nilslice
      exact OutV.pure h (run_convert_bytes_nil w src e hs (isByte_spec hb) 0 0 dst hd) (.string _)
    · cases he
  · rename_i e a len cap hs hd
    split at he
    · rename_i hb
      split at he
      · rename_i o cs hs0 hg
        split at he
        · rename_i hl
          split at he
          · rename_i xs hxs
            obtain ⟨b, sh, sz, a', cap', rfl, hm, ha, hlc, _, _, hsp⟩ := hx.inv_slice
            have hget := bytesVal_get _ _ hxs
            have hxl : xs.length = len := by
              have := congrArg List.length hget
              simp at this
              omega
            split at he
            · rename_i h0
              cases he
              subst h0
              have hx0 : xs = [] := List.eq_nil_of_length_eq_zero hxl
              have hr := run_convert_bytes_arg (P := P) w src e hs (isByte_spec hb) a'.block a'.off 0 cap' [] rfl (fun i hi => by omega) dst hd
              have hsp' : a' = ⟨a'.block, a'.off, none⟩ ∨ cap' = 0 := by
                by_cases hc0 : cap' = 0
                · exact .inr hc0
                · exact .inl (by rw [ha hc0])
              refine OutV.pure (v' := .string ByteArray.empty) h ?_ (.string _)
              simp only [convert, Sem.run_bind, run_underlying hs, run_underlying hd, Result.andThen_ok, run_underlying (isByte_spec hb), Conv.bytesToString]
              simp [loadCells, loadCellsFrom]
            · rename_i h0
              cases he
              obtain rfl := ha (by omega)
              refine OutV.pure h (run_convert_bytes_arg (P := P) w src e hs (isByte_spec hb) b (sh + a.off) len cap' xs hxl (fun i hi => ?_) dst hd) (.string _)
              have hci : cs[a.off + i]? = some (.int .u8 (xs.getD i 0)) := by
                have h2 : ((cs.drop a.off).take len)[i]? = (xs.map (Value.int .u8))[i]? := by rw [hget]
                rw [List.getElem?_take, if_pos hi, List.getElem?_drop] at h2
                rw [h2, List.getElem?_map, List.getElem?_eq_getElem (by omega), List.getD_eq_getElem?_getD, List.getElem?_eq_getElem (by omega)]
                rfl
              obtain ⟨v', q1, q2⟩ := h.cell hg hm hci
              rw [q2.inv_int, ← Nat.add_assoc] at q1
              exact q1
          · cases he
        · cases he
      · cases he
    · cases he
  · cases he
end Go.Ae
