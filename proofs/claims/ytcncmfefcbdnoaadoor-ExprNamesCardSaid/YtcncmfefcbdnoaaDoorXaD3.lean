import Derived.Test.YtcncmfefcbdnoaaDoorXaD2
import Derived.WalkLawsBesides
set_option linter.unusedVariables false
set_option linter.unusedSimpArgs false
namespace Go.Den
section
variable {P : Program} {e : Env} {h : H} {w : World} {tm : Tm} {a : Act}

/-! ### Small laws -/
theorem leZ_eq (a b : Int) : leZ a b = decide (a ≤ b) := by
  cases a with
  | ofNat m => cases b with
    | ofNat n => show Nat.ble m n = _; rw [Bool.eq_iff_iff]; simp
    | negSucc n => show false = _; rw [Bool.eq_iff_iff]; simp; omega
  | negSucc m => cases b with
    | ofNat n => show true = _; rw [Bool.eq_iff_iff]; simp; omega
    | negSucc n => show Nat.ble n m = _; rw [Bool.eq_iff_iff]; simp; omega
theorem eqZ_eq (a b : Int) : eqZ a b = (a == b) := by
  cases a with
  | ofNat m => cases b with
    | ofNat n => show Nat.beq m n = _; rw [Bool.eq_iff_iff]; simp; omega
    | negSucc n => show false = _; rw [Bool.eq_iff_iff]; simp
  | negSucc m => cases b with
    | ofNat n => show false = _; rw [Bool.eq_iff_iff]; simp
    | negSucc n => show Nat.beq m n = _; rw [Bool.eq_iff_iff]; simp
theorem kindN_inj {j k : IntKind} (h : Nat.beq (kindN j) (kindN k) = true) : j = k := by
  cases j <;> cases k <;> first | rfl | (exact absurd h (by decide))
theorem eqU_eq : ∀ (a b : List UInt8), eqU a b = (a == b)
  | [], [] => rfl
  | [], _ :: _ => rfl
  | _ :: _, [] => rfl
  | x :: r, y :: s => by
    have h1 : eqU (x :: r) (y :: s) = @Bool.rec (fun _ => Bool) false (eqU r s) (Nat.beq x.toNat y.toNat) := rfl
    rw [h1, eqU_eq r s, List.cons_beq_cons]
    by_cases hxy : x = y
    · subst hxy; simp
    · have h2 : Nat.beq x.toNat y.toNat = false := by
        rw [Bool.eq_false_iff]; intro hc; exact hxy (UInt8.toNat_inj.1 (Nat.eq_of_beq_eq_true hc))
      rw [h2]; simp [hxy]
theorem ltU_eq : ∀ (a b : List UInt8), ltU a b = Op.bytesLess a b
  | [], [] => rfl
  | [], _ :: _ => rfl
  | _ :: _, [] => rfl
  | x :: r, y :: s => by
    have h1 : ltU (x :: r) (y :: s) = @Bool.rec (fun _ => Bool) (@Bool.rec (fun _ => Bool) false (ltU r s) (Nat.beq x.toNat y.toNat)) true (Nat.blt x.toNat y.toNat) := rfl
    rw [h1, ltU_eq r s]
    simp only [Op.bytesLess]
    by_cases hlt : x < y
    · have : Nat.blt x.toNat y.toNat = true := by simpa [Nat.blt_eq, UInt8.lt_iff_toNat_lt] using hlt
      rw [this]; simp [hlt]
    · have h2 : Nat.blt x.toNat y.toNat = false := by
        rw [Bool.eq_false_iff]; intro hc; exact hlt (by simpa [Nat.blt_eq, UInt8.lt_iff_toNat_lt] using hc)
      rw [h2]
      by_cases hxy : x = y
      · subst hxy; simp [hlt]
      · have h3 : Nat.beq x.toNat y.toNat = false := by
          rw [Bool.eq_false_iff]; intro hc; exact hxy (UInt8.toNat_inj.1 (Nat.eq_of_beq_eq_true hc))
        rw [h3]; simp [hlt, hxy]

/-! ### Operands -/
theorem ofScalar_ok {V : Value} {v : IV} (h : ofScalar V = some v) : conc e v = some V := by
  unfold ofScalar at h
  split at h <;> first | (cases h; done) | (cases h; simp only [conc])
theorem ofScalars_ok : ∀ {l : List Value} {vs : List IV}, ofScalars l = some vs → concL e vs = some l
  | [], vs, h => by cases h; rfl
  | V :: r, vs, h => by
    obtain ⟨v, h1, h2⟩ := ob_some h
    obtain ⟨l, h3, h4⟩ := ob_some h2
    cases h4
    exact concL_mk (ofScalar_ok h1) (ofScalars_ok h3)
theorem ofValue_ok {V : Value} {v : IV} (h : ofValue V = some v) : conc e v = some V := by
  unfold ofValue at h
  split at h
  · obtain ⟨l, h1, h2⟩ := ob_some h; cases h2; simp only [conc, ofScalars_ok h1]
  · obtain ⟨l, h1, h2⟩ := ob_some h; cases h2; simp only [conc, ofScalars_ok h1]
  · obtain ⟨l, h1, h2⟩ := ob_some h; cases h2; simp only [conc, ofScalar_ok h1]
  · exact ofScalar_ok h
theorem ev_ok (k : TmOK e tm a.tmps) (r : Rel P e h w) {x : Operand} {v : IV} (hx : ev P tm x = some v) : conc e v = some (a.eval x) := by
  cases x with
  | tmp t =>
    obtain ⟨V, h1, h2⟩ := k t v hx
    rw [h1]; simp [Act.eval, Array.getD_eq_getD_getElem?, h2]
  | const V => exact ofValue_ok hx
  | global g =>
    have hx' : @Bool.rec (fun _ => Option IV) none (some (.ptr g 0)) (Nat.blt g P.globals.size) = some v := hx
    cases hb : Nat.blt g P.globals.size with
    | false => rw [hb] at hx'; cases hx'
    | true =>
      rw [hb] at hx'; cases hx'
      obtain ⟨p, hp, hg⟩ := r.glob g (Nat.le_of_lt (by simpa [Nat.blt_eq] using hb))
      simp only [conc, hp, Act.eval, hg]
  | func f => cases hx; rfl
theorem evs_ok (k : TmOK e tm a.tmps) (r : Rel P e h w) : ∀ {l : List Operand} {vs : List IV}, evs P tm l = some vs → concL e vs = some (l.map a.eval)
  | [], vs, hx => by cases hx; rfl
  | x :: l, vs, hx => by
    obtain ⟨v, h1, h2⟩ := ob_some hx
    obtain ⟨vl, h3, h4⟩ := ob_some h2
    cases h4
    exact concL_mk (ev_ok k r h1) (evs_ok k r h3)
theorem evo_ok (k : TmOK e tm a.tmps) (r : Rel P e h w) {x : Option Operand} {v : Option IV} (hx : evo P tm x = some v) :
    match v with | none => x.map a.eval = none | some u => ∃ V, x.map a.eval = some V ∧ conc e u = some V := by
  cases x with
  | none => cases hx; rfl
  | some y => obtain ⟨u, h1, h2⟩ := ob_some hx; cases h2; exact ⟨_, rfl, ev_ok k r h1⟩

/-! ### Arithmetic, comparisons -/
theorem intOp_ok {op : BinOp} {k : IntKind} {x y : Int} {v : IV} {t : TypeId} (hs : op ≠ .shl) (hr : op ≠ .shr) (hv : intOp op k x y = some v) (w : World) :
    ∃ V, (binOp op t (.int k x) (.int k y)).run P w = .ok V w ∧ conc e v = some V := by
  have hlt : ∀ p q : Int, (!decide (q ≤ p)) = decide (p < q) := fun p q => by rw [Bool.eq_iff_iff]; simp
  have hge : ∀ p q : Int, decide (q ≤ p) = decide (p ≥ q) := fun p q => rfl
  cases op <;> simp only [intOp, leZ_eq, eqZ_eq, hlt] at hv <;>
    first
    | (exact absurd rfl hs) | (exact absurd rfl hr) | (cases hv; done)
    | (cases hv; refine ⟨_, ?_, rfl⟩; simp [binOp, Op.intArith, Op.intBits, Op.intCmp]; done)
    | (cases hv; refine ⟨_, ?_, rfl⟩; simp [binOp, Op.intArith, Op.intBits, Op.intCmp]; rfl)
    | (split at hv
       · cases hv
       · rename_i hz; cases hv
         have hz' : ¬ y = 0 := by simpa using hz
         exact ⟨_, by simp [binOp, Op.intDiv, hz'], rfl⟩)
theorem shiftOp_ok {left : Bool} {k j : IntKind} {x y : Int} {v : IV} {t : TypeId} (hv : shiftOp left k x y = some v) (w : World) :
    ∃ V, (binOp (if left then .shl else .shr) t (.int k x) (.int j y)).run P w = .ok V w ∧ conc e v = some V := by
  unfold shiftOp at hv
  cases y with
  | negSucc m => cases hv
  | ofNat m =>
    have h0 : ¬ ((m : Int) < 0) := by omega
    have hm : min m k.bits = Nat.min m k.bits := rfl
    cases left <;> cases hv <;> refine ⟨_, ?_, rfl⟩ <;> simp [binOp, Op.shift, hm, h0]
theorem size_ba (l : List UInt8) : (⟨l.toArray⟩ : ByteArray).size = l.length := by simp [ByteArray.size]
theorem toList_ba (l : List UInt8) : (⟨l.toArray⟩ : ByteArray).toList = l := by rw [ByteArray.toList_eq]
theorem strOp_ok {op : BinOp} {x y : List UInt8} {v : IV} {t : TypeId} (hv : strOp op x y = some v) (w : World) :
    ∃ V, (binOp op t (.string ⟨x.toArray⟩) (.string ⟨y.toArray⟩)).run P w = .ok V w ∧ conc e v = some V := by
  cases op <;> simp only [strOp, eqU_eq, ltU_eq] at hv <;>
    first
    | (cases hv; done)
    | (cases hv; exact ⟨_, by simp [binOp, Op.stringOp, toList_ba], rfl⟩)
    | skip
  split at hv
  · rename_i hle
    cases hv
    have hle' : x.length + y.length ≤ 9223372036854775807 := by simpa [Nat.ble_eq] using hle
    refine ⟨.string ⟨(x ++ y).toArray⟩, ?_, rfl⟩
    have hm : IntKind.i64.max = 9223372036854775807 := by decide
    have h1 : ¬ (((x.length + y.length : Nat) : Int) > 9223372036854775807) := by omega
    have h2 : (⟨x.toArray⟩ ++ ⟨y.toArray⟩ : ByteArray) = ⟨(x ++ y).toArray⟩ := by
      apply ByteArray.ext; simp
    simp only [binOp, Op.stringOp, size_ba, hm, if_neg h1, Sem.run_pure, h2]
  · cases hv

/-! ### Numbers of which only the form is known -/
theorem opN_inj {o q : BinOp} (h : Nat.beq (opN o) (opN q) = true) : o = q := by
  cases o <;> cases q <;> first | rfl | (exact absurd h (by decide))
theorem eqSE_eq : ∀ (a b : SE), eqSE a b = true → a = b
  | .v i, b, h => by
    cases b with
    | v j => have h' : Nat.beq i j = true := h
             rw [Nat.eq_of_beq_eq_true h']
    | _ => cases h
  | .n z, b, h => by
    cases b with
    | n y => have h' : eqZ z y = true := h
             rw [eqZ_eq] at h'
             have : z = y := by simpa using h'
             rw [this]
    | _ => cases h
  | .wrap k c, b, h => by
    cases b with
    | wrap j d =>
      have h' : @Bool.rec (fun _ => Bool) false (eqSE c d) (Nat.beq (kindN k) (kindN j)) = true := h
      cases hk : Nat.beq (kindN k) (kindN j) with
      | false => rw [hk] at h'; cases h'
      | true => rw [hk] at h'; rw [kindN_inj hk, eqSE_eq c d h']
    | _ => cases h
  | .bin o k c d, b, h => by
    cases b with
    | bin q j c' d' =>
      have h' : @Bool.rec (fun _ => Bool) false (@Bool.rec (fun _ => Bool) false (@Bool.rec (fun _ => Bool) false (eqSE d d') (eqSE c c')) (Nat.beq (kindN k) (kindN j))) (Nat.beq (opN o) (opN q)) = true := h
      cases ho : Nat.beq (opN o) (opN q) with
      | false => rw [ho] at h'; cases h'
      | true =>
        cases hk : Nat.beq (kindN k) (kindN j) with
        | false => rw [ho, hk] at h'; cases h'
        | true =>
          cases hc : eqSE c c' with
          | false => rw [ho, hk, hc] at h'; cases h'
          | true =>
            rw [ho, hk, hc] at h'
            rw [opN_inj ho, kindN_inj hk, eqSE_eq c c' hc, eqSE_eq d d' h']
    | _ => cases h
theorem symEq_ok {asm : Asm} {ρ : Nat → Int} (ha : AsmOK asm ρ) {x y : SE} {r : Bool} (hr : symEq asm x y = some r) : (x.den ρ == y.den ρ) = r := by
  have h' : @Bool.rec (fun _ => Option Bool) (asm .eq x y) (some true) (eqSE x y) = some r := hr
  cases hb : eqSE x y with
  | true => rw [hb] at h'; cases h'; rw [eqSE_eq x y hb]; simp
  | false => rw [hb] at h'; exact ha .eq x y r h'
theorem symNZ_ok {asm : Asm} {ρ : Nat → Int} (ha : AsmOK asm ρ) {x : SE} (hr : symNZ asm x = true) : eqZ (x.den ρ) 0 = false := by
  unfold symNZ at hr
  split at hr
  · rename_i z; simpa [SE.den] using hr
  · split at hr
    · rename_i h1; have := ha .eq _ _ _ h1; rw [eqZ_eq]; exact this
    · cases hr
theorem symOp_ok {asm : Asm} {op : BinOp} {k : IntKind} {x y : SE} {v : IV} {t : TypeId} (ha : AsmOK asm e.ρ) (hv : symOp asm op k x y = some v) (w : World) :
    ∃ V, (binOp op t (.int k (x.den e.ρ)) (.int k (y.den e.ρ))).run P w = .ok V w ∧ conc e v = some V := by
  have arith : ∀ (hs : op ≠ .shl) (hr : op ≠ .shr), v = .sint k (.bin op k x y) → intOp op k (x.den e.ρ) (y.den e.ρ) = some (.int k (binV op k (x.den e.ρ) (y.den e.ρ))) → ∃ V, (binOp op t (.int k (x.den e.ρ)) (.int k (y.den e.ρ))).run P w = .ok V w ∧ conc e v = some V := by
    intro hs hr hv' hi
    obtain ⟨V, h1, h2⟩ := intOp_ok (e := e) (t := t) hs hr hi w
    refine ⟨V, h1, ?_⟩
    rw [hv']
    simp only [conc] at h2 ⊢
    exact h2
  have comp : ∀ (hs : op ≠ .shl) (hr : op ≠ .shr) (r : Bool), v = .bool r → intOp op k (x.den e.ρ) (y.den e.ρ) = some (.bool r) → ∃ V, (binOp op t (.int k (x.den e.ρ)) (.int k (y.den e.ρ))).run P w = .ok V w ∧ conc e v = some V := by
    intro hs hr r hv' hi
    rw [hv']
    exact intOp_ok hs hr hi w
  cases op <;> simp only [symOp] at hv
  case add => cases hv; exact arith (by decide) (by decide) rfl rfl
  case sub => cases hv; exact arith (by decide) (by decide) rfl rfl
  case mul => cases hv; exact arith (by decide) (by decide) rfl rfl
  case and => cases hv; exact arith (by decide) (by decide) rfl rfl
  case or => cases hv; exact arith (by decide) (by decide) rfl rfl
  case xor => cases hv; exact arith (by decide) (by decide) rfl rfl
  case andNot => cases hv; exact arith (by decide) (by decide) rfl rfl
  case quo =>
    split at hv
    · rename_i hz; cases hv; exact arith (by decide) (by decide) rfl (by simp only [intOp, symNZ_ok ha hz]; rfl)
    · cases hv
  case rem =>
    split at hv
    · rename_i hz; cases hv; exact arith (by decide) (by decide) rfl (by simp only [intOp, symNZ_ok ha hz]; rfl)
    · cases hv
  case eql => obtain ⟨r, h1, h2⟩ := ob_some hv; cases h2; exact comp (by decide) (by decide) r rfl (by simp only [intOp, eqZ_eq, symEq_ok ha h1])
  case neq => obtain ⟨r, h1, h2⟩ := ob_some hv; cases h2; exact comp (by decide) (by decide) (!r) rfl (by simp only [intOp, eqZ_eq, symEq_ok ha h1])
  case lss =>
    obtain ⟨r, h1, h2⟩ := ob_some hv; cases h2
    have h3 : decide (x.den e.ρ < y.den e.ρ) = r := ha .lt x y r h1
    exact comp (by decide) (by decide) r rfl (by simp only [intOp, leZ_eq, ← h3]; congr 2; rw [Bool.eq_iff_iff]; simp)
  case leq =>
    obtain ⟨r, h1, h2⟩ := ob_some hv; cases h2
    have h3 : decide (x.den e.ρ ≤ y.den e.ρ) = r := ha .le x y r h1
    exact comp (by decide) (by decide) r rfl (by simp only [intOp, leZ_eq, ← h3])
  case gtr =>
    obtain ⟨r, h1, h2⟩ := ob_some hv; cases h2
    have h3 : decide (y.den e.ρ < x.den e.ρ) = r := ha .lt y x r h1
    exact comp (by decide) (by decide) r rfl (by simp only [intOp, leZ_eq, ← h3]; congr 2; rw [Bool.eq_iff_iff]; simp)
  case geq =>
    obtain ⟨r, h1, h2⟩ := ob_some hv; cases h2
    have h3 : decide (y.den e.ρ ≤ x.den e.ρ) = r := ha .le y x r h1
    exact comp (by decide) (by decide) r rfl (by simp only [intOp, leZ_eq, ← h3])
  all_goals cases hv
end
end Go.Den
