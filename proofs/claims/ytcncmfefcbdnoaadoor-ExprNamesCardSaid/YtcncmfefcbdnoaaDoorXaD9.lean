import Derived.Test.YtcncmfefcbdnoaaDoorXaD8
import Derived.Laws.Append
import Derived.Laws.MakeOwn
import Derived.ArgAppend
set_option linter.unusedVariables false
set_option linter.unusedSimpArgs false
namespace Go.Den
section
variable {P : Program} {e : Env} {h h' : H} {w : World} {tm : Tm} {a : Act} {o : Oper} {v : IV}

/-! ### Conversions that make no row -/
theorem bytesOf_ok : ∀ {l : List IV} {s : List UInt8} {L : List Value}, bytesOf l = some s → concL e l = some L → ∃ ns : List Int, L = ns.map (Value.int .u8) ∧ ns.map (fun n => UInt8.ofNat n.toNat) = s
  | [], s, L, hb, hc => by cases hb; simp only [concL] at hc; cases hc; exact ⟨[], rfl, rfl⟩
  | v :: l, s, L, hb, hc => by
    obtain ⟨V, R, h1, h2, rfl⟩ := concL_cons hc
    cases v with
    | int k n =>
      cases k <;> first | (exact absurd hb (by intro hh; cases hh)) | skip
      have hb' : ob (bytesOf l) (fun r => some (UInt8.ofNat n.toNat :: r)) = some s := hb
      obtain ⟨r, h3, h4⟩ := ob_some hb'
      cases h4
      obtain ⟨ns, h5, h6⟩ := bytesOf_ok h3 h2
      simp only [conc] at h1; cases h1
      exact ⟨n :: ns, by rw [h5]; rfl, by simp [h6]⟩
    | _ => cases hb
theorem push_fold : ∀ (ns : List Int) (s : List UInt8), ns.foldl (fun (r : ByteArray) n => r.push (UInt8.ofNat n.toNat)) ⟨s.toArray⟩ = ⟨(s ++ ns.map fun n => UInt8.ofNat n.toNat).toArray⟩
  | [], s => by simp
  | n :: ns, s => by
    simp only [List.foldl_cons]
    have : (⟨s.toArray⟩ : ByteArray).push (UInt8.ofNat n.toNat) = ⟨(s ++ [UInt8.ofNat n.toNat]).toArray⟩ := by
      apply ByteArray.ext; simp [ByteArray.push]
    rw [this, push_fold ns]
    simp
/-- Does the conversion make a row? -/
def makesRow (P : Program) (d : TypeId) : Bool := match P.underlying d with
  | some (.slice _) => true
  | _ => false
theorem doConvert_ok (k : TmOK e tm a.tmps) (r : Rel P e h w) {s d : TypeId} {x : Operand} (hm : makesRow P d = false) (ho : o.op = .convert s d x) (hd : doConvert P tm h s d x = some (.val v h')) : h' = h ∧ Val P e w a o v := by
  obtain ⟨p, h1, h2⟩ := ob_some hd
  obtain ⟨q, h3, h4⟩ := ob_some h2
  have hx := ev_ok k r h1
  have hE : execOp a.eval o = (do pure (Next.value (← convert s d (a.eval x)))) := by simp only [execOp, ho]
  obtain ⟨u, hu, h5⟩ := ob_some h3
  split at h5
  · split at h5
    · rename_i us hs
      cases h5; cases h4
      simp only [conc] at hx
      refine ⟨rfl, Val.mk hE rfl ?_⟩
      rw [← Option.some.inj hx]
      simp [convert, run_underlying hu, run_underlying hs, Conv.intToInt]
    · cases h5
  · split at h5
    · rename_i us hs
      cases h5; cases h4
      simp only [conc] at hx
      refine ⟨rfl, Val.mk hE rfl ?_⟩
      rw [← Option.some.inj hx]
      simp [convert, run_underlying hu, run_underlying hs, Conv.intToInt, SE.den]
    · cases h5
  · split at h5
    · rename_i us hs
      cases h5; cases h4
      simp only [conc] at hx
      refine ⟨rfl, Val.mk hE rfl ?_⟩
      rw [← Option.some.inj hx]
      cases us <;> simp [convert, run_underlying hu, run_underlying hs]
    · cases h5
  · rename_i el ss
    simp [makesRow, hu] at hm
  · split at h5
    · rename_i el hs
      split at h5
      · rename_i hel
        cases h5; cases h4
        simp only [conc] at hx
        refine ⟨rfl, Val.mk hE rfl ?_⟩
        rw [← Option.some.inj hx]
        simp only [convert, Sem.run_bind, run_underlying hu, run_underlying hs, run_underlying hel, Result.andThen_ok, Conv.bytesToString]
        rfl
      · cases h5
    · cases h5
  · rename_i b off n c
    split at h5
    · rename_i el hs
      split at h5
      · rename_i hel
        obtain ⟨blk, h6, h7⟩ := ob_some h5
        obtain ⟨l, h8, h9⟩ := ob_some h7
        obtain ⟨bs, h10, h11⟩ := ob_some h9
        cases h11; cases h4
        obtain ⟨p, hp, hV⟩ := conc_slice hx
        obtain ⟨L, h12, h13, h14⟩ := run_loadN (r.at h6 hp) h8
        obtain ⟨ns, h15, h16⟩ := bytesOf_ok h10 h12
        refine ⟨rfl, Val.mk hE (V := .string ⟨bs.toArray⟩) rfl ?_⟩
        rw [hV, run_convert_bytes_string w s d el _ n _ hs hel hu, run_bytesToString w _ n _ ns (by rw [h14, h15])]
        have := push_fold ns []
        simp only [List.nil_append] at this
        rw [h16] at this
        rw [← this]
        rfl
      · cases h5
    · cases h5
  · cases h5

/-! ### Calls that read -/
theorem doCall_read_ok (k : TmOK e tm a.tmps) (r : Rel P e h w) {c : Call} {b : Builtin} (hb : c.callee = .builtin b) (hk : b = .len ∨ b = .max ∨ b = .min) (ho : o.op = .call c) (hd : callD P tm h c = some (.val v h')) : h' = h ∧ Val P e w a o v := by
  obtain ⟨args, h1, h2⟩ := ob_some hd
  have hx := evs_ok k r h1
  obtain ⟨consts, hrun⟩ := call_builtin (P := P) (w := w) (a := a) ho hb
  have hargs : (c.args.map a.eval) = (c.args.toList.map a.eval).toArray := by apply Array.ext'; simp
  rw [hb] at h2
  simp only at h2
  split at h2
  · rename_i x
    obtain ⟨t, h3, h4⟩ := ob_some h2
    obtain ⟨u, h5, h6⟩ := ob_some h4
    cases h6
    obtain ⟨V, R, h7, h8, h9⟩ := concL_cons hx
    simp only [concL] at h8; cases h8
    obtain ⟨U, h10, h11⟩ := lenD_ok (c := c) r h7 h5 c.argTypes h3 o.type
    refine ⟨rfl, U, h10, ?_⟩
    rw [hrun, hargs, h9]
    simp [builtin, h11]
  · rcases hk with hk | hk | hk <;> cases hk
  · rcases hk with hk | hk | hk <;> cases hk
  · rcases hk with hk | hk | hk <;> cases hk
  · rename_i kk m kk' n
    cases h2
    obtain ⟨V, R, h7, h8, h9⟩ := concL_cons hx
    obtain ⟨V2, R2, h10, h11, h12⟩ := concL_cons h8
    simp only [concL] at h11; cases h11
    simp only [conc] at h7 h10; cases h7; cases h10
    refine ⟨rfl, _, rfl, ?_⟩
    rw [hrun, hargs, h9, h12]
    simp only [leZ_eq]
    by_cases hle : n ≤ m
    · have : ¬ n > m := by omega
      simp [builtin, Builtin.max_, Builtin.max2, hle, this]
    · have : n > m := by omega
      simp [builtin, Builtin.max_, Builtin.max2, hle, this]
  · rename_i kk m kk' n
    obtain ⟨r1, q1, q2⟩ := ob_some h2
    cases q2
    obtain ⟨V, R, h7, h8, h9⟩ := concL_cons hx
    obtain ⟨V2, R2, h10, h11, h12⟩ := concL_cons h8
    simp only [concL] at h11; cases h11
    simp only [conc] at h7 h10; cases h7; cases h10
    have h13 : decide (n.den e.ρ ≤ m.den e.ρ) = r1 := r.asm .le n m r1 q1
    refine ⟨rfl, .int kk (if n.den e.ρ ≤ m.den e.ρ then m.den e.ρ else n.den e.ρ), ?_, ?_⟩
    · simp only [conc]
      congr 2
      by_cases hle : n.den e.ρ ≤ m.den e.ρ
      · rw [if_pos hle]; rw [decide_eq_true hle] at h13; rw [← h13]
      · rw [if_neg hle]; rw [decide_eq_false hle] at h13; rw [← h13]
    · rw [hrun, hargs, h9, h12]
      by_cases hle : n.den e.ρ ≤ m.den e.ρ
      · have : ¬ n.den e.ρ > m.den e.ρ := by omega
        simp [builtin, Builtin.max_, Builtin.max2, hle, this]
      · have : n.den e.ρ > m.den e.ρ := by omega
        simp [builtin, Builtin.max_, Builtin.max2, hle, this]
  · rename_i kk m kk' n
    obtain ⟨r1, q1, q2⟩ := ob_some h2
    cases q2
    obtain ⟨V, R, h7, h8, h9⟩ := concL_cons hx
    obtain ⟨V2, R2, h10, h11, h12⟩ := concL_cons h8
    simp only [concL] at h11; cases h11
    simp only [conc] at h7 h10; cases h7; cases h10
    have h13 : decide (m.den e.ρ ≤ n.den e.ρ) = r1 := r.asm .le m n r1 q1
    refine ⟨rfl, .int kk (if m.den e.ρ ≤ n.den e.ρ then m.den e.ρ else n.den e.ρ), ?_, ?_⟩
    · simp only [conc]
      congr 2
      by_cases hle : m.den e.ρ ≤ n.den e.ρ
      · rw [if_pos hle]; rw [decide_eq_true hle] at h13; rw [← h13]
      · rw [if_neg hle]; rw [decide_eq_false hle] at h13; rw [← h13]
    · rw [hrun, hargs, h9, h12]
      by_cases hle : m.den e.ρ ≤ n.den e.ρ
      · have : ¬ n.den e.ρ < m.den e.ρ := by omega
        simp [builtin, Builtin.min_, Builtin.min2, hle, this]
      · have : n.den e.ρ < m.den e.ρ := by omega
        simp [builtin, Builtin.min_, Builtin.min2, hle, this]
  · rename_i kk m kk' n
    cases h2
    obtain ⟨V, R, h7, h8, h9⟩ := concL_cons hx
    obtain ⟨V2, R2, h10, h11, h12⟩ := concL_cons h8
    simp only [concL] at h11; cases h11
    simp only [conc] at h7 h10; cases h7; cases h10
    refine ⟨rfl, _, rfl, ?_⟩
    rw [hrun, hargs, h9, h12]
    simp only [leZ_eq]
    by_cases hle : m ≤ n
    · have : ¬ n < m := by omega
      simp [builtin, Builtin.min_, Builtin.min2, hle, this]
    · have : n < m := by omega
      simp [builtin, Builtin.min_, Builtin.min2, hle, this]
  · cases h2
end
end Go.Den
