import Derived.Test.YtcncmfefcbdnoaaDoorXaD3
set_option linter.unusedVariables false
set_option linter.unusedSimpArgs false
namespace Go.Den
section
variable {P : Program} {e : Env} {h : H} {w : World} {tm : Tm} {a : Act} {asm : Asm}

theorem concL_drop : ∀ (n : Nat) {cs : List IV} {L : List Value}, concL e cs = some L → concL e (cs.drop n) = some (L.drop n)
  | 0, cs, L, hc => by simpa using hc
  | n + 1, [], L, hc => by simp only [concL] at hc; cases hc; simp [concL]
  | n + 1, c :: cs, L, hc => by obtain ⟨V, R, hv, hr, rfl⟩ := concL_cons hc; simpa using concL_drop n hr
theorem concL_take : ∀ (n : Nat) {cs : List IV} {L : List Value}, concL e cs = some L → concL e (cs.take n) = some (L.take n)
  | 0, cs, L, hc => by simp [concL]
  | n + 1, [], L, hc => by simp only [concL] at hc; cases hc; simp [concL]
  | n + 1, c :: cs, L, hc => by obtain ⟨V, R, hv, hr, rfl⟩ := concL_cons hc; simpa using concL_mk hv (concL_take n hr)

theorem size_ok {t : TypeId} {n : Nat} (hn : size P t = some n) (w : World) : (sizeOf t).run P w = .ok n w := by
  unfold size at hn
  split at hn
  · rename_i i hi; cases hn; simp [sizeOf, typeInfo, hi]
  · cases hn
theorem size_info {t : TypeId} {n : Nat} (hn : size P t = some n) : ∃ i, P.info? t = some i ∧ i.size = n := by
  unfold size at hn
  split at hn
  · rename_i i hi; cases hn; exact ⟨i, hi, rfl⟩
  · cases hn
theorem zero_ok {t : TypeId} {z : IV} (hz : zero P t = some z) : ∃ i Z, P.info? t = some i ∧ i.zero = some Z ∧ ofValue Z = some z := by
  unfold zero at hz
  split at hz
  · rename_i i hi
    split at hz
    · rename_i Z hZ; exact ⟨i, Z, hi, hZ, hz⟩
    · cases hz
  · cases hz
theorem run_zeroValue' {t : TypeId} {i : TypeInfo} {Z : Value} (hi : P.info? t = some i) (hz : i.zero = some Z) (w : World) : (zeroValue t).run P w = .ok Z w := by
  simp [zeroValue, typeInfo, hi, hz]
theorem isAgg_ok {t : TypeId} {b : Bool} (hb : isAgg P t = some b) (w : World) : (Go.isAgg t).run P w = .ok b w := by
  unfold isAgg at hb
  split at hb
  · rename_i hu; cases hb; simp [Go.isAgg, run_underlying hu]
  · rename_i hu; cases hb; simp [Go.isAgg, run_underlying hu]
  · rename_i u h1 h2 hu
    cases hb
    simp only [Go.isAgg, Sem.run_bind, run_underlying hu, Result.andThen_ok]
    cases u <;> first | rfl | (exact (h1 _ rfl).elim) | (exact (h2 _ _ rfl).elim)
  · cases hb
theorem part_ok {t : TypeId} {cs : List IV} {off : Nat} {v : IV} {L : List Value} (hp : part P t cs off = some v) (hc : concL e cs = some L) (w : World) :
    ∃ V, (Go.part t L.toArray off).run P w = .ok V w ∧ conc e v = some V := by
  obtain ⟨b, hb, h1⟩ := ob_some hp
  cases b with
  | true =>
    obtain ⟨n, hn, h2⟩ := ob_some h1
    cases h2
    refine ⟨.agg (L.toArray.extract off (off + n)), ?_, ?_⟩
    · simp [Go.part, isAgg_ok hb, size_ok hn]
    · simp only [conc, concL_take n (concL_drop off hc)]
      congr 2
      apply Array.ext'
      simp
  | false =>
    obtain ⟨V, h2, h3⟩ := concL_get hc off v h1
    exact ⟨V, by simp [Go.part, isAgg_ok hb, h3], h2⟩

theorem eqFields_ok {d D : Nat} (hd : ∀ t x y b X Y (w : World), eqv P asm d t x y = some b → conc e x = some X → conc e y = some Y → (Op.equalIn D t X Y).run P w = .ok b w)
    {xs ys : List IV} {XS YS : List Value} (hx : concL e xs = some XS) (hy : concL e ys = some YS) (w : World) :
    ∀ (l : List Field) {b : Bool}, eqFields P (eqv P asm d) l xs ys = some b → (Op.eqFields D XS.toArray YS.toArray l).run P w = .ok b w
  | [], b, hb => by cases hb; rfl
  | f :: r, b, hb => by
    have hb' : @Bool.rec (fun _ => Option Bool)
      (ob (part P f.type xs f.offset) fun x => ob (part P f.type ys f.offset) fun y => ob (eqv P asm d f.type x y) fun e => @Bool.rec (fun _ => Option Bool) (some false) (eqFields P (eqv P asm d) r xs ys) e) (eqFields P (eqv P asm d) r xs ys) (f.name == "_") = some b := hb
    simp only [Op.eqFields]
    cases hn : (f.name == "_") with
    | true =>
      rw [hn] at hb'
      have : ¬ (f.name ≠ "_") := by simpa using hn
      rw [if_neg this]
      exact eqFields_ok hd hx hy w r hb'
    | false =>
      rw [hn] at hb'
      have : f.name ≠ "_" := by simpa using hn
      rw [if_pos this]
      obtain ⟨x, h1, h2⟩ := ob_some hb'
      obtain ⟨y, h3, h4⟩ := ob_some h2
      obtain ⟨c, h5, h6⟩ := ob_some h4
      obtain ⟨X, h7, h8⟩ := part_ok h1 hx w
      obtain ⟨Y, h9, h10⟩ := part_ok h3 hy w
      have h11 := hd _ _ _ _ _ _ w h5 h8 h10
      simp only [Sem.run_bind, h7, h9, h11, Result.andThen_ok, Sem.run_ite]
      cases c with
      | true => simpa using eqFields_ok hd hx hy w r h6
      | false => cases h6; simp
set_option maxHeartbeats 2000000 in
theorem eqv_ok (ha : AsmOK asm e.ρ) : ∀ (d D : Nat), d ≤ D → ∀ (t : TypeId) (x y : IV) (b : Bool) (X Y : Value) (w : World), eqv P asm d t x y = some b → conc e x = some X → conc e y = some Y → (Op.equalIn D t X Y).run P w = .ok b w
  | 0, D, _, t, x, y, b, X, Y, w, hb, _, _ => by cases hb
  | d + 1, 0, hd, _, _, _, _, _, _, _, _, _, _ => by omega
  | d + 1, D + 1, hd, t, x, y, b, X, Y, w, hb, hx, hy => by
    have ih := eqv_ok ha d D (by omega)
    have hb' : eqvStep P asm (eqv P asm d) t x y = some b := hb
    obtain ⟨u, hu, h1⟩ := ob_some hb'
    clear hb hb'
    split at h1
    · simp only [conc] at hx hy; cases hx; cases hy; cases h1; simp [Op.equalIn, run_underlying hu]
    · simp only [conc] at hx hy; cases hx; cases hy
      split at h1
      · rename_i hk; have := kindN_inj hk; subst this; cases h1; simp [Op.equalIn, run_underlying hu, eqZ_eq]
      · cases h1
    · simp only [conc] at hx hy; cases hx; cases hy
      split at h1
      · rename_i hk; have := kindN_inj hk; subst this; simp [Op.equalIn, run_underlying hu, symEq_ok ha h1]
      · cases h1
    · simp only [conc] at hx hy; cases hx; cases hy
      split at h1
      · rename_i hk; have := kindN_inj hk; subst this
        have := symEq_ok ha h1
        simp only [SE.den] at this
        simp [Op.equalIn, run_underlying hu, this]
      · cases h1
    · simp only [conc] at hx hy; cases hx; cases hy
      split at h1
      · rename_i hk; have := kindN_inj hk; subst this
        have := symEq_ok ha h1
        simp only [SE.den] at this
        simp [Op.equalIn, run_underlying hu, this]
      · cases h1
    · simp only [conc] at hx hy; cases hx; cases hy; cases h1; simp [Op.equalIn, run_underlying hu]
    · simp only [conc] at hx hy; cases hx; cases hy; cases h1; simp [Op.equalIn, run_underlying hu]
    · simp only [conc] at hx hy; cases hx; cases hy; cases h1; simp [Op.equalIn, run_underlying hu, eqU_eq, beq_toListBytes, toList_ba]
    · simp only [conc] at hx hy; cases hx; cases hy; cases h1; simp [Op.equalIn, run_underlying hu]
    · simp only [conc] at hx; cases hx; obtain ⟨p, hp, rfl⟩ := conc_ptr hy; cases h1; simp [Op.equalIn, run_underlying hu]
    · simp only [conc] at hy; cases hy; obtain ⟨p, hp, rfl⟩ := conc_ptr hx; cases h1; simp [Op.equalIn, run_underlying hu]
    · simp only [conc] at hx hy; cases hx; cases hy; cases h1; simp [Op.equalIn, run_underlying hu]
    · simp only [conc] at hx; cases hx; obtain ⟨p, hp, rfl⟩ := conc_iface hy; cases h1; simp [Op.equalIn, run_underlying hu]
    · simp only [conc] at hy; cases hy; obtain ⟨p, hp, rfl⟩ := conc_iface hx; cases h1; simp [Op.equalIn, run_underlying hu]
    · obtain ⟨U, hU, rfl⟩ := conc_iface hx; obtain ⟨U', hU', rfl⟩ := conc_iface hy
      split at h1
      · rename_i tx vx ty vy bb hk
        cases h1
        have : tx ≠ ty := fun he => by subst he; simp at hk
        simp [Op.equalIn, run_underlying hu, this]
      · rename_i tx vx ty vy bb hk
        have := Nat.eq_of_beq_eq_true hk; subst this
        obtain ⟨i, hi, h2⟩ := ob_some h1
        split at h2
        · rename_i hc
          have h3 := ih _ _ _ _ _ _ w h2 hU hU'
          simp [Op.equalIn, run_underlying hu, typeInfo, hi, hc, h3]
        · cases h2
    · obtain ⟨XS, hX, rfl⟩ := conc_agg hx; obtain ⟨YS, hY, rfl⟩ := conc_agg hy
      split at h1
      · cases h1
      · rename_i fields xs ys bb hs
        have hf : P.fieldsOf t = fields := by simp [Program.fieldsOf, hu]
        rw [run_equalIn_struct w D t XS.toArray YS.toArray (by rw [hf]; exact hu) hs, hf]
        exact eqFields_ok (fun t x y b X Y w h1 h2 h3 => ih t x y b X Y w h1 h2 h3) hX hY w _ h1
    · simp only [conc] at hx hy; cases hx; cases hy; cases h1; simp [Op.equalIn, run_underlying hu]
    · simp only [conc] at hx; cases hx; obtain ⟨p, hp, rfl⟩ := conc_slice hy; cases h1; simp [Op.equalIn, run_underlying hu]
    · simp only [conc] at hy; cases hy; obtain ⟨p, hp, rfl⟩ := conc_slice hx; cases h1; simp [Op.equalIn, run_underlying hu]
    · simp only [conc] at hx hy; cases hx; cases hy; cases h1; simp [Op.equalIn, run_underlying hu]
    · simp only [conc] at hx; cases hx; obtain ⟨A, C, h2, h3, rfl⟩ := conc_func hy; cases h1; simp [Op.equalIn, run_underlying hu]
    · simp only [conc] at hy; cases hy; obtain ⟨A, C, h2, h3, rfl⟩ := conc_func hx; cases h1; simp [Op.equalIn, run_underlying hu]
    · cases h1

theorem conc_inv {x : IV} {X : Value} (hx : conc e x = some X) :
    match X with | .int k n => x = .int k n ∨ ∃ s, x = .sint k s | .string s => x = .str s.data.toList | .float _ _ => False | .complex _ _ _ => False | .chan _ => False | .bool b => x = .bool b | _ => True := by
  cases x with
  | ptr b o => obtain ⟨p, hp, rfl⟩ := conc_ptr hx; trivial
  | slice b o l c => obtain ⟨p, hp, rfl⟩ := conc_slice hx; trivial
  | map b => obtain ⟨p, hp, rfl⟩ := conc_map hx; trivial
  | func fn a c => obtain ⟨A, C, h1, h2, rfl⟩ := conc_func hx; trivial
  | iface t v => obtain ⟨U, h1, rfl⟩ := conc_iface hx; trivial
  | agg cs => obtain ⟨C, h1, rfl⟩ := conc_agg hx; trivial
  | tuple cs => obtain ⟨C, h1, rfl⟩ := conc_tuple hx; trivial
  | int k n => simp only [conc] at hx; cases hx; exact .inl rfl
  | sint k s => simp only [conc] at hx; cases hx; exact .inr ⟨s, rfl⟩
  | _ => simp only [conc] at hx; cases hx; first | rfl | trivial | simp
theorem binOp_eql {t : TypeId} {x y : IV} {X Y : Value} (hx : conc e x = some X) (hy : conc e y = some Y)
    (h1 : ∀ k m k' n, X = .int k m → Y = .int k' n → False) (h2 : ∀ s r, x = .str s → y = .str r → False) :
    binOp .eql t X Y = (do pure (.bool (← Op.equal t X Y))) ∧ binOp .neq t X Y = (do pure (.bool (!(← Op.equal t X Y)))) := by
  have ix := conc_inv hx
  have iy := conc_inv hy
  cases X <;> cases Y <;> first
    | exact ⟨rfl, rfl⟩
    | (exact (h1 _ _ _ _ rfl rfl).elim)
    | (exact (h2 _ _ ix iy).elim)
    | (exact ix.elim)
    | (exact iy.elim)
theorem symShift_ok {left : Bool} {k j : IntKind} {s : SE} {m : Nat} {t : TypeId} (w : World) :
    ∃ V, (binOp (if left then .shl else .shr) t (.int k (s.den e.ρ)) (.int j (Int.ofNat m))).run P w = .ok V w ∧ conc e (.sint k (.bin (if left then .shl else .shr) k s (.n m))) = some V := by
  cases left with
  | true =>
    obtain ⟨V, h1, h2⟩ := shiftOp_ok (P := P) (e := e) (left := true) (k := k) (j := j) (x := s.den e.ρ) (y := Int.ofNat m) (t := t) rfl w
    refine ⟨V, h1, ?_⟩
    simp only [conc] at h2 ⊢
    exact h2
  | false =>
    obtain ⟨V, h1, h2⟩ := shiftOp_ok (P := P) (e := e) (left := false) (k := k) (j := j) (x := s.den e.ρ) (y := Int.ofNat m) (t := t) rfl w
    refine ⟨V, h1, ?_⟩
    simp only [conc] at h2 ⊢
    exact h2
theorem binOpD_ok {op : BinOp} {t : TypeId} {x y v : IV} {X Y : Value} (ha : AsmOK asm e.ρ) (hv : binOpD P asm op t x y = some v) (hx : conc e x = some X) (hy : conc e y = some Y) (w : World) :
    ∃ V, (binOp op t X Y).run P w = .ok V w ∧ conc e v = some V := by
  unfold binOpD at hv
  split at hv
  · rename_i k m k' n
    simp only [conc] at hx hy; cases hx; cases hy
    split at hv
    · exact shiftOp_ok (left := true) hv w
    · exact shiftOp_ok (left := false) hv w
    · rename_i h1 h2
      split at hv
      · rename_i hk; have := kindN_inj hk; subst this
        exact intOp_ok h1 h2 hv w
      · cases hv
  · simp only [conc] at hx hy; cases hx; cases hy
    exact strOp_ok hv w
  · rename_i k s k' n
    simp only [conc] at hx hy; cases hx; cases hy
    split at hv
    · cases hv; exact symShift_ok (left := true) w
    · cases hv; exact symShift_ok (left := false) w
    · split at hv
      · rename_i hk; have := kindN_inj hk; subst this
        exact symOp_ok (y := .n n) ha hv w
      · cases hv
  · rename_i k m k' s
    simp only [conc] at hx hy; cases hx; cases hy
    split at hv
    · rename_i hk; have := kindN_inj hk; subst this
      exact symOp_ok (x := .n m) ha hv w
    · cases hv
  · rename_i k r k' s
    simp only [conc] at hx hy; cases hx; cases hy
    split at hv
    · rename_i hk; have := kindN_inj hk; subst this
      exact symOp_ok ha hv w
    · cases hv
  · rename_i h1 h2 h3 h4 h5
    have hne : ∀ k m k' n, X = .int k m → Y = .int k' n → False := by
      intro k m k' n hX hY
      subst hX; subst hY
      rcases conc_inv hx with hx' | ⟨s, hx'⟩ <;> rcases conc_inv hy with hy' | ⟨r, hy'⟩
      · exact h1 _ _ _ _ hx' hy'
      · exact h4 _ _ _ _ hx' hy'
      · exact h3 _ _ _ _ hx' hy'
      · exact h5 _ _ _ _ hx' hy'
    obtain ⟨q1, q2⟩ := binOp_eql (t := t) hx hy hne (fun s r hx hy => h2 s r hx hy)
    split at hv
    · obtain ⟨b, h3, h4⟩ := ob_some hv
      cases h4
      have h5 := eqv_ok ha 100 10000 (by omega) _ _ _ _ _ _ w h3 hx hy
      exact ⟨.bool b, by rw [q1]; simp [Op.equal, Op.maxDepth, h5], rfl⟩
    · obtain ⟨b, h3, h4⟩ := ob_some hv
      cases h4
      have h5 := eqv_ok ha 100 10000 (by omega) _ _ _ _ _ _ w h3 hx hy
      exact ⟨.bool (!b), by rw [q2]; simp [Op.equal, Op.maxDepth, h5], rfl⟩
    · cases hv
end
end Go.Den
