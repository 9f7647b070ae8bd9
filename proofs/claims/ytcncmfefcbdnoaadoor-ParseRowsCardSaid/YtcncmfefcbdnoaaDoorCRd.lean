/- ParseRows: for any registers and any place of the one in brackets the law answers true, and the bytes read behind the call as they read before; what the row lists of package variables is tied to the program's text. -/
import Derived.Test.YtcncmfefcbdnoaaDoorCRc
import Derived.Test.YtcncmfefcbdnoaaDoorTie
import Derived.Test.YtcncmfefcbdnoaaDoorCards
import Derived.ChangeSame
import Derived.ChangeSlices
import Derived.ChangeVars
import Derived.JoinedOf
import Derived.RowKit
import Derived.RowKitTokens
import Derived.LaidLaws
import Derived.LaidHandle
import Derived.Lay
import Derived.Stop.Joined
import Derived.SevenTiedAt
import Derived.IntWalk
import Derived.ChangeMaps5
set_option linter.unusedVariables false
set_option linter.unusedSectionVars false
set_option maxRecDepth 100000
noncomputable section
namespace Go.Proofs.YtcncmfefcbdnoaaDoor
open Go.Den Go.Proofs Go.Extern Go.RowKit Go.ChangeShapes Go.WideShapes Go.ChangeMaps
section
variable [Mpr]
/-! ### A slice without bytes; none -/
noncomputable def rrZ (g nx : Nat) (hl : List (Nat × Blk)) : Ctr := ⟨[.sslice g 1 (.v 3) (.n 0) (.v 2), .sint .u8 (.v 1)], nx, hl, [], .bool true, [], []⟩
noncomputable def rrZT (g : Nat) : Tm := putLT [(0, .sslice g 1 (.v 3) (.n 0) (.v 2)), (1, .sint .u8 (.v 1))]
noncomputable def rrZB : Blk := .cells 5 0 [] .nil 2
noncomputable def rrZk (g nx : Nat) (hl : List (Nat × Blk)) : Bool := needsB Tryd.prog 9 fsRr (rrZ g nx hl) [] (startS Tryd.prog call24 fsRr 100000 (stpL []) (bodyOf fsRr) (rrZ g nx hl) (rrZT g) []) []
theorem rrZ_chk : (rrZk (9 + 1) (9 + 2) ((9 + 1, rrZB) :: baseL) && rrZk 0 (9 + 1) baseL && rrZk 1 (9 + 1) baseL && rrZk 2 (9 + 1) baseL) = true := by kernel_rfl
theorem rrZ_ctr {g nx : Nat} {hl : List (Nat × Blk)} (h : rrZk g nx hl = true) (ht : enterD (rrZ g nx hl).args fsRr.ntmps 0 .nil = some (rrZT g)) : CtrOK Tryd.prog 3 (rrZ g nx hl) :=
  ctr_fin (fuel := 100000) (stp := stpL []) gsz mixed (runD_ok static kn24_ok 20) Tryd.func3 (by kernel_rfl) (show fsRr.body = some (bodyOf fsRr) by kernel_rfl) (by kernel_rfl) ht (fun ρ hF => ⟨[], [], [], fl_nil, h, nd_nil⟩)
noncomputable def rrO : Ctr := ⟨[.nilSlice, .sint .u8 (.v 1)], 9 + 1, baseL, [], .bool true, [], []⟩
noncomputable def rrOT : Tm := putLT [(0, .nilSlice), (1, .sint .u8 (.v 1))]
theorem rrO_chk : needsB Tryd.prog 9 fsRr rrO [] (startS Tryd.prog call24 fsRr 100000 (stpL []) (bodyOf fsRr) rrO rrOT []) [] = true := by kernel_rfl
theorem rrO_ctr : CtrOK Tryd.prog 3 rrO :=
  ctr_fin (fuel := 100000) (stp := stpL []) gsz mixed (runD_ok static kn24_ok 20) Tryd.func3 (by kernel_rfl) (show fsRr.body = some (bodyOf fsRr) by kernel_rfl) (by kernel_rfl) (show enterD rrO.args fsRr.ntmps 0 .nil = some rrOT by kernel_rfl) (fun ρ hF => ⟨[], [], [], fl_nil, rrO_chk, nd_nil⟩)
end
instance mprR : Mpr := ⟨fun _ _ _ _ => dyI 0⟩
/-! ### A number more for a block -/
theorem rel_more {P : Program} {e : Env} {n : Nat} {m : T Blk} {a : Asm} {W : World} (r : Rel P e ⟨n, m, a⟩ W) (p : Nat × (Nat → Nat)) : Rel P (upd e n p) ⟨n + 1, m, a⟩ W := by
  have hn : e n = none := r.dom _ (Nat.le_refl _)
  have hle : e.le (upd e n p) := le_upd (h := ⟨n, m, a⟩) hn p
  have hup : ∀ id, id ≠ n → upd e n p id = e id := fun id hid => by simp [upd, hid]
  have hin : ∀ i x, m.get i = some x → i ≠ n := fun i x hx he => by
    obtain ⟨q, hq, _⟩ := r.blk i x hx
    rw [he, hn] at hq; cases hq
  refine ⟨fun id hid => ?_, fun i j x y q s hx hy hq hs h => ?_, fun id x hx => ?_, fun g hg => ?_, r.asm⟩
  · have hid' : n + 1 ≤ id := hid
    rw [hup id (by omega)]; exact r.dom id (show n ≤ id by omega)
  · rw [hup i (hin i x hx)] at hq; rw [hup j (hin j y hy)] at hs
    exact r.inj i j x y q s hx hy hq hs h
  · obtain ⟨q, hq, k⟩ := r.blk id x hx
    exact ⟨q, (hup id (hin id x hx)).trans hq, k.mono hle rfl⟩
  · obtain ⟨q, hq, h⟩ := r.glob g hg
    exact ⟨q, hle _ _ hq, h⟩
theorem rel_put {P : Program} {e : Env} {n : Nat} {m : T Blk} {a : Asm} {W : World} (r : Rel P e ⟨n, m, a⟩ W) {p : Nat × (Nat → Nat)} {b : Blk} (hb : BlkOK P (upd e n p) b p W) (ha : ∀ j x q, m.get j = some x → e j = some q → q.1 ≠ p.1) :
    Rel P (upd e n p) ⟨n + 1, m.put n b, a⟩ W := by
  have r2 := rel_more r p
  have hn : e n = none := r.dom _ (Nat.le_refl _)
  have hup : ∀ id, id ≠ n → upd e n p id = e id := fun id hid => by simp [upd, hid]
  have hget : ∀ j x, (m.put n b).get j = some x → (j = n ∧ x = b) ∨ (j ≠ n ∧ m.get j = some x) := fun j x hx => by
    rw [get_put] at hx
    by_cases he : j = n
    · rw [if_pos he] at hx; exact .inl ⟨he, by simpa using hx.symm⟩
    · rw [if_neg he] at hx; exact .inr ⟨he, hx⟩
  refine ⟨r2.dom, fun i j x y q s hx hy hq hs h => ?_, fun id x hx => ?_, r2.glob, r2.asm⟩
  · rcases hget i x hx with ⟨rfl, rfl⟩ | ⟨h1, h2⟩ <;> rcases hget j y hy with ⟨h3, h4⟩ | ⟨h3, h4⟩
    · exact h3.symm
    · rw [upd_at] at hq; cases hq
      rw [hup j h3] at hs
      exact absurd h.symm (ha j y s h4 hs)
    · subst h3
      rw [upd_at] at hs; cases hs
      rw [hup i h1] at hq
      exact absurd h (ha i x q h2 hq)
    · exact r2.inj i j x y q s h2 h4 hq hs h
  · rcases hget id x hx with ⟨rfl, rfl⟩ | ⟨h1, h2⟩
    · exact ⟨_, upd_at _ _, hb⟩
    · exact r2.blk id x h2
/-! ### What lies in the package variables is no byte -/
theorem c_handle {W : World} {hs : List (String × DataW Unit)} (h : handlesMet Tryd.prog hs W) (hm : ("errors.errorType", Rows.laid_errors_errorType) ∈ hs) : ∃ (u : TypeId) (v : Value) (t : TypeId) (fr : Nat × Nat), W.heap[(0 : Nat)]? = some (.cells #[.iface u v] t fr) := by
  obtain ⟨name, u, ty, e1, e2, e3, e4, e5⟩ := h _ hm
  obtain ⟨t, fr, hb⟩ := cells_of_var b_et e5
  exact ⟨_, _, t, fr, hb⟩
theorem c_sentinel {W : World} {n : String} {g : Nat} {text : List UInt8} {l : List (String × DataW Unit)} (h : laidMet Tryd.prog l W) (hm : (n, DataW.iface "*errors.errorString" (.ptr (.agg [.lit (.string text)]))) ∈ l) (hg : Tryd.prog.globalNamed n = some g) (ht : (Tryd.prog.globals[g]?).map (·.type) = some 29) :
    ∃ (u : TypeId) (v : Value) (t : TypeId) (fr : Nat × Nat), W.heap[g]? = some (.cells #[.iface u v] t fr) := by
  obtain ⟨ps, hv, hnd, hok⟩ := h
  have key : ∀ {l : List (String × DataW Unit)} {qs : List MemPlace}, DataW.LaidVars Tryd.prog W l qs → (∀ x ∈ qs, x ∈ ps) → (n, DataW.iface "*errors.errorString" (.ptr (.agg [.lit (.string text)]))) ∈ l →
      ∃ cs fuel p, W.var? Tryd.prog n = some cs ∧ DataW.trod (fun _ => ()) Tryd.prog W 0 (fun _ => true) false fuel 29 cs.toList = some (DataW.iface "*errors.errorString" (.ptr (.agg [.lit (.string text)])), p) ∧ ∀ x ∈ MemPlace.row ⟨g, 0, none⟩ cs.size, x ∈ ps := by
    intro l
    induction l with
    | nil => intro _ _ _ hm; cases hm
    | cons y r ih =>
      intro qs hq hs hm
      obtain ⟨n', d'⟩ := y
      obtain ⟨g', t, cs, fuel, p, q, h1, h2, h3, h4, h5, h6⟩ := hq
      rcases List.mem_cons.1 hm with e | e
      · cases e
        rw [hg] at h1; cases h1
        rw [ht] at h2; cases h2
        exact ⟨cs, fuel, p, h3, h4, fun x hx => hs x (by rw [h6]; simp [hx])⟩
      · exact ih h5 (fun x hx => hs x (by rw [h6]; simp [hx])) e
  obtain ⟨cs, fuel, p, h3, h4, h5⟩ := key hv (fun _ h => h) hm
  obtain ⟨t, fr, hb⟩ := cells_of_var hg h3
  obtain ⟨a, s, h6, _⟩ := errorString_of_trod (ti := 29) (tp := 156) (te := 158) (ts := 9) Tryd.underlying29 b_row Tryd.underlying156 Tryd.underlying158 rfl rfl Tryd.underlying9 (by kernel_rfl) (by kernel_rfl) h4 (fun u v hcs => by
    have hz : cs.size = 1 := by rw [← Array.length_toList, hcs]; rfl
    refine (hok g 0 (h5 _ (by rw [hz]; simp [MemPlace.row]))).2 u v ?_
    simp only [World.cell?, hb]
    have : cs = #[.iface u v] := by apply Array.ext'; exact hcs
    rw [this]; rfl)
  have hcs : cs = #[Value.iface 156 (.pointer (some a))] := by apply Array.ext'; exact h6
  exact ⟨_, _, t, fr, by rw [hb, hcs]⟩
theorem c_none {W : World} {g : Nat} (h : ∃ (u : TypeId) (v : Value) (t : TypeId) (fr : Nat × Nat), W.heap[g]? = some (.cells #[.iface u v] t fr)) {off : Nat} {k : IntKind} {n : Int} (hc : W.cell? ⟨g, off, none⟩ = some (.int k n)) : False := by
  obtain ⟨u, v, t, fr, hb⟩ := h
  simp only [World.cell?, hb] at hc
  rcases off with _ | off
  · simp at hc
  · simp at hc
theorem c_apart {W : World} {laid : List (String × DataW Unit)} (h : laidMetH Tryd.prog laid W) (h1 : ("errors.errorType", Rows.laid_errors_errorType) ∈ laid) (h2 : ("strconv.ErrRange", Rows.laid_strconv_ErrRange) ∈ laid) (h3 : ("strconv.ErrSyntax", Rows.laid_strconv_ErrSyntax) ∈ laid)
    {b off : Nat} {k : IntKind} {n : Int} (hc : W.cell? ⟨b, off, none⟩ = some (.int k n)) : ∀ p ∈ baseL, p.1 ≠ b := by
  obtain ⟨hm, hh⟩ := laidMetH_iff.1 h
  intro p hp he
  simp only [baseL, List.mem_cons, List.mem_nil_iff, or_false] at hp
  rcases hp with rfl | rfl | rfl
  · obtain rfl : 0 = b := he
    exact c_none (c_handle hh (List.mem_filter.2 ⟨h1, by rfl⟩)) hc
  · obtain rfl : 1 = b := he
    exact c_none (c_sentinel (n := "strconv.ErrRange") hm (List.mem_filter.2 ⟨h2, by rfl⟩) b_er (by kernel_rfl)) hc
  · obtain rfl : 2 = b := he
    exact c_none (c_sentinel (n := "strconv.ErrSyntax") hm (List.mem_filter.2 ⟨h3, by rfl⟩) b_es (by kernel_rfl)) hc
/-! ### The call -/
def rhoR (zs : List Int) (i : Int) (off cap : Nat) : Nat → Dy
  | 0 => dyR (zs.map fun z => [(z, [])])
  | 1 => dyI i
  | 2 => dyI cap
  | _ => dyI off
theorem conc_win {e : Env} {id b off cap n : Nat} {l : SE} (he : e id = some (b, fun _ => 0)) (h3 : (SE.v 3).den e.ρ = (off : Int)) (h2 : (SE.v 2).den e.ρ = (cap : Int)) (hl : l.den e.ρ = (n : Int)) (hc : cap < 9223372036854775808) : conc e (.sslice id 1 (.v 3) l (.v 2)) = some (.slice (some ⟨b, off, none⟩) n cap) := by
  rw [conc_sslice_mk he ⟨by rw [h3]; omega, by rw [hl]; omega, by rw [h2]; omega, by rw [h2]; omega⟩, h3, h2, hl, if_neg (by omega)]; simp
abbrev RowsOut (W : World) (args : Array Value) : Prop := Calls Tryd.prog 3 args W fun x W' => x = .returned (.bool true) ∧ Below W.heap.size W W'
theorem rows_nil {W : World} (h : laidMetH Tryd.prog Rows.parseRowsRow.laid W) (i : Int) : RowsOut W #[.slice none 0 0, .int .u8 i] := by
  obtain ⟨ω, r⟩ := base_rel h (by simp [Rows.parseRowsRow]) (by simp [Rows.parseRowsRow]) (by simp [Rows.parseRowsRow]) noAsm (rhoR [] i 0 0) (noAsm_ok _)
  exact law_of_ctr Tryd.func3 (by kernel_rfl) (by kernel_rfl) rrO_ctr base_ro r fl_nil rfl
theorem rows_zero {W : World} (h : laidMetH Tryd.prog Rows.parseRowsRow.laid W) (i : Int) (b off cap : Nat) (hcap : cap ≤ maxLen) (hb : ∃ cur t fr, W.heap[b]? = some (.cells cur t fr)) : RowsOut W #[.slice (some ⟨b, off, none⟩) 0 cap, .int .u8 i] := by
  obtain ⟨ω, r⟩ := base_rel h (by simp [Rows.parseRowsRow]) (by simp [Rows.parseRowsRow]) (by simp [Rows.parseRowsRow]) noAsm (rhoR [] i off cap) (noAsm_ok _)
  have hm : maxLen < 9223372036854775808 := by decide
  have hck := rrZ_chk
  simp only [Bool.and_eq_true] at hck
  obtain ⟨⟨⟨k0, k1⟩, k2⟩, k3⟩ := hck
  by_cases hg : ∃ p ∈ baseL, p.1 = b
  · obtain ⟨p, hp, hpb⟩ := hg
    have go : ∀ g, g ≤ 9 → g = b → rrZk g (9 + 1) baseL = true → enterD (rrZ g (9 + 1) baseL).args fsRr.ntmps 0 .nil = some (rrZT g) → RowsOut W #[.slice (some ⟨b, off, none⟩) 0 cap, .int .u8 i] := fun g hlt he hk ht => by
      refine law_of_ctr Tryd.func3 (by kernel_rfl) (by kernel_rfl) (rrZ_ctr hk ht) base_ro r fl_nil (concL_mk (conc_win (b := b) ?_ rfl rfl rfl (by omega)) rfl)
      rw [baseE_at hlt, he]
    simp only [baseL, List.mem_cons, List.mem_nil_iff, or_false] at hp
    rcases hp with rfl | rfl | rfl
    · exact go _ (by decide) hpb k1 (by kernel_rfl)
    · exact go _ (by decide) hpb k2 (by kernel_rfl)
    · exact go _ (by decide) hpb k3 (by kernel_rfl)
  · obtain ⟨cur, t, fr, hb⟩ := hb
    have hbk : BlkOK Tryd.prog (upd (baseE 9 (rhoR [] i off cap) ω) (9 + 1) (b, fun _ => 0)) rrZB (b, fun _ => 0) W := by
      refine ⟨cur, t, fr, hb, fun h => absurd rfl h, Nat.zero_le _, fun h => absurd rfl h, fun o v hv => ?_, fun h => by cases h⟩
      have h0 : Nat.blt o 0 = false := by cases o <;> rfl
      rw [show (Blk.cells 5 0 [] T.nil 2).cell o = none by simp only [Blk.cell, h0]] at hv
      cases hv
    have r2 := rel_put r (p := (b, fun _ => 0)) (b := rrZB) hbk (fun j x q hj hq he => by
      have hjl := putL_get hj
      have hlt : j ≤ 9 := by
        simp only [baseL, List.mem_cons, List.mem_nil_iff, or_false] at hjl
        rcases hjl with h | h | h <;> (cases h; decide)
      rw [baseE_at hlt] at hq
      cases hq
      exact hg ⟨_, hjl, he⟩)
    refine law_of_ctr Tryd.func3 (by kernel_rfl) (by kernel_rfl) (rrZ_ctr k0 (by kernel_rfl)) (putL_ro fun p hp => ?_) r2 fl_nil (concL_mk (conc_win (b := b) (upd_at _ _) rfl rfl rfl (by omega)) rfl)
    rcases List.mem_cons.1 (show p ∈ (9 + 1, rrZB) :: baseL from hp) with rfl | hp
    · rfl
    · simp only [baseL, List.mem_cons, List.mem_nil_iff, or_false] at hp
      rcases hp with rfl | rfl | rfl <;> rfl
theorem rows_some {W : World} (h : laidMetH Tryd.prog Rows.parseRowsRow.laid W) {i : Int} (hi : 0 ≤ i ∧ i ≤ 255) {b off cap : Nat} {zs : List Int} (hcap : cap ≤ maxLen) (hz : zs ≠ []) (hzs : ∀ z ∈ zs, 0 ≤ z ∧ z ≤ 255) (hcell : ∀ j, j < zs.length → W.cell? ⟨b, off + j, none⟩ = some (.int .u8 (zs.getD j 0))) (hl : zs.length ≤ cap) :
    RowsOut W #[.slice (some ⟨b, off, none⟩) zs.length cap, .int .u8 i] := by
  obtain ⟨ω, r⟩ := base_rel h (by simp [Rows.parseRowsRow]) (by simp [Rows.parseRowsRow]) (by simp [Rows.parseRowsRow]) noAsm (rhoR zs i off cap) (noAsm_ok _)
  have hm : maxLen < 9223372036854775808 := by decide
  have hpos : 0 < zs.length := List.length_pos_iff.2 hz
  have hc0 := hcell 0 hpos
  have hap := c_apart h (by simp [Rows.parseRowsRow]) (by simp [Rows.parseRowsRow]) (by simp [Rows.parseRowsRow]) hc0
  have hrow : rrW.row (rhoR zs i off cap) = zs.map fun z => [(z, [])] := rfl
  have hrl : (rrW.row (rhoR zs i off cap)).length = zs.length := by rw [hrow, List.length_map]
  -- the block
  obtain ⟨cur, t, fr, hb⟩ : ∃ cur t fr, W.heap[b]? = some (.cells cur t fr) := by
    unfold World.cell? at hc0
    split at hc0
    · rename_i c t fr hh; exact ⟨c, t, fr, hh⟩
    · cases hc0
  have hcur : ∀ j, j < zs.length → cur[off + j]? = some (.int .u8 (zs.getD j 0)) := fun j hj => by
    have := hcell j hj
    simp only [World.cell?, hb] at this
    simpa using this
  have hbig : off + zs.length ≤ cur.size := by
    have := (Array.getElem?_eq_some_iff.1 (hcur (zs.length - 1) (by omega))).1
    omega
  have hsh : ∀ e : Env, e.ρ = rhoR zs i off cap → shO e 2 rrW 1 = off := fun e he => by
    unfold shO
    rw [he]
    show ((off : Nat) : Int).toNat * 1 = off
    rw [Int.toNat_natCast, Nat.mul_one]
  have hblk : BlkOK Tryd.prog (upd (baseE 9 (rhoR zs i off cap) ω) (9 + 1) (b, fun _ => 0)) rrB (b, fun _ => 0) W := by
    refine ⟨cur, t, fr, hb, fun h => absurd rfl h, rfl, by decide, ?_, fun h => absurd rfl h, fun j k f hj hf => ?_, fun h => by cases h⟩
    · rw [hsh _ rfl]
      show (rrW.row (rhoR zs i off cap)).length * 1 + off ≤ cur.size
      rw [hrl]; omega
    · rw [hsh _ rfl]
      have hj' : j < (rrW.row (rhoR zs i off cap)).length := hj
      rw [hrl] at hj'
      rcases k with _ | k
      · obtain rfl : Form.int .u8 0 = f := Option.some.inj hf
        refine ⟨_, rfl, ?_⟩
        have hcellv : (tCell rrW (.n (j : Int)) 0).den (rhoR zs i off cap) = zs.getD j 0 := by
          show (cellAt (rrW.row (rhoR zs i off cap)) ((j : Int)).toNat ((0 : Nat) : Int).toNat).1 = _
          rw [hrow, Int.toNat_natCast]
          unfold cellAt
          rw [List.getElem?_map, List.getElem?_eq_getElem hj', List.getD_eq_getElem?_getD, List.getElem?_eq_getElem hj']; rfl
        show cur[j * 1 + 0 + off]? = some (Value.int .u8 ((tCell rrW (.n (j : Int)) 0).den (rhoR zs i off cap)))
        rw [hcellv, show j * 1 + 0 + off = off + j by omega]
        exact hcur j hj'
      · cases hf
  have r2 := rel_put r (p := (b, fun _ => 0)) hblk (fun j x q hj hq => by
    have hjl := putL_get hj
    have h1 := hap _ hjl
    have hlt : j ≤ 9 := by
      simp only [baseL, List.mem_cons, List.mem_nil_iff, or_false] at hjl
      rcases hjl with h | h | h <;> (cases h; decide)
    rw [baseE_at hlt] at hq
    cases hq
    exact h1)
  have hF : ∀ x ∈ rrFs, Fact.holds (rhoR zs i off cap) x := by
    refine fl_cons (eqF_ok ?_) (fl_cons (ltN ?_) (fl_cons (ltN ?_) (fl_cons (ltT ?_) fl_nil)))
    · show b01 (bytesR (rrW.row (rhoR zs i off cap))) = 1
      rw [hrow]
      have : bytesR (zs.map fun z => [(z, ([] : List UInt8))]) = true := List.all_eq_true.2 fun x hx => by
        obtain ⟨z, hz1, rfl⟩ := List.mem_map.1 hx
        have := hzs z hz1
        show (decide (0 ≤ z) && decide (z < 256)) = true
        rw [decide_eq_true this.1, decide_eq_true (by omega)]; rfl
      rw [this]; rfl
    · rw [den_n]; exact Int.natCast_nonneg off
    · rw [den_n]; exact hi.1
    · rw [den_n]; show i < 256; omega
  refine law_of_ctr Tryd.func3 (by kernel_rfl) (by kernel_rfl) rr_ctr (putL_ro fun p hp => ?_) r2 hF (concL_mk ?_ rfl)
  · rcases List.mem_cons.1 (show p ∈ (9 + 1, rrB) :: baseL from hp) with rfl | hp
    · rfl
    · simp only [baseL, List.mem_cons, List.mem_nil_iff, or_false] at hp
      rcases hp with rfl | rfl | rfl <;> rfl
  · have hn : rrN.den (rhoR zs i off cap) = ((zs.length : Nat) : Int) := by
      show (((rrW.row (rhoR zs i off cap)).length : Nat) : Int) = _
      rw [hrl]
    exact conc_win (upd_at _ _) rfl rfl hn (by omega)
theorem wf_u8 {n : Int} (h : (Lit.int .u8 n).wf = true) : 0 ≤ n ∧ n ≤ 255 := by
  have h' : (decide (IntKind.u8.min ≤ n) && decide (n ≤ IntKind.u8.max)) = true := h
  rw [show IntKind.u8.min = 0 by decide, show IntKind.u8.max = 255 by decide] at h'
  simpa using h'
theorem own : ownKnob Tryd.prog.godebug = none := by kernel_rfl
/-- A world that meets the condition. -/
noncomputable def w0 (os : Os) : World :=
  let w := World.holding Tryd.prog os ⟨#[], #[], []⟩
  { w with heap := w.heap.modify 0 fun
      | .cells _ t frozen => .cells #[.iface 121 (.agg #[.pointer (some ⟨9, 29, none⟩)])] t frozen
      | o => o }
noncomputable def laidPlain : List (String × DataW Unit) := Rows.parseRowsRow.laid.filter fun x => x.2.handleName?.isNone
noncomputable def laidWorld (os : Os) : World := (w0 os).layVars Tryd.prog laidPlain
theorem laidWorld_met (os : Os) (args : Array Value) : laidMetH Tryd.prog Rows.parseRowsRow.laid ((laidWorld os).forCall (fun _ _ => 0) ⟨#[], args, []⟩).memory := by
  have e1 : (laidPlain.filter fun x => (laidPlain.map (·.1)).contains x.1) = laidPlain := by kernel_rfl
  have e2 : (laidPlain.filter fun x => !(laidPlain.map (·.1)).contains x.1) = [] := by kernel_rfl
  refine laidMetH_of_parts (laidMet_layVars (w0 := w0 os) (laidPlain.map (·.1)) [] ?_ ?_ ?_ ?_) (by kernel_rfl)
  · exact (congrArg (fun l => ((w0 os).layVars Tryd.prog l).heap) e1).symm
  · exact (congrArg (fun l => (w0 os).layFits Tryd.prog l []) e1).trans (by kernel_rfl)
  · exact (congrArg (fun l => (w0 os).layIfaces Tryd.prog l _) e1).trans (by kernel_rfl)
  · exact e2 ▸ LaidIn.none
theorem rows_lifted (os : Os) (started : os.Started) (H : Type) (enc : TypeId × Value → H) :
    ReturnsInHanded {} Tryd.checked os 3 .any (fun w args => (Rows.parseRowsSpec.pre enc Tryd.prog Tryd.f3 [] false w args ∧ laidMetH Tryd.prog Rows.parseRowsRow.laid w) ∧ sizedMet enc Tryd.prog Tryd.f3 (OpenSpec.ofChange Rows.parseRowsSpec) false w args)
      (Rows.parseRowsSpec.post enc Tryd.prog Tryd.f3 false true false false) := by
  refine returnsInHanded_of_change_and (C := Tryd.checked) (X := fun w _ => laidMetH Tryd.prog Rows.parseRowsRow.laid w) (fun _ _ _ hh h => h.of_heap hh) own started (by kernel_rfl) Tryd.func3
    (ChangeSpec.witness_shaped (enc := enc) (C := Tryd.checked) (os := os) (X := fun w _ => laidMetH Tryd.prog Rows.parseRowsRow.laid w) false (laidWorld os) #[.slice none 0 0, .int .u8 0] 8 (World.layVars_os _ _ _) (World.shaped_of_ZipB (by kernel_rfl) (by kernel_rfl)) (by kernel_rfl) (by kernel_rfl) (by kernel_rfl) (laidWorld_met os _)) ?_
  intro W base args ds gs before hval0 hW _ _ hL _
  have hval : ∀ (j : Nat) t v, Tryd.f3.params[j]? = some t → args[j]? = some v → Value.okWide Tryd.prog W .any base t v := hval0
  have hW' := hW
  obtain ⟨p, q, hA0, hV0, rfl, hfz, hnd⟩ := hW
  have hA : DataW.TrodAll enc Tryd.prog W 0 (fun _ => true) true Tryd.f3.params.toList args.toList ds p := hA0
  have hV : DataW.TrodVars enc Tryd.prog W (fun _ => true) [] gs q := hV0
  rw [Tryd.params3] at hA hval
  obtain ⟨v0, v1, d0, d1, p0, p1, rfl, rfl, rfl, h0, h1⟩ := trodAll_two hA
  obtain ⟨i, rfl, rfl, rfl, hwi⟩ := open_int Tryd.underlying5 (hval 1 5 v1 rfl rfl) h1
  have hv0 := hval 0 22 v0 rfl rfl
  obtain ⟨a0, len, cap, rfl⟩ := okWide_slice Tryd.underlying22 hv0
  obtain ⟨rfl, rfl⟩ : gs = [] ∧ q = [] := by
    cases gs with
    | nil => exact ⟨rfl, hV⟩
    | cons g r => exact absurd hV (by intro h; cases h)
  have hcl : Tryd.prog.cellsOf 5 = 1 := by kernel_rfl
  obtain ⟨fuel, hf⟩ := h0
  rcases open_ints Tryd.underlying22 Tryd.underlying5 hcl hf with ⟨hcs, hx⟩ | ⟨a, len', cap', zs, hcs, _, hl, hm, hz, hx, hcell, hwz⟩
  · simp only [Prod.mk.injEq] at hx
    obtain ⟨rfl, rfl⟩ := hx
    simp [Value.cells] at hcs
    obtain ⟨rfl, rfl, rfl⟩ := hcs
    refine (rows_nil hL i).mono fun x W' ⟨he, hw⟩ => ?_
    subst he
    refine ⟨_, rfl, _, _, _, [], [], [], hW', ?_, ?_, ?_, hw.frame _, fun h => by cases h⟩
    · exact trodAll_mk1 (shut_bool Tryd.underlying4 true)
    · have t0 : DataW.trod enc Tryd.prog W' 0 (fun x => decide (x < W.heap.size)) true 2 22 [.slice none 0 0] = some (.nil, []) := by
        rw [DataW.trod_step]
        unfold DataW.trodStep
        simp only [Tryd.underlying22]
      exact trodAll_mk2 (show DataW.Trod enc Tryd.prog W' 0 (fun x => decide (x < W.heap.size)) true 22 (.slice none 0 0) .nil [] from ⟨2, t0⟩) (shut_int Tryd.underlying5 hwi)
    · rfl
  · simp [Value.cells] at hcs
    obtain ⟨rfl, rfl, rfl⟩ := hcs
    simp only [Prod.mk.injEq] at hx
    obtain ⟨rfl, rfl⟩ := hx
    simp only [if_true] at hz
    have hhas : W.has Tryd.prog .any base a 5 cap := by
      have hv1 := hv0
      simp only [Value.okWide, Tryd.underlying22, Cell.okWide, Cell.ok] at hv1
      exact hv1.2.2
    obtain ⟨b, off, spot⟩ := a
    obtain ⟨_, hspot, rw0, cells0, hshape, _⟩ := hhas
    have hspot' : spot = none := hspot
    subst hspot'
    have hblk : ∃ cur t fr, W.heap[b]? = some (.cells cur t fr) := by
      have hs : W.shape? b = some (rw0, cells0) := hshape
      unfold World.shape? at hs
      split at hs
      · rename_i hh; exact ⟨_, _, _, hh⟩
      · cases hs
    have hblt : b < W.heap.size := by
      obtain ⟨_, _, _, hh⟩ := hblk
      exact (Array.getElem?_eq_some_iff.1 hh).1
    have hcell' : ∀ j, j < zs.length → W.cell? ⟨b, off + j, none⟩ = some (.int .u8 (zs.getD j 0)) := fun j hj => by rw [← add_plain]; exact hcell j hj
    have hgo : RowsOut W #[.slice (some ⟨b, off, none⟩) len cap, .int .u8 i] := by
      by_cases hlen : len = 0
      · subst hlen; exact rows_zero hL i b off cap hm hblk
      · have hlt : (zs.take len).length = len := by rw [List.length_take, hz]; omega
        have := rows_some hL (wf_u8 hwi) (b := b) (off := off) (cap := cap) (zs := zs.take len) hm (fun h => by rw [h] at hlt; simp at hlt; omega) (fun z hz => wf_u8 (hwz z (List.mem_of_mem_take hz))) (fun j hj => by
          rw [hlt] at hj
          rw [hcell' j (by omega)]
          simp [List.getD_eq_getElem?_getD, List.getElem?_take, hj]) (by rw [hlt]; exact hl)
        rw [hlt] at this
        exact this
    refine hgo.mono fun x W' ⟨he, hw⟩ => ?_
    subst he
    have hk : ∀ a : Addr, a.block = b → W'.cell? a = W.cell? a := fun a ha => by
      unfold World.cell?
      rw [ha, hw.block b hblt]
    refine ⟨_, rfl, _, _, _, [], MemPlace.row ⟨b, off, none⟩ zs.length ++ [], [], hW', ?_, ?_, ?_, hw.frame _, fun h => by cases h⟩
    · exact trodAll_mk1 (shut_bool Tryd.underlying4 true)
    · have t0 := shut_ints' (enc := enc) (w := W') (base := 0) (spare := fun x => decide (x < W.heap.size)) (held := true) (b := b) (off := off) (len := len) (cap := cap) (zs := zs) 0 Tryd.underlying22 Tryd.underlying5 hcl
        (Nat.zero_le b) hl hm (by simp [hblt, hz]) (fun j hj => by rw [hk _ rfl]; exact hcell' j hj) hwz
      exact trodAll_mk2 (show DataW.Trod enc Tryd.prog W' 0 (fun x => decide (x < W.heap.size)) true 22 (.slice (some ⟨b, off, none⟩) len cap) _ _ from ⟨2, t0⟩) (shut_int Tryd.underlying5 hwi)
    · rfl
theorem rows_said : Rows.ParseRowsSaid :=
  OpenClaim.holds_of_wide 3 Tryd.f3 rfl rfl rfl rfl rfl rfl rfl ⟨rfl, rfl, rfl, rfl, rfl⟩ rfl rfl rfl rfl rfl (by kernel_rfl) Tryd.func3 (by kernel_rfl)
    (of_decide_eq_true (by kernel_rfl)) (by unfold Func.isWrapper; rw [if_neg (of_decide_eq_false (by kernel_rfl))]; exact ⟨rfl, rfl⟩)
    (fun os started H enc _ => rows_lifted os started H enc)
theorem rows_card : Rows.ParseRowsCardSaid :=
  Claim7.holds_tied_plain_at .later [] _ true Rows.parseRowsCard.stood.harness true
    rows_said (fun _ h => by cases h) (by kernel_rfl) (fun _ h => by cases h) parseRows_row_tie rfl ⟨rfl, rfl⟩ (by kernel_rfl) rfl
    (fun f fn hf hfn => by
      obtain rfl : f = 3 := Option.some.inj ((show Tryd.prog.funcNamed "hasp/hasplaw14.ParseRows" = some 3 by kernel_rfl).symm.trans hf) |>.symm
      obtain rfl : fn = Tryd.f3 := (Option.some.inj (Tryd.func3.symm.trans hfn)).symm
      exact ⟨by kernel_rfl, fun j t ht => by
        rw [Tryd.params3] at ht
        rcases j with _ | _ | j
        · obtain rfl : t = 22 := by simpa using ht.symm
          exact (show Tryd.prog.wantsStandIn 22 = false by kernel_rfl)
        · obtain rfl : t = 5 := by simpa using ht.symm
          exact (show Tryd.prog.wantsStandIn 5 = false by kernel_rfl)
        · simp at ht⟩)
    (by kernel_rfl)
#print axioms rows_card
end Go.Proofs.YtcncmfefcbdnoaaDoor
