/- The law AuditRow holds: a row of answers rises just if no answer that is well is below the one ahead that was: for every input. -/
import Derived.Test.YtmghibfeeibcmaaGreatDoorA3
import Derived.Test.YtmghibfeeibcmaaGreatDoorCards
import Derived.Test.YtmghibfeeibcmaaGreatDoorTie
section
namespace Go.Proofs.YtmghibfeeibcmaaGreatDoor.auditRow
set_option linter.all false
set_option maxRecDepth 100000
open Go Go.AM Go.ChangeShapes Go.WideShapes Go.ChangeAt Go.RowKit
theorem own : ownKnob Tryz.prog.godebug = none := by kernel_rfl
def table (l : List Nat) : Obj → Obj
  | .cells _ t fr => .cells (l.map fun n => Value.int .u8 (Int.ofNat n)).toArray t fr
  | o => o
noncomputable def laidWorld (os : Os) : World :=
  { World.holding Tryz.prog os ⟨#[], #[], []⟩ with heap := ((World.holding Tryz.prog os ⟨#[], #[], []⟩).heap.modify 0 (table Go.Pinned.utf8FirstZ)).modify 1 (table [128, 191, 160, 191, 128, 159, 144, 191, 128, 143, 0, 0, 0, 0, 0, 0, 0, 0, 0, 0, 0, 0, 0, 0, 0, 0, 0, 0, 0, 0, 0, 0]) }
theorem laid_met (os : Os) : laidMet Tryz.prog Rows.auditRowRow.laid ((laidWorld os).forCall (fun _ _ => 0) ⟨#[], #[.slice none 0 0, .slice none 0 0], []⟩).memory :=
  laidMet_of_run' 8 (by kernel_rfl) (by kernel_rfl)
theorem reads (os : Os) {H : Type} (enc : TypeId × Value → H) : ∃ places, DataW.whole enc Tryz.prog ((laidWorld os).forCall (fun _ _ => 0) ⟨#[], #[.slice none 0 0, .slice none 0 0], []⟩).memory Tryz.f5.params.toList Rows.auditRowSpec.vars false #[Value.slice none 0 0, .slice none 0 0].toList 8 = some ([.nil, .nil], [], places) :=
  ⟨[], by kernel_rfl⟩
theorem slice1 {P : Program} {n : Nat} {t e : TypeId} {a : AV} (hu : P.underlying t = some (.slice e)) (hc : P.cellsOf e = 1) (ha : aggU P e = false) (h : TyA P (n + 1) t a) : ∃ xs : List AV, a = tsE 1 xs ∧ xs.length ≤ maxLen ∧ ∀ x ∈ xs, ∃ l, TyL P n e l ∧ x = l.getD 0 .undef := by
  obtain ⟨l, hl, rfl⟩ := h
  simp only [TyL, hu] at hl
  obtain ⟨xs, rfl, hx, hall⟩ := hl
  refine ⟨xs, by simp [elA, aggU, hu, hc], hx, fun x hx => ?_⟩
  obtain ⟨l, h1, h2⟩ := hall x hx
  exact ⟨l, h1, by simpa [elA, ha] using h2⟩
theorem lift_map {α : Type} {f : α → AV} : ∀ {xs : List AV}, (∀ x ∈ xs, ∃ y, x = f y) → ∃ ys : List α, xs = ys.map f := by
  intro xs
  induction xs with
  | nil => intro _; exact ⟨[], rfl⟩
  | cons x r ih =>
    intro h
    obtain ⟨y, hy⟩ := h x (by simp)
    obtain ⟨ys, hys⟩ := ih fun z hz => h z (by simp [hz])
    exact ⟨y :: ys, by rw [hy, hys]; rfl⟩
theorem pure_all (vs : List AV) (hl : vs.length = 2) (h : ∀ j, j < 2 → TyA Tryz.prog 3 ([56, 57].getD j 0) (vs.getD j .undef)) : Pure Tryz.prog 5 vs (.bool true) := by
  obtain ⟨a, b, rfl⟩ : ∃ a b, vs = [a, b] := by
    match vs, hl with
    | [a, b], _ => exact ⟨a, b, rfl⟩
  have h0 := h 0 (by omega)
  have h1 := h 1 (by omega)
  simp only [List.getD_cons_zero, List.getD_cons_succ] at h0 h1
  obtain ⟨xs, rfl, hx1, hx2⟩ := slice1 (e := 39) (by kernel_rfl) (by kernel_rfl) (by kernel_rfl) h0
  obtain ⟨ys, rfl, hy1, hy2⟩ := slice1 (e := 4) (by kernel_rfl) (by kernel_rfl) (by kernel_rfl) h1
  obtain ⟨l, rfl⟩ := lift_map (f := dwordA) (xs := xs) fun x hx => by
    obtain ⟨l, hl, rfl⟩ := hx2 x hx
    have hu : Tryz.prog.underlying 39 = some (.int .u64) := by kernel_rfl
    simp only [TyL, hu] at hl
    obtain ⟨m, rfl, hw⟩ := hl
    have hw2 : 0 ≤ m ∧ m ≤ 18446744073709551615 := by simpa [Lit.wf, IntKind.has, IntKind.min, IntKind.max, IntKind.signed, IntKind.bits] using hw
    refine ⟨UInt64.ofNat m.toNat, ?_⟩
    have e : ((UInt64.ofNat m.toNat).toNat : Int) = m := by rw [UInt64.toNat_ofNat']; omega
    show AV.int .u64 m = AV.int .u64 ((UInt64.ofNat m.toNat).toNat : Int)
    rw [e]
  obtain ⟨bad, rfl⟩ := lift_map (f := boolA) (xs := ys) fun x hx => by
    obtain ⟨l, hl, rfl⟩ := hy2 x hx
    have hu : Tryz.prog.underlying 4 = some .bool := by kernel_rfl
    simp only [TyL, hu] at hl
    obtain ⟨b, rfl⟩ := hl
    exact ⟨b, rfl⟩
  exact auditRow_pure l bad (Nat.lt_of_le_of_lt (by simpa using hx1) (by decide)) (Nat.lt_of_le_of_lt (by simpa using hy1) (by decide))
theorem laidOut : laidOutB Tryz.prog = true := by kernel_rfl
set_option maxRecDepth 100000 in
theorem lifted (os : Os) (started : os.Started) (H : Type) (enc : TypeId × Value → H) (F : Stop.Interp) :
    ReturnsInHanded {} Tryz.checked os 5 .any ((OpenSpec.ofChange Rows.auditRowSpec).preRow enc Tryz.prog Tryz.f5 Rows.auditRowRow.domain false Rows.auditRowRow.laid) (((OpenSpec.ofChange Rows.auditRowSpec).at F).post enc Tryz.prog Tryz.f5 false true false false) := by
  obtain ⟨places, hx⟩ := reads os enc
  refine returnsInHanded_of_row (C := Tryz.checked) (s := OpenSpec.ofChange Rows.auditRowSpec) own started (by kernel_rfl) Tryz.func5
    (witness_row_at (enc := enc) (C := Tryz.checked) false (laidWorld os) #[.slice none 0 0, .slice none 0 0] rfl (by kernel_rfl) (by kernel_rfl) (by kernel_rfl)
      (OpenSpec.preRow_of_cond 8 hx (by kernel_rfl) (fun k hk => by cases hk) (by kernel_rfl) (laid_met os))) ?_
  intro W base args ds gs before hval hW _ _ _ hL _ _
  exact law_contract (n := 3) (ts := [56, 57]) (tb := 4) (by kernel_rfl) laidOut (by kernel_rfl) (by kernel_rfl) (by kernel_rfl) (by kernel_rfl) rfl
    (fun H ds hd => by match ds, hd with | [a, b], _ => rfl) W args ds gs before hval hW pure_all
theorem c1 : (Rows.auditRowRow.inPlace == Tryz.prog.inPlace 5) = true := by kernel_rfl
theorem c2 : (Rows.auditRowRow.unfollowed == Tryz.prog.unfollowed 5) = true := by kernel_rfl
theorem c3 : (Rows.auditRowRow.recurses == Tryz.prog.recurses 5) = true := by
  have h := c2
  unfold Program.recurses
  rw [beq_iff_eq] at h
  rw [← h]
  rfl
theorem c4 : (Rows.auditRowRow.named == Tryz.prog.varsNamed 5) = true := by kernel_rfl
theorem facts : joinedFacts Tryz.prog 5 Tryz.f5 (OpenSpec.ofChange Rows.auditRowSpec).bare Rows.auditRowRow = true := by
  unfold joinedFacts
  rw [c1, c2, c3, c4]
  kernel_rfl
theorem inst : Tryz.f5.isInstance Tryz.prog Rows.auditRowRow.origin Rows.auditRowRow.targs := of_decide_eq_true (by kernel_rfl)
theorem wrapper : Tryz.f5.isWrapper Tryz.prog Rows.auditRowRow.wrapper Rows.auditRowRow.mainSum := by unfold Func.isWrapper; first | (rw [if_pos (by decide +kernel)]; kernel_rfl) | (rw [if_neg (by decide +kernel)]; exact ⟨rfl, rfl⟩)
theorem named : Tryz.pinned.checked.prog.funcNamed Rows.auditRowRow.func = some 5 := by kernel_rfl
theorem said : Rows.AuditRowSaid :=
  OpenClaim.holds_of_cond 5 Tryz.f5 rfl rfl rfl rfl rfl rfl rfl ⟨rfl, rfl, rfl, rfl, rfl⟩ rfl rfl rfl rfl rfl named Tryz.func5 facts inst wrapper
    (fun os started H enc _ F => by rw [OpenClaim.pre_eq_preRow]; exact lifted os started H enc F)
theorem plain (f : FuncId) (fn : Func) (hf : Tryz.pinned.checked.prog.funcNamed "apostille/apostillelaw30.AuditRow" = some f) (hfn : Tryz.pinned.checked.prog.funcs[f]? = some fn) :
    false = Tryz.pinned.checked.prog.looks [] ∧ ∀ (j : Nat) t, fn.params[j]? = some t → Tryz.pinned.checked.prog.wantsStandIn t = false := by
  obtain rfl : f = 5 := Option.some.inj ((show Tryz.prog.funcNamed "apostille/apostillelaw30.AuditRow" = some 5 by kernel_rfl).symm.trans hf) |>.symm
  obtain rfl : fn = Tryz.f5 := (Option.some.inj (Tryz.func5.symm.trans hfn)).symm
  refine ⟨by kernel_rfl, fun j t ht => ?_⟩
  have hall : (Tryz.f5.params.toList.all fun t => !Tryz.prog.wantsStandIn t) = true := by kernel_rfl
  rw [List.all_eq_true] at hall
  have h1 := hall t (by simpa using Array.mem_of_getElem? ht)
  have h2 : Tryz.prog.wantsStandIn t = false := by simpa using h1
  exact h2
theorem noGo : Tryz.prog.funcs.any Func.goes = false := by kernel_rfl
theorem card : Rows.AuditRowCardSaid :=
  Claim7.holds_tied_plain_at .later [] _ _ _ _ said (fun _ h => by cases h) (by kernel_rfl) (fun _ h => by cases h) auditRow_row_tie rfl ⟨rfl, rfl⟩ (by kernel_rfl) rfl plain (goesBy_none noGo rfl)
end Go.Proofs.YtmghibfeeibcmaaGreatDoor.auditRow
namespace Go.Proofs.YtmghibfeeibcmaaGreatDoor
theorem auditRow_holds : Rows.AuditRowCardSaid := auditRow.card
end Go.Proofs.YtmghibfeeibcmaaGreatDoor
end
