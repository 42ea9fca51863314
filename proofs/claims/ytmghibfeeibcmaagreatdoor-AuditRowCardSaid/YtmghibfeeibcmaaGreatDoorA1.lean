/- What the claim leans on. -/
import Derived.Test.YtmghibfeeibcmaaGreatDoorA0
import Derived.Laws.Bits64
section
namespace Go.AM
inductive Reach (ops : Array Oper) : Nat → Nat → Prop
  | edge {i : Nat} {o : Oper} {e : Edge} : ops[i]? = some o → e ∈ o.after → Region.binds .any e = true → Reach ops i e.on
  | step {i j : Nat} {o : Oper} {e : Edge} : ops[i]? = some o → e ∈ o.after → Region.binds .any e = true → Reach ops e.on j → Reach ops i j
def predsL (acc : List (List Nat)) : List Oper → List (List Nat)
  | [] => acc
  | o :: l => predsL (acc ++ [o.after.toList.flatMap fun e => if Region.binds .any e then e.on :: acc.getD e.on [] else []]) l
theorem predsL_ok {ops : Array Oper} : ∀ (l : List Oper) (acc : List (List Nat)), (∀ k, l[k]? = ops[acc.length + k]?) → (∀ i j, j ∈ acc.getD i [] → Reach ops i j) → ∀ i j, j ∈ (predsL acc l).getD i [] → Reach ops i j := by
  intro l
  induction l with
  | nil => intro acc _ h; exact h
  | cons o l ih =>
    intro acc hk h
    have h0 : ops[acc.length]? = some o := by simpa using (hk 0).symm
    refine ih _ (fun k => by have := hk (k + 1); simp only [List.getElem?_cons_succ] at this; rw [this, List.length_append]; simp; congr 1; omega) (fun i j hj => ?_)
    by_cases hi : i < acc.length
    · refine h i j ?_
      simp only [List.getD, List.getElem?_append_left hi] at hj ⊢
      exact hj
    · by_cases hi2 : i = acc.length
      · subst hi2
        simp only [List.getD, List.getElem?_append_right (Nat.le_refl _), Nat.sub_self, List.getElem?_cons_zero, Option.getD_some] at hj
        obtain ⟨e, he, hj⟩ := List.mem_flatMap.1 hj
        split at hj
        · rename_i hb
          rcases List.mem_cons.1 hj with rfl | hj
          · exact .edge h0 (by simpa using he) hb
          · exact .step h0 (by simpa using he) hb (h _ _ hj)
        · cases hj
      · have : (acc ++ [o.after.toList.flatMap fun e => if Region.binds .any e then e.on :: acc.getD e.on [] else []]).getD i [] = [] := by
          simp only [List.getD]
          rw [List.getElem?_eq_none (by simp; omega)]
          rfl
        rw [this] at hj; cases hj
def preds (ops : Array Oper) : List (List Nat) := predsL [] ops.toList
theorem preds_ok {ops : Array Oper} {i j : Nat} (h : j ∈ (preds ops).getD i []) : Reach ops i j :=
  predsL_ok ops.toList [] (fun k => by simp) (fun i j h => by simp at h) i j h
def Closed (ops : Array Oper) (listed : Array Bool) : Prop := ∀ (i : Nat) (o : Oper) (e : Edge), ops[i]? = some o → listed.getD i false = true → e ∈ o.after → Region.binds .any e = true → listed.getD e.on false = true
theorem Closed.reach {ops : Array Oper} {listed : Array Bool} (hc : Closed ops listed) {i j : Nat} (h : Reach ops i j) (hd : ∀ (o : Oper) (e : Edge), ops[i]? = some o → e ∈ o.after → Region.binds .any e = true → listed.getD e.on false = true) : listed.getD j false = true := by
  induction h with
  | edge ho he hb => exact hd _ _ ho he hb
  | step ho he hb _ ih => exact ih (fun o' e' ho' he' hb' => hc _ o' e' ho' (hd _ _ ho he hb) he' hb')
theorem Closed.of {ops : Array Oper} {listed : Array Bool} (hc : Closed ops listed) {i j : Nat} (h : Reach ops i j) (hi : listed.getD i false = true) : listed.getD j false = true :=
  hc.reach h (fun o e ho he hb => hc i o e ho hi he hb)
def wpb (P : Program) (ops : Array Oper) (bs : List Nat) : Nat → List Oper → (St → Prop) → St → Prop
  | _, [], K, s => K s
  | i, o :: os, K, s => @onB (guardB ops s.env o.guard)
      ⟨fun _ => match bs.contains i with
        | true => match isCall o.op with
          | true => @bindP _ (callOf s.env o.op) ⟨fun c => @callP P c.1 c.2 s.σ ⟨fun r => wpb P ops bs (i + 1) os K ⟨putE s.env o.dst r.1, r.2⟩⟩⟩
          | false => @bindP _ (stepA P o.op s) ⟨fun r => @Chk r.1 ⟨fun _ => wpb P ops bs (i + 1) os K ⟨putE s.env o.dst r.2.1, r.2.2⟩⟩⟩
        | false => match isCall o.op with
          | true => @bindP _ (callOf s.env o.op) ⟨fun c => @pureP P c.1 c.2 s.σ ⟨fun r => wpb P ops bs (i + 1) os K ⟨putE s.env o.dst r, s.σ⟩⟩⟩
          | false => @bindP _ (stepA P o.op s) ⟨fun r => @Chk (r.1 ∧ r.2.2 = s.σ) ⟨fun _ => wpb P ops bs (i + 1) os K ⟨putE s.env o.dst r.2.1, s.σ⟩⟩⟩⟩
      ⟨fun _ => wpb P ops bs (i + 1) os K ⟨putE s.env o.dst (.tup []), s.σ⟩⟩
def drawB2 (P : Program) (N : Nat) (ops : Array Oper) (bs : List Nat) : Bool :=
  let pr := preds ops
  (ops.toList.zipIdx.all fun q => operOk P N q.1 &&
    ((tmpsU ops q.1).all fun t => ops.toList.zipIdx.all fun q' => (q'.1.dst != some t) || (decide (q'.2 < q.2) && (pr.getD q.2 []).contains q'.2) || (decide (q.2 < q'.2) && (pr.getD q'.2 []).contains q.2)) &&
    (q.1.after.toList.all fun e => !(Region.binds .any e) || decide (e.on < q.2)) &&
    (ops.toList.zipIdx.all fun q' => q'.2 == q.2 || q.1.dst == none || q'.1.dst != q.1.dst)) &&
  (bs.all fun b => ops.toList.zipIdx.all fun q => q.2 == b || (if q.2 < b then (pr.getD b []).contains q.2 else (pr.getD q.2 []).contains b))
structure DrawOk2 (P : Program) (N : Nat) (ops : Array Oper) (bs : List Nat) : Prop where
  ok : ∀ (i : Nat) (o : Oper), ops[i]? = some o → operOk P N o = true
  use : ∀ (i : Nat) (o : Oper) (t : Nat) (j : Nat) (o' : Oper), ops[i]? = some o → t ∈ tmpsU ops o → ops[j]? = some o' → o'.dst = some t → (j < i ∧ Reach ops i j) ∨ (i < j ∧ Reach ops j i)
  low : ∀ (i : Nat) (o : Oper), ops[i]? = some o → ∀ e ∈ o.after, Region.binds .any e = true → e.on < i
  dis : ∀ (i j : Nat) (o o' : Oper) (t : Nat), ops[i]? = some o → ops[j]? = some o' → o.dst = some t → o'.dst = some t → j = i
  barLt : ∀ b ∈ bs, ∀ j, j < b → j < ops.size → Reach ops b j
  barGt : ∀ b ∈ bs, ∀ j, b < j → j < ops.size → Reach ops j b
theorem drawB2_ok {P : Program} {N : Nat} {ops : Array Oper} {bs : List Nat} (h : drawB2 P N ops bs = true) : DrawOk2 P N ops bs := by
  have hz : ∀ (i : Nat) (o : Oper), ops[i]? = some o → (o, i) ∈ ops.toList.zipIdx := fun i o ho => by
    rw [List.mem_zipIdx_iff_getElem?]; simpa using ho
  simp only [drawB2, Bool.and_eq_true] at h
  obtain ⟨h, h'⟩ := h
  have h1 := fun i o ho => List.all_eq_true.1 h (o, i) (hz i o ho)
  have h2 := fun b hb i o ho => List.all_eq_true.1 (List.all_eq_true.1 h' b hb) (o, i) (hz i o ho)
  simp only [Bool.and_eq_true, List.all_eq_true, Bool.or_eq_true, bne_iff_ne, ne_eq, decide_eq_true_eq, beq_iff_eq] at h1 h2
  refine ⟨fun i o ho => (h1 i o ho).1.1.1, fun i o t j o' ho ht ho' hd => ?_, fun i o ho e he hb => ((h1 i o ho).1.2 e (by simpa using he)).resolve_left (by simp [hb]), fun i j o o' t ho ho' hd hd' => ?_, fun b hb j hj hjs => ?_, fun b hb j hj hjs => ?_⟩
  · rcases (h1 i o ho).1.1.2 t ht (o', j) (hz j o' ho') with (hc | ⟨hc, hr⟩) | ⟨hc, hr⟩
    · exact absurd hd hc
    · exact .inl ⟨hc, preds_ok (by simpa using hr)⟩
    · exact .inr ⟨hc, preds_ok (by simpa using hr)⟩
  · rcases (h1 i o ho).2 (o', j) (hz j o' ho') with (hc | hc) | hc
    · exact hc
    · rw [hd] at hc; cases hc
    · exact absurd (hd'.trans hd.symm) hc
  · rcases h2 b hb j ops[j] (by simp [hjs]) with hc | hc
    · omega
    · rw [if_pos hj] at hc
      exact preds_ok (by simpa using hc)
  · rcases h2 b hb j ops[j] (by simp [hjs]) with hc | hc
    · omega
    · rw [if_neg (by omega)] at hc
      exact preds_ok (by simpa using hc)
theorem wpb_gives {P : Program} {ops : Array Oper} {bs : List Nat} {σ : List Ob} {K : St → Prop} : ∀ (l : List Oper) (i : Nat) (e : Env), wpb P ops bs i l K ⟨e, σ⟩ →
    ∃ (rs : List AV) (k : Nat), rs.length = k ∧ k ≤ l.length ∧ (∀ j o, j < k → l[j]? = some o → Gives P ops σ (envs e l rs j) o (rs.getD j .undef)) ∧ (k = l.length ∨ (i + k) ∈ bs) ∧ wpb P ops bs (i + k) (l.drop k) K ⟨envs e l rs k, σ⟩ := by
  intro l
  induction l with
  | nil => intro i e h; exact ⟨[], 0, rfl, Nat.le_refl _, fun j o hj => absurd hj (by omega), .inl rfl, h⟩
  | cons o l ih =>
    intro i e h
    cases hbar : bs.contains i with
    | true => exact ⟨[], 0, rfl, Nat.zero_le _, fun j o hj => absurd hj (by omega), .inr (by simpa using hbar), h⟩
    | false =>
      have key : ∃ r, Gives P ops σ e o r ∧ wpb P ops bs (i + 1) l K ⟨putE e o.dst r, σ⟩ := by
        obtain ⟨b, hb, h⟩ := onB_iff h
        rw [hbar] at h
        cases b with
        | false => exact ⟨_, .inr ⟨hb, rfl⟩, h⟩
        | true =>
          simp only [if_true] at h
          cases hc : isCall o.op with
          | false =>
            rw [hc] at h
            obtain ⟨⟨p, r, σ'⟩, hs, ⟨hp, hσ⟩, hk⟩ := bindP_iff h
            simp only at hσ
            subst hσ
            exact ⟨r, .inl ⟨hb, .inl ⟨hc, p, hs, hp⟩⟩, hk⟩
          | true =>
            rw [hc] at h
            obtain ⟨⟨f, as⟩, hs, as', r, k1, k2, k3, k4, k5⟩ := bindP_iff h
            exact ⟨r, .inl ⟨hb, .inr ⟨hc, f, as, hs, as', r, k1, k2, k3, k4, rfl⟩⟩, k5⟩
      obtain ⟨r, hg, hk⟩ := key
      obtain ⟨rs, k, h1, h2, h3, h4, h5⟩ := ih (i + 1) _ hk
      refine ⟨r :: rs, k + 1, by simp [h1], by simp [h2], fun j o' hj ho' => ?_, ?_, ?_⟩
      · cases j with
        | zero => simp only [List.getElem?_cons_zero, Option.some.injEq] at ho'; subst ho'; exact hg
        | succ j => exact h3 j o' (by omega) (by simpa using ho')
      · rcases h4 with h4 | h4
        · exact .inl (by simp [h4])
        · exact .inr (by rw [show i + (k + 1) = i + 1 + k by omega]; exact h4)
      · rw [show i + (k + 1) = i + 1 + k by omega]
        exact h5
theorem Gives.same {P : Program} {ops : Array Oper} {σ : List Ob} {e e' : Env} {o : Oper} {r : AV} (hU : ∀ t ∈ tmpsU ops o, getE e t = getE e' t) (h : Gives P ops σ e' o r) : Gives P ops σ e o r := by
  unfold Gives at *
  rw [guard_same hU, stepA_congr P (ev_same hU), callOf_congr (ev_same hU)]
  exact h
theorem ready_ne {P : Program} {N : Nat} {ops : Array Oper} {bs : List Nat} (D : DrawOk2 P N ops bs) {listed : Array Bool} (hsz : listed.size = ops.size) {j : Nat} (hj : j < ops.size) (hl : listed.getD j false = false) : ∃ i, i ∈ Region.ready .any ops listed ∧ i ≤ j := by
  induction j using Nat.strongRecOn with
  | _ j ih =>
    by_cases hk : ∃ k, k < j ∧ listed.getD k false = false
    · obtain ⟨k, hk1, hk2⟩ := hk
      obtain ⟨i, h1, h2⟩ := ih k hk1 (by omega) hk2
      exact ⟨i, h1, by omega⟩
    · refine ⟨j, mem_ready.2 ⟨?_, ops[j], by simp [hj], fun e he hb => ?_⟩, Nat.le_refl _⟩
      · have : listed.getD j true = listed.getD j false := by simp [Array.getD, hsz, hj]
        rw [this]; exact hl
      · have hlow := D.low j ops[j] (by simp [hj]) e he hb
        cases hq : listed.getD e.on false with
        | true => rfl
        | false => exact absurd ⟨e.on, hlow, hq⟩ hk
theorem draw2_ok {P : Program} {N B id : Nat} {ops : Array Oper} (bs : List Nat) {Q : AEx → St → Prop} {s : St} (hm : P.follows .mixedOrders = true) (hB : drawB2 P N ops bs = true) (h : wpb P ops bs 0 ops.toList (fun s' => Q .normal s') s) : Ok P N B (.region id ops true) Q s := by
  intro hBl w0 Fz0 ρ0 a0 hr0 he0 hd0 hN0
  have D := drawB2_ok hB
  refine wp_region_any hm ?_
  obtain ⟨hx0, hr1⟩ := drawn_ok hr0
  have he1 := he0.ext hx0 hr0
  have hlist : ∀ {listed : Array Bool} {j : Nat}, listed.size = ops.size → j < ops.size → listed.getD j true = listed.getD j false := fun h1 h2 => by
    simp [Array.getD, h1, h2]
  have main : ∀ (n p : Nat), ops.size - p = n → p ≤ ops.size → ∀ (listed : Array Bool) (E : Env) (σ : List Ob) (Fz : Nat → Prop) (ρ : Nat → Nat × Nat) (a : Act) (w : World), listed.size = ops.size → (∀ j, j < ops.size → listed.getD j false = decide (j < p)) →
      wpb P ops bs p (ops.toList.drop p) (fun s' => Q .normal s') ⟨E, σ⟩ → Rel Fz ρ σ w → EnvR w Fz ρ σ.length a E → ExtB B Fz0 ρ0 s.σ w0 Fz ρ σ w → a.defers = [] → a.tmps.size = N → wpAny P .any ops (Lift N B Fz0 ρ0 s.σ w0 Q) n listed a w := by
    intro n
    induction n using Nat.strongRecOn with
    | _ n IH =>
      intro p hn hp listed E σ Fz ρ a w hsz hls hw r e x d nn
      obtain ⟨rs, k, hl, hk, hg, hend, hrest⟩ := wpb_gives _ p E hw
      have hlen : (ops.toList.drop p).length = n := by simp; omega
      have hat : ∀ q, (ops.toList.drop p)[q]? = ops[p + q]? := fun q => by simp
      rw [hlen] at hk
      have hdst : ∀ (i t j : Nat) (o : Oper), ops[j]? = some o → o.dst = some t → p ≤ j → j < p + i → i ≤ k → getE (envs E (ops.toList.drop p) rs i) t = rs.getD (j - p) .undef := fun i t j o ho hdt hpj hji hik => by
        have hshort : ∀ (l : List Oper) (rs : List AV) (e : Env) (i : Nat), rs.length ≤ l.length → i ≤ rs.length → envs e l rs i = envs e (l.take rs.length) rs i := by
          intro l
          induction l with
          | nil => intro rs e i h _; simp at h; subst h; rfl
          | cons o l ih =>
            intro rs e i h hi
            cases rs with
            | nil => have : i = 0 := by simpa using hi
                     subst this; rfl
            | cons r rs =>
              cases i with
              | zero => rfl
              | succ i => exact ih rs _ i (by simpa using h) (by simpa using hi)
        rw [hshort _ rs E i (by omega) (by omega)]
        refine envs_dst _ rs E i t (j - p) o (by simp; omega) (fun q o' ho' hd' => ?_) ?_ hdt (by omega)
        · rw [List.getElem?_take] at ho'
          split at ho'
          · rw [hat] at ho'
            have := D.dis j (p + q) o o' t ho ho' hdt hd'
            omega
          · cases ho'
        · rw [List.getElem?_take, if_pos (by omega), hat, show p + (j - p) = j by omega]; exact ho
      have hoth : ∀ (i t : Nat), i ≤ k → (∀ (j : Nat) (o : Oper), ops[j]? = some o → o.dst = some t → ¬ (p ≤ j ∧ j < p + i)) → getE (envs E (ops.toList.drop p) rs i) t = getE E t := fun i t hik hn =>
        envs_other _ rs E i t (fun q o ho hd => by
          rw [hat] at ho
          have := hn (p + q) o ho hd
          omega)
      have inner : ∀ (m : Nat) (S : List Nat) (listed : Array Bool) (E1 : Env) (Fz : Nat → Prop) (ρ : Nat → Nat × Nat) (a : Act) (w : World), S.length = m → S.Nodup → listed.size = ops.size →
          (∀ j, p ≤ j → j < p + k → (j ∈ S ↔ listed.getD j false = false)) → (∀ j ∈ S, p ≤ j ∧ j < p + k) → (∀ j, j < p → listed.getD j false = true) → (∀ j, p + k ≤ j → listed.getD j false = false) → Closed ops listed →
          Rel Fz ρ σ w → EnvR w Fz ρ σ.length a E1 → ExtB B Fz0 ρ0 s.σ w0 Fz ρ σ w → a.defers = [] → a.tmps.size = N →
          (∀ t, (∀ (j : Nat) (o : Oper), ops[j]? = some o → o.dst = some t → ¬ (p ≤ j ∧ j < p + k ∧ listed.getD j false = true)) → getE E1 t = getE E t) →
          (∀ (j : Nat) (o : Oper) (t : Nat), ops[j]? = some o → p ≤ j → j < p + k → listed.getD j false = true → o.dst = some t → getE E1 t = rs.getD (j - p) .undef) →
          wpAny P .any ops (Lift N B Fz0 ρ0 s.σ w0 Q) (m + (n - k)) listed a w := by
        intro m
        induction m with
        | zero =>
          intro S listed E1 Fz ρ a w hS hnd hsz hSi hSr hlo hhi hc r e x d nn hb ht
          have hS0 : S = [] := List.eq_nil_of_length_eq_zero hS
          subst hS0
          have hall : ∀ j, j < p + k → listed.getD j false = true := fun j hj => by
            by_cases hjp : j < p
            · exact hlo j hjp
            · cases hq : listed.getD j false with
              | true => rfl
              | false => exact absurd ((hSi j (by omega) hj).2 hq) (by simp)
          have heq : ∀ t, getE (envs E (ops.toList.drop p) rs k) t = getE E1 t := fun t => by
            by_cases hd : ∃ (j : Nat) (o : Oper), ops[j]? = some o ∧ o.dst = some t ∧ p ≤ j ∧ j < p + k
            · obtain ⟨j, o, ho, hdt, h1, h2⟩ := hd
              rw [hdst k t j o ho hdt h1 h2 (Nat.le_refl _), ht j o t ho h1 h2 (hall j h2) hdt]
            · have hn : ∀ (j : Nat) (o : Oper), ops[j]? = some o → o.dst = some t → ¬ (p ≤ j ∧ j < p + k) := fun j o ho hdt h => hd ⟨j, o, ho, hdt, h.1, h.2⟩
              rw [hoth k t (Nat.le_refl _) hn, hb t (fun j o ho hdt h => hn j o ho hdt ⟨h.1, h.2.1⟩)]
          have e' : EnvR w Fz ρ σ.length a (envs E (ops.toList.drop p) rs k) := fun t => by rw [heq t]; exact e t
          rw [Nat.zero_add]
          by_cases hkn : k = n
          · rw [hkn, Nat.sub_self]
            refine ⟨List.eq_nil_iff_forall_not_mem.2 fun j hj => ?_, .normal, ⟨_, σ⟩, Fz, ρ, rfl, ?_, r, e', x, d, nn⟩
            · obtain ⟨h1, o, ho, _⟩ := mem_ready.1 hj
              have hjs := (Array.getElem?_eq_some_iff.1 ho).1
              rw [hlist hsz hjs, hall j (by omega)] at h1
              cases h1
            · have hd0 : (ops.toList.drop p).drop k = [] := by rw [List.drop_eq_nil_iff, hlen]; omega
              rw [hd0] at hrest
              exact hrest
          · have hbm : p + k ∈ bs := hend.resolve_left (by rw [hlen]; exact hkn)
            have hbs : p + k < ops.size := by omega
            obtain ⟨n', hn'⟩ : ∃ n', n - k = n' + 1 := ⟨n - k - 1, by omega⟩
            rw [hn']
            have hbl : listed.getD (p + k) false = false := hhi _ (Nat.le_refl _)
            refine ⟨fun h0 => ?_, fun i hi => ?_⟩
            · obtain ⟨i, h1, _⟩ := ready_ne D hsz hbs hbl
              rw [h0] at h1; cases h1
            · obtain ⟨hli, o, ho, hpre⟩ := mem_ready.1 hi
              have his := (Array.getElem?_eq_some_iff.1 ho).1
              rw [hlist hsz his] at hli
              have hib : i = p + k := by
                rcases Nat.lt_trichotomy i (p + k) with h1 | h1 | h1
                · rw [hall i h1] at hli; cases hli
                · exact h1
                · have := hc.reach (D.barGt _ hbm i h1 his) (fun o' e' ho' he' hb' => by rw [ho] at ho'; cases ho'; exact hpre e' he' hb')
                  rw [hbl] at this; cases this
              subst hib
              have hcons : (ops.toList.drop p).drop k = o :: ops.toList.drop (p + k + 1) := by
                rw [List.drop_drop]
                have h1 := List.drop_eq_getElem_cons (l := ops.toList) (i := p + k) (by simpa using hbs)
                rw [h1]
                congr 1
                have : ops[p + k]? = some ops[p + k] := by simp [hbs]
                rw [this] at ho
                cases ho
                simp
              rw [hcons] at hrest
              have hop := D.ok _ o ho
              obtain ⟨bb, hbb, hrest⟩ := onB_iff hrest
              have hnextL : ∀ j, j < ops.size → (listed.setIfInBounds (p + k) true).getD j false = decide (j < p + k + 1) := fun j hj => by
                by_cases hje : j = p + k
                · subst hje; simp [Array.getD, hsz, hbs]
                · rw [getD_set_ne false (Ne.symm hje)]
                  by_cases hjl : j < p + k
                  · rw [hall j hjl]; simp; omega
                  · rw [hhi j (by omega)]; simp; omega
              unfold wpOp
              simp only [ho]
              rw [wanted_of e' hbb]
              cases bb with
              | false =>
                simp only [Bool.false_eq_true, if_false] at hrest ⊢
                have hu : VR w Fz ρ σ.length undef (.tup []) := ⟨#[], rfl, rfl, fun j hj => absurd hj (by simp)⟩
                exact IH n' (by omega) (p + k + 1) (by omega) (by omega) _ _ σ Fz ρ (a.put o.dst undef) w (by simpa using hsz) hnextL hrest r (e'.put o.dst (dst_lt hop nn) hu) x (by rw [put_defers, d]) (by rw [put_size, nn])
              | true =>
                simp only [if_true] at hrest ⊢
                have hcb : bs.contains (p + k) = true := by simpa using hbm
                rw [hcb] at hrest
                refine .inl (oper_wp (s := ⟨envs E (ops.toList.drop p) rs k, σ⟩) hop r e' d nn (K := fun s' => wpb P ops bs (p + k + 1) (ops.toList.drop (p + k + 1)) (fun s' => Q .normal s') s') (fun s' Fz' ρ' a' w' hk' r' e2 x' d' n2 => ?_) hrest)
                exact IH n' (by omega) (p + k + 1) (by omega) (by omega) _ s'.env s'.σ Fz' ρ' a' w' (by simpa using hsz) hnextL hk' r' e2 (x.trans (x'.toB x.len)) d' n2
        | succ m ihm =>
          intro S listed E1 Fz ρ a w hS hnd hsz hSi hSr hlo hhi hc r e x d nn hb ht
          rw [show m + 1 + (n - k) = (m + (n - k)) + 1 by omega]
          have hne : ∃ j, j ∈ S := by cases S with | nil => simp at hS | cons j _ => exact ⟨j, by simp⟩
          obtain ⟨j0, hj0⟩ := hne
          have hj0r := hSr j0 hj0
          have hj0l := (hSi j0 hj0r.1 hj0r.2).1 hj0
          refine ⟨fun h0 => ?_, fun i hi => ?_⟩
          · obtain ⟨i, h1, _⟩ := ready_ne D hsz (show j0 < ops.size by omega) hj0l
            rw [h0] at h1; cases h1
          · obtain ⟨hli, o, ho, hpre⟩ := mem_ready.1 hi
            have his := (Array.getElem?_eq_some_iff.1 ho).1
            rw [hlist hsz his] at hli
            have hreach : ∀ j, Reach ops i j → listed.getD j false = true := fun j hj => hc.reach hj (fun o' e' ho' he' hb' => by rw [ho] at ho'; cases ho'; exact hpre e' he' hb')
            have hip : p ≤ i := Nat.le_of_not_lt fun h1 => by rw [hlo i h1] at hli; cases hli
            have hik : i < p + k := Nat.lt_of_not_le fun h1 => by
              have hbm : p + k ∈ bs := hend.resolve_left (by rw [hlen]; omega)
              by_cases h2 : i = p + k
              · subst h2
                have := hreach j0 (D.barLt _ hbm j0 hj0r.2 (by omega))
                rw [hj0l] at this; cases this
              · have := hreach (p + k) (D.barGt _ hbm i (by omega) his)
                rw [hhi _ (Nat.le_refl _)] at this; cases this
            have hU : ∀ t ∈ tmpsU ops o, getE E1 t = getE (envs E (ops.toList.drop p) rs (i - p)) t := fun t htU => by
              by_cases hd : ∃ (j : Nat) (o' : Oper), ops[j]? = some o' ∧ o'.dst = some t ∧ p ≤ j ∧ j < p + k
              · obtain ⟨j, o', ho', hdt, h1, h2⟩ := hd
                rcases D.use i o t j o' ho htU ho' hdt with ⟨hji, hr'⟩ | ⟨hji, hr'⟩
                · rw [hdst (i - p) t j o' ho' hdt h1 (by omega) (by omega), ht j o' t ho' h1 h2 (hreach j hr') hdt]
                · have huniq : ∀ (j' : Nat) (o2 : Oper), ops[j']? = some o2 → o2.dst = some t → j' = j := fun j' o2 ho2 hd2 => D.dis j j' o' o2 t ho' ho2 hdt hd2
                  have hnl : listed.getD j false = false := by
                    cases hq : listed.getD j false with
                    | false => rfl
                    | true =>
                      have := hc.of hr' hq
                      rw [hli] at this; cases this
                  rw [hoth (i - p) t (by omega) (fun j' o2 ho2 hd2 h => by have := huniq j' o2 ho2 hd2; omega), hb t (fun j' o2 ho2 hd2 h => by
                    have := huniq j' o2 ho2 hd2
                    subst this
                    rw [hnl] at h
                    cases h.2.2)]
              · have hn : ∀ (j : Nat) (o : Oper), ops[j]? = some o → o.dst = some t → ¬ (p ≤ j ∧ j < p + k) := fun j o ho hdt h => hd ⟨j, o, ho, hdt, h.1, h.2⟩
                rw [hoth (i - p) t (by omega) (fun j o ho hdt h => hn j o ho hdt ⟨h.1, by omega⟩), hb t (fun j o ho hdt h => hn j o ho hdt ⟨h.1, h.2.1⟩)]
            have hop := D.ok i o ho
            have hgv := (hg (i - p) o (by omega) (by rw [hat, show p + (i - p) = i by omega]; exact ho)).same hU
            have hiS : i ∈ S := (hSi i hip hik).2 hli
            have hnext : ∀ (Fz2 : Nat → Prop) (ρ2 : Nat → Nat × Nat) (a2 : Act) (w2 : World), Rel Fz2 ρ2 σ w2 → EnvR w2 Fz2 ρ2 σ.length a2 (putE E1 o.dst (rs.getD (i - p) .undef)) → ExtB B Fz0 ρ0 s.σ w0 Fz2 ρ2 σ w2 → a2.defers = [] → a2.tmps.size = N →
                wpAny P .any ops (Lift N B Fz0 ρ0 s.σ w0 Q) (m + (n - k)) (listed.setIfInBounds i true) a2 w2 := fun Fz2 ρ2 a2 w2 r2 e2 x2 d2 n2 => by
              have hself : (listed.setIfInBounds i true).getD i false = true := by simp [Array.getD, hsz, his]
              refine ihm (S.erase i) _ _ Fz2 ρ2 a2 w2 (by rw [List.length_erase_of_mem hiS]; omega) (hnd.erase i) (by simpa using hsz) (fun j h1 h2 => ?_) (fun j hj => hSr j (List.mem_of_mem_erase hj)) (fun j hj => ?_) (fun j hj => ?_) ?_ r2 e2 x2 d2 n2 (fun t hn => ?_) (fun j o' t ho' h1 h2 hlj hdt => ?_)
              · by_cases hji : i = j
                · subst hji
                  rw [hself]
                  exact ⟨fun hmem => absurd rfl (hnd.mem_erase_iff.1 hmem).1, fun hq => by cases hq⟩
                · rw [getD_set_ne false hji, List.mem_erase_of_ne (Ne.symm hji)]
                  exact hSi j h1 h2
              · by_cases hji : i = j
                · subst hji; exact hself
                · rw [getD_set_ne false hji]; exact hlo j hj
              · rw [getD_set_ne false (show i ≠ j by omega)]; exact hhi j hj
              · intro j o' e' ho' hlj he' hb'
                have hold : listed.getD e'.on false = true := by
                  by_cases hji : i = j
                  · subst hji; rw [ho] at ho'; cases ho'; exact hpre e' he' hb'
                  · rw [getD_set_ne false hji] at hlj; exact hc j o' e' ho' hlj he' hb'
                by_cases hje : i = e'.on
                · rw [← hje]; exact hself
                · rw [getD_set_ne false hje]; exact hold
              · rw [← hb t (fun j o' ho' hdt h => hn j o' ho' hdt ⟨h.1, h.2.1, by
                  by_cases hji : i = j
                  · subst hji; exact hself
                  · rw [getD_set_ne false hji]; exact h.2.2⟩)]
                cases hdo : o.dst with
                | none => rfl
                | some u =>
                  simp only [putE, getE]
                  rw [if_neg (fun hq => hn i o ho (by rw [hdo, hq]) ⟨hip, hik, hself⟩)]
              · by_cases hji : i = j
                · subst hji
                  rw [ho] at ho'; cases ho'
                  rw [hdt]; simp [putE, getE]
                · rw [getD_set_ne false hji] at hlj
                  rw [← ht j o' t ho' h1 h2 hlj hdt]
                  cases hdo : o.dst with
                  | none => rfl
                  | some u =>
                    simp only [putE, getE]
                    rw [if_neg (fun hq => hji (D.dis j i o' o t ho' ho hdt (by rw [hdo, hq])))]
            unfold Gives at hgv
            unfold wpOp
            simp only [ho]
            rcases hgv with ⟨hb1, hgv⟩ | ⟨hb1, hrv⟩
            · rw [wanted_of e hb1]
              simp only [if_true]
              refine .inl (oper_wp (s := ⟨E1, σ⟩) hop r e d nn (K := fun s' => s' = ⟨putE E1 o.dst (rs.getD (i - p) .undef), σ⟩) (fun s' Fz2 ρ2 a2 w2 hs' r2 e2 x2 d2 n2 => ?_) ?_)
              · subst hs'
                exact hnext Fz2 ρ2 a2 w2 r2 e2 (x.trans (x2.toB x.len)) d2 n2
              · rcases hgv with ⟨hc, p', hst, hp'⟩ | ⟨hc, f, as, hco, as', r', k1, k2, k3, k4, k5⟩
                · rw [hc]
                  simp only [hst]
                  exact ⟨hp', rfl⟩
                · rw [hc]
                  simp only [hco]
                  exact call_pure k1 k2 k3 (by rw [k4, k5])
            · rw [wanted_of e hb1]
              simp only [Bool.false_eq_true, if_false]
              have hu : VR w Fz ρ σ.length undef (.tup []) := ⟨#[], rfl, rfl, fun j hj => absurd hj (by simp)⟩
              rw [hrv] at hnext
              exact hnext Fz ρ _ w r (e.put o.dst (dst_lt hop nn) hu) x (by rw [put_defers, d]) (by rw [put_size, nn])
      have hfin := inner k (List.range' p k) listed E Fz ρ a w (by simp) List.nodup_range' hsz (fun j h1 h2 => ?_) (fun j hj => by rw [List.mem_range'_1] at hj; omega) (fun j hj => by rw [hls j (by omega)]; simpa using hj) (fun j hj => ?_) ?_ r e x d nn (fun _ _ => rfl) (fun j o t ho h1 h2 hlj _ => ?_)
      · rwa [show k + (n - k) = n by omega] at hfin
      · rw [hls j (by omega), List.mem_range'_1]
        simp; omega
      · by_cases hjs : j < ops.size
        · rw [hls j hjs]; simp; omega
        · simp [Array.getD, hsz, hjs]
      · intro j o' e' ho' hlj he' hb'
        have hjs := (Array.getElem?_eq_some_iff.1 ho').1
        have hlow := D.low j o' ho' e' he' hb'
        rw [hls j hjs] at hlj
        rw [hls e'.on (by omega)]
        simp at hlj ⊢
        omega
      · rw [hls j (by omega)] at hlj
        simp at hlj
        omega
  exact main ops.size 0 (by omega) (Nat.zero_le _) (Array.replicate ops.size false) s.env s.σ Fz0 ρ0 a0 _ (by simp) (fun j hj => by simp [Array.getD, hj]) (by simpa using h) hr1 he1 (hx0.toB hBl) hd0 hN0
end Go.AM
end
section
namespace Go.AM
class Kx where
  run : AEx → St → Prop
def wpoH (P : Program) [ops : Bx (Array Oper)] [os : Bx (List Oper)] [K : Kt St] (s : St) : Prop := wpo P ops.val os.val K.run s
def wpqH (P : Program) [ops : Bx (Array Oper)] [os : Bx (List Oper)] [K : Kt St] (s : St) : Prop := wpq P ops.val os.val K.run s
def wpbH (P : Program) (bs : List Nat) [ops : Bx (Array Oper)] [os : Bx (Nat × List Oper)] [K : Kt St] (s : St) : Prop := wpb P ops.val bs os.val.1 os.val.2 K.run s
def wpcH (P : Program) (V : List Nat) (N B : Nat) [c : Bx Code] [Q : Kx] (s : St) : Prop := wpc P V N B c.val Q.run s
def LoopH (P : Program) (V : List Nat) (N B : Nat) [c : Bx Code] [Q : Kx] (s : St) : Prop := codeOk P N c.val = true → Ok P N B (.loop c.val) Q.run s
def DrawH (P : Program) (V : List Nat) (N B : Nat) (id : Nat) [ops : Bx (Array Oper)] [Q : Kx] (s : St) : Prop := Ok P N B (.region id ops.val true) (fun e s' => Q.run e ⟨keepE V s'.env, s'.σ⟩) s
section
variable (P : Program) (V : List Nat) (N B : Nat)
@[go_sem] theorem onB_true (T F : Unit → Prop) : @onB (.bool true) ⟨T⟩ ⟨F⟩ = T () := rfl
@[go_sem] theorem onB_false (T F : Unit → Prop) : @onB (.bool false) ⟨T⟩ ⟨F⟩ = F () := rfl
@[go_sem] theorem bindP_some {α : Type} (v : α) (f : α → Prop) : @bindP α (some v) ⟨f⟩ = f v := rfl
@[go_sem] theorem bindP_none {α : Type} (f : α → Prop) : @bindP α none ⟨f⟩ = False := rfl
@[go_sem] theorem Chk_true (k : Unit → Prop) : @Chk True ⟨k⟩ = k () := propext ⟨fun h => h.2, fun h => ⟨trivial, h⟩⟩
@[go_sem] theorem wpoH_nil (ops : Array Oper) (K : St → Prop) (s : St) : @wpoH P ⟨ops⟩ ⟨[]⟩ ⟨K⟩ s = K s := rfl
@[go_sem] theorem wpoH_cons (ops : Array Oper) (o : Oper) (os : List Oper) (K : Kt St) (s : St) : @wpoH P ⟨ops⟩ ⟨o :: os⟩ K s =
    @onB (guardB ops s.env o.guard)
      ⟨fun _ => match isCall o.op with
        | true => @bindP _ (callOf s.env o.op) ⟨fun c => @callP P c.1 c.2 s.σ ⟨fun r => @wpoH P ⟨ops⟩ ⟨os⟩ K ⟨putE s.env o.dst r.1, r.2⟩⟩⟩
        | false => @bindP _ (stepA P o.op s) ⟨fun r => @Chk r.1 ⟨fun _ => @wpoH P ⟨ops⟩ ⟨os⟩ K ⟨putE s.env o.dst r.2.1, r.2.2⟩⟩⟩⟩
      ⟨fun _ => @wpoH P ⟨ops⟩ ⟨os⟩ K ⟨putE s.env o.dst (.tup []), s.σ⟩⟩ := rfl
@[go_sem] theorem wpqH_nil (ops : Array Oper) (K : St → Prop) (s : St) : @wpqH P ⟨ops⟩ ⟨[]⟩ ⟨K⟩ s = K s := rfl
@[go_sem] theorem wpqH_cons (ops : Array Oper) (o : Oper) (os : List Oper) (K : Kt St) (s : St) : @wpqH P ⟨ops⟩ ⟨o :: os⟩ K s =
    @onB (guardB ops s.env o.guard)
      ⟨fun _ => match isCall o.op with
        | true => @bindP _ (callOf s.env o.op) ⟨fun c => @pureP P c.1 c.2 s.σ ⟨fun r => @wpqH P ⟨ops⟩ ⟨os⟩ K ⟨putE s.env o.dst r, s.σ⟩⟩⟩
        | false => @bindP _ (stepA P o.op s) ⟨fun r => @Chk (r.1 ∧ r.2.2 = s.σ) ⟨fun _ => @wpqH P ⟨ops⟩ ⟨os⟩ K ⟨putE s.env o.dst r.2.1, s.σ⟩⟩⟩⟩
      ⟨fun _ => @wpqH P ⟨ops⟩ ⟨os⟩ K ⟨putE s.env o.dst (.tup []), s.σ⟩⟩ := rfl
@[go_sem] theorem wpbH_nil (bs : List Nat) (ops : Array Oper) (i : Nat) (K : St → Prop) (s : St) : @wpbH P bs ⟨ops⟩ ⟨(i, [])⟩ ⟨K⟩ s = K s := rfl
@[go_sem] theorem wpbH_cons (bs : List Nat) (ops : Array Oper) (i : Nat) (o : Oper) (os : List Oper) (K : Kt St) (s : St) : @wpbH P bs ⟨ops⟩ ⟨(i, o :: os)⟩ K s =
    @onB (guardB ops s.env o.guard)
      ⟨fun _ => match bs.contains i with
        | true => match isCall o.op with
          | true => @bindP _ (callOf s.env o.op) ⟨fun c => @callP P c.1 c.2 s.σ ⟨fun r => @wpbH P bs ⟨ops⟩ ⟨(i + 1, os)⟩ K ⟨putE s.env o.dst r.1, r.2⟩⟩⟩
          | false => @bindP _ (stepA P o.op s) ⟨fun r => @Chk r.1 ⟨fun _ => @wpbH P bs ⟨ops⟩ ⟨(i + 1, os)⟩ K ⟨putE s.env o.dst r.2.1, r.2.2⟩⟩⟩
        | false => match isCall o.op with
          | true => @bindP _ (callOf s.env o.op) ⟨fun c => @pureP P c.1 c.2 s.σ ⟨fun r => @wpbH P bs ⟨ops⟩ ⟨(i + 1, os)⟩ K ⟨putE s.env o.dst r, s.σ⟩⟩⟩
          | false => @bindP _ (stepA P o.op s) ⟨fun r => @Chk (r.1 ∧ r.2.2 = s.σ) ⟨fun _ => @wpbH P bs ⟨ops⟩ ⟨(i + 1, os)⟩ K ⟨putE s.env o.dst r.2.1, s.σ⟩⟩⟩⟩
      ⟨fun _ => @wpbH P bs ⟨ops⟩ ⟨(i + 1, os)⟩ K ⟨putE s.env o.dst (.tup []), s.σ⟩⟩ := rfl
@[go_sem] theorem wpcH_skip (Q) (s : St) : @wpcH P V N B ⟨.skip⟩ ⟨Q⟩ s = Q .normal s := rfl
@[go_sem] theorem wpcH_label (Q) (n) (s : St) : @wpcH P V N B ⟨.label n⟩ ⟨Q⟩ s = Q .normal s := rfl
@[go_sem] theorem wpcH_exit (Q) (n) (s : St) : @wpcH P V N B ⟨.exit n⟩ ⟨Q⟩ s = Q (.exit n) s := rfl
@[go_sem] theorem wpcH_ret (Q) (s : St) : @wpcH P V N B ⟨.ret⟩ ⟨Q⟩ s = Q .ret s := rfl
@[go_sem] theorem wpcH_seq (a b Q) (s : St) : @wpcH P V N B ⟨.seq a b⟩ ⟨Q⟩ s = @wpcH P V N B ⟨a⟩ ⟨fun e s' => match e with | .normal => @wpcH P V N B ⟨b⟩ ⟨Q⟩ s' | e => Q e s'⟩ s := rfl
@[go_sem] theorem wpcH_cond (c a b Q) (s : St) : @wpcH P V N B ⟨.cond c a b⟩ Q s = @onB (ev s.env c) ⟨fun _ => @wpcH P V N B ⟨a⟩ Q s⟩ ⟨fun _ => @wpcH P V N B ⟨b⟩ Q s⟩ := rfl
@[go_sem] theorem wpcH_block (n c Q) (s : St) : @wpcH P V N B ⟨.block n c⟩ ⟨Q⟩ s = @wpcH P V N B ⟨c⟩ ⟨fun e s' => match e with | .exit m => (match decide (m = n) with | true => Q .normal s' | false => Q (.exit m) s') | e => Q e s'⟩ s := rfl
@[go_sem] theorem wpcH_loop (c Q) (s : St) : @wpcH P V N B ⟨.loop c⟩ Q s = @LoopH P V N B ⟨c⟩ Q s := rfl
@[go_sem] theorem wpcH_region (i ops Q) (s : St) : @wpcH P V N B ⟨.region i ops false⟩ ⟨Q⟩ s = @wpoH P ⟨ops⟩ ⟨ops.toList⟩ ⟨fun s' => Q .normal ⟨keepE V s'.env, s'.σ⟩⟩ s := rfl
@[go_sem] theorem wpcH_draw (i ops Q) (s : St) : @wpcH P V N B ⟨.region i ops true⟩ Q s = @DrawH P V N B i ⟨ops⟩ Q s := rfl
end
attribute [go_sem] guardB putE ev getE keepE isCall callOf binA strOp eqB pickA indexA fieldAddrA loadA storeA loI fillA fillOk setAll convA isU8 notStr minA maxA cellA
  sizeT aggT ofV ofVal zeroT elemT fieldT bytesT getO partA setCell refsA refsT zeroE freezeL entryE resP resV
theorem onB_split {b : Bool} {T F : Unit → Prop} (ht : b = true → T ()) (hf : b = false → F ()) : @onB (.bool b) ⟨T⟩ ⟨F⟩ := by
  cases b with
  | true => exact ht rfl
  | false => exact hf rfl
theorem chk {p : Prop} {k : Unit → Prop} (hp : p) (h : k ()) : @Chk p ⟨k⟩ := ⟨hp, h⟩
theorem draw {P : Program} {V : List Nat} {N B id : Nat} {ops : Array Oper} {Q : AEx → St → Prop} {s : St} (hm : P.follows .mixedOrders = true) (hB : drawB P N ops = true)
    (h : @wpqH P ⟨ops⟩ ⟨ops.toList⟩ ⟨fun s' => Q .normal ⟨keepE V s'.env, s'.σ⟩⟩ s) : @DrawH P V N B id ⟨ops⟩ ⟨Q⟩ s := draw_ok hm hB h
theorem draw2 {P : Program} {V : List Nat} {N B id : Nat} {ops : Array Oper} (bs : List Nat) {Q : AEx → St → Prop} {s : St} (hm : P.follows .mixedOrders = true) (hB : drawB2 P N ops bs = true)
    (h : @wpbH P bs ⟨ops⟩ ⟨(0, ops.toList)⟩ ⟨fun s' => Q .normal ⟨keepE V s'.env, s'.σ⟩⟩ s) : @DrawH P V N B id ⟨ops⟩ ⟨Q⟩ s := draw2_ok bs hm hB h
def EnvFit (m : Nat → Nat) (n : Nat) (e : Env) : Env → Prop
  | [] => True
  | (t, v) :: r => (lowA n v ∧ getE e t = renA m v) ∧ EnvFit m n e r
def obFit (m : Nat → Nat) (n : Nat) (o1 : Ob) : Ob → Prop
  | .none => True
  | .var v => o1 = renO m (.var v) ∧ lowO n (.var v)
  | .row l e xs => o1 = .row l e xs
def ObsFit (m : Nat → Nat) (n : Nat) (σ : List Ob) : Nat → List Ob → Prop
  | _, [] => True
  | i, o :: r => obFit m n (getO σ (m i)) o ∧ ObsFit m n σ (i + 1) r
theorem envFit_get {m n e} : ∀ {e1 : Env}, EnvFit m n e e1 → ∀ t, getE e1 t = .undef ∨ (lowA n (getE e1 t) ∧ getE e t = renA m (getE e1 t)) := by
  intro e1
  induction e1 with
  | nil => intro _ t; exact .inl rfl
  | cons p r ih =>
    intro h t
    obtain ⟨k, v⟩ := p
    simp only [getE]
    by_cases hk : k = t
    · subst hk; rw [if_pos rfl]; exact .inr h.1
    · rw [if_neg hk]; exact ih h.2 t
theorem obsFit_get {m n σ} : ∀ {l : List Ob} {k : Nat}, ObsFit m n σ k l → ∀ i, i < l.length → obFit m n (getO σ (m (k + i))) (l.getD i .none) := by
  intro l
  induction l with
  | nil => intro k _ i hi; simp at hi
  | cons o r ih =>
    intro k h i hi
    cases i with
    | zero => exact h.1
    | succ i =>
      have := ih h.2 i (by simpa using hi)
      rw [show k + (i + 1) = k + 1 + i by omega]
      exact this
def mapL (ms : List Nat) (i : Nat) : Nat := ms.getD i 0
theorem fits {B : Nat} (ms : List Nat) {s s1 : St} (hl : ms.length = s1.σ.length) (hB : ms.take B = List.range B) (hn : ms.Nodup) (he : EnvFit (mapL ms) s1.σ.length s.env s1.env) (ho : ObsFit (mapL ms) s1.σ.length s.σ 0 s1.σ) : Fits B (mapL ms) s s1 where
  low := fun i hi => by
    have h1 : (ms.take B)[i]? = (List.range B)[i]? := by rw [hB]
    rw [List.getElem?_take, if_pos hi, List.getElem?_range hi] at h1
    simp [mapL, List.getD, h1]
  hB := by
    have := congrArg List.length hB
    simp at this
    omega
  env := envFit_get he
  obs := fun i hi => by
    have h1 := obsFit_get ho i hi
    rw [Nat.zero_add] at h1
    have h2 : getO s1.σ i = s1.σ.getD i .none := rfl
    rw [h2]
    generalize s1.σ.getD i .none = o at h1
    cases o with
    | none => exact .inl rfl
    | var v => exact .inr h1
    | row l e xs => exact .inr ⟨h1, trivial⟩
  inj := fun i j hne hw hs => by
    have h1 := getO_lt (wr_some hw)
    have h2 := getO_lt hs
    rw [← hl] at h1 h2
    intro he
    simp only [mapL, List.getD, List.getElem?_eq_getElem h1, List.getElem?_eq_getElem h2, Option.getD_some] at he
    exact hne ((List.getElem_inj hn).1 he)
theorem loop_inv {P : Program} {V : List Nat} {N B : Nat} {c : Code} {Q : AEx → St → Prop} {α : Type} (I : α → St) (μ : α → Nat) (x : α) {s : St} {m : Nat → Nat} (h0 : Fits B m s (I x))
    (h : ∀ x, @wpcH P V N B ⟨c⟩ ⟨fun e s' => match e with | .normal => ∃ y m, Fits B m s' (I y) ∧ μ y < μ x | e => Q e s'⟩ (I x)) : @LoopH P V N B ⟨c⟩ ⟨Q⟩ s :=
  fun hok => ren_ok h0 (loop_ok I μ (fun x => code_ok c hok _ _ (h x)) x)
attribute [go_sem] EnvFit ObsFit mapL EndsP allOne endV
theorem enterP {P : Program} (V : List Nat) (rs : List ResultVar) {f : FuncId} {fn : Func} {c : Code} {as : List AV} {r : AV} (hf : P.funcs[f]? = some fn) (hb : fn.body = some c)
    (hok : (!(fn.name == "runtime.NumGoroutine") && codeOk P fn.ntmps c && decide (as.length ≤ fn.ntmps) && fn.results.toList.all fun r => match r with | .tmp _ => true | .cell _ t => tyOk P t) = true)
    (hrs : fn.results.toList = rs) (h : @wpcH P V fn.ntmps 0 ⟨c⟩ ⟨EndsP P rs (fun v σ => treeT σ v = r)⟩ ⟨entryE 0 as, []⟩) : Pure P f as r := pure_of (does_of hf hb hok (hrs ▸ h))
end Go.AM
end
section
namespace Go.AM
def idxSl (sz : Nat) (z : AV) : AV → AV → Option (Prop × AV)
  | .ts esz xs, .int _ j => some ((sz = esz ∨ xs = []) ∧ 0 ≤ j ∧ j < xs.length, .tp sz xs z j.toNat 0)
  | .sl id esz i0 n, .int _ j => some (sz = esz ∧ 0 ≤ j ∧ j < n, .rp id esz z (i0 + j.toNat) 0)
  | _, _ => none
def idxArr (n sz : Nat) : AV → AV → Option (Prop × AV)
  | .vp id off, .int _ j => some (0 ≤ j ∧ j < n, .vp id (off + j.toNat * sz))
  | .rp id esz d idx off, .int _ j => some (0 ≤ j ∧ j < n, .rp id esz d idx (off + j.toNat * sz))
  | .tp esz xs d idx off, .int _ j => some (0 ≤ j ∧ j < n, .tp esz xs d idx (off + j.toNat * sz))
  | _, _ => none
@[go_sem] theorem indexAddrA_eq (P : Program) (t : TypeId) (x i : AV) : indexAddrA P t x i = match P.underlying t with | some (.slice e) => idxSl (sizeT P e) (zeroT P e) x i | some (.array n e) => idxArr n (sizeT P e) x i | _ => none := by
  unfold indexAddrA
  cases h : P.underlying t with
  | none => rfl
  | some d => cases d <;> cases x <;> cases i <;> rfl
def slSl (sz : Nat) (lo hi : Option AV) : AV → Option (Prop × AV)
  | .ts esz xs => (loI lo 0).bind fun l => (loI hi xs.length).map fun h => ((sz = esz ∨ xs = []) ∧ 0 ≤ l ∧ l ≤ h ∧ h ≤ xs.length, tsE sz ((xs.take h.toNat).drop l.toNat))
  | .sl id esz i0 n => (loI lo 0).bind fun l => (loI hi n).map fun h => (sz = esz ∧ 0 ≤ l ∧ l ≤ h ∧ h ≤ n, .sl id esz (i0 + l.toNat) (h.toNat - l.toNat))
  | _ => none
def slStr (lo hi : Option AV) : AV → Option (Prop × AV)
  | .str s => (loI lo 0).bind fun l => (loI hi s.size).map fun h => (0 ≤ l ∧ l ≤ h ∧ h ≤ s.size, .str (s.extract l.toNat h.toNat))
  | _ => none
@[go_sem] theorem sliceA_eq (P : Program) (t : TypeId) (x : AV) (lo hi : Option AV) : sliceA P t x lo hi none = match P.underlying t with | some .string => slStr lo hi x | some (.slice e) => slSl (sizeT P e) lo hi x | _ => none := by
  unfold sliceA
  cases h : P.underlying t with
  | none => rfl
  | some d => cases d <;> cases x <;> rfl
theorem tsE_cases (esz : Nat) (xs : List AV) : (xs = [] ∧ tsE esz xs = .ts 0 []) ∨ (tsE esz xs = .ts esz xs) := by
  cases xs with
  | nil => exact .inl ⟨rfl, rfl⟩
  | cons => exact .inr rfl
def lenStr : AV → Option AV
  | .str s => some (.int .i64 s.size)
  | _ => none
def lenSl : AV → Option AV
  | .sl _ _ _ n => some (.int .i64 n)
  | .ts _ xs => some (.int .i64 xs.length)
  | .nils => some (.int .i64 0)
  | _ => none
@[go_sem] theorem lenU_eq (u : Option TypeDesc) (a : AV) : lenU u a = match u with | some .string => lenStr a | some (.slice _) => lenSl a | _ => none := by
  unfold lenU
  cases u with
  | none => rfl
  | some d => cases d <;> cases a <;> rfl
@[go_sem] theorem lenSl_tsE (esz : Nat) (xs : List AV) : lenSl (tsE esz xs) = some (.int .i64 xs.length) := by cases xs <;> rfl
@[go_sem] theorem lenSl_slV (id esz n : Nat) : lenSl (slV id esz n) = some (.int .i64 n) := by
  unfold slV; split
  · rename_i h; subst h; rfl
  · rfl
attribute [go_sem] lenStr
@[go_sem] theorem idxSl_tsE (sz : Nat) (z : AV) (esz : Nat) (xs : List AV) (k : IntKind) (j : Int) : idxSl sz z (tsE esz xs) (.int k j) = some ((sz = esz ∨ xs = []) ∧ 0 ≤ j ∧ j < xs.length, .tp sz xs z j.toNat 0) := by
  cases xs with
  | nil => simp only [tsE, idxSl, or_true]
  | cons => rfl
@[go_sem] theorem slSl_tsE (sz esz : Nat) (xs : List AV) (lo hi : Option AV) : slSl sz lo hi (tsE esz xs) = (loI lo 0).bind fun l => (loI hi xs.length).map fun h => ((sz = esz ∨ xs = []) ∧ 0 ≤ l ∧ l ≤ h ∧ h ≤ xs.length, tsE sz ((xs.take h.toNat).drop l.toNat)) := by
  cases xs with
  | nil => simp only [tsE, slSl, or_true]
  | cons => rfl
@[go_sem] theorem elemsA_tsE (E : Nat) (σ : List Ob) (xs : List AV) : elemsA E σ (tsE E xs) = some xs := by
  cases xs with
  | nil => simp only [tsE, elemsA]; split <;> rfl
  | cons => simp [tsE, elemsA]
@[go_sem] theorem treeC_tsE (σ : List Ob) (esz : Nat) (xs : List AV) : treeC σ (tsE esz xs) = tsE esz xs := by cases xs <;> rfl
@[go_sem] theorem treeA_tsE (σ : List Ob) (esz : Nat) (xs : List AV) : treeA σ (tsE esz xs) = tsE esz xs := by cases xs <;> rfl
@[go_sem] theorem treeT_tsE (σ : List Ob) (esz : Nat) (xs : List AV) : treeT σ (tsE esz xs) = tsE esz xs := by cases xs <;> rfl
@[go_sem] theorem refsC_tsE (esz : Nat) (xs : List AV) : refsC (tsE esz xs) = [] := by cases xs <;> rfl
@[go_sem] theorem cellsOf_tsE (esz : Nat) (xs : List AV) : cellsOf (tsE esz xs) = [tsE esz xs] := by cases xs <;> rfl
@[go_sem] theorem oneV_tsE (esz : Nat) (xs : List AV) : oneV (tsE esz xs) = True := by cases xs <;> rfl
@[go_sem] theorem okStore_tsE (esz : Nat) (xs : List AV) : okStore (tsE esz xs) = true := by cases xs <;> rfl
@[go_sem] theorem toAgg_tsE (esz : Nat) (xs : List AV) : toAgg (tsE esz xs) = .agg [tsE esz xs] := by cases xs <;> rfl
attribute [go_sem] idxArr slStr
@[go_sem] theorem treeC_undef (σ : List Ob)  : treeC σ (.undef) = (.undef) := rfl
@[go_sem] theorem treeA_undef (σ : List Ob)  : treeA σ (.undef) = treeC σ (.undef) := rfl
@[go_sem] theorem treeT_undef (σ : List Ob)  : treeT σ (.undef) = treeA σ (.undef) := rfl
@[go_sem] theorem refsC_undef  : refsC (.undef) = [] := rfl
@[go_sem] theorem cellsOf_undef  : cellsOf (.undef) = [(.undef)] := rfl
@[go_sem] theorem oneV_undef  : oneV (.undef) = True := rfl
@[go_sem] theorem okStore_undef  : okStore (.undef) = false := rfl
@[go_sem] theorem toAgg_undef  : toAgg (.undef) = .agg [(.undef)] := rfl
@[go_sem] theorem treeC_int (σ : List Ob) (k : IntKind) (n : Int) : treeC σ (.int k n) = (.int k n) := rfl
@[go_sem] theorem treeA_int (σ : List Ob) (k : IntKind) (n : Int) : treeA σ (.int k n) = treeC σ (.int k n) := rfl
@[go_sem] theorem treeT_int (σ : List Ob) (k : IntKind) (n : Int) : treeT σ (.int k n) = treeA σ (.int k n) := rfl
@[go_sem] theorem refsC_int (k : IntKind) (n : Int) : refsC (.int k n) = [] := rfl
@[go_sem] theorem cellsOf_int (k : IntKind) (n : Int) : cellsOf (.int k n) = [(.int k n)] := rfl
@[go_sem] theorem oneV_int (k : IntKind) (n : Int) : oneV (.int k n) = True := rfl
@[go_sem] theorem okStore_int (k : IntKind) (n : Int) : okStore (.int k n) = true := rfl
@[go_sem] theorem toAgg_int (k : IntKind) (n : Int) : toAgg (.int k n) = .agg [(.int k n)] := rfl
@[go_sem] theorem treeC_bool (σ : List Ob) (b : Bool) : treeC σ (.bool b) = (.bool b) := rfl
@[go_sem] theorem treeA_bool (σ : List Ob) (b : Bool) : treeA σ (.bool b) = treeC σ (.bool b) := rfl
@[go_sem] theorem treeT_bool (σ : List Ob) (b : Bool) : treeT σ (.bool b) = treeA σ (.bool b) := rfl
@[go_sem] theorem refsC_bool (b : Bool) : refsC (.bool b) = [] := rfl
@[go_sem] theorem cellsOf_bool (b : Bool) : cellsOf (.bool b) = [(.bool b)] := rfl
@[go_sem] theorem oneV_bool (b : Bool) : oneV (.bool b) = True := rfl
@[go_sem] theorem okStore_bool (b : Bool) : okStore (.bool b) = true := rfl
@[go_sem] theorem toAgg_bool (b : Bool) : toAgg (.bool b) = .agg [(.bool b)] := rfl
@[go_sem] theorem treeC_str (σ : List Ob) (s : ByteArray) : treeC σ (.str s) = (.str s) := rfl
@[go_sem] theorem treeA_str (σ : List Ob) (s : ByteArray) : treeA σ (.str s) = treeC σ (.str s) := rfl
@[go_sem] theorem treeT_str (σ : List Ob) (s : ByteArray) : treeT σ (.str s) = treeA σ (.str s) := rfl
@[go_sem] theorem refsC_str (s : ByteArray) : refsC (.str s) = [] := rfl
@[go_sem] theorem cellsOf_str (s : ByteArray) : cellsOf (.str s) = [(.str s)] := rfl
@[go_sem] theorem oneV_str (s : ByteArray) : oneV (.str s) = True := rfl
@[go_sem] theorem okStore_str (s : ByteArray) : okStore (.str s) = true := rfl
@[go_sem] theorem toAgg_str (s : ByteArray) : toAgg (.str s) = .agg [(.str s)] := rfl
@[go_sem] theorem treeC_nilp (σ : List Ob)  : treeC σ (.nilp) = (.nilp) := rfl
@[go_sem] theorem treeA_nilp (σ : List Ob)  : treeA σ (.nilp) = treeC σ (.nilp) := rfl
@[go_sem] theorem treeT_nilp (σ : List Ob)  : treeT σ (.nilp) = treeA σ (.nilp) := rfl
@[go_sem] theorem refsC_nilp  : refsC (.nilp) = [] := rfl
@[go_sem] theorem cellsOf_nilp  : cellsOf (.nilp) = [(.nilp)] := rfl
@[go_sem] theorem oneV_nilp  : oneV (.nilp) = True := rfl
@[go_sem] theorem okStore_nilp  : okStore (.nilp) = true := rfl
@[go_sem] theorem toAgg_nilp  : toAgg (.nilp) = .agg [(.nilp)] := rfl
@[go_sem] theorem treeC_nilf (σ : List Ob)  : treeC σ (.nilf) = (.nilf) := rfl
@[go_sem] theorem treeA_nilf (σ : List Ob)  : treeA σ (.nilf) = treeC σ (.nilf) := rfl
@[go_sem] theorem treeT_nilf (σ : List Ob)  : treeT σ (.nilf) = treeA σ (.nilf) := rfl
@[go_sem] theorem refsC_nilf  : refsC (.nilf) = [] := rfl
@[go_sem] theorem cellsOf_nilf  : cellsOf (.nilf) = [(.nilf)] := rfl
@[go_sem] theorem oneV_nilf  : oneV (.nilf) = True := rfl
@[go_sem] theorem okStore_nilf  : okStore (.nilf) = true := rfl
@[go_sem] theorem toAgg_nilf  : toAgg (.nilf) = .agg [(.nilf)] := rfl
@[go_sem] theorem treeC_vp (σ : List Ob) (id off : Nat) : treeC σ (.vp id off) = .undef := rfl
@[go_sem] theorem treeA_vp (σ : List Ob) (id off : Nat) : treeA σ (.vp id off) = treeC σ (.vp id off) := rfl
@[go_sem] theorem treeT_vp (σ : List Ob) (id off : Nat) : treeT σ (.vp id off) = treeA σ (.vp id off) := rfl
@[go_sem] theorem refsC_vp (id off : Nat) : refsC (.vp id off) = [] := rfl
@[go_sem] theorem cellsOf_vp (id off : Nat) : cellsOf (.vp id off) = [(.vp id off)] := rfl
@[go_sem] theorem oneV_vp (id off : Nat) : oneV (.vp id off) = True := rfl
@[go_sem] theorem okStore_vp (id off : Nat) : okStore (.vp id off) = true := rfl
@[go_sem] theorem toAgg_vp (id off : Nat) : toAgg (.vp id off) = .agg [(.vp id off)] := rfl
@[go_sem] theorem treeC_rp (σ : List Ob) (id esz : Nat) (d : AV) (idx off : Nat) : treeC σ (.rp id esz d idx off) = .undef := rfl
@[go_sem] theorem treeA_rp (σ : List Ob) (id esz : Nat) (d : AV) (idx off : Nat) : treeA σ (.rp id esz d idx off) = treeC σ (.rp id esz d idx off) := rfl
@[go_sem] theorem treeT_rp (σ : List Ob) (id esz : Nat) (d : AV) (idx off : Nat) : treeT σ (.rp id esz d idx off) = treeA σ (.rp id esz d idx off) := rfl
@[go_sem] theorem refsC_rp (id esz : Nat) (d : AV) (idx off : Nat) : refsC (.rp id esz d idx off) = [] := rfl
@[go_sem] theorem cellsOf_rp (id esz : Nat) (d : AV) (idx off : Nat) : cellsOf (.rp id esz d idx off) = [(.rp id esz d idx off)] := rfl
@[go_sem] theorem oneV_rp (id esz : Nat) (d : AV) (idx off : Nat) : oneV (.rp id esz d idx off) = True := rfl
@[go_sem] theorem okStore_rp (id esz : Nat) (d : AV) (idx off : Nat) : okStore (.rp id esz d idx off) = true := rfl
@[go_sem] theorem toAgg_rp (id esz : Nat) (d : AV) (idx off : Nat) : toAgg (.rp id esz d idx off) = .agg [(.rp id esz d idx off)] := rfl
@[go_sem] theorem treeC_tp (σ : List Ob) (esz : Nat) (xs : List AV) (d : AV) (idx off : Nat) : treeC σ (.tp esz xs d idx off) = (.tp esz xs d idx off) := rfl
@[go_sem] theorem treeA_tp (σ : List Ob) (esz : Nat) (xs : List AV) (d : AV) (idx off : Nat) : treeA σ (.tp esz xs d idx off) = treeC σ (.tp esz xs d idx off) := rfl
@[go_sem] theorem treeT_tp (σ : List Ob) (esz : Nat) (xs : List AV) (d : AV) (idx off : Nat) : treeT σ (.tp esz xs d idx off) = treeA σ (.tp esz xs d idx off) := rfl
@[go_sem] theorem refsC_tp (esz : Nat) (xs : List AV) (d : AV) (idx off : Nat) : refsC (.tp esz xs d idx off) = [] := rfl
@[go_sem] theorem cellsOf_tp (esz : Nat) (xs : List AV) (d : AV) (idx off : Nat) : cellsOf (.tp esz xs d idx off) = [(.tp esz xs d idx off)] := rfl
@[go_sem] theorem oneV_tp (esz : Nat) (xs : List AV) (d : AV) (idx off : Nat) : oneV (.tp esz xs d idx off) = True := rfl
@[go_sem] theorem okStore_tp (esz : Nat) (xs : List AV) (d : AV) (idx off : Nat) : okStore (.tp esz xs d idx off) = true := rfl
@[go_sem] theorem toAgg_tp (esz : Nat) (xs : List AV) (d : AV) (idx off : Nat) : toAgg (.tp esz xs d idx off) = .agg [(.tp esz xs d idx off)] := rfl
@[go_sem] theorem treeC_sl (σ : List Ob) (id esz i0 len : Nat) : treeC σ (.sl id esz i0 len) = match getO σ id with | .row _ esz' xs => if esz' = esz then tsE esz' ((xs.drop i0).take len) else .undef | _ => .undef := rfl
@[go_sem] theorem treeA_sl (σ : List Ob) (id esz i0 len : Nat) : treeA σ (.sl id esz i0 len) = treeC σ (.sl id esz i0 len) := rfl
@[go_sem] theorem treeT_sl (σ : List Ob) (id esz i0 len : Nat) : treeT σ (.sl id esz i0 len) = treeA σ (.sl id esz i0 len) := rfl
@[go_sem] theorem refsC_sl (id esz i0 len : Nat) : refsC (.sl id esz i0 len) = [id] := rfl
@[go_sem] theorem cellsOf_sl (id esz i0 len : Nat) : cellsOf (.sl id esz i0 len) = [(.sl id esz i0 len)] := rfl
@[go_sem] theorem oneV_sl (id esz i0 len : Nat) : oneV (.sl id esz i0 len) = True := rfl
@[go_sem] theorem okStore_sl (id esz i0 len : Nat) : okStore (.sl id esz i0 len) = true := rfl
@[go_sem] theorem toAgg_sl (id esz i0 len : Nat) : toAgg (.sl id esz i0 len) = .agg [(.sl id esz i0 len)] := rfl
@[go_sem] theorem treeC_ts (σ : List Ob) (esz : Nat) (xs : List AV) : treeC σ (.ts esz xs) = (.ts esz xs) := rfl
@[go_sem] theorem treeA_ts (σ : List Ob) (esz : Nat) (xs : List AV) : treeA σ (.ts esz xs) = treeC σ (.ts esz xs) := rfl
@[go_sem] theorem treeT_ts (σ : List Ob) (esz : Nat) (xs : List AV) : treeT σ (.ts esz xs) = treeA σ (.ts esz xs) := rfl
@[go_sem] theorem refsC_ts (esz : Nat) (xs : List AV) : refsC (.ts esz xs) = [] := rfl
@[go_sem] theorem cellsOf_ts (esz : Nat) (xs : List AV) : cellsOf (.ts esz xs) = [(.ts esz xs)] := rfl
@[go_sem] theorem oneV_ts (esz : Nat) (xs : List AV) : oneV (.ts esz xs) = True := rfl
@[go_sem] theorem okStore_ts (esz : Nat) (xs : List AV) : okStore (.ts esz xs) = true := rfl
@[go_sem] theorem toAgg_ts (esz : Nat) (xs : List AV) : toAgg (.ts esz xs) = .agg [(.ts esz xs)] := rfl
@[go_sem] theorem treeC_nils (σ : List Ob)  : treeC σ (.nils) = tsE 0 [] := rfl
@[go_sem] theorem treeA_nils (σ : List Ob)  : treeA σ (.nils) = treeC σ (.nils) := rfl
@[go_sem] theorem treeT_nils (σ : List Ob)  : treeT σ (.nils) = treeA σ (.nils) := rfl
@[go_sem] theorem refsC_nils  : refsC (.nils) = [] := rfl
@[go_sem] theorem cellsOf_nils  : cellsOf (.nils) = [(.nils)] := rfl
@[go_sem] theorem oneV_nils  : oneV (.nils) = True := rfl
@[go_sem] theorem okStore_nils  : okStore (.nils) = true := rfl
@[go_sem] theorem toAgg_nils  : toAgg (.nils) = .agg [(.nils)] := rfl
@[go_sem] theorem treeA_fn (σ : List Ob) (f : FuncId) (caps : List AV) : treeA σ (.fn f caps) = treeC σ (.fn f caps) := rfl
@[go_sem] theorem treeT_fn (σ : List Ob) (f : FuncId) (caps : List AV) : treeT σ (.fn f caps) = treeA σ (.fn f caps) := rfl
@[go_sem] theorem refsC_fn (f : FuncId) (caps : List AV) : refsC (.fn f caps) = [] := rfl
@[go_sem] theorem cellsOf_fn (f : FuncId) (caps : List AV) : cellsOf (.fn f caps) = [(.fn f caps)] := rfl
@[go_sem] theorem oneV_fn (f : FuncId) (caps : List AV) : oneV (.fn f caps) = True := rfl
@[go_sem] theorem okStore_fn (f : FuncId) (caps : List AV) : okStore (.fn f caps) = true := rfl
@[go_sem] theorem toAgg_fn (f : FuncId) (caps : List AV) : toAgg (.fn f caps) = .agg [(.fn f caps)] := rfl
@[go_sem] theorem treeC_agg (σ : List Ob) (cs : List AV) : treeC σ (.agg cs) = (.agg cs) := rfl
@[go_sem] theorem treeA_agg (σ : List Ob) (cs : List AV) : treeA σ (.agg cs) = .agg (cs.map (treeC σ)) := rfl
@[go_sem] theorem treeT_agg (σ : List Ob) (cs : List AV) : treeT σ (.agg cs) = treeA σ (.agg cs) := rfl
@[go_sem] theorem refsC_agg (cs : List AV) : refsC (.agg cs) = [] := rfl
@[go_sem] theorem cellsOf_agg (cs : List AV) : cellsOf (.agg cs) = cs := rfl
@[go_sem] theorem oneV_agg (cs : List AV) : oneV (.agg cs) = True := rfl
@[go_sem] theorem okStore_agg (cs : List AV) : okStore (.agg cs) = true := rfl
@[go_sem] theorem toAgg_agg (cs : List AV) : toAgg (.agg cs) = (.agg cs) := rfl
@[go_sem] theorem treeC_tup (σ : List Ob) (vs : List AV) : treeC σ (.tup vs) = .undef := rfl
@[go_sem] theorem treeA_tup (σ : List Ob) (vs : List AV) : treeA σ (.tup vs) = treeC σ (.tup vs) := rfl
@[go_sem] theorem treeT_tup (σ : List Ob) (vs : List AV) : treeT σ (.tup vs) = .tup (vs.map (treeA σ)) := rfl
@[go_sem] theorem refsC_tup (vs : List AV) : refsC (.tup vs) = [] := rfl
@[go_sem] theorem cellsOf_tup (vs : List AV) : cellsOf (.tup vs) = [(.tup vs)] := rfl
@[go_sem] theorem oneV_tup (vs : List AV) : oneV (.tup vs) = False := rfl
@[go_sem] theorem okStore_tup (vs : List AV) : okStore (.tup vs) = false := rfl
@[go_sem] theorem toAgg_tup (vs : List AV) : toAgg (.tup vs) = .agg [(.tup vs)] := rfl
@[go_sem] theorem treeC_fn0 (σ : List Ob) (f : FuncId) : treeC σ (.fn f []) = .fn f [] := rfl
@[go_sem] theorem treeC_fn1 (σ : List Ob) (f : FuncId) (c : AV) (r : List AV) : treeC σ (.fn f (c :: r)) = .undef := rfl
@[go_sem] theorem lenSl_sl (id esz i0 n : Nat) : lenSl (.sl id esz i0 n) = some (.int .i64 n) := rfl
@[go_sem] theorem lenSl_ts (esz : Nat) (xs : List AV) : lenSl (.ts esz xs) = some (.int .i64 xs.length) := rfl
@[go_sem] theorem lenSl_nils : lenSl .nils = some (.int .i64 0) := rfl
@[go_sem] theorem idxSl_sl (sz : Nat) (z : AV) (id esz i0 n : Nat) (k : IntKind) (j : Int) : idxSl sz z (.sl id esz i0 n) (.int k j) = some (sz = esz ∧ 0 ≤ j ∧ j < n, .rp id esz z (i0 + j.toNat) 0) := rfl
@[go_sem] theorem slSl_sl (sz id esz i0 n : Nat) (lo hi : Option AV) : slSl sz lo hi (.sl id esz i0 n) = (loI lo 0).bind fun l => (loI hi n).map fun h => (sz = esz ∧ 0 ≤ l ∧ l ≤ h ∧ h ≤ n, .sl id esz (i0 + l.toNat) (h.toNat - l.toNat)) := rfl
@[go_sem] theorem elemsA_nils (E : Nat) (σ : List Ob) : elemsA E σ .nils = some [] := rfl
@[go_sem] theorem elemsA_str (E : Nat) (σ : List Ob) (s : ByteArray) : elemsA E σ (.str s) = if E = 1 then some (bytesS s) else none := rfl
@[go_sem] theorem elemsA_sl (E : Nat) (σ : List Ob) (id esz i0 n : Nat) : elemsA E σ (.sl id esz i0 n) = match getO σ id with | .row _ esz' xs => if esz' = esz ∧ esz = E then some ((xs.drop i0).take n) else none | _ => none := rfl
def wordA (x : UInt32) : AV := .int .u32 x.toNat
def byteA (x : UInt8) : AV := .int .u8 x.toNat
theorem map_getD {α : Type} (f : α → AV) (xs : List α) (i : Nat) (d : α) : (xs.map f).getD i (f d) = f (xs.getD i d) := by simp [List.getD, Option.map]; cases xs[i]? <;> rfl
@[go_sem] theorem words_getD (xs : List UInt32) (i : Nat) : (xs.map wordA).getD i (.int .u32 0) = .int .u32 (xs.getD i 0).toNat := map_getD wordA xs i 0
@[go_sem] theorem bytes_getD (xs : List UInt8) (i : Nat) : (xs.map byteA).getD i (.int .u8 0) = .int .u8 (xs.getD i 0).toNat := map_getD byteA xs i 0
end Go.AM
namespace Go.AM
attribute [go_sem] Option.map_some Option.bind_some Option.map_none Option.bind_none List.length_map List.map_cons List.map_nil List.getElem?_toArray List.getElem?_cons_zero List.getElem?_cons_succ List.flatMap_cons List.flatMap_nil List.append_nil List.nil_append List.cons_append List.length_cons List.length_nil List.getD_cons_zero List.getD_cons_succ List.foldl_cons List.foldl_nil
end Go.AM
namespace Go.AM
theorem onB_dec {p : Prop} [Decidable p] {T F : Unit → Prop} (ht : p → T ()) (hf : ¬ p → F ()) : @onB (.bool (decide p)) ⟨T⟩ ⟨F⟩ := by
  by_cases h : p
  · rw [decide_eq_true h]; exact ht h
  · rw [decide_eq_false h]; exact hf h
@[go_sem] theorem wrap_i64_small {n : Int} (h : -9223372036854775808 ≤ n) (h' : n < 9223372036854775808) : IntKind.i64.wrap n = n := by rw [IntKind.wrap_i64]; omega
@[go_sem] theorem bool_eq_true (b : Bool) : (b == true) = b := by cases b <;> rfl
@[go_sem] theorem bool_eq_false (b : Bool) : (b == false) = !b := by cases b <;> rfl
attribute [go_sem] decide_true decide_false Bool.not_true Bool.not_false true_or or_true true_and and_true
def lowL0 (N : Nat) : List AV → Prop | [] => True | c :: r => lowC0 N c ∧ lowL0 N r
def lowL (N : Nat) : List AV → Prop | [] => True | c :: r => lowC N c ∧ lowL N r
def lowL1 (N : Nat) : List AV → Prop | [] => True | c :: r => lowA1 N c ∧ lowL1 N r
theorem lowL0_eq (N : Nat) (l : List AV) : (∀ c ∈ l, lowC0 N c) = lowL0 N l := by induction l with | nil => simp [lowL0] | cons c r ih => simp [lowL0, ← ih]
theorem lowL_eq (N : Nat) (l : List AV) : (∀ c ∈ l, lowC N c) = lowL N l := by induction l with | nil => simp [lowL] | cons c r ih => simp [lowL, ← ih]
theorem lowL1_eq (N : Nat) (l : List AV) : (∀ c ∈ l, lowA1 N c) = lowL1 N l := by induction l with | nil => simp [lowL1] | cons c r ih => simp [lowL1, ← ih]
attribute [go_sem] lowL0 lowL lowL1
@[go_sem] theorem lowA_undef (N : Nat)  : lowA N (.undef) = True := rfl
@[go_sem] theorem lowA1_undef (N : Nat)  : lowA1 N (.undef) = True := rfl
@[go_sem] theorem lowC_undef (N : Nat)  : lowC N (.undef) = True := rfl
@[go_sem] theorem lowC0_undef (N : Nat)  : lowC0 N (.undef) = True := rfl
@[go_sem] theorem renA_undef (m : Nat → Nat)  : renA m (.undef) = (.undef) := rfl
@[go_sem] theorem renA1_undef (m : Nat → Nat)  : renA1 m (.undef) = (.undef) := rfl
@[go_sem] theorem renC_undef (m : Nat → Nat)  : renC m (.undef) = (.undef) := rfl
@[go_sem] theorem lowA_int (N : Nat) (k : IntKind) (n : Int) : lowA N (.int k n) = True := rfl
@[go_sem] theorem lowA1_int (N : Nat) (k : IntKind) (n : Int) : lowA1 N (.int k n) = True := rfl
@[go_sem] theorem lowC_int (N : Nat) (k : IntKind) (n : Int) : lowC N (.int k n) = True := rfl
@[go_sem] theorem lowC0_int (N : Nat) (k : IntKind) (n : Int) : lowC0 N (.int k n) = True := rfl
@[go_sem] theorem renA_int (m : Nat → Nat) (k : IntKind) (n : Int) : renA m (.int k n) = (.int k n) := rfl
@[go_sem] theorem renA1_int (m : Nat → Nat) (k : IntKind) (n : Int) : renA1 m (.int k n) = (.int k n) := rfl
@[go_sem] theorem renC_int (m : Nat → Nat) (k : IntKind) (n : Int) : renC m (.int k n) = (.int k n) := rfl
@[go_sem] theorem lowA_bool (N : Nat) (b : Bool) : lowA N (.bool b) = True := rfl
@[go_sem] theorem lowA1_bool (N : Nat) (b : Bool) : lowA1 N (.bool b) = True := rfl
@[go_sem] theorem lowC_bool (N : Nat) (b : Bool) : lowC N (.bool b) = True := rfl
@[go_sem] theorem lowC0_bool (N : Nat) (b : Bool) : lowC0 N (.bool b) = True := rfl
@[go_sem] theorem renA_bool (m : Nat → Nat) (b : Bool) : renA m (.bool b) = (.bool b) := rfl
@[go_sem] theorem renA1_bool (m : Nat → Nat) (b : Bool) : renA1 m (.bool b) = (.bool b) := rfl
@[go_sem] theorem renC_bool (m : Nat → Nat) (b : Bool) : renC m (.bool b) = (.bool b) := rfl
@[go_sem] theorem lowA_str (N : Nat) (s : ByteArray) : lowA N (.str s) = True := rfl
@[go_sem] theorem lowA1_str (N : Nat) (s : ByteArray) : lowA1 N (.str s) = True := rfl
@[go_sem] theorem lowC_str (N : Nat) (s : ByteArray) : lowC N (.str s) = True := rfl
@[go_sem] theorem lowC0_str (N : Nat) (s : ByteArray) : lowC0 N (.str s) = True := rfl
@[go_sem] theorem renA_str (m : Nat → Nat) (s : ByteArray) : renA m (.str s) = (.str s) := rfl
@[go_sem] theorem renA1_str (m : Nat → Nat) (s : ByteArray) : renA1 m (.str s) = (.str s) := rfl
@[go_sem] theorem renC_str (m : Nat → Nat) (s : ByteArray) : renC m (.str s) = (.str s) := rfl
@[go_sem] theorem lowA_nilp (N : Nat)  : lowA N (.nilp) = True := rfl
@[go_sem] theorem lowA1_nilp (N : Nat)  : lowA1 N (.nilp) = True := rfl
@[go_sem] theorem lowC_nilp (N : Nat)  : lowC N (.nilp) = True := rfl
@[go_sem] theorem lowC0_nilp (N : Nat)  : lowC0 N (.nilp) = True := rfl
@[go_sem] theorem renA_nilp (m : Nat → Nat)  : renA m (.nilp) = (.nilp) := rfl
@[go_sem] theorem renA1_nilp (m : Nat → Nat)  : renA1 m (.nilp) = (.nilp) := rfl
@[go_sem] theorem renC_nilp (m : Nat → Nat)  : renC m (.nilp) = (.nilp) := rfl
@[go_sem] theorem lowA_nilf (N : Nat)  : lowA N (.nilf) = True := rfl
@[go_sem] theorem lowA1_nilf (N : Nat)  : lowA1 N (.nilf) = True := rfl
@[go_sem] theorem lowC_nilf (N : Nat)  : lowC N (.nilf) = True := rfl
@[go_sem] theorem lowC0_nilf (N : Nat)  : lowC0 N (.nilf) = True := rfl
@[go_sem] theorem renA_nilf (m : Nat → Nat)  : renA m (.nilf) = (.nilf) := rfl
@[go_sem] theorem renA1_nilf (m : Nat → Nat)  : renA1 m (.nilf) = (.nilf) := rfl
@[go_sem] theorem renC_nilf (m : Nat → Nat)  : renC m (.nilf) = (.nilf) := rfl
@[go_sem] theorem lowA_vp (N : Nat) (id off : Nat) : lowA N (.vp id off) = (id < N) := rfl
@[go_sem] theorem lowA1_vp (N : Nat) (id off : Nat) : lowA1 N (.vp id off) = (id < N) := rfl
@[go_sem] theorem lowC_vp (N : Nat) (id off : Nat) : lowC N (.vp id off) = (id < N) := rfl
@[go_sem] theorem lowC0_vp (N : Nat) (id off : Nat) : lowC0 N (.vp id off) = (id < N) := rfl
@[go_sem] theorem renA_vp (m : Nat → Nat) (id off : Nat) : renA m (.vp id off) = .vp (m id) off := rfl
@[go_sem] theorem renA1_vp (m : Nat → Nat) (id off : Nat) : renA1 m (.vp id off) = .vp (m id) off := rfl
@[go_sem] theorem renC_vp (m : Nat → Nat) (id off : Nat) : renC m (.vp id off) = .vp (m id) off := rfl
@[go_sem] theorem lowA_rp (N : Nat) (id esz : Nat) (d : AV) (idx off : Nat) : lowA N (.rp id esz d idx off) = (id < N) := rfl
@[go_sem] theorem lowA1_rp (N : Nat) (id esz : Nat) (d : AV) (idx off : Nat) : lowA1 N (.rp id esz d idx off) = (id < N) := rfl
@[go_sem] theorem lowC_rp (N : Nat) (id esz : Nat) (d : AV) (idx off : Nat) : lowC N (.rp id esz d idx off) = (id < N) := rfl
@[go_sem] theorem lowC0_rp (N : Nat) (id esz : Nat) (d : AV) (idx off : Nat) : lowC0 N (.rp id esz d idx off) = (id < N) := rfl
@[go_sem] theorem renA_rp (m : Nat → Nat) (id esz : Nat) (d : AV) (idx off : Nat) : renA m (.rp id esz d idx off) = .rp (m id) esz d idx off := rfl
@[go_sem] theorem renA1_rp (m : Nat → Nat) (id esz : Nat) (d : AV) (idx off : Nat) : renA1 m (.rp id esz d idx off) = .rp (m id) esz d idx off := rfl
@[go_sem] theorem renC_rp (m : Nat → Nat) (id esz : Nat) (d : AV) (idx off : Nat) : renC m (.rp id esz d idx off) = .rp (m id) esz d idx off := rfl
@[go_sem] theorem lowA_tp (N : Nat) (esz : Nat) (xs : List AV) (d : AV) (idx off : Nat) : lowA N (.tp esz xs d idx off) = True := rfl
@[go_sem] theorem lowA1_tp (N : Nat) (esz : Nat) (xs : List AV) (d : AV) (idx off : Nat) : lowA1 N (.tp esz xs d idx off) = True := rfl
@[go_sem] theorem lowC_tp (N : Nat) (esz : Nat) (xs : List AV) (d : AV) (idx off : Nat) : lowC N (.tp esz xs d idx off) = True := rfl
@[go_sem] theorem lowC0_tp (N : Nat) (esz : Nat) (xs : List AV) (d : AV) (idx off : Nat) : lowC0 N (.tp esz xs d idx off) = True := rfl
@[go_sem] theorem renA_tp (m : Nat → Nat) (esz : Nat) (xs : List AV) (d : AV) (idx off : Nat) : renA m (.tp esz xs d idx off) = (.tp esz xs d idx off) := rfl
@[go_sem] theorem renA1_tp (m : Nat → Nat) (esz : Nat) (xs : List AV) (d : AV) (idx off : Nat) : renA1 m (.tp esz xs d idx off) = (.tp esz xs d idx off) := rfl
@[go_sem] theorem renC_tp (m : Nat → Nat) (esz : Nat) (xs : List AV) (d : AV) (idx off : Nat) : renC m (.tp esz xs d idx off) = (.tp esz xs d idx off) := rfl
@[go_sem] theorem lowA_sl (N : Nat) (id esz i0 len : Nat) : lowA N (.sl id esz i0 len) = (id < N) := rfl
@[go_sem] theorem lowA1_sl (N : Nat) (id esz i0 len : Nat) : lowA1 N (.sl id esz i0 len) = (id < N) := rfl
@[go_sem] theorem lowC_sl (N : Nat) (id esz i0 len : Nat) : lowC N (.sl id esz i0 len) = (id < N) := rfl
@[go_sem] theorem lowC0_sl (N : Nat) (id esz i0 len : Nat) : lowC0 N (.sl id esz i0 len) = (id < N) := rfl
@[go_sem] theorem renA_sl (m : Nat → Nat) (id esz i0 len : Nat) : renA m (.sl id esz i0 len) = .sl (m id) esz i0 len := rfl
@[go_sem] theorem renA1_sl (m : Nat → Nat) (id esz i0 len : Nat) : renA1 m (.sl id esz i0 len) = .sl (m id) esz i0 len := rfl
@[go_sem] theorem renC_sl (m : Nat → Nat) (id esz i0 len : Nat) : renC m (.sl id esz i0 len) = .sl (m id) esz i0 len := rfl
@[go_sem] theorem lowA_ts (N : Nat) (esz : Nat) (xs : List AV) : lowA N (.ts esz xs) = True := rfl
@[go_sem] theorem lowA1_ts (N : Nat) (esz : Nat) (xs : List AV) : lowA1 N (.ts esz xs) = True := rfl
@[go_sem] theorem lowC_ts (N : Nat) (esz : Nat) (xs : List AV) : lowC N (.ts esz xs) = True := rfl
@[go_sem] theorem lowC0_ts (N : Nat) (esz : Nat) (xs : List AV) : lowC0 N (.ts esz xs) = True := rfl
@[go_sem] theorem renA_ts (m : Nat → Nat) (esz : Nat) (xs : List AV) : renA m (.ts esz xs) = (.ts esz xs) := rfl
@[go_sem] theorem renA1_ts (m : Nat → Nat) (esz : Nat) (xs : List AV) : renA1 m (.ts esz xs) = (.ts esz xs) := rfl
@[go_sem] theorem renC_ts (m : Nat → Nat) (esz : Nat) (xs : List AV) : renC m (.ts esz xs) = (.ts esz xs) := rfl
@[go_sem] theorem lowA_nils (N : Nat)  : lowA N (.nils) = True := rfl
@[go_sem] theorem lowA1_nils (N : Nat)  : lowA1 N (.nils) = True := rfl
@[go_sem] theorem lowC_nils (N : Nat)  : lowC N (.nils) = True := rfl
@[go_sem] theorem lowC0_nils (N : Nat)  : lowC0 N (.nils) = True := rfl
@[go_sem] theorem renA_nils (m : Nat → Nat)  : renA m (.nils) = (.nils) := rfl
@[go_sem] theorem renA1_nils (m : Nat → Nat)  : renA1 m (.nils) = (.nils) := rfl
@[go_sem] theorem renC_nils (m : Nat → Nat)  : renC m (.nils) = (.nils) := rfl
@[go_sem] theorem lowA_fn (N : Nat) (f : FuncId) (caps : List AV) : lowA N (.fn f caps) = lowL0 N caps := lowL0_eq N caps
@[go_sem] theorem lowA1_fn (N : Nat) (f : FuncId) (caps : List AV) : lowA1 N (.fn f caps) = lowL0 N caps := lowL0_eq N caps
@[go_sem] theorem lowC_fn (N : Nat) (f : FuncId) (caps : List AV) : lowC N (.fn f caps) = lowL0 N caps := lowL0_eq N caps
@[go_sem] theorem lowC0_fn (N : Nat) (f : FuncId) (caps : List AV) : lowC0 N (.fn f caps) = (caps = []) := rfl
@[go_sem] theorem renA_fn (m : Nat → Nat) (f : FuncId) (caps : List AV) : renA m (.fn f caps) = .fn f (caps.map (renC0 m)) := rfl
@[go_sem] theorem renA1_fn (m : Nat → Nat) (f : FuncId) (caps : List AV) : renA1 m (.fn f caps) = .fn f (caps.map (renC0 m)) := rfl
@[go_sem] theorem renC_fn (m : Nat → Nat) (f : FuncId) (caps : List AV) : renC m (.fn f caps) = .fn f (caps.map (renC0 m)) := rfl
@[go_sem] theorem lowA_agg (N : Nat) (cs : List AV) : lowA N (.agg cs) = lowL N cs := lowL_eq N cs
@[go_sem] theorem lowA1_agg (N : Nat) (cs : List AV) : lowA1 N (.agg cs) = lowL N cs := lowL_eq N cs
@[go_sem] theorem lowC_agg (N : Nat) (cs : List AV) : lowC N (.agg cs) = False := rfl
@[go_sem] theorem lowC0_agg (N : Nat) (cs : List AV) : lowC0 N (.agg cs) = False := rfl
@[go_sem] theorem renA_agg (m : Nat → Nat) (cs : List AV) : renA m (.agg cs) = .agg (cs.map (renC m)) := rfl
@[go_sem] theorem renA1_agg (m : Nat → Nat) (cs : List AV) : renA1 m (.agg cs) = .agg (cs.map (renC m)) := rfl
@[go_sem] theorem renC_agg (m : Nat → Nat) (cs : List AV) : renC m (.agg cs) = (.agg cs) := rfl
@[go_sem] theorem lowA_tup (N : Nat) (vs : List AV) : lowA N (.tup vs) = lowL1 N vs := lowL1_eq N vs
@[go_sem] theorem lowA1_tup (N : Nat) (vs : List AV) : lowA1 N (.tup vs) = False := rfl
@[go_sem] theorem lowC_tup (N : Nat) (vs : List AV) : lowC N (.tup vs) = False := rfl
@[go_sem] theorem lowC0_tup (N : Nat) (vs : List AV) : lowC0 N (.tup vs) = False := rfl
@[go_sem] theorem renA_tup (m : Nat → Nat) (vs : List AV) : renA m (.tup vs) = .tup (vs.map (renA1 m)) := rfl
@[go_sem] theorem renA1_tup (m : Nat → Nat) (vs : List AV) : renA1 m (.tup vs) = (.tup vs) := rfl
@[go_sem] theorem renC_tup (m : Nat → Nat) (vs : List AV) : renC m (.tup vs) = (.tup vs) := rfl
@[go_sem] theorem renC0_undef (m : Nat → Nat)  : renC0 m (.undef) = (.undef) := rfl
@[go_sem] theorem renC0_int (m : Nat → Nat) (k : IntKind) (n : Int) : renC0 m (.int k n) = (.int k n) := rfl
@[go_sem] theorem renC0_bool (m : Nat → Nat) (b : Bool) : renC0 m (.bool b) = (.bool b) := rfl
@[go_sem] theorem renC0_str (m : Nat → Nat) (s : ByteArray) : renC0 m (.str s) = (.str s) := rfl
@[go_sem] theorem renC0_nilp (m : Nat → Nat)  : renC0 m (.nilp) = (.nilp) := rfl
@[go_sem] theorem renC0_nilf (m : Nat → Nat)  : renC0 m (.nilf) = (.nilf) := rfl
@[go_sem] theorem renC0_vp (m : Nat → Nat) (id off : Nat) : renC0 m (.vp id off) = .vp (m id) off := rfl
@[go_sem] theorem renC0_rp (m : Nat → Nat) (id esz : Nat) (d : AV) (idx off : Nat) : renC0 m (.rp id esz d idx off) = .rp (m id) esz d idx off := rfl
@[go_sem] theorem renC0_tp (m : Nat → Nat) (esz : Nat) (xs : List AV) (d : AV) (idx off : Nat) : renC0 m (.tp esz xs d idx off) = (.tp esz xs d idx off) := rfl
@[go_sem] theorem renC0_sl (m : Nat → Nat) (id esz i0 len : Nat) : renC0 m (.sl id esz i0 len) = .sl (m id) esz i0 len := rfl
@[go_sem] theorem renC0_ts (m : Nat → Nat) (esz : Nat) (xs : List AV) : renC0 m (.ts esz xs) = (.ts esz xs) := rfl
@[go_sem] theorem renC0_nils (m : Nat → Nat)  : renC0 m (.nils) = (.nils) := rfl
@[go_sem] theorem renC0_agg (m : Nat → Nat) (cs : List AV) : renC0 m (.agg cs) = (.agg cs) := rfl
@[go_sem] theorem renC0_tup (m : Nat → Nat) (vs : List AV) : renC0 m (.tup vs) = (.tup vs) := rfl
@[go_sem] theorem lowA_tsE (N esz : Nat) (xs : List AV) : lowA N (tsE esz xs) = True := by cases xs <;> rfl
@[go_sem] theorem lowA1_tsE (N esz : Nat) (xs : List AV) : lowA1 N (tsE esz xs) = True := by cases xs <;> rfl
@[go_sem] theorem lowC_tsE (N esz : Nat) (xs : List AV) : lowC N (tsE esz xs) = True := by cases xs <;> rfl
@[go_sem] theorem lowC0_tsE (N esz : Nat) (xs : List AV) : lowC0 N (tsE esz xs) = True := by cases xs <;> rfl
@[go_sem] theorem renA_tsE (m : Nat → Nat) (esz : Nat) (xs : List AV) : renA m (tsE esz xs) = tsE esz xs := by cases xs <;> rfl
@[go_sem] theorem renA1_tsE (m : Nat → Nat) (esz : Nat) (xs : List AV) : renA1 m (tsE esz xs) = tsE esz xs := by cases xs <;> rfl
@[go_sem] theorem renC_tsE (m : Nat → Nat) (esz : Nat) (xs : List AV) : renC m (tsE esz xs) = tsE esz xs := by cases xs <;> rfl
@[go_sem] theorem renC0_tsE (m : Nat → Nat) (esz : Nat) (xs : List AV) : renC0 m (tsE esz xs) = tsE esz xs := by cases xs <;> rfl
@[go_sem] theorem renO_var (m : Nat → Nat) (v : AV) : renO m (.var v) = .var (renA1 m v) := rfl
@[go_sem] theorem lowO_var (n : Nat) (v : AV) : lowO n (.var v) = lowA1 n v := rfl
attribute [go_sem] Bool.false_eq_true if_true if_false
end Go.AM
namespace Go.AM
theorem tdiv_cast {a : Int} {n : Int} (h : 0 ≤ a) (hn : 0 ≤ n) : a.tdiv n = a / n := Int.tdiv_eq_ediv_of_nonneg h
theorem tmod_cast {a : Int} {n : Int} (h : 0 ≤ a) (hn : 0 ≤ n) : a.tmod n = a % n := Int.tmod_eq_emod_of_nonneg h
end Go.AM
namespace Go.AM
attribute [go_sem] List.contains_cons List.contains_nil Bool.or_false Bool.false_or Bool.or_true Bool.true_or
end Go.AM
end
section
namespace Go.AM
def andI (k : IntKind) (a b : Int) : Int := k.wrap (BitVec.ofInt k.bits a &&& BitVec.ofInt k.bits b).toNat
def orI (k : IntKind) (a b : Int) : Int := k.wrap (BitVec.ofInt k.bits a ||| BitVec.ofInt k.bits b).toNat
def xorI (k : IntKind) (a b : Int) : Int := k.wrap (BitVec.ofInt k.bits a ^^^ BitVec.ofInt k.bits b).toNat
def andNotI (k : IntKind) (a b : Int) : Int := k.wrap (BitVec.ofInt k.bits a &&& ~~~ BitVec.ofInt k.bits b).toNat
def notI (k : IntKind) (n : Int) : Int := k.wrap (BitVec.ofInt k.bits (if k.signed then -1 else k.max) ^^^ BitVec.ofInt k.bits n).toNat
def shlI (k : IntKind) (a y : Int) : Int := k.wrap (a * 2 ^ min y.toNat k.bits)
def shrI (k : IntKind) (a y : Int) : Int := a.fdiv (2 ^ min y.toNat k.bits)
section
variable (k : IntKind) (a b : Int)
@[go_sem] theorem intOp_add : intOp .add k a b = some (True, .int k (k.wrap (a + b))) := rfl
@[go_sem] theorem intOp_sub : intOp .sub k a b = some (True, .int k (k.wrap (a - b))) := rfl
@[go_sem] theorem intOp_mul : intOp .mul k a b = some (True, .int k (k.wrap (a * b))) := rfl
@[go_sem] theorem intOp_quo : intOp .quo k a b = some (b ≠ 0, .int k (k.wrap (a.tdiv b))) := rfl
@[go_sem] theorem intOp_rem : intOp .rem k a b = some (b ≠ 0, .int k (a.tmod b)) := rfl
@[go_sem] theorem intOp_and : intOp .and k a b = some (True, .int k (andI k a b)) := rfl
@[go_sem] theorem intOp_or : intOp .or k a b = some (True, .int k (orI k a b)) := rfl
@[go_sem] theorem intOp_xor : intOp .xor k a b = some (True, .int k (xorI k a b)) := rfl
@[go_sem] theorem intOp_andNot : intOp .andNot k a b = some (True, .int k (andNotI k a b)) := rfl
@[go_sem] theorem intOp_eql : intOp .eql k a b = some (True, .bool (a == b)) := rfl
@[go_sem] theorem intOp_neq : intOp .neq k a b = some (True, .bool (a != b)) := rfl
@[go_sem] theorem intOp_lss : intOp .lss k a b = some (True, .bool (decide (a < b))) := rfl
@[go_sem] theorem intOp_leq : intOp .leq k a b = some (True, .bool (decide (a ≤ b))) := rfl
@[go_sem] theorem intOp_gtr : intOp .gtr k a b = some (True, .bool (decide (a > b))) := rfl
@[go_sem] theorem intOp_geq : intOp .geq k a b = some (True, .bool (decide (a ≥ b))) := rfl
@[go_sem] theorem shiftOp_shl : shiftOp .shl k a b = some (0 ≤ b, .int k (shlI k a b)) := rfl
@[go_sem] theorem shiftOp_shr : shiftOp .shr k a b = some (0 ≤ b, .int k (shrI k a b)) := rfl
@[go_sem] theorem unA_not (b : Bool) : unA .not (.bool b) = some (.bool (!b)) := rfl
@[go_sem] theorem unA_neg (n : Int) : unA .neg (.int k n) = some (.int k (k.wrap (0 - n))) := rfl
@[go_sem] theorem unA_xor (n : Int) : unA .xor (.int k n) = some (.int k (notI k n)) := rfl
end
section
variable (a b : UInt8)
theorem u8_lt : (a.toNat : Int) < 256 := by have := a.toNat_lt; omega
theorem u8_bv : BitVec.ofInt 8 (a.toNat : Int) = a.toBitVec := by
  apply BitVec.eq_of_toNat_eq
  show (BitVec.ofInt 8 (a.toNat : Int)).toNat = a.toNat
  rw [BitVec.toNat_ofInt]
  have := a.toNat_lt
  omega
@[go_sem] theorem u8_add : IntKind.u8.wrap (a.toNat + b.toNat) = (a + b).toNat := by rw [IntKind.wrap_u8, UInt8.toNat_add]; omega
@[go_sem] theorem u8_sub : IntKind.u8.wrap (a.toNat - b.toNat) = (a - b).toNat := by
  rw [IntKind.wrap_u8, UInt8.toNat_sub]; have := a.toNat_lt; have := b.toNat_lt; omega
@[go_sem] theorem u8_mul : IntKind.u8.wrap (a.toNat * b.toNat) = (a * b).toNat := by
  rw [IntKind.wrap_u8, UInt8.toNat_mul, ← Int.natCast_mul]; omega
@[go_sem] theorem u8_and : andI .u8 a.toNat b.toNat = (a &&& b).toNat := by
  show IntKind.u8.wrap (BitVec.ofInt 8 (a.toNat : Int) &&& BitVec.ofInt 8 (b.toNat : Int)).toNat = _
  rw [u8_bv, u8_bv, IntKind.wrap_u8]
  show ((a &&& b).toNat : Int) % 256 = _
  have := (a &&& b).toNat_lt; omega
@[go_sem] theorem u8_or : orI .u8 a.toNat b.toNat = (a ||| b).toNat := by
  show IntKind.u8.wrap (BitVec.ofInt 8 (a.toNat : Int) ||| BitVec.ofInt 8 (b.toNat : Int)).toNat = _
  rw [u8_bv, u8_bv, IntKind.wrap_u8]
  show ((a ||| b).toNat : Int) % 256 = _
  have := (a ||| b).toNat_lt; omega
@[go_sem] theorem u8_xor : xorI .u8 a.toNat b.toNat = (a ^^^ b).toNat := by
  show IntKind.u8.wrap (BitVec.ofInt 8 (a.toNat : Int) ^^^ BitVec.ofInt 8 (b.toNat : Int)).toNat = _
  rw [u8_bv, u8_bv, IntKind.wrap_u8]
  show ((a ^^^ b).toNat : Int) % 256 = _
  have := (a ^^^ b).toNat_lt; omega
@[go_sem] theorem u8_andNot : andNotI .u8 a.toNat b.toNat = (a &&& ~~~ b).toNat := by
  show IntKind.u8.wrap (BitVec.ofInt 8 (a.toNat : Int) &&& ~~~ BitVec.ofInt 8 (b.toNat : Int)).toNat = _
  rw [u8_bv, u8_bv, IntKind.wrap_u8]
  show ((a &&& ~~~ b).toNat : Int) % 256 = _
  have := (a &&& ~~~ b).toNat_lt; omega
theorem u8_shl {n : Nat} (h : n < 8) : shlI .u8 a.toNat n = (a <<< UInt8.ofNat n).toNat := by
  show IntKind.u8.wrap (a.toNat * 2 ^ min n 8) = _
  have e : min n 8 = n := by omega
  rw [e, IntKind.wrap_u8, UInt8.toNat_shiftLeft, UInt8.toNat_ofNat', Nat.shiftLeft_eq]
  rw [show n % 2 ^ 8 % 8 = n by omega]
  have : ((a.toNat : Int) * 2 ^ n) = ((a.toNat * 2 ^ n : Nat) : Int) := by simp
  rw [this]; omega
theorem u8_shr {n : Nat} (h : n < 8) : shrI .u8 a.toNat n = (a >>> UInt8.ofNat n).toNat := by
  show (a.toNat : Int).fdiv (2 ^ min n 8) = _
  have e : min n 8 = n := by omega
  rw [e, UInt8.toNat_shiftRight, UInt8.toNat_ofNat', Nat.shiftRight_eq_div_pow]
  rw [show n % 2 ^ 8 % 8 = n by omega]
  rw [Int.fdiv_eq_ediv_of_nonneg _ (by exact Int.pow_nonneg (by omega))]
  simp
@[go_sem] theorem u8_shlC {n : Nat} (h : n < 8) : shlI .u8 a.toNat (no_index (OfNat.ofNat n)) = (a <<< (OfNat.ofNat n : UInt8)).toNat := u8_shl a h
@[go_sem] theorem u8_shrC {n : Nat} (h : n < 8) : shrI .u8 a.toNat (no_index (OfNat.ofNat n)) = (a >>> (OfNat.ofNat n : UInt8)).toNat := u8_shr a h
@[go_sem] theorem u8_quo : IntKind.u8.wrap ((a.toNat : Int).tdiv b.toNat) = (a / b).toNat := by
  rw [Int.tdiv_eq_ediv_of_nonneg (by omega), IntKind.wrap_u8, UInt8.toNat_div]
  have h : a.toNat / b.toNat ≤ a.toNat := Nat.div_le_self _ _
  have := a.toNat_lt
  rw [← Int.natCast_ediv]
  generalize a.toNat / b.toNat = q at *
  omega
@[go_sem] theorem u8_rem : (a.toNat : Int).tmod b.toNat = (a % b).toNat := by
  rw [Int.tmod_eq_emod_of_nonneg (by omega), UInt8.toNat_mod]; simp
@[go_sem] theorem u8_eql : ((a.toNat : Int) == (b.toNat : Int)) = (a == b) := by
  rw [Bool.eq_iff_iff, beq_iff_eq, beq_iff_eq]; exact ⟨fun h => UInt8.toNat_inj.1 (by omega), fun h => by rw [h]⟩
@[go_sem] theorem u8_lss : decide ((a.toNat : Int) < (b.toNat : Int)) = decide (a < b) := by
  rw [decide_eq_decide, UInt8.lt_iff_toNat_lt]; omega
@[go_sem] theorem u8_leq : decide ((a.toNat : Int) ≤ (b.toNat : Int)) = decide (a ≤ b) := by
  rw [decide_eq_decide, UInt8.le_iff_toNat_le]; omega
@[go_sem] theorem u8_gtr : decide ((a.toNat : Int) > (b.toNat : Int)) = decide (b < a) := by
  rw [decide_eq_decide, UInt8.lt_iff_toNat_lt]; omega
@[go_sem] theorem u8_geq : decide ((a.toNat : Int) ≥ (b.toNat : Int)) = decide (b ≤ a) := by
  rw [decide_eq_decide, UInt8.le_iff_toNat_le]; omega
@[go_sem] theorem u8_neq : ((a.toNat : Int) != (b.toNat : Int)) = (a != b) := by
  rw [bne, u8_eql]; rfl
theorem u8_lit {n : Nat} (h : n < 256) : ((OfNat.ofNat n : Int)) = ((OfNat.ofNat n : UInt8).toNat : Int) := by
  show _ = ((UInt8.ofNat n).toNat : Int)
  rw [UInt8.toNat_ofNat', Nat.mod_eq_of_lt (show n < 2 ^ 8 by omega)]; rfl
@[go_sem] theorem u8_addC {n : Nat} (h : n < 256) : IntKind.u8.wrap (a.toNat + (no_index (OfNat.ofNat n))) = (a + (OfNat.ofNat n : UInt8)).toNat := by rw [u8_lit h, u8_add]
@[go_sem] theorem u8_addL {n : Nat} (h : n < 256) : IntKind.u8.wrap ((no_index (OfNat.ofNat n)) + a.toNat) = ((OfNat.ofNat n : UInt8) + a).toNat := by rw [u8_lit h, u8_add]
@[go_sem] theorem u8_subC {n : Nat} (h : n < 256) : IntKind.u8.wrap (a.toNat - (no_index (OfNat.ofNat n))) = (a - (OfNat.ofNat n : UInt8)).toNat := by rw [u8_lit h, u8_sub]
@[go_sem] theorem u8_subL {n : Nat} (h : n < 256) : IntKind.u8.wrap ((no_index (OfNat.ofNat n)) - a.toNat) = ((OfNat.ofNat n : UInt8) - a).toNat := by rw [u8_lit h, u8_sub]
@[go_sem] theorem u8_mulC {n : Nat} (h : n < 256) : IntKind.u8.wrap (a.toNat * (no_index (OfNat.ofNat n))) = (a * (OfNat.ofNat n : UInt8)).toNat := by rw [u8_lit h, u8_mul]
@[go_sem] theorem u8_mulL {n : Nat} (h : n < 256) : IntKind.u8.wrap ((no_index (OfNat.ofNat n)) * a.toNat) = ((OfNat.ofNat n : UInt8) * a).toNat := by rw [u8_lit h, u8_mul]
@[go_sem] theorem u8_andC {n : Nat} (h : n < 256) : andI .u8 a.toNat (no_index (OfNat.ofNat n)) = (a &&& (OfNat.ofNat n : UInt8)).toNat := by rw [u8_lit h, u8_and]
@[go_sem] theorem u8_andL {n : Nat} (h : n < 256) : andI .u8 (no_index (OfNat.ofNat n)) a.toNat = ((OfNat.ofNat n : UInt8) &&& a).toNat := by rw [u8_lit h, u8_and]
@[go_sem] theorem u8_orC {n : Nat} (h : n < 256) : orI .u8 a.toNat (no_index (OfNat.ofNat n)) = (a ||| (OfNat.ofNat n : UInt8)).toNat := by rw [u8_lit h, u8_or]
@[go_sem] theorem u8_orL {n : Nat} (h : n < 256) : orI .u8 (no_index (OfNat.ofNat n)) a.toNat = ((OfNat.ofNat n : UInt8) ||| a).toNat := by rw [u8_lit h, u8_or]
@[go_sem] theorem u8_xorC {n : Nat} (h : n < 256) : xorI .u8 a.toNat (no_index (OfNat.ofNat n)) = (a ^^^ (OfNat.ofNat n : UInt8)).toNat := by rw [u8_lit h, u8_xor]
@[go_sem] theorem u8_xorL {n : Nat} (h : n < 256) : xorI .u8 (no_index (OfNat.ofNat n)) a.toNat = ((OfNat.ofNat n : UInt8) ^^^ a).toNat := by rw [u8_lit h, u8_xor]
@[go_sem] theorem u8_quoC {n : Nat} (h : n < 256) : IntKind.u8.wrap ((a.toNat : Int).tdiv (no_index (OfNat.ofNat n))) = (a / (OfNat.ofNat n : UInt8)).toNat := by rw [u8_lit h, u8_quo]
@[go_sem] theorem u8_remC {n : Nat} (h : n < 256) : (a.toNat : Int).tmod (no_index (OfNat.ofNat n)) = (a % (OfNat.ofNat n : UInt8)).toNat := by rw [u8_lit h, u8_rem]
@[go_sem] theorem u8_eqlC {n : Nat} (h : n < 256) : ((a.toNat : Int) == (no_index (OfNat.ofNat n))) = (a == (OfNat.ofNat n : UInt8)) := by rw [u8_lit h, u8_eql]
@[go_sem] theorem u8_neqC {n : Nat} (h : n < 256) : ((a.toNat : Int) != (no_index (OfNat.ofNat n))) = (a != (OfNat.ofNat n : UInt8)) := by rw [u8_lit h, u8_neq]
@[go_sem] theorem u8_lssC {n : Nat} (h : n < 256) : decide ((a.toNat : Int) < (no_index (OfNat.ofNat n))) = decide (a < (OfNat.ofNat n : UInt8)) := by rw [u8_lit h, u8_lss]
@[go_sem] theorem u8_leqC {n : Nat} (h : n < 256) : decide ((a.toNat : Int) ≤ (no_index (OfNat.ofNat n))) = decide (a ≤ (OfNat.ofNat n : UInt8)) := by rw [u8_lit h, u8_leq]
@[go_sem] theorem u8_gtrC {n : Nat} (h : n < 256) : decide ((a.toNat : Int) > (no_index (OfNat.ofNat n))) = decide ((OfNat.ofNat n : UInt8) < a) := by rw [u8_lit h, u8_gtr]
@[go_sem] theorem u8_geqC {n : Nat} (h : n < 256) : decide ((a.toNat : Int) ≥ (no_index (OfNat.ofNat n))) = decide ((OfNat.ofNat n : UInt8) ≤ a) := by rw [u8_lit h, u8_geq]
@[go_sem] theorem u8_not : notI .u8 a.toNat = (~~~ a).toNat := by
  show IntKind.u8.wrap (BitVec.ofInt 8 (256 - 1) ^^^ BitVec.ofInt 8 (a.toNat : Int)).toNat = _
  rw [u8_bv, IntKind.wrap_u8]
  show ((BitVec.ofInt 8 (256 - 1) ^^^ a.toBitVec).toNat : Int) % 256 = _
  rw [show BitVec.ofInt 8 (256 - 1) = BitVec.allOnes 8 by decide, BitVec.allOnes_xor]
  show ((~~~ a).toNat : Int) % 256 = _
  have := (~~~ a).toNat_lt; omega
end
section
variable (a b : UInt32)
theorem u32_lt : (a.toNat : Int) < 4294967296 := by have := a.toNat_lt; omega
theorem u32_bv : BitVec.ofInt 32 (a.toNat : Int) = a.toBitVec := by
  apply BitVec.eq_of_toNat_eq
  show (BitVec.ofInt 32 (a.toNat : Int)).toNat = a.toNat
  rw [BitVec.toNat_ofInt]
  have := a.toNat_lt
  omega
@[go_sem] theorem u32_add : IntKind.u32.wrap (a.toNat + b.toNat) = (a + b).toNat := by rw [IntKind.wrap_u32, UInt32.toNat_add]; omega
@[go_sem] theorem u32_sub : IntKind.u32.wrap (a.toNat - b.toNat) = (a - b).toNat := by
  rw [IntKind.wrap_u32, UInt32.toNat_sub]; have := a.toNat_lt; have := b.toNat_lt; omega
@[go_sem] theorem u32_mul : IntKind.u32.wrap (a.toNat * b.toNat) = (a * b).toNat := by
  rw [IntKind.wrap_u32, UInt32.toNat_mul, ← Int.natCast_mul]; omega
@[go_sem] theorem u32_and : andI .u32 a.toNat b.toNat = (a &&& b).toNat := by
  show IntKind.u32.wrap (BitVec.ofInt 32 (a.toNat : Int) &&& BitVec.ofInt 32 (b.toNat : Int)).toNat = _
  rw [u32_bv, u32_bv, IntKind.wrap_u32]
  show ((a &&& b).toNat : Int) % 4294967296 = _
  have := (a &&& b).toNat_lt; omega
@[go_sem] theorem u32_or : orI .u32 a.toNat b.toNat = (a ||| b).toNat := by
  show IntKind.u32.wrap (BitVec.ofInt 32 (a.toNat : Int) ||| BitVec.ofInt 32 (b.toNat : Int)).toNat = _
  rw [u32_bv, u32_bv, IntKind.wrap_u32]
  show ((a ||| b).toNat : Int) % 4294967296 = _
  have := (a ||| b).toNat_lt; omega
@[go_sem] theorem u32_xor : xorI .u32 a.toNat b.toNat = (a ^^^ b).toNat := by
  show IntKind.u32.wrap (BitVec.ofInt 32 (a.toNat : Int) ^^^ BitVec.ofInt 32 (b.toNat : Int)).toNat = _
  rw [u32_bv, u32_bv, IntKind.wrap_u32]
  show ((a ^^^ b).toNat : Int) % 4294967296 = _
  have := (a ^^^ b).toNat_lt; omega
@[go_sem] theorem u32_andNot : andNotI .u32 a.toNat b.toNat = (a &&& ~~~ b).toNat := by
  show IntKind.u32.wrap (BitVec.ofInt 32 (a.toNat : Int) &&& ~~~ BitVec.ofInt 32 (b.toNat : Int)).toNat = _
  rw [u32_bv, u32_bv, IntKind.wrap_u32]
  show ((a &&& ~~~ b).toNat : Int) % 4294967296 = _
  have := (a &&& ~~~ b).toNat_lt; omega
theorem u32_shl {n : Nat} (h : n < 32) : shlI .u32 a.toNat n = (a <<< UInt32.ofNat n).toNat := by
  show IntKind.u32.wrap (a.toNat * 2 ^ min n 32) = _
  have e : min n 32 = n := by omega
  rw [e, IntKind.wrap_u32, UInt32.toNat_shiftLeft, UInt32.toNat_ofNat', Nat.shiftLeft_eq]
  rw [show n % 2 ^ 32 % 32 = n by omega]
  have : ((a.toNat : Int) * 2 ^ n) = ((a.toNat * 2 ^ n : Nat) : Int) := by simp
  rw [this]; omega
theorem u32_shr {n : Nat} (h : n < 32) : shrI .u32 a.toNat n = (a >>> UInt32.ofNat n).toNat := by
  show (a.toNat : Int).fdiv (2 ^ min n 32) = _
  have e : min n 32 = n := by omega
  rw [e, UInt32.toNat_shiftRight, UInt32.toNat_ofNat', Nat.shiftRight_eq_div_pow]
  rw [show n % 2 ^ 32 % 32 = n by omega]
  rw [Int.fdiv_eq_ediv_of_nonneg _ (by exact Int.pow_nonneg (by omega))]
  simp
@[go_sem] theorem u32_shlC {n : Nat} (h : n < 32) : shlI .u32 a.toNat (no_index (OfNat.ofNat n)) = (a <<< (OfNat.ofNat n : UInt32)).toNat := u32_shl a h
@[go_sem] theorem u32_shrC {n : Nat} (h : n < 32) : shrI .u32 a.toNat (no_index (OfNat.ofNat n)) = (a >>> (OfNat.ofNat n : UInt32)).toNat := u32_shr a h
@[go_sem] theorem u32_quo : IntKind.u32.wrap ((a.toNat : Int).tdiv b.toNat) = (a / b).toNat := by
  rw [Int.tdiv_eq_ediv_of_nonneg (by omega), IntKind.wrap_u32, UInt32.toNat_div]
  have h : a.toNat / b.toNat ≤ a.toNat := Nat.div_le_self _ _
  have := a.toNat_lt
  rw [← Int.natCast_ediv]
  generalize a.toNat / b.toNat = q at *
  omega
@[go_sem] theorem u32_rem : (a.toNat : Int).tmod b.toNat = (a % b).toNat := by
  rw [Int.tmod_eq_emod_of_nonneg (by omega), UInt32.toNat_mod]; simp
@[go_sem] theorem u32_eql : ((a.toNat : Int) == (b.toNat : Int)) = (a == b) := by
  rw [Bool.eq_iff_iff, beq_iff_eq, beq_iff_eq]; exact ⟨fun h => UInt32.toNat_inj.1 (by omega), fun h => by rw [h]⟩
@[go_sem] theorem u32_lss : decide ((a.toNat : Int) < (b.toNat : Int)) = decide (a < b) := by
  rw [decide_eq_decide, UInt32.lt_iff_toNat_lt]; omega
@[go_sem] theorem u32_leq : decide ((a.toNat : Int) ≤ (b.toNat : Int)) = decide (a ≤ b) := by
  rw [decide_eq_decide, UInt32.le_iff_toNat_le]; omega
@[go_sem] theorem u32_gtr : decide ((a.toNat : Int) > (b.toNat : Int)) = decide (b < a) := by
  rw [decide_eq_decide, UInt32.lt_iff_toNat_lt]; omega
@[go_sem] theorem u32_geq : decide ((a.toNat : Int) ≥ (b.toNat : Int)) = decide (b ≤ a) := by
  rw [decide_eq_decide, UInt32.le_iff_toNat_le]; omega
@[go_sem] theorem u32_neq : ((a.toNat : Int) != (b.toNat : Int)) = (a != b) := by
  rw [bne, u32_eql]; rfl
theorem u32_lit {n : Nat} (h : n < 4294967296) : ((OfNat.ofNat n : Int)) = ((OfNat.ofNat n : UInt32).toNat : Int) := by
  show _ = ((UInt32.ofNat n).toNat : Int)
  rw [UInt32.toNat_ofNat', Nat.mod_eq_of_lt (show n < 2 ^ 32 by omega)]; rfl
@[go_sem] theorem u32_addC {n : Nat} (h : n < 4294967296) : IntKind.u32.wrap (a.toNat + (no_index (OfNat.ofNat n))) = (a + (OfNat.ofNat n : UInt32)).toNat := by rw [u32_lit h, u32_add]
@[go_sem] theorem u32_addL {n : Nat} (h : n < 4294967296) : IntKind.u32.wrap ((no_index (OfNat.ofNat n)) + a.toNat) = ((OfNat.ofNat n : UInt32) + a).toNat := by rw [u32_lit h, u32_add]
@[go_sem] theorem u32_subC {n : Nat} (h : n < 4294967296) : IntKind.u32.wrap (a.toNat - (no_index (OfNat.ofNat n))) = (a - (OfNat.ofNat n : UInt32)).toNat := by rw [u32_lit h, u32_sub]
@[go_sem] theorem u32_subL {n : Nat} (h : n < 4294967296) : IntKind.u32.wrap ((no_index (OfNat.ofNat n)) - a.toNat) = ((OfNat.ofNat n : UInt32) - a).toNat := by rw [u32_lit h, u32_sub]
@[go_sem] theorem u32_mulC {n : Nat} (h : n < 4294967296) : IntKind.u32.wrap (a.toNat * (no_index (OfNat.ofNat n))) = (a * (OfNat.ofNat n : UInt32)).toNat := by rw [u32_lit h, u32_mul]
@[go_sem] theorem u32_mulL {n : Nat} (h : n < 4294967296) : IntKind.u32.wrap ((no_index (OfNat.ofNat n)) * a.toNat) = ((OfNat.ofNat n : UInt32) * a).toNat := by rw [u32_lit h, u32_mul]
@[go_sem] theorem u32_andC {n : Nat} (h : n < 4294967296) : andI .u32 a.toNat (no_index (OfNat.ofNat n)) = (a &&& (OfNat.ofNat n : UInt32)).toNat := by rw [u32_lit h, u32_and]
@[go_sem] theorem u32_andL {n : Nat} (h : n < 4294967296) : andI .u32 (no_index (OfNat.ofNat n)) a.toNat = ((OfNat.ofNat n : UInt32) &&& a).toNat := by rw [u32_lit h, u32_and]
@[go_sem] theorem u32_orC {n : Nat} (h : n < 4294967296) : orI .u32 a.toNat (no_index (OfNat.ofNat n)) = (a ||| (OfNat.ofNat n : UInt32)).toNat := by rw [u32_lit h, u32_or]
@[go_sem] theorem u32_orL {n : Nat} (h : n < 4294967296) : orI .u32 (no_index (OfNat.ofNat n)) a.toNat = ((OfNat.ofNat n : UInt32) ||| a).toNat := by rw [u32_lit h, u32_or]
@[go_sem] theorem u32_xorC {n : Nat} (h : n < 4294967296) : xorI .u32 a.toNat (no_index (OfNat.ofNat n)) = (a ^^^ (OfNat.ofNat n : UInt32)).toNat := by rw [u32_lit h, u32_xor]
@[go_sem] theorem u32_xorL {n : Nat} (h : n < 4294967296) : xorI .u32 (no_index (OfNat.ofNat n)) a.toNat = ((OfNat.ofNat n : UInt32) ^^^ a).toNat := by rw [u32_lit h, u32_xor]
@[go_sem] theorem u32_quoC {n : Nat} (h : n < 4294967296) : IntKind.u32.wrap ((a.toNat : Int).tdiv (no_index (OfNat.ofNat n))) = (a / (OfNat.ofNat n : UInt32)).toNat := by rw [u32_lit h, u32_quo]
@[go_sem] theorem u32_remC {n : Nat} (h : n < 4294967296) : (a.toNat : Int).tmod (no_index (OfNat.ofNat n)) = (a % (OfNat.ofNat n : UInt32)).toNat := by rw [u32_lit h, u32_rem]
@[go_sem] theorem u32_eqlC {n : Nat} (h : n < 4294967296) : ((a.toNat : Int) == (no_index (OfNat.ofNat n))) = (a == (OfNat.ofNat n : UInt32)) := by rw [u32_lit h, u32_eql]
@[go_sem] theorem u32_neqC {n : Nat} (h : n < 4294967296) : ((a.toNat : Int) != (no_index (OfNat.ofNat n))) = (a != (OfNat.ofNat n : UInt32)) := by rw [u32_lit h, u32_neq]
@[go_sem] theorem u32_lssC {n : Nat} (h : n < 4294967296) : decide ((a.toNat : Int) < (no_index (OfNat.ofNat n))) = decide (a < (OfNat.ofNat n : UInt32)) := by rw [u32_lit h, u32_lss]
@[go_sem] theorem u32_leqC {n : Nat} (h : n < 4294967296) : decide ((a.toNat : Int) ≤ (no_index (OfNat.ofNat n))) = decide (a ≤ (OfNat.ofNat n : UInt32)) := by rw [u32_lit h, u32_leq]
@[go_sem] theorem u32_gtrC {n : Nat} (h : n < 4294967296) : decide ((a.toNat : Int) > (no_index (OfNat.ofNat n))) = decide ((OfNat.ofNat n : UInt32) < a) := by rw [u32_lit h, u32_gtr]
@[go_sem] theorem u32_geqC {n : Nat} (h : n < 4294967296) : decide ((a.toNat : Int) ≥ (no_index (OfNat.ofNat n))) = decide ((OfNat.ofNat n : UInt32) ≤ a) := by rw [u32_lit h, u32_geq]
@[go_sem] theorem u32_not : notI .u32 a.toNat = (~~~ a).toNat := by
  show IntKind.u32.wrap (BitVec.ofInt 32 (4294967296 - 1) ^^^ BitVec.ofInt 32 (a.toNat : Int)).toNat = _
  rw [u32_bv, IntKind.wrap_u32]
  show ((BitVec.ofInt 32 (4294967296 - 1) ^^^ a.toBitVec).toNat : Int) % 4294967296 = _
  rw [show BitVec.ofInt 32 (4294967296 - 1) = BitVec.allOnes 32 by decide, BitVec.allOnes_xor]
  show ((~~~ a).toNat : Int) % 4294967296 = _
  have := (~~~ a).toNat_lt; omega
end
section
variable (a b : UInt64)
theorem u64_lt : (a.toNat : Int) < 18446744073709551616 := by have := a.toNat_lt; omega
theorem u64_bv : BitVec.ofInt 64 (a.toNat : Int) = a.toBitVec := by
  apply BitVec.eq_of_toNat_eq
  show (BitVec.ofInt 64 (a.toNat : Int)).toNat = a.toNat
  rw [BitVec.toNat_ofInt]
  have := a.toNat_lt
  omega
@[go_sem] theorem u64_add : IntKind.u64.wrap (a.toNat + b.toNat) = (a + b).toNat := by rw [IntKind.wrap_u64, UInt64.toNat_add]; omega
@[go_sem] theorem u64_sub : IntKind.u64.wrap (a.toNat - b.toNat) = (a - b).toNat := by
  rw [IntKind.wrap_u64, UInt64.toNat_sub]; have := a.toNat_lt; have := b.toNat_lt; omega
@[go_sem] theorem u64_mul : IntKind.u64.wrap (a.toNat * b.toNat) = (a * b).toNat := by
  rw [IntKind.wrap_u64, UInt64.toNat_mul, ← Int.natCast_mul]; omega
@[go_sem] theorem u64_and : andI .u64 a.toNat b.toNat = (a &&& b).toNat := by
  show IntKind.u64.wrap (BitVec.ofInt 64 (a.toNat : Int) &&& BitVec.ofInt 64 (b.toNat : Int)).toNat = _
  rw [u64_bv, u64_bv, IntKind.wrap_u64]
  show ((a &&& b).toNat : Int) % 18446744073709551616 = _
  have := (a &&& b).toNat_lt; omega
@[go_sem] theorem u64_or : orI .u64 a.toNat b.toNat = (a ||| b).toNat := by
  show IntKind.u64.wrap (BitVec.ofInt 64 (a.toNat : Int) ||| BitVec.ofInt 64 (b.toNat : Int)).toNat = _
  rw [u64_bv, u64_bv, IntKind.wrap_u64]
  show ((a ||| b).toNat : Int) % 18446744073709551616 = _
  have := (a ||| b).toNat_lt; omega
@[go_sem] theorem u64_xor : xorI .u64 a.toNat b.toNat = (a ^^^ b).toNat := by
  show IntKind.u64.wrap (BitVec.ofInt 64 (a.toNat : Int) ^^^ BitVec.ofInt 64 (b.toNat : Int)).toNat = _
  rw [u64_bv, u64_bv, IntKind.wrap_u64]
  show ((a ^^^ b).toNat : Int) % 18446744073709551616 = _
  have := (a ^^^ b).toNat_lt; omega
@[go_sem] theorem u64_andNot : andNotI .u64 a.toNat b.toNat = (a &&& ~~~ b).toNat := by
  show IntKind.u64.wrap (BitVec.ofInt 64 (a.toNat : Int) &&& ~~~ BitVec.ofInt 64 (b.toNat : Int)).toNat = _
  rw [u64_bv, u64_bv, IntKind.wrap_u64]
  show ((a &&& ~~~ b).toNat : Int) % 18446744073709551616 = _
  have := (a &&& ~~~ b).toNat_lt; omega
theorem u64_shl {n : Nat} (h : n < 64) : shlI .u64 a.toNat n = (a <<< UInt64.ofNat n).toNat := by
  show IntKind.u64.wrap (a.toNat * 2 ^ min n 64) = _
  have e : min n 64 = n := by omega
  rw [e, IntKind.wrap_u64, UInt64.toNat_shiftLeft, UInt64.toNat_ofNat', Nat.shiftLeft_eq]
  rw [show n % 2 ^ 64 % 64 = n by omega]
  have : ((a.toNat : Int) * 2 ^ n) = ((a.toNat * 2 ^ n : Nat) : Int) := by simp
  rw [this]; omega
theorem u64_shr {n : Nat} (h : n < 64) : shrI .u64 a.toNat n = (a >>> UInt64.ofNat n).toNat := by
  show (a.toNat : Int).fdiv (2 ^ min n 64) = _
  have e : min n 64 = n := by omega
  rw [e, UInt64.toNat_shiftRight, UInt64.toNat_ofNat', Nat.shiftRight_eq_div_pow]
  rw [show n % 2 ^ 64 % 64 = n by omega]
  rw [Int.fdiv_eq_ediv_of_nonneg _ (by exact Int.pow_nonneg (by omega))]
  simp
@[go_sem] theorem u64_shlC {n : Nat} (h : n < 64) : shlI .u64 a.toNat (no_index (OfNat.ofNat n)) = (a <<< (OfNat.ofNat n : UInt64)).toNat := u64_shl a h
@[go_sem] theorem u64_shrC {n : Nat} (h : n < 64) : shrI .u64 a.toNat (no_index (OfNat.ofNat n)) = (a >>> (OfNat.ofNat n : UInt64)).toNat := u64_shr a h
@[go_sem] theorem u64_quo : IntKind.u64.wrap ((a.toNat : Int).tdiv b.toNat) = (a / b).toNat := by
  rw [Int.tdiv_eq_ediv_of_nonneg (by omega), IntKind.wrap_u64, UInt64.toNat_div]
  have h : a.toNat / b.toNat ≤ a.toNat := Nat.div_le_self _ _
  have := a.toNat_lt
  rw [← Int.natCast_ediv]
  generalize a.toNat / b.toNat = q at *
  omega
@[go_sem] theorem u64_rem : (a.toNat : Int).tmod b.toNat = (a % b).toNat := by
  rw [Int.tmod_eq_emod_of_nonneg (by omega), UInt64.toNat_mod]; simp
@[go_sem] theorem u64_eql : ((a.toNat : Int) == (b.toNat : Int)) = (a == b) := by
  rw [Bool.eq_iff_iff, beq_iff_eq, beq_iff_eq]; exact ⟨fun h => UInt64.toNat_inj.1 (by omega), fun h => by rw [h]⟩
@[go_sem] theorem u64_lss : decide ((a.toNat : Int) < (b.toNat : Int)) = decide (a < b) := by
  rw [decide_eq_decide, UInt64.lt_iff_toNat_lt]; omega
@[go_sem] theorem u64_leq : decide ((a.toNat : Int) ≤ (b.toNat : Int)) = decide (a ≤ b) := by
  rw [decide_eq_decide, UInt64.le_iff_toNat_le]; omega
@[go_sem] theorem u64_gtr : decide ((a.toNat : Int) > (b.toNat : Int)) = decide (b < a) := by
  rw [decide_eq_decide, UInt64.lt_iff_toNat_lt]; omega
@[go_sem] theorem u64_geq : decide ((a.toNat : Int) ≥ (b.toNat : Int)) = decide (b ≤ a) := by
  rw [decide_eq_decide, UInt64.le_iff_toNat_le]; omega
@[go_sem] theorem u64_neq : ((a.toNat : Int) != (b.toNat : Int)) = (a != b) := by
  rw [bne, u64_eql]; rfl
theorem u64_lit {n : Nat} (h : n < 18446744073709551616) : ((OfNat.ofNat n : Int)) = ((OfNat.ofNat n : UInt64).toNat : Int) := by
  show _ = ((UInt64.ofNat n).toNat : Int)
  rw [UInt64.toNat_ofNat', Nat.mod_eq_of_lt (show n < 2 ^ 64 by omega)]; rfl
@[go_sem] theorem u64_addC {n : Nat} (h : n < 18446744073709551616) : IntKind.u64.wrap (a.toNat + (no_index (OfNat.ofNat n))) = (a + (OfNat.ofNat n : UInt64)).toNat := by rw [u64_lit h, u64_add]
@[go_sem] theorem u64_addL {n : Nat} (h : n < 18446744073709551616) : IntKind.u64.wrap ((no_index (OfNat.ofNat n)) + a.toNat) = ((OfNat.ofNat n : UInt64) + a).toNat := by rw [u64_lit h, u64_add]
@[go_sem] theorem u64_subC {n : Nat} (h : n < 18446744073709551616) : IntKind.u64.wrap (a.toNat - (no_index (OfNat.ofNat n))) = (a - (OfNat.ofNat n : UInt64)).toNat := by rw [u64_lit h, u64_sub]
@[go_sem] theorem u64_subL {n : Nat} (h : n < 18446744073709551616) : IntKind.u64.wrap ((no_index (OfNat.ofNat n)) - a.toNat) = ((OfNat.ofNat n : UInt64) - a).toNat := by rw [u64_lit h, u64_sub]
@[go_sem] theorem u64_mulC {n : Nat} (h : n < 18446744073709551616) : IntKind.u64.wrap (a.toNat * (no_index (OfNat.ofNat n))) = (a * (OfNat.ofNat n : UInt64)).toNat := by rw [u64_lit h, u64_mul]
@[go_sem] theorem u64_mulL {n : Nat} (h : n < 18446744073709551616) : IntKind.u64.wrap ((no_index (OfNat.ofNat n)) * a.toNat) = ((OfNat.ofNat n : UInt64) * a).toNat := by rw [u64_lit h, u64_mul]
@[go_sem] theorem u64_andC {n : Nat} (h : n < 18446744073709551616) : andI .u64 a.toNat (no_index (OfNat.ofNat n)) = (a &&& (OfNat.ofNat n : UInt64)).toNat := by rw [u64_lit h, u64_and]
@[go_sem] theorem u64_andL {n : Nat} (h : n < 18446744073709551616) : andI .u64 (no_index (OfNat.ofNat n)) a.toNat = ((OfNat.ofNat n : UInt64) &&& a).toNat := by rw [u64_lit h, u64_and]
@[go_sem] theorem u64_orC {n : Nat} (h : n < 18446744073709551616) : orI .u64 a.toNat (no_index (OfNat.ofNat n)) = (a ||| (OfNat.ofNat n : UInt64)).toNat := by rw [u64_lit h, u64_or]
@[go_sem] theorem u64_orL {n : Nat} (h : n < 18446744073709551616) : orI .u64 (no_index (OfNat.ofNat n)) a.toNat = ((OfNat.ofNat n : UInt64) ||| a).toNat := by rw [u64_lit h, u64_or]
@[go_sem] theorem u64_xorC {n : Nat} (h : n < 18446744073709551616) : xorI .u64 a.toNat (no_index (OfNat.ofNat n)) = (a ^^^ (OfNat.ofNat n : UInt64)).toNat := by rw [u64_lit h, u64_xor]
@[go_sem] theorem u64_xorL {n : Nat} (h : n < 18446744073709551616) : xorI .u64 (no_index (OfNat.ofNat n)) a.toNat = ((OfNat.ofNat n : UInt64) ^^^ a).toNat := by rw [u64_lit h, u64_xor]
@[go_sem] theorem u64_quoC {n : Nat} (h : n < 18446744073709551616) : IntKind.u64.wrap ((a.toNat : Int).tdiv (no_index (OfNat.ofNat n))) = (a / (OfNat.ofNat n : UInt64)).toNat := by rw [u64_lit h, u64_quo]
@[go_sem] theorem u64_remC {n : Nat} (h : n < 18446744073709551616) : (a.toNat : Int).tmod (no_index (OfNat.ofNat n)) = (a % (OfNat.ofNat n : UInt64)).toNat := by rw [u64_lit h, u64_rem]
@[go_sem] theorem u64_eqlC {n : Nat} (h : n < 18446744073709551616) : ((a.toNat : Int) == (no_index (OfNat.ofNat n))) = (a == (OfNat.ofNat n : UInt64)) := by rw [u64_lit h, u64_eql]
@[go_sem] theorem u64_neqC {n : Nat} (h : n < 18446744073709551616) : ((a.toNat : Int) != (no_index (OfNat.ofNat n))) = (a != (OfNat.ofNat n : UInt64)) := by rw [u64_lit h, u64_neq]
@[go_sem] theorem u64_lssC {n : Nat} (h : n < 18446744073709551616) : decide ((a.toNat : Int) < (no_index (OfNat.ofNat n))) = decide (a < (OfNat.ofNat n : UInt64)) := by rw [u64_lit h, u64_lss]
@[go_sem] theorem u64_leqC {n : Nat} (h : n < 18446744073709551616) : decide ((a.toNat : Int) ≤ (no_index (OfNat.ofNat n))) = decide (a ≤ (OfNat.ofNat n : UInt64)) := by rw [u64_lit h, u64_leq]
@[go_sem] theorem u64_gtrC {n : Nat} (h : n < 18446744073709551616) : decide ((a.toNat : Int) > (no_index (OfNat.ofNat n))) = decide ((OfNat.ofNat n : UInt64) < a) := by rw [u64_lit h, u64_gtr]
@[go_sem] theorem u64_geqC {n : Nat} (h : n < 18446744073709551616) : decide ((a.toNat : Int) ≥ (no_index (OfNat.ofNat n))) = decide ((OfNat.ofNat n : UInt64) ≤ a) := by rw [u64_lit h, u64_geq]
@[go_sem] theorem u64_not : notI .u64 a.toNat = (~~~ a).toNat := by
  show IntKind.u64.wrap (BitVec.ofInt 64 (18446744073709551616 - 1) ^^^ BitVec.ofInt 64 (a.toNat : Int)).toNat = _
  rw [u64_bv, IntKind.wrap_u64]
  show ((BitVec.ofInt 64 (18446744073709551616 - 1) ^^^ a.toBitVec).toNat : Int) % 18446744073709551616 = _
  rw [show BitVec.ofInt 64 (18446744073709551616 - 1) = BitVec.allOnes 64 by decide, BitVec.allOnes_xor]
  show ((~~~ a).toNat : Int) % 18446744073709551616 = _
  have := (~~~ a).toNat_lt; omega
end
@[go_sem] theorem u8_self (a : UInt8) : IntKind.u8.wrap a.toNat = a.toNat := by rw [IntKind.wrap_u8]; have := a.toNat_lt; omega
@[go_sem] theorem u8_u32 (a : UInt8) : IntKind.u32.wrap a.toNat = a.toUInt32.toNat := by rw [IntKind.wrap_u32]; have := a.toNat_lt; simp <;> omega
@[go_sem] theorem u8_u64 (a : UInt8) : IntKind.u64.wrap a.toNat = a.toUInt64.toNat := by rw [IntKind.wrap_u64]; have := a.toNat_lt; simp <;> omega
@[go_sem] theorem u32_u8 (a : UInt32) : IntKind.u8.wrap a.toNat = a.toUInt8.toNat := by rw [IntKind.wrap_u8]; have := a.toNat_lt; simp <;> omega
@[go_sem] theorem u32_self (a : UInt32) : IntKind.u32.wrap a.toNat = a.toNat := by rw [IntKind.wrap_u32]; have := a.toNat_lt; omega
@[go_sem] theorem u32_u64 (a : UInt32) : IntKind.u64.wrap a.toNat = a.toUInt64.toNat := by rw [IntKind.wrap_u64]; have := a.toNat_lt; simp <;> omega
@[go_sem] theorem u64_u8 (a : UInt64) : IntKind.u8.wrap a.toNat = a.toUInt8.toNat := by rw [IntKind.wrap_u8]; have := a.toNat_lt; simp <;> omega
@[go_sem] theorem u64_u32 (a : UInt64) : IntKind.u32.wrap a.toNat = a.toUInt32.toNat := by rw [IntKind.wrap_u32]; have := a.toNat_lt; simp <;> omega
@[go_sem] theorem u64_self (a : UInt64) : IntKind.u64.wrap a.toNat = a.toNat := by rw [IntKind.wrap_u64]; have := a.toNat_lt; omega
end Go.AM
end
section
namespace Go.AM
def setL : List Ob → List Nat → List Ob → List Ob
  | σ, [], _ => σ
  | σ, _ :: _, [] => σ
  | σ, m :: ms, o :: os => setL (σ.set m o) ms os
def mapN (ms : List Nat) (n : Nat) (i : Nat) : Nat := if i < ms.length then mapL ms i else n + (i - ms.length)
def merge (σ : List Ob) (ms : List Nat) (σ' : List Ob) : List Ob := setL σ ms (σ'.map (renO (mapN ms σ.length))) ++ (σ'.drop ms.length).map (renO (mapN ms σ.length))
theorem setL_length : ∀ (ms : List Nat) (os : List Ob) (σ : List Ob), (setL σ ms os).length = σ.length := by
  intro ms
  induction ms with
  | nil => intro os σ; cases os <;> rfl
  | cons m ms ih => intro os σ; cases os with | nil => rfl | cons o os => simp [setL, ih]
theorem getO_set {σ : List Ob} {m id : Nat} {o : Ob} : getO (σ.set m o) id = if m = id ∧ m < σ.length then o else getO σ id := by
  simp only [getO, List.getD, List.getElem?_set]
  by_cases h : m = id
  · subst h
    by_cases h2 : m < σ.length
    · simp [h2]
    · simp [h2]
  · simp [h]
theorem setL_out : ∀ (ms : List Nat) (os : List Ob) (σ : List Ob) (id : Nat), id ∉ ms → getO (setL σ ms os) id = getO σ id := by
  intro ms
  induction ms with
  | nil => intro os σ id _; cases os <;> rfl
  | cons m ms ih =>
    intro os σ id h
    simp only [List.mem_cons, not_or] at h
    cases os with
    | nil => rfl
    | cons o os => simp only [setL]; rw [ih _ _ _ h.2, getO_set, if_neg (fun h2 => h.1 h2.1.symm)]
theorem setL_in : ∀ (ms : List Nat) (os : List Ob) (σ : List Ob) (i : Nat), ms.Nodup → (∀ m ∈ ms, m < σ.length) → i < ms.length → i < os.length → getO (setL σ ms os) (mapL ms i) = os.getD i .none := by
  intro ms
  induction ms with
  | nil => intro os σ i _ _ h _; simp at h
  | cons m ms ih =>
    intro os σ i hn hm hi ho
    cases os with
    | nil => simp at ho
    | cons o os =>
      simp only [List.nodup_cons] at hn
      simp only [setL]
      cases i with
      | zero =>
        show getO _ m = o
        rw [setL_out _ _ _ _ hn.1, getO_set, if_pos ⟨rfl, hm m (by simp)⟩]
      | succ i =>
        show getO _ (mapL ms i) = os.getD i .none
        exact ih os _ i hn.2 (fun k hk => by rw [List.length_set]; exact hm k (by simp [hk])) (by simpa using hi) (by simpa using ho)
section
variable {w : World} {Fz : Nat → Prop} {ρ ρ0 : Nat → Nat × Nat} {n n0 : Nat} {m : Nat → Nat}
theorem VC.fwd0 {v : Value} {d : AV} (hρ : ∀ i, i < n0 → ρ (m i) = ρ0 i ∧ m i < n) (h : VC w Fz ρ0 n0 v d) : VC w Fz ρ n v (renC0 m d) := by
  have ho := h.one
  cases h with
  | cr hc =>
    cases hc with
    | @fn f vs caps h1 h2 =>
      cases caps with
      | nil => exact .cr (.fn h1 h2)
      | cons c r => exact .cr (.undef _ ho)
    | _ => exact .cr (by constructor <;> assumption)
  | vp id off hi => have := hρ id hi; rw [← this.1]; exact .vp _ _ this.2
  | rp id esz d idx off hi => have := hρ id hi; rw [← this.1]; exact .rp _ _ _ _ _ this.2
  | sl0 o id esz i0 hi => exact .sl0 _ _ _ _ (hρ id hi).2
  | sl id esz i0 len cap hi hc hk hs => have := hρ id hi; rw [← this.1] at hk hs ⊢; exact .sl _ _ _ _ _ this.2 hc hk hs
  | nils o => exact .nils o
  | @fn f vs caps h1 h2 =>
    cases caps with
    | nil => exact .fn h1 (fun j hj => absurd hj (by simp))
    | cons c r => exact .cr (.undef _ ho)
theorem VC.fwd {v : Value} {d : AV} (hρ : ∀ i, i < n0 → ρ (m i) = ρ0 i ∧ m i < n) (h : VC w Fz ρ0 n0 v d) : VC w Fz ρ n v (renC m d) := by
  by_cases hf : ∃ f caps, d = .fn f caps
  · obtain ⟨f, caps, rfl⟩ := hf
    have key : ∃ vs : Array Value, v = .func (.func f) #[] vs ∧ vs.size = caps.length ∧ ∀ j, j < caps.length → VC w Fz ρ0 n0 (vs.getD j .nilIface) (caps.getD j .undef) := by
      cases h with
      | cr hc => cases hc with | fn h1 h2 => exact ⟨_, rfl, h1, fun j hj => .cr (h2 j hj)⟩
      | fn h1 h2 => exact ⟨_, rfl, h1, h2⟩
    obtain ⟨vs, rfl, h1, h2⟩ := key
    refine .fn (by simpa using h1) (fun j hj => ?_)
    have hj' : j < caps.length := by simpa using hj
    have e : (caps.map (renC0 m)).getD j .undef = renC0 m (caps.getD j .undef) := by simp [List.getD, hj']
    rw [e]
    exact (h2 j hj').fwd0 hρ
  · have e : renC m d = renC0 m d := by cases d <;> first | rfl | exact absurd ⟨_, _, rfl⟩ hf
    rw [e]; exact h.fwd0 hρ
theorem V1.fwd {v : Value} {d : AV} (hρ : ∀ i, i < n0 → ρ (m i) = ρ0 i ∧ m i < n) (h : V1 w Fz ρ0 n0 v d) : V1 w Fz ρ n v (renA1 m d) := by
  by_cases ha : ∃ cs, d = .agg cs
  · obtain ⟨cs, rfl⟩ := ha
    obtain ⟨arr, e, hs, hj⟩ := h
    refine ⟨arr, e, by simpa using hs, fun j hjl => ?_⟩
    have hjl' : j < cs.length := by simpa using hjl
    have e : (cs.map (renC m)).getD j .undef = renC m (cs.getD j .undef) := by simp [List.getD, hjl']
    rw [e]; exact (hj j hjl').fwd hρ
  · have hna : ∀ cs, d ≠ .agg cs := fun cs e => ha ⟨cs, e⟩
    have e : renA1 m d = renC m d := by cases d <;> first | rfl | exact absurd rfl (hna _)
    rw [e]
    by_cases hu : d = .undef
    · subst hu; exact trivial
    · exact V1.of_VC ((h.to_VC hna hu).fwd hρ)
theorem VR.fwd {v : Value} {d : AV} (hρ : ∀ i, i < n0 → ρ (m i) = ρ0 i ∧ m i < n) (h : VR w Fz ρ0 n0 v d) : VR w Fz ρ n v (renA m d) := by
  by_cases ht : ∃ vs, d = .tup vs
  · obtain ⟨vs, rfl⟩ := ht
    obtain ⟨arr, e, hs, hj⟩ := h
    refine ⟨arr, e, by simpa using hs, fun j hjl => ?_⟩
    have hjl' : j < vs.length := by simpa using hjl
    have e : (vs.map (renA1 m)).getD j .undef = renA1 m (vs.getD j .undef) := by simp [List.getD, hjl']
    rw [e]; exact (hj j hjl').fwd hρ
  · have hnt : ∀ vs, d ≠ .tup vs := fun vs e => ht ⟨vs, e⟩
    have e : renA m d = renA1 m d := by cases d <;> first | rfl | exact absurd rfl (hnt _)
    rw [e]
    exact VR.of1 ((h.to1 hnt).fwd hρ)
theorem okStore_ren' {v : AV} (h : okStore v = true) : okStore (renA1 m v) = true := by
  cases v with
  | fn f caps => rfl
  | _ => first | exact h | rfl
theorem ObR.fwd {b : Nat × Nat} {o : Ob} (hρ : ∀ i, i < n0 → ρ (m i) = ρ0 i ∧ m i < n) (h : ObR w Fz ρ0 n0 b o) : ObR w Fz ρ n b (renO m o) := by
  cases o with
  | none => trivial
  | row l e xs => exact h
  | var v =>
    obtain ⟨arr, e, fr, k1, k2, k3, k4, k5, k6⟩ := h
    refine ⟨arr, e, fr, k1, k2, k3, by rw [cellsOf_ren, List.length_map]; exact k4, okStore_ren' k5, fun j hj => ?_⟩
    rw [cellsOf_ren, List.length_map] at hj
    rw [cellsOf_ren]
    have e1 : ((cellsOf v).map (renC m)).getD j .undef = renC m ((cellsOf v).getD j .undef) := by simp [List.getD, hj]
    rw [e1]; exact (k6 j hj).fwd hρ
end
theorem wr_renO {m : Nat → Nat} {o : Ob} : wr (renO m o) = wr o := by cases o <;> rfl
theorem some_renO {m : Nat → Nat} {o : Ob} : some' (renO m o) = some' o := by cases o <;> rfl
theorem merge_length (σ : List Ob) (ms : List Nat) (σ' : List Ob) : (merge σ ms σ').length = σ.length + (σ'.length - ms.length) := by simp [merge, setL_length]
theorem merge_in {σ : List Ob} {ms : List Nat} {σ' : List Ob} (hn : ms.Nodup) (hm : ∀ k ∈ ms, k < σ.length) (hl : ms.length ≤ σ'.length) {i : Nat} (hi : i < σ'.length) : getO (merge σ ms σ') (mapN ms σ.length i) = renO (mapN ms σ.length) (getO σ' i) := by
  have e : ∀ i, i < σ'.length → (σ'.map (renO (mapN ms σ.length))).getD i .none = renO (mapN ms σ.length) (getO σ' i) := fun i hi => by simp [List.getD, getO, hi]
  by_cases h : i < ms.length
  · have h1 : mapN ms σ.length i = mapL ms i := by simp [mapN, h]
    rw [h1]
    have h2 : mapL ms i < σ.length := hm _ (by simp [mapL, List.getD, h])
    have h3 : getO (merge σ ms σ') (mapL ms i) = getO (setL σ ms (σ'.map (renO (mapN ms σ.length)))) (mapL ms i) := by
      simp only [merge, getO, List.getD]
      rw [List.getElem?_append_left (by rw [setL_length]; exact h2)]
    rw [h3, setL_in ms _ σ i hn hm h (by simpa using hi), e i hi]
  · have h1 : mapN ms σ.length i = σ.length + (i - ms.length) := by simp [mapN, h]
    rw [h1, ← e i hi]
    simp only [merge, getO, List.getD]
    rw [List.getElem?_append_right (by rw [setL_length]; omega), setL_length]
    simp only [List.getElem?_map, List.getElem?_drop]
    rw [show ms.length + (σ.length + (i - ms.length) - σ.length) = i by omega]
theorem merge_out {σ : List Ob} {ms : List Nat} {σ' : List Ob} {id : Nat} (h : id < σ.length) (hid : id ∉ ms) : getO (merge σ ms σ') id = getO σ id := by
  have h3 : getO (merge σ ms σ') id = getO (setL σ ms (σ'.map (renO (mapN ms σ.length)))) id := by
    simp only [merge, getO, List.getD]
    rw [List.getElem?_append_left (by rw [setL_length]; exact h)]
  rw [h3, setL_out _ _ _ _ hid]
def ObsFit' (m : Nat → Nat) (n : Nat) (σ : List Ob) : Nat → List Ob → Prop
  | _, [] => True
  | i, o :: r => (match o with | .none => False | .var v => getO σ (m i) = renO m (.var v) ∧ lowO n (.var v) | .row l e xs => getO σ (m i) = .row l e xs) ∧ ObsFit' m n σ (i + 1) r
theorem obsFit'_get {m n σ} : ∀ {l : List Ob} {k : Nat}, ObsFit' m n σ k l → ∀ i, i < l.length → some' (l.getD i .none) = true ∧ getO σ (m (k + i)) = renO m (l.getD i .none) ∧ lowO n (l.getD i .none) := by
  intro l
  induction l with
  | nil => intro k _ i hi; simp at hi
  | cons o r ih =>
    intro k h i hi
    cases i with
    | zero =>
      cases o with
      | none => exact h.1.elim
      | var v => exact ⟨rfl, h.1.1, h.1.2⟩
      | row l e xs => exact ⟨rfl, h.1, trivial⟩
    | succ i =>
      have := ih h.2 i (by simpa using hi)
      rw [show k + (i + 1) = k + 1 + i by omega]
      exact this
section
variable {P : Program} {f : FuncId} {σ σ0 : List Ob} {ms : List Nat}
theorem does_at {as as0 : List AV} {R0 : AV → List Ob → Prop} (h : Does P f as0 σ0 R0) (hl : ms.length = σ0.length) (hn : ms.Nodup) (ho : ObsFit' (mapL ms) σ0.length σ 0 σ0)
    (hlen : as.length = as0.length) (ha : ∀ j, j < as0.length → ∀ (w : World) Fz ρ v, VR w Fz ρ σ.length v (as.getD j .undef) → VR w Fz (fun i => ρ (mapL ms i)) σ0.length v (as0.getD j .undef)) :
    Does P f as σ (fun v σ' => ∃ v0 σ0', R0 v0 σ0' ∧ v = renA (mapN ms σ.length) v0 ∧ σ' = merge σ ms σ0') := by
  have hob : ∀ i, i < σ0.length → some' (getO σ0 i) = true ∧ getO σ (mapL ms i) = renO (mapL ms) (getO σ0 i) ∧ lowO σ0.length (getO σ0 i) := fun i hi => by
    have := obsFit'_get ho i hi
    rw [Nat.zero_add] at this
    exact this
  have hmem : ∀ k ∈ ms, ∃ i, i < σ0.length ∧ mapL ms i = k := fun k hk => by
    obtain ⟨i, hi, rfl⟩ := List.mem_iff_getElem.1 hk
    exact ⟨i, hl ▸ hi, by simp [mapL, List.getD, hi]⟩
  have hin : ∀ i, i < σ0.length → mapL ms i ∈ ms := fun i hi => by simp [mapL, List.getD, hl ▸ hi]
  have hlt : ∀ k ∈ ms, k < σ.length := fun k hk => by
    obtain ⟨i, hi, rfl⟩ := hmem k hk
    obtain ⟨h1, h2, _⟩ := hob i hi
    exact getO_lt (by rw [h2, some_renO]; exact h1)
  have hinj : ∀ i j, i < σ0.length → j < σ0.length → i ≠ j → mapL ms i ≠ mapL ms j := fun i j hi hj hne he => by
    simp only [mapL, List.getD, List.getElem?_eq_getElem (hl ▸ hi), List.getElem?_eq_getElem (hl ▸ hj), Option.getD_some] at he
    exact hne ((List.getElem_inj hn).1 he)
  have hwr : ∀ i, wr (getO σ0 i) = true → wr (getO σ (mapL ms i)) = true := fun i hw => by
    rw [(hob i (getO_lt (wr_some hw))).2.1, wr_renO]; exact hw
  refine ⟨h.1, fun w Fz ρ vs hr hsz hvs => ?_⟩
  have F : Fits 0 (mapL ms) ⟨[], σ⟩ ⟨[], σ0⟩ := ⟨fun i hi => absurd hi (Nat.not_lt_zero _), Nat.zero_le _, fun t => .inl rfl, fun i hi => .inr (hob i hi).2, fun i j hne hw hs => hinj i j (getO_lt (wr_some hw)) (getO_lt hs) hne⟩
  have r0 : Rel Fz (fun i => ρ (mapL ms i)) σ0 w := F.rel (s := ⟨[], σ⟩) (s1 := ⟨[], σ0⟩) hr
  refine (h.2 w Fz _ vs r0 (by omega) (fun j hj => ha j hj w Fz ρ _ (hvs j (by omega)))).mono ?_
  rintro e w' ⟨v, r, σ0', Fz', ρ0', rfl, hR, hv, hr', hx⟩
  have hlen' : ms.length ≤ σ0'.length := by rw [hl]; exact hx.len
  let ρ' : Nat → Nat × Nat := fun id => if id < σ.length then ρ id else ρ0' (ms.length + (id - σ.length))
  have hρ' : ∀ i, i < σ0'.length → ρ' (mapN ms σ.length i) = ρ0' i ∧ mapN ms σ.length i < (merge σ ms σ0').length := fun i hi => by
    rw [merge_length]
    by_cases h1 : i < ms.length
    · have h2 : mapN ms σ.length i = mapL ms i := by simp [mapN, h1]
      have h3 := hlt _ (hin i (hl ▸ h1))
      refine ⟨?_, by rw [h2]; omega⟩
      rw [h2]
      simp only [ρ', if_pos h3]
      exact (hx.rho i (hl ▸ h1)).symm
    · have h2 : mapN ms σ.length i = σ.length + (i - ms.length) := by simp [mapN, h1]
      refine ⟨?_, by rw [h2]; omega⟩
      rw [h2]
      simp only [ρ', if_neg (show ¬ σ.length + (i - ms.length) < σ.length by omega)]
      congr 1
      omega
  have hkind : ∀ id, some' (getO (merge σ ms σ0') id) = true → (∃ i, i < σ0'.length ∧ id = mapN ms σ.length i ∧ getO (merge σ ms σ0') id = renO (mapN ms σ.length) (getO σ0' i)) ∨ (id < σ.length ∧ id ∉ ms ∧ getO (merge σ ms σ0') id = getO σ id) := fun id hs => by
    have h1 := getO_lt hs
    rw [merge_length] at h1
    by_cases hid : id ∈ ms
    · obtain ⟨i, hi, rfl⟩ := hmem id hid
      have h2 : mapN ms σ.length i = mapL ms i := by simp [mapN, hl ▸ hi]
      exact .inl ⟨i, by omega, h2.symm, by rw [← h2]; exact merge_in hn hlt hlen' (by omega)⟩
    · by_cases h2 : id < σ.length
      · exact .inr ⟨h2, hid, merge_out h2 hid⟩
      · have h3 : mapN ms σ.length (ms.length + (id - σ.length)) = id := by unfold mapN; rw [if_neg (by omega)]; omega
        refine .inl ⟨ms.length + (id - σ.length), by omega, h3.symm, ?_⟩
        have := merge_in hn hlt hlen' (i := ms.length + (id - σ.length)) (by omega)
        rwa [h3] at this
  have hblk : ∀ id, some' (getO σ id) = true → (ρ id).1 < w.heap.size := fun id hs => by
    have hob := hr.ob id
    cases hq : getO σ id with
    | none => rw [hq] at hs; cases hs
    | var v => rw [hq] at hob; obtain ⟨arr, _, _, h1, _⟩ := hob; exact (Array.getElem?_eq_some_iff.1 h1).1
    | row l z xs => rw [hq] at hob; obtain ⟨arr, _, _, h1, _⟩ := hob; exact (Array.getElem?_eq_some_iff.1 h1).1
  have hother : ∀ id, id < σ.length → id ∉ ms → some' (getO σ id) = true → ∀ i, wr (getO σ0 i) = true → (ρ id).1 ≠ (ρ (mapL ms i)).1 := fun id hi hid hs i hw =>
    hr.sep (mapL ms i) id (fun e => hid (e ▸ hin i (getO_lt (wr_some hw)))) (hwr i hw) hs
  have hxx : Ext Fz ρ σ w Fz' ρ' (merge σ ms σ0') w' :=
    { os := hx.os, tape := hx.tape, output := hx.output, size := hx.size
      len := by rw [merge_length]; omega
      rho := fun id hi => by simp only [ρ', if_pos hi]
      fz := hx.fz
      fznew := fun b hb => (hx.fznew b hb).imp (fun y => y) (Or.imp (fun y => y) fun ⟨i, _, h2, h3⟩ => ⟨mapL ms i, hlt _ (hin i (getO_lt (wr_some h2))), hwr i h2, h3⟩)
      wrold := fun id hi hw => by
        rcases hkind id (wr_some hw) with ⟨i, h1, h2, h3⟩ | ⟨_, _, h3⟩
        · rw [h3, wr_renO] at hw
          by_cases hi2 : i < ms.length
          · have h4 : mapN ms σ.length i = mapL ms i := by simp [mapN, hi2]
            rw [h2, h4]
            exact hwr i (hx.wrold i (hl ▸ hi2) hw)
          · have h4 : mapN ms σ.length i = σ.length + (i - ms.length) := by simp [mapN, hi2]
            omega
        · rw [h3] at hw; exact hw
      wrnew := fun id hi hw => by
        rcases hkind id (wr_some hw) with ⟨i, h1, h2, h3⟩ | ⟨h1, _, _⟩
        · rw [h3, wr_renO] at hw
          have hi2 : ¬ i < ms.length := fun hi2 => by
            have h4 : mapN ms σ.length i = mapL ms i := by simp [mapN, hi2]
            have := hlt _ (hin i (hl ▸ hi2))
            omega
          have h5 := hx.wrnew i (by omega) hw
          rw [h2, (hρ' i h1).1]
          exact h5.imp (fun y => y) fun ⟨j, hj, h6, h7⟩ => ⟨mapL ms j, hlt _ (hin j hj), hwr j h6, h7⟩
        · omega
      keep := fun b hb hnb => hx.keep b hb fun i hi hw => hnb (mapL ms i) (hlt _ (hin i hi)) (hwr i hw)
      sizes := hx.sizes }
  refine ⟨v, _, _, Fz', ρ', rfl, ⟨r, σ0', hR, rfl, rfl⟩, hv.fwd hρ', ⟨hr'.fz, fun id => ?_, fun id id' hne hw hs => ?_⟩, hxx⟩
  · cases hg : some' (getO (merge σ ms σ0') id) with
    | false => cases hq : getO (merge σ ms σ0') id <;> simp_all [some', ObR]
    | true =>
      rcases hkind id hg with ⟨i, h1, h2, h3⟩ | ⟨h1, h2, h3⟩
      · rw [h3, h2, (hρ' i h1).1]
        exact (hr'.ob i).fwd hρ'
      · rw [h3]
        rw [h3] at hg
        have e : ρ' id = ρ id := by simp only [ρ', if_pos h1]
        rw [e]
        have hlt2 := hblk id hg
        refine (hr.ob id).mono (hx.keep _ hlt2 fun i _ hw => (hother id h1 h2 hg i hw).symm) ⟨hx.fz _, fun hb => ?_⟩ (fun v d hc => hc.ext hxx hr) (fun v d hc => hc.ext hxx hr)
        rcases hx.fznew _ hb with h4 | h4 | ⟨i, _, h5, h6⟩
        · exact h4
        · omega
        · exact absurd h6.symm (hother id h1 h2 hg i h5)
  · rcases hkind id (wr_some hw) with ⟨i, h1, h2, h3⟩ | ⟨h1, h2, h3⟩
    · rw [h3, wr_renO] at hw
      rcases hkind id' hs with ⟨j, k1, k2, k3⟩ | ⟨k1, k2, k3⟩
      · rw [k3, some_renO] at hs
        rw [h2, k2, (hρ' i h1).1, (hρ' j k1).1]
        exact hr'.sep i j (fun e => hne (by rw [h2, k2, e])) hw hs
      · rw [k3] at hs
        have e : ρ' id' = ρ id' := by simp only [ρ', if_pos k1]
        rw [e, h2, (hρ' i h1).1]
        by_cases hi : i < σ0.length
        · rw [hx.rho i hi]
          exact hother id' k1 k2 hs i (hx.wrold i hi hw)
        · rcases hx.wrnew i (by omega) hw with h4 | ⟨j, hj, h5, h6⟩
          · have := hblk id' hs; omega
          · rw [← h6]; exact hother id' k1 k2 hs j h5
    · rw [h3] at hw
      have e : ρ' id = ρ id := by simp only [ρ', if_pos h1]
      rcases hkind id' hs with ⟨j, k1, k2, k3⟩ | ⟨k1, k2, k3⟩
      · rw [k3, some_renO] at hs
        rw [e, k2, (hρ' j k1).1]
        by_cases hj : j < σ0.length
        · rw [hx.rho j hj]
          refine hr.sep id (mapL ms j) (fun e => h2 (e ▸ hin j hj)) hw ?_
          rw [(hob j hj).2.1, some_renO]; exact (hob j hj).1
        · cases hwj : AM.wr (getO σ0' j) with
          | true =>
            rcases hx.wrnew j (by omega) hwj with h4 | ⟨i, hi, h5, h6⟩
            · have := hblk id (wr_some hw); omega
            · rw [← h6]; exact (hother id h1 h2 (wr_some hw) i h5).symm
          | false =>
            have hfz : Fz' (ρ0' j).1 := by
              have := hr'.ob j
              cases hq : getO σ0' j with
              | none => rw [hq] at hs; cases hs
              | var v => rw [hq] at hwj; cases hwj
              | row l z xs =>
                rw [hq] at this hwj
                obtain ⟨_, _, _, _, _, _, h5, _⟩ := this
                exact h5 hwj
            intro he
            rw [he] at hfz
            have hnf : ¬ Fz (ρ id).1 := fun hb => hr.fz_ne hb hw rfl
            rcases hx.fznew _ hfz with h4 | h4 | ⟨i, _, h5, h6⟩
            · exact hnf h4
            · have := hblk id (wr_some hw); omega
            · exact absurd h6.symm (hother id h1 h2 (wr_some hw) i h5)
      · rw [k3] at hs
        have e' : ρ' id' = ρ id' := by simp only [ρ', if_pos k1]
        rw [e, e']
        exact hr.sep id id' hne hw hs
def ArgsF (σ : List Ob) (ids ms : List Nat) (n0 : Nat) : List Bool → List AV → List AV → Prop
  | [], [], [] => True
  | true :: tr, a :: as, a0 :: as0 => (lowA n0 a0 ∧ oneV a ∧ treeA σ a = renA (mapL ms) a0 ∧ ∀ i ∈ refsA a, i ∈ ids) ∧ ArgsF σ ids ms n0 tr as as0
  | false :: tr, a :: as, a0 :: as0 => (lowA n0 a0 ∧ a = renA (mapL ms) a0) ∧ ArgsF σ ids ms n0 tr as as0
  | _, _, _ => False
theorem argsF_len {σ : List Ob} {ids ms : List Nat} {n0 : Nat} : ∀ {tr : List Bool} {as as0 : List AV}, ArgsF σ ids ms n0 tr as as0 → as.length = as0.length := by
  intro tr
  induction tr with
  | nil => intro as as0 h; cases as <;> cases as0 <;> first | rfl | exact h.elim
  | cons b tr ih =>
    intro as as0 h
    cases as with
    | nil => cases b <;> cases as0 <;> exact h.elim
    | cons a as =>
      cases as0 with
      | nil => cases b <;> exact h.elim
      | cons a0 as0 => cases b <;> simp [ih h.2]
theorem argsF_get {σ : List Ob} {ids ms : List Nat} {n0 : Nat} : ∀ {tr : List Bool} {as as0 : List AV}, ArgsF σ ids ms n0 tr as as0 → ∀ j, j < as0.length →
    lowA n0 (as0.getD j .undef) ∧ (as.getD j .undef = renA (mapL ms) (as0.getD j .undef) ∨ (oneV (as.getD j .undef) ∧ treeA σ (as.getD j .undef) = renA (mapL ms) (as0.getD j .undef) ∧ ∀ i ∈ refsA (as.getD j .undef), i ∈ ids)) := by
  intro tr
  induction tr with
  | nil => intro as as0 h j hj; cases as <;> cases as0 <;> first | exact h.elim | (simp at hj)
  | cons b tr ih =>
    intro as as0 h j hj
    cases as with
    | nil => cases b <;> cases as0 <;> exact h.elim
    | cons a as =>
      cases as0 with
      | nil => simp at hj
      | cons a0 as0 =>
        cases j with
        | zero => cases b with
          | true => exact ⟨h.1.1, .inr h.1.2⟩
          | false => exact ⟨h.1.1, .inl h.1.2⟩
        | succ j => exact ih (by cases b <;> exact h.2) j (by simpa using hj)
theorem call_st {as as0 : List AV} {R0 : AV → List Ob → Prop} {K : AV × List Ob → Prop} (h : Does P f as0 σ0 R0) (ids ms : List Nat) (tr : List Bool) (hl : ms.length = σ0.length) (hn : ms.Nodup)
    (ho : ObsFit' (mapL ms) σ0.length (freezeL σ ids) 0 σ0) (ha : ArgsF σ ids ms σ0.length tr as as0)
    (hk : ∀ v0 σ0', R0 v0 σ0' → K (renA (mapN ms (freezeL σ ids).length) v0, merge (freezeL σ ids) ms σ0')) : @callP P f as σ ⟨K⟩ := by
  have hg := argsF_get ha
  have hlen := argsF_len ha
  have hd := does_at (as := as0.map (renA (mapL ms))) h hl hn ho (by simp) (fun j hj w Fz ρ v hv => by
    have e : (as0.map (renA (mapL ms))).getD j .undef = renA (mapL ms) (as0.getD j .undef) := by simp [List.getD, hj]
    rw [e] at hv
    exact hv.ren (hg j hj).1)
  refine ⟨fun v σ' => ∃ v0 σ0', R0 v0 σ0' ∧ v = renA (mapN ms (freezeL σ ids).length) v0 ∧ σ' = merge (freezeL σ ids) ms σ0', ⟨h.1, fun w Fz ρ vs hr hsz hvs => ?_⟩, ?_⟩
  rotate_left
  · rintro r σ' ⟨v0, σ0', h1, rfl, rfl⟩
    exact hk v0 σ0' h1
  obtain ⟨Fz1, r1, x1, f1⟩ := freezeL_ok (w := w) ids hr
  refine (hd.2 w Fz1 ρ vs r1 (by simp; omega) (fun j hj => ?_)).mono ?_
  · simp at hj
    have e : (as0.map (renA (mapL ms))).getD j .undef = renA (mapL ms) (as0.getD j .undef) := by simp [List.getD, hj]
    rw [e]
    have hv := (hvs j (by omega)).ext x1 hr
    rcases (hg j hj).2 with h1 | ⟨h1, h2, h3⟩
    · rw [← h1]; exact hv
    · rw [← h2, ← freezeL_treeA ids]
      refine VR.of1 (tree_VR r1 (fun i hi l e xs hgi => ?_) (hv.to1 (fun ws hw => ?_)))
      · obtain ⟨l', hg'⟩ := freezeL_ref _ hgi
        exact f1 i (h3 i hi) _ _ _ hg'
      · rw [hw] at h1; exact h1
  · rintro e w' ⟨v, r, σ', Fz', ρ', rfl, hR, hv, hr', hx⟩
    exact ⟨v, r, σ', Fz', ρ', rfl, hR, hv, hr', x1.trans hx⟩
end
theorem call_p {P : Program} {f : FuncId} {as as' : List AV} {r : AV} {σ : List Ob} {K : AV × List Ob → Prop} (h : Pure P f as' r) (ha : as.map (treeA σ) = as') (hone : allOne as) (hk : K (r, freezeL σ (as.flatMap refsA))) : @callP P f as σ ⟨K⟩ :=
  call_pure h ha (allOne_mem hone) hk
theorem call_q {P : Program} {f : FuncId} {as as' : List AV} {r : AV} {σ : List Ob} {K : AV → Prop} (h : Pure P f as' r) (ha : as.map (treeA σ) = as') (hone : allOne as) (hf : freezeL σ (as.flatMap refsA) = σ) (hk : K r) : @pureP P f as σ ⟨K⟩ :=
  ⟨as', r, h, ha, allOne_mem hone, hf, hk⟩
theorem freeze_ok {P : Program} {N B : Nat} {c : Code} {Q : AEx → St → Prop} {s : St} (ids : List Nat) (h : Ok P N B c Q ⟨s.env, freezeL s.σ ids⟩) : Ok P N B c Q s := by
  intro hB w Fz ρ a hr he hd hN
  obtain ⟨Fz1, r1, x1, f1⟩ := freezeL_ok (w := w) ids hr
  refine wp_mono (h (Nat.le_trans hB x1.len) w Fz1 ρ a r1 (he.ext x1 hr) hd hN) ?_
  rintro e a' w' ⟨x, s', Fz', ρ', h1, h2, h3, h4, h5, h6⟩
  exact ⟨x, s', Fz', ρ', h1, h2, h3, h4, (x1.toB hB).trans h5, h6⟩
theorem draw_freeze {P : Program} {V : List Nat} {N B id : Nat} {ops : Array Oper} {Q : AEx → St → Prop} {s : St} (ids : List Nat) (h : @DrawH P V N B id ⟨ops⟩ ⟨Q⟩ ⟨s.env, freezeL s.σ ids⟩) : @DrawH P V N B id ⟨ops⟩ ⟨Q⟩ s := freeze_ok ids h
theorem enterD {P : Program} (V : List Nat) (rs : List ResultVar) {f : FuncId} {fn : Func} {c : Code} {as : List AV} {σ : List Ob} {R : AV → List Ob → Prop} (hf : P.funcs[f]? = some fn) (hb : fn.body = some c)
    (hok : (!(fn.name == "runtime.NumGoroutine") && codeOk P fn.ntmps c && decide (as.length ≤ fn.ntmps) && fn.results.toList.all fun r => match r with | .tmp _ => true | .cell _ t => tyOk P t) = true)
    (hrs : fn.results.toList = rs) (h : @wpcH P V fn.ntmps σ.length ⟨c⟩ ⟨EndsP P rs R⟩ ⟨entryE 0 as, σ⟩) : Does P f as σ R := does_of hf hb hok (hrs ▸ h)
end Go.AM
end
section
namespace Go.AM
def treeE (σ : List Ob) (ts : List Nat) : Env → Env
  | [] => []
  | (k, v) :: r => (k, match ts.contains k with | true => treeA σ v | false => v) :: treeE σ ts r
def treeS (ts : List Nat) (s : St) : St := ⟨treeE s.σ ts s.env, freezeL s.σ (ts.flatMap fun t => refsA (getE s.env t))⟩
theorem treeE_get (σ : List Ob) (ts : List Nat) (t : Nat) : ∀ e : Env, getE (treeE σ ts e) t = if ts.contains t = true then treeA σ (getE e t) else getE e t := by
  intro e
  induction e with
  | nil => simp only [treeE, getE]; split <;> rfl
  | cons p r ih =>
    obtain ⟨k, v⟩ := p
    simp only [treeE, getE]
    by_cases hk : k = t
    · subst hk
      rw [if_pos rfl, if_pos rfl]
      cases ts.contains k <;> rfl
    · rw [if_neg hk, if_neg hk, ih]
theorem treeS_ok {Fz ρ} {s : St} {w : World} {a : Act} (ts : List Nat) (hr : Rel Fz ρ s.σ w) (he : EnvR w Fz ρ s.σ.length a s.env) :
    ∃ Fz1, Rel Fz1 ρ (treeS ts s).σ w ∧ EnvR w Fz1 ρ (treeS ts s).σ.length a (treeS ts s).env ∧ Ext Fz ρ s.σ w Fz1 ρ (treeS ts s).σ w := by
  obtain ⟨Fz1, r1, x1, f1⟩ := freezeL_ok (w := w) (ts.flatMap fun t => refsA (getE s.env t)) hr
  refine ⟨Fz1, r1, fun t => ?_, x1⟩
  have h1 := he.ext x1 hr t
  show VR w Fz1 ρ _ _ (getE (treeE s.σ ts s.env) t)
  rw [treeE_get]
  split
  · rename_i hc
    by_cases ht : ∃ vs, getE s.env t = .tup vs
    · obtain ⟨vs, hv⟩ := ht
      rw [hv]; exact trivial
    · have hnt : ∀ vs, getE s.env t ≠ .tup vs := fun vs e => ht ⟨vs, e⟩
      rw [← freezeL_treeA (ts.flatMap fun t => refsA (getE s.env t))]
      refine VR.of1 (tree_VR r1 (fun i hi l e xs hg => ?_) (h1.to1 hnt))
      obtain ⟨l', hg'⟩ := freezeL_ref _ hg
      exact f1 i (List.mem_flatMap.2 ⟨t, by simpa using hc, hi⟩) _ _ _ hg'
  · exact h1
theorem tree_ok {P : Program} {N B : Nat} {c : Code} {Q : AEx → St → Prop} {s : St} (ts : List Nat) (h : Ok P N B c Q (treeS ts s)) : Ok P N B c Q s := by
  intro hB w Fz ρ a hr he hd hN
  obtain ⟨Fz1, r1, e1, x1⟩ := treeS_ok ts hr he
  refine wp_mono (h (Nat.le_trans hB x1.len) w Fz1 ρ a r1 e1 hd hN) ?_
  rintro e a' w' ⟨x, s', Fz', ρ', h1, h2, h3, h4, h5, h6⟩
  exact ⟨x, s', Fz', ρ', h1, h2, h3, h4, (x1.toB hB).trans h5, h6⟩
theorem loop_okT {P : Program} {N B : Nat} {c : Code} {Q : AEx → St → Prop} {α : Type} (I : α → St) (μ : α → Nat)
    (hstep : ∀ x, Ok P N B c (fun e s' => match e with | .normal => ∃ ts y m, Fits B m (treeS ts s') (I y) ∧ μ y < μ x | e => Q e s') (I x)) (x0 : α) : Ok P N B (.loop c) Q (I x0) := by
  intro hB w Fz ρ a hr he hd hN
  let J : Nat → Act → World → Prop := fun k a' w' => ∃ x Fz' ρ', μ x = k ∧ Rel Fz' ρ' (I x).σ w' ∧ EnvR w' Fz' ρ' (I x).σ.length a' (I x).env ∧ ExtB B Fz ρ (I x0).σ w Fz' ρ' (I x).σ w' ∧ a'.defers = [] ∧ a'.tmps.size = N
  have h0 : J (μ x0) a w := ⟨x0, Fz, ρ, rfl, hr, he, ExtB.refl hB, hd, hN⟩
  obtain ⟨ν, hν⟩ : ∃ ν : Act → World → Nat, ∀ a' w', (∃ k, J k a' w') → J (ν a' w') a' w' ∧ ∀ k, J k a' w' → ν a' w' ≤ k := by
    have key : ∀ (a' : Act) (w' : World), ∃ m0 : Nat, (∃ k, J k a' w') → J m0 a' w' ∧ ∀ k, J k a' w' → m0 ≤ k := fun a' w' => by
      by_cases hm : ∃ k, J k a' w'
      · obtain ⟨m0, h1, h2⟩ := least hm
        exact ⟨m0, fun _ => ⟨h1, h2⟩⟩
      · exact ⟨0, fun h => absurd h hm⟩
    exact ⟨fun a' w' => Classical.choose (key a' w'), fun a' w' => Classical.choose_spec (key a' w')⟩
  refine wp_loop (fun a' w' => ∃ k, J k a' w') ν ⟨_, h0⟩ (fun a' w' hI => ?_)
  obtain ⟨hJ, _⟩ := hν a' w' hI
  generalize hm : ν a' w' = k at hJ
  obtain ⟨x, Fz', ρ', rfl, hr', he', hx', hd', hN'⟩ := hJ
  refine wp_mono (hstep x hx'.len w' Fz' ρ' a' hr' he' hd' hN') (fun e a2 w2 hL => ?_)
  obtain ⟨ex, s2, Fz2, ρ2, hx, hQ, r2, e2, x2, d2, n2⟩ := hL
  cases e with
  | normal =>
    cases hx
    obtain ⟨ts, y, m, hf, hlt⟩ := hQ
    obtain ⟨Fz3, r3, e3, x3⟩ := treeS_ok ts r2 e2
    have hJ2 : J (μ y) a2 w2 := ⟨y, Fz3, fun i => ρ2 (m i), rfl, hf.rel r3, hf.envR e3, hf.to ((hx'.trans x2).trans (x3.toB x2.len)), d2, n2⟩
    refine ⟨⟨_, hJ2⟩, ?_⟩
    have := (hν a2 w2 ⟨_, hJ2⟩).2 _ hJ2
    omega
  | exit k => cases hx; exact ⟨_, s2, Fz2, ρ2, rfl, hQ, r2, e2, hx'.trans x2, d2, n2⟩
  | ret => cases hx; exact ⟨_, s2, Fz2, ρ2, rfl, hQ, r2, e2, hx'.trans x2, d2, n2⟩
  | goto => cases hx
  | panic => cases hx
  | outgrown => cases hx
theorem loop_t {P : Program} {V : List Nat} {N B : Nat} {c : Code} {Q : AEx → St → Prop} {α : Type} (ts : List Nat) (I : α → St) (μ : α → Nat) (x : α) {s : St} {m : Nat → Nat} (h0 : Fits B m (treeS ts s) (I x))
    (h : ∀ x, @wpcH P V N B ⟨c⟩ ⟨fun e s' => match e with | .normal => ∃ ts y m, Fits B m (treeS ts s') (I y) ∧ μ y < μ x | e => Q e s'⟩ (I x)) : @LoopH P V N B ⟨c⟩ ⟨Q⟩ s :=
  fun hok => tree_ok ts (ren_ok h0 (loop_okT I μ (fun x => code_ok c hok _ _ (h x)) x))
theorem treeS_nil (s : St) : treeS [] s = s := by
  have : ∀ e : Env, treeE s.σ [] e = e := by
    intro e
    induction e with
    | nil => rfl
    | cons p r ih => simp [treeE, ih]
  obtain ⟨e, σ⟩ := s
  simp only [treeS, List.flatMap_nil] at *
  rw [this]; rfl
attribute [go_sem] treeE treeS
end Go.AM
end
section
namespace Go.AM
def plainV : AV → Bool
  | .int .. | .bool _ | .str _ | .nilp | .nilf | .ts .. => true
  | _ => false
def freeOp : Op → Bool
  | .move _ => true
  | .call { callee := .builtin .len, .. } => true
  | .call { callee := .value _, .. } => true
  | _ => false
theorem plain_tree {σ : List Ob} {a : AV} (h : plainV a = true) : treeA σ a = treeA [] a ∧ refsA a = [] := by
  cases a <;> simp_all [plainV, treeA, treeC, refsA, cellsOf, refsC]
theorem freeOp_any {P : Program} {op : Op} {e : Env} {σ σ1 : List Ob} {p : Prop} {r : AV} (hf : freeOp op = true) (hc : isCall op = false) (h : stepA P op ⟨e, σ⟩ = some (p, r, σ1)) (σ' : List Ob) : stepA P op ⟨e, σ'⟩ = some (p, r, σ') := by
  unfold freeOp at hf
  split at hf
  · simp only [stepA, Option.some.injEq, Prod.mk.injEq] at h ⊢
    exact ⟨h.1, h.2.1, trivial⟩
  · simp only [stepA] at h ⊢
    split at h
    · rename_i x t _ _
      cases hl : lenU (P.underlying t) (ev e x) with
      | none => simp [hl] at h
      | some v => simp [hl] at h ⊢; exact ⟨h.1, h.2.1⟩
    · cases h
  · cases hc
  · cases hf
def wpf (P : Program) (fs : List Nat) : Nat → List Oper → (St → Prop) → St → Prop
  | _, [], K, s => K s
  | i, o :: os, K, s => match fs.contains i with
    | false => wpf P fs (i + 1) os K s
    | true => match isCall o.op with
      | true => @bindP _ (callOf s.env o.op) ⟨fun c => @Chk (c.2.all plainV = true) ⟨fun _ => @pureP P c.1 c.2 s.σ ⟨fun r => wpf P fs (i + 1) os K ⟨putE s.env o.dst r, s.σ⟩⟩⟩⟩
      | false => @bindP _ (stepA P o.op s) ⟨fun r => @Chk r.1 ⟨fun _ => wpf P fs (i + 1) os K ⟨putE s.env o.dst r.2.1, s.σ⟩⟩⟩
def selfO (fs : List Nat) (i : Nat) (o : Oper) : Oper := match fs.contains i with | true => ⟨o.dst, (match o.dst with | some d => .move (.tmp d) | none => .move (.const .nilFunc)), o.type, o.pos, o.after, none⟩ | false => o
def selfL (fs : List Nat) : Nat → List Oper → List Oper
  | _, [] => []
  | i, o :: os => selfO fs i o :: selfL fs (i + 1) os
theorem selfL_get (fs : List Nat) : ∀ (l : List Oper) (i q : Nat), (selfL fs i l)[q]? = (l[q]?).map (selfO fs (i + q)) := by
  intro l
  induction l with
  | nil => intro i q; simp [selfL]
  | cons o l ih =>
    intro i q
    cases q with
    | zero => simp [selfL]
    | succ q => simp only [selfL, List.getElem?_cons_succ]; rw [ih, show i + 1 + q = i + (q + 1) by omega]
theorem selfL_len (fs : List Nat) : ∀ (l : List Oper) (i : Nat), (selfL fs i l).length = l.length := by
  intro l
  induction l with
  | nil => intro i; rfl
  | cons o l ih => intro i; simp [selfL, ih]
theorem selfO_dst {fs : List Nat} {i : Nat} {o : Oper} : (selfO fs i o).dst = o.dst := by unfold selfO; split <;> rfl
theorem selfO_not {fs : List Nat} {i : Nat} {o : Oper} (h : i ∉ fs) : selfO fs i o = o := by unfold selfO; rw [show fs.contains i = false by simpa using h]
def drawB3 (P : Program) (N : Nat) (ops : Array Oper) (bs fs : List Nat) (x : Nat) : Bool :=
  let pr := preds ops
  (ops.toList.zipIdx.all fun q => operOk P N q.1 &&
    ((tmpsU ops q.1).all fun t => ops.toList.zipIdx.all fun q' => (q'.1.dst != some t) ||
      (if fs.contains q.2 then (fs.contains q'.2 && decide (q'.2 < q.2) && (pr.getD q.2 []).contains q'.2) || (!fs.contains q'.2 && (pr.getD q'.2 []).contains q.2)
       else (fs.contains q'.2 && (pr.getD q.2 []).contains q'.2) || (!fs.contains q'.2 && ((decide (q'.2 < q.2) && (pr.getD q.2 []).contains q'.2) || (decide (q.2 < q'.2) && (pr.getD q'.2 []).contains q.2))))) &&
    (q.1.after.toList.all fun e => !(Region.binds .any e) || decide (e.on < q.2)) &&
    (ops.toList.zipIdx.all fun q' => q'.2 == q.2 || q.1.dst == none || q'.1.dst != q.1.dst) &&
    (!fs.contains q.2 || (freeOp q.1.op && q.1.guard.isNone && !bs.contains q.2 && q.2 != x && q.1.dst.isSome))) &&
  (bs.all fun b => ops.toList.zipIdx.all fun q => q.2 == b || fs.contains q.2 || (if q.2 < b then b == x || (pr.getD b []).contains q.2 else q.2 == x || (pr.getD q.2 []).contains b)) &&
  (decide (ops.size ≤ x) || (bs.contains x && (ops.toList.zipIdx.all fun q => fs.contains q.2 || decide (q.2 ≤ x) || ops.toList.zipIdx.all fun q' => fs.contains q'.2 || decide (x < q'.2) || (pr.getD q.2 []).contains q'.2) &&
    match ops[x]? with
    | some o => (match o.op with | .alloc _ => true | _ => false) && o.guard.isNone && o.dst.isSome
    | none => false))
structure DrawOk3 (P : Program) (N : Nat) (ops : Array Oper) (bs fs : List Nat) (x : Nat) : Prop where
  ok : ∀ (i : Nat) (o : Oper), ops[i]? = some o → operOk P N o = true
  useF : ∀ (i : Nat) (o : Oper) (t : Nat) (j : Nat) (o' : Oper), ops[i]? = some o → t ∈ tmpsU ops o → ops[j]? = some o' → o'.dst = some t → i ∈ fs → (j ∈ fs ∧ j < i ∧ Reach ops i j) ∨ (j ∉ fs ∧ Reach ops j i)
  useN : ∀ (i : Nat) (o : Oper) (t : Nat) (j : Nat) (o' : Oper), ops[i]? = some o → t ∈ tmpsU ops o → ops[j]? = some o' → o'.dst = some t → i ∉ fs → (j ∈ fs ∧ Reach ops i j) ∨ (j ∉ fs ∧ ((j < i ∧ Reach ops i j) ∨ (i < j ∧ Reach ops j i)))
  low : ∀ (i : Nat) (o : Oper), ops[i]? = some o → ∀ e ∈ o.after, Region.binds .any e = true → e.on < i
  dis : ∀ (i j : Nat) (o o' : Oper) (t : Nat), ops[i]? = some o → ops[j]? = some o' → o.dst = some t → o'.dst = some t → j = i
  free : ∀ (i : Nat) (o : Oper), ops[i]? = some o → i ∈ fs → freeOp o.op = true ∧ o.guard = none ∧ i ∉ bs ∧ i ≠ x ∧ ∃ d, o.dst = some d
  barLt : ∀ b ∈ bs, b ≠ x → ∀ j, j < b → j < ops.size → j ∉ fs → Reach ops b j
  barGt : ∀ b ∈ bs, ∀ j, b < j → j < ops.size → j ∉ fs → j ≠ x → Reach ops j b
  cut : x < ops.size → ∀ i j, x < i → i < ops.size → i ∉ fs → j ≤ x → j ∉ fs → Reach ops i j
  early : x < ops.size → x ∈ bs ∧ ∃ o t d, ops[x]? = some o ∧ o.op = .alloc t ∧ o.guard = none ∧ o.dst = some d
theorem drawB3_ok {P : Program} {N : Nat} {ops : Array Oper} {bs fs : List Nat} {x : Nat} (h : drawB3 P N ops bs fs x = true) : DrawOk3 P N ops bs fs x := by
  have hz : ∀ (i : Nat) (o : Oper), ops[i]? = some o → (o, i) ∈ ops.toList.zipIdx := fun i o ho => by
    rw [List.mem_zipIdx_iff_getElem?]; simpa using ho
  simp only [drawB3, Bool.and_eq_true] at h
  obtain ⟨⟨h, h'⟩, h''⟩ := h
  have h1 := fun i o ho => List.all_eq_true.1 h (o, i) (hz i o ho)
  have h2 := fun b hb i o ho => List.all_eq_true.1 (List.all_eq_true.1 h' b hb) (o, i) (hz i o ho)
  simp only [Bool.and_eq_true] at h1
  have huse := fun i o ho t ht j o' ho' => List.all_eq_true.1 (List.all_eq_true.1 (h1 i o ho).1.1.1.2 t ht) (o', j) (hz j o' ho')
  refine ⟨fun i o ho => (h1 i o ho).1.1.1.1, fun i o t j o' ho ht ho' hd hi => ?_, fun i o t j o' ho ht ho' hd hi => ?_, fun i o ho e he hb => ?_, fun i j o o' t ho ho' hd hd' => ?_, fun i o ho hi => ?_, fun b hb hbx j hj hjs hjf => ?_, fun b hb j hj hjs hjf hjx => ?_, fun hx i j hi his hif hj hjf => ?_, fun hx => ?_⟩
  · have hc := huse i o ho t ht j o' ho'
    simp only [hd, bne_self_eq_false, Bool.false_or, show fs.contains i = true by simpa using hi, if_true, Bool.or_eq_true, Bool.and_eq_true, decide_eq_true_eq, Bool.not_eq_true'] at hc
    rcases hc with ⟨⟨h1, h2⟩, h3⟩ | ⟨h1, h2⟩
    · exact .inl ⟨by simpa using h1, h2, preds_ok (by simpa using h3)⟩
    · exact .inr ⟨by simpa using h1, preds_ok (by simpa using h2)⟩
  · have hc := huse i o ho t ht j o' ho'
    simp only [hd, bne_self_eq_false, Bool.false_or, show fs.contains i = false by simpa using hi, Bool.false_eq_true, if_false, Bool.or_eq_true, Bool.and_eq_true, decide_eq_true_eq, Bool.not_eq_true'] at hc
    rcases hc with ⟨h1, h3⟩ | ⟨h1, ⟨h2, h3⟩ | ⟨h2, h3⟩⟩
    · exact .inl ⟨by simpa using h1, preds_ok (by simpa using h3)⟩
    · exact .inr ⟨by simpa using h1, .inl ⟨h2, preds_ok (by simpa using h3)⟩⟩
    · exact .inr ⟨by simpa using h1, .inr ⟨h2, preds_ok (by simpa using h3)⟩⟩
  · have := List.all_eq_true.1 (h1 i o ho).1.1.2 e (by simpa using he)
    simpa [hb] using this
  · have hc := List.all_eq_true.1 (h1 i o ho).1.2 (o', j) (hz j o' ho')
    simp only [Bool.or_eq_true, beq_iff_eq, bne_iff_ne, ne_eq] at hc
    rcases hc with (hc | hc) | hc
    · exact hc
    · rw [hd] at hc; cases hc
    · exact absurd (hd'.trans hd.symm) hc
  · have hc := (h1 i o ho).2
    simp only [show fs.contains i = true by simpa using hi, Bool.not_true, Bool.false_or, Bool.and_eq_true, Bool.not_eq_true', bne_iff_ne, ne_eq] at hc
    obtain ⟨⟨⟨⟨k1, k2⟩, k3⟩, k4⟩, k5⟩ := hc
    exact ⟨k1, by simpa using k2, by simpa using k3, k4, Option.isSome_iff_exists.1 k5⟩
  · have hc := h2 b hb j ops[j] (by simp [hjs])
    simp only [Bool.or_eq_true, beq_iff_eq, show fs.contains j = false by simpa using hjf, Bool.false_eq_true, or_false, if_pos hj] at hc
    rcases hc with hc | hc | hc
    · omega
    · exact absurd hc hbx
    · exact preds_ok (by simpa using hc)
  · have hc := h2 b hb j ops[j] (by simp [hjs])
    simp only [Bool.or_eq_true, beq_iff_eq, show fs.contains j = false by simpa using hjf, Bool.false_eq_true, or_false, if_neg (show ¬ j < b by omega)] at hc
    rcases hc with hc | hc | hc
    · omega
    · exact absurd hc hjx
    · exact preds_ok (by simpa using hc)
  · simp only [Bool.or_eq_true, decide_eq_true_eq, Bool.and_eq_true, show ¬ ops.size ≤ x by omega, false_or] at h''
    have hc := List.all_eq_true.1 h''.1.2 (ops[i], i) (hz i _ (by simp [his]))
    simp only [Bool.or_eq_true, show fs.contains i = false by simpa using hif, Bool.false_eq_true, false_or, decide_eq_true_eq, show ¬ i ≤ x by omega] at hc
    have hc := List.all_eq_true.1 hc (ops[j], j) (hz j _ (by simp [show j < ops.size by omega]))
    simp only [Bool.or_eq_true, show fs.contains j = false by simpa using hjf, Bool.false_eq_true, false_or, decide_eq_true_eq, show ¬ x < j by omega] at hc
    exact preds_ok (by simpa using hc)
  · simp only [Bool.or_eq_true, decide_eq_true_eq, Bool.and_eq_true, show ¬ ops.size ≤ x by omega, false_or] at h''
    obtain ⟨⟨k1, _⟩, k2⟩ := h''
    refine ⟨by simpa using k1, ?_⟩
    cases ho : ops[x]? with
    | none => simp [ho] at k2
    | some o =>
      rw [ho] at k2
      simp only [Bool.and_eq_true] at k2
      obtain ⟨⟨k2, k3⟩, k4⟩ := k2
      obtain ⟨d, hd⟩ := Option.isSome_iff_exists.1 k4
      split at k2
      · rename_i t ht
        exact ⟨o, t, d, rfl, ht, by simpa using k3, hd⟩
      · cases k2
theorem wpf_gives {P : Program} {N : Nat} {ops : Array Oper} {bs fs : List Nat} {x : Nat} (D : DrawOk3 P N ops bs fs x) {σ : List Ob} {K : St → Prop} : ∀ (l : List Oper) (i : Nat) (e : Env), (∀ q, l[q]? = ops[i + q]?) → wpf P fs i l K ⟨e, σ⟩ →
    ∃ E0, K ⟨E0, σ⟩ ∧ (∀ t, (∀ j o, ops[j]? = some o → o.dst = some t → j ∉ fs ∨ j < i) → getE E0 t = getE e t) ∧
      ∀ j o, ops[j]? = some o → j ∈ fs → i ≤ j → ∃ r, (∀ d, o.dst = some d → getE E0 d = r) ∧ ∀ σ' E1, (∀ t ∈ tmpsU ops o, getE E1 t = getE E0 t) → Gives P ops σ' E1 o r := by
  intro l
  induction l with
  | nil =>
    intro i e hl h
    refine ⟨e, h, fun _ _ => rfl, fun j o ho hj hij => ?_⟩
    have := hl (j - i)
    rw [show i + (j - i) = j by omega, ho] at this
    simp at this
  | cons o l ih =>
    intro i e hl h
    have ho : ops[i]? = some o := by simpa using (hl 0).symm
    have hl' : ∀ q, l[q]? = ops[i + 1 + q]? := fun q => by have := hl (q + 1); simp only [List.getElem?_cons_succ] at this; rw [this, show i + (q + 1) = i + 1 + q by omega]
    unfold wpf at h
    cases hf : fs.contains i with
    | false =>
      rw [hf] at h
      have hni : i ∉ fs := by simpa using hf
      obtain ⟨E0, h1, h2, h3⟩ := ih (i + 1) e hl' h
      refine ⟨E0, h1, fun t ht => h2 t (fun j o ho hd => (ht j o ho hd).imp id (fun h => by omega)), fun j o' ho' hj hij => h3 j o' ho' hj ?_⟩
      have : j ≠ i := fun e => hni (e ▸ hj)
      omega
    | true =>
      rw [hf] at h
      have hi : i ∈ fs := by simpa using hf
      obtain ⟨hfo, hgd, -, -, d, hd⟩ := D.free i o ho hi
      have key : ∃ r, (∀ σ', Gives P ops σ' e o r) ∧ wpf P fs (i + 1) l K ⟨putE e o.dst r, σ⟩ := by
        cases hc : isCall o.op with
        | false =>
          rw [hc] at h
          obtain ⟨⟨p, r, σ1⟩, hs, hp, hk⟩ := bindP_iff h
          exact ⟨r, fun σ' => .inl ⟨by rw [hgd]; rfl, .inl ⟨hc, p, freeOp_any hfo hc hs σ', hp⟩⟩, hk⟩
        | true =>
          rw [hc] at h
          obtain ⟨⟨f, as⟩, hs, hp, as', r, k1, k2, k3, k4, k5⟩ := bindP_iff h
          have hpl : ∀ a ∈ as, plainV a = true := fun a ha => List.all_eq_true.1 hp a ha
          refine ⟨r, fun σ' => .inl ⟨by rw [hgd]; rfl, .inr ⟨hc, f, as, hs, as', r, k1, ?_, k3, ?_, rfl⟩⟩, k5⟩
          · rw [← k2]
            exact List.map_congr_left fun a ha => by rw [(plain_tree (σ := σ') (hpl a ha)).1, (plain_tree (σ := σ) (hpl a ha)).1]
          · have : as.flatMap refsA = [] := List.flatMap_eq_nil_iff.2 fun a ha => (plain_tree (σ := []) (hpl a ha)).2
            rw [this]; rfl
      obtain ⟨r, hg, hk⟩ := key
      obtain ⟨E0, h1, h2, h3⟩ := ih (i + 1) _ hl' hk
      have hput : ∀ t, o.dst ≠ some t → getE (putE e o.dst r) t = getE e t := fun t ht => by
        rw [hd] at ht ⊢
        simp only [putE, getE]
        rw [if_neg (fun q => ht (by rw [q]))]
      refine ⟨E0, h1, fun t ht => ?_, fun j o' ho' hj hij => ?_⟩
      · rw [h2 t (fun j o ho hd => (ht j o ho hd).imp id (fun h => by omega))]
        refine hput t fun hdt => ?_
        rcases ht i o ho hdt with h | h
        · exact h hi
        · omega
      · by_cases hji : j = i
        · subst hji
          rw [ho] at ho'; cases ho'
          refine ⟨r, fun d' hd' => ?_, fun σ' E1 hE => (hg σ').same fun t ht => ?_⟩
          · rw [h2 d' (fun j' o' ho' hd2 => by have := D.dis _ _ _ _ _ ho ho' hd' hd2; exact .inr (by omega)), hd']
            simp [putE, getE]
          · rw [hE t ht]
            have hlt : ∀ j' o', ops[j']? = some o' → o'.dst = some t → j' ∉ fs ∨ j' < j := fun j' o' ho' hd' => by
              rcases D.useF j o t j' o' ho ht ho' hd' hi with ⟨_, h, _⟩ | ⟨h, _⟩
              · exact .inr h
              · exact .inl h
            rw [h2 t (fun j' o' ho' hd' => (hlt j' o' ho' hd').imp id (fun h => by omega))]
            refine hput t fun hdt => ?_
            rcases hlt j o ho hdt with h | h
            · exact h hi
            · omega
        · exact h3 j o' ho' hj (by omega)
theorem wpb_gives3 {P : Program} {ops : Array Oper} {bs : List Nat} {σ : List Ob} {K : St → Prop} : ∀ (l : List Oper) (i : Nat) (e : Env), wpb P ops bs i l K ⟨e, σ⟩ →
    ∃ (rs : List AV) (k : Nat), rs.length = k ∧ k ≤ l.length ∧ (∀ j o, j < k → l[j]? = some o → Gives P ops σ (envs e l rs j) o (rs.getD j .undef)) ∧ (k = l.length ∨ (i + k) ∈ bs) ∧ wpb P ops bs (i + k) (l.drop k) K ⟨envs e l rs k, σ⟩ ∧ ∀ j, j < k → (i + j) ∉ bs := by
  intro l
  induction l with
  | nil => intro i e h; exact ⟨[], 0, rfl, Nat.le_refl _, fun j o hj => absurd hj (by omega), .inl rfl, h, fun j hj => absurd hj (by omega)⟩
  | cons o l ih =>
    intro i e h
    cases hbar : bs.contains i with
    | true => exact ⟨[], 0, rfl, Nat.zero_le _, fun j o hj => absurd hj (by omega), .inr (by simpa using hbar), h, fun j hj => absurd hj (by omega)⟩
    | false =>
      have key : ∃ r, Gives P ops σ e o r ∧ wpb P ops bs (i + 1) l K ⟨putE e o.dst r, σ⟩ := by
        obtain ⟨b, hb, h⟩ := onB_iff h
        rw [hbar] at h
        cases b with
        | false => exact ⟨_, .inr ⟨hb, rfl⟩, h⟩
        | true =>
          simp only [if_true] at h
          cases hc : isCall o.op with
          | false =>
            rw [hc] at h
            obtain ⟨⟨p, r, σ'⟩, hs, ⟨hp, hσ⟩, hk⟩ := bindP_iff h
            simp only at hσ
            subst hσ
            exact ⟨r, .inl ⟨hb, .inl ⟨hc, p, hs, hp⟩⟩, hk⟩
          | true =>
            rw [hc] at h
            obtain ⟨⟨f, as⟩, hs, as', r, k1, k2, k3, k4, k5⟩ := bindP_iff h
            exact ⟨r, .inl ⟨hb, .inr ⟨hc, f, as, hs, as', r, k1, k2, k3, k4, rfl⟩⟩, k5⟩
      obtain ⟨r, hg, hk⟩ := key
      obtain ⟨rs, k, h1, h2, h3, h4, h5, h6⟩ := ih (i + 1) _ hk
      refine ⟨r :: rs, k + 1, by simp [h1], by simp [h2], fun j o' hj ho' => ?_, ?_, ?_, fun j hj => ?_⟩
      · cases j with
        | zero => simp only [List.getElem?_cons_zero, Option.some.injEq] at ho'; subst ho'; exact hg
        | succ j => exact h3 j o' (by omega) (by simpa using ho')
      · rcases h4 with h4 | h4
        · exact .inl (by simp [h4])
        · exact .inr (by rw [show i + (k + 1) = i + 1 + k by omega]; exact h4)
      · rw [show i + (k + 1) = i + 1 + k by omega]
        exact h5
      · cases j with
        | zero => simpa using hbar
        | succ j => rw [show i + (j + 1) = i + 1 + j by omega]; exact h6 j (by omega)
def PA (Fz : Nat → Prop) (ρ : Nat → Nat × Nat) (σ : List Ob) (a : Act) (m0 : Nat) (w : World) (d : Tmp) (z : AV) : Prop :=
  ∃ b arr e fr, a.tmps[d]? = some (.pointer (some ⟨b, 0, none⟩)) ∧ m0 ≤ b ∧ ¬ Fz b ∧ (∀ id, wr (getO σ id) = true → (ρ id).1 ≠ b) ∧ w.heap[b]? = some (.cells arr e fr) ∧ Free arr fr ∧ (cellsOf z).length ≤ arr.size ∧
    ∀ j, j < (cellsOf z).length → ∀ w Fz ρ n, VC w Fz ρ n (arr.getD j .nilIface) ((cellsOf z).getD j .undef)
theorem PA.step {Fz ρ σ a m0 w d z Fz2 ρ2 σ2 a2 w2} (h : PA Fz ρ σ a m0 w d z) (x : Ext Fz ρ σ w Fz2 ρ2 σ2 w2) (ha : a2.tmps[d]? = a.tmps[d]?) : PA Fz2 ρ2 σ2 a2 m0 w2 d z := by
  obtain ⟨b, arr, e, fr, h1, h2, h3, h4, h5, h6⟩ := h
  have hb : b < w.heap.size := (Array.getElem?_eq_some_iff.1 h5).1
  refine ⟨b, arr, e, fr, ha.trans h1, h2, fun hf => ?_, fun id hw => ?_, (x.keep b hb fun id _ hw => h4 id hw).trans h5, h6⟩
  · rcases x.fznew b hf with h | h | ⟨id, _, hw, h⟩
    · exact h3 h
    · omega
    · exact h4 id hw h
  · by_cases hid : id < σ.length
    · rw [x.rho id hid]; exact h4 id (x.wrold id hid hw)
    · rcases x.wrnew id (by omega) hw with h | ⟨i, _, hi, he⟩
      · omega
      · rw [← he]; exact h4 i hi
theorem VC.names {w Fz ρ n ρ' n' v d} (h : VC w Fz ρ n v d) (hr : ∀ id, id < n → ρ' id = ρ id) (hn : n ≤ n') : VC w Fz ρ' n' v d := by
  induction h with
  | cr h => exact .cr h
  | vp id off hi => rw [← hr id hi]; exact .vp id off (by omega)
  | rp id esz d idx off hi => rw [← hr id hi]; exact .rp id esz d idx off (by omega)
  | sl0 o id esz i0 hi => exact .sl0 o id esz i0 (by omega)
  | sl id esz i0 len cap hi hc hk hs =>
    rw [← hr id hi] at hk hs ⊢
    exact .sl id esz i0 len cap (by omega) hc hk hs
  | nils o => exact .nils o
  | fn h1 _ ih => exact .fn h1 ih
theorem V1.names {w Fz ρ n ρ' n' v d} (h : V1 w Fz ρ n v d) (hr : ∀ id, id < n → ρ' id = ρ id) (hn : n ≤ n') : V1 w Fz ρ' n' v d := by
  cases d <;> first
    | exact trivial
    | exact h.elim
    | (obtain ⟨arr, e, hs, hj⟩ := h; exact ⟨arr, e, hs, fun j hl => (hj j hl).names hr hn⟩)
    | exact VC.names h hr hn
theorem VR.names {w Fz ρ n ρ' n' v d} (h : VR w Fz ρ n v d) (hr : ∀ id, id < n → ρ' id = ρ id) (hn : n ≤ n') : VR w Fz ρ' n' v d := by
  by_cases hd : ∃ vs, d = .tup vs
  · obtain ⟨vs, rfl⟩ := hd
    obtain ⟨arr, e, hs, hj⟩ := h
    exact ⟨arr, e, hs, fun j hl => (hj j hl).names hr hn⟩
  · exact VR.of1 ((h.to1 fun vs e => hd ⟨vs, e⟩).names hr hn)
theorem PA.fire {Fz ρ σ a m0 w d z} (r : Rel Fz ρ σ w) (h : PA Fz ρ σ a m0 w d z) (hz : okStore z = true) : ∃ ρ', Rel Fz ρ' (σ ++ [.var z]) w ∧
    (∀ E, EnvR w Fz ρ σ.length a E → EnvR w Fz ρ' (σ ++ [Ob.var z]).length a (putE E (some d) (.vp σ.length 0))) ∧
    (∀ B Fz0 ρ0 σ0 w0, B ≤ σ.length → w0.heap.size ≤ m0 → ExtB B Fz0 ρ0 σ0 w0 Fz ρ σ w → ExtB B Fz0 ρ0 σ0 w0 Fz ρ' (σ ++ [.var z]) w) := by
  obtain ⟨b, arr, e, fr, h1, h2, h3, h4, h5, h6, h7, h8⟩ := h
  have hlen : (σ ++ [Ob.var z]).length = σ.length + 1 := by simp
  have hold : ∀ id, id < σ.length → ext1 ρ σ.length (b, 0) id = ρ id := fun id hi => ext1_lt hi
  have hcase : ∀ i, some' (getO (σ ++ [Ob.var z]) i) = true → i < σ.length ∨ i = σ.length := fun i hi => by
    rcases Nat.lt_trichotomy i σ.length with h | h | h
    · exact .inl h
    · exact .inr h
    · rw [getO_app_gt h] at hi; cases hi
  have hne : ∀ id, id < σ.length → some' (getO σ id) = true → (ρ id).1 ≠ b := fun id hi hs he => by
    cases hw : wr (getO σ id) with
    | true => exact h4 id hw he
    | false =>
      have hob := r.ob id
      cases hq : getO σ id with
      | none => simp [hq, some'] at hs
      | var v => simp [hq, wr] at hw
      | row l z xs =>
        rw [hq] at hob hw
        simp only [wr] at hw
        obtain ⟨_, _, _, _, _, _, hf, _⟩ := hob
        exact h3 (he ▸ hf hw)
  refine ⟨ext1 ρ σ.length (b, 0), ⟨r.fz, fun id => ?_, fun id id' hne' hw hs => ?_⟩, fun E he t => ?_, fun B Fz0 ρ0 σ0 w0 hB hm hx => ?_⟩
  · rcases Nat.lt_trichotomy id σ.length with h | rfl | h
    · rw [getO_app_lt h, hold id h, hlen]
      exact (r.ob id).mono rfl Iff.rfl (fun _ _ hc => hc) (fun v d hc => hc.names hold (by omega))
    · rw [getO_app_eq, ext1_eq]
      exact ⟨arr, e, fr, h5, h6, h3, h7, hz, fun j hj => h8 j hj _ _ _ _⟩
    · rw [getO_app_gt h]; trivial
  · rcases hcase id (wr_some hw) with h | h <;> rcases hcase id' hs with h' | h'
    · rw [hold id h, hold id' h']
      rw [getO_app_lt h] at hw
      rw [getO_app_lt h'] at hs
      exact r.sep id id' hne' hw hs
    · subst h'
      rw [ext1_eq, hold id h]
      rw [getO_app_lt h] at hw
      exact fun e => h4 id hw e.symm
    · subst h
      rw [ext1_eq, hold id' h']
      rw [getO_app_lt h'] at hs
      exact hne id' h' hs
    · omega
  · simp only [putE, getE]
    by_cases ht : d = t
    · subst ht
      rw [if_pos rfl]
      have : VC w Fz (ext1 ρ σ.length (b, 0)) (σ ++ [Ob.var z]).length (.pointer (some ⟨(ext1 ρ σ.length (b, 0) σ.length).1, 0, none⟩)) (.vp σ.length 0) := VC.vp _ _ (by simp)
      rw [ext1_eq] at this
      simp only [Array.getD_eq_getD_getElem?, h1, Option.getD_some]
      exact VR.of_VC this
    · rw [if_neg ht]
      exact (he t).names hold (by omega)
  · exact
    { os := hx.os, tape := hx.tape, output := hx.output, size := hx.size, len := by omega
      rho := fun id hi => by rw [hold id (by omega)]; exact hx.rho id hi
      fz := hx.fz, fznew := hx.fznew
      wrold := fun id hi hw => hx.wrold id hi (by rwa [getO_app_lt (by omega)] at hw)
      wrall := fun id hw => by
        rcases hcase id (wr_some hw) with h | h
        · rw [getO_app_lt h] at hw; rw [hold id h]; exact hx.wrall id hw
        · subst h; rw [ext1_eq]; exact .inl (by simp only; omega)
      keep := hx.keep, sizes := hx.sizes }
theorem PA.make {P : Program} {Fz ρ σ w} (r : Rel Fz ρ σ w) {t : TypeId} (ht : tyOk P t = true) {o : Oper} (ho : o.op = .alloc t) {d : Tmp} {a : Act} (hd : d < a.tmps.size) {m0 : Nat} (hm : m0 ≤ w.heap.size) :
    ∃ v w2, (execOp a.eval o).run P w = .ok (.value v) w2 ∧ Rel Fz ρ σ w2 ∧ Ext Fz ρ σ w Fz ρ σ w2 ∧ PA Fz ρ σ (a.put (some d) v) m0 w2 d (zeroT P t) := by
  obtain ⟨z, hz0, hzt, hzs, hz1, hz2⟩ := run_zeroT ht
  have hz3 : (∃ cs, z = .agg cs) ∨ z.oneCell' = true := hz2.imp (fun h => h.2) (fun h => h.2)
  have hx : Ext Fz ρ σ w Fz ρ σ (w.alloc (.cells z.cells t (0, 0))) :=
    { os := rfl, tape := rfl, output := rfl, size := (by show _ ≤ (w.heap.push _).size; simp), len := Nat.le_refl _, rho := fun _ _ => rfl, fz := fun _ h => h, fznew := fun _ h => .inl h
      wrold := fun _ _ h => h
      wrnew := fun i hi h => by rw [getO_ge hi] at h; cases h
      keep := fun b hb _ => alloc_old w _ hb
      sizes := fun b a h => ⟨a, (blk_same (alloc_old w _ (blk_lt h))).trans h, rfl⟩ }
  have hlt : ∀ id, some' (getO σ id) = true → (ρ id).1 < w.heap.size := fun id hg => by
    have hob := r.ob id
    cases hq : getO σ id with
    | none => simp [hq, some'] at hg
    | var v => rw [hq] at hob; obtain ⟨arr, _, _, h1, _⟩ := hob; exact (Array.getElem?_eq_some_iff.1 h1).1
    | row l z xs => rw [hq] at hob; obtain ⟨arr, _, _, h1, _⟩ := hob; exact (Array.getElem?_eq_some_iff.1 h1).1
  refine ⟨.pointer (some ⟨w.heap.size, 0, none⟩), w.alloc (.cells z.cells t (0, 0)), ?_, ⟨fun b hb => Nat.lt_of_lt_of_le (r.fz b hb) hx.size, fun id => ?_, r.sep⟩, hx, ?_⟩
  · unfold execOp
    rw [ho]
    simp only [Instr.alloc, Sem.run_bind, hz0, Result.andThen_ok, Sem.run_pure]
    rfl
  · cases hg : some' (getO σ id) with
    | false => cases hq : getO σ id <;> simp_all [some', ObR]
    | true => exact (r.ob id).mono (alloc_old w _ (hlt id hg)) Iff.rfl (fun v d hc => hc.ext hx r) (fun v d hc => hc.ext hx r)
  · have hcl := fun (w : World) (Fz : Nat → Prop) (ρ : Nat → Nat × Nat) (n : Nat) => zero_cells (w := w) (Fz := Fz) (ρ := ρ) (n := n) hz1 hz3
    rw [← hzt] at hcl
    refine ⟨w.heap.size, z.cells, t, (0, 0), by simp [Act.put, hd], hm, fun h => Nat.lt_irrefl _ (r.fz _ h), fun id hw he => ?_, alloc_new w _, free0 _, by rw [(hcl w Fz ρ 0).1]; exact Nat.le_refl _, fun j hj w Fz ρ n => (hcl w Fz ρ n).2 j (by rw [← (hcl w Fz ρ n).1]; exact hj)⟩
    have := hlt id (wr_some hw)
    omega
end Go.AM
end
section
namespace Go.AM
theorem oper_wp2 {P : Program} {N : Nat} {o : Oper} (hop : operOk P N o = true) {a : Act} {w : World} {Fz ρ} {s : St} (hr : Rel Fz ρ s.σ w) (he : EnvR w Fz ρ s.σ.length a s.env) (hd : a.defers = []) (hN : a.tmps.size = N) {Q : Exit → Act → World → Prop} {K : St → Prop} {next : Act → World → Prop}
    (hK : ∀ s' Fz' ρ' a' w', (∃ v, a' = a.put o.dst v) → K s' → Rel Fz' ρ' s'.σ w' → EnvR w' Fz' ρ' s'.σ.length a' s'.env → Ext Fz ρ s.σ w Fz' ρ' s'.σ w' → a'.defers = [] → a'.tmps.size = N → next a' w')
    (h : match isCall o.op with
        | true => @bindP _ (callOf s.env o.op) ⟨fun c => @callP P c.1 c.2 s.σ ⟨fun r => K ⟨putE s.env o.dst r.1, r.2⟩⟩⟩
        | false => @bindP _ (stepA P o.op s) ⟨fun r => @Chk r.1 ⟨fun _ => K ⟨putE s.env o.dst r.2.1, r.2.2⟩⟩⟩) : o.wp P a w next Q := by
  have hdl := dst_lt hop hN
  cases hc : isCall o.op with
  | false =>
    rw [hc] at h
    obtain ⟨⟨p, d, σ'⟩, hst, hp, hk⟩ := bindP_iff h
    simp only [operOk, Bool.and_eq_true] at hop
    obtain ⟨nx, w', Fz', ρ', k1, k2, k3, k4⟩ := step_ok (e := s.env) hr he o hop.1 hst hp
    unfold Oper.wp
    rw [k1]
    have hx := he.ext k4 hr
    rcases k2 with ⟨v, rfl, hv⟩ | ⟨rfl, rfl⟩
    · exact hK _ _ _ _ _ ⟨_, rfl⟩ hk k3 (hx.put o.dst hdl hv) k4 (by rw [put_defers, hd]) (by rw [put_size, hN])
    · exact hK _ _ _ _ _ ⟨_, rfl⟩ hk k3 (hx.put o.dst hdl trivial) k4 (by rw [put_defers, hd]) (by rw [put_size, hN])
  | true =>
    rw [hc] at h
    obtain ⟨⟨g, as⟩, hco, R, ⟨⟨fn, hfn, hname, hbody⟩, hdo⟩, hk⟩ := bindP_iff h
    obtain ⟨f, args, ats, hop2⟩ : ∃ f args ats, o.op = .call { callee := .value f, args := args, argTypes := ats } := by
      unfold isCall at hc
      split at hc
      · rename_i c ; exact ⟨_, _, _, by assumption⟩
      · cases hc
    rw [hop2] at hco
    simp only [callOf] at hco
    split at hco
    · rename_i g' caps hf
      simp only [Option.some.injEq, Prod.mk.injEq] at hco
      obtain ⟨rfl, rfl⟩ := hco
      have h1 := he.ev f
      rw [hf] at h1
      obtain ⟨cvs, hcv, hcs, hcj⟩ : ∃ cvs : Array Value, a.eval f = .func (.func g') #[] cvs ∧ cvs.size = caps.length ∧ ∀ j, j < caps.length → VC w Fz ρ s.σ.length (cvs.getD j .nilIface) (caps.getD j .undef) := by
        have h2 : VC w Fz ρ s.σ.length (a.eval f) (.fn g' caps) := h1
        generalize a.eval f = v at h2
        cases h2 with
        | cr hcr =>
          cases hcr with
          | fn hs hj => exact ⟨_, rfl, hs, fun j hl => .cr (hj j hl)⟩
        | fn hs hj => exact ⟨_, rfl, hs, hj⟩
      have hrun : (execOp a.eval o).run P w = .ok (.enter g' (args.map a.eval ++ cvs)) w := by
        unfold execOp
        rw [hop2]
        simp only [resolve, hcv, Deferred.ofValue, Sem.run_bind, Sem.run_pure, Result.andThen_ok, invoke, callFunc, run_program, hfn]
        simp [hname, hbody]
      unfold Oper.wp
      rw [hrun]
      have hlen : (args.map a.eval ++ cvs).size = (args.toList.map (AM.ev s.env) ++ caps).length := by simp [hcs]
      refine (hdo w Fz ρ (args.map a.eval ++ cvs) hr hlen (fun j hj => ?_)).mono ?_
      · by_cases hja : j < args.size
        · have e1 : (args.map a.eval ++ cvs).getD j .nilIface = a.eval args[j] := by
            rw [Array.getD_eq_getD_getElem?, Array.getElem?_append_left (by simpa using hja)]
            simp [hja]
          have e2 : (args.toList.map (AM.ev s.env) ++ caps).getD j .undef = AM.ev s.env args[j] := by
            simp only [List.getD]
            rw [List.getElem?_append_left (by simpa using hja)]
            simp [hja]
          rw [e1, e2]
          exact he.ev _
        · have e1 : (args.map a.eval ++ cvs).getD j .nilIface = cvs.getD (j - args.size) .nilIface := by
            rw [Array.getD_eq_getD_getElem?, Array.getElem?_append_right (by simpa using Nat.le_of_not_lt hja)]
            simp [Array.getD_eq_getD_getElem?]
          have e2 : (args.toList.map (AM.ev s.env) ++ caps).getD j .undef = caps.getD (j - args.size) .undef := by
            simp only [List.getD]
            rw [List.getElem?_append_right (by simpa using Nat.le_of_not_lt hja)]
            simp
          rw [e1, e2]
          have hl : j - args.size < caps.length := by simp at hj; omega
          exact VR.of_VC (hcj _ hl)
      · rintro e w' ⟨v, r, σ', Fz', ρ', rfl, hR, hv, hr', hx⟩
        exact hK _ _ _ _ _ ⟨_, rfl⟩ (hk r σ' hR) hr' ((he.ext hx hr).put o.dst hdl hv) hx (by rw [put_defers, hd]) (by rw [put_size, hN])
    · cases hco
theorem callP_mono {P : Program} {f : FuncId} {as : List AV} {σ : List Ob} {K K' : AV × List Ob → Prop} (hk : ∀ r, K r → K' r) (h : @callP P f as σ ⟨K⟩) : @callP P f as σ ⟨K'⟩ := by
  obtain ⟨R, h1, h2⟩ := h
  exact ⟨R, h1, fun r σ' hr => hk _ (h2 r σ' hr)⟩
theorem bindP_mono {α : Type} {o : Option α} {K K' : α → Prop} (hk : ∀ r, K r → K' r) (h : @bindP α o ⟨K⟩) : @bindP α o ⟨K'⟩ := by
  obtain ⟨v, rfl, h⟩ := bindP_iff h
  exact hk v h
theorem Chk_mono {p : Prop} {K K' : Unit → Prop} (hk : K () → K' ()) (h : @Chk p ⟨K⟩) : @Chk p ⟨K'⟩ := ⟨h.1, hk h.2⟩
theorem ready_ne3 {ops : Array Oper} (low : ∀ (i : Nat) (o : Oper), ops[i]? = some o → ∀ e ∈ o.after, Region.binds .any e = true → e.on < i) {listed : Array Bool} (hsz : listed.size = ops.size) {j : Nat} (hj : j < ops.size) (hl : listed.getD j false = false) : ∃ i, i ∈ Region.ready .any ops listed ∧ i ≤ j := by
  induction j using Nat.strongRecOn with
  | _ j ih =>
    by_cases hk : ∃ k, k < j ∧ listed.getD k false = false
    · obtain ⟨k, hk1, hk2⟩ := hk
      obtain ⟨i, h1, h2⟩ := ih k hk1 (by omega) hk2
      exact ⟨i, h1, by omega⟩
    · refine ⟨j, mem_ready.2 ⟨?_, ops[j], by simp [hj], fun e he hb => ?_⟩, Nat.le_refl _⟩
      · have : listed.getD j true = listed.getD j false := by simp [Array.getD, hsz, hj]
        rw [this]; exact hl
      · have hlow := low j ops[j] (by simp [hj]) e he hb
        cases hq : listed.getD e.on false with
        | true => rfl
        | false => exact absurd ⟨e.on, hlow, hq⟩ hk
structure Seg (P : Program) (ops : Array Oper) (bs fs : List Nat) (K : St → Prop) (p k : Nat) (rs : List AV) (E : Env) (σ : List Ob) : Prop where
  hl : rs.length = k
  hk : p + k ≤ ops.size
  hg : ∀ j o, j < k → ops[p + j]? = some o → p + j ∉ fs → Gives P ops σ (envs E ((selfL fs 0 ops.toList).drop p) rs j) o (rs.getD j .undef)
  hgf : ∀ j o t, j < k → ops[p + j]? = some o → p + j ∈ fs → o.dst = some t → rs.getD j .undef = getE (envs E ((selfL fs 0 ops.toList).drop p) rs j) t
  hend : p + k = ops.size ∨ p + k ∈ bs
  hrest : wpb P ops bs (p + k) ((selfL fs 0 ops.toList).drop (p + k)) K ⟨envs E ((selfL fs 0 ops.toList).drop p) rs k, σ⟩
  hnb : ∀ j, j < k → p + j ∉ bs
theorem Seg.of {P : Program} {ops : Array Oper} {bs fs : List Nat} {K : St → Prop} {p : Nat} (hp : p ≤ ops.size) {E : Env} {σ : List Ob} (h : wpb P ops bs p ((selfL fs 0 ops.toList).drop p) K ⟨E, σ⟩) : ∃ k rs, Seg P ops bs fs K p k rs E σ := by
  obtain ⟨rs, k, h1, h2, h3, h4, h5, h6⟩ := wpb_gives3 _ _ _ h
  have hlen : ((selfL fs 0 ops.toList).drop p).length = ops.size - p := by simp [selfL_len]
  have hat : ∀ j o, ops[p + j]? = some o → ((selfL fs 0 ops.toList).drop p)[j]? = some (selfO fs (p + j) o) := fun j o ho => by
    rw [List.getElem?_drop, selfL_get]; simp [ho]
  rw [hlen] at h2 h4
  rw [List.drop_drop] at h5
  refine ⟨k, rs, h1, by omega, fun j o hj ho hf => ?_, fun j o t hj ho hf hd => ?_, h4.imp (fun h => by omega) id, h5, h6⟩
  · have := h3 j _ hj (hat j o ho)
    rwa [selfO_not hf] at this
  · have h7 := h3 j _ hj (hat j o ho)
    have hs : selfO fs (p + j) o = ⟨o.dst, .move (.tmp t), o.type, o.pos, o.after, none⟩ := by
      unfold selfO
      rw [show fs.contains (p + j) = true by simpa using hf, hd]
    rw [hs] at h7
    rcases h7 with ⟨_, ⟨_, q, hq, _⟩ | ⟨hq, _⟩⟩ | ⟨hq, _⟩
    · simp only [stepA, Option.some.injEq, Prod.mk.injEq] at hq
      exact hq.2.1.symm
    · cases hq
    · cases hq
structure Inv3 (ops : Array Oper) (fs : List Nat) (x : Nat) (E0 : Env) (p k : Nat) (rs : List AV) (E E1 : Env) (listed : Array Bool) : Prop where
  hsz : listed.size = ops.size
  hlo : ∀ j, j < p → j < ops.size → j ∉ fs → listed.getD j false = true
  hhi : ∀ j, p + k ≤ j → j ∉ fs → j ≠ x → listed.getD j false = false
  hc : Closed ops listed
  hb : ∀ t, (∀ j o, ops[j]? = some o → o.dst = some t → j ∉ fs ∧ ¬ (p ≤ j ∧ j < p + k ∧ listed.getD j false = true) ∧ ¬ (j = x ∧ p ≤ x ∧ listed.getD x false = true)) → getE E1 t = getE E t
  ht : ∀ j o t, ops[j]? = some o → p ≤ j → j < p + k → j ∉ fs → listed.getD j false = true → o.dst = some t → getE E1 t = rs.getD (j - p) .undef
  hf : ∀ j o t, ops[j]? = some o → j ∈ fs → listed.getD j false = true → o.dst = some t → getE E1 t = getE E0 t
  hE : ∀ t, (∀ j o, ops[j]? = some o → o.dst = some t → j ∈ fs ∨ p ≤ j) → getE E t = getE E0 t
theorem getE_put_ne {e : Env} {d : Option Tmp} {r : AV} {t : Nat} (h : d ≠ some t) : getE (putE e d r) t = getE e t := by
  cases d with
  | none => rfl
  | some u =>
    simp only [putE, getE]
    rw [if_neg (fun q => h (by rw [q]))]
theorem getE_put_eq {e : Env} {t : Tmp} {r : AV} : getE (putE e (some t) r) t = r := by simp [putE, getE]
theorem put_tmps_ne {a : Act} {d : Option Tmp} {v : Value} {t : Nat} (h : d ≠ some t) : (a.put d v).tmps[t]? = a.tmps[t]? := by
  cases d with
  | none => rfl
  | some u => simp only [Act.put]; rw [Array.getElem?_setIfInBounds_ne (fun q => h (by rw [q]))]
section
variable {P : Program} {N : Nat} {ops : Array Oper} {bs fs : List Nat} {x : Nat} {K : St → Prop} {E0 : Env} {p k : Nat} {rs : List AV} {E E1 : Env} {σ : List Ob} {listed : Array Bool}
theorem Seg.at' (j : Nat) (o : Oper) (ho : ops[p + j]? = some o) : ((selfL fs 0 ops.toList).drop p)[j]? = some (selfO fs (p + j) o) := by
  rw [List.getElem?_drop, selfL_get]; simp [ho]
theorem Seg.oth (D : DrawOk3 P N ops bs fs x) (i t : Nat) (hn : ∀ j o, ops[j]? = some o → o.dst = some t → ¬ (p ≤ j ∧ j < p + i)) : getE (envs E ((selfL fs 0 ops.toList).drop p) rs i) t = getE E t := by
  refine envs_other _ rs E i t (fun q o ho hd => ?_)
  rw [List.getElem?_drop, selfL_get] at ho
  cases ho' : ops.toList[p + q]? with
  | none => simp [ho'] at ho
  | some o' =>
    simp only [ho', Option.map_some, Option.some.injEq] at ho
    rw [← ho, selfO_dst] at hd
    have := hn (p + q) o' (by simpa using ho') hd
    omega
theorem envs_short : ∀ (l : List Oper) (rs : List AV) (e : Env) (i : Nat), rs.length ≤ l.length → i ≤ rs.length → envs e l rs i = envs e (l.take rs.length) rs i := by
  intro l
  induction l with
  | nil => intro rs e i h _; simp at h; subst h; rfl
  | cons o l ih =>
    intro rs e i h hi
    cases rs with
    | nil => have : i = 0 := by simpa using hi
             subst this; rfl
    | cons r rs =>
      cases i with
      | zero => rfl
      | succ i => exact ih rs _ i (by simpa using h) (by simpa using hi)
theorem Seg.dst (D : DrawOk3 P N ops bs fs x) (S : Seg P ops bs fs K p k rs E σ) (i t j : Nat) (o : Oper) (ho : ops[j]? = some o) (hdt : o.dst = some t) (hpj : p ≤ j) (hji : j < p + i) (hik : i ≤ k) : getE (envs E ((selfL fs 0 ops.toList).drop p) rs i) t = rs.getD (j - p) .undef := by
  have hlen : ((selfL fs 0 ops.toList).drop p).length = ops.size - p := by simp [selfL_len]
  have h1 := S.hl
  have h2 := S.hk
  rw [envs_short _ rs E i (by omega) (by omega)]
  have hat := Seg.at' (p := p) (fs := fs) (j - p) o (by rw [show p + (j - p) = j by omega]; exact ho)
  refine envs_dst _ rs E i t (j - p) (selfO fs (p + (j - p)) o) (by rw [List.length_take, hlen]; omega) (fun q o' ho' hd' => ?_) ?_ (by rw [selfO_dst]; exact hdt) (by omega)
  · rw [List.getElem?_take] at ho'
    split at ho'
    · rw [List.getElem?_drop, selfL_get] at ho'
      cases ho2 : ops.toList[p + q]? with
      | none => simp [ho2] at ho'
      | some o2 =>
        simp only [ho2, Option.map_some, Option.some.injEq] at ho'
        rw [← ho', selfO_dst] at hd'
        have := D.dis j (p + q) o o2 t ho (by simpa using ho2) hdt hd'
        omega
    · cases ho'
  · rw [List.getElem?_take, if_pos (by omega)]; exact hat
theorem Seg.fr (D : DrawOk3 P N ops bs fs x) (S : Seg P ops bs fs K p k rs E σ) (i t j : Nat) (o : Oper) (ho : ops[j]? = some o) (hdt : o.dst = some t) (hj : j ∈ fs) (hik : i ≤ k) : getE (envs E ((selfL fs 0 ops.toList).drop p) rs i) t = getE E t := by
  by_cases hin : p ≤ j ∧ j < p + i
  · rw [S.dst D i t j o ho hdt hin.1 hin.2 hik, S.hgf (j - p) o t (by omega) (by rw [show p + (j - p) = j by omega]; exact ho) (by rw [show p + (j - p) = j by omega]; exact hj) hdt]
    exact Seg.oth D _ t (fun j' o' ho' hd' => by have := D.dis j j' o o' t ho ho' hdt hd'; omega)
  · exact Seg.oth D _ t (fun j' o' ho' hd' => by have := D.dis j j' o o' t ho ho' hdt hd'; subst this; exact hin)
theorem Inv3.use (D : DrawOk3 P N ops bs fs x) (S : Seg P ops bs fs K p k rs E σ) (I : Inv3 ops fs x E0 p k rs E E1 listed) {i : Nat} {o : Oper} (ho : ops[i]? = some o) (hpi : p ≤ i) (hik : i ≤ p + k) (hif : i ∉ fs) (hli : listed.getD i false = false) (hreach : ∀ j, Reach ops i j → listed.getD j false = true) :
    ∀ t ∈ tmpsU ops o, getE E1 t = getE (envs E ((selfL fs 0 ops.toList).drop p) rs (i - p)) t := fun t htU => by
  by_cases hd : ∃ (j : Nat) (o' : Oper), ops[j]? = some o' ∧ o'.dst = some t
  · obtain ⟨j, o', ho', hdt⟩ := hd
    have huniq : ∀ (j' : Nat) (o2 : Oper), ops[j']? = some o2 → o2.dst = some t → j' = j := fun j' o2 ho2 hd2 => D.dis j j' o' o2 t ho' ho2 hdt hd2
    rcases D.useN i o t j o' ho htU ho' hdt hif with ⟨hjf, hr⟩ | ⟨hjf, ⟨hji, hr⟩ | ⟨hji, hr⟩⟩
    · rw [I.hf j o' t ho' hjf (hreach j hr) hdt, S.fr D (i - p) t j o' ho' hdt hjf (by omega)]
      exact (I.hE t (fun j' o2 ho2 hd2 => .inl (huniq j' o2 ho2 hd2 ▸ hjf))).symm
    · by_cases hpj : p ≤ j
      · rw [S.dst D (i - p) t j o' ho' hdt hpj (by omega) (by omega), I.ht j o' t ho' hpj (by omega) hjf (hreach j hr) hdt]
      · rw [Seg.oth D (i - p) t (fun j' o2 ho2 hd2 h => by have := huniq j' o2 ho2 hd2; omega)]
        refine I.hb t (fun j' o2 ho2 hd2 => ?_)
        have := huniq j' o2 ho2 hd2
        subst this
        exact ⟨hjf, fun h => by omega, fun h => by omega⟩
    · have hnl : listed.getD j false = false := by
        cases hq : listed.getD j false with
        | false => rfl
        | true =>
          have := I.hc.of hr hq
          rw [hli] at this; cases this
      rw [Seg.oth D (i - p) t (fun j' o2 ho2 hd2 h => by have := huniq j' o2 ho2 hd2; omega)]
      refine I.hb t (fun j' o2 ho2 hd2 => ?_)
      have := huniq j' o2 ho2 hd2
      subst this
      refine ⟨hjf, fun h => ?_, fun h => ?_⟩
      · rw [hnl] at h; cases h.2.2
      · rw [← h.1, hnl] at h; cases h.2.2
  · have hn : ∀ (j : Nat) (o : Oper), ops[j]? = some o → o.dst = some t → False := fun j o ho hdt => hd ⟨j, o, ho, hdt⟩
    rw [Seg.oth D (i - p) t (fun j o ho hdt => (hn j o ho hdt).elim)]
    exact I.hb t (fun j o ho hdt => (hn j o ho hdt).elim)
theorem Inv3.done (D : DrawOk3 P N ops bs fs x) (S : Seg P ops bs fs K p k rs E σ) (I : Inv3 ops fs x E0 p k rs E E1 listed) (hall : ∀ j, p ≤ j → j < p + k → j ∉ fs → listed.getD j false = true) (t : Nat)
    (h : ∀ j o, ops[j]? = some o → o.dst = some t → (j ∈ fs → listed.getD j false = true) ∧ ¬ (j = x ∧ p + k ≤ x ∧ listed.getD x false = true)) : getE E1 t = getE (envs E ((selfL fs 0 ops.toList).drop p) rs k) t := by
  by_cases hd : ∃ (j : Nat) (o' : Oper), ops[j]? = some o' ∧ o'.dst = some t
  · obtain ⟨j, o', ho', hdt⟩ := hd
    have huniq : ∀ (j' : Nat) (o2 : Oper), ops[j']? = some o2 → o2.dst = some t → j' = j := fun j' o2 ho2 hd2 => D.dis j j' o' o2 t ho' ho2 hdt hd2
    obtain ⟨h1, h2⟩ := h j o' ho' hdt
    by_cases hjf : j ∈ fs
    · rw [I.hf j o' t ho' hjf (h1 hjf) hdt, S.fr D k t j o' ho' hdt hjf (Nat.le_refl _)]
      exact (I.hE t (fun j' o2 ho2 hd2 => .inl (huniq j' o2 ho2 hd2 ▸ hjf))).symm
    · by_cases hin : p ≤ j ∧ j < p + k
      · rw [S.dst D k t j o' ho' hdt hin.1 hin.2 (Nat.le_refl _), I.ht j o' t ho' hin.1 hin.2 hjf (hall j hin.1 hin.2 hjf) hdt]
      · rw [Seg.oth D k t (fun j' o2 ho2 hd2 => by have := huniq j' o2 ho2 hd2; subst this; exact hin)]
        refine I.hb t (fun j' o2 ho2 hd2 => ?_)
        have := huniq j' o2 ho2 hd2
        subst this
        refine ⟨hjf, fun h => hin ⟨h.1, h.2.1⟩, fun h => h2 ⟨h.1, ?_, h.2.2⟩⟩
        have := h.1
        have := h.2.1
        omega
  · have hn : ∀ (j : Nat) (o : Oper), ops[j]? = some o → o.dst = some t → False := fun j o ho hdt => hd ⟨j, o, ho, hdt⟩
    rw [Seg.oth D k t (fun j o ho hdt => (hn j o ho hdt).elim)]
    exact I.hb t (fun j o ho hdt => (hn j o ho hdt).elim)
theorem Closed.set (hc : Closed ops listed) (hsz : listed.size = ops.size) {i : Nat} {o : Oper} (ho : ops[i]? = some o) (hpre : ∀ e ∈ o.after, Region.binds .any e = true → listed.getD e.on false = true) : Closed ops (listed.setIfInBounds i true) := by
  intro j o' e' ho' hlj he' hb'
  have his := (Array.getElem?_eq_some_iff.1 ho).1
  have hold : listed.getD e'.on false = true := by
    by_cases hji : i = j
    · subst hji; rw [ho] at ho'; cases ho'; exact hpre e' he' hb'
    · rw [getD_set_ne false hji] at hlj; exact hc j o' e' ho' hlj he' hb'
  exact getD_set_true hold
end
end Go.AM
end
section
namespace Go.AM
theorem draw3_ok {P : Program} {N B id : Nat} {ops : Array Oper} (bs fs : List Nat) (x : Nat) {Q : AEx → St → Prop} {s : St} (hm : P.follows .mixedOrders = true) (hB : drawB3 P N ops bs fs x = true)
    (h : wpf P fs 0 ops.toList (fun s' => wpb P ops bs 0 (selfL fs 0 ops.toList) (fun s'' => Q .normal s'') s') s) : Ok P N B (.region id ops true) Q s := by
  intro hBl w0 Fz0 ρ0 a0 hr0 he0 hd0 hN0
  have D := drawB3_ok hB
  refine wp_region_any hm ?_
  obtain ⟨hx0, hr1⟩ := drawn_ok hr0
  have he1 := he0.ext hx0 hr0
  obtain ⟨e0, σ0⟩ := s
  obtain ⟨E0, hw0, hE0, hfree⟩ := wpf_gives D ops.toList 0 e0 (fun q => by simp) h
  have hlist : ∀ {listed : Array Bool} {j : Nat}, listed.size = ops.size → j < ops.size → listed.getD j true = listed.getD j false := fun h1 h2 => by
    simp [Array.getD, h1, h2]
  simp only at hr0 he0 hr1 he1 hx0 hBl
  have hselfset : ∀ {listed : Array Bool} {i : Nat}, listed.size = ops.size → i < ops.size → (listed.setIfInBounds i true).getD i false = true := fun h1 h2 => by simp [Array.getD, h1, h2]
  let K : St → Prop := fun s'' => Q .normal s''
  let T : Nat → Prop := fun n => ∀ (S : List Nat) (listed : Array Bool) (p k : Nat) (rs : List AV) (E E1 : Env) (σ : List Ob) (Fz : Nat → Prop) (ρ : Nat → Nat × Nat) (a : Act) (w : World),
    S.length = n → S.Nodup → (∀ j, j ∈ S ↔ (j < ops.size ∧ listed.getD j false = false)) → Inv3 ops fs x E0 p k rs E E1 listed → Seg P ops bs fs K p k rs E σ →
    Rel Fz ρ σ w → EnvR w Fz ρ σ.length a E1 → ExtB B Fz0 ρ0 σ0 w0 Fz ρ σ w → a.defers = [] → a.tmps.size = N →
    (x < ops.size → p ≤ x → listed.getD x false = true → ∀ o t d, ops[x]? = some o → o.op = .alloc t → o.dst = some d → PA Fz ρ σ a w0.heap.size w d (zeroT P t)) →
    wpAny P .any ops (Lift N B Fz0 ρ0 σ0 w0 Q) n listed a w
  have step : ∀ n, (∀ m, m + 1 = n → T m) → ∀ (S : List Nat) (listed : Array Bool) (p k : Nat) (rs : List AV) (E E1 : Env) (σ : List Ob) (Fz : Nat → Prop) (ρ : Nat → Nat × Nat) (a : Act) (w : World),
      ¬ (p + k = x ∧ x < ops.size ∧ listed.getD x false = true ∧ ∀ j, p ≤ j → j < p + k → j ∉ fs → listed.getD j false = true) →
      S.length = n → S.Nodup → (∀ j, j ∈ S ↔ (j < ops.size ∧ listed.getD j false = false)) → Inv3 ops fs x E0 p k rs E E1 listed → Seg P ops bs fs K p k rs E σ →
      Rel Fz ρ σ w → EnvR w Fz ρ σ.length a E1 → ExtB B Fz0 ρ0 σ0 w0 Fz ρ σ w → a.defers = [] → a.tmps.size = N →
      (x < ops.size → p ≤ x → listed.getD x false = true → ∀ o t d, ops[x]? = some o → o.op = .alloc t → o.dst = some d → PA Fz ρ σ a w0.heap.size w d (zeroT P t)) →
      wpAny P .any ops (Lift N B Fz0 ρ0 σ0 w0 Q) n listed a w := by
    intro n IH S listed p k rs E E1 σ Fz ρ a w hnorm hS hnd hSi I G r e xt d nn hPA
    have hsz := I.hsz
    cases n with
    | zero =>
      have hS0 : S = [] := List.eq_nil_of_length_eq_zero hS
      subst hS0
      have hall : ∀ j, j < ops.size → listed.getD j false = true := fun j hj => by
        cases hq : listed.getD j false with
        | true => rfl
        | false => exact absurd ((hSi j).2 ⟨hj, hq⟩) (by simp)
      have hk := G.hk
      have hpk : p + k = ops.size := by
        rcases Nat.lt_or_ge (p + k) ops.size with hlt | hge
        · exfalso
          have hb : p + k ∈ bs := G.hend.resolve_left (by omega)
          have hnf : p + k ∉ fs := fun hf => (D.free (p + k) ops[p + k] (by simp [hlt]) hf).2.2.1 hb
          by_cases hx : p + k = x
          · exact hnorm ⟨hx, by omega, hall x (by omega), fun j _ h2 _ => hall j (by omega)⟩
          · have := I.hhi (p + k) (Nat.le_refl _) hnf hx
            rw [hall _ hlt] at this; cases this
        · omega
      have heq : ∀ t, getE E1 t = getE (envs E ((selfL fs 0 ops.toList).drop p) rs k) t := fun t =>
        I.done D G (fun j _ h2 _ => hall j (by omega)) t (fun j o ho _ => ⟨fun _ => hall j (Array.getElem?_eq_some_iff.1 ho).1, fun h => by have := (Array.getElem?_eq_some_iff.1 ho).1; omega⟩)
      refine ⟨List.eq_nil_iff_forall_not_mem.2 fun j hj => ?_, .normal, ⟨_, σ⟩, Fz, ρ, rfl, ?_, r, fun t => by rw [← heq t]; exact e t, xt, d, nn⟩
      · obtain ⟨h1, o, ho, _⟩ := mem_ready.1 hj
        have hjs := (Array.getElem?_eq_some_iff.1 ho).1
        rw [hlist hsz hjs, hall j hjs] at h1
        cases h1
      · have hd0 : (selfL fs 0 ops.toList).drop (p + k) = [] := by rw [List.drop_eq_nil_iff, selfL_len]; simp; omega
        have := G.hrest
        rw [hd0] at this
        exact this
    | succ n =>
      have IH' := IH n rfl
      obtain ⟨j0, hj0⟩ : ∃ j, j ∈ S := by cases S with | nil => simp at hS | cons j _ => exact ⟨j, by simp⟩
      obtain ⟨hj0s, hj0l⟩ := (hSi j0).1 hj0
      refine ⟨fun h0 => ?_, fun i hi => ?_⟩
      · obtain ⟨i, h1, _⟩ := ready_ne3 D.low hsz hj0s hj0l
        rw [h0] at h1; cases h1
      obtain ⟨hli, o, ho, hpre⟩ := mem_ready.1 hi
      have his := (Array.getElem?_eq_some_iff.1 ho).1
      rw [hlist hsz his] at hli
      have hreach : ∀ j, Reach ops i j → listed.getD j false = true := fun j hj => I.hc.reach hj (fun o' e' ho' he' hb' => by rw [ho] at ho'; cases ho'; exact hpre e' he' hb')
      have hop := D.ok i o ho
      have hiS : i ∈ S := (hSi i).2 ⟨his, hli⟩
      have hself := hselfset hsz his
      have hS2 : (S.erase i).length = n := by rw [List.length_erase_of_mem hiS]; omega
      have hSi2 : ∀ j, j ∈ S.erase i ↔ (j < ops.size ∧ (listed.setIfInBounds i true).getD j false = false) := fun j => by
        rw [hnd.mem_erase_iff, hSi j]
        by_cases hji : i = j
        · subst hji
          rw [hself]
          exact ⟨fun h => absurd rfl h.1, fun h => by cases h.2⟩
        · rw [getD_set_ne false hji]
          exact ⟨fun h => h.2, fun h => ⟨Ne.symm hji, h⟩⟩
      have hc2 := I.hc.set hsz ho hpre
      have hsz2 : (listed.setIfInBounds i true).size = ops.size := by simpa using hsz
      have hk := G.hk
      have hdne : ∀ j o' t, ops[j]? = some o' → o'.dst = some t → j ≠ i → o.dst ≠ some t := fun j o' t ho' hd' hne hd => hne (D.dis i j o o' t ho ho' hd hd')
      have reads : ∀ (R : AV) (E1' : Env), E1' = putE E1 o.dst R → Gives P ops σ E1 o R → Inv3 ops fs x E0 p k rs E E1' (listed.setIfInBounds i true) → i ≠ x → wpOp P ops (Lift N B Fz0 ρ0 σ0 w0 Q) i (wpAny P .any ops (Lift N B Fz0 ρ0 σ0 w0 Q) n (listed.setIfInBounds i true)) a w := by
        intro R E1' hE1 hgv I2 hix
        have hnext : ∀ (Fz2 : Nat → Prop) (ρ2 : Nat → Nat × Nat) (a2 : Act) (w2 : World), (∃ v, a2 = a.put o.dst v) → Rel Fz2 ρ2 σ w2 → EnvR w2 Fz2 ρ2 σ.length a2 (putE E1 o.dst R) → Ext Fz ρ σ w Fz2 ρ2 σ w2 → a2.defers = [] → a2.tmps.size = N →
            wpAny P .any ops (Lift N B Fz0 ρ0 σ0 w0 Q) n (listed.setIfInBounds i true) a2 w2 := fun Fz2 ρ2 a2 w2 ha2 r2 e2 x2 d2 n2 => by
          refine IH' (S.erase i) _ p k rs E E1' σ Fz2 ρ2 a2 w2 hS2 (hnd.erase i) hSi2 I2 G r2 (hE1 ▸ e2) (xt.trans (x2.toB xt.len)) d2 n2 (fun h1 h2 h3 o' t' d' ho' hop' hd' => ?_)
          rw [getD_set_ne false hix] at h3
          obtain ⟨v, rfl⟩ := ha2
          exact (hPA h1 h2 h3 o' t' d' ho' hop' hd').step x2 (put_tmps_ne (hdne x o' d' ho' hd' (Ne.symm hix)))
        unfold Gives at hgv
        unfold wpOp
        simp only [ho]
        rcases hgv with ⟨hb1, hgv⟩ | ⟨hb1, hrv⟩
        · rw [wanted_of e hb1]
          simp only [if_true]
          refine .inl (oper_wp2 (s := ⟨E1, σ⟩) hop r e d nn (K := fun s' => s' = ⟨putE E1 o.dst R, σ⟩) (fun s' Fz2 ρ2 a2 w2 ha2 hs' r2 e2 x2 d2 n2 => ?_) ?_)
          · subst hs'
            exact hnext Fz2 ρ2 a2 w2 ha2 r2 e2 x2 d2 n2
          · rcases hgv with ⟨hc, p', hst, hp'⟩ | ⟨hc, f, as, hco, as', r', k1, k2, k3, k4, k5⟩
            · rw [hc]
              simp only [hst]
              exact ⟨hp', rfl⟩
            · rw [hc]
              simp only [hco]
              exact call_pure k1 k2 k3 (by rw [k4, k5])
        · rw [wanted_of e hb1]
          simp only [Bool.false_eq_true, if_false]
          have hu : VR w Fz ρ σ.length undef (.tup []) := ⟨#[], rfl, rfl, fun j hj => absurd hj (by simp)⟩
          rw [hrv] at hnext
          exact hnext Fz ρ _ w ⟨_, rfl⟩ r (e.put o.dst (dst_lt hop nn) hu) (Ext.refl _ _ _ _) (by rw [put_defers, d]) (by rw [put_size, nn])
      by_cases hif : i ∈ fs
      · -- a free one
        obtain ⟨-, -, hibs, hix, dd, hdd⟩ := D.free i o ho hif
        obtain ⟨R, hR, hgv⟩ := hfree i o ho hif (Nat.zero_le _)
        refine reads R _ rfl (hgv σ E1 fun t ht => ?_) ?_ hix
        · by_cases hd : ∃ (j : Nat) (o' : Oper), ops[j]? = some o' ∧ o'.dst = some t
          · obtain ⟨j, o', ho', hdt⟩ := hd
            have huniq : ∀ (j' : Nat) (o2 : Oper), ops[j']? = some o2 → o2.dst = some t → j' = j := fun j' o2 ho2 hd2 => D.dis j j' o' o2 t ho' ho2 hdt hd2
            rcases D.useF i o t j o' ho ht ho' hdt hif with ⟨hjf, _, hr⟩ | ⟨hjf, hr⟩
            · exact I.hf j o' t ho' hjf (hreach j hr) hdt
            · have hnl : listed.getD j false = false := by
                cases hq : listed.getD j false with
                | false => rfl
                | true =>
                  have := I.hc.of hr hq
                  rw [hli] at this; cases this
              have hpj : p ≤ j := Nat.le_of_not_lt fun hlt => by
                rw [I.hlo j hlt (Array.getElem?_eq_some_iff.1 ho').1 hjf] at hnl; cases hnl
              rw [I.hb t (fun j' o2 ho2 hd2 => by
                have := huniq j' o2 ho2 hd2
                subst this
                refine ⟨hjf, fun h => ?_, fun h => ?_⟩
                · rw [hnl] at h; cases h.2.2
                · rw [← h.1, hnl] at h; cases h.2.2)]
              exact I.hE t (fun j' o2 ho2 hd2 => .inr (huniq j' o2 ho2 hd2 ▸ hpj))
          · have hn : ∀ (j : Nat) (o : Oper), ops[j]? = some o → o.dst = some t → False := fun j o ho hdt => hd ⟨j, o, ho, hdt⟩
            rw [I.hb t (fun j o ho hdt => (hn j o ho hdt).elim)]
            exact I.hE t (fun j o ho hdt => (hn j o ho hdt).elim)
        · exact
          { hsz := hsz2
            hlo := fun j h1 h2 h3 => getD_set_true (I.hlo j h1 h2 h3)
            hhi := fun j h1 h2 h3 => by rw [getD_set_ne false (show i ≠ j from fun q => h2 (q ▸ hif))]; exact I.hhi j h1 h2 h3
            hc := hc2
            hb := fun t ht => by
              have hne : ∀ j o', ops[j]? = some o' → o'.dst = some t → j ≠ i := fun j o' ho' hd' q => (ht j o' ho' hd').1 (q ▸ hif)
              rw [getE_put_ne (fun q => hne i o ho q rfl)]
              exact I.hb t (fun j o' ho' hd' => by
                have h1 := ht j o' ho' hd'
                have h2 := hne j o' ho' hd'
                rw [getD_set_ne false (Ne.symm h2), getD_set_ne false hix] at h1
                exact h1)
            ht := fun j o' t ho' h1 h2 h3 h4 h5 => by
              have hne : j ≠ i := fun q => h3 (q ▸ hif)
              rw [getD_set_ne false (Ne.symm hne)] at h4
              rw [getE_put_ne (hdne j o' t ho' h5 hne)]
              exact I.ht j o' t ho' h1 h2 h3 h4 h5
            hf := fun j o' t ho' h1 h2 h3 => by
              by_cases hne : j = i
              · subst hne
                rw [ho] at ho'; cases ho'
                rw [h3, getE_put_eq]
                exact (hR t h3).symm
              · rw [getD_set_ne false (Ne.symm hne)] at h2
                rw [getE_put_ne (hdne j o' t ho' h3 hne)]
                exact I.hf j o' t ho' h1 h2 h3
            hE := I.hE }
      have hip : p ≤ i := Nat.le_of_not_lt fun h1 => by rw [I.hlo i h1 his hif] at hli; cases hli
      by_cases hix : i = x
      · -- the variable
        subst hix
        obtain ⟨hxb, o', tt, dd, ho', hopx, hgx, hddx⟩ := D.early his
        rw [ho] at ho'; cases ho'
        have hxk : p + k ≤ i := Nat.le_of_not_lt fun h1 => by
          have := G.hnb (i - p) (by omega)
          rw [show p + (i - p) = i by omega] at this
          exact this hxb
        have hty : tyOk P tt = true := by
          have := hop
          simp only [operOk, Bool.and_eq_true, hopx, opTy] at this
          exact this.1
        obtain ⟨v, w2, k1, k2, k3, k4⟩ := PA.make r hty hopx (d := dd) (a := a) (dst_lt hop nn dd hddx) (m0 := w0.heap.size) xt.size
        unfold wpOp
        simp only [ho]
        rw [wanted_of e (b := true) (by rw [hgx]; rfl)]
        simp only [if_true]
        refine .inl ?_
        unfold Oper.wp
        rw [k1]
        simp only [Oper.upon]
        rw [hddx]
        have hne : ∀ j o' t, ops[j]? = some o' → o'.dst = some t → j ≠ i → some dd ≠ some t := fun j o' t ho' hd' hne => by rw [← hddx]; exact hdne j o' t ho' hd' hne
        refine IH' (S.erase i) _ p k rs E (putE E1 (some dd) .undef) σ Fz ρ _ w2 hS2 (hnd.erase i) hSi2 ?_ G k2 ((e.ext k3 r).put (some dd) (by rw [← hddx]; exact dst_lt hop nn) trivial) (xt.trans (k3.toB xt.len)) (by rw [put_defers, d]) (by rw [put_size, nn]) (fun _ _ _ o2 t2 d2 ho2 hop2 hd2 => ?_)
        · exact
          { hsz := hsz2
            hlo := fun j h1 h2 h3 => getD_set_true (I.hlo j h1 h2 h3)
            hhi := fun j h1 h2 h3 => by rw [getD_set_ne false (Ne.symm h3)]; exact I.hhi j h1 h2 h3
            hc := hc2
            hb := fun t ht => by
              have hn : ∀ j o', ops[j]? = some o' → o'.dst = some t → j ≠ i := fun j o' ho' hd' q => by
                have := (ht j o' ho' hd').2.2
                exact this ⟨q, hip, hself⟩
              rw [getE_put_ne (fun q => hn i o ho (hddx.trans q) rfl)]
              exact I.hb t (fun j o' ho' hd' => by
                have h1 := ht j o' ho' hd'
                have h2 := hn j o' ho' hd'
                rw [getD_set_ne false (Ne.symm h2)] at h1
                exact ⟨h1.1, h1.2.1, fun q => h2 q.1⟩)
            ht := fun j o' t ho' h1 h2 h3 h4 h5 => by
              have hn : j ≠ i := by omega
              rw [getD_set_ne false (Ne.symm hn)] at h4
              rw [getE_put_ne (hne j o' t ho' h5 hn)]
              exact I.ht j o' t ho' h1 h2 h3 h4 h5
            hf := fun j o' t ho' h1 h2 h3 => by
              have hn : j ≠ i := fun q => hif (q ▸ h1)
              rw [getD_set_ne false (Ne.symm hn)] at h2
              rw [getE_put_ne (hne j o' t ho' h3 hn)]
              exact I.hf j o' t ho' h1 h2 h3
            hE := I.hE }
        · rw [ho] at ho2; cases ho2
          rw [hopx] at hop2; cases hop2
          rw [hddx] at hd2; cases hd2
          exact k4
      by_cases hik : i < p + k
      · -- one that reads
        have hU := I.use D G ho hip (Nat.le_of_lt hik) hif hli hreach
        have hgv := (G.hg (i - p) o (by omega) (by rw [show p + (i - p) = i by omega]; exact ho) (by rw [show p + (i - p) = i by omega]; exact hif)).same hU
        refine reads _ _ rfl hgv ?_ hix
        exact
          { hsz := hsz2
            hlo := fun j h1 h2 h3 => getD_set_true (I.hlo j h1 h2 h3)
            hhi := fun j h1 h2 h3 => by rw [getD_set_ne false (by omega)]; exact I.hhi j h1 h2 h3
            hc := hc2
            hb := fun t ht => by
              have hn : ∀ j o', ops[j]? = some o' → o'.dst = some t → j ≠ i := fun j o' ho' hd' q => by
                have := (ht j o' ho' hd').2.1
                exact this ⟨by omega, by omega, by rw [q]; exact hself⟩
              rw [getE_put_ne (fun q => hn i o ho q rfl)]
              exact I.hb t (fun j o' ho' hd' => by
                have h1 := ht j o' ho' hd'
                have h2 := hn j o' ho' hd'
                rw [getD_set_ne false (Ne.symm h2), getD_set_ne false hix] at h1
                exact h1)
            ht := fun j o' t ho' h1 h2 h3 h4 h5 => by
              by_cases hn : j = i
              · subst hn
                rw [ho] at ho'; cases ho'
                rw [h5, getE_put_eq]
              · rw [getD_set_ne false (Ne.symm hn)] at h4
                rw [getE_put_ne (hdne j o' t ho' h5 hn)]
                exact I.ht j o' t ho' h1 h2 h3 h4 h5
            hf := fun j o' t ho' h1 h2 h3 => by
              have hn : j ≠ i := fun q => hif (q ▸ h1)
              rw [getD_set_ne false (Ne.symm hn)] at h2
              rw [getE_put_ne (hdne j o' t ho' h3 hn)]
              exact I.hf j o' t ho' h1 h2 h3
            hE := I.hE }
      have hend : p + k ∈ bs := G.hend.resolve_left (by omega)
      have hpkf : p + k ∉ fs := fun hf => (D.free (p + k) ops[p + k] (by simp) hf).2.2.1 hend
      have hib : i = p + k := by
        refine Nat.le_antisymm (Nat.le_of_not_lt fun hlt => ?_) (by omega)
        by_cases hx : p + k = x
        · refine hnorm ⟨hx, by omega, hreach x (hx ▸ D.barGt _ hend i hlt his hif hix), fun j h1 h2 h3 => hreach j (D.cut (by omega) i j (by omega) his hif (by omega) h3)⟩
        · have := hreach _ (D.barGt _ hend i hlt his hif hix)
          rw [I.hhi (p + k) (Nat.le_refl _) hpkf hx] at this
          cases this
      subst hib
      have hall : ∀ j, p ≤ j → j < p + k → j ∉ fs → listed.getD j false = true := fun j h1 h2 h3 => hreach j (D.barLt _ hend hix j h2 (by omega) h3)
      have hU := I.use D G ho hip (Nat.le_refl _) hif hli hreach
      rw [show p + k - p = k by omega] at hU
      have hcons : (selfL fs 0 ops.toList).drop (p + k) = o :: (selfL fs 0 ops.toList).drop (p + k + 1) := by
        have hlt : p + k < (selfL fs 0 ops.toList).length := by rw [selfL_len]; simpa using his
        rw [List.drop_eq_getElem_cons hlt]
        congr 1
        have h1 : (selfL fs 0 ops.toList)[p + k]? = some (selfO fs (0 + (p + k)) o) := by rw [selfL_get]; simp [ho]
        rw [List.getElem?_eq_getElem hlt, Nat.zero_add, selfO_not hif] at h1
        exact Option.some.inj h1
      have hrest := G.hrest
      rw [hcons] at hrest
      obtain ⟨bb, hbb, hrest⟩ := onB_iff hrest
      have hbb1 : guardB ops E1 o.guard = .bool bb := by rw [guard_same hU]; exact hbb
      have behind : ∀ (R : AV) (σ' : List Ob) (Fz2 : Nat → Prop) (ρ2 : Nat → Nat × Nat) (a2 : Act) (w2 : World), (∃ v, a2 = a.put o.dst v) → wpb P ops bs (p + k + 1) ((selfL fs 0 ops.toList).drop (p + k + 1)) K ⟨putE (envs E ((selfL fs 0 ops.toList).drop p) rs k) o.dst R, σ'⟩ →
          Rel Fz2 ρ2 σ' w2 → EnvR w2 Fz2 ρ2 σ'.length a2 (putE E1 o.dst R) → Ext Fz ρ σ w Fz2 ρ2 σ' w2 → a2.defers = [] → a2.tmps.size = N → wpAny P .any ops (Lift N B Fz0 ρ0 σ0 w0 Q) n (listed.setIfInBounds (p + k) true) a2 w2 := by
        intro R σ' Fz2 ρ2 a2 w2 ha2 hk2 r2 e2 x2 d2 n2
        obtain ⟨k', rs', G2⟩ := Seg.of (by omega) hk2
        have hxn : ∀ j, p + k + 1 ≤ j → j < p + k + 1 + k' → x < ops.size → j ≠ x := fun j h1 h2 h3 h4 => by
          have := G2.hnb (j - (p + k + 1)) (by omega)
          rw [show p + k + 1 + (j - (p + k + 1)) = j by omega, h4] at this
          exact this (D.early h3).1
        refine IH' (S.erase (p + k)) _ (p + k + 1) k' rs' _ (putE E1 o.dst R) σ' Fz2 ρ2 a2 w2 hS2 (hnd.erase _) hSi2 ?_ G2 r2 e2 (xt.trans (x2.toB xt.len)) d2 n2 (fun h1 h2 h3 o' t' d' ho' hop' hd' => ?_)
        · exact
          { hsz := hsz2
            hlo := fun j h1 h2 h3 => by
              by_cases hj : j = p + k
              · subst hj; exact hself
              · by_cases hjp : j < p
                · exact getD_set_true (I.hlo j hjp h2 h3)
                · exact getD_set_true (hall j (by omega) (by omega) h3)
            hhi := fun j h1 h2 h3 => by rw [getD_set_ne false (by omega)]; exact I.hhi j (by omega) h2 h3
            hc := hc2
            hb := fun t ht => by
              by_cases hdt : o.dst = some t
              · rw [hdt, getE_put_eq, getE_put_eq]
              · rw [getE_put_ne hdt, getE_put_ne hdt]
                refine I.done D G hall t (fun j o' ho' hd' => ?_)
                have h1 := ht j o' ho' hd'
                refine ⟨fun h => absurd h h1.1, fun h => h1.2.2 ⟨h.1, by omega, by rw [getD_set_ne false hix]; exact h.2.2⟩⟩
            ht := fun j o' t ho' h1 h2 h3 h4 h5 => by
              exfalso
              rw [getD_set_ne false (by omega)] at h4
              have hjs := (Array.getElem?_eq_some_iff.1 ho').1
              by_cases hjx : j = x
              · exact hxn j h1 h2 (by omega) hjx
              · rw [I.hhi j (by omega) h3 hjx] at h4; cases h4
            hf := fun j o' t ho' h1 h2 h3 => by
              have hn : j ≠ p + k := fun q => hif (q ▸ h1)
              rw [getD_set_ne false (Ne.symm hn)] at h2
              rw [getE_put_ne (hdne j o' t ho' h3 hn)]
              exact I.hf j o' t ho' h1 h2 h3
            hE := fun t ht => by
              have hdt : o.dst ≠ some t := fun q => by
                rcases ht _ o ho q with h | h
                · exact hif h
                · omega
              rw [getE_put_ne hdt]
              by_cases hd : ∃ (j : Nat) (o' : Oper), ops[j]? = some o' ∧ o'.dst = some t
              · obtain ⟨j, o', ho', hd'⟩ := hd
                have huniq : ∀ (j' : Nat) (o2 : Oper), ops[j']? = some o2 → o2.dst = some t → j' = j := fun j' o2 ho2 hd2 => D.dis j j' o' o2 t ho' ho2 hd' hd2
                rcases ht j o' ho' hd' with h | h
                · rw [G.fr D k t j o' ho' hd' h (Nat.le_refl _)]
                  exact I.hE t (fun j' o2 ho2 hd2 => .inl (huniq j' o2 ho2 hd2 ▸ h))
                · rw [Seg.oth D k t (fun j' o2 ho2 hd2 => by have := huniq j' o2 ho2 hd2; omega)]
                  exact I.hE t (fun j' o2 ho2 hd2 => .inr (by have := huniq j' o2 ho2 hd2; omega))
              · have hn : ∀ (j : Nat) (o : Oper), ops[j]? = some o → o.dst = some t → False := fun j o ho hdt => hd ⟨j, o, ho, hdt⟩
                rw [Seg.oth D k t (fun j o ho hdt => (hn j o ho hdt).elim)]
                exact I.hE t (fun j o ho hdt => (hn j o ho hdt).elim) }
        · rw [getD_set_ne false hix] at h3
          obtain ⟨v, rfl⟩ := ha2
          exact (hPA h1 (by omega) h3 o' t' d' ho' hop' hd').step x2 (put_tmps_ne (hdne x o' d' ho' hd' (Ne.symm hix)))
      unfold wpOp
      simp only [ho]
      rw [wanted_of e hbb1]
      cases bb with
      | false =>
        simp only [Bool.false_eq_true, if_false] at hrest ⊢
        have hu : VR w Fz ρ σ.length undef (.tup []) := ⟨#[], rfl, rfl, fun j hj => absurd hj (by simp)⟩
        exact behind _ σ Fz ρ _ w ⟨_, rfl⟩ hrest r (e.put o.dst (dst_lt hop nn) hu) (Ext.refl _ _ _ _) (by rw [put_defers, d]) (by rw [put_size, nn])
      | true =>
        simp only [if_true] at hrest ⊢
        have hcb : bs.contains (p + k) = true := by simpa using hend
        rw [hcb] at hrest
        refine .inl (oper_wp2 (s := ⟨E1, σ⟩) hop r e d nn (K := fun s' => ∃ R, s'.env = putE E1 o.dst R ∧ wpb P ops bs (p + k + 1) ((selfL fs 0 ops.toList).drop (p + k + 1)) K ⟨putE (envs E ((selfL fs 0 ops.toList).drop p) rs k) o.dst R, s'.σ⟩) (fun s' Fz2 ρ2 a2 w2 ha2 hk2 r2 e2 x2 d2 n2 => ?_) ?_)
        · obtain ⟨R, h1, h2⟩ := hk2
          rw [h1] at e2
          exact behind R s'.σ Fz2 ρ2 a2 w2 ha2 h2 r2 e2 x2 d2 n2
        · cases hc : isCall o.op with
          | true =>
            rw [hc] at hrest
            simp only at hrest ⊢
            rw [callOf_congr (ev_same hU)]
            exact bindP_mono (fun c hk' => callP_mono (fun r' hk'' => ⟨_, rfl, hk''⟩) hk') hrest
          | false =>
            rw [hc] at hrest
            simp only at hrest ⊢
            rw [stepA_congr P (ev_same hU)]
            exact bindP_mono (fun c hk' => Chk_mono (fun hk'' => ⟨_, rfl, hk''⟩) hk') hrest
  have adv : ∀ n, (∀ m, m + 1 = n → T m) → T n := by
    intro n IH S listed p k rs E E1 σ Fz ρ a w hS hnd hSi I G r e xt d nn hPA
    by_cases hq : p + k = x ∧ x < ops.size ∧ listed.getD x false = true ∧ ∀ j, p ≤ j → j < p + k → j ∉ fs → listed.getD j false = true
    · obtain ⟨hpk, hxs, hxl, hall⟩ := hq
      obtain ⟨hxb, o, tt, dd, ho, hopx, hgx, hddx⟩ := D.early hxs
      have hxf : x ∉ fs := fun hf => (D.free x o ho hf).2.2.1 hxb
      have hcons : (selfL fs 0 ops.toList).drop (p + k) = o :: (selfL fs 0 ops.toList).drop (x + 1) := by
        rw [hpk]
        have hlt : x < (selfL fs 0 ops.toList).length := by rw [selfL_len]; simpa using hxs
        rw [List.drop_eq_getElem_cons hlt]
        congr 1
        have h1 : (selfL fs 0 ops.toList)[x]? = some (selfO fs (0 + x) o) := by rw [selfL_get]; simp [ho]
        rw [List.getElem?_eq_getElem hlt, Nat.zero_add, selfO_not hxf] at h1
        exact Option.some.inj h1
      have hrest := G.hrest
      rw [hcons] at hrest
      obtain ⟨bb, hbb, hrest⟩ := onB_iff hrest
      rw [hgx] at hbb
      have hbt : bb = true := by simpa [guardB] using hbb.symm
      subst hbt
      rw [show bs.contains (p + k) = true by rw [hpk]; simpa using hxb, hopx, hddx] at hrest
      simp only [if_true] at hrest
      have hst : stepA P (.alloc tt) ⟨envs E ((selfL fs 0 ops.toList).drop p) rs k, σ⟩ = some (okStore (zeroT P tt) = true, .vp σ.length 0, σ ++ [Ob.var (zeroT P tt)]) := rfl
      rw [show isCall (.alloc tt) = false from rfl, hst] at hrest
      obtain ⟨hz, hrest⟩ : okStore (zeroT P tt) = true ∧ wpb P ops bs (p + k + 1) ((selfL fs 0 ops.toList).drop (x + 1)) K ⟨putE (envs E ((selfL fs 0 ops.toList).drop p) rs k) (some dd) (.vp σ.length 0), σ ++ [Ob.var (zeroT P tt)]⟩ := hrest
      rw [hpk] at hrest
      obtain ⟨ρ', k1, k2, k3⟩ := (hPA hxs (by omega) hxl o tt dd ho hopx hddx).fire r hz
      obtain ⟨k', rs', G2⟩ := Seg.of (by omega) hrest
      have hdne : ∀ j o' t, ops[j]? = some o' → o'.dst = some t → j ≠ x → some dd ≠ some t := fun j o' t ho' hd' hne hd => hne (D.dis x j o o' t ho ho' (hddx.trans hd) hd')
      refine step n IH S listed (x + 1) k' rs' _ (putE E1 (some dd) (.vp σ.length 0)) _ Fz ρ' a w (by omega) hS hnd hSi ?_ G2 k1 (k2 _ e) (k3 B Fz0 ρ0 σ0 w0 xt.len (Nat.le_refl _) xt) d nn (fun _ h => by omega)
      exact
        { hsz := I.hsz
          hlo := fun j h1 h2 h3 => by
            by_cases hj : j = x
            · subst hj; exact hxl
            · by_cases hjp : j < p
              · exact I.hlo j hjp h2 h3
              · exact hall j (by omega) (by omega) h3
          hhi := fun j h1 h2 h3 => I.hhi j (by omega) h2 h3
          hc := I.hc
          hb := fun t ht => by
            by_cases hdt : some dd = some t
            · cases hdt; rw [getE_put_eq, getE_put_eq]
            · rw [getE_put_ne hdt, getE_put_ne hdt]
              refine I.done D G hall t (fun j o' ho' hd' => ⟨fun h => absurd h (ht j o' ho' hd').1, fun h => ?_⟩)
              have := h.1
              subst this
              rw [ho] at ho'; cases ho'
              exact hdt (hddx.symm.trans hd')
          ht := fun j o' t ho' h1 h2 h3 h4 h5 => by
            exfalso
            rw [I.hhi j (by omega) h3 (by omega)] at h4; cases h4
          hf := fun j o' t ho' h1 h2 h3 => by
            rw [getE_put_ne (hdne j o' t ho' h3 (fun q => hxf (q ▸ h1)))]
            exact I.hf j o' t ho' h1 h2 h3
          hE := fun t ht => by
            have hdt : some dd ≠ some t := fun q => by
              rcases ht x o ho (hddx.trans q) with h | h
              · exact hxf h
              · omega
            rw [getE_put_ne hdt]
            by_cases hd : ∃ (j : Nat) (o' : Oper), ops[j]? = some o' ∧ o'.dst = some t
            · obtain ⟨j, o', ho', hd'⟩ := hd
              have huniq : ∀ (j' : Nat) (o2 : Oper), ops[j']? = some o2 → o2.dst = some t → j' = j := fun j' o2 ho2 hd2 => D.dis j j' o' o2 t ho' ho2 hd' hd2
              rcases ht j o' ho' hd' with h | h
              · rw [G.fr D k t j o' ho' hd' h (Nat.le_refl _)]
                exact I.hE t (fun j' o2 ho2 hd2 => .inl (huniq j' o2 ho2 hd2 ▸ h))
              · rw [Seg.oth D k t (fun j' o2 ho2 hd2 => by have := huniq j' o2 ho2 hd2; omega)]
                exact I.hE t (fun j' o2 ho2 hd2 => .inr (by have := huniq j' o2 ho2 hd2; omega))
            · have hn : ∀ (j : Nat) (o : Oper), ops[j]? = some o → o.dst = some t → False := fun j o ho hdt => hd ⟨j, o, ho, hdt⟩
              rw [Seg.oth D k t (fun j o ho hdt => (hn j o ho hdt).elim)]
              exact I.hE t (fun j o ho hdt => (hn j o ho hdt).elim) }
    · exact step n IH S listed p k rs E E1 σ Fz ρ a w hq hS hnd hSi I G r e xt d nn hPA
  have all : ∀ n, T n := by
    intro n
    induction n with
    | zero =>
      intro S listed p k rs E E1 σ Fz ρ a w hS hnd hSi I G r e xt d nn hPA
      exact adv 0 (fun m hm => absurd hm (by omega)) S listed p k rs E E1 σ Fz ρ a w hS hnd hSi I G r e xt d nn hPA
    | succ n ih => exact adv (n + 1) (fun m hm => by cases hm; exact ih)
  obtain ⟨k, rs, G⟩ := Seg.of (p := 0) (fs := fs) (by omega) (by simpa using hw0)
  have hlf : ∀ j, (Array.replicate ops.size false).getD j false = false := fun j => by
    by_cases hj : j < ops.size <;> simp [Array.getD, hj]
  refine all ops.size (List.range ops.size) (Array.replicate ops.size false) 0 k rs E0 e0 σ0 Fz0 ρ0 a0 _ (by simp) List.nodup_range (fun j => by rw [hlf j]; simp) ?_ G hr1 he1 (hx0.toB hBl) hd0 hN0 (fun _ _ h => by rw [hlf] at h; cases h)
  exact
    { hsz := by simp
      hlo := fun j h => by omega
      hhi := fun j _ _ _ => hlf j
      hc := fun i o e _ h => by rw [hlf] at h; cases h
      hb := fun t ht => (hE0 t (fun j o ho hd => .inl (ht j o ho hd).1)).symm
      ht := fun j o t _ _ _ _ h => by rw [hlf] at h; cases h
      hf := fun j o t _ _ h => by rw [hlf] at h; cases h
      hE := fun _ _ => rfl }
end Go.AM
end
section
namespace Go.AM
def allPlain : List AV → Prop
  | [] => True
  | a :: as => plainV a = true ∧ allPlain as
theorem allPlain_iff : ∀ {l : List AV}, allPlain l ↔ l.all plainV = true := by
  intro l
  induction l with
  | nil => simp [allPlain]
  | cons a as ih => simp [allPlain, ih]
@[go_sem] theorem allPlain_nil : allPlain [] = True := rfl
@[go_sem] theorem allPlain_int (k n r) : allPlain (.int k n :: r) = allPlain r := by simp [allPlain, plainV]
@[go_sem] theorem allPlain_bool (b r) : allPlain (.bool b :: r) = allPlain r := by simp [allPlain, plainV]
@[go_sem] theorem allPlain_str (b r) : allPlain (.str b :: r) = allPlain r := by simp [allPlain, plainV]
@[go_sem] theorem allPlain_tsE (e x r) : allPlain (tsE e x :: r) = allPlain r := by cases x <;> simp [allPlain, plainV, tsE]
theorem wpb_cons (P : Program) (ops : Array Oper) (bs : List Nat) (i : Nat) (o : Oper) (os : List Oper) (K : St → Prop) (s : St) : wpb P ops bs i (o :: os) K s = @onB (guardB ops s.env o.guard)
      ⟨fun _ => match bs.contains i with
        | true => match isCall o.op with
          | true => @bindP _ (callOf s.env o.op) ⟨fun c => @callP P c.1 c.2 s.σ ⟨fun r => wpb P ops bs (i + 1) os K ⟨putE s.env o.dst r.1, r.2⟩⟩⟩
          | false => @bindP _ (stepA P o.op s) ⟨fun r => @Chk r.1 ⟨fun _ => wpb P ops bs (i + 1) os K ⟨putE s.env o.dst r.2.1, r.2.2⟩⟩⟩
        | false => match isCall o.op with
          | true => @bindP _ (callOf s.env o.op) ⟨fun c => @pureP P c.1 c.2 s.σ ⟨fun r => wpb P ops bs (i + 1) os K ⟨putE s.env o.dst r, s.σ⟩⟩⟩
          | false => @bindP _ (stepA P o.op s) ⟨fun r => @Chk (r.1 ∧ r.2.2 = s.σ) ⟨fun _ => wpb P ops bs (i + 1) os K ⟨putE s.env o.dst r.2.1, s.σ⟩⟩⟩⟩
      ⟨fun _ => wpb P ops bs (i + 1) os K ⟨putE s.env o.dst (.tup []), s.σ⟩⟩ := rfl
def wpfH (P : Program) (fs : List Nat) [os : Bx (Nat × List Oper)] [K : Kt St] (s : St) : Prop := wpf P fs os.val.1 os.val.2 K.run s
def wpsH (P : Program) (bs fs : List Nat) [ops : Bx (Array Oper)] [os : Bx (Nat × List Oper)] [K : Kt St] (s : St) : Prop := wpb P ops.val bs os.val.1 (selfL fs os.val.1 os.val.2) K.run s
section
variable (P : Program)
@[go_sem] theorem wpfH_nil (fs : List Nat) (i : Nat) (K : St → Prop) (s : St) : @wpfH P fs ⟨(i, [])⟩ ⟨K⟩ s = K s := rfl
@[go_sem] theorem wpfH_cons (fs : List Nat) (i : Nat) (o : Oper) (os : List Oper) (K : Kt St) (s : St) : @wpfH P fs ⟨(i, o :: os)⟩ K s =
    match fs.contains i with
    | false => @wpfH P fs ⟨(i + 1, os)⟩ K s
    | true => match isCall o.op with
      | true => @bindP _ (callOf s.env o.op) ⟨fun c => @Chk (allPlain c.2) ⟨fun _ => @pureP P c.1 c.2 s.σ ⟨fun r => @wpfH P fs ⟨(i + 1, os)⟩ K ⟨putE s.env o.dst r, s.σ⟩⟩⟩⟩
      | false => @bindP _ (stepA P o.op s) ⟨fun r => @Chk r.1 ⟨fun _ => @wpfH P fs ⟨(i + 1, os)⟩ K ⟨putE s.env o.dst r.2.1, s.σ⟩⟩⟩ := by
  have h1 : allPlain = fun l => l.all plainV = true := funext fun l => propext allPlain_iff
  rw [h1]
  rfl
@[go_sem] theorem wpsH_nil (bs fs : List Nat) (ops : Array Oper) (i : Nat) (K : St → Prop) (s : St) : @wpsH P bs fs ⟨ops⟩ ⟨(i, [])⟩ ⟨K⟩ s = K s := rfl
@[go_sem] theorem wpsH_cons (bs fs : List Nat) (ops : Array Oper) (i : Nat) (o : Oper) (os : List Oper) (K : Kt St) (s : St) : @wpsH P bs fs ⟨ops⟩ ⟨(i, o :: os)⟩ K s =
    match fs.contains i with
    | true => @wpsH P bs fs ⟨ops⟩ ⟨(i + 1, os)⟩ K ⟨putE s.env o.dst (match o.dst with | some d => getE s.env d | none => .nilf), s.σ⟩
    | false => @onB (guardB ops s.env o.guard)
      ⟨fun _ => match bs.contains i with
        | true => match isCall o.op with
          | true => @bindP _ (callOf s.env o.op) ⟨fun c => @callP P c.1 c.2 s.σ ⟨fun r => @wpsH P bs fs ⟨ops⟩ ⟨(i + 1, os)⟩ K ⟨putE s.env o.dst r.1, r.2⟩⟩⟩
          | false => @bindP _ (stepA P o.op s) ⟨fun r => @Chk r.1 ⟨fun _ => @wpsH P bs fs ⟨ops⟩ ⟨(i + 1, os)⟩ K ⟨putE s.env o.dst r.2.1, r.2.2⟩⟩⟩
        | false => match isCall o.op with
          | true => @bindP _ (callOf s.env o.op) ⟨fun c => @pureP P c.1 c.2 s.σ ⟨fun r => @wpsH P bs fs ⟨ops⟩ ⟨(i + 1, os)⟩ K ⟨putE s.env o.dst r, s.σ⟩⟩⟩
          | false => @bindP _ (stepA P o.op s) ⟨fun r => @Chk (r.1 ∧ r.2.2 = s.σ) ⟨fun _ => @wpsH P bs fs ⟨ops⟩ ⟨(i + 1, os)⟩ K ⟨putE s.env o.dst r.2.1, s.σ⟩⟩⟩⟩
      ⟨fun _ => @wpsH P bs fs ⟨ops⟩ ⟨(i + 1, os)⟩ K ⟨putE s.env o.dst (.tup []), s.σ⟩⟩ := by
  cases hf : fs.contains i with
  | false =>
    have hs : selfL fs i (o :: os) = o :: selfL fs (i + 1) os := by simp only [selfL, selfO, hf]
    show wpb P ops bs i (selfL fs i (o :: os)) K.run s = _
    rw [hs]
    rfl
  | true =>
    obtain ⟨dst, op, ty, ps, af, gd⟩ := o
    show wpb P ops bs i (selfL fs i (⟨dst, op, ty, ps, af, gd⟩ :: os)) K.run s = wpb P ops bs (i + 1) (selfL fs (i + 1) os) K.run ⟨putE s.env dst (match dst with | some d => getE s.env d | none => .nilf), s.σ⟩
    cases dst with
    | none =>
      have hs : selfL fs i (⟨none, op, ty, ps, af, gd⟩ :: os) = ⟨none, .move (.const .nilFunc), ty, ps, af, none⟩ :: selfL fs (i + 1) os := by simp only [selfL, selfO, hf]
      rw [hs, wpb_cons]
      cases hb : bs.contains i with
      | true => exact propext ⟨fun h => h.2, fun h => ⟨trivial, h⟩⟩
      | false => exact propext ⟨fun h => h.2, fun h => ⟨⟨trivial, rfl⟩, h⟩⟩
    | some d =>
      have hs : selfL fs i (⟨some d, op, ty, ps, af, gd⟩ :: os) = ⟨some d, .move (.tmp d), ty, ps, af, none⟩ :: selfL fs (i + 1) os := by simp only [selfL, selfO, hf]
      rw [hs, wpb_cons]
      cases hb : bs.contains i with
      | true => exact propext ⟨fun h => h.2, fun h => ⟨trivial, h⟩⟩
      | false => exact propext ⟨fun h => h.2, fun h => ⟨⟨trivial, rfl⟩, h⟩⟩
end
theorem draw3 {P : Program} {V : List Nat} {N B id : Nat} {ops : Array Oper} (bs fs : List Nat) (x : Nat) {Q : AEx → St → Prop} {s : St} (hm : P.follows .mixedOrders = true) (hB : drawB3 P N ops bs fs x = true)
    (h : @wpfH P fs ⟨(0, ops.toList)⟩ ⟨fun s' => @wpsH P bs fs ⟨ops⟩ ⟨(0, ops.toList)⟩ ⟨fun s' => Q .normal ⟨keepE V s'.env, s'.σ⟩⟩ s'⟩ s) : @DrawH P V N B id ⟨ops⟩ ⟨Q⟩ s := draw3_ok bs fs x hm hB h
end Go.AM
end
section
namespace Go.AM
def forN {α : Type} (step : Nat → α → α) : Nat → Nat → α → α
  | 0, _, s => s
  | k + 1, i, s => forN step k (i + 1) (step i s)
theorem forN_next {α : Type} {step : Nat → α → α} {n i : Nat} {s : α} (h : i < n) : forN step (n - i) i s = forN step (n - (i + 1)) (i + 1) (step i s) := by
  rw [show n - i = n - (i + 1) + 1 by omega]; rfl
theorem forN_done {α : Type} {step : Nat → α → α} {n i : Nat} {s : α} (h : ¬ i < n) : forN step (n - i) i s = s := by
  rw [show n - i = 0 by omega]; rfl
theorem forN_inv {α : Type} {step : Nat → α → α} (I : Nat → α → Prop) (hs : ∀ i s, I i s → I (i + 1) (step i s)) : ∀ (k i : Nat) (s : α), I i s → I (i + k) (forN step k i s) := by
  intro k
  induction k with
  | zero => intro i s h; exact h
  | succ k ih => intro i s h; have := ih (i + 1) (step i s) (hs i s h); rw [show i + (k + 1) = i + 1 + k by omega]; exact this
theorem forN_inv' {α : Type} {step : Nat → α → α} (I : α → Prop) (hs : ∀ i s, I s → I (step i s)) (k i : Nat) (s : α) (h : I s) : I (forN step k i s) := forN_inv (fun _ => I) hs k i s h
def iterN {α : Type} (c : α → Bool) (s : α → α) : Nat → α → α
  | 0, x => x
  | n + 1, x => match c x with | true => iterN c s n (s x) | false => x
theorem iterN_done {α : Type} {c : α → Bool} {s : α → α} {x : α} (h : c x = false) : ∀ n, iterN c s n x = x := by
  intro n; cases n with | zero => rfl | succ n => simp only [iterN, h]
theorem iterN_more {α : Type} {c : α → Bool} {s : α → α} (μ : α → Nat) (I : α → Prop) (hI : ∀ x, I x → c x = true → I (s x) ∧ μ (s x) < μ x) : ∀ (n m : Nat) (x : α), I x → μ x ≤ n → μ x ≤ m → iterN c s n x = iterN c s m x := by
  intro n
  induction n with
  | zero =>
    intro m x hx hn _
    cases hc : c x with
    | false => rw [iterN_done hc, iterN_done hc]
    | true => have := (hI x hx hc).2; omega
  | succ n ih =>
    intro m x hx hn hm
    cases hc : c x with
    | false => rw [iterN_done hc, iterN_done hc]
    | true =>
      have h1 := hI x hx hc
      cases m with
      | zero => omega
      | succ m => simp only [iterN, hc]; exact ih m (s x) h1.1 (by omega) (by omega)
theorem wrap_u64_small {n : Int} (h : 0 ≤ n) (h' : n < 18446744073709551616) : IntKind.u64.wrap n = n := by rw [IntKind.wrap_u64]; omega
theorem take_all {α : Type} {l : List α} {n : Nat} (h : l.length ≤ n) : l.take n = l := List.take_of_length_le h
attribute [go_sem] Int.toNat_natCast List.drop_zero List.length_set List.length_append List.length_replicate List.length_take List.length_drop Nat.zero_add Nat.add_zero Nat.sub_zero Nat.mul_one Nat.one_mul
theorem toNat_sub' (a b : Nat) : ((a : Int) - (b : Int)).toNat = a - b := by omega
attribute [go_sem] toNat_sub'
attribute [go_sem] false_and and_false and_self List.size_toArray List.all_cons List.all_nil Bool.and_true Bool.true_and Bool.and_self eq_self
section
variable {α β : Type} (f : α → β)
@[go_sem] theorem map_take' (l : List α) (n : Nat) : (l.map f).take n = (l.take n).map f := List.map_take.symm
@[go_sem] theorem map_drop' (l : List α) (n : Nat) : (l.map f).drop n = (l.drop n).map f := List.map_drop.symm
@[go_sem] theorem map_app' (l m : List α) : l.map f ++ m.map f = (l ++ m).map f := List.map_append.symm
end
@[go_sem] theorem set_words (xs : List UInt32) (i : Nat) (y : UInt32) : (xs.map wordA).set i (.int .u32 y.toNat) = (xs.set i y).map wordA := List.map_set.symm
@[go_sem] theorem set_bytes (xs : List UInt8) (i : Nat) (y : UInt8) : (xs.map byteA).set i (.int .u8 y.toNat) = (xs.set i y).map byteA := List.map_set.symm
@[go_sem] theorem set_wordsC (xs : List UInt32) (i : Nat) {n : Nat} (h : n < 4294967296) : (xs.map wordA).set i (.int .u32 (no_index (OfNat.ofNat n))) = (xs.set i (OfNat.ofNat n)).map wordA := by rw [u32_lit h]; exact set_words xs i _
@[go_sem] theorem set_bytesC (xs : List UInt8) (i : Nat) {n : Nat} (h : n < 256) : (xs.map byteA).set i (.int .u8 (no_index (OfNat.ofNat n))) = (xs.set i (OfNat.ofNat n)).map byteA := by rw [u8_lit h]; exact set_bytes xs i _
@[go_sem] theorem rep_words (n : Nat) : List.replicate n (AV.int .u32 0) = (List.replicate n (0 : UInt32)).map wordA := by rw [List.map_replicate]; rfl
@[go_sem] theorem rep_bytes (n : Nat) : List.replicate n (AV.int .u8 0) = (List.replicate n (0 : UInt8)).map byteA := by rw [List.map_replicate]; rfl
@[go_sem] theorem cast_lit (n : Nat) : ((no_index (OfNat.ofNat n) : Nat) : Int) = OfNat.ofNat n := rfl
attribute [go_sem] byteA wordA
theorem onB_d {p : Prop} [Decidable p] {T F : Unit → Prop} (ht : p → decide p = true → T ()) (hf : ¬ p → decide p = false → F ()) : @onB (.bool (decide p)) ⟨T⟩ ⟨F⟩ :=
  onB_dec (fun h => ht h (decide_eq_true h)) (fun h => hf h (decide_eq_false h))
@[go_sem] theorem onB_not (b : Bool) (T F : Unit → Prop) : @onB (.bool (!b)) ⟨T⟩ ⟨F⟩ = @onB (.bool b) ⟨F⟩ ⟨T⟩ := by cases b <;> rfl
end Go.AM
end
section
namespace Go.AM
def rowB (l : Bool) (esz : Nat) (xs : List AV) : Ob := match xs with | [] => .none | x :: r => .row l esz (x :: r)
@[go_sem] theorem rowV_eq (esz : Nat) (xs : List AV) : rowV esz xs = rowB true esz xs := by cases xs <;> rfl
theorem rowB_pos {l : Bool} {esz : Nat} {xs : List AV} (h : xs ≠ []) : rowB l esz xs = .row l esz xs := by cases xs with | nil => exact absurd rfl h | cons => rfl
theorem slV_pos {id esz n : Nat} (h : n ≠ 0) : slV id esz n = .sl id esz 0 n := by unfold slV; rw [if_neg h]
theorem slV_zero (id esz : Nat) : slV id esz 0 = .nils := rfl
theorem slV_cases (id esz n : Nat) : (n = 0 ∧ slV id esz n = .nils) ∨ (n ≠ 0 ∧ slV id esz n = .sl id esz 0 n) := by
  by_cases h : n = 0
  · subst h; exact .inl ⟨rfl, rfl⟩
  · exact .inr ⟨h, slV_pos h⟩
def appS (E B : Nat) (σ : List Ob) (s : AV) (ys : List AV) : Option (Prop × AV × List Ob) :=
  match s with
  | .nils => some (ys.length * B ≤ 140737488355328, slV σ.length E ys.length, σ ++ [rowV E ys])
  | .sl id esz' 0 n => match getO σ id with
    | .row true esz xs => some (esz = esz' ∧ esz = E ∧ (n + ys.length) * B ≤ 140737488355328, .sl σ.length esz 0 (n + ys.length), σ.set id .none ++ [.row true esz (xs.take n ++ ys)])
    | _ => none
  | _ => none
@[go_sem] theorem appendA_eq (P : Program) (t : TypeId) (σ : List Ob) (s x : AV) : appendA P t σ s x = (elemsA (sizeT P (elemT P t)) σ x).bind fun ys => appS (sizeT P (elemT P t)) (bytesT P (elemT P t)) σ s ys := by
  unfold appendA appS
  rfl
@[go_sem] theorem appS_nils (E B : Nat) (σ : List Ob) (ys : List AV) : appS E B σ .nils ys = some (ys.length * B ≤ 140737488355328, slV σ.length E ys.length, σ ++ [rowV E ys]) := rfl
@[go_sem] theorem appS_sl (E B : Nat) (σ : List Ob) (id esz n : Nat) (ys : List AV) : appS E B σ (.sl id esz 0 n) ys = match getO σ id with
    | .row true esz' xs => some (esz' = esz ∧ esz' = E ∧ (n + ys.length) * B ≤ 140737488355328, .sl σ.length esz' 0 (n + ys.length), σ.set id .none ++ [.row true esz' (xs.take n ++ ys)])
    | _ => none := rfl
def appO (E B : Nat) (σ : List Ob) (id e n : Nat) (ys : List AV) (o : Ob) : Option (Prop × AV × List Ob) :=
  if n = 0 then some (ys.length * B ≤ 140737488355328, slV σ.length E ys.length, σ ++ [rowV E ys])
  else match o with
    | .row true esz xs => some (esz = e ∧ esz = E ∧ (n + ys.length) * B ≤ 140737488355328, .sl σ.length esz 0 (n + ys.length), σ.set id .none ++ [.row true esz (xs.take n ++ ys)])
    | _ => none
@[go_sem] theorem appS_slV (E B : Nat) (σ : List Ob) (id e n : Nat) (ys : List AV) : appS E B σ (slV id e n) ys = appO E B σ id e n ys (getO σ id) := by
  unfold appO
  rcases slV_cases id e n with ⟨h, h2⟩ | ⟨h, h2⟩
  · rw [h2, if_pos h]; rfl
  · rw [h2, if_neg h]; rfl
theorem set_getO {σ : List Ob} {id : Nat} {o : Ob} (h : getO σ id = o) (hl : id < σ.length) : σ.set id o = σ := by
  apply List.ext_getElem?
  intro i
  rw [List.getElem?_set]
  split
  · subst i
    rw [← h]
    simp [getO, List.getD, hl]
  · rfl
theorem getO_none_set {σ : List Ob} {id : Nat} (h : getO σ id = .none) : σ.set id .none = σ := by
  by_cases hl : id < σ.length
  · exact set_getO h hl
  · exact List.set_eq_of_length_le (by omega)
@[go_sem] theorem appO_rowB (E B : Nat) (σ : List Ob) (id n : Nat) (ys : List AV) (xs : List AV) (hn : n = xs.length) (hs : getO σ id = rowB true E xs) : appO E B σ id E n ys (rowB true E xs) = some ((n + ys.length) * B ≤ 140737488355328, slV σ.length E (n + ys.length), σ.set id .none ++ [rowB true E (xs ++ ys)]) := by
  unfold appO
  cases xs with
  | nil =>
    subst hn
    rw [getO_none_set hs]
    simp [rowV_eq]
  | cons x r =>
    rw [if_neg (by rw [hn]; simp), slV_pos (by rw [hn]; simp only [List.length_cons]; omega)]
    simp only [rowB, true_and]
    rw [show (x :: r).take n = x :: r by rw [hn]; exact List.take_length]
    rfl
def elO (E e n : Nat) (o : Ob) : Option (List AV) := if n = 0 then some [] else match o with | .row _ esz' xs => if esz' = e ∧ e = E then some ((xs.drop 0).take n) else none | _ => none
@[go_sem] theorem elemsA_slV (E : Nat) (σ : List Ob) (id e n : Nat) : elemsA E σ (slV id e n) = elO E e n (getO σ id) := by
  unfold elO
  rcases slV_cases id e n with ⟨h, h2⟩ | ⟨h, h2⟩
  · rw [h2, if_pos h]; rfl
  · rw [h2, if_neg h]; rfl
@[go_sem] theorem elO_rowB (E n : Nat) (l : Bool) (xs : List AV) (hn : n = xs.length) : elO E E n (rowB l E xs) = some xs := by
  unfold elO
  cases xs with
  | nil => subst hn; rfl
  | cons x r => rw [if_neg (by rw [hn]; simp)]; simp only [rowB, and_self, if_true, List.drop_zero]; rw [hn, List.take_length]
def trO (e n : Nat) (o : Ob) : AV := if n = 0 then tsE 0 [] else match o with | .row _ esz xs => if esz = e then tsE esz ((xs.drop 0).take n) else .undef | _ => .undef
@[go_sem] theorem treeC_slV (σ : List Ob) (id e n : Nat) : treeC σ (slV id e n) = trO e n (getO σ id) := by
  unfold trO
  rcases slV_cases id e n with ⟨h, h2⟩ | ⟨h, h2⟩
  · rw [h2, if_pos h]; rfl
  · rw [h2, if_neg h]; rfl
@[go_sem] theorem trO_rowB (e n : Nat) (l : Bool) (xs : List AV) (hn : n = xs.length) : trO e n (rowB l e xs) = tsE e xs := by
  unfold trO
  cases xs with
  | nil => subst hn; rfl
  | cons x r => rw [if_neg (by rw [hn]; simp)]; simp only [rowB, if_true, List.drop_zero]; rw [hn, List.take_length]
@[go_sem] theorem treeA_slV (σ : List Ob) (id e n : Nat) : treeA σ (slV id e n) = treeC σ (slV id e n) := by unfold slV; split <;> rfl
@[go_sem] theorem treeT_slV (σ : List Ob) (id e n : Nat) : treeT σ (slV id e n) = treeC σ (slV id e n) := by unfold slV; split <;> rfl
@[go_sem] theorem cellsOf_slV (id e n : Nat) : cellsOf (slV id e n) = [slV id e n] := by unfold slV; split <;> rfl
@[go_sem] theorem oneV_slV (id e n : Nat) : oneV (slV id e n) = True := by unfold slV; split <;> rfl
@[go_sem] theorem okStore_slV (id e n : Nat) : okStore (slV id e n) = true := by unfold slV; split <;> rfl
@[go_sem] theorem toAgg_slV (id e n : Nat) : toAgg (slV id e n) = .agg [slV id e n] := by unfold slV; split <;> rfl
@[go_sem] theorem lowA_slV (N id e n : Nat) : lowA N (slV id e n) = (n = 0 ∨ id < N) := by
  rcases slV_cases id e n with ⟨h, h2⟩ | ⟨h, h2⟩ <;> rw [h2] <;> simp [lowA, lowA1, lowC, lowC0, h]
@[go_sem] theorem lowA1_slV (N id e n : Nat) : lowA1 N (slV id e n) = (n = 0 ∨ id < N) := by
  rcases slV_cases id e n with ⟨h, h2⟩ | ⟨h, h2⟩ <;> rw [h2] <;> simp [lowA1, lowC, lowC0, h]
@[go_sem] theorem lowC_slV (N id e n : Nat) : lowC N (slV id e n) = (n = 0 ∨ id < N) := by
  rcases slV_cases id e n with ⟨h, h2⟩ | ⟨h, h2⟩ <;> rw [h2] <;> simp [lowC, lowC0, h]
@[go_sem] theorem lowC0_slV (N id e n : Nat) : lowC0 N (slV id e n) = (n = 0 ∨ id < N) := by
  rcases slV_cases id e n with ⟨h, h2⟩ | ⟨h, h2⟩ <;> rw [h2] <;> simp [lowC0, h]
@[go_sem] theorem renA_slV (m : Nat → Nat) (id e n : Nat) : renA m (slV id e n) = slV (m id) e n := by unfold slV; split <;> rfl
@[go_sem] theorem renA1_slV (m : Nat → Nat) (id e n : Nat) : renA1 m (slV id e n) = slV (m id) e n := by unfold slV; split <;> rfl
@[go_sem] theorem renC_slV (m : Nat → Nat) (id e n : Nat) : renC m (slV id e n) = slV (m id) e n := by unfold slV; split <;> rfl
@[go_sem] theorem renC0_slV (m : Nat → Nat) (id e n : Nat) : renC0 m (slV id e n) = slV (m id) e n := by unfold slV; split <;> rfl
def frO (σ : List Ob) (id n : Nat) (o : Ob) : List Ob := if n = 0 then σ else match o with | .row _ esz xs => σ.set id (.row false esz xs) | _ => σ
@[go_sem] theorem fr_slV (σ : List Ob) (id e n : Nat) : List.foldl freeze1 σ (refsC (slV id e n)) = frO σ id n (getO σ id) := by
  unfold frO
  rcases slV_cases id e n with ⟨h, h2⟩ | ⟨h, h2⟩
  · rw [h2, if_pos h]; rfl
  · rw [h2, if_neg h]; rfl
@[go_sem] theorem frO_rowB (σ : List Ob) (id n e : Nat) (l : Bool) (xs : List AV) (hn : n = xs.length) (hs : getO σ id = rowB l e xs) : frO σ id n (rowB l e xs) = σ.set id (rowB false e xs) := by
  unfold frO
  cases xs with
  | nil => subst hn; simp [rowB]; exact (getO_none_set hs).symm
  | cons x r => rw [if_neg (by rw [hn]; simp)]; rfl
def fzO (σ : List Ob) (id : Nat) (o : Ob) : List Ob := match o with | .row _ esz xs => σ.set id (.row false esz xs) | _ => σ
@[go_sem] theorem freeze1_fz (σ : List Ob) (id : Nat) : freeze1 σ id = fzO σ id (getO σ id) := rfl
@[go_sem] theorem fzO_none (σ : List Ob) (id : Nat) : fzO σ id .none = σ := rfl
@[go_sem] theorem fzO_var (σ : List Ob) (id : Nat) (v : AV) : fzO σ id (.var v) = σ := rfl
@[go_sem] theorem fzO_row (σ : List Ob) (id : Nat) (l : Bool) (e : Nat) (xs : List AV) : fzO σ id (.row l e xs) = σ.set id (.row false e xs) := rfl
@[go_sem] theorem fzO_rowB (σ : List Ob) (id : Nat) (l : Bool) (e : Nat) (xs : List AV) (hs : getO σ id = rowB l e xs) : fzO σ id (rowB l e xs) = σ.set id (rowB false e xs) := by
  cases xs with
  | nil => exact (getO_none_set hs).symm
  | cons x r => rfl
@[go_sem] theorem obFit_rowB (m : Nat → Nat) (n : Nat) (o : Ob) (l : Bool) (e : Nat) (xs : List AV) : obFit m n o (rowB l e xs) = (xs = [] ∨ o = rowB l e xs) := by
  cases xs with
  | nil => simp [rowB, obFit]
  | cons x r => simp [rowB, obFit]
@[go_sem] theorem renO_rowB (m : Nat → Nat) (l : Bool) (e : Nat) (xs : List AV) : renO m (rowB l e xs) = rowB l e xs := by cases xs <;> rfl
@[go_sem] theorem renO_row (m : Nat → Nat) (l : Bool) (e : Nat) (xs : List AV) : renO m (.row l e xs) = .row l e xs := rfl
@[go_sem] theorem renO_none (m : Nat → Nat) : renO m .none = .none := rfl
@[go_sem] theorem lowO_rowB (n : Nat) (l : Bool) (e : Nat) (xs : List AV) : lowO n (rowB l e xs) = True := by cases xs <;> simp [rowB, lowO]
def bsOk (e : Env) (sz n : Nat) : List (Nat × Operand) → Prop
  | [] => True
  | p :: r => (p.1 < n ∧ (cellsOf (ev e p.2)).length = sz ∧ okStore (ev e p.2) = true) ∧ bsOk e sz n r
theorem bsOk_eq {e : Env} {sz n : Nat} : ∀ {l : List (Nat × Operand)}, (∀ p ∈ l, p.1 < n ∧ (cellsOf (ev e p.2)).length = sz ∧ okStore (ev e p.2) = true) = bsOk e sz n l := by
  intro l
  induction l with
  | nil => simp [bsOk]
  | cons p r ih => simp only [bsOk, ← ih, List.forall_mem_cons]
@[go_sem] theorem stepA_buildSlice (P : Program) (t : TypeId) (n : Nat) (ps : Array (Nat × Operand)) (s : St) : stepA P (.buildSlice t n ps) s = some (bsOk s.env (sizeT P (elemT P t)) n ps.toList, (if n = 0 then .nils else .sl s.σ.length (sizeT P (elemT P t)) 0 n),
      freezeL s.σ (ps.toList.flatMap fun p => refsA (ev s.env p.2)) ++ [.row true (sizeT P (elemT P t)) (setAll (List.replicate n (zeroE P (elemT P t))) (ps.toList.map fun (i, x) => (i, treeA s.σ (ev s.env x))))]) := by
  rw [← bsOk_eq]; rfl
attribute [go_sem] bsOk
section
variable (P : Program) (s : St)
@[go_sem] theorem stepA_move (x) : stepA P (.move x) s = some (True, ev s.env x, s.σ) := rfl
@[go_sem] theorem stepA_assign (x) : stepA P (.assign x) s = some (True, ev s.env x, s.σ) := rfl
@[go_sem] theorem stepA_pick (c a b) : stepA P (.pick c a b) s = match ev s.env c with | .bool t => some (True, pickA t (ev s.env a) (ev s.env b), s.σ) | _ => none := rfl
@[go_sem] theorem stepA_alloc (t) : stepA P (.alloc t) s = some (okStore (zeroT P t) = true, .vp s.σ.length 0, s.σ ++ [.var (zeroT P t)]) := rfl
@[go_sem] theorem stepA_box (t x) : stepA P (.box t x) s = some (okStore (ev s.env x) = true, .vp s.σ.length 0, s.σ ++ [.var (ev s.env x)]) := rfl
@[go_sem] theorem stepA_build (t ps) : stepA P (.build t ps) s = (fillA P t (cellsOf (zeroT P t)) (ps.toList.map fun (i, x) => (i, ev s.env x))).map fun cs => (fillOk P t (cellsOf (zeroT P t)).length (ps.toList.map fun (i, x) => (i, ev s.env x)), .agg cs, s.σ) := rfl
@[go_sem] theorem stepA_load (t a) : stepA P (.load t a) s = (loadA P t s.σ (ev s.env a)).map fun (p, v) => (p, v, s.σ) := rfl
@[go_sem] theorem stepA_store (t a x) : stepA P (.store t a x) s = (storeA P t s.σ (ev s.env a) (ev s.env x)).map fun (p, σ) => (p, .undef, σ) := rfl
@[go_sem] theorem stepA_nilCheck (x) : stepA P (.nilCheck x) s = match ev s.env x with
    | .vp id off => some (True, .vp id off, s.σ)
    | .rp a b c d e => some (True, .rp a b c d e, s.σ)
    | .tp a b c d e => some (True, .tp a b c d e, s.σ)
    | .fn f cs => some (True, .fn f cs, s.σ)
    | _ => none := rfl
@[go_sem] theorem stepA_binOp (op t x y u) : stepA P (.binOp op t x y u) s = (binA (P.underlying t) op (ev s.env x) (ev s.env y)).map fun (p, v) => (p, v, s.σ) := rfl
@[go_sem] theorem stepA_unOp (op t x) : stepA P (.unOp op t x) s = (unA op (ev s.env x)).map fun v => (True, v, s.σ) := rfl
@[go_sem] theorem stepA_convert (src dst x) : stepA P (.convert src dst x) s = convA P src dst s.σ (ev s.env x) := rfl
@[go_sem] theorem stepA_makeFunc (f first caps) : stepA P (.makeFunc (.func f) first caps) s = if first.size = 0 && (caps.toList.map (ev s.env)).all cellA then some (True, .fn f (caps.toList.map (ev s.env)), s.σ) else none := rfl
@[go_sem] theorem stepA_makeSlice (t l c) : stepA P (.makeSlice t l c) s = match ev s.env l, ev s.env c with
    | .int .i64 l, .int .i64 c => some (0 ≤ l ∧ l ≤ c ∧ c * bytesT P (elemT P t) ≤ 140737488355328, .sl s.σ.length (sizeT P (elemT P t)) 0 l.toNat, s.σ ++ [.row true (sizeT P (elemT P t)) (List.replicate l.toNat (zeroE P (elemT P t)))])
    | _, _ => none := rfl
@[go_sem] theorem stepA_slice (t x lo hi mx) : stepA P (.slice t x lo hi mx) s = (sliceA P t (ev s.env x) (lo.map (ev s.env)) (hi.map (ev s.env)) (mx.map (ev s.env))).map fun (p, v) => (p, v, s.σ) := rfl
@[go_sem] theorem stepA_fieldAddr (t x f) : stepA P (.fieldAddr t x f) s = (fieldAddrA P t (ev s.env x) f).map fun v => (True, v, s.σ) := rfl
@[go_sem] theorem stepA_field (t x f) : stepA P (.field t x f) s = match fieldT P t f, ev s.env x with | some (o, ft), .agg cs => some (o + sizeT P ft ≤ cs.length, partA P ft (.agg cs) o, s.σ) | _, _ => none := rfl
@[go_sem] theorem stepA_indexAddr (t x i) : stepA P (.indexAddr t x i) s = (indexAddrA P t (ev s.env x) (ev s.env i)).map fun (p, v) => (p, v, s.σ) := rfl
@[go_sem] theorem stepA_index (t x i) : stepA P (.index t x i) s = (indexA P t (ev s.env x) (ev s.env i)).map fun (p, v) => (p, v, s.σ) := rfl
@[go_sem] theorem stepA_extract (x i) : stepA P (.extract x i) s = match ev s.env x with | .tup vs => (vs[i]?).map fun v => (True, v, s.σ) | _ => none := rfl
@[go_sem] theorem stepA_len (args ats) : stepA P (.call { callee := .builtin .len, args := args, argTypes := ats }) s = match args.toList, ats.toList with | [x], [t] => (lenU (P.underlying t) (ev s.env x)).map fun v => (True, v, s.σ) | _, _ => none := rfl
@[go_sem] theorem stepA_min (args ats) : stepA P (.call { callee := .builtin .min, args := args, argTypes := ats }) s = match args.toList with | [x, y] => (minA (ev s.env x) (ev s.env y)).map fun v => (True, v, s.σ) | _ => none := rfl
@[go_sem] theorem stepA_max (args ats) : stepA P (.call { callee := .builtin .max, args := args, argTypes := ats }) s = match args.toList with | [x, y] => (maxA (ev s.env x) (ev s.env y)).map fun v => (True, v, s.σ) | _ => none := rfl
@[go_sem] theorem stepA_append (args ats) : stepA P (.call { callee := .builtin .append, args := args, argTypes := ats }) s = match args.toList, ats.toList with
    | [a, x], [t, u] => match P.underlying u with
      | some (.slice _) | some .string => appendA P t s.σ (ev s.env a) (ev s.env x)
      | _ => none
    | _, _ => none := rfl
end
theorem bindP_fill {α : Type} {o : Option (List AV)} (cs : List AV) (h : o = some cs) {f : List AV → α} {K : α → Prop} (hk : K (f cs)) : @bindP _ (o.map f) ⟨K⟩ := by subst h; exact hk
theorem bindP_eq {α : Type} {o : Option α} (v : α) (h : o = some v) {K : α → Prop} (hk : K v) : @bindP _ o ⟨K⟩ := by subst h; exact hk
@[go_sem] theorem splice_nil (cs : List AV) (o : Nat) : splice cs o [] = cs := by simp [splice]
@[go_sem] theorem splice_zero (c : AV) (cs : List AV) (x : AV) (xs : List AV) : splice (c :: cs) 0 (x :: xs) = x :: splice cs 0 xs := by simp [splice]
@[go_sem] theorem splice_succ (c : AV) (cs : List AV) (i : Nat) (xs : List AV) : splice (c :: cs) (i + 1) xs = c :: splice cs i xs := by simp [splice, Nat.succ_add]
section
theorem map_same {α : Type} (f : α → AV) (g : AV → AV) (h : ∀ x, g (f x) = f x) (xs : List α) : (xs.map f).map g = xs.map f := by rw [List.map_map]; exact List.map_congr_left fun x _ => h x
@[go_sem] theorem ren_words (m : Nat → Nat) (xs : List UInt32) : (xs.map wordA).map (renC m) = xs.map wordA := map_same wordA (renC m) (fun _ => rfl) xs
@[go_sem] theorem ren_bytes (m : Nat → Nat) (xs : List UInt8) : (xs.map byteA).map (renC m) = xs.map byteA := map_same byteA (renC m) (fun _ => rfl) xs
@[go_sem] theorem tree_words (σ : List Ob) (xs : List UInt32) : (xs.map wordA).map (treeC σ) = xs.map wordA := map_same wordA (treeC σ) (fun _ => rfl) xs
@[go_sem] theorem tree_bytes (σ : List Ob) (xs : List UInt8) : (xs.map byteA).map (treeC σ) = xs.map byteA := map_same byteA (treeC σ) (fun _ => rfl) xs
@[go_sem] theorem refs_words (xs : List UInt32) : (xs.map wordA).flatMap refsC = [] := by induction xs with | nil => rfl | cons x r ih => exact ih
@[go_sem] theorem refs_bytes (xs : List UInt8) : (xs.map byteA).flatMap refsC = [] := by induction xs with | nil => rfl | cons x r ih => exact ih
@[go_sem] theorem low_words (N : Nat) (xs : List UInt32) : lowL N (xs.map wordA) = True := by induction xs with | nil => rfl | cons x r ih => exact eq_true ⟨trivial, of_eq_true ih⟩
@[go_sem] theorem low_bytes (N : Nat) (xs : List UInt8) : lowL N (xs.map byteA) = True := by induction xs with | nil => rfl | cons x r ih => exact eq_true ⟨trivial, of_eq_true ih⟩
end
theorem slV_succ (id e n : Nat) : slV id e (n + 1) = .sl id e 0 (n + 1) := rfl
theorem rowB_cons (l : Bool) (e : Nat) (x : AV) (r : List AV) : rowB l e (x :: r) = .row l e (x :: r) := rfl
@[go_sem] theorem rowB_nil (l : Bool) (e : Nat) : rowB l e [] = .none := rfl
attribute [go_sem] slV_zero
theorem u8_nat (n : Nat) : IntKind.u8.wrap (n : Int) = ((UInt8.ofNat n).toNat : Int) := by rw [IntKind.wrap_u8, UInt8.toNat_ofNat']; omega
theorem u32_nat (n : Nat) : IntKind.u32.wrap (n : Int) = ((UInt32.ofNat n).toNat : Int) := by rw [IntKind.wrap_u32, UInt32.toNat_ofNat']; omega
theorem u64_nat (n : Nat) : IntKind.u64.wrap (n : Int) = ((UInt64.ofNat n).toNat : Int) := by rw [IntKind.wrap_u64, UInt64.toNat_ofNat']; omega
@[go_sem] theorem rep_1 {α : Type} (x : α) : List.replicate 1 x = [x] := rfl
@[go_sem] theorem rep_2 {α : Type} (x : α) : List.replicate 2 x = [x, x] := rfl
@[go_sem] theorem rep_3 {α : Type} (x : α) : List.replicate 3 x = [x, x, x] := rfl
@[go_sem] theorem rep_4 {α : Type} (x : α) : List.replicate 4 x = [x, x, x, x] := rfl
attribute [go_sem] List.take_succ_cons List.take_zero
@[go_sem] theorem obFit_none (m : Nat → Nat) (n : Nat) (o : Ob) : obFit m n o .none = True := rfl
@[go_sem] theorem obFit_var (m : Nat → Nat) (n : Nat) (o : Ob) (v : AV) : obFit m n o (.var v) = (o = renO m (.var v) ∧ lowO n (.var v)) := rfl
@[go_sem] theorem obFit_row (m : Nat → Nat) (n : Nat) (o : Ob) (l : Bool) (e : Nat) (xs : List AV) : obFit m n o (.row l e xs) = (o = .row l e xs) := rfl
@[go_sem] theorem size_mk (s : List UInt8) : ByteArray.size ⟨s.toArray⟩ = s.length := by simp [ByteArray.size]
@[go_sem] theorem strAt_mk (s : List UInt8) (i : Nat) : strAt ⟨s.toArray⟩ i = ((s.getD i 0).toNat : Int) := rfl
@[go_sem] theorem extract_mk (s : List UInt8) (l h : Nat) : ByteArray.extract ⟨s.toArray⟩ l h = ⟨((s.take h).drop l).toArray⟩ := by
  apply ByteArray.ext
  simp [List.drop_take]
@[go_sem] theorem bytesS_mk (s : List UInt8) : bytesS ⟨s.toArray⟩ = s.map byteA := rfl
@[go_sem] theorem strB_mk (s : List UInt8) : strB (s.map byteA) = ⟨s.toArray⟩ := by
  unfold strB
  congr 1
  rw [List.map_map]
  congr 1
  conv => rhs; rw [← List.map_id s]
  apply List.map_congr_left
  intro x _
  simp [byteA]
@[go_sem] theorem putPart_agg (v : AV) (off : Nat) (xs : List AV) : putPart v off (.agg xs) = if off = 0 ∧ (cellsOf v).length = xs.length then .agg xs else .agg (splice (cellsOf v) off xs) := rfl
@[go_sem] theorem putPart_undef (v : AV) (off : Nat) : putPart v off (.undef) = setCell v off (.undef) := rfl
@[go_sem] theorem putPart_int (v : AV) (off : Nat) (k : IntKind) (n : Int) : putPart v off (.int k n) = setCell v off (.int k n) := rfl
@[go_sem] theorem putPart_bool (v : AV) (off : Nat) (b : Bool) : putPart v off (.bool b) = setCell v off (.bool b) := rfl
@[go_sem] theorem putPart_str (v : AV) (off : Nat) (s : ByteArray) : putPart v off (.str s) = setCell v off (.str s) := rfl
@[go_sem] theorem putPart_nilp (v : AV) (off : Nat) : putPart v off (.nilp) = setCell v off (.nilp) := rfl
@[go_sem] theorem putPart_nilf (v : AV) (off : Nat) : putPart v off (.nilf) = setCell v off (.nilf) := rfl
@[go_sem] theorem putPart_vp (v : AV) (off : Nat) (a b : Nat) : putPart v off (.vp a b) = setCell v off (.vp a b) := rfl
@[go_sem] theorem putPart_rp (v : AV) (off : Nat) (id esz : Nat) (d : AV) (idx o : Nat) : putPart v off (.rp id esz d idx o) = setCell v off (.rp id esz d idx o) := rfl
@[go_sem] theorem putPart_tp (v : AV) (off : Nat) (esz : Nat) (xs : List AV) (d : AV) (idx o : Nat) : putPart v off (.tp esz xs d idx o) = setCell v off (.tp esz xs d idx o) := rfl
@[go_sem] theorem putPart_sl (v : AV) (off : Nat) (id esz i0 len : Nat) : putPart v off (.sl id esz i0 len) = setCell v off (.sl id esz i0 len) := rfl
@[go_sem] theorem putPart_ts (v : AV) (off : Nat) (esz : Nat) (xs : List AV) : putPart v off (.ts esz xs) = setCell v off (.ts esz xs) := rfl
@[go_sem] theorem putPart_nils (v : AV) (off : Nat) : putPart v off (.nils) = setCell v off (.nils) := rfl
@[go_sem] theorem putPart_fn (v : AV) (off : Nat) (f : FuncId) (caps : List AV) : putPart v off (.fn f caps) = setCell v off (.fn f caps) := rfl
@[go_sem] theorem putPart_tsE (v : AV) (off esz : Nat) (xs : List AV) : putPart v off (tsE esz xs) = setCell v off (tsE esz xs) := by cases xs <;> rfl
@[go_sem] theorem putPart_slV (v : AV) (off id e n : Nat) : putPart v off (slV id e n) = setCell v off (slV id e n) := by unfold slV; split <;> rfl
attribute [go_sem] merge setL mapN ObsFit' ArgsF List.set_cons_zero List.set_cons_succ List.drop_succ_cons List.foldl_append
end Go.AM
end
section
namespace Go.AM
set_option linter.all false
theorem W0 {p q : Prop} (k : q) (e : q → p := by intro h; simp -implicitDefEqProofs (disch := omega) only [wrap_i64_small, wrap_u64_small, tdiv_cast, tmod_cast]; exact h) : p := e k
theorem E0 {p q : Prop} (k : q) (e : q → p := by intro h; simp -implicitDefEqProofs only [go_sem, ↓reduceIte, Nat.reduceEqDiff, Nat.reduceAdd, Nat.reduceMul, Nat.reduceSub, Nat.reduceLeDiff, Nat.reduceBEq, Int.reduceBEq, Int.reduceBNe, Int.reduceGT, Int.reduceGE, Nat.reduceLT, UInt8.reduceOfNat, UInt32.reduceOfNat, UInt64.reduceOfNat, Int.reduceNe, Int.reduceLE, Int.reduceLT, Int.reduceToNat, Int.reduceEq, Int.reduceMul, Int.reduceAdd, Int.reduceSub, ne_eq, not_false_eq_true]; exact h) : p := e k
theorem T0 {p : Prop} (e : p := by simp -implicitDefEqProofs only [go_sem, ↓reduceIte, Nat.reduceEqDiff, Nat.reduceAdd, Nat.reduceMul, Nat.reduceSub, Nat.reduceLeDiff, Nat.reduceBEq, Int.reduceBEq, Int.reduceBNe, Int.reduceGT, Int.reduceGE, Nat.reduceLT, UInt8.reduceOfNat, UInt32.reduceOfNat, UInt64.reduceOfNat, Int.reduceNe, Int.reduceLE, Int.reduceLT, Int.reduceToNat, Int.reduceEq, Int.reduceMul, Int.reduceAdd, Int.reduceSub, ne_eq, not_false_eq_true] <;> fail) : p := e
theorem G0 {p : Prop} (e : p := by (first | exact T0 | (refine E0 ?_; (repeat' apply And.intro) <;> first | exact True.intro | (congr 1; omega) | rfl) | (refine W0 ?_; exact T0) | (refine E0 ?_; simp [] <;> fail) | (refine W0 ?_; refine E0 ?_; simp [] <;> fail) | (simp [] <;> fail))) : p := e
theorem E1 {p q : Prop} {F0 : Prop} (f0 : F0) (k : q) (e : F0 → q → p := by intro f0; intro h; simp -implicitDefEqProofs only [go_sem, f0, ↓reduceIte, Nat.reduceEqDiff, Nat.reduceAdd, Nat.reduceMul, Nat.reduceSub, Nat.reduceLeDiff, Nat.reduceBEq, Int.reduceBEq, Int.reduceBNe, Int.reduceGT, Int.reduceGE, Nat.reduceLT, UInt8.reduceOfNat, UInt32.reduceOfNat, UInt64.reduceOfNat, Int.reduceNe, Int.reduceLE, Int.reduceLT, Int.reduceToNat, Int.reduceEq, Int.reduceMul, Int.reduceAdd, Int.reduceSub, ne_eq, not_false_eq_true]; exact h) : p := e f0 k
theorem T1 {p : Prop} {F0 : Prop} (f0 : F0) (e : F0 → p := by intro f0; simp -implicitDefEqProofs only [go_sem, f0, ↓reduceIte, Nat.reduceEqDiff, Nat.reduceAdd, Nat.reduceMul, Nat.reduceSub, Nat.reduceLeDiff, Nat.reduceBEq, Int.reduceBEq, Int.reduceBNe, Int.reduceGT, Int.reduceGE, Nat.reduceLT, UInt8.reduceOfNat, UInt32.reduceOfNat, UInt64.reduceOfNat, Int.reduceNe, Int.reduceLE, Int.reduceLT, Int.reduceToNat, Int.reduceEq, Int.reduceMul, Int.reduceAdd, Int.reduceSub, ne_eq, not_false_eq_true] <;> fail) : p := e f0
theorem G1 {p : Prop} {F0 : Prop} (f0 : F0) (e : F0 → p := by intro f0; (first | exact T1 @f0 | (refine E1 @f0 ?_; (repeat' apply And.intro) <;> first | exact True.intro | (congr 1; omega) | rfl) | (refine W0 ?_; exact T1 @f0) | (refine E1 @f0 ?_; simp [f0] <;> fail) | (refine W0 ?_; refine E1 @f0 ?_; simp [f0] <;> fail) | (simp [f0] <;> fail))) : p := e f0
theorem E2 {p q : Prop} {F0 F1 : Prop} (f0 : F0) (f1 : F1) (k : q) (e : F0 → F1 → q → p := by intro f0 f1; intro h; simp -implicitDefEqProofs only [go_sem, f0, f1, ↓reduceIte, Nat.reduceEqDiff, Nat.reduceAdd, Nat.reduceMul, Nat.reduceSub, Nat.reduceLeDiff, Nat.reduceBEq, Int.reduceBEq, Int.reduceBNe, Int.reduceGT, Int.reduceGE, Nat.reduceLT, UInt8.reduceOfNat, UInt32.reduceOfNat, UInt64.reduceOfNat, Int.reduceNe, Int.reduceLE, Int.reduceLT, Int.reduceToNat, Int.reduceEq, Int.reduceMul, Int.reduceAdd, Int.reduceSub, ne_eq, not_false_eq_true]; exact h) : p := e f0 f1 k
theorem T2 {p : Prop} {F0 F1 : Prop} (f0 : F0) (f1 : F1) (e : F0 → F1 → p := by intro f0 f1; simp -implicitDefEqProofs only [go_sem, f0, f1, ↓reduceIte, Nat.reduceEqDiff, Nat.reduceAdd, Nat.reduceMul, Nat.reduceSub, Nat.reduceLeDiff, Nat.reduceBEq, Int.reduceBEq, Int.reduceBNe, Int.reduceGT, Int.reduceGE, Nat.reduceLT, UInt8.reduceOfNat, UInt32.reduceOfNat, UInt64.reduceOfNat, Int.reduceNe, Int.reduceLE, Int.reduceLT, Int.reduceToNat, Int.reduceEq, Int.reduceMul, Int.reduceAdd, Int.reduceSub, ne_eq, not_false_eq_true] <;> fail) : p := e f0 f1
theorem G2 {p : Prop} {F0 F1 : Prop} (f0 : F0) (f1 : F1) (e : F0 → F1 → p := by intro f0 f1; (first | exact T2 @f0 @f1 | (refine E2 @f0 @f1 ?_; (repeat' apply And.intro) <;> first | exact True.intro | (congr 1; omega) | rfl) | (refine W0 ?_; exact T2 @f0 @f1) | (refine E2 @f0 @f1 ?_; simp [f0, f1] <;> fail) | (refine W0 ?_; refine E2 @f0 @f1 ?_; simp [f0, f1] <;> fail) | (simp [f0, f1] <;> fail))) : p := e f0 f1
theorem E3 {p q : Prop} {F0 F1 F2 : Prop} (f0 : F0) (f1 : F1) (f2 : F2) (k : q) (e : F0 → F1 → F2 → q → p := by intro f0 f1 f2; intro h; simp -implicitDefEqProofs only [go_sem, f0, f1, f2, ↓reduceIte, Nat.reduceEqDiff, Nat.reduceAdd, Nat.reduceMul, Nat.reduceSub, Nat.reduceLeDiff, Nat.reduceBEq, Int.reduceBEq, Int.reduceBNe, Int.reduceGT, Int.reduceGE, Nat.reduceLT, UInt8.reduceOfNat, UInt32.reduceOfNat, UInt64.reduceOfNat, Int.reduceNe, Int.reduceLE, Int.reduceLT, Int.reduceToNat, Int.reduceEq, Int.reduceMul, Int.reduceAdd, Int.reduceSub, ne_eq, not_false_eq_true]; exact h) : p := e f0 f1 f2 k
theorem T3 {p : Prop} {F0 F1 F2 : Prop} (f0 : F0) (f1 : F1) (f2 : F2) (e : F0 → F1 → F2 → p := by intro f0 f1 f2; simp -implicitDefEqProofs only [go_sem, f0, f1, f2, ↓reduceIte, Nat.reduceEqDiff, Nat.reduceAdd, Nat.reduceMul, Nat.reduceSub, Nat.reduceLeDiff, Nat.reduceBEq, Int.reduceBEq, Int.reduceBNe, Int.reduceGT, Int.reduceGE, Nat.reduceLT, UInt8.reduceOfNat, UInt32.reduceOfNat, UInt64.reduceOfNat, Int.reduceNe, Int.reduceLE, Int.reduceLT, Int.reduceToNat, Int.reduceEq, Int.reduceMul, Int.reduceAdd, Int.reduceSub, ne_eq, not_false_eq_true] <;> fail) : p := e f0 f1 f2
theorem G3 {p : Prop} {F0 F1 F2 : Prop} (f0 : F0) (f1 : F1) (f2 : F2) (e : F0 → F1 → F2 → p := by intro f0 f1 f2; (first | exact T3 @f0 @f1 @f2 | (refine E3 @f0 @f1 @f2 ?_; (repeat' apply And.intro) <;> first | exact True.intro | (congr 1; omega) | rfl) | (refine W0 ?_; exact T3 @f0 @f1 @f2) | (refine E3 @f0 @f1 @f2 ?_; simp [f0, f1, f2] <;> fail) | (refine W0 ?_; refine E3 @f0 @f1 @f2 ?_; simp [f0, f1, f2] <;> fail) | (simp [f0, f1, f2] <;> fail))) : p := e f0 f1 f2
theorem E4 {p q : Prop} {F0 F1 F2 F3 : Prop} (f0 : F0) (f1 : F1) (f2 : F2) (f3 : F3) (k : q) (e : F0 → F1 → F2 → F3 → q → p := by intro f0 f1 f2 f3; intro h; simp -implicitDefEqProofs only [go_sem, f0, f1, f2, f3, ↓reduceIte, Nat.reduceEqDiff, Nat.reduceAdd, Nat.reduceMul, Nat.reduceSub, Nat.reduceLeDiff, Nat.reduceBEq, Int.reduceBEq, Int.reduceBNe, Int.reduceGT, Int.reduceGE, Nat.reduceLT, UInt8.reduceOfNat, UInt32.reduceOfNat, UInt64.reduceOfNat, Int.reduceNe, Int.reduceLE, Int.reduceLT, Int.reduceToNat, Int.reduceEq, Int.reduceMul, Int.reduceAdd, Int.reduceSub, ne_eq, not_false_eq_true]; exact h) : p := e f0 f1 f2 f3 k
theorem T4 {p : Prop} {F0 F1 F2 F3 : Prop} (f0 : F0) (f1 : F1) (f2 : F2) (f3 : F3) (e : F0 → F1 → F2 → F3 → p := by intro f0 f1 f2 f3; simp -implicitDefEqProofs only [go_sem, f0, f1, f2, f3, ↓reduceIte, Nat.reduceEqDiff, Nat.reduceAdd, Nat.reduceMul, Nat.reduceSub, Nat.reduceLeDiff, Nat.reduceBEq, Int.reduceBEq, Int.reduceBNe, Int.reduceGT, Int.reduceGE, Nat.reduceLT, UInt8.reduceOfNat, UInt32.reduceOfNat, UInt64.reduceOfNat, Int.reduceNe, Int.reduceLE, Int.reduceLT, Int.reduceToNat, Int.reduceEq, Int.reduceMul, Int.reduceAdd, Int.reduceSub, ne_eq, not_false_eq_true] <;> fail) : p := e f0 f1 f2 f3
theorem G4 {p : Prop} {F0 F1 F2 F3 : Prop} (f0 : F0) (f1 : F1) (f2 : F2) (f3 : F3) (e : F0 → F1 → F2 → F3 → p := by intro f0 f1 f2 f3; (first | exact T4 @f0 @f1 @f2 @f3 | (refine E4 @f0 @f1 @f2 @f3 ?_; (repeat' apply And.intro) <;> first | exact True.intro | (congr 1; omega) | rfl) | (refine W0 ?_; exact T4 @f0 @f1 @f2 @f3) | (refine E4 @f0 @f1 @f2 @f3 ?_; simp [f0, f1, f2, f3] <;> fail) | (refine W0 ?_; refine E4 @f0 @f1 @f2 @f3 ?_; simp [f0, f1, f2, f3] <;> fail) | (simp [f0, f1, f2, f3] <;> fail))) : p := e f0 f1 f2 f3
theorem E5 {p q : Prop} {F0 F1 F2 F3 F4 : Prop} (f0 : F0) (f1 : F1) (f2 : F2) (f3 : F3) (f4 : F4) (k : q) (e : F0 → F1 → F2 → F3 → F4 → q → p := by intro f0 f1 f2 f3 f4; intro h; simp -implicitDefEqProofs only [go_sem, f0, f1, f2, f3, f4, ↓reduceIte, Nat.reduceEqDiff, Nat.reduceAdd, Nat.reduceMul, Nat.reduceSub, Nat.reduceLeDiff, Nat.reduceBEq, Int.reduceBEq, Int.reduceBNe, Int.reduceGT, Int.reduceGE, Nat.reduceLT, UInt8.reduceOfNat, UInt32.reduceOfNat, UInt64.reduceOfNat, Int.reduceNe, Int.reduceLE, Int.reduceLT, Int.reduceToNat, Int.reduceEq, Int.reduceMul, Int.reduceAdd, Int.reduceSub, ne_eq, not_false_eq_true]; exact h) : p := e f0 f1 f2 f3 f4 k
theorem T5 {p : Prop} {F0 F1 F2 F3 F4 : Prop} (f0 : F0) (f1 : F1) (f2 : F2) (f3 : F3) (f4 : F4) (e : F0 → F1 → F2 → F3 → F4 → p := by intro f0 f1 f2 f3 f4; simp -implicitDefEqProofs only [go_sem, f0, f1, f2, f3, f4, ↓reduceIte, Nat.reduceEqDiff, Nat.reduceAdd, Nat.reduceMul, Nat.reduceSub, Nat.reduceLeDiff, Nat.reduceBEq, Int.reduceBEq, Int.reduceBNe, Int.reduceGT, Int.reduceGE, Nat.reduceLT, UInt8.reduceOfNat, UInt32.reduceOfNat, UInt64.reduceOfNat, Int.reduceNe, Int.reduceLE, Int.reduceLT, Int.reduceToNat, Int.reduceEq, Int.reduceMul, Int.reduceAdd, Int.reduceSub, ne_eq, not_false_eq_true] <;> fail) : p := e f0 f1 f2 f3 f4
theorem G5 {p : Prop} {F0 F1 F2 F3 F4 : Prop} (f0 : F0) (f1 : F1) (f2 : F2) (f3 : F3) (f4 : F4) (e : F0 → F1 → F2 → F3 → F4 → p := by intro f0 f1 f2 f3 f4; (first | exact T5 @f0 @f1 @f2 @f3 @f4 | (refine E5 @f0 @f1 @f2 @f3 @f4 ?_; (repeat' apply And.intro) <;> first | exact True.intro | (congr 1; omega) | rfl) | (refine W0 ?_; exact T5 @f0 @f1 @f2 @f3 @f4) | (refine E5 @f0 @f1 @f2 @f3 @f4 ?_; simp [f0, f1, f2, f3, f4] <;> fail) | (refine W0 ?_; refine E5 @f0 @f1 @f2 @f3 @f4 ?_; simp [f0, f1, f2, f3, f4] <;> fail) | (simp [f0, f1, f2, f3, f4] <;> fail))) : p := e f0 f1 f2 f3 f4
theorem E6 {p q : Prop} {F0 F1 F2 F3 F4 F5 : Prop} (f0 : F0) (f1 : F1) (f2 : F2) (f3 : F3) (f4 : F4) (f5 : F5) (k : q) (e : F0 → F1 → F2 → F3 → F4 → F5 → q → p := by intro f0 f1 f2 f3 f4 f5; intro h; simp -implicitDefEqProofs only [go_sem, f0, f1, f2, f3, f4, f5, ↓reduceIte, Nat.reduceEqDiff, Nat.reduceAdd, Nat.reduceMul, Nat.reduceSub, Nat.reduceLeDiff, Nat.reduceBEq, Int.reduceBEq, Int.reduceBNe, Int.reduceGT, Int.reduceGE, Nat.reduceLT, UInt8.reduceOfNat, UInt32.reduceOfNat, UInt64.reduceOfNat, Int.reduceNe, Int.reduceLE, Int.reduceLT, Int.reduceToNat, Int.reduceEq, Int.reduceMul, Int.reduceAdd, Int.reduceSub, ne_eq, not_false_eq_true]; exact h) : p := e f0 f1 f2 f3 f4 f5 k
theorem T6 {p : Prop} {F0 F1 F2 F3 F4 F5 : Prop} (f0 : F0) (f1 : F1) (f2 : F2) (f3 : F3) (f4 : F4) (f5 : F5) (e : F0 → F1 → F2 → F3 → F4 → F5 → p := by intro f0 f1 f2 f3 f4 f5; simp -implicitDefEqProofs only [go_sem, f0, f1, f2, f3, f4, f5, ↓reduceIte, Nat.reduceEqDiff, Nat.reduceAdd, Nat.reduceMul, Nat.reduceSub, Nat.reduceLeDiff, Nat.reduceBEq, Int.reduceBEq, Int.reduceBNe, Int.reduceGT, Int.reduceGE, Nat.reduceLT, UInt8.reduceOfNat, UInt32.reduceOfNat, UInt64.reduceOfNat, Int.reduceNe, Int.reduceLE, Int.reduceLT, Int.reduceToNat, Int.reduceEq, Int.reduceMul, Int.reduceAdd, Int.reduceSub, ne_eq, not_false_eq_true] <;> fail) : p := e f0 f1 f2 f3 f4 f5
theorem G6 {p : Prop} {F0 F1 F2 F3 F4 F5 : Prop} (f0 : F0) (f1 : F1) (f2 : F2) (f3 : F3) (f4 : F4) (f5 : F5) (e : F0 → F1 → F2 → F3 → F4 → F5 → p := by intro f0 f1 f2 f3 f4 f5; (first | exact T6 @f0 @f1 @f2 @f3 @f4 @f5 | (refine E6 @f0 @f1 @f2 @f3 @f4 @f5 ?_; (repeat' apply And.intro) <;> first | exact True.intro | (congr 1; omega) | rfl) | (refine W0 ?_; exact T6 @f0 @f1 @f2 @f3 @f4 @f5) | (refine E6 @f0 @f1 @f2 @f3 @f4 @f5 ?_; simp [f0, f1, f2, f3, f4, f5] <;> fail) | (refine W0 ?_; refine E6 @f0 @f1 @f2 @f3 @f4 @f5 ?_; simp [f0, f1, f2, f3, f4, f5] <;> fail) | (simp [f0, f1, f2, f3, f4, f5] <;> fail))) : p := e f0 f1 f2 f3 f4 f5
theorem E7 {p q : Prop} {F0 F1 F2 F3 F4 F5 F6 : Prop} (f0 : F0) (f1 : F1) (f2 : F2) (f3 : F3) (f4 : F4) (f5 : F5) (f6 : F6) (k : q) (e : F0 → F1 → F2 → F3 → F4 → F5 → F6 → q → p := by intro f0 f1 f2 f3 f4 f5 f6; intro h; simp -implicitDefEqProofs only [go_sem, f0, f1, f2, f3, f4, f5, f6, ↓reduceIte, Nat.reduceEqDiff, Nat.reduceAdd, Nat.reduceMul, Nat.reduceSub, Nat.reduceLeDiff, Nat.reduceBEq, Int.reduceBEq, Int.reduceBNe, Int.reduceGT, Int.reduceGE, Nat.reduceLT, UInt8.reduceOfNat, UInt32.reduceOfNat, UInt64.reduceOfNat, Int.reduceNe, Int.reduceLE, Int.reduceLT, Int.reduceToNat, Int.reduceEq, Int.reduceMul, Int.reduceAdd, Int.reduceSub, ne_eq, not_false_eq_true]; exact h) : p := e f0 f1 f2 f3 f4 f5 f6 k
theorem T7 {p : Prop} {F0 F1 F2 F3 F4 F5 F6 : Prop} (f0 : F0) (f1 : F1) (f2 : F2) (f3 : F3) (f4 : F4) (f5 : F5) (f6 : F6) (e : F0 → F1 → F2 → F3 → F4 → F5 → F6 → p := by intro f0 f1 f2 f3 f4 f5 f6; simp -implicitDefEqProofs only [go_sem, f0, f1, f2, f3, f4, f5, f6, ↓reduceIte, Nat.reduceEqDiff, Nat.reduceAdd, Nat.reduceMul, Nat.reduceSub, Nat.reduceLeDiff, Nat.reduceBEq, Int.reduceBEq, Int.reduceBNe, Int.reduceGT, Int.reduceGE, Nat.reduceLT, UInt8.reduceOfNat, UInt32.reduceOfNat, UInt64.reduceOfNat, Int.reduceNe, Int.reduceLE, Int.reduceLT, Int.reduceToNat, Int.reduceEq, Int.reduceMul, Int.reduceAdd, Int.reduceSub, ne_eq, not_false_eq_true] <;> fail) : p := e f0 f1 f2 f3 f4 f5 f6
theorem G7 {p : Prop} {F0 F1 F2 F3 F4 F5 F6 : Prop} (f0 : F0) (f1 : F1) (f2 : F2) (f3 : F3) (f4 : F4) (f5 : F5) (f6 : F6) (e : F0 → F1 → F2 → F3 → F4 → F5 → F6 → p := by intro f0 f1 f2 f3 f4 f5 f6; (first | exact T7 @f0 @f1 @f2 @f3 @f4 @f5 @f6 | (refine E7 @f0 @f1 @f2 @f3 @f4 @f5 @f6 ?_; (repeat' apply And.intro) <;> first | exact True.intro | (congr 1; omega) | rfl) | (refine W0 ?_; exact T7 @f0 @f1 @f2 @f3 @f4 @f5 @f6) | (refine E7 @f0 @f1 @f2 @f3 @f4 @f5 @f6 ?_; simp [f0, f1, f2, f3, f4, f5, f6] <;> fail) | (refine W0 ?_; refine E7 @f0 @f1 @f2 @f3 @f4 @f5 @f6 ?_; simp [f0, f1, f2, f3, f4, f5, f6] <;> fail) | (simp [f0, f1, f2, f3, f4, f5, f6] <;> fail))) : p := e f0 f1 f2 f3 f4 f5 f6
theorem E8 {p q : Prop} {F0 F1 F2 F3 F4 F5 F6 F7 : Prop} (f0 : F0) (f1 : F1) (f2 : F2) (f3 : F3) (f4 : F4) (f5 : F5) (f6 : F6) (f7 : F7) (k : q) (e : F0 → F1 → F2 → F3 → F4 → F5 → F6 → F7 → q → p := by intro f0 f1 f2 f3 f4 f5 f6 f7; intro h; simp -implicitDefEqProofs only [go_sem, f0, f1, f2, f3, f4, f5, f6, f7, ↓reduceIte, Nat.reduceEqDiff, Nat.reduceAdd, Nat.reduceMul, Nat.reduceSub, Nat.reduceLeDiff, Nat.reduceBEq, Int.reduceBEq, Int.reduceBNe, Int.reduceGT, Int.reduceGE, Nat.reduceLT, UInt8.reduceOfNat, UInt32.reduceOfNat, UInt64.reduceOfNat, Int.reduceNe, Int.reduceLE, Int.reduceLT, Int.reduceToNat, Int.reduceEq, Int.reduceMul, Int.reduceAdd, Int.reduceSub, ne_eq, not_false_eq_true]; exact h) : p := e f0 f1 f2 f3 f4 f5 f6 f7 k
theorem T8 {p : Prop} {F0 F1 F2 F3 F4 F5 F6 F7 : Prop} (f0 : F0) (f1 : F1) (f2 : F2) (f3 : F3) (f4 : F4) (f5 : F5) (f6 : F6) (f7 : F7) (e : F0 → F1 → F2 → F3 → F4 → F5 → F6 → F7 → p := by intro f0 f1 f2 f3 f4 f5 f6 f7; simp -implicitDefEqProofs only [go_sem, f0, f1, f2, f3, f4, f5, f6, f7, ↓reduceIte, Nat.reduceEqDiff, Nat.reduceAdd, Nat.reduceMul, Nat.reduceSub, Nat.reduceLeDiff, Nat.reduceBEq, Int.reduceBEq, Int.reduceBNe, Int.reduceGT, Int.reduceGE, Nat.reduceLT, UInt8.reduceOfNat, UInt32.reduceOfNat, UInt64.reduceOfNat, Int.reduceNe, Int.reduceLE, Int.reduceLT, Int.reduceToNat, Int.reduceEq, Int.reduceMul, Int.reduceAdd, Int.reduceSub, ne_eq, not_false_eq_true] <;> fail) : p := e f0 f1 f2 f3 f4 f5 f6 f7
theorem G8 {p : Prop} {F0 F1 F2 F3 F4 F5 F6 F7 : Prop} (f0 : F0) (f1 : F1) (f2 : F2) (f3 : F3) (f4 : F4) (f5 : F5) (f6 : F6) (f7 : F7) (e : F0 → F1 → F2 → F3 → F4 → F5 → F6 → F7 → p := by intro f0 f1 f2 f3 f4 f5 f6 f7; (first | exact T8 @f0 @f1 @f2 @f3 @f4 @f5 @f6 @f7 | (refine E8 @f0 @f1 @f2 @f3 @f4 @f5 @f6 @f7 ?_; (repeat' apply And.intro) <;> first | exact True.intro | (congr 1; omega) | rfl) | (refine W0 ?_; exact T8 @f0 @f1 @f2 @f3 @f4 @f5 @f6 @f7) | (refine E8 @f0 @f1 @f2 @f3 @f4 @f5 @f6 @f7 ?_; simp [f0, f1, f2, f3, f4, f5, f6, f7] <;> fail) | (refine W0 ?_; refine E8 @f0 @f1 @f2 @f3 @f4 @f5 @f6 @f7 ?_; simp [f0, f1, f2, f3, f4, f5, f6, f7] <;> fail) | (simp [f0, f1, f2, f3, f4, f5, f6, f7] <;> fail))) : p := e f0 f1 f2 f3 f4 f5 f6 f7
theorem E9 {p q : Prop} {F0 F1 F2 F3 F4 F5 F6 F7 F8 : Prop} (f0 : F0) (f1 : F1) (f2 : F2) (f3 : F3) (f4 : F4) (f5 : F5) (f6 : F6) (f7 : F7) (f8 : F8) (k : q) (e : F0 → F1 → F2 → F3 → F4 → F5 → F6 → F7 → F8 → q → p := by intro f0 f1 f2 f3 f4 f5 f6 f7 f8; intro h; simp -implicitDefEqProofs only [go_sem, f0, f1, f2, f3, f4, f5, f6, f7, f8, ↓reduceIte, Nat.reduceEqDiff, Nat.reduceAdd, Nat.reduceMul, Nat.reduceSub, Nat.reduceLeDiff, Nat.reduceBEq, Int.reduceBEq, Int.reduceBNe, Int.reduceGT, Int.reduceGE, Nat.reduceLT, UInt8.reduceOfNat, UInt32.reduceOfNat, UInt64.reduceOfNat, Int.reduceNe, Int.reduceLE, Int.reduceLT, Int.reduceToNat, Int.reduceEq, Int.reduceMul, Int.reduceAdd, Int.reduceSub, ne_eq, not_false_eq_true]; exact h) : p := e f0 f1 f2 f3 f4 f5 f6 f7 f8 k
theorem T9 {p : Prop} {F0 F1 F2 F3 F4 F5 F6 F7 F8 : Prop} (f0 : F0) (f1 : F1) (f2 : F2) (f3 : F3) (f4 : F4) (f5 : F5) (f6 : F6) (f7 : F7) (f8 : F8) (e : F0 → F1 → F2 → F3 → F4 → F5 → F6 → F7 → F8 → p := by intro f0 f1 f2 f3 f4 f5 f6 f7 f8; simp -implicitDefEqProofs only [go_sem, f0, f1, f2, f3, f4, f5, f6, f7, f8, ↓reduceIte, Nat.reduceEqDiff, Nat.reduceAdd, Nat.reduceMul, Nat.reduceSub, Nat.reduceLeDiff, Nat.reduceBEq, Int.reduceBEq, Int.reduceBNe, Int.reduceGT, Int.reduceGE, Nat.reduceLT, UInt8.reduceOfNat, UInt32.reduceOfNat, UInt64.reduceOfNat, Int.reduceNe, Int.reduceLE, Int.reduceLT, Int.reduceToNat, Int.reduceEq, Int.reduceMul, Int.reduceAdd, Int.reduceSub, ne_eq, not_false_eq_true] <;> fail) : p := e f0 f1 f2 f3 f4 f5 f6 f7 f8
theorem E10 {p q : Prop} {F0 F1 F2 F3 F4 F5 F6 F7 F8 F9 : Prop} (f0 : F0) (f1 : F1) (f2 : F2) (f3 : F3) (f4 : F4) (f5 : F5) (f6 : F6) (f7 : F7) (f8 : F8) (f9 : F9) (k : q) (e : F0 → F1 → F2 → F3 → F4 → F5 → F6 → F7 → F8 → F9 → q → p := by intro f0 f1 f2 f3 f4 f5 f6 f7 f8 f9; intro h; simp -implicitDefEqProofs only [go_sem, f0, f1, f2, f3, f4, f5, f6, f7, f8, f9, ↓reduceIte, Nat.reduceEqDiff, Nat.reduceAdd, Nat.reduceMul, Nat.reduceSub, Nat.reduceLeDiff, Nat.reduceBEq, Int.reduceBEq, Int.reduceBNe, Int.reduceGT, Int.reduceGE, Nat.reduceLT, UInt8.reduceOfNat, UInt32.reduceOfNat, UInt64.reduceOfNat, Int.reduceNe, Int.reduceLE, Int.reduceLT, Int.reduceToNat, Int.reduceEq, Int.reduceMul, Int.reduceAdd, Int.reduceSub, ne_eq, not_false_eq_true]; exact h) : p := e f0 f1 f2 f3 f4 f5 f6 f7 f8 f9 k
theorem T10 {p : Prop} {F0 F1 F2 F3 F4 F5 F6 F7 F8 F9 : Prop} (f0 : F0) (f1 : F1) (f2 : F2) (f3 : F3) (f4 : F4) (f5 : F5) (f6 : F6) (f7 : F7) (f8 : F8) (f9 : F9) (e : F0 → F1 → F2 → F3 → F4 → F5 → F6 → F7 → F8 → F9 → p := by intro f0 f1 f2 f3 f4 f5 f6 f7 f8 f9; simp -implicitDefEqProofs only [go_sem, f0, f1, f2, f3, f4, f5, f6, f7, f8, f9, ↓reduceIte, Nat.reduceEqDiff, Nat.reduceAdd, Nat.reduceMul, Nat.reduceSub, Nat.reduceLeDiff, Nat.reduceBEq, Int.reduceBEq, Int.reduceBNe, Int.reduceGT, Int.reduceGE, Nat.reduceLT, UInt8.reduceOfNat, UInt32.reduceOfNat, UInt64.reduceOfNat, Int.reduceNe, Int.reduceLE, Int.reduceLT, Int.reduceToNat, Int.reduceEq, Int.reduceMul, Int.reduceAdd, Int.reduceSub, ne_eq, not_false_eq_true] <;> fail) : p := e f0 f1 f2 f3 f4 f5 f6 f7 f8 f9
theorem E11 {p q : Prop} {F0 F1 F2 F3 F4 F5 F6 F7 F8 F9 F10 : Prop} (f0 : F0) (f1 : F1) (f2 : F2) (f3 : F3) (f4 : F4) (f5 : F5) (f6 : F6) (f7 : F7) (f8 : F8) (f9 : F9) (f10 : F10) (k : q) (e : F0 → F1 → F2 → F3 → F4 → F5 → F6 → F7 → F8 → F9 → F10 → q → p := by intro f0 f1 f2 f3 f4 f5 f6 f7 f8 f9 f10; intro h; simp -implicitDefEqProofs only [go_sem, f0, f1, f2, f3, f4, f5, f6, f7, f8, f9, f10, ↓reduceIte, Nat.reduceEqDiff, Nat.reduceAdd, Nat.reduceMul, Nat.reduceSub, Nat.reduceLeDiff, Nat.reduceBEq, Int.reduceBEq, Int.reduceBNe, Int.reduceGT, Int.reduceGE, Nat.reduceLT, UInt8.reduceOfNat, UInt32.reduceOfNat, UInt64.reduceOfNat, Int.reduceNe, Int.reduceLE, Int.reduceLT, Int.reduceToNat, Int.reduceEq, Int.reduceMul, Int.reduceAdd, Int.reduceSub, ne_eq, not_false_eq_true]; exact h) : p := e f0 f1 f2 f3 f4 f5 f6 f7 f8 f9 f10 k
theorem T11 {p : Prop} {F0 F1 F2 F3 F4 F5 F6 F7 F8 F9 F10 : Prop} (f0 : F0) (f1 : F1) (f2 : F2) (f3 : F3) (f4 : F4) (f5 : F5) (f6 : F6) (f7 : F7) (f8 : F8) (f9 : F9) (f10 : F10) (e : F0 → F1 → F2 → F3 → F4 → F5 → F6 → F7 → F8 → F9 → F10 → p := by intro f0 f1 f2 f3 f4 f5 f6 f7 f8 f9 f10; simp -implicitDefEqProofs only [go_sem, f0, f1, f2, f3, f4, f5, f6, f7, f8, f9, f10, ↓reduceIte, Nat.reduceEqDiff, Nat.reduceAdd, Nat.reduceMul, Nat.reduceSub, Nat.reduceLeDiff, Nat.reduceBEq, Int.reduceBEq, Int.reduceBNe, Int.reduceGT, Int.reduceGE, Nat.reduceLT, UInt8.reduceOfNat, UInt32.reduceOfNat, UInt64.reduceOfNat, Int.reduceNe, Int.reduceLE, Int.reduceLT, Int.reduceToNat, Int.reduceEq, Int.reduceMul, Int.reduceAdd, Int.reduceSub, ne_eq, not_false_eq_true] <;> fail) : p := e f0 f1 f2 f3 f4 f5 f6 f7 f8 f9 f10
theorem E12 {p q : Prop} {F0 F1 F2 F3 F4 F5 F6 F7 F8 F9 F10 F11 : Prop} (f0 : F0) (f1 : F1) (f2 : F2) (f3 : F3) (f4 : F4) (f5 : F5) (f6 : F6) (f7 : F7) (f8 : F8) (f9 : F9) (f10 : F10) (f11 : F11) (k : q) (e : F0 → F1 → F2 → F3 → F4 → F5 → F6 → F7 → F8 → F9 → F10 → F11 → q → p := by intro f0 f1 f2 f3 f4 f5 f6 f7 f8 f9 f10 f11; intro h; simp -implicitDefEqProofs only [go_sem, f0, f1, f2, f3, f4, f5, f6, f7, f8, f9, f10, f11, ↓reduceIte, Nat.reduceEqDiff, Nat.reduceAdd, Nat.reduceMul, Nat.reduceSub, Nat.reduceLeDiff, Nat.reduceBEq, Int.reduceBEq, Int.reduceBNe, Int.reduceGT, Int.reduceGE, Nat.reduceLT, UInt8.reduceOfNat, UInt32.reduceOfNat, UInt64.reduceOfNat, Int.reduceNe, Int.reduceLE, Int.reduceLT, Int.reduceToNat, Int.reduceEq, Int.reduceMul, Int.reduceAdd, Int.reduceSub, ne_eq, not_false_eq_true]; exact h) : p := e f0 f1 f2 f3 f4 f5 f6 f7 f8 f9 f10 f11 k
theorem T12 {p : Prop} {F0 F1 F2 F3 F4 F5 F6 F7 F8 F9 F10 F11 : Prop} (f0 : F0) (f1 : F1) (f2 : F2) (f3 : F3) (f4 : F4) (f5 : F5) (f6 : F6) (f7 : F7) (f8 : F8) (f9 : F9) (f10 : F10) (f11 : F11) (e : F0 → F1 → F2 → F3 → F4 → F5 → F6 → F7 → F8 → F9 → F10 → F11 → p := by intro f0 f1 f2 f3 f4 f5 f6 f7 f8 f9 f10 f11; simp -implicitDefEqProofs only [go_sem, f0, f1, f2, f3, f4, f5, f6, f7, f8, f9, f10, f11, ↓reduceIte, Nat.reduceEqDiff, Nat.reduceAdd, Nat.reduceMul, Nat.reduceSub, Nat.reduceLeDiff, Nat.reduceBEq, Int.reduceBEq, Int.reduceBNe, Int.reduceGT, Int.reduceGE, Nat.reduceLT, UInt8.reduceOfNat, UInt32.reduceOfNat, UInt64.reduceOfNat, Int.reduceNe, Int.reduceLE, Int.reduceLT, Int.reduceToNat, Int.reduceEq, Int.reduceMul, Int.reduceAdd, Int.reduceSub, ne_eq, not_false_eq_true] <;> fail) : p := e f0 f1 f2 f3 f4 f5 f6 f7 f8 f9 f10 f11
theorem O0 {p : Prop} {k : Unit → Prop} (h : k ()) (hp : p := by omega) : @Chk p ⟨k⟩ := ⟨hp, h⟩
theorem D0 {P : Program} {V : List Nat} {N B id : Nat} {ops : Array Oper} {Q : AEx → St → Prop} {s : St} (h : @wpbH P [] ⟨ops⟩ ⟨(0, ops.toList)⟩ ⟨fun s' => Q .normal ⟨keepE V s'.env, s'.σ⟩⟩ s) (hm : P.follows .mixedOrders = true := by rfl) (hB : drawB2 P N ops [] = true := by kernel_rfl) : @DrawH P V N B id ⟨ops⟩ ⟨Q⟩ s := draw2 [] hm hB h
theorem D2 {P : Program} {V : List Nat} {N B id : Nat} {ops : Array Oper} {Q : AEx → St → Prop} {s : St} (bs : List Nat) (h : @wpbH P bs ⟨ops⟩ ⟨(0, ops.toList)⟩ ⟨fun s' => Q .normal ⟨keepE V s'.env, s'.σ⟩⟩ s) (hm : P.follows .mixedOrders = true := by rfl) (hB : drawB2 P N ops bs = true := by kernel_rfl) : @DrawH P V N B id ⟨ops⟩ ⟨Q⟩ s := draw2 bs hm hB h
theorem D3 {P : Program} {V : List Nat} {N B id : Nat} {ops : Array Oper} {Q : AEx → St → Prop} {s : St} (bs fs : List Nat) (x : Nat) (h : @wpfH P fs ⟨(0, ops.toList)⟩ ⟨fun s' => @wpsH P bs fs ⟨ops⟩ ⟨(0, ops.toList)⟩ ⟨fun s' => Q .normal ⟨keepE V s'.env, s'.σ⟩⟩ s'⟩ s) (hm : P.follows .mixedOrders = true := by rfl) (hB : drawB3 P N ops bs fs x = true := by kernel_rfl) : @DrawH P V N B id ⟨ops⟩ ⟨Q⟩ s := draw3 bs fs x hm hB h
theorem C0 {P : Program} {f : FuncId} {as as' : List AV} {r : AV} {σ : List Ob} {K : AV × List Ob → Prop} (h : Pure P f as' r) (hk : K (r, freezeL σ (as.flatMap refsA))) (ha : as.map (treeA σ) = as' := by first | exact T0 | (refine E0 ?_; rfl) | (refine E0 ?_; rw [take_all (by first | omega | (simp; omega))] <;> fail) | (refine E0 ?_; rw [take_all (by first | omega | (simp; omega))]; rfl)) (ho : allOne as := by exact T0) : @callP P f as σ ⟨K⟩ := call_p h (ha) ho hk
theorem Q0 {P : Program} {f : FuncId} {as as' : List AV} {r : AV} {σ : List Ob} {K : AV → Prop} (h : Pure P f as' r) (hk : K r) (ha : as.map (treeA σ) = as' := by first | exact T0 | (refine E0 ?_; rfl) | (refine E0 ?_; rw [take_all (by first | omega | (simp; omega))] <;> fail) | (refine E0 ?_; rw [take_all (by first | omega | (simp; omega))]; rfl)) (ho : allOne as := by exact T0) (hf : freezeL σ (as.flatMap refsA) = σ := by first | exact T0 | rfl) : @pureP P f as σ ⟨K⟩ := call_q h (ha) ho hf hk
theorem C1 {P : Program} {f : FuncId} {as as' : List AV} {r : AV} {σ : List Ob} {K : AV × List Ob → Prop} {F0 : Prop} (f0 : F0) (h : Pure P f as' r) (hk : K (r, freezeL σ (as.flatMap refsA))) (ha : F0 → as.map (treeA σ) = as' := by intro f0; first | exact T1 @f0 | (refine E1 @f0 ?_; rfl) | (refine E1 @f0 ?_; rw [take_all (by first | omega | (simp; omega))] <;> fail) | (refine E1 @f0 ?_; rw [take_all (by first | omega | (simp; omega))]; rfl)) (ho : allOne as := by exact T0) : @callP P f as σ ⟨K⟩ := call_p h (ha f0) ho hk
theorem Q1 {P : Program} {f : FuncId} {as as' : List AV} {r : AV} {σ : List Ob} {K : AV → Prop} {F0 : Prop} (f0 : F0) (h : Pure P f as' r) (hk : K r) (ha : F0 → as.map (treeA σ) = as' := by intro f0; first | exact T1 @f0 | (refine E1 @f0 ?_; rfl) | (refine E1 @f0 ?_; rw [take_all (by first | omega | (simp; omega))] <;> fail) | (refine E1 @f0 ?_; rw [take_all (by first | omega | (simp; omega))]; rfl)) (ho : allOne as := by exact T0) (hf : freezeL σ (as.flatMap refsA) = σ := by first | exact T0 | rfl) : @pureP P f as σ ⟨K⟩ := call_q h (ha f0) ho hf hk
theorem C2 {P : Program} {f : FuncId} {as as' : List AV} {r : AV} {σ : List Ob} {K : AV × List Ob → Prop} {F0 F1 : Prop} (f0 : F0) (f1 : F1) (h : Pure P f as' r) (hk : K (r, freezeL σ (as.flatMap refsA))) (ha : F0 → F1 → as.map (treeA σ) = as' := by intro f0 f1; first | exact T2 @f0 @f1 | (refine E2 @f0 @f1 ?_; rfl) | (refine E2 @f0 @f1 ?_; rw [take_all (by first | omega | (simp; omega))] <;> fail) | (refine E2 @f0 @f1 ?_; rw [take_all (by first | omega | (simp; omega))]; rfl)) (ho : allOne as := by exact T0) : @callP P f as σ ⟨K⟩ := call_p h (ha f0 f1) ho hk
theorem Q2 {P : Program} {f : FuncId} {as as' : List AV} {r : AV} {σ : List Ob} {K : AV → Prop} {F0 F1 : Prop} (f0 : F0) (f1 : F1) (h : Pure P f as' r) (hk : K r) (ha : F0 → F1 → as.map (treeA σ) = as' := by intro f0 f1; first | exact T2 @f0 @f1 | (refine E2 @f0 @f1 ?_; rfl) | (refine E2 @f0 @f1 ?_; rw [take_all (by first | omega | (simp; omega))] <;> fail) | (refine E2 @f0 @f1 ?_; rw [take_all (by first | omega | (simp; omega))]; rfl)) (ho : allOne as := by exact T0) (hf : freezeL σ (as.flatMap refsA) = σ := by first | exact T0 | rfl) : @pureP P f as σ ⟨K⟩ := call_q h (ha f0 f1) ho hf hk
theorem C3 {P : Program} {f : FuncId} {as as' : List AV} {r : AV} {σ : List Ob} {K : AV × List Ob → Prop} {F0 F1 F2 : Prop} (f0 : F0) (f1 : F1) (f2 : F2) (h : Pure P f as' r) (hk : K (r, freezeL σ (as.flatMap refsA))) (ha : F0 → F1 → F2 → as.map (treeA σ) = as' := by intro f0 f1 f2; first | exact T3 @f0 @f1 @f2 | (refine E3 @f0 @f1 @f2 ?_; rfl) | (refine E3 @f0 @f1 @f2 ?_; rw [take_all (by first | omega | (simp; omega))] <;> fail) | (refine E3 @f0 @f1 @f2 ?_; rw [take_all (by first | omega | (simp; omega))]; rfl)) (ho : allOne as := by exact T0) : @callP P f as σ ⟨K⟩ := call_p h (ha f0 f1 f2) ho hk
theorem Q3 {P : Program} {f : FuncId} {as as' : List AV} {r : AV} {σ : List Ob} {K : AV → Prop} {F0 F1 F2 : Prop} (f0 : F0) (f1 : F1) (f2 : F2) (h : Pure P f as' r) (hk : K r) (ha : F0 → F1 → F2 → as.map (treeA σ) = as' := by intro f0 f1 f2; first | exact T3 @f0 @f1 @f2 | (refine E3 @f0 @f1 @f2 ?_; rfl) | (refine E3 @f0 @f1 @f2 ?_; rw [take_all (by first | omega | (simp; omega))] <;> fail) | (refine E3 @f0 @f1 @f2 ?_; rw [take_all (by first | omega | (simp; omega))]; rfl)) (ho : allOne as := by exact T0) (hf : freezeL σ (as.flatMap refsA) = σ := by first | exact T0 | rfl) : @pureP P f as σ ⟨K⟩ := call_q h (ha f0 f1 f2) ho hf hk
theorem C4 {P : Program} {f : FuncId} {as as' : List AV} {r : AV} {σ : List Ob} {K : AV × List Ob → Prop} {F0 F1 F2 F3 : Prop} (f0 : F0) (f1 : F1) (f2 : F2) (f3 : F3) (h : Pure P f as' r) (hk : K (r, freezeL σ (as.flatMap refsA))) (ha : F0 → F1 → F2 → F3 → as.map (treeA σ) = as' := by intro f0 f1 f2 f3; first | exact T4 @f0 @f1 @f2 @f3 | (refine E4 @f0 @f1 @f2 @f3 ?_; rfl) | (refine E4 @f0 @f1 @f2 @f3 ?_; rw [take_all (by first | omega | (simp; omega))] <;> fail) | (refine E4 @f0 @f1 @f2 @f3 ?_; rw [take_all (by first | omega | (simp; omega))]; rfl)) (ho : allOne as := by exact T0) : @callP P f as σ ⟨K⟩ := call_p h (ha f0 f1 f2 f3) ho hk
theorem Q4 {P : Program} {f : FuncId} {as as' : List AV} {r : AV} {σ : List Ob} {K : AV → Prop} {F0 F1 F2 F3 : Prop} (f0 : F0) (f1 : F1) (f2 : F2) (f3 : F3) (h : Pure P f as' r) (hk : K r) (ha : F0 → F1 → F2 → F3 → as.map (treeA σ) = as' := by intro f0 f1 f2 f3; first | exact T4 @f0 @f1 @f2 @f3 | (refine E4 @f0 @f1 @f2 @f3 ?_; rfl) | (refine E4 @f0 @f1 @f2 @f3 ?_; rw [take_all (by first | omega | (simp; omega))] <;> fail) | (refine E4 @f0 @f1 @f2 @f3 ?_; rw [take_all (by first | omega | (simp; omega))]; rfl)) (ho : allOne as := by exact T0) (hf : freezeL σ (as.flatMap refsA) = σ := by first | exact T0 | rfl) : @pureP P f as σ ⟨K⟩ := call_q h (ha f0 f1 f2 f3) ho hf hk
theorem C5 {P : Program} {f : FuncId} {as as' : List AV} {r : AV} {σ : List Ob} {K : AV × List Ob → Prop} {F0 F1 F2 F3 F4 : Prop} (f0 : F0) (f1 : F1) (f2 : F2) (f3 : F3) (f4 : F4) (h : Pure P f as' r) (hk : K (r, freezeL σ (as.flatMap refsA))) (ha : F0 → F1 → F2 → F3 → F4 → as.map (treeA σ) = as' := by intro f0 f1 f2 f3 f4; first | exact T5 @f0 @f1 @f2 @f3 @f4 | (refine E5 @f0 @f1 @f2 @f3 @f4 ?_; rfl) | (refine E5 @f0 @f1 @f2 @f3 @f4 ?_; rw [take_all (by first | omega | (simp; omega))] <;> fail) | (refine E5 @f0 @f1 @f2 @f3 @f4 ?_; rw [take_all (by first | omega | (simp; omega))]; rfl)) (ho : allOne as := by exact T0) : @callP P f as σ ⟨K⟩ := call_p h (ha f0 f1 f2 f3 f4) ho hk
theorem Q5 {P : Program} {f : FuncId} {as as' : List AV} {r : AV} {σ : List Ob} {K : AV → Prop} {F0 F1 F2 F3 F4 : Prop} (f0 : F0) (f1 : F1) (f2 : F2) (f3 : F3) (f4 : F4) (h : Pure P f as' r) (hk : K r) (ha : F0 → F1 → F2 → F3 → F4 → as.map (treeA σ) = as' := by intro f0 f1 f2 f3 f4; first | exact T5 @f0 @f1 @f2 @f3 @f4 | (refine E5 @f0 @f1 @f2 @f3 @f4 ?_; rfl) | (refine E5 @f0 @f1 @f2 @f3 @f4 ?_; rw [take_all (by first | omega | (simp; omega))] <;> fail) | (refine E5 @f0 @f1 @f2 @f3 @f4 ?_; rw [take_all (by first | omega | (simp; omega))]; rfl)) (ho : allOne as := by exact T0) (hf : freezeL σ (as.flatMap refsA) = σ := by first | exact T0 | rfl) : @pureP P f as σ ⟨K⟩ := call_q h (ha f0 f1 f2 f3 f4) ho hf hk
theorem C6 {P : Program} {f : FuncId} {as as' : List AV} {r : AV} {σ : List Ob} {K : AV × List Ob → Prop} {F0 F1 F2 F3 F4 F5 : Prop} (f0 : F0) (f1 : F1) (f2 : F2) (f3 : F3) (f4 : F4) (f5 : F5) (h : Pure P f as' r) (hk : K (r, freezeL σ (as.flatMap refsA))) (ha : F0 → F1 → F2 → F3 → F4 → F5 → as.map (treeA σ) = as' := by intro f0 f1 f2 f3 f4 f5; first | exact T6 @f0 @f1 @f2 @f3 @f4 @f5 | (refine E6 @f0 @f1 @f2 @f3 @f4 @f5 ?_; rfl) | (refine E6 @f0 @f1 @f2 @f3 @f4 @f5 ?_; rw [take_all (by first | omega | (simp; omega))] <;> fail) | (refine E6 @f0 @f1 @f2 @f3 @f4 @f5 ?_; rw [take_all (by first | omega | (simp; omega))]; rfl)) (ho : allOne as := by exact T0) : @callP P f as σ ⟨K⟩ := call_p h (ha f0 f1 f2 f3 f4 f5) ho hk
theorem Q6 {P : Program} {f : FuncId} {as as' : List AV} {r : AV} {σ : List Ob} {K : AV → Prop} {F0 F1 F2 F3 F4 F5 : Prop} (f0 : F0) (f1 : F1) (f2 : F2) (f3 : F3) (f4 : F4) (f5 : F5) (h : Pure P f as' r) (hk : K r) (ha : F0 → F1 → F2 → F3 → F4 → F5 → as.map (treeA σ) = as' := by intro f0 f1 f2 f3 f4 f5; first | exact T6 @f0 @f1 @f2 @f3 @f4 @f5 | (refine E6 @f0 @f1 @f2 @f3 @f4 @f5 ?_; rfl) | (refine E6 @f0 @f1 @f2 @f3 @f4 @f5 ?_; rw [take_all (by first | omega | (simp; omega))] <;> fail) | (refine E6 @f0 @f1 @f2 @f3 @f4 @f5 ?_; rw [take_all (by first | omega | (simp; omega))]; rfl)) (ho : allOne as := by exact T0) (hf : freezeL σ (as.flatMap refsA) = σ := by first | exact T0 | rfl) : @pureP P f as σ ⟨K⟩ := call_q h (ha f0 f1 f2 f3 f4 f5) ho hf hk
theorem S0 {P : Program} {f : FuncId} {σ σ0 : List Ob} {as as0 : List AV} {R0 : AV → List Ob → Prop} {K : AV × List Ob → Prop} (h : Does P f as0 σ0 R0) (ids ms : List Nat) (tr : List Bool) (hk : ∀ v0 σ0', R0 v0 σ0' → K (renA (mapN ms (freezeL σ ids).length) v0, merge (freezeL σ ids) ms σ0'))
    (hl : ms.length = σ0.length := by rfl) (hn : ms.Nodup := by simp) (ho : ObsFit' (mapL ms) σ0.length (freezeL σ ids) 0 σ0 := by exact T0) (ha : ArgsF σ ids ms σ0.length tr as as0 := by first | exact T0 | (refine E0 ?_; rfl)) : @callP P f as σ ⟨K⟩ := call_st h ids ms tr hl hn ho ha hk
theorem fitsO {B : Nat} (ms : List Nat) {s s1 : St} (he : EnvFit (mapL ms) s1.σ.length s.env s1.env) (ho : ObsFit (mapL ms) s1.σ.length s.σ 0 s1.σ) (hl : ms.length = s1.σ.length := by rfl) (hB : ms.take B = List.range B := by rfl) (hn : ms.Nodup := by simp) : Fits B (mapL ms) s s1 := fits ms hl hB hn he ho
theorem enterO {P : Program} (V : List Nat) (rs : List ResultVar) {f : FuncId} {fn : Func} {c : Code} {as : List AV} {r : AV} (hf : P.funcs[f]? = some fn) (h : @wpcH P V fn.ntmps 0 ⟨c⟩ ⟨EndsP P rs (fun v σ => treeT σ v = r)⟩ ⟨entryE 0 as, []⟩) (hb : fn.body = some c := by rfl)
    (hok : (!(fn.name == "runtime.NumGoroutine") && codeOk P fn.ntmps c && decide (as.length ≤ fn.ntmps) && fn.results.toList.all fun r => match r with | .tmp _ => true | .cell _ t => tyOk P t) = true := by kernel_rfl)
    (hrs : fn.results.toList = rs := by rfl) : Pure P f as r := enterP V rs hf hb hok hrs h
theorem ifp {c : Prop} [Decidable c] (h : c) : ∀ (α : Type) (t e : α), (if c then t else e) = t := fun _ _ _ => if_pos h
theorem ifn {c : Prop} [Decidable c] (h : ¬ c) : ∀ (α : Type) (t e : α), (if c then t else e) = e := fun _ _ _ => if_neg h
end Go.AM
end
