/- A part of the proof: Ab.OpStep Ab.CodeS Ab.RangeF Ab.Func Ab.Calls Ab.FuncS Ab.Slots Ab.DrawA Ab.DrawB Ab.DrawC Ab.SoundNew Ab.DrawD Ab.DrawE Ab.DrawF Ab.Run Ab.Check Ab.W Ab.W2 Ab.W3 Ab.W4 Ab.W5. No conditions. -/
import Derived.Recover
import Derived.Test.YtkgpnpgocgllnaaGreatDoorPrintsP0
set_option linter.unusedSimpArgs false
set_option linter.unusedVariables false
set_option linter.unnecessarySimpa false
set_option linter.unusedSectionVars false
set_option linter.constructorNameAsVariable false
namespace Go.Ab
open Go

/-- How a called function's frame stands where it is through. -/
def RetOk (P : Program) (ρ : Rho) (fr : Frame) (w : World) : AEnd → Prop
  | .ret v => fr.mode = .returning ∧ ∃ fn x, P.funcs[fr.fn]? = some fn ∧ (results fn fr.tmps).run P w = .ok x w ∧ Rel ρ v x
  | .panic v => ∃ fn x, fr.mode = .panicking [{ v := x, recovered := false }] ∧ P.funcs[fr.fn]? = some fn ∧ Rel ρ v x

def base (k : CallKind) : Frame := { (default : Frame) with kind := k }

def SoundCall (C : Ctx) (f : Nat) (args : List AV) (R : RS) (H : Heap) (e : AEnd) (R' : RS) (H' : Heap) : Prop :=
  ∀ (ρ : Rho) (w : World) (vs : Array Value), HRel C ρ H w → RelL ρ args vs.toList →
    (callFunc f vs).run C.P w = .ok (.enter f vs) w ∧
    ∀ (kind : CallKind) (cs : List Frame), (kind = .normal ∧ R = .no ∨ kind = .deferred ∧ C.defers f = true ∧ RRel ρ (base .deferred) cs R) →
      ∃ ρ' w' cs' fr', Step C ρ H w ρ' H' w' ∧ CsRel R R' cs cs' ∧ Steps C.P (lone (Frame.enter C.P f vs kind) cs w) (lone fr' cs' w') ∧
        fr'.kind = kind ∧ fr'.defers = [] ∧ RetOk C.P ρ' fr' w' e

structure EnvOk (C : Ctx) (E : Env) : Prop where
  O : E.O = C.O
  defers : E.defers = C.defers
  call : ∀ f args R H e R' H', E.call f args R H = some (e, R', H') → SoundCall C f args R H e R' H'
  code : ∀ c code, C.cc c code → SoundB C (E.code c) code
  loop : ∀ c code, C.cc c code → SoundIt C (E.loop c) (.inLoop code)

theorem getD_eq (T : Array Value) (n : Nat) : T.getD n undef = T.toList.getD n undef := by
  simp [Array.getD_eq_getD_getElem?, List.getD_eq_getElem?_getD]

theorem opdRel {ρ : Rho} {T : List AV} {V : Array Value} (h : RelL ρ T V.toList) : OpdRel ρ (Opd.ev T) (tev V) := by
  intro x y hxy
  cases x with
  | tmp t =>
    simp only [cOpd, Option.some.injEq] at hxy; subst hxy
    simp only [Opd.ev, tev, getD_eq]
    exact h.getD t undef
  | const v =>
    simp only [cOpd, Option.map_eq_some_iff] at hxy
    obtain ⟨a, ha, rfl⟩ := hxy
    exact absK_rel ρ ha
  | global g =>
    simp only [cOpd, Option.some.injEq] at hxy; subst hxy
    exact .optr _ _
  | func f =>
    simp only [cOpd, Option.some.injEq] at hxy; subst hxy
    exact .func _ rfl .nil .nil

theorem putRel {ρ : Rho} {T : List AV} {V : Array Value} (h : RelL ρ T V.toList) (d : Option Nat) {a : AV} {v : Value} (hv : Rel ρ a v) : RelL ρ (put T d a) (putV V d v).toList := by
  cases d with
  | none => exact h
  | some d => simp only [put, putV, Array.toList_setIfInBounds]; exact h.set d hv

theorem unset_rel (ρ : Rho) : Rel ρ unset undef := .tuple .nil

/-- The guard of an operation, by the slot that its guard writes. -/
def gslot (ops : Array Oper) (o : Oper) : Option (Option (Nat × Bool)) :=
  match o.guard with
  | none => some none
  | some (j, b) => match (ops[j]?).bind (·.dst) with
    | some t => some (some (t, b))
    | none => none

theorem want_sound {ρ : Rho} {T : List AV} {V : Array Value} {ops : Array Oper} {o : Oper} {g : Option (Nat × Bool)} {r : Bool} (h : RelL ρ T V.toList) (hg : gslot ops o = some g) (hw : want T g = some r) :
    Region.wanted o (yielded ops V) = r := by
  unfold gslot at hg
  unfold Region.wanted
  split at hg
  · rename_i hn
    simp only [Option.some.injEq] at hg; subst hg
    simp only [want, Option.some.injEq] at hw
    rw [hn]; exact hw
  · rename_i j b hgd
    rw [hgd]
    split at hg
    · rename_i t ht
      simp only [Option.some.injEq] at hg; subst hg
      have hrel := h.getD t undef
      simp only [want] at hw
      have hy : yielded ops V j = match V[t]? with | some (.bool b) => some b | _ => none := by
        simp [yielded, ht]
        rfl
      have hget : ∀ x, T.getD t .undef = x → x ≠ .undef → ∃ v, V[t]? = some v ∧ Rel ρ x v := by
        intro x hx hne
        cases hT : T[t]? with
        | none => simp [List.getD, hT] at hx; exact absurd hx.symm hne
        | some y =>
          have : T.getD t .undef = y := by simp [List.getD, hT]
          obtain ⟨v, h1, h2⟩ := h.get t y hT
          rw [this] at hx; subst hx
          exact ⟨v, by simpa using h1, h2⟩
      simp only [hy]
      split at hw
      · rename_i c hc
        simp only [Option.some.injEq] at hw; subst hw
        obtain ⟨v, h1, h2⟩ := hget _ hc (by simp)
        cases h2
        rw [h1]
        cases c <;> cases b <;> rfl
      · rename_i hc
        simp only [Option.some.injEq] at hw; subst hw
        obtain ⟨v, h1, h2⟩ := hget _ hc (by simp)
        cases h2
        rw [h1]
        rfl
      · cases hw
    · cases hg

section
variable {C : Ctx} {E : Env}

/-- One operation of a region. -/
theorem op_step (hE : EnvOk C E) {b : Frame} {k : List Item} {cs : List Frame} {s s' : St} {T : Array Value} {D : List Deferred} {w : World} {ρ : Rho} {ex : Ex}
    (hs : SRel C ρ b s T D cs w) {ops : Array Oper} {i : Nat} {rest : List Nat} {o : Oper} {c : COp} {g : Option (Nat × Bool)} (ho : ops[i]? = some o) (hc : comp C.P o = some c) (hg : gslot ops o = some g)
    (h : doOp E ⟨o.dst, c, g⟩ s = some (ex, s')) :
    ∃ ρ' T' D' cs' w', SRel C ρ' b s' T' D' cs' w' ∧ Step C ρ s.H w ρ' s'.H w' ∧ CsRel s.R s'.R cs cs' ∧
      Arr C.P ρ' (lone (mk b T D (.inRegion ops (i :: rest) :: k)) cs w) b (.inRegion ops rest :: k) T' D' cs' w' ex := by
  unfold doOp at h
  simp only at h
  have hfin : ∀ (T2 : Array Value) (v : Value), (mk b T2 D (.inRegion ops (i :: rest) :: k)).finish v = mk b (putV T2 o.dst v) D (.inRegion ops rest :: k) := by
    intro T2 v; rw [mk_finish, ho]; rfl
  split at h
  · cases h
  · rename_i hw
    simp only [Option.some.injEq, Prod.mk.injEq] at h
    obtain ⟨rfl, rfl⟩ := h
    exact ⟨ρ, putV T o.dst undef, D, cs, w, ⟨putRel hs.T _ (unset_rel ρ), hs.D, hs.R, hs.H, hs.fn⟩, Step.refl hs.H, CsRel.refl _ _, .one (st_skipOp ho (want_sound hs.T hg hw))⟩
  · rename_i hw
    have hwant := want_sound hs.T hg hw
    -- what a plain result comes to
    have plain : ∀ {v : AV} {x : Value} {ρ' : Rho} {H' : Heap} {w' : World} {nx : Next}, (b.roundOf = none ∨ ∀ c, o.op ≠ .defer c) → (execOp (tev T) o).run C.P w = .ok nx w' → (nx = .value x ∨ nx = .skip ∧ x = undef) →
        Step C ρ s.H w ρ' H' w' → Rel ρ' v x →
        ∃ ρ' T' D' cs' w', SRel C ρ' b { s with T := put s.T o.dst v, H := H' } T' D' cs' w' ∧ Step C ρ s.H w ρ' H' w' ∧ CsRel s.R s.R cs cs' ∧
          Steps C.P (lone (mk b T D (.inRegion ops (i :: rest) :: k)) cs w) (lone (mk b T' D' (.inRegion ops rest :: k)) cs' w') := by
      intro v x ρ' H' w' nx hd hrun hnx hst hv
      refine ⟨ρ', putV T o.dst x, D, cs, w', ⟨putRel (hs.T.mono hst.le) _ hv, hs.D.mono hst.le, hs.R.mono hst.le, hst.rel, hs.fn⟩, hst, CsRel.refl _ _, .one (step_lone_go ?_)⟩
      rw [stG_op ho hwant hd, ← hfin]
      rcases hnx with rfl | ⟨rfl, rfl⟩ <;> simp [stepG.apply, hrun]
    have hnd : ∀ {r : AR}, aop E.O c (Opd.ev s.T) s.H = some r → (∀ f a, r ≠ .defer f a) → ∀ c', o.op ≠ .defer c' := by
      intro r hr hnr c' hop
      have hcc := hc
      simp only [comp, hop] at hcc
      cases c' with
      | mk callee args ts =>
        cases callee with
        | value f =>
          simp only at hcc
          split at hcc
          · simp only [Option.some.injEq] at hcc
            subst hcc
            simp only [aop] at hr
            split at hr
            · simp only [Option.some.injEq] at hr
              exact hnr _ _ hr.symm
            · cases hr
          · cases hcc
        | invoke r m => simp at hcc
        | builtin b => simp at hcc
    rw [hE.O] at h hnd
    split at h
    · cases h
    · -- a value
      rename_i v H' ha
      simp only [Option.some.injEq, Prod.mk.injEq] at h
      obtain ⟨rfl, rfl⟩ := h
      obtain ⟨ρ', x, w', hrun, hst, hv⟩ := sound_op hs.H (opdRel hs.T) hc ha
      exact plain (.inr (hnd ha (by simp))) hrun (.inl rfl) hst hv
    · rename_i H' ha
      simp only [Option.some.injEq, Prod.mk.injEq] at h
      obtain ⟨rfl, rfl⟩ := h
      obtain ⟨ρ', w', hrun, hst⟩ := sound_op hs.H (opdRel hs.T) hc ha
      exact plain (.inr (hnd ha (by simp))) hrun (.inr ⟨rfl, rfl⟩) hst (unset_rel ρ')
    · -- a call
      rename_i f args ha
      obtain ⟨vs, hrun, hargs⟩ := sound_op hs.H (opdRel hs.T) hc ha
      have hd := hnd ha (by simp)
      have callee : ∀ {e : AEnd} {R' : RS} {H' : Heap}, E.call f args .no s.H = some (e, R', H') →
          ∃ ρ' w' fr', Step C ρ s.H w ρ' H' w' ∧ Steps C.P (lone (mk b T D (.inRegion ops (i :: rest) :: k)) cs w) (lone fr' (mk b T D (.inRegion ops (i :: rest) :: k) :: cs) w') ∧
            fr'.kind = .normal ∧ fr'.defers = [] ∧ RetOk C.P ρ' fr' w' e := by
        intro e R' H' hcall
        obtain ⟨h1, h2⟩ := hE.call _ _ _ _ _ _ _ hcall ρ w vs hs.H hargs
        obtain ⟨ρ', w', cs', fr', hst, hcs, hsteps, hk, hdef, hret⟩ := h2 .normal (mk b T D (.inRegion ops (i :: rest) :: k) :: cs) (.inl ⟨rfl, rfl⟩)
        have hcs' : cs' = mk b T D (.inRegion ops (i :: rest) :: k) :: cs := by
          rcases hcs with ⟨_, h⟩ | ⟨v, _, _, _, _, h, _⟩
          · exact h
          · cases h
        subst hcs'
        refine ⟨ρ', w', fr', hst, .head (step_lone_go ?_) hsteps, hk, hdef, hret⟩
        rw [stG_op ho hwant (.inr hd)]
        rw [h1] at hrun
        simp [stepG.apply, hrun, mk]
      split at h
      · rename_i v R' H' hcall
        simp only [Option.some.injEq, Prod.mk.injEq] at h
        obtain ⟨rfl, rfl⟩ := h
        obtain ⟨ρ', w', fr', hst, hsteps, hk, hdef, hmode, fn, x, hfn, hres, hv⟩ := callee hcall
        refine ⟨ρ', putV T o.dst x, D, cs, w', ⟨putRel (hs.T.mono hst.le) _ hv, hs.D.mono hst.le, hs.R.mono hst.le, hst.rel, hs.fn⟩, hst, CsRel.refl _ _, hsteps.trans (.one ?_)⟩
        rw [step_leave_returned (v := x) ⟨hmode, hdef, hk, fn, hfn, hres⟩, hfin]
      · rename_i v R' H' hcall
        simp only [Option.some.injEq, Prod.mk.injEq] at h
        obtain ⟨rfl, rfl⟩ := h
        obtain ⟨ρ', w', fr', hst, hsteps, hk, hdef, fn, x, hmode, hfn, hv⟩ := callee hcall
        refine ⟨ρ', T, D, cs, w', ⟨hs.T.mono hst.le, hs.D.mono hst.le, hs.R.mono hst.le, hst.rel, hs.fn⟩, hst, CsRel.refl _ _, .inRegion ops (i :: rest) :: k, x, hv, hsteps.trans (.one ?_)⟩
        rw [step_leave_panicked (chain := [{ v := x, recovered := false }]) ⟨hmode, hdef, fn, hfn⟩]
        rfl
      · cases h
    · -- a round of a range over a function
      rename_i i2 args ha
      obtain ⟨vs, bl, x2, hrun, hρi, hargs⟩ := sound_op hs.H (opdRel hs.T) hc ha
      have hd := hnd ha (by simp)
      have enter : ∀ {f : FuncId} {tmps : Array Value} {assign body : Code}, (Instr.yield bl vs).run C.P w = .ok (.round bl f tmps assign body) w →
          step C.P (lone (mk b T D (.inRegion ops (i :: rest) :: k)) cs w) = .next (lone (Frame.round bl f tmps assign body .normal) (mk b T D (.inRegion ops (i :: rest) :: k) :: cs) w) := by
        intro f tmps assign body hy
        refine step_lone_go ?_
        rw [stG_op ho hwant (.inr hd)]
        rw [hy] at hrun
        simp [stepG.apply, hrun, mk]
      split at h
      · rename_i v H' hround
        simp only [Option.some.injEq, Prod.mk.injEq] at h
        obtain ⟨rfl, rfl⟩ := h
        obtain ⟨f, tmps, assign, body, hy, hall⟩ := round_step hE.code hs.H hround hρi hargs
        obtain ⟨ρ', w', hst, y, hv, hsteps⟩ := hall (mk b T D (.inRegion ops (i :: rest) :: k)) cs
        refine ⟨ρ', putV T o.dst y, D, cs, w', ⟨putRel (hs.T.mono hst.le) _ hv, hs.D.mono hst.le, hs.R.mono hst.le, hst.rel, hs.fn⟩, hst, CsRel.refl _ _, ?_⟩
        rw [hfin] at hsteps
        exact .head (enter hy) hsteps
      · rename_i v H' hround
        simp only [Option.some.injEq, Prod.mk.injEq] at h
        obtain ⟨rfl, rfl⟩ := h
        obtain ⟨f, tmps, assign, body, hy, hall⟩ := round_step hE.code hs.H hround hρi hargs
        obtain ⟨ρ', w', hst, y, hv, hsteps⟩ := hall (mk b T D (.inRegion ops (i :: rest) :: k)) cs
        exact ⟨ρ', T, D, cs, w', ⟨hs.T.mono hst.le, hs.D.mono hst.le, hs.R.mono hst.le, hst.rel, hs.fn⟩, hst, CsRel.refl _ _, .inRegion ops (i :: rest) :: k, y, hv, .head (enter hy) hsteps⟩
      · cases h
    · -- a panic
      rename_i v ha
      simp only [Option.some.injEq, Prod.mk.injEq] at h
      obtain ⟨rfl, rfl⟩ := h
      obtain ⟨x, hrun, hv⟩ := sound_op hs.H (opdRel hs.T) hc ha
      refine ⟨ρ, T, D, cs, w, hs, Step.refl hs.H, CsRel.refl _ _, .inRegion ops (i :: rest) :: k, x, hv, .one (step_lone_go ?_)⟩
      rw [stG_op ho hwant (.inr (hnd ha (by simp)))]
      simp [stepG.apply, hrun, Frame.raise, mk]
    · -- recover
      rename_i ha
      have hrun : (execOp (tev T) o).run C.P w = .ok .recover w := sound_op hs.H (opdRel hs.T) hc ha
      have hd := hnd ha (by simp)
      have hG := stG_op (P := C.P) (b := b) (T := T) (D := D) (k := k) (cs := cs) (w := w) (rest := rest) ho hwant (.inr hd)
      have idle : b.roundOf = none → tryRecover (mk b T D (.inRegion ops (i :: rest) :: k)) cs = none → ∀ {H' : Heap}, H' = s.H →
          ∃ ρ' T' D' cs' w', SRel C ρ' b { s with T := put s.T o.dst .nili } T' D' cs' w' ∧ Step C ρ s.H w ρ' s.H w' ∧ CsRel s.R s.R cs cs' ∧
          Steps C.P (lone (mk b T D (.inRegion ops (i :: rest) :: k)) cs w) (lone (mk b T' D' (.inRegion ops rest :: k)) cs' w') := by
        intro hr htr _ _
        refine ⟨ρ, putV T o.dst .nilIface, D, cs, w, ⟨putRel hs.T _ .nili, hs.D, hs.R, hs.H, hs.fn⟩, Step.refl hs.H, CsRel.refl _ _, .one (step_lone_go ?_)⟩
        rw [hG, ← hfin]
        have hr' : (mk b T D (.inRegion ops (i :: rest) :: k)).roundOf = none := hr
        simp [stepG.apply, hrun, hr', htr]
      have hR := hs.R
      split at h
      · rename_i v hRv
        simp only [Option.some.injEq, Prod.mk.injEq] at h
        obtain ⟨rfl, rfl⟩ := h
        rw [hRv] at hR
        obtain ⟨hr, hkind, c', rest', x, older, hcs, hmode, hv⟩ := hR
        have htr : tryRecover (mk b T D (.inRegion ops (i :: rest) :: k)) cs = some (x, { c' with mode := .panicking ({ v := x, recovered := true } :: older) } :: rest') := by
          have hk : (mk b T D (.inRegion ops (i :: rest) :: k)).kind = .deferred := hkind
          rw [hcs]
          simp only [tryRecover, hk, hmode]
        refine ⟨ρ, putV T o.dst x, D, { c' with mode := .panicking ({ v := x, recovered := true } :: older) } :: rest', w,
          ⟨putRel hs.T _ hv, hs.D, ⟨hr, hkind, _, _, x, older, rfl, rfl⟩, hs.H, hs.fn⟩, Step.refl hs.H, .inr ⟨v, c', rest', x, older, hRv, rfl, hcs, hmode, rfl⟩, .one (step_lone_go ?_)⟩
        rw [hG, ← hfin]
        have hr' : (mk b T D (.inRegion ops (i :: rest) :: k)).roundOf = none := hr
        simp [stepG.apply, hrun, hr', htr]
      · cases h
      · rename_i hn1 hn2
        simp only [Option.some.injEq, Prod.mk.injEq] at h
        obtain ⟨rfl, rfl⟩ := h
        cases hRR : s.R with
        | no =>
          rw [hRR] at hR
          have := idle hR.1 (hR.2 _ _ _) rfl
          rw [hRR] at this; exact this
        | can v => exact absurd hRR (hn1 v)
        | round => exact absurd hRR hn2
        | done =>
          rw [hRR] at hR
          obtain ⟨hr, hkind, c', rest', x, older, hcs, hmode⟩ := hR
          have htr : tryRecover (mk b T D (.inRegion ops (i :: rest) :: k)) cs = none := by
            have hk : (mk b T D (.inRegion ops (i :: rest) :: k)).kind = .deferred := hkind
            rw [hcs]
            simp only [tryRecover, hk, hmode]
          have := idle hr htr rfl
          rw [hRR] at this; exact this
    · -- defer
      rename_i f args ha
      obtain ⟨as, cap, hrun, hargs⟩ := sound_op hs.H (opdRel hs.T) hc ha
      have main : b.roundOf = none → ∃ ρ' T' D' cs' w', SRel C ρ' b { s with T := put s.T o.dst unset, D := .call f args :: s.D } T' D' cs' w' ∧ Step C ρ s.H w ρ' s.H w' ∧ CsRel s.R s.R cs cs' ∧
          Steps C.P (lone (mk b T D (.inRegion ops (i :: rest) :: k)) cs w) (lone (mk b T' D' (.inRegion ops rest :: k)) cs' w') := by
        intro hr
        refine ⟨ρ, putV T o.dst undef, { target := .fn (.func f) cap, args := as } :: D, cs, w, ⟨putRel hs.T _ (unset_rel ρ), .call hargs hs.D, hs.R, hs.H, hs.fn⟩, Step.refl hs.H, CsRel.refl _ _, .one (step_lone_go ?_)⟩
        rw [stG_op ho hwant (.inl hr)]
        have hf2 : ({ mk b T D (.inRegion ops (i :: rest) :: k) with defers := { target := .fn (.func f) cap, args := as } :: D } : Frame).finish undef =
            mk b (putV T o.dst undef) ({ target := .fn (.func f) cap, args := as } :: D) (.inRegion ops rest :: k) := by
          have := mk_finish (b := b) (T := T) (D := { target := .fn (.func f) cap, args := as } :: D) (k := k) (ops := ops) (i := i) (rest := rest) (v := undef)
          rw [ho] at this
          exact this
        simp only [stepG.apply, Sem.runT_eq, hrun, GStep.bare_after]
        exact congrArg (fun fr => GStep.go { frame := fr, callers := cs, status := .running, dying := none } w) hf2
      have hR := hs.R
      split at h
      · cases h
      · rename_i hnr
        simp only [Option.some.injEq, Prod.mk.injEq] at h
        obtain ⟨rfl, rfl⟩ := h
        cases hRR : s.R with
        | round => exact absurd hRR hnr
        | no => rw [hRR] at hR; have := main hR.1; rw [hRR] at this; exact this
        | can v => rw [hRR] at hR; have := main hR.1; rw [hRR] at this; exact this
        | done => rw [hRR] at hR; have := main hR.1; rw [hRR] at this; exact this

end
end Go.Ab

namespace Go.Ab
open Go

/-- An operation and what it is compiled to. -/
structure OpOk (P : Program) (ops : Array Oper) (i : Nat) (co : COper) : Prop where
  ok : ∃ o, ops[i]? = some o ∧ comp P o = some co.op ∧ gslot ops o = some co.guard ∧ co.dst = o.dst

inductive OpsOk (P : Program) (ops : Array Oper) : List Nat → List COper → Prop
  | nil : OpsOk P ops [] []
  | cons {i : Nat} {co : COper} {l : List Nat} {cs : List COper} (h : OpOk P ops i co) (t : OpsOk P ops l cs) : OpsOk P ops (i :: l) (co :: cs)

section
variable {C : Ctx} {E : Env}

theorem ops_steps (hE : EnvOk C E) {b : Frame} {k : List Item} {ops : Array Oper} : ∀ {l : List Nat} {cops : List COper}, OpsOk C.P ops l cops →
    ∀ (cs : List Frame) (s s' : St) (T : Array Value) (D : List Deferred) (w : World) (ρ : Rho) (ex : Ex), SRel C ρ b s T D cs w → doOps E cops s = some (ex, s') →
    ∃ ρ' T' D' cs' w', SRel C ρ' b s' T' D' cs' w' ∧ Step C ρ s.H w ρ' s'.H w' ∧ CsRel s.R s'.R cs cs' ∧
      Arr C.P ρ' (lone (mk b T D (.inRegion ops l :: k)) cs w) b k T' D' cs' w' ex
  | _, _, .nil => by
    intro cs s s' T D w ρ ex hs h
    simp only [doOps, Option.some.injEq, Prod.mk.injEq] at h
    obtain ⟨rfl, rfl⟩ := h
    exact ⟨ρ, T, D, cs, w, hs, Step.refl hs.H, CsRel.refl _ _, .one st_regionEnd⟩
  | i :: l, co :: cops, .cons hok t => by
    intro cs s s' T D w ρ ex hs h
    obtain ⟨o, ho, hc, hg, hd⟩ := hok.ok
    have hco : co = ⟨o.dst, co.op, co.guard⟩ := by cases co; simp only at hd; subst hd; rfl
    simp only [doOps] at h
    split at h
    · rename_i s1 h1
      rw [hco] at h1
      obtain ⟨ρ1, T1, D1, cs1, w1, hs1, hst1, hcs1, harr1⟩ := op_step (k := k) (rest := l) hE hs ho hc hg h1
      obtain ⟨ρ2, T2, D2, cs2, w2, hs2, hst2, hcs2, harr2⟩ := ops_steps hE t _ _ _ _ _ _ _ _ hs1 h
      exact ⟨ρ2, T2, D2, cs2, w2, hs2, hst1.trans hs.H hst2, hcs1.trans hcs2, Arr.of_steps harr1 harr2⟩
    · rename_i hnn
      rw [hco] at h
      obtain ⟨ρ1, T1, D1, cs1, w1, hs1, hst1, hcs1, harr1⟩ := op_step (k := k) (rest := l) hE hs ho hc hg h
      have hne : ex ≠ .norm := by
        rintro rfl
        exact hnn _ (by rw [hco]; exact h)
      exact ⟨ρ1, T1, D1, cs1, w1, hs1, hst1, hcs1, Arr.pass (x := .inRegion ops l) (fun _ => rfl) hne harr1⟩

theorem killT_rel {ρ : Rho} : ∀ (ks : List Nat) {T : List AV} {V : Array Value}, RelL ρ T V.toList → RelL ρ (killT T ks) V.toList
  | [], T, V, h => h
  | k :: ks, T, V, h => by
    simp only [killT]
    refine killT_rel ks ?_
    have : RelL ρ (T.set k .undef) V.toList := by
      clear killT_rel
      generalize V.toList = vs at h
      induction h using RelL.rec (motive_1 := fun _ _ _ => True) generalizing k with
      | nil => simp; exact .nil
      | cons h1 h2 _ ih =>
        cases k with
        | zero => simpa using RelL.cons (.undef _) h2
        | succ k => simpa using RelL.cons h1 (ih k)
      | _ => trivial
    exact this

end
end Go.Ab

namespace Go.Ab
open Go

section
variable {C : Ctx} {E : Env}

theorem mk_finishR {b : Frame} {T : Array Value} {D : List Deferred} {l : Nat} {k : List Item} {v : Value} :
    (mk b T D (.inRangeFunc l :: k)).finish v = mk b T D (.endRangeFunc l :: k) := rfl

/-- A range over a function. -/
theorem range_sound (hE : EnvOk C E) {f : Operand} {f' : Opd} {params : Array Tmp} {assign body : Code} {ca cb : CCode} (hf : cOpd f = some f') (ha : C.cc ca assign) (hb : C.cc cb body) :
    SoundB C (evalC E (.rangeFunc f' params.toList ca cb)) (.rangeFunc f params assign body) := by
  intro b k cs s s' T D w ρ ex hs h
  simp only [evalC] at h
  split at h
  · cases h
  · rename_i hnr
    have hro : b.roundOf = none := by
      have := hs.R
      cases hR : s.R with
      | round => exact absurd hR hnr
      | no => rw [hR] at this; exact this.1
      | can v => rw [hR] at this; exact this.1
      | done => rw [hR] at this; exact this.1
    -- the two new objects
    have hnone : ∀ j v, s.H.next ≤ j → ρ j v = none := by
      intro j v hj
      cases hh : ρ j v with
      | none => rfl
      | some x => have := (hs.H.dom _ _ x.1 x.2 hh).1; omega
    let w1 : World := { w with heap := w.heap.push (.deferred (some [])) }
    let lo : Loop := { state := .ready, pending := none, fn := b.fn, tmps := T, params, assign, body, defers := w.heap.size }
    let w2 : World := { w1 with heap := w1.heap.push (.loop lo) }
    have hst1 := new_step (o' := .dblk) (X := .deferred (some [])) hs.H (0, 0) rfl (.dblk (Rho.upd_same _ _ _ _) (by simp))
    have hst2 := new_step (o' := .loop 0 .ready none s.T params.toList ca cb) (X := .loop lo) hst1.rel (0, 0) rfl
      (.loop (l := lo) (b := w1.heap.size) (Rho.upd_same _ _ _ _) (by show (w1.heap.push _)[w1.heap.size]? = _; exact Array.getElem?_push_size) rfl rfl
        ((hs.T.mono hst1.le).mono (Rho.le_upd _ _ _ _ (by
          show Rho.upd _ _ _ _ (s.H.next + 1) 0 = none
          rw [Rho.upd_ne _ _ _ _ (by omega)]; exact hnone _ _ (by omega)))) rfl ha hb hs.fn)
    have hst := hst1.trans hs.H hst2
    generalize hρ2 : (Rho.upd ρ s.H.next 0 (w.heap.size, 0, 0)).upd (s.H.new .dblk).next 0 (({ w with heap := w.heap.push (.deferred (some [])) } : World).heap.size, 0, 0) = ρ2 at hst2 hst
    have hl2 : ρ2 (s.H.next + 1) 0 = some (w1.heap.size, 0, 0) := by rw [← hρ2]; exact Rho.upd_same _ _ _ _
    have hd2 : ρ2 s.H.next 0 = some (w.heap.size, 0, 0) := by
      rw [← hρ2, Rho.upd_ne _ _ _ _ (by show ¬(s.H.next = s.H.next + 1 ∧ _); omega)]; exact Rho.upd_same _ _ _ _
    split at h
    · rename_i g fs cs' heq
      have hfv := opdRel hs.T _ _ hf
      rw [heq] at hfv
      generalize hvf : tev T f = vf at hfv
      cases hfv with
      | func fn hfn h1 h2 =>
        rename_i first cap
        let vs : Array Value := first ++ #[.func (.yield w1.heap.size) #[] #[]] ++ cap
        have hargs : RelL ρ2 (fs ++ [.yieldf (s.H.next + 1)] ++ cs') vs.toList := by
          simp only [vs, Array.toList_append]
          exact ((h1.mono hst.le).append (.cons (.yieldf hl2) .nil)).append (h2.mono hst.le)
        have callee : ∀ {e : AEnd} {R' : RS} {H' : Heap}, E.call g (fs ++ [.yieldf (s.H.next + 1)] ++ cs') .no ((s.H.new .dblk).new (.loop 0 .ready none s.T params.toList ca cb)) = some (e, R', H') →
            ∃ ρ' w' fr', Step C ρ2 ((s.H.new .dblk).new (.loop 0 .ready none s.T params.toList ca cb)) w2 ρ' H' w' ∧
              Steps C.P (lone (mk b T D (.code (.rangeFunc f params assign body) :: k)) cs w) (lone fr' (mk b T ({ target := .collected w.heap.size, args := #[] } :: D) (.inRangeFunc w1.heap.size :: k) :: cs) w') ∧
              fr'.kind = .normal ∧ fr'.defers = [] ∧ RetOk C.P ρ' fr' w' e := by
          intro e R' H' hcall
          obtain ⟨hrun, h4⟩ := hE.call _ _ _ _ _ _ _ hcall ρ2 w2 vs hst2.rel hargs
          obtain ⟨ρ', w', cs2, fr', hst3, hcs, hsteps, hk, hdef, hret⟩ := h4 .normal (mk b T ({ target := .collected w.heap.size, args := #[] } :: D) (.inRangeFunc w1.heap.size :: k) :: cs) (.inl ⟨rfl, rfl⟩)
          have hcs' : cs2 = mk b T ({ target := .collected w.heap.size, args := #[] } :: D) (.inRangeFunc w1.heap.size :: k) :: cs := by
            rcases hcs with ⟨_, h⟩ | ⟨v, _, _, _, _, h, _⟩
            · exact h
            · cases h
          subst hcs'
          refine ⟨ρ', w', fr', hst3, .head (step_lone_go ?_) hsteps, hk, hdef, hret⟩
          have hent : (Instr.enterLoop b.fn T params assign body none).run C.P w = .ok (w1.heap.size, [{ target := .collected w.heap.size, args := #[] }]) w2 := by
            simp only [Instr.enterLoop, Sem.run_bind, run_newObj, Result.andThen_ok, Sem.run_pure]
            rfl
          have hev : (mk b T ({ target := .collected w.heap.size, args := #[] } :: D) (.inRangeFunc w1.heap.size :: k)).eval = tev T := mk_eval _ _ _ _
          have hres : (resolve (tev T) { callee := .value f, args := #[.const (.func (.yield w1.heap.size) #[] #[])], argTypes := #[] } 0).run C.P w2 =
              .ok { target := .fn (.func g) cap, args := first ++ #[.func (.yield w1.heap.size) #[] #[]] } w2 := by
            simp only [resolve, hvf, Deferred.ofValue, Sem.run_pure]
            simp [tev]
          have hinv : (invoke (.fn (.func g) cap) (first ++ #[.func (.yield w1.heap.size) #[] #[]])).run C.P w2 = .ok (.enter g vs) w2 := hrun
          have hpush : first ++ #[Value.func (.yield w1.heap.size) #[] #[]] = first.push (.func (.yield w1.heap.size) #[] #[]) := by simp
          rw [hpush] at hinv hres
          simp only [mk] at hev
          rw [hro] at hev
          simp [stepG, stepG.exec, mk, hro, Sem.runT_eq, hent, GStep.bare_after, stepG.apply, hev, Sem.run_bind, hres, hinv, Result.andThen]
        split at h
        · rename_i v R' H' hcall
          obtain ⟨ρ', w', fr', hst3, hsteps, hk, hdef, hmode, fn2, x, hfn2, hres2, hv⟩ := callee hcall
          have hret : step C.P (lone fr' (mk b T ({ target := .collected w.heap.size, args := #[] } :: D) (.inRangeFunc w1.heap.size :: k) :: cs) w') =
              .next (lone (mk b T ({ target := .collected w.heap.size, args := #[] } :: D) (.endRangeFunc w1.heap.size :: k)) cs w') := by
            rw [step_leave_returned (v := x) ⟨hmode, hdef, hk, fn2, hfn2, hres2⟩]; rfl
          split at h
          · rename_i ex2 H2 hend
            simp only [Option.some.injEq, Prod.mk.injEq] at h
            obtain ⟨rfl, rfl⟩ := h
            unfold endLoop at hend
            split at hend
            · rename_i fn3 st3 p3 T3 ps3 a3 b3 hget3
              split at hend
              · cases hend
              · rename_i hnb
                cases hst3.rel.obj _ _ hget3 with
                | loop hρ3 hb3 hst4 hp3 hT3 hps3 ha3 hbd3 hfn3 =>
                  rename_i b'' l3
                  have e3 : ρ' (s.H.next + 1) 0 = some (w1.heap.size, 0, 0) := hst3.le _ _ _ hl2
                  rw [e3] at hρ3
                  simp only [Option.some.injEq, Prod.mk.injEq] at hρ3
                  obtain ⟨rfl, _, _⟩ := hρ3
                  have hst5 := loop_step (fn' := fn3) (st' := .exhausted) (pend' := p3) (l' := { l3 with state := .exhausted }) hst3.rel hget3 e3 hT3 hps3 ha3 hbd3 hfn3 hb3 rfl rfl rfl rfl rfl rfl hp3
                  have hstA := (hst.trans hs.H hst3).trans hs.H hst5
                  have hD : RelD ρ' (.mark s.H.next :: s.D) ({ target := .collected w.heap.size, args := #[] } :: D) := .mark (hst3.le _ _ _ hd2) (hs.D.mono (hst.trans hs.H hst3).le)
                  have hS : ∀ H4, H4 = H'.set (s.H.next + 1) (.loop fn3 .exhausted p3 T3 ps3 a3 b3) → SRel C ρ' b { s with H := H4, D := .mark s.H.next :: s.D } T ({ target := .collected w.heap.size, args := #[] } :: D) cs { w' with heap := w'.heap.setIfInBounds w1.heap.size (.loop { l3 with state := .exhausted }) } := by
                    intro H4 h4; subst h4
                    exact ⟨hs.T.mono hstA.le, hD, hs.R.mono hstA.le, hst5.rel, hs.fn⟩
                  have hrunE : (Instr.endLoop w1.heap.size).run C.P w' = .ok l3.pending { w' with heap := w'.heap.setIfInBounds w1.heap.size (.loop { l3 with state := .exhausted }) } := by
                    have hnb2 : (l3.state == LoopState.busy) = false := by
                      rw [hst4]; simpa using hnb
                    simp only [Instr.endLoop, Sem.run_bind, run_getLoop hb3, Result.andThen_ok, hnb2, Bool.false_eq_true, if_false, run_setLoop hb3, Sem.run_pure]
                  have hendS : ∀ jump, l3.pending = jump → step C.P (lone (mk b T ({ target := .collected w.heap.size, args := #[] } :: D) (.endRangeFunc w1.heap.size :: k)) cs w') =
                      .next (lone (mk b T ({ target := .collected w.heap.size, args := #[] } :: D) ((jump.map Item.code).toList ++ k)) cs { w' with heap := w'.heap.setIfInBounds w1.heap.size (.loop { l3 with state := .exhausted }) }) := by
                    intro jump hj
                    subst hj
                    exact step_lone_go (by simp [stepG, stepG.exec, mk, Sem.runT_eq, hrunE, GStep.bare_after])
                  have hall := hsteps.trans (.one hret)
                  split at hend
                  · simp only [Option.some.injEq, Prod.mk.injEq] at hend
                    obtain ⟨rfl, rfl⟩ := hend
                    exact ⟨ρ', T, _, cs, _, hS _ rfl, hstA, CsRel.refl _ _, hall.trans (.one (hendS none hp3))⟩
                  · simp only [Option.some.injEq, Prod.mk.injEq] at hend
                    obtain ⟨rfl, rfl⟩ := hend
                    exact ⟨ρ', T, _, cs, _, hS _ rfl, hstA, CsRel.refl _ _, k, hall.trans (.one (hendS (some .ret) hp3))⟩
                  · rename_i id
                    simp only [Option.some.injEq, Prod.mk.injEq] at hend
                    obtain ⟨rfl, rfl⟩ := hend
                    exact ⟨ρ', T, _, cs, _, hS _ rfl, hstA, CsRel.refl _ _, k, rfl, hall.trans (.one (hendS (some (.exit id)) hp3))⟩
            · cases hend
          · cases h
        · rename_i v R' H' hcall
          simp only [Option.some.injEq, Prod.mk.injEq] at h
          obtain ⟨rfl, rfl⟩ := h
          obtain ⟨ρ', w', fr', hst3, hsteps, hk, hdef, fn2, x, hmode, hfn2, hv⟩ := callee hcall
          have hstA := hst.trans hs.H hst3
          refine ⟨ρ', T, { target := .collected w.heap.size, args := #[] } :: D, cs, w', ⟨hs.T.mono hstA.le, .mark (hst3.le _ _ _ hd2) (hs.D.mono hstA.le), hs.R.mono hstA.le, hst3.rel, hs.fn⟩, hstA, CsRel.refl _ _,
            .inRangeFunc w1.heap.size :: k, x, hv, hsteps.trans (.one ?_)⟩
          rw [step_leave_panicked (chain := [{ v := x, recovered := false }]) ⟨hmode, hdef, fn2, hfn2⟩]
          rfl
        · cases h
    · cases h

end
end Go.Ab

namespace Go.Ab
open Go

/-- Which operations a region that draws its order is compiled to (what is asked stands with the law on it). -/
def DrawRel := (P : Program) → (ops : Array Oper) → (n : Nat) → (items : List DItem) → Prop

/-- Code and what it is compiled to. -/
inductive CC (DR : DrawRel) (P : Program) : CCode → Code → Prop
  | skip : CC DR P .skip .skip
  | region {id : Nat} {ops : Array Oper} {cops : List COper} (h : OpsOk P ops (List.range ops.size) cops) : CC DR P (.region cops) (.region id ops false)
  | draws {id : Nat} {ops : Array Oper} {n : Nat} {items : List DItem} (h : DR P ops n items) : CC DR P (.draws n items) (.region id ops true)
  | seq {a b : CCode} {x y : Code} (h1 : CC DR P a x) (h2 : CC DR P b y) : CC DR P (.seq a b) (.seq x y)
  | cond {c : Operand} {c' : Opd} {a b : CCode} {x y : Code} (hc : cOpd c = some c') (h1 : CC DR P a x) (h2 : CC DR P b y) : CC DR P (.cond c' a b) (.cond c x y)
  | block {id : Nat} {a : CCode} {x : Code} (h : CC DR P a x) : CC DR P (.block id a) (.block id x)
  | loop {a : CCode} {x : Code} (h : CC DR P a x) : CC DR P (.loop a) (.loop x)
  | rangeFunc {f : Operand} {f' : Opd} {ps : Array Tmp} {a b : CCode} {x y : Code} (hf : cOpd f = some f') (h1 : CC DR P a x) (h2 : CC DR P b y) : CC DR P (.rangeFunc f' ps.toList a b) (.rangeFunc f ps x y)
  | exit {id : Nat} : CC DR P (.exit id) (.exit id)
  | scope {a : CCode} {x : Code} (h : CC DR P a x) : CC DR P (.scope a) (.scope x)
  | ret : CC DR P .ret .ret
  | kill {ks : List Nat} {a : CCode} {x : Code} (h : CC DR P a x) : CC DR P (.kill ks a) x

section
variable {C : Ctx} {E : Env} {DR : DrawRel}

theorem code_sound (hE : EnvOk C E) (hcc : C.cc = CC DR C.P)
    (hdraw : ∀ id ops n items, DR C.P ops n items → SoundB C (doDraws E n items) (.region id ops true)) {c : CCode} {code : Code} (h : CC DR C.P c code) : SoundB C (evalC E c) code := by
  induction h with
  | skip =>
    intro b k cs s s' T D w ρ ex hs h
    simp only [evalC, Option.some.injEq, Prod.mk.injEq] at h
    obtain ⟨rfl, rfl⟩ := h
    exact ⟨ρ, T, D, cs, w, hs, Step.refl hs.H, CsRel.refl _ _, .one st_skip⟩
  | region hops =>
    intro b k cs s s' T D w ρ ex hs h
    obtain ⟨ρ', T', D', cs', w', h1, h2, h3, h4⟩ := ops_steps (k := k) hE hops _ _ _ _ _ _ _ _ hs h
    exact ⟨ρ', T', D', cs', w', h1, h2, h3, Arr.of_steps (.one st_region) h4⟩
  | draws hd => exact hdraw _ _ _ _ hd
  | seq _ _ ih1 ih2 =>
    intro b k cs s s' T D w ρ ex hs h
    simp only [evalC] at h
    split at h
    · rename_i s1 h1
      obtain ⟨ρ1, T1, D1, cs1, w1, hs1, hst1, hcs1, harr1⟩ := ih1 b (.code _ :: k) cs _ _ _ _ _ _ _ hs h1
      obtain ⟨ρ2, T2, D2, cs2, w2, hs2, hst2, hcs2, harr2⟩ := ih2 b k _ _ _ _ _ _ _ _ hs1 h
      exact ⟨ρ2, T2, D2, cs2, w2, hs2, hst1.trans hs.H hst2, hcs1.trans hcs2, Arr.of_steps (.head st_seq harr1) harr2⟩
    · rename_i hnn
      obtain ⟨ρ1, T1, D1, cs1, w1, hs1, hst1, hcs1, harr1⟩ := ih1 b (.code _ :: k) cs _ _ _ _ _ _ _ hs h
      have hne : ex ≠ .norm := by rintro rfl; exact hnn _ h
      exact ⟨ρ1, T1, D1, cs1, w1, hs1, hst1, hcs1, Arr.of_steps (.one st_seq) (Arr.pass (x := .code _) (fun _ => rfl) hne harr1)⟩
  | cond hc _ _ ih1 ih2 =>
    intro b k cs s s' T D w ρ ex hs h
    simp only [evalC] at h
    have hv := opdRel hs.T _ _ hc
    split at h
    · rename_i heq
      rw [heq] at hv
      generalize hx : tev T _ = vx at hv
      cases hv
      obtain ⟨ρ1, T1, D1, cs1, w1, hs1, hst1, hcs1, harr1⟩ := ih1 b k cs _ _ _ _ _ _ _ hs h
      exact ⟨ρ1, T1, D1, cs1, w1, hs1, hst1, hcs1, Arr.of_steps (.one (st_cond (t := true) hx)) harr1⟩
    · rename_i heq
      rw [heq] at hv
      generalize hx : tev T _ = vx at hv
      cases hv
      obtain ⟨ρ1, T1, D1, cs1, w1, hs1, hst1, hcs1, harr1⟩ := ih2 b k cs _ _ _ _ _ _ _ hs h
      exact ⟨ρ1, T1, D1, cs1, w1, hs1, hst1, hcs1, Arr.of_steps (.one (st_cond (t := false) hx)) harr1⟩
    · cases h
  | @block id a x _ ih =>
    intro b k cs s s' T D w ρ ex hs h
    simp only [evalC] at h
    split at h
    · rename_i i s1 h1
      obtain ⟨ρ1, T1, D1, cs1, w1, hs1, hst1, hcs1, k', hk', hsteps⟩ := ih b (.inBlock id :: k) cs _ _ _ _ _ _ _ hs h1
      split at h
      · rename_i hi
        subst hi
        simp only [Option.some.injEq, Prod.mk.injEq] at h
        obtain ⟨rfl, rfl⟩ := h
        have : exitTo i k' = some k := by rw [hk']; simp [exitTo]
        exact ⟨ρ1, T1, D1, cs1, w1, hs1, hst1, hcs1, (Steps.head st_block hsteps).trans (.one (st_exit this))⟩
      · rename_i hi
        simp only [Option.some.injEq, Prod.mk.injEq] at h
        obtain ⟨rfl, rfl⟩ := h
        refine ⟨ρ1, T1, D1, cs1, w1, hs1, hst1, hcs1, k', ?_, .head st_block hsteps⟩
        have : (id == i) = false := by simpa using fun e => hi e.symm
        rw [hk']; simp [exitTo, this]
    · rename_i hne
      obtain ⟨ρ1, T1, D1, cs1, w1, hs1, hst1, hcs1, harr1⟩ := ih b (.inBlock id :: k) cs _ _ _ _ _ _ _ hs h
      refine ⟨ρ1, T1, D1, cs1, w1, hs1, hst1, hcs1, ?_⟩
      cases ex with
      | norm => exact (Steps.head st_block harr1).trans (.one st_inBlock)
      | exit i => exact absurd h (hne i s')
      | ret => obtain ⟨k', hk'⟩ := harr1; exact ⟨k', .head st_block hk'⟩
      | panic v => obtain ⟨todo, y, hy, hk'⟩ := harr1; exact ⟨todo, y, hy, .head st_block hk'⟩
  | @loop a x hbody ih =>
    intro b k cs s s' T D w ρ ex hs h
    simp only [evalC] at h
    split at h
    · rename_i s1 h1
      obtain ⟨ρ1, T1, D1, cs1, w1, hs1, hst1, hcs1, harr1⟩ := ih b (.inLoop x :: k) cs _ _ _ _ _ _ _ hs h1
      obtain ⟨ρ2, T2, D2, cs2, w2, hs2, hst2, hcs2, harr2⟩ := hE.loop a x (by rw [hcc]; exact hbody) b k _ _ _ _ _ _ _ _ hs1 h
      exact ⟨ρ2, T2, D2, cs2, w2, hs2, hst1.trans hs.H hst2, hcs1.trans hcs2, Arr.of_steps (.head st_loop harr1) harr2⟩
    · rename_i hnn
      obtain ⟨ρ1, T1, D1, cs1, w1, hs1, hst1, hcs1, harr1⟩ := ih b (.inLoop x :: k) cs _ _ _ _ _ _ _ hs h
      have hne : ex ≠ .norm := by rintro rfl; exact hnn _ h
      exact ⟨ρ1, T1, D1, cs1, w1, hs1, hst1, hcs1, Arr.of_steps (.one st_loop) (Arr.pass (x := .inLoop x) (fun _ => rfl) hne harr1)⟩
  | rangeFunc hf h1 h2 => exact range_sound hE hf (by rw [hcc]; exact h1) (by rw [hcc]; exact h2)
  | @exit id =>
    intro b k cs s s' T D w ρ ex hs h
    simp only [evalC, Option.some.injEq, Prod.mk.injEq] at h
    obtain ⟨rfl, rfl⟩ := h
    exact ⟨ρ, T, D, cs, w, hs, Step.refl hs.H, CsRel.refl _ _, k, rfl, .refl _ _⟩
  | @scope a x _ ih =>
    intro b k cs s s' T D w ρ ex hs h
    simp only [evalC] at h
    obtain ⟨ρ1, T1, D1, cs1, w1, hs1, hst1, hcs1, harr1⟩ := ih b (.inScope x :: k) cs _ _ _ _ _ _ _ hs h
    refine ⟨ρ1, T1, D1, cs1, w1, hs1, hst1, hcs1, ?_⟩
    cases ex with
    | norm => exact (Steps.head st_scope harr1).trans (.one st_inScope)
    | exit i => obtain ⟨k', hk', hst⟩ := harr1; exact ⟨k', hk', .head st_scope hst⟩
    | ret => obtain ⟨k', hk'⟩ := harr1; exact ⟨k', .head st_scope hk'⟩
    | panic v => obtain ⟨todo, y, hy, hk'⟩ := harr1; exact ⟨todo, y, hy, .head st_scope hk'⟩
  | ret =>
    intro b k cs s s' T D w ρ ex hs h
    simp only [evalC, Option.some.injEq, Prod.mk.injEq] at h
    obtain ⟨rfl, rfl⟩ := h
    exact ⟨ρ, T, D, cs, w, hs, Step.refl hs.H, CsRel.refl _ _, k, .refl _ _⟩
  | kill _ ih =>
    intro b k cs s s' T D w ρ ex hs h
    simp only [evalC] at h
    split at h
    · rename_i s1 h1
      simp only [Option.some.injEq, Prod.mk.injEq] at h
      obtain ⟨rfl, rfl⟩ := h
      obtain ⟨ρ1, T1, D1, cs1, w1, hs1, hst1, hcs1, harr1⟩ := ih b k cs _ _ _ _ _ _ _ hs h1
      exact ⟨ρ1, T1, D1, cs1, w1, ⟨killT_rel _ hs1.T, hs1.D, hs1.R, hs1.H, hs1.fn⟩, hst1, hcs1, harr1⟩
    · exact ih b k cs _ _ _ _ _ _ _ hs h

end
end Go.Ab

namespace Go.Ab
open Go

def ModeRel (ρ : Rho) : Option AV → FrameMode → Prop
  | none, m => m = .returning
  | some v, m => ∃ x, m = .panicking [{ v := x, recovered := false }] ∧ Rel ρ v x

theorem ModeRel.mono {ρ ρ' : Rho} (hle : ρ.le ρ') {p : Option AV} {m : FrameMode} (h : ModeRel ρ p m) : ModeRel ρ' p m := by
  cases p with
  | none => exact h
  | some v => obtain ⟨x, h1, h2⟩ := h; exact ⟨x, h1, h2.mono hle⟩

def inMode (b : Frame) (T : Array Value) (D : List Deferred) (todo : List Item) (m : FrameMode) : Frame := { mk b T D todo with mode := m }

section
variable {C : Ctx} {E : Env}

theorem st_mark {b : Frame} {T : Array Value} {ds : List Deferred} {todo : List Item} {m : FrameMode} {cs : List Frame} {w w' : World} {r : Nat} (hm : m ≠ .run)
    (h : (Instr.takeDeferred r).run C.P w = .ok [] w') :
    step C.P (lone (inMode b T ({ target := .collected r, args := #[] } :: ds) todo m) cs w) = .next (lone (inMode b T ds todo m) cs w') := by
  refine step_lone_go ?_
  cases m with
  | run => exact absurd rfl hm
  | returning => simp [stepG, Go.unwind, inMode, mk, Sem.runT_eq, h, GStep.bare_after]
  | panicking c => simp [stepG, Go.unwind, inMode, mk, Sem.runT_eq, h, GStep.bare_after]

theorem st_defer {b : Frame} {T : Array Value} {ds : List Deferred} {todo : List Item} {m : FrameMode} {cs : List Frame} {w : World} {f : Nat} {as cap vs : Array Value} (hm : m ≠ .run)
    (h : (callFunc f (as ++ cap)).run C.P w = .ok (.enter f vs) w) :
    step C.P (lone (inMode b T ({ target := .fn (.func f) cap, args := as } :: ds) todo m) cs w) = .next (lone (Frame.enter C.P f vs .deferred) (inMode b T ds todo m :: cs) w) := by
  refine step_lone_go ?_
  have hi : (invoke (.fn (.func f) cap) as).run C.P w = .ok (.enter f vs) w := h
  cases m with
  | run => exact absurd rfl hm
  | returning => simp [stepG, Go.unwind, callDeferred, inMode, mk, Sem.runT_eq, hi, GStep.bare_after]
  | panicking c => simp [stepG, Go.unwind, callDeferred, inMode, mk, Sem.runT_eq, hi, GStep.bare_after]

/-- A deferred call returns. -/
theorem st_back {fr c : Frame} {cs : List Frame} {w : World} {fn : Func} {x : Value} (hk : fr.kind = .deferred) (hm : fr.mode = .returning) (hd : fr.defers = [])
    (hf : C.P.funcs[fr.fn]? = some fn) (hr : (results fn fr.tmps).run C.P w = .ok x w) (hc : c.mode = .returning ∨ ∃ v, c.mode = .panicking [{ v, recovered := false }]) :
    step C.P (lone fr (c :: cs) w) = .next (lone c cs w) := by
  refine step_lone_go ?_
  rcases hc with hc | ⟨v, hc⟩ <;> simp [stepG, Go.unwind, doReturn, hk, hm, hd, hf, hr, Sem.runT_eq, GStep.bare_after, hc]

theorem st_backR {fr c : Frame} {cs : List Frame} {w : World} {fn : Func} {x v : Value} (hk : fr.kind = .deferred) (hm : fr.mode = .returning) (hd : fr.defers = [])
    (hf : C.P.funcs[fr.fn]? = some fn) (hr : (results fn fr.tmps).run C.P w = .ok x w) :
    step C.P (lone fr ({ c with mode := .panicking [{ v, recovered := true }] } :: cs) w) = .next (lone { c with mode := .returning } cs w) := by
  refine step_lone_go ?_
  simp [stepG, Go.unwind, doReturn, hk, hm, hd, hf, hr, Sem.runT_eq, GStep.bare_after]

theorem unwind_sound (hE : EnvOk C E) {b : Frame} {T : Array Value} {todo : List Item} {cs : List Frame} : ∀ (ads : List ADef) (ds : List Deferred) (ρ : Rho) (w : World) (p p' : Option AV) (H H' : Heap) (m : FrameMode),
    RelD ρ ads ds → HRel C ρ H w → ModeRel ρ p m → unwind E ads p H = some (p', H') →
    ∃ ρ' w' m', ModeRel ρ' p' m' ∧ Step C ρ H w ρ' H' w' ∧ Steps C.P (lone (inMode b T ds todo m) cs w) (lone (inMode b T [] todo m') cs w')
  | [], ds, ρ, w, p, p', H, H', m, hD, hH, hm, h => by
    cases hD
    simp only [unwind, Option.some.injEq, Prod.mk.injEq] at h
    obtain ⟨rfl, rfl⟩ := h
    exact ⟨ρ, w, m, hm, Step.refl hH, .refl _ _⟩
  | .mark i :: ads, ds, ρ, w, p, p', H, H', m, hD, hH, hm, h => by
    cases hD with
    | mark hρ t =>
      rename_i r ds
      have hne : m ≠ .run := by
        cases p with
        | none => rw [hm]; simp
        | some v => obtain ⟨x, h1, _⟩ := hm; rw [h1]; simp
      simp only [unwind] at h
      split at h
      · rename_i hget
        cases hH.obj _ _ hget with
        | dblk hρ' hb =>
          rw [hρ] at hρ'
          simp only [Option.some.injEq, Prod.mk.injEq] at hρ'
          obtain ⟨rfl, _, _⟩ := hρ'
          obtain ⟨hlt, _⟩ := Array.getElem?_eq_some_iff.1 hb
          have hrun : (Instr.takeDeferred r).run C.P w = .ok [] { w with heap := w.heap.setIfInBounds r (.deferred none) } := by
            simp [Instr.takeDeferred, getObj, setObj, Sem.run, hb]
          have hst := set_step (o' := .dead) (w' := { w with heap := w.heap.setIfInBounds r (.deferred none) }) hH hget hρ rfl (by
            intro b2 _ hne2
            simp [Array.getElem?_setIfInBounds, Ne.symm hne2]) (by simp) (.dead hρ) rfl rfl rfl
          obtain ⟨ρ', w', m', h1, h2, h3⟩ := unwind_sound hE ads ds ρ _ p p' _ H' m t hst.rel hm h
          exact ⟨ρ', w', m', h1, hst.trans hH h2, .head (st_mark hne hrun) h3⟩
      · cases h
  | .call f args :: ads, ds, ρ, w, none, p', H, H', m, hD, hH, hm, h => by
    cases hD with
    | call hargs t =>
      rename_i as cap ds
      have hm' : m = .returning := hm
      subst hm'
      have hne : FrameMode.returning ≠ .run := by simp
      have callee : E.defers f = true → ∀ {e : AEnd} {R' : RS} {H1 : Heap}, E.call f args .no H = some (e, R', H1) →
          ∃ ρ1 w1 fr', Step C ρ H w ρ1 H1 w1 ∧ Steps C.P (lone (inMode b T ({ target := .fn (.func f) cap, args := as } :: ds) todo .returning) cs w) (lone fr' (inMode b T ds todo .returning :: cs) w1) ∧
            fr'.kind = .deferred ∧ fr'.defers = [] ∧ RetOk C.P ρ1 fr' w1 e := by
        intro hdf e R' H1 hcall
        rw [hE.defers] at hdf
        obtain ⟨hrun, h4⟩ := hE.call _ _ _ _ _ _ _ hcall ρ w (as ++ cap) hH (by simpa using hargs)
        obtain ⟨ρ1, w1, cs1, fr', hst, hcs, hsteps, hk, hdef, hret⟩ := h4 .deferred (inMode b T ds todo .returning :: cs) (.inr ⟨rfl, hdf, rfl, by
          intro T2 D2 todo2
          simp [tryRecover, mk, base, inMode]⟩)
        have : cs1 = inMode b T ds todo .returning :: cs := by
          rcases hcs with ⟨_, h⟩ | ⟨v, _, _, _, _, h, _⟩
          · exact h
          · cases h
        subst this
        exact ⟨ρ1, w1, fr', hst, .head (st_defer hne hrun) hsteps, hk, hdef, hret⟩
      simp only [unwind] at h
      split at h
      case isFalse => cases h
      rename_i hdf
      split at h
      · rename_i v R' H1 hcall
        obtain ⟨ρ1, w1, fr', hst, hsteps, hk, hdef, hmode, fn, x, hfn, hres, hv⟩ := callee hdf hcall
        obtain ⟨ρ', w', m', h1, h2, h3⟩ := unwind_sound hE ads ds ρ1 w1 none p' H1 H' .returning (t.mono hst.le) hst.rel rfl h
        exact ⟨ρ', w', m', h1, hst.trans hH h2, (hsteps.trans (.one (st_back hk hmode hdef hfn hres (.inl rfl)))).trans h3⟩
      · rename_i v R' H1 hcall
        obtain ⟨ρ1, w1, fr', hst, hsteps, hk, hdef, fn, x, hmode, hfn, hv⟩ := callee hdf hcall
        obtain ⟨ρ', w', m', h1, h2, h3⟩ := unwind_sound hE ads ds ρ1 w1 (some v) p' H1 H' (.panicking [{ v := x, recovered := false }]) (t.mono hst.le) hst.rel ⟨x, rfl, hv⟩ h
        refine ⟨ρ', w', m', h1, hst.trans hH h2, (hsteps.trans (.one ?_)).trans h3⟩
        rw [step_leave_panicked (chain := [{ v := x, recovered := false }]) ⟨hmode, hdef, fn, hfn⟩]
        rfl
      · cases h
  | .call f args :: ads, ds, ρ, w, some v, p', H, H', m, hD, hH, hm, h => by
    cases hD with
    | call hargs t =>
      rename_i as cap ds
      obtain ⟨x, rfl, hx⟩ := hm
      have hne : FrameMode.panicking [{ v := x, recovered := false }] ≠ .run := by simp
      have callee : E.defers f = true → ∀ {e : AEnd} {R' : RS} {H1 : Heap}, E.call f args (.can v) H = some (e, R', H1) →
          ∃ ρ1 w1 cs1 fr', Step C ρ H w ρ1 H1 w1 ∧ CsRel (.can v) R' (inMode b T ds todo (.panicking [{ v := x, recovered := false }]) :: cs) cs1 ∧
            Steps C.P (lone (inMode b T ({ target := .fn (.func f) cap, args := as } :: ds) todo (.panicking [{ v := x, recovered := false }])) cs w) (lone fr' cs1 w1) ∧
            fr'.kind = .deferred ∧ fr'.defers = [] ∧ RetOk C.P ρ1 fr' w1 e := by
        intro hdf e R' H1 hcall
        rw [hE.defers] at hdf
        obtain ⟨hrun, h4⟩ := hE.call _ _ _ _ _ _ _ hcall ρ w (as ++ cap) hH (by simpa using hargs)
        obtain ⟨ρ1, w1, cs1, fr', hst, hcs, hsteps, hk, hdef, hret⟩ := h4 .deferred (inMode b T ds todo (.panicking [{ v := x, recovered := false }]) :: cs) (.inr ⟨rfl, hdf, rfl, rfl, _, _, x, [], rfl, rfl, hx⟩)
        exact ⟨ρ1, w1, cs1, fr', hst, hcs, .head (st_defer hne hrun) hsteps, hk, hdef, hret⟩
      simp only [unwind] at h
      split at h
      case isFalse => cases h
      rename_i hdf
      split at h
      · rename_i u v2 H1 hcall
        obtain ⟨ρ1, w1, cs1, fr', hst, hcs, hsteps, hk, hdef, hmode, fn, y, hfn, hres, hv⟩ := callee hdf hcall
        have hc1 : cs1 = inMode b T ds todo (.panicking [{ v := x, recovered := false }]) :: cs ∧ v2 = v := by
          rcases hcs with ⟨h1, h2⟩ | ⟨_, _, _, _, _, _, h1, _⟩
          · exact ⟨h2, by cases h1; rfl⟩
          · cases h1
        obtain ⟨rfl, rfl⟩ := hc1
        obtain ⟨ρ', w', m', h1, h2, h3⟩ := unwind_sound hE ads ds ρ1 w1 (some v2) p' H1 H' (.panicking [{ v := x, recovered := false }]) (t.mono hst.le) hst.rel ⟨x, rfl, hx.mono hst.le⟩ h
        exact ⟨ρ', w', m', h1, hst.trans hH h2, (hsteps.trans (.one (st_back hk hmode hdef hfn hres (.inr ⟨x, rfl⟩)))).trans h3⟩
      · rename_i u H1 hcall
        obtain ⟨ρ1, w1, cs1, fr', hst, hcs, hsteps, hk, hdef, hmode, fn, y, hfn, hres, hv⟩ := callee hdf hcall
        have hc1 : cs1 = { inMode b T ds todo (.panicking [{ v := x, recovered := false }]) with mode := .panicking [{ v := x, recovered := true }] } :: cs := by
          rcases hcs with ⟨h1, h2⟩ | ⟨v', c, rest, x', older, h1, h2, h3, h4, h5⟩
          · cases h1
          · simp only [List.cons.injEq] at h3
            obtain ⟨rfl, rfl⟩ := h3
            simp only [inMode, FrameMode.panicking.injEq, List.cons.injEq, PanicEntry.mk.injEq, and_true] at h4
            obtain ⟨rfl, rfl⟩ := h4
            exact h5
        subst hc1
        obtain ⟨ρ', w', m', h1, h2, h3⟩ := unwind_sound hE ads ds ρ1 w1 none p' H1 H' .returning (t.mono hst.le) hst.rel rfl h
        exact ⟨ρ', w', m', h1, hst.trans hH h2, (hsteps.trans (.one (st_backR hk hmode hdef hfn hres))).trans h3⟩
      · cases h

end
end Go.Ab

namespace Go.Ab
open Go

inductive ResOk (P : Program) : List CRes → List ResultVar → Prop
  | nil : ResOk P [] []
  | tmp {t : Nat} {l : List CRes} {m : List ResultVar} (h : ResOk P l m) : ResOk P (.tmp t :: l) (.tmp t :: m)
  | cell {t : Nat} {ty : TypeId} {p : Part} {l : List CRes} {m : List ResultVar} (hp : cPart P ty = some p) (h : ResOk P l m) : ResOk P (.cell t p :: l) (.cell t ty :: m)

/-- A function and what it is compiled to. -/
structure FuncOk (DR : DrawRel) (P : Program) (f : Nat) (cf : CFunc) : Prop where
  ok : ∃ fn code, P.funcs[f]? = some fn ∧ fn.body = some code ∧ fn.name ≠ "runtime.NumGoroutine" ∧ fn.ntmps = cf.ntmps ∧ CC DR P cf.code code ∧ ResOk P cf.results fn.results.toList

section
variable {C : Ctx} {E : Env} {DR : DrawRel}

theorem callFunc_run {P : Program} {f : Nat} {fn : Func} {code : Code} (h1 : P.funcs[f]? = some fn) (h2 : fn.body = some code) (h3 : fn.name ≠ "runtime.NumGoroutine") (vs : Array Value) (w : World) :
    (callFunc f vs).run P w = .ok (.enter f vs) w := by
  simp [callFunc, h1, h2, h3]

theorem rd_sound {ρ : Rho} {H : Heap} {w : World} (hr : HRel C ρ H w) {a v : AV} {x : Value} {ty : TypeId} {p : Part} (hp : cPart C.P ty = some p) (h : rd C.O H a p = some v) (hx : Rel ρ a x) :
    ∃ y, (do loadVar ty (← asAddr x) : Sem Value).run C.P w = .ok y w ∧ Rel ρ v y := by
  cases p with
  | one =>
    simp only [rd] at h
    split at h
    · rename_i u hrd
      simp only [Option.some.injEq] at h; subst h
      obtain ⟨b, off, vs, rfl, hlen, hrel, hc⟩ := rdCells_sound hr hrd hx
      cases hrel with
      | cons h1 h2 =>
        rename_i v' vs'
        refine ⟨v', ?_, h1⟩
        have := hc 0 v' (by simp)
        simp only [Nat.add_zero] at this
        simp [asAddr, loadVar, cPart_one hp, this]
    · cases h
  | many n =>
    simp only [rd] at h
    split at h
    · rename_i l hrd
      simp only [Option.some.injEq] at h; subst h
      obtain ⟨b, off, vs, rfl, hrun, hrel, hsz⟩ := loadCells_sound hr hrd hx
      obtain ⟨h1, h2⟩ := cPart_many hp w
      exact ⟨.agg vs, by simp [asAddr, loadVar, h1, run_sizeOf h2, hrun], .agg hrel⟩
    · cases h

theorem readRes_sound {ρ : Rho} {H : Heap} {w : World} (hr : HRel C ρ H w) {T : List AV} {V : Array Value} (hT : RelL ρ T V.toList) : ∀ {rs : List CRes} {ms : List ResultVar} {l : List AV}, ResOk C.P rs ms → readRes C.O T H rs = some l →
    ∃ vs : List Value, (ms.mapM fun
        | .tmp t => pure (V.getD t undef)
        | .cell a t => do loadVar t (← asAddr (V.getD a undef)) : Sem (List Value)).run C.P w = .ok vs w ∧ RelL ρ l vs
  | _, _, l, .nil, h => by
    simp only [readRes, Option.some.injEq] at h; subst h
    exact ⟨[], by simp, .nil⟩
  | _, _, l, .tmp (t := t) h', h => by
    simp only [readRes, Option.map_eq_some_iff] at h
    obtain ⟨l', h1, rfl⟩ := h
    obtain ⟨vs, h2, h3⟩ := readRes_sound hr hT h' h1
    refine ⟨V.getD t undef :: vs, ?_, .cons (by rw [getD_eq]; exact hT.getD t undef) h3⟩
    rw [List.mapM_cons]
    simp only [Sem.run_bind, Sem.run_pure, Result.andThen_ok, h2]
  | _, _, l, .cell (t := t) hp h', h => by
    simp only [readRes] at h
    split at h
    · rename_i v l' hrd h1
      simp only [Option.some.injEq] at h; subst h
      obtain ⟨vs, h2, h3⟩ := readRes_sound hr hT h' h1
      obtain ⟨y, h4, h5⟩ := rd_sound hr hp hrd (hT.getD t undef)
      refine ⟨y :: vs, ?_, .cons h5 h3⟩
      rw [List.mapM_cons]
      rw [← getD_eq] at h4
      rw [Sem.run_bind, h4]
      simp only [Result.andThen_ok, Sem.run_bind, h2, Sem.run_pure]
    · cases h

theorem results_sound {ρ : Rho} {H : Heap} {w : World} (hr : HRel C ρ H w) {T : List AV} {V : Array Value} (hT : RelL ρ T V.toList) {rs : List CRes} {fn : Func} {l : List AV} (hres : ResOk C.P rs fn.results.toList)
    (h : readRes C.O T H rs = some l) : ∃ x, (results fn V).run C.P w = .ok x w ∧ Rel ρ (result l) x := by
  obtain ⟨vs, h1, h2⟩ := readRes_sound hr hT hres h
  have hrun : (fn.results.mapM fun
        | .tmp t => pure (V.getD t undef)
        | .cell a t => do loadVar t (← asAddr (V.getD a undef)) : Sem (Array Value)).run C.P w = .ok vs.toArray w := by
    rw [Array.mapM_eq_mapM_toList, Sem.run_map, h1]
    rfl
  refine ⟨if h : vs.toArray.size = 1 then vs.toArray[0] else .tuple vs.toArray, ?_, ?_⟩
  · have e := Sem.run_bind C.P w (fn.results.mapM fun
        | .tmp t => pure (V.getD t undef)
        | .cell a t => do loadVar t (← asAddr (V.getD a undef)) : Sem (Array Value)) (fun vs => pure (if h : vs.size = 1 then vs[0] else .tuple vs))
    rw [hrun] at e
    exact e
  · cases h2 with
    | nil => simp [result]; exact .tuple .nil
    | cons h3 h4 =>
      cases h4 with
      | nil => simpa [result] using h3
      | cons h5 h6 =>
        simp [result]
        exact .tuple (.cons h3 (.cons h5 h6))

theorem leave_norm {P : Program} {b : Frame} {T : Array Value} {D : List Deferred} {cs : List Frame} {w : World} (hb : b.roundOf = none) :
    step P (lone (mk b T D []) cs w) = .next (lone (inMode b T D [] .returning) cs w) :=
  step_lone_go (by simp [stepG, stepG.exec, mk, inMode, hb])

theorem leave_ret {P : Program} {b : Frame} {T : Array Value} {D : List Deferred} {k : List Item} {cs : List Frame} {w : World} (hb : b.roundOf = none) :
    step P (lone (mk b T D (.code .ret :: k)) cs w) = .next (lone (inMode b T D (.code .ret :: k) .returning) cs w) :=
  step_lone_go (by simp [stepG, stepG.exec, mk, inMode, hb])

/-- The same, and the frame that is left is the function's own. -/
theorem evalF_soundN (hE : EnvOk C E) (hcode : ∀ c code, CC DR C.P c code → SoundB C (evalC E c) code) {f : Nat} {cf : CFunc} (hf : FuncOk DR C.P f cf)
    {args : List AV} {R : RS} {H : Heap} {e : AEnd} {R' : RS} {H' : Heap} (h : evalF E cf args R H = some (e, R', H')) :
    ∀ (ρ : Rho) (w : World) (vs : Array Value), HRel C ρ H w → RelL ρ args vs.toList →
    (callFunc f vs).run C.P w = .ok (.enter f vs) w ∧
    ∀ (kind : CallKind) (cs : List Frame), (kind = .normal ∧ R = .no ∨ kind = .deferred ∧ C.defers f = true ∧ RRel ρ (Ab.base .deferred) cs R) →
      ∃ ρ' w' cs' fr', Step C ρ H w ρ' H' w' ∧ CsRel R R' cs cs' ∧ Steps C.P (lone (Frame.enter C.P f vs kind) cs w) (lone fr' cs' w') ∧
        fr'.fn = f ∧ fr'.kind = kind ∧ fr'.defers = [] ∧ RetOk C.P ρ' fr' w' e := by
  obtain ⟨fn, code, h1, h2, h3, h4, h5, h6⟩ := hf.ok
  intro ρ w vs hH hargs
  refine ⟨callFunc_run h1 h2 h3 vs w, ?_⟩
  intro kind cs hk
  -- the frame
  let b : Frame := { (default : Frame) with fn := f, kind }
  let V : Array Value := vs ++ Array.replicate (fn.ntmps - vs.size) undef
  have hlen : args.length = vs.size := by simpa using hargs.length
  have hent : Frame.enter C.P f vs kind = mk b V [] [.code code] := by
    simp [Frame.enter, mk, b, V, h1, h2]
    rfl
  have hR : RRel ρ b cs R := by
    rcases hk with ⟨rfl, rfl⟩ | ⟨rfl, _, hR⟩
    · exact ⟨rfl, fun T D todo => by simp [tryRecover, mk, b]⟩
    · cases R with
      | no => exact ⟨rfl, fun T D todo => by
          have := hR.2 T D todo
          rw [tryRecover_deferred rfl] at this ⊢
          exact this⟩
      | can v => obtain ⟨_, _, h⟩ := hR; exact ⟨rfl, rfl, h⟩
      | done => obtain ⟨_, _, h⟩ := hR; exact ⟨rfl, rfl, h⟩
      | round => simp [RRel, base] at hR; cases hR
  have hs0 : SRel C ρ b { T := args ++ List.replicate (cf.ntmps - args.length) unset, D := [], R := R, H := H } V [] cs w := by
    refine ⟨?_, .nil, hR, hH, by show (C.P.funcs[f]?).isSome = true; rw [h1]; rfl⟩
    simp only [V, Array.toList_append, Array.toList_replicate]
    rw [h4, hlen]
    exact hargs.append (RelL.replicate _ (unset_rel ρ))
  have hro : b.roundOf = none := rfl
  -- the end
  have fin : ∀ {ex : Ex} {s : St} {p p' : Option AV} {H2 : Heap} {ρ1 : Rho} {T1 : Array Value} {D1 : List Deferred} {cs1 : List Frame} {w1 : World} {todo : List Item} {m : FrameMode},
      SRel C ρ1 b s T1 D1 cs1 w1 → Step C ρ H w ρ1 s.H w1 → CsRel R s.R cs cs1 → ModeRel ρ1 p m → Steps C.P (lone (Frame.enter C.P f vs kind) cs w) (lone (inMode b T1 D1 todo m) cs1 w1) →
      unwind E s.D p s.H = some (p', H2) →
      ((p' = none ∧ ∃ l, readRes E.O s.T H2 cf.results = some l ∧ e = .ret (result l) ∧ R' = s.R ∧ H' = H2) ∨ (∃ v, p' = some v ∧ e = .panic v ∧ R' = s.R ∧ H' = H2)) →
      ∃ ρ' w' cs' fr', Step C ρ H w ρ' H' w' ∧ CsRel R R' cs cs' ∧ Steps C.P (lone (Frame.enter C.P f vs kind) cs w) (lone fr' cs' w') ∧
        fr'.fn = f ∧ fr'.kind = kind ∧ fr'.defers = [] ∧ RetOk C.P ρ' fr' w' e := by
    intro ex s p p' H2 ρ1 T1 D1 cs1 w1 todo m hs hst hcs hm hsteps hu hcase
    obtain ⟨ρ2, w2, m2, hm2, hst2, hsteps2⟩ := unwind_sound hE s.D D1 ρ1 w1 p p' s.H H2 m hs.D hs.H hm hu
    have hst3 := hst.trans hH hst2
    have hfn : C.P.funcs[(inMode b T1 [] todo m2).fn]? = some fn := h1
    rcases hcase with ⟨rfl, l, hl, rfl, rfl, rfl⟩ | ⟨v, rfl, rfl, rfl, rfl⟩
    · rw [hE.O] at hl
      obtain ⟨x, hx1, hx2⟩ := results_sound (fn := fn) hst2.rel (hs.T.mono hst2.le) h6 hl
      exact ⟨ρ2, w2, cs1, inMode b T1 [] todo m2, hst3, hcs, hsteps.trans hsteps2, rfl, rfl, rfl, hm2, fn, x, hfn, hx1, hx2⟩
    · obtain ⟨x, hm3, hx⟩ := hm2
      exact ⟨ρ2, w2, cs1, inMode b T1 [] todo m2, hst3, hcs, hsteps.trans hsteps2, rfl, rfl, rfl, fn, x, hm3, hfn, hx⟩
  unfold evalF at h
  have main : ∀ {ex : Ex} {s : St}, evalC E cf.code { T := args ++ List.replicate (cf.ntmps - args.length) unset, D := [], R := R, H := H } = some (ex, s) →
      ∃ ρ1 T1 D1 cs1 w1, SRel C ρ1 b s T1 D1 cs1 w1 ∧ Step C ρ H w ρ1 s.H w1 ∧ CsRel R s.R cs cs1 ∧ Arr C.P ρ1 (lone (Frame.enter C.P f vs kind) cs w) b [] T1 D1 cs1 w1 ex := by
    intro ex s he
    obtain ⟨ρ1, T1, D1, cs1, w1, a1, a2, a3, a4⟩ := hcode _ _ h5 b [] cs _ _ _ _ _ _ _ hs0 he
    rw [← hent] at a4
    exact ⟨ρ1, T1, D1, cs1, w1, a1, a2, a3, a4⟩
  have ends : ∀ {p' : Option AV} {H2 : Heap} {s : St} {u : Option (Option AV × Heap)}, u = some (p', H2) → (match u with
      | some (none, H') => (readRes E.O s.T H' cf.results).map fun l => (AEnd.ret (result l), s.R, H')
      | some (some v, H') => some (.panic v, s.R, H')
      | none => none) = some (e, R', H') →
      ((p' = none ∧ ∃ l, readRes E.O s.T H2 cf.results = some l ∧ e = .ret (result l) ∧ R' = s.R ∧ H' = H2) ∨ (∃ v, p' = some v ∧ e = .panic v ∧ R' = s.R ∧ H' = H2)) := by
    intro p' H2 s u hu hh
    subst hu
    cases p' with
    | none =>
      simp only [Option.map_eq_some_iff, Prod.mk.injEq] at hh
      obtain ⟨l, hl, rfl, rfl, rfl⟩ := hh
      exact .inl ⟨rfl, l, hl, rfl, rfl, rfl⟩
    | some v =>
      simp only [Option.some.injEq, Prod.mk.injEq] at hh
      obtain ⟨rfl, rfl, rfl⟩ := hh
      exact .inr ⟨v, rfl, rfl, rfl, rfl⟩
  split at h
  · rename_i s he
    obtain ⟨ρ1, T1, D1, cs1, w1, a1, a2, a3, a4⟩ := main he
    cases hu : unwind E s.D none s.H with
    | none => rw [hu] at h; cases h
    | some u =>
      obtain ⟨p', H2⟩ := u
      exact fin (ex := .norm) (p := none) (m := .returning) a1 a2 a3 rfl (Steps.trans a4 (.one (leave_norm hro))) hu (ends hu h)
  · rename_i s he
    obtain ⟨ρ1, T1, D1, cs1, w1, a1, a2, a3, k', a4⟩ := main he
    cases hu : unwind E s.D none s.H with
    | none => rw [hu] at h; cases h
    | some u =>
      obtain ⟨p', H2⟩ := u
      exact fin (ex := .ret) (p := none) (m := .returning) a1 a2 a3 rfl (a4.trans (.one (leave_ret hro))) hu (ends hu h)
  · rename_i v s he
    obtain ⟨ρ1, T1, D1, cs1, w1, a1, a2, a3, todo, x, hx, a4⟩ := main he
    cases hu : unwind E s.D (some v) s.H with
    | none => rw [hu] at h; cases h
    | some u =>
      obtain ⟨p', H2⟩ := u
      exact fin (ex := .panic v) (p := some v) a1 a2 a3 ⟨x, rfl, hx⟩ a4 hu (ends hu h)
  · cases h

theorem evalF_sound (hE : EnvOk C E) (hcode : ∀ c code, CC DR C.P c code → SoundB C (evalC E c) code) {f : Nat} {cf : CFunc} (hf : FuncOk DR C.P f cf)
    {args : List AV} {R : RS} {H : Heap} {e : AEnd} {R' : RS} {H' : Heap} (h : evalF E cf args R H = some (e, R', H')) : SoundCall C f args R H e R' H' := by
  intro ρ w vs hH hargs
  obtain ⟨h1, h2⟩ := evalF_soundN hE hcode hf h ρ w vs hH hargs
  refine ⟨h1, fun kind cs hk => ?_⟩
  obtain ⟨ρ', w', cs', fr', a, b, c, _, d⟩ := h2 kind cs hk
  exact ⟨ρ', w', cs', fr', a, b, c, d⟩

end
end Go.Ab

namespace Go.Ab
open Go

def OpdL (x : Option Opd) : List Opd := match x with | none => [] | some x => [x]

/-- What an operation looks at. -/
def COp.opds : COp → List Opd
  | .move x => [x]
  | .pick c a b => [c, a, b]
  | .alloc _ => []
  | .box x => [x]
  | .build _ ps => ps.map (·.2.2)
  | .buildSlice _ _ ps => ps.map (·.2.2)
  | .load _ a => [a]
  | .store _ a x => [a, x]
  | .nilCheck x => [x]
  | .arith _ x y => [x, y]
  | .shift _ x y => [x, y]
  | .eq _ _ x y => [x, y]
  | .un _ x => [x]
  | .conv _ x => [x]
  | .s2b x => [x]
  | .mark x => [x]
  | .b2s x => [x]
  | .mkIface _ x => [x]
  | .mkFunc _ f c => f ++ c
  | .mkMap  => []
  | .mkSlice _ _ l c => [l, c]
  | .sliceStr x lo hi => [x] ++ OpdL lo ++ OpdL hi
  | .sliceSl _ x lo hi => [x] ++ OpdL lo ++ OpdL hi
  | .sliceArr _ _ x lo hi => [x] ++ OpdL lo ++ OpdL hi
  | .fieldAddr _ x => [x]
  | .field _ _ x => [x]
  | .indexArr _ _ x i => [x, i]
  | .indexSl _ x i => [x, i]
  | .idxStr x i => [x, i]
  | .idxArr _ _ _ x i => [x, i]
  | .lookup _ x k _ => [x, k]
  | .mapSet m k v => [m, k, v]
  | .extract x _ => [x]
  | .assertC _ _ x => [x]
  | .call f args => [f] ++ args
  | .len x => [x]
  | .lenStr x => [x]
  | .lenMap x => [x]
  | .asStr x => [x]
  | .lenC _ => []
  | .cap x => [x]
  | .append _ _ s x => [s, x]
  | .copy _ d x => [d, x]
  | .minMax _ xs => xs
  | .recover  => []
  | .delete m k => [m, k]
  | .defer f args => [f] ++ args
  | .panic x => [x]
  | .iterS x => [x]
  | .nextS it => [it]

/-- Operations that yield a value without a look at memory (or that are no such thing at all). -/
def COp.pure : COp → Bool
  | .load .. | .b2s _ | .lookup .. | .lenMap _ => false
  | _ => true

theorem aQuiet_pure {op : COp} (h : op.pure = true) (O : Old) (ev : Opd → AV) (H H' : Heap) : aQuiet O op ev H = aQuiet O op ev H' := by
  cases op <;> first | rfl | cases h

theorem aop_of_quiet {op : COp} {O : Old} {ev : Opd → AV} {H : Heap} {v : AV} (h : aQuiet O op ev H = some v) : aop O op ev H = some (.val v H) := by
  cases op <;> first | (simp only [aQuiet, reduceCtorEq] at h; done) | (simp only [aop, h])

theorem optN_congr {ev ev' : Opd → AV} (d : Nat) (x : Option Opd) (h : ∀ y ∈ OpdL x, ev y = ev' y) : optN ev d x = optN ev' d x := by
  cases x with
  | none => rfl
  | some x => simp only [optN, h x (by simp [OpdL])]

theorem parts_congr {ev ev' : Opd → AV} (ps : List (Nat × Nat × Opd)) (h : ∀ y ∈ ps.map (·.2.2), ev y = ev' y) :
    (ps.map fun (o, s, x) => (o, s, ev x)) = (ps.map fun (o, s, x) => (o, s, ev' x)) :=
  List.map_congr_left fun p hp => by
    obtain ⟨o, s, x⟩ := p
    simp only [h x (List.mem_map.2 ⟨_, hp, rfl⟩)]

section
variable {ev ev' : Opd → AV}

theorem aQuiet_congr {O : Old} {H : Heap} {op : COp} (h : ∀ x ∈ op.opds, ev x = ev' x) : aQuiet O op ev H = aQuiet O op ev' H := by
  cases op with
  | move x => have h_x := h x (by simp [COp.opds]); simp only [aQuiet, h_x]
  | pick c a b => have h_c := h c (by simp [COp.opds]); have h_a := h a (by simp [COp.opds]); have h_b := h b (by simp [COp.opds]); simp only [aQuiet, h_c, h_a, h_b]
  | alloc z => rfl
  | box x => have h_x := h x (by simp [COp.opds]); simp only [aQuiet, h_x]
  | build z ps => have h_ps := parts_congr ps fun y hy => h y (by simpa only [COp.opds] using hy); simp only [aQuiet, h_ps]
  | buildSlice z n ps => have h_ps := parts_congr ps fun y hy => h y (by simpa only [COp.opds] using hy); simp only [aQuiet, h_ps]
  | load p a => have h_a := h a (by simp [COp.opds]); simp only [aQuiet, h_a]
  | store n a x => have h_a := h a (by simp [COp.opds]); have h_x := h x (by simp [COp.opds]); simp only [aQuiet, h_a, h_x]
  | nilCheck x => have h_x := h x (by simp [COp.opds]); simp only [aQuiet, h_x]
  | arith op x y => have h_x := h x (by simp [COp.opds]); have h_y := h y (by simp [COp.opds]); simp only [aQuiet, h_x, h_y]
  | shift op x y => have h_x := h x (by simp [COp.opds]); have h_y := h y (by simp [COp.opds]); simp only [aQuiet, h_x, h_y]
  | eq cls neg x y => have h_x := h x (by simp [COp.opds]); have h_y := h y (by simp [COp.opds]); simp only [aQuiet, h_x, h_y]
  | un op x => have h_x := h x (by simp [COp.opds]); simp only [aQuiet, h_x]
  | conv k x => have h_x := h x (by simp [COp.opds]); simp only [aQuiet, h_x]
  | s2b x => have h_x := h x (by simp [COp.opds]); simp only [aQuiet, h_x]
  | mark x => have h_x := h x (by simp [COp.opds]); simp only [aQuiet, h_x]
  | b2s x => have h_x := h x (by simp [COp.opds]); simp only [aQuiet, h_x]
  | mkIface t x => have h_x := h x (by simp [COp.opds]); simp only [aQuiet, h_x]
  | mkFunc fn f c => have h_f : f.map ev = f.map ev' := List.map_congr_left fun y hy => h y (by simp [COp.opds, hy]); have h_c : c.map ev = c.map ev' := List.map_congr_left fun y hy => h y (by simp [COp.opds, hy]); simp only [aQuiet, h_f, h_c]
  | mkMap  => rfl
  | mkSlice z b l c => have h_l := h l (by simp [COp.opds]); have h_c := h c (by simp [COp.opds]); simp only [aQuiet, h_l, h_c]
  | sliceStr x lo hi => have h_x := h x (by simp [COp.opds]); have h_lo : ∀ d, optN ev d lo = optN ev' d lo := fun d => optN_congr d lo fun y hy => h y (by simp [COp.opds, hy]); have h_hi : ∀ d, optN ev d hi = optN ev' d hi := fun d => optN_congr d hi fun y hy => h y (by simp [COp.opds, hy]); simp only [aQuiet, h_x, h_lo, h_hi]
  | sliceSl sz x lo hi => have h_x := h x (by simp [COp.opds]); have h_lo : ∀ d, optN ev d lo = optN ev' d lo := fun d => optN_congr d lo fun y hy => h y (by simp [COp.opds, hy]); have h_hi : ∀ d, optN ev d hi = optN ev' d hi := fun d => optN_congr d hi fun y hy => h y (by simp [COp.opds, hy]); simp only [aQuiet, h_x, h_lo, h_hi]
  | sliceArr n sz x lo hi => have h_x := h x (by simp [COp.opds]); have h_lo : ∀ d, optN ev d lo = optN ev' d lo := fun d => optN_congr d lo fun y hy => h y (by simp [COp.opds, hy]); have h_hi : ∀ d, optN ev d hi = optN ev' d hi := fun d => optN_congr d hi fun y hy => h y (by simp [COp.opds, hy]); simp only [aQuiet, h_x, h_lo, h_hi]
  | fieldAddr off x => have h_x := h x (by simp [COp.opds]); simp only [aQuiet, h_x]
  | field p off x => have h_x := h x (by simp [COp.opds]); simp only [aQuiet, h_x]
  | indexArr len sz x i => have h_x := h x (by simp [COp.opds]); have h_i := h i (by simp [COp.opds]); simp only [aQuiet, h_x, h_i]
  | indexSl sz x i => have h_x := h x (by simp [COp.opds]); have h_i := h i (by simp [COp.opds]); simp only [aQuiet, h_x, h_i]
  | idxStr x i => have h_x := h x (by simp [COp.opds]); have h_i := h i (by simp [COp.opds]); simp only [aQuiet, h_x, h_i]
  | idxArr p len sz x i => have h_x := h x (by simp [COp.opds]); have h_i := h i (by simp [COp.opds]); simp only [aQuiet, h_x, h_i]
  | lookup z x k ok => have h_x := h x (by simp [COp.opds]); have h_k := h k (by simp [COp.opds]); simp only [aQuiet, h_x, h_k]
  | mapSet m k v => have h_m := h m (by simp [COp.opds]); have h_k := h k (by simp [COp.opds]); have h_v := h v (by simp [COp.opds]); simp only [aQuiet, h_m, h_k, h_v]
  | extract x n => have h_x := h x (by simp [COp.opds]); simp only [aQuiet, h_x]
  | assertC t z x => have h_x := h x (by simp [COp.opds]); simp only [aQuiet, h_x]
  | call f args => have h_f := h f (by simp [COp.opds]); have h_args : args.map ev = args.map ev' := List.map_congr_left fun y hy => h y (by simp [COp.opds, hy]); simp only [aQuiet, h_f, h_args]
  | len x => have h_x := h x (by simp [COp.opds]); simp only [aQuiet, h_x]
  | lenStr x => have h_x := h x (by simp [COp.opds]); simp only [aQuiet, h_x]
  | lenMap x => have h_x := h x (by simp [COp.opds]); simp only [aQuiet, h_x]
  | asStr x => have h_x := h x (by simp [COp.opds]); simp only [aQuiet, h_x]
  | lenC n => rfl
  | cap x => have h_x := h x (by simp [COp.opds]); simp only [aQuiet, h_x]
  | append sz b s x => have h_s := h s (by simp [COp.opds]); have h_x := h x (by simp [COp.opds]); simp only [aQuiet, h_s, h_x]
  | copy sz d x => have h_d := h d (by simp [COp.opds]); have h_x := h x (by simp [COp.opds]); simp only [aQuiet, h_d, h_x]
  | minMax mx xs => have h_xs : xs.map ev = xs.map ev' := List.map_congr_left fun y hy => h y (by simp [COp.opds, hy]); simp only [aQuiet, h_xs]
  | recover  => rfl
  | delete m k => have h_m := h m (by simp [COp.opds]); have h_k := h k (by simp [COp.opds]); simp only [aQuiet, h_m, h_k]
  | defer f args => have h_f := h f (by simp [COp.opds]); have h_args : args.map ev = args.map ev' := List.map_congr_left fun y hy => h y (by simp [COp.opds, hy]); simp only [aQuiet, h_f, h_args]
  | panic x => have h_x := h x (by simp [COp.opds]); simp only [aQuiet, h_x]
  | iterS x => have h_x := h x (by simp [COp.opds]); simp only [aQuiet, h_x]
  | nextS it => have h_it := h it (by simp [COp.opds]); simp only [aQuiet, h_it]
theorem aNew_congr {op : COp} (h : ∀ x ∈ op.opds, ev x = ev' x) : aNew op ev = aNew op ev' := by
  cases op with
  | move x => have h_x := h x (by simp [COp.opds]); simp only [aNew, h_x]
  | pick c a b => have h_c := h c (by simp [COp.opds]); have h_a := h a (by simp [COp.opds]); have h_b := h b (by simp [COp.opds]); simp only [aNew, h_c, h_a, h_b]
  | alloc z => rfl
  | box x => have h_x := h x (by simp [COp.opds]); simp only [aNew, h_x]
  | build z ps => have h_ps := parts_congr ps fun y hy => h y (by simpa only [COp.opds] using hy); simp only [aNew, h_ps]
  | buildSlice z n ps => have h_ps := parts_congr ps fun y hy => h y (by simpa only [COp.opds] using hy); simp only [aNew, h_ps]
  | load p a => have h_a := h a (by simp [COp.opds]); simp only [aNew, h_a]
  | store n a x => have h_a := h a (by simp [COp.opds]); have h_x := h x (by simp [COp.opds]); simp only [aNew, h_a, h_x]
  | nilCheck x => have h_x := h x (by simp [COp.opds]); simp only [aNew, h_x]
  | arith op x y => have h_x := h x (by simp [COp.opds]); have h_y := h y (by simp [COp.opds]); simp only [aNew, h_x, h_y]
  | shift op x y => have h_x := h x (by simp [COp.opds]); have h_y := h y (by simp [COp.opds]); simp only [aNew, h_x, h_y]
  | eq cls neg x y => have h_x := h x (by simp [COp.opds]); have h_y := h y (by simp [COp.opds]); simp only [aNew, h_x, h_y]
  | un op x => have h_x := h x (by simp [COp.opds]); simp only [aNew, h_x]
  | conv k x => have h_x := h x (by simp [COp.opds]); simp only [aNew, h_x]
  | s2b x => have h_x := h x (by simp [COp.opds]); simp only [aNew, h_x]
  | mark x => have h_x := h x (by simp [COp.opds]); simp only [aNew, h_x]
  | b2s x => have h_x := h x (by simp [COp.opds]); simp only [aNew, h_x]
  | mkIface t x => have h_x := h x (by simp [COp.opds]); simp only [aNew, h_x]
  | mkFunc fn f c => have h_f : f.map ev = f.map ev' := List.map_congr_left fun y hy => h y (by simp [COp.opds, hy]); have h_c : c.map ev = c.map ev' := List.map_congr_left fun y hy => h y (by simp [COp.opds, hy]); simp only [aNew, h_f, h_c]
  | mkMap  => rfl
  | mkSlice z b l c => have h_l := h l (by simp [COp.opds]); have h_c := h c (by simp [COp.opds]); simp only [aNew, h_l, h_c]
  | sliceStr x lo hi => have h_x := h x (by simp [COp.opds]); have h_lo : ∀ d, optN ev d lo = optN ev' d lo := fun d => optN_congr d lo fun y hy => h y (by simp [COp.opds, hy]); have h_hi : ∀ d, optN ev d hi = optN ev' d hi := fun d => optN_congr d hi fun y hy => h y (by simp [COp.opds, hy]); simp only [aNew, h_x, h_lo, h_hi]
  | sliceSl sz x lo hi => have h_x := h x (by simp [COp.opds]); have h_lo : ∀ d, optN ev d lo = optN ev' d lo := fun d => optN_congr d lo fun y hy => h y (by simp [COp.opds, hy]); have h_hi : ∀ d, optN ev d hi = optN ev' d hi := fun d => optN_congr d hi fun y hy => h y (by simp [COp.opds, hy]); simp only [aNew, h_x, h_lo, h_hi]
  | sliceArr n sz x lo hi => have h_x := h x (by simp [COp.opds]); have h_lo : ∀ d, optN ev d lo = optN ev' d lo := fun d => optN_congr d lo fun y hy => h y (by simp [COp.opds, hy]); have h_hi : ∀ d, optN ev d hi = optN ev' d hi := fun d => optN_congr d hi fun y hy => h y (by simp [COp.opds, hy]); simp only [aNew, h_x, h_lo, h_hi]
  | fieldAddr off x => have h_x := h x (by simp [COp.opds]); simp only [aNew, h_x]
  | field p off x => have h_x := h x (by simp [COp.opds]); simp only [aNew, h_x]
  | indexArr len sz x i => have h_x := h x (by simp [COp.opds]); have h_i := h i (by simp [COp.opds]); simp only [aNew, h_x, h_i]
  | indexSl sz x i => have h_x := h x (by simp [COp.opds]); have h_i := h i (by simp [COp.opds]); simp only [aNew, h_x, h_i]
  | idxStr x i => have h_x := h x (by simp [COp.opds]); have h_i := h i (by simp [COp.opds]); simp only [aNew, h_x, h_i]
  | idxArr p len sz x i => have h_x := h x (by simp [COp.opds]); have h_i := h i (by simp [COp.opds]); simp only [aNew, h_x, h_i]
  | lookup z x k ok => have h_x := h x (by simp [COp.opds]); have h_k := h k (by simp [COp.opds]); simp only [aNew, h_x, h_k]
  | mapSet m k v => have h_m := h m (by simp [COp.opds]); have h_k := h k (by simp [COp.opds]); have h_v := h v (by simp [COp.opds]); simp only [aNew, h_m, h_k, h_v]
  | extract x n => have h_x := h x (by simp [COp.opds]); simp only [aNew, h_x]
  | assertC t z x => have h_x := h x (by simp [COp.opds]); simp only [aNew, h_x]
  | call f args => have h_f := h f (by simp [COp.opds]); have h_args : args.map ev = args.map ev' := List.map_congr_left fun y hy => h y (by simp [COp.opds, hy]); simp only [aNew, h_f, h_args]
  | len x => have h_x := h x (by simp [COp.opds]); simp only [aNew, h_x]
  | lenStr x => have h_x := h x (by simp [COp.opds]); simp only [aNew, h_x]
  | lenMap x => have h_x := h x (by simp [COp.opds]); simp only [aNew, h_x]
  | asStr x => have h_x := h x (by simp [COp.opds]); simp only [aNew, h_x]
  | lenC n => rfl
  | cap x => have h_x := h x (by simp [COp.opds]); simp only [aNew, h_x]
  | append sz b s x => have h_s := h s (by simp [COp.opds]); have h_x := h x (by simp [COp.opds]); simp only [aNew, h_s, h_x]
  | copy sz d x => have h_d := h d (by simp [COp.opds]); have h_x := h x (by simp [COp.opds]); simp only [aNew, h_d, h_x]
  | minMax mx xs => have h_xs : xs.map ev = xs.map ev' := List.map_congr_left fun y hy => h y (by simp [COp.opds, hy]); simp only [aNew, h_xs]
  | recover  => rfl
  | delete m k => have h_m := h m (by simp [COp.opds]); have h_k := h k (by simp [COp.opds]); simp only [aNew, h_m, h_k]
  | defer f args => have h_f := h f (by simp [COp.opds]); have h_args : args.map ev = args.map ev' := List.map_congr_left fun y hy => h y (by simp [COp.opds, hy]); simp only [aNew, h_f, h_args]
  | panic x => have h_x := h x (by simp [COp.opds]); simp only [aNew, h_x]
  | iterS x => have h_x := h x (by simp [COp.opds]); simp only [aNew, h_x]
  | nextS it => have h_it := h it (by simp [COp.opds]); simp only [aNew, h_it]
theorem aop_congr {O : Old} {H : Heap} {op : COp} (h : ∀ x ∈ op.opds, ev x = ev' x) : aop O op ev H = aop O op ev' H := by
  cases op with
  | move x => have h_x := h x (by simp [COp.opds]); simp only [aop, aQuiet, aNew, h_x]
  | pick c a b => have h_c := h c (by simp [COp.opds]); have h_a := h a (by simp [COp.opds]); have h_b := h b (by simp [COp.opds]); simp only [aop, aQuiet, aNew, h_c, h_a, h_b]
  | alloc z => rfl
  | box x => have h_x := h x (by simp [COp.opds]); simp only [aop, aQuiet, aNew, h_x]
  | build z ps => have h_ps := parts_congr ps fun y hy => h y (by simpa only [COp.opds] using hy); simp only [aop, aQuiet, aNew, h_ps]
  | buildSlice z n ps => have h_ps := parts_congr ps fun y hy => h y (by simpa only [COp.opds] using hy); simp only [aop, aQuiet, aNew, h_ps]
  | load p a => have h_a := h a (by simp [COp.opds]); simp only [aop, aQuiet, aNew, h_a]
  | store n a x => have h_a := h a (by simp [COp.opds]); have h_x := h x (by simp [COp.opds]); simp only [aop, aQuiet, aNew, h_a, h_x]
  | nilCheck x => have h_x := h x (by simp [COp.opds]); simp only [aop, aQuiet, aNew, h_x]
  | arith op x y => have h_x := h x (by simp [COp.opds]); have h_y := h y (by simp [COp.opds]); simp only [aop, aQuiet, aNew, h_x, h_y]
  | shift op x y => have h_x := h x (by simp [COp.opds]); have h_y := h y (by simp [COp.opds]); simp only [aop, aQuiet, aNew, h_x, h_y]
  | eq cls neg x y => have h_x := h x (by simp [COp.opds]); have h_y := h y (by simp [COp.opds]); simp only [aop, aQuiet, aNew, h_x, h_y]
  | un op x => have h_x := h x (by simp [COp.opds]); simp only [aop, aQuiet, aNew, h_x]
  | conv k x => have h_x := h x (by simp [COp.opds]); simp only [aop, aQuiet, aNew, h_x]
  | s2b x => have h_x := h x (by simp [COp.opds]); simp only [aop, aQuiet, aNew, h_x]
  | mark x => have h_x := h x (by simp [COp.opds]); simp only [aop, aQuiet, aNew, h_x]
  | b2s x => have h_x := h x (by simp [COp.opds]); simp only [aop, aQuiet, aNew, h_x]
  | mkIface t x => have h_x := h x (by simp [COp.opds]); simp only [aop, aQuiet, aNew, h_x]
  | mkFunc fn f c => have h_f : f.map ev = f.map ev' := List.map_congr_left fun y hy => h y (by simp [COp.opds, hy]); have h_c : c.map ev = c.map ev' := List.map_congr_left fun y hy => h y (by simp [COp.opds, hy]); simp only [aop, aQuiet, aNew, h_f, h_c]
  | mkMap  => rfl
  | mkSlice z b l c => have h_l := h l (by simp [COp.opds]); have h_c := h c (by simp [COp.opds]); simp only [aop, aQuiet, aNew, h_l, h_c]
  | sliceStr x lo hi => have h_x := h x (by simp [COp.opds]); have h_lo : ∀ d, optN ev d lo = optN ev' d lo := fun d => optN_congr d lo fun y hy => h y (by simp [COp.opds, hy]); have h_hi : ∀ d, optN ev d hi = optN ev' d hi := fun d => optN_congr d hi fun y hy => h y (by simp [COp.opds, hy]); simp only [aop, aQuiet, aNew, h_x, h_lo, h_hi]
  | sliceSl sz x lo hi => have h_x := h x (by simp [COp.opds]); have h_lo : ∀ d, optN ev d lo = optN ev' d lo := fun d => optN_congr d lo fun y hy => h y (by simp [COp.opds, hy]); have h_hi : ∀ d, optN ev d hi = optN ev' d hi := fun d => optN_congr d hi fun y hy => h y (by simp [COp.opds, hy]); simp only [aop, aQuiet, aNew, h_x, h_lo, h_hi]
  | sliceArr n sz x lo hi => have h_x := h x (by simp [COp.opds]); have h_lo : ∀ d, optN ev d lo = optN ev' d lo := fun d => optN_congr d lo fun y hy => h y (by simp [COp.opds, hy]); have h_hi : ∀ d, optN ev d hi = optN ev' d hi := fun d => optN_congr d hi fun y hy => h y (by simp [COp.opds, hy]); simp only [aop, aQuiet, aNew, h_x, h_lo, h_hi]
  | fieldAddr off x => have h_x := h x (by simp [COp.opds]); simp only [aop, aQuiet, aNew, h_x]
  | field p off x => have h_x := h x (by simp [COp.opds]); simp only [aop, aQuiet, aNew, h_x]
  | indexArr len sz x i => have h_x := h x (by simp [COp.opds]); have h_i := h i (by simp [COp.opds]); simp only [aop, aQuiet, aNew, h_x, h_i]
  | indexSl sz x i => have h_x := h x (by simp [COp.opds]); have h_i := h i (by simp [COp.opds]); simp only [aop, aQuiet, aNew, h_x, h_i]
  | idxStr x i => have h_x := h x (by simp [COp.opds]); have h_i := h i (by simp [COp.opds]); simp only [aop, aQuiet, aNew, h_x, h_i]
  | idxArr p len sz x i => have h_x := h x (by simp [COp.opds]); have h_i := h i (by simp [COp.opds]); simp only [aop, aQuiet, aNew, h_x, h_i]
  | lookup z x k ok => have h_x := h x (by simp [COp.opds]); have h_k := h k (by simp [COp.opds]); simp only [aop, aQuiet, aNew, h_x, h_k]
  | mapSet m k v => have h_m := h m (by simp [COp.opds]); have h_k := h k (by simp [COp.opds]); have h_v := h v (by simp [COp.opds]); simp only [aop, aQuiet, aNew, h_m, h_k, h_v]
  | extract x n => have h_x := h x (by simp [COp.opds]); simp only [aop, aQuiet, aNew, h_x]
  | assertC t z x => have h_x := h x (by simp [COp.opds]); simp only [aop, aQuiet, aNew, h_x]
  | call f args => have h_f := h f (by simp [COp.opds]); have h_args : args.map ev = args.map ev' := List.map_congr_left fun y hy => h y (by simp [COp.opds, hy]); simp only [aop, aQuiet, aNew, h_f, h_args]
  | len x => have h_x := h x (by simp [COp.opds]); simp only [aop, aQuiet, aNew, h_x]
  | lenStr x => have h_x := h x (by simp [COp.opds]); simp only [aop, aQuiet, aNew, h_x]
  | lenMap x => have h_x := h x (by simp [COp.opds]); simp only [aop, aQuiet, aNew, h_x]
  | asStr x => have h_x := h x (by simp [COp.opds]); simp only [aop, aQuiet, aNew, h_x]
  | lenC n => rfl
  | cap x => have h_x := h x (by simp [COp.opds]); simp only [aop, aQuiet, aNew, h_x]
  | append sz b s x => have h_s := h s (by simp [COp.opds]); have h_x := h x (by simp [COp.opds]); simp only [aop, aQuiet, aNew, h_s, h_x]
  | copy sz d x => have h_d := h d (by simp [COp.opds]); have h_x := h x (by simp [COp.opds]); simp only [aop, aQuiet, aNew, h_d, h_x]
  | minMax mx xs => have h_xs : xs.map ev = xs.map ev' := List.map_congr_left fun y hy => h y (by simp [COp.opds, hy]); simp only [aop, aQuiet, aNew, h_xs]
  | recover  => rfl
  | delete m k => have h_m := h m (by simp [COp.opds]); have h_k := h k (by simp [COp.opds]); simp only [aop, aQuiet, aNew, h_m, h_k]
  | defer f args => have h_f := h f (by simp [COp.opds]); have h_args : args.map ev = args.map ev' := List.map_congr_left fun y hy => h y (by simp [COp.opds, hy]); simp only [aop, aQuiet, aNew, h_f, h_args]
  | panic x => have h_x := h x (by simp [COp.opds]); simp only [aop, aQuiet, aNew, h_x]
  | iterS x => have h_x := h x (by simp [COp.opds]); simp only [aop, aQuiet, aNew, h_x]
  | nextS it => have h_it := h it (by simp [COp.opds]); simp only [aop, aQuiet, aNew, h_it]

end
end Go.Ab

namespace Go.Ab
open Go

def Opd.slot : Opd → Option Nat
  | .t n => some n
  | _ => none

def COper.looks (o : COper) : List Nat := o.op.opds.filterMap Opd.slot ++ (match o.guard with | some (t, _) => [t] | none => [])

theorem ev_set {T : List AV} {d : Nat} {v : AV} {x : Opd} (h : x.slot ≠ some d) : Opd.ev (T.set d v) x = Opd.ev T x := by
  cases x with
  | t n =>
    have : d ≠ n := fun e => h (by simp [Opd.slot, e])
    simp [Opd.ev, List.getD_eq_getElem?_getD, List.getElem?_set_ne this]
  | _ => rfl

theorem ev_put {o : COper} {T : List AV} {d : Option Nat} {v : AV} (h : ∀ t, d = some t → t ∉ o.looks) : ∀ x ∈ o.op.opds, Opd.ev (put T d v) x = Opd.ev T x := by
  intro x hx
  cases d with
  | none => rfl
  | some t =>
    refine ev_set fun e => h t rfl ?_
    exact List.mem_append_left _ (List.mem_filterMap.2 ⟨x, hx, e⟩)

theorem want_put {o : COper} {T : List AV} {d : Option Nat} {v : AV} (h : ∀ t, d = some t → t ∉ o.looks) : want (put T d v) o.guard = want T o.guard := by
  cases d with
  | none => rfl
  | some t =>
    cases hg : o.guard with
    | none => rfl
    | some g =>
      obtain ⟨s, b⟩ := g
      have : t ≠ s := fun e => h t rfl (by simp [COper.looks, hg, e])
      simp [want, put, List.getD_eq_getElem?_getD, List.getElem?_set_ne this]

theorem put_put {T : List AV} {d d' : Option Nat} {v v' : AV} (h : ∀ t, d = some t → d' ≠ some t) : put (put T d v) d' v' = put (put T d' v') d v := by
  cases d with
  | none => rfl
  | some a => cases d' with
    | none => rfl
    | some b =>
      have : a ≠ b := fun e => h a rfl (by rw [e])
      simp only [put]
      rw [List.set_comm _ _ this]

theorem killT_put {ks : List Nat} {T : List AV} {d : Option Nat} {v : AV} (h : ∀ t, d = some t → t ∈ ks) : killT (put T d v) ks = killT T ks := by
  cases d with
  | none => rfl
  | some t =>
    have ht := h t rfl
    simp only [put]
    clear h
    induction ks generalizing T with
    | nil => cases ht
    | cons k ks ih =>
      simp only [killT]
      by_cases e : t = k
      · subst e; simp
      · rw [← List.set_comm _ _ (Ne.symm e ∘ Eq.symm ∘ Eq.symm)]
        exact ih (by simpa [e] using ht)

/-- Two operations that do not look at one another. -/
structure Apart (x y : COper) : Prop where
  xy : ∀ t, x.dst = some t → t ∉ y.looks
  yx : ∀ t, y.dst = some t → t ∉ x.looks
  ne : ∀ t, x.dst = some t → y.dst ≠ some t

/-- An operation after a slot that it does not look at has been written. -/
theorem doOp_put {E : Env} {o : COper} {s : St} {d : Option Nat} {v : AV} (h : ∀ t, d = some t → t ∉ o.looks) (hd : ∀ t, d = some t → o.dst ≠ some t) :
    doOp E o (s.put d v) = (doOp E o s).map fun r => (r.1, r.2.put d v) := by
  unfold doOp
  simp only [St.put, want_put h, aop_congr (ev_put (T := s.T) (v := v) h)]
  have hp : ∀ u, put (put s.T d v) o.dst u = put (put s.T o.dst u) d v := fun u => put_put hd
  simp only [hp]
  split
  · rfl
  · rfl
  · split <;> try rfl
    · split <;> rfl
    · split <;> rfl
    · split <;> rfl
    · split <;> rfl

theorem Tr.setF_comm {α : Type} (x y : Option α) : ∀ (f g : Nat) (t : Tr α) (k j : Nat), k < f → j < g → k ≠ j →
    Tr.setF g (Tr.setF f t k x) j y = Tr.setF f (Tr.setF g t j y) k x
  | 0, _, _, _, _, h, _, _ => by omega
  | _ + 1, 0, _, _, _, _, h, _ => by omega
  | f + 1, g + 1, t, k, j, hk, hj, hne => by
    rcases hp : t.parts with ⟨v, l, r⟩
    simp only [Tr.setF, hp]
    by_cases k0 : k = 0 <;> by_cases j0 : j = 0
    · omega
    · simp only [k0, j0, if_true, if_false]
      by_cases hjp : j % 2 = 1 <;> simp [hjp, Tr.parts, k0]
    · simp only [k0, j0, if_true, if_false]
      by_cases hkp : k % 2 = 1 <;> simp [hkp, Tr.parts, j0]
    · simp only [k0, j0, if_false]
      by_cases hkp : k % 2 = 1 <;> by_cases hjp : j % 2 = 1
      · simp only [hkp, hjp, if_true, Tr.parts, j0, k0, if_false]
        rw [Tr.setF_comm x y f g l _ _ (by omega) (by omega) (by omega)]
      · simp [hkp, hjp, Tr.parts, j0, k0]
      · simp [hkp, hjp, Tr.parts, j0, k0]
      · simp only [hkp, hjp, if_false, Tr.parts, j0, k0]
        rw [Tr.setF_comm x y f g r _ _ (by omega) (by omega) (by omega)]

theorem Tr.set_comm {α : Type} (t : Tr α) {k j : Nat} (x y : α) (h : k ≠ j) : (t.set k x).set j y = (t.set j y).set k x :=
  Tr.setF_comm _ _ _ _ _ _ _ (by omega) (by omega) h

theorem Tr.setF_setF {α : Type} (x y : Option α) : ∀ (f : Nat) (t : Tr α) (k : Nat), Tr.setF f (Tr.setF f t k x) k y = Tr.setF f t k y
  | 0, _, _ => rfl
  | f + 1, t, k => by
    rcases hp : t.parts with ⟨v, l, r⟩
    simp only [Tr.setF, hp]
    by_cases k0 : k = 0
    · simp [k0, Tr.parts]
    · by_cases hkp : k % 2 = 1
      · simp only [k0, hkp, if_true, if_false, Tr.parts]
        rw [Tr.setF_setF x y f l]
      · simp only [k0, hkp, if_false, Tr.parts]
        rw [Tr.setF_setF x y f r]

theorem Tr.set_set {α : Type} (t : Tr α) (k : Nat) (x y : α) : (t.set k x).set k y = t.set k y := Tr.setF_setF _ _ _ _ _

theorem mergeN_congr {base : Nat} {p p' : Tr AObj} {sel : Nat → Bool} : ∀ (n : Nat) (H : Heap), (∀ i, i < n → sel i = true → p.get i = p'.get i) → mergeN base p sel n H = mergeN base p' sel n H
  | 0, _, _ => rfl
  | n + 1, H, h => by
    simp only [mergeN]
    rw [mergeN_congr n H (fun i hi => h i (by omega))]
    cases hs : sel n with
    | false => rfl
    | true => rw [h n (by omega) hs]

theorem dropN_set {p : Tr AObj} {sel : Nat → Bool} {k : Nat} {o : AObj} (hs : sel k = false) : ∀ (n : Nat), k < n → dropN (p.set k o) sel n = (dropN p sel n).set k o
  | 0, h => by omega
  | n + 1, h => by
    simp only [dropN, Tr.get_set]
    by_cases e : n = k
    · subst e
      simp only [hs, if_true, Bool.false_eq_true, if_false]
      have key : ∀ m, m ≤ n → dropN (p.set n o) sel m = dropN p sel m := by
        intro m
        induction m with
        | zero => intro _; rfl
        | succ m ih =>
          intro hm
          have : m ≠ n := by omega
          simp only [dropN, Tr.get_set, this, if_false, ih (by omega)]
      rw [key n (Nat.le_refl _)]
      cases hg : p.get n with
      | none => rfl
      | some q =>
        simp only
        exact (Tr.set_set _ _ _ _).symm
    · have hk : k < n := by omega
      rw [dropN_set hs n hk]
      simp only [e, if_false]
      cases hsn : sel n with
      | true => rfl
      | false =>
        cases hg : p.get n with
        | none => rfl
        | some q => exact Tr.set_comm _ _ _ (Ne.symm e)

theorem keepN_set {p : Tr Rd} {sel : Nat → Bool} {k : Nat} {o : Rd} (hs : sel k = false) : ∀ (n : Nat), k < n → keepN (p.set k o) sel n = (keepN p sel n).set k o
  | 0, h => by omega
  | n + 1, h => by
    simp only [keepN, Tr.get_set]
    by_cases e : n = k
    · subst e
      simp only [hs, if_true, Bool.false_eq_true, if_false]
      have key : ∀ m, m ≤ n → keepN (p.set n o) sel m = keepN p sel m := by
        intro m
        induction m with
        | zero => intro _; rfl
        | succ m ih =>
          intro hm
          have : m ≠ n := by omega
          simp only [keepN, Tr.get_set, this, if_false, ih (by omega)]
      rw [key n (Nat.le_refl _)]
      cases hg : p.get n with
      | none => rfl
      | some q =>
        simp only
        exact (Tr.set_set _ _ _ _).symm
    · have hk : k < n := by omega
      rw [keepN_set hs n hk]
      simp only [e, if_false]
      cases hsn : sel n with
      | true => rfl
      | false =>
        cases hg : p.get n with
        | none => rfl
        | some q => exact Tr.set_comm _ _ _ (Ne.symm e)

end Go.Ab

namespace Go.Ab
open Go

theorem drawGo_cons {E : Env} {n base : Nat} {dsts : List Nat} {it : DItem} {rest : List DItem} {reads : Tr Rd} {pend : Tr AObj} {s : St} :
    drawGo E n base dsts (it :: rest) reads pend s = match dstep E n base dsts it reads pend s with
      | none => none
      | some (.stop v s') => some (.panic v, s')
      | some (.go r p s') => drawGo E n base dsts rest r p s' := rfl

/-- A put that the item does not look at. -/
theorem light_put {O : Old} {base : Nat} {it : DItem} {T : List AV} {H : Heap} {d : Option Nat} {v : AV} (h : ∀ t, d = some t → t ∉ it.op.looks) :
    light O base it (put T d v) H = light O base it T H := by
  have h2 := ev_put (T := T) (v := v) h
  have hq : aQuiet O it.op.op (Opd.ev (put T d v)) = aQuiet O it.op.op (Opd.ev T) := funext fun H => aQuiet_congr h2
  simp only [light, want_put h, hq, aNew_congr h2]

theorem heavy_put {it : DItem} {T : List AV} {d : Option Nat} {v : AV} (h : ∀ t, d = some t → t ∉ it.op.looks) : heavy it (put T d v) = heavy it T := by
  simp only [heavy, want_put h]

/-- Another heap: what was read must be as it was. -/
theorem light_heap {O : Old} {base : Nat} {it : DItem} {T : List AV} {H H' : Heap} (hp : it.cls = .quiet ∨ it.cls = .sure → it.op.op.pure = true) {r : Option Rd × Option AObj × AV}
    (h : light O base it T H = some r) (hr : ∀ x, r.1 = some x → x.again H' = some x.was) : light O base it T H' = some r := by
  unfold light at *
  split at h
  · cases h
  · exact h
  · split at h
    · rename_i hc; rw [aQuiet_pure (hp (.inl hc)) O _ H' H]; exact h
    · rename_i hc; rw [aQuiet_pure (hp (.inr hc)) O _ H' H]; exact h
    · rename_i hc
      cases ha : aQuiet O it.op.op (Opd.ev T) H with
      | none => simp [ha] at h
      | some v =>
        simp only [ha, Option.map_some, Option.some.injEq] at h
        subst h
        have := hr _ rfl
        simp only at this
        rw [this]
        rfl
    · exact h
    · cases h

theorem doOp_T {E : Env} {o : COper} {s s' : St} (h : doOp E o s = some (.norm, s')) : ∃ v, s'.T = put s.T o.dst v := by
  unfold doOp at h
  split at h
  · cases h
  · simp only [Option.some.injEq, Prod.mk.injEq] at h; obtain ⟨_, rfl⟩ := h; exact ⟨_, rfl⟩
  · split at h
    · cases h
    · simp only [Option.some.injEq, Prod.mk.injEq] at h; obtain ⟨_, rfl⟩ := h; exact ⟨_, rfl⟩
    · simp only [Option.some.injEq, Prod.mk.injEq] at h; obtain ⟨_, rfl⟩ := h; exact ⟨_, rfl⟩
    · split at h <;> simp only [Option.some.injEq, Prod.mk.injEq, reduceCtorEq, false_and] at h; obtain ⟨_, rfl⟩ := h; exact ⟨_, rfl⟩
    · split at h <;> simp only [Option.some.injEq, Prod.mk.injEq, reduceCtorEq, false_and] at h; obtain ⟨_, rfl⟩ := h; exact ⟨_, rfl⟩
    · cases h
    · split at h <;> simp only [Option.some.injEq, Prod.mk.injEq, reduceCtorEq, false_and] at h
      · obtain ⟨_, rfl⟩ := h; exact ⟨_, rfl⟩
      · obtain ⟨_, rfl⟩ := h; exact ⟨_, rfl⟩
    · split at h <;> simp only [Option.some.injEq, Prod.mk.injEq, reduceCtorEq, false_and] at h
      obtain ⟨_, rfl⟩ := h; exact ⟨_, rfl⟩

theorem doOp_panicT {E : Env} {o : COper} {s s' : St} {v : AV} (h : doOp E o s = some (.panic v, s')) : s'.T = s.T := by
  unfold doOp at h
  split at h
  · cases h
  · cases h
  · split at h
    · cases h
    · cases h
    · cases h
    · split at h <;> simp only [Option.some.injEq, Prod.mk.injEq, reduceCtorEq, false_and] at h; obtain ⟨_, rfl⟩ := h; rfl
    · split at h <;> simp only [Option.some.injEq, Prod.mk.injEq, reduceCtorEq, false_and] at h; obtain ⟨_, rfl⟩ := h; rfl
    · simp only [Option.some.injEq, Prod.mk.injEq] at h; obtain ⟨_, rfl⟩ := h; rfl
    · split at h <;> simp only [Option.some.injEq, Prod.mk.injEq, reduceCtorEq, false_and] at h
    · split at h <;> simp only [Option.some.injEq, Prod.mk.injEq, reduceCtorEq, false_and] at h

theorem validN_set {reads : Tr Rd} {H : Heap} {k : Nat} {x : Rd} : ∀ (n : Nat), k < n → reads.get k = none → validN (reads.set k x) H n = true → validN reads H n = true ∧ x.again H = some x.was
  | 0, h, _, _ => by omega
  | n + 1, h, hn, hv => by
    simp only [validN, Tr.get_set, Bool.and_eq_true] at hv ⊢
    by_cases e : n = k
    · subst e
      simp only [if_true, decide_eq_true_eq] at hv
      refine ⟨⟨by simp [hn], ?_⟩, hv.1⟩
      have key : ∀ m, m ≤ n → validN (reads.set n x) H m = validN reads H m := by
        intro m
        induction m with
        | zero => intro _; rfl
        | succ m ih =>
          intro hm
          have : m ≠ n := by omega
          simp only [validN, Tr.get_set, this, if_false, ih (by omega)]
      rw [← key n (Nat.le_refl _)]
      exact hv.2
    · simp only [e, if_false] at hv
      have := validN_set n (by omega) hn hv.2
      exact ⟨⟨hv.1, this.1⟩, this.2⟩

theorem keepN_get {reads : Tr Rd} {sel : Nat → Bool} : ∀ (n k : Nat), (keepN reads sel n).get k = if k < n ∧ sel k = false then reads.get k else none
  | 0, k => by simp [keepN, Tr.get_nil]
  | n + 1, k => by
    simp only [keepN]
    by_cases e : k = n
    · subst e
      cases hs : sel k with
      | true => simp [keepN_get k k]
      | false =>
        cases hg : reads.get k with
        | none => simp [keepN_get k k]
        | some x => simp [Tr.get_set]
    · have h1 : (k < n + 1 ∧ sel k = false) ↔ (k < n ∧ sel k = false) := by
        constructor <;> rintro ⟨a, b⟩ <;> exact ⟨by omega, b⟩
      simp only [h1]
      cases hs : sel n with
      | true => simp [keepN_get n k]
      | false =>
        cases hg : reads.get n with
        | none => simp [keepN_get n k]
        | some x => simp [Tr.get_set, e, keepN_get n k]

end Go.Ab

namespace Go.Ab
open Go

theorem setO_get {α : Type} (t : Tr α) (k j : Nat) (x : Option α) (h : j ≠ k) : (setO t k x).get j = t.get j := by
  cases x with
  | none => rfl
  | some x => simp [setO, Tr.get_set, h]

theorem setO_comm {α : Type} (t : Tr α) {k j : Nat} (x y : Option α) (h : k ≠ j) : setO (setO t k x) j y = setO (setO t j y) k x := by
  cases x <;> cases y <;> first | rfl | exact Tr.set_comm _ _ _ h

theorem keepN_setO {p : Tr Rd} {sel : Nat → Bool} {k n : Nat} {o : Option Rd} (hs : sel k = false) (h : k < n) : keepN (setO p k o) sel n = setO (keepN p sel n) k o := by
  cases o with
  | none => rfl
  | some o => exact keepN_set hs n h

theorem dropN_setO {p : Tr AObj} {sel : Nat → Bool} {k n : Nat} {o : Option AObj} (hs : sel k = false) (h : k < n) : dropN (setO p k o) sel n = setO (dropN p sel n) k o := by
  cases o with
  | none => rfl
  | some o => exact dropN_set hs n h

/-- x, an item without effect, may be done behind y. -/
structure Free (n : Nat) (dsts : List Nat) (x y : DItem) : Prop where
  cls : x.cls ≠ .eff
  apart : Apart x.op y.op
  ne : x.idx ≠ y.idx
  anc : x.idx ∉ y.anc
  lt : x.idx < n
  pure : x.cls = .quiet ∨ x.cls = .sure → x.op.op.pure = true
  dst : ∀ t, x.op.dst = some t → t ∈ dsts

section
variable {E : Env} {n base : Nat} {dsts : List Nat} {x y : DItem} {r r1 r2 : Tr Rd} {p p1 p2 : Tr AObj} {s s1 s2 : St}

theorem dstep_light (hx : x.cls ≠ .eff) : dstep E n base dsts x r p s = (light E.O base x s.T s.H).map fun a => .go (setO r x.idx a.1) (setO p x.idx a.2.1) (s.put x.op.dst a.2.2) := by
  simp [dstep, heavy, hx]

theorem merge_skip (f : Free n dsts x y) (o : Option AObj) (H : Heap) : mergeN base (setO p x.idx o) (inAnc y) n H = mergeN base p (inAnc y) n H := by
  refine mergeN_congr n H fun i _ hi => setO_get _ _ _ _ ?_
  rintro rfl
  exact f.anc (by simpa [inAnc] using hi)

theorem doOp_skip (f : Free n dsts x y) (o : Option AObj) (v : AV) :
    doOp E y.op { s.put x.op.dst v with H := mergeN base (setO p x.idx o) (inAnc y) n (s.put x.op.dst v).H } =
      (doOp E y.op { s with H := mergeN base p (inAnc y) n s.H }).map fun q => (q.1, q.2.put x.op.dst v) := by
  rw [merge_skip f]
  exact doOp_put (s := { s with H := mergeN base p (inAnc y) n s.H }) f.apart.xy f.apart.ne

theorem swap_go (f : Free n dsts x y) (hn : r.get x.idx = none) (h1 : dstep E n base dsts x r p s = some (.go r1 p1 s1)) (h2 : dstep E n base dsts y r1 p1 s1 = some (.go r2 p2 s2)) :
    ∃ r3 p3 s3, dstep E n base dsts y r p s = some (.go r3 p3 s3) ∧ dstep E n base dsts x r3 p3 s3 = some (.go r2 p2 s2) := by
  have hs : inAnc y x.idx = false := by simpa [inAnc] using f.anc
  rw [dstep_light f.cls] at h1
  simp only [Option.map_eq_some_iff, D1.go.injEq] at h1
  obtain ⟨⟨ra, pa, v⟩, hl, rfl, rfl, rfl⟩ := h1
  simp only at h2
  unfold dstep at h2 ⊢
  have hh : heavy y (s.put x.op.dst v).T = heavy y s.T := heavy_put f.apart.xy
  rw [hh] at h2
  cases hy : heavy y s.T with
  | true =>
    simp only [hy, if_true] at h2 ⊢
    rw [doOp_skip f] at h2
    cases hd : doOp E y.op { s with H := mergeN base p (inAnc y) n s.H } with
    | none => simp [hd] at h2
    | some q =>
      obtain ⟨ex, q⟩ := q
      simp only [hd, Option.map_some] at h2
      cases ex with
      | norm =>
        simp only at h2 ⊢
        split at h2
        · rename_i hv
          simp only [Option.some.injEq, D1.go.injEq] at h2
          obtain ⟨rfl, rfl, rfl⟩ := h2
          rw [keepN_setO hs f.lt] at hv ⊢
          rw [dropN_setO hs f.lt]
          have hkn : (keepN r (inAnc y) n).get x.idx = none := by rw [keepN_get]; simp [hn]
          have hval : validN (keepN r (inAnc y) n) q.H n = true ∧ ∀ z, ra = some z → z.again q.H = some z.was := by
            cases ra with
            | none => exact ⟨hv, fun z hz => by cases hz⟩
            | some z =>
              have := validN_set n f.lt hkn hv
              exact ⟨this.1, fun z' hz => by cases hz; exact this.2⟩
          obtain ⟨u, hu⟩ := doOp_T hd
          refine ⟨_, _, q, by rw [if_pos hval.1], ?_⟩
          have hx2 : light E.O base x q.T q.H = some (ra, pa, v) := by
            rw [hu, light_put f.apart.yx]
            exact light_heap f.pure hl hval.2
          simp only [heavy, f.cls, decide_false, Bool.false_and, Bool.false_eq_true, if_false, hx2, Option.map_some]
        · cases h2
      | panic v => simp only at h2; split at h2 <;> cases h2
      | exit id => cases h2
      | ret => cases h2
  | false =>
    simp only [hy, Bool.false_eq_true, if_false] at h2 ⊢
    have e1 : light E.O base y (s.put x.op.dst v).T (s.put x.op.dst v).H = light E.O base y s.T s.H := light_put f.apart.xy
    rw [e1] at h2
    cases hly : light E.O base y s.T s.H with
    | none => simp [hly] at h2
    | some b =>
      obtain ⟨rb, pb, u⟩ := b
      simp only [hly, Option.map_some, Option.some.injEq, D1.go.injEq] at h2
      obtain ⟨rfl, rfl, rfl⟩ := h2
      refine ⟨_, _, _, rfl, ?_⟩
      have e2 : light E.O base x (s.put y.op.dst u).T (s.put y.op.dst u).H = light E.O base x s.T s.H := light_put f.apart.yx
      simp only [heavy, f.cls, decide_false, Bool.false_and, Bool.false_eq_true, if_false, e2, hl, Option.map_some, setO_comm _ _ _ f.ne.symm]
      have : (s.put y.op.dst u).put x.op.dst v = (s.put x.op.dst v).put y.op.dst u := by
        simp only [St.put]
        rw [put_put fun t ht hxt => f.apart.ne t hxt ht]
      rw [this]

theorem swap_stop {v : AV} (f : Free n dsts x y) (h1 : dstep E n base dsts x r p s = some (.go r1 p1 s1)) (h2 : dstep E n base dsts y r1 p1 s1 = some (.stop v s2)) :
    dstep E n base dsts y r p s = some (.stop v s2) := by
  rw [dstep_light f.cls] at h1
  simp only [Option.map_eq_some_iff, D1.go.injEq] at h1
  obtain ⟨⟨ra, pa, u⟩, hl, rfl, rfl, rfl⟩ := h1
  simp only at h2
  unfold dstep at h2 ⊢
  have hh : heavy y (s.put x.op.dst u).T = heavy y s.T := heavy_put f.apart.xy
  rw [hh] at h2
  cases hy : heavy y s.T with
  | true =>
    simp only [hy, if_true] at h2 ⊢
    rw [doOp_skip f] at h2
    cases hd : doOp E y.op { s with H := mergeN base p (inAnc y) n s.H } with
    | none => simp [hd] at h2
    | some q =>
      obtain ⟨ex, q⟩ := q
      simp only [hd, Option.map_some] at h2
      cases ex with
      | norm => simp only at h2; split at h2 <;> cases h2
      | panic v' =>
        simp only at h2 ⊢
        split at h2
        · rename_i hst
          simp only [Option.some.injEq, D1.stop.injEq] at h2
          obtain ⟨rfl, rfl⟩ := h2
          rw [if_pos hst]
          simp only [St.put, killT_put f.dst]
        · cases h2
      | exit id => cases h2
      | ret => cases h2
  | false =>
    simp only [hy, Bool.false_eq_true, if_false] at h2
    cases hly : light E.O base y (s.put x.op.dst u).T (s.put x.op.dst u).H <;> simp [hly] at h2

theorem dstep_reads {k : Nat} (hk : k ≠ x.idx) (hn : r.get k = none) (h : dstep E n base dsts x r p s = some (.go r1 p1 s1)) : r1.get k = none := by
  unfold dstep at h
  split at h
  · split at h
    · split at h
      · simp only [Option.some.injEq, D1.go.injEq] at h
        obtain ⟨rfl, _, _⟩ := h
        rw [keepN_get]; simp [hn]
      · cases h
    · split at h <;> cases h
    · cases h
  · simp only [Option.map_eq_some_iff, D1.go.injEq] at h
    obtain ⟨a, _, rfl, _, _⟩ := h
    rw [setO_get _ _ _ _ hk]; exact hn

end

/-- An item may be done ahead of others that have no effect and do not look at it. -/
theorem hoist {E : Env} {n base : Nat} {dsts : List Nat} {y : DItem} {b : List DItem} {res : Ex × St} : ∀ (a : List DItem) (r : Tr Rd) (p : Tr AObj) (s : St),
    (∀ x ∈ a, Free n dsts x y) → (∀ x ∈ a, r.get x.idx = none) → (a.map (·.idx)).Nodup →
    drawGo E n base dsts (a ++ y :: b) r p s = some res → drawGo E n base dsts (y :: (a ++ b)) r p s = some res
  | [], _, _, _, _, _, _, h => h
  | x :: a, r, p, s, hf, hr, hnd, h => by
    simp only [List.map_cons, List.nodup_cons] at hnd
    have fx := hf x (by simp)
    rw [List.cons_append, drawGo_cons] at h
    split at h
    · cases h
    · rename_i v s' hd
      rw [dstep_light fx.cls] at hd
      simp only [Option.map_eq_some_iff, reduceCtorEq, and_false, exists_false] at hd
    · rename_i r1 p1 s1 hd
      have h' := hoist a r1 p1 s1 (fun z hz => hf z (by simp [hz])) (fun z hz => dstep_reads (fun e => hnd.1 (by rw [← e]; exact List.mem_map.2 ⟨z, hz, rfl⟩)) (hr z (by simp [hz])) hd) hnd.2 h
      rw [drawGo_cons] at h'
      split at h'
      · cases h'
      · rename_i v s' hd2
        rw [drawGo_cons, swap_stop fx hd hd2]
        exact h'
      · rename_i r2 p2 s2 hd2
        obtain ⟨r3, p3, s3, h3, h4⟩ := swap_go fx (hr x (by simp)) hd hd2
        rw [drawGo_cons, h3]
        simp only
        rw [List.cons_append, drawGo_cons, h4]
        exact h'

end Go.Ab

namespace Go.Ab
open Go
section
variable {C : Ctx} {ρ : Rho} {w : World} {ev : Opd → AV} {e : Operand → Value}

/-- A new object, under whatever number. -/
def NewAt (C : Ctx) (ρ : Rho) (w : World) (o : AObj) (f : Nat → AV) (r : Result Next) : Prop :=
  ∃ X x cs n, r = .ok (.value x) { w with drawn := n, heap := w.heap.push X } ∧ o.ver = 0 ∧
    ∀ ρ' i, ρ.le ρ' → ρ' i 0 = some (w.heap.size, cs) → ORel C ρ' { w with drawn := n, heap := w.heap.push X } i o ∧ Rel ρ' (f i) x

theorem newRow_new (t : TypeId) {l : List AV} {cs : Array Value} (hrel : RelL ρ l cs.toList) (full : Bool) :
    (newRow t cs).run C.P w = .ok ⟨w.heap.size, 0, none⟩ { w with heap := w.heap.push (.cells cs t) } ∧
    ∀ ρ' i, ρ.le ρ' → ρ' i 0 = some (w.heap.size, 0, cs.size) → ORel C ρ' { w with heap := w.heap.push (.cells cs t) } i (.cells 0 l full) := by
  have hlen : l.length = cs.size := by simpa using hrel.length
  refine ⟨by simp [newRow], fun ρ' i hle h => ?_⟩
  refine .cells (e := t) (c := cs) (lo := 0) (hi := 0) h (by simp) (by omega) ?_ (by omega) (fun _ => ⟨rfl, hlen.symm⟩)
  have : (cs.toList.drop 0).take l.length = cs.toList := by rw [hlen]; simp [List.take_of_length_le]
  rw [this]
  exact hrel.mono hle

theorem new_alloc {o : Oper} {t : TypeId} {c : COp} {ob : AObj} {f : Nat → AV} (ho : o.op = .alloc t)
    (hc : (zeroL C.P t).map COp.alloc = some c) (hn : aNew c ev = some (ob, f)) : NewAt C ρ w ob f ((execOp e o).run C.P w) := by
  simp only [Option.map_eq_some_iff] at hc
  obtain ⟨l, hl, rfl⟩ := hc
  obtain ⟨z, hz, hrel⟩ := zeroL_some hl
  simp only [aNew, Option.some.injEq, Prod.mk.injEq] at hn
  obtain ⟨rfl, rfl⟩ := hn
  obtain ⟨h1, h2⟩ := newRow_new (C := C) (w := w) t (hrel ρ) true
  refine ⟨_, .pointer (some ⟨w.heap.size, 0, none⟩), _, w.drawn, ?_, rfl, fun ρ' i hle h => ⟨h2 ρ' i hle h, .ptr h 0 rfl⟩⟩
  simp [execOp, ho, Instr.alloc, run_zeroValue hz, newVar, h1]

theorem new_box (hev : OpdRel ρ ev e) {o : Oper} {t : TypeId} {x : Operand} {x' : Opd} {ob : AObj} {f : Nat → AV} (ho : o.op = .box t x)
    (hx : cOpd x = some x') (hn : aNew (.box x') ev = some (ob, f)) : NewAt C ρ w ob f ((execOp e o).run C.P w) := by
  by_cases hk : (ev x').known = true
  · simp only [aNew, hk, if_true, Option.some.injEq, Prod.mk.injEq] at hn
    obtain ⟨rfl, rfl⟩ := hn
    obtain ⟨h1, h2⟩ := newRow_new (C := C) (w := w) t ((hev _ _ hx).cells hk) true
    refine ⟨_, .pointer (some ⟨w.heap.size, 0, none⟩), _, w.drawn, ?_, rfl, fun ρ' i hle h => ⟨h2 ρ' i hle h, .ptr h 0 rfl⟩⟩
    simp [execOp, ho, Instr.box, newVar, h1]
  · simp [aNew, hk] at hn

theorem new_buildSlice (hev : OpdRel ρ ev e) {o : Oper} {t : TypeId} {len : Nat} {ps : Array (Nat × Operand)} {c : COp} {ob : AObj} {f : Nat → AV} (ho : o.op = .buildSlice t len ps)
    (hc : comp C.P o = some c) (hn : aNew c ev = some (ob, f)) : NewAt C ρ w ob f ((execOp e o).run C.P w) := by
  simp only [comp, ho] at hc
  have hmap : (ps.map fun (i, x) => (i, e x)).toList = ps.toList.map fun (i, x) => (i, e x) := by simp
  split at hc
  · rename_i el s hes
    obtain ⟨hu, hs⟩ := elemSz_some hes
    split at hc
    · rename_i z hz
      obtain ⟨zv, hz1, hz2⟩ := zeroL_some hz
      split at hc
      · rename_i hlen
        simp only [Option.map_eq_some_iff] at hc
        obtain ⟨qs, hq, rfl⟩ := hc
        have hzs : zv.cells.size = s := by have := (hz2 ρ).length; simp at this; omega
        simp only [aNew] at hn
        cases hf : fillL (List.replicate len z).flatten (qs.map fun (o, s, x) => (o, s, ev x)) with
        | none => simp [hf] at hn
        | some l =>
          simp only [hf, Option.map_some, Option.some.injEq, Prod.mk.injEq] at hn
          obtain ⟨rfl, rfl⟩ := hn
          have hz3 := replicate_flatten_rel (hz2 ρ) len
          rw [hzs] at hz3
          obtain ⟨c', h1, h2⟩ := fillL_sound (C := C) hev hq hf hz3
          obtain ⟨h4, h5⟩ := newRow_new (C := C) (w := w) el h2 true
          refine ⟨_, .slice (some ⟨w.heap.size, 0, none⟩) len len, _, w.drawn, ?_, rfl, fun ρ' i hle h => ⟨h5 ρ' i hle h, .slice h len len 0 rfl⟩⟩
          have hle : ¬ len * s > 2 ^ 24 := by omega
          by_cases h0 : len * s = 0
          · have hz0 : (Array.range (len * s)).map (fun i => (#[] : Array Value)[i % (#[] : Array Value).size]!) = (Array.range (len * s)).map (fun i => zv.cells[i % s]!) := by
              simp [h0]
            simp only [execOp, ho, Instr.buildSlice, Sem.run_bind, run_underlying hu, run_sizeOf hs, Result.andThen_ok, Sem.run_ite, if_neg hle, Sem.run_pure, hmap]
            rw [if_pos h0]
            simp only [Result.andThen_ok, hz0, h1, Sem.run_bind, h4, Sem.run_pure]
          · simp only [execOp, ho, Instr.buildSlice, Sem.run_bind, run_underlying hu, run_sizeOf hs, Result.andThen_ok, Sem.run_ite, if_neg hle, Sem.run_pure, hmap, if_neg h0,
              run_zeroValue hz1, hzs, h1, h4]
      · cases hc
    · cases hc
  · cases hc

theorem new_mkMap {o : Oper} {t : TypeId} {ob : AObj} {f : Nat → AV} (ho : o.op = .makeMap t none) (hn : aNew .mkMap ev = some (ob, f)) : NewAt C ρ w ob f ((execOp e o).run C.P w) := by
  simp only [aNew, Option.some.injEq, Prod.mk.injEq] at hn
  obtain ⟨rfl, rfl⟩ := hn
  refine ⟨.map #[] 0, .map (some w.heap.size), (0, 0), w.drawn, ?_, rfl, fun ρ' i hle h => ⟨.map (es' := #[]) h (by simp) .nil, .map h⟩⟩
  simp [execOp, ho, Instr.makeMap]

theorem new_mkSlice (hev : OpdRel ρ ev e) {o : Oper} {t el : TypeId} {l c : Operand} {l' c' : Opd} {s : Nat} {z : List AV} {i : TypeInfo} {ob : AObj} {f : Nat → AV} (ho : o.op = .makeSlice t l c)
    (hes : elemSz C.P t = some (el, s)) (hz : zeroL C.P el = some z) (hi : C.P.info? el = some i) (hzs : z.length = s) (hl : cOpd l = some l') (hc : cOpd c = some c')
    (hm : aNew (.mkSlice z i.bytes l' c') ev = some (ob, f)) : NewAt C ρ w ob f ((execOp e o).run C.P w) := by
  obtain ⟨hu, hs⟩ := elemSz_some hes
  obtain ⟨zv, hz1, hz2⟩ := zeroL_some hz
  simp only [aNew] at hm
  have h1 := hev _ _ hl
  have h2 := hev _ _ hc
  generalize hel : e l = vl at h1
  generalize hec : e c = vc at h2
  split at hm
  · rename_i k1 n1 k2 n2 e1 e2
    rw [e1] at h1; rw [e2] at h2
    cases h1; cases h2
    split at hm
    · rename_i hcond
      simp only [Option.some.injEq, Prod.mk.injEq] at hm
      obtain ⟨rfl, rfl⟩ := hm
      obtain ⟨hc1, hc2, hc3, hc4⟩ := hcond
      have hzs2 : zv.cells.size = s := by have := (hz2 ρ).length; simp at this; omega
      have hrel := replicate_flatten_rel (hz2 ρ) n2.toNat
      obtain ⟨h4, h5⟩ := newRow_new (C := C) (w := w) el hrel true
      refine ⟨_, .slice (some ⟨w.heap.size, 0, none⟩) n1.toNat n2.toNat, _, w.drawn, ?_, rfl, fun ρ' i hle h => ⟨h5 ρ' i hle h, .slice h _ _ 0 rfl⟩⟩
      have w1 : IntKind.i64.wrap n1 = n1 := by
        have hp : (2 : Int) ^ IntKind.i64.bits = 18446744073709551616 := by decide
        have hq : (2 : Int) ^ (IntKind.i64.bits - 1) = 9223372036854775808 := by decide
        unfold IntKind.wrap
        simp only [maxInt] at hc4
        rw [hp, hq]
        simp only [IntKind.signed, Bool.true_and, decide_eq_true_eq]
        rw [if_neg] <;> omega
      have w2 : IntKind.i64.wrap n2 = n2 := by
        have hp : (2 : Int) ^ IntKind.i64.bits = 18446744073709551616 := by decide
        have hq : (2 : Int) ^ (IntKind.i64.bits - 1) = 9223372036854775808 := by decide
        unfold IntKind.wrap
        simp only [maxInt] at hc4
        rw [hp, hq]
        simp only [IntKind.signed, Bool.true_and, decide_eq_true_eq]
        rw [if_neg] <;> omega
      have hneg' : (((decide (n2 < 0) || decide ((i.bytes : Int) * n2 > 2 ^ 48)) || decide (n1 < 0)) || decide (n1 > n2)) = false := by
        have : (i.bytes : Int) * n2 ≤ 2 ^ 47 := by rw [Int.mul_comm]; exact hc3
        simp; omega
      subst hzs2
      by_cases h0 : n2.toNat * zv.cells.size = 0
      · have hz0 : (Array.range (n2.toNat * zv.cells.size)).map (fun i => (#[] : Array Value)[i % (#[] : Array Value).size]!) = (Array.range (n2.toNat * zv.cells.size)).map (fun i => zv.cells[i % zv.cells.size]!) := by
          rw [h0]; simp
        simp only [execOp, ho, hel, hec, Instr.makeSlice, Sem.run_bind, run_underlying hu, Result.andThen_ok, asInt, asIntOf, Sem.run_pure, run_typeInfo hi, w1, w2, hneg', Bool.false_eq_true, if_false,
          run_askRoom, run_sizeOf hs, Sem.run_ite]
        rw [if_pos h0]
        simp only [Result.andThen_ok, hz0, h4, Sem.run_bind, Sem.run_pure]
      · simp only [execOp, ho, hel, hec, Instr.makeSlice, Sem.run_bind, run_underlying hu, Result.andThen_ok, asInt, asIntOf, Sem.run_pure, run_typeInfo hi, w1, w2, hneg', Bool.false_eq_true, if_false,
          run_askRoom, run_sizeOf hs, Sem.run_ite, if_neg h0, run_zeroValue hz1, h4]
    · cases hm
  · cases hm

theorem new_s2b (hev : OpdRel ρ ev e) {o : Oper} {s d el : TypeId} {x : Operand} {x' : Opd} {ob : AObj} {f : Nat → AV} (ho : o.op = .convert s d x)
    (hs : C.P.underlying s = some .string) (hd : C.P.underlying d = some (.slice el)) (hel : C.P.underlying el = some (.int .u8)) (hx : cOpd x = some x')
    (hn : aNew (.s2b x') ev = some (ob, f)) : NewAt C ρ w ob f ((execOp e o).run C.P w) := by
  simp only [aNew] at hn
  have h := hev _ _ hx
  generalize hex : e x = vx at h
  split at hn
  · rename_i l heq
    simp only [Option.some.injEq, Prod.mk.injEq] at hn
    obtain ⟨rfl, rfl⟩ := hn
    rw [heq] at h
    cases h with
    | str s2 _ h1 =>
      subst h1
      have hlen : s2.data.toList.length = s2.size := by simp
      let w1 : World := { w with drawn := w.drawn + 1 }
      let q : Question := .appendCap s2.size 0 el
      let cap := q.cut (w.tape w.drawn q)
      have hcap : s2.size ≤ cap := by
        show s2.size ≤ s2.size + _ % _; omega
      let cells : Array Value := (s2.data.map fun b => Value.int .u8 b.toNat) ++ Array.replicate (cap - s2.size) (.int .u8 0)
      have hcs : cells.size = cap := by simp [cells]; show s2.size + _ = _; omega
      let w2 : World := { w1 with heap := w1.heap.push (.cells cells el (0, 0)) }
      let w3 : World := { w1 with heap := w1.heap.push (.cells cells el (cap, cap + 1)) }
      have hrun : (execOp e o).run C.P w = .ok (.value (.slice (some ⟨w.heap.size, 0, none⟩) s2.size cap)) w3 := by
        have hch : (choose (.appendCap s2.size 0 el)).run C.P w = .ok cap w1 := by simp [Question.forced, cap, q, w1]
        have hmark : (markStringish (⟨w.heap.size, 0, none⟩ : Addr)).run C.P w2 = .ok () w3 := by
          have hsh : w2.shape? w.heap.size = some (el, cells.size) := by simp [World.shape?, w2, w1]
          simp only [markStringish, Sem.run_bind, run_shape, Result.andThen_ok, hsh, run_freeze]
          congr 1
          simp only [World.freeze, hcs]
          simp only [w3, w2, w1]
          rw [if_neg (by decide)]
          congr 1
          apply Array.ext'
          rw [Array.toList_modify]
          apply List.ext_getElem?
          intro j
          rw [List.getElem?_modify]
          by_cases hj : w.heap.size = j
          · subst hj; simp
          · simp only [hj, if_false, Array.getElem?_toList]
            simp [Array.getElem?_push, Ne.symm hj]
        simp only [execOp, ho, hex, convert, Sem.run_bind, run_underlying hs, run_underlying hd, run_underlying hel, Result.andThen_ok, Conv.stringToBytes, hch, newRow, run_newObj, Sem.run_pure]
        have : (markStringish (⟨w1.heap.size, 0, none⟩ : Addr)).run C.P w2 = .ok () w3 := hmark
        simp only [w2] at this
        simp only [cells] at this
        simp only [this, Result.andThen_ok, Sem.run_pure]
        rfl
      refine ⟨.cells cells el (cap, cap + 1), _, (0, cells.size), w.drawn + 1, hrun, rfl, fun ρ' i hle h => ⟨?_, ?_⟩⟩
      · refine .cells (c := cells) (e := el) (lo := cap) (hi := cap + 1) (base := 0) h (by simp) (by simp [hcs]; show s2.size ≤ cap; exact hcap) ?_ (.inr (.inl (by omega))) (by simp)
        have : (cells.toList.drop 0).take (s2.data.toList.map fun b => AV.int .u8 b.toNat).length = s2.data.toList.map fun b => .int .u8 b.toNat := by
          simp [cells]
        rw [this]
        exact rel_bytes _
      · rw [hlen]
        exact .slab h _ _ _ _ 0 (by simp) hcap (by simp [hcs])
  · cases hn

theorem sound_new (hev : OpdRel ρ ev e) {o : Oper} {c : COp} {ob : AObj} {f : Nat → AV} (hc : comp C.P o = some c) (hn : aNew c ev = some (ob, f)) :
    NewAt C ρ w ob f ((execOp e o).run C.P w) := by
  have hc0 := hc
  unfold comp at hc
  split at hc
  case h_4 => rename_i t ho; exact new_alloc ho hc hn
  case h_5 =>
    rename_i t x ho
    simp only [Option.map_eq_some_iff] at hc
    obtain ⟨x', hx, rfl⟩ := hc
    exact new_box hev ho hx hn
  case h_7 => rename_i t len ps ho; exact new_buildSlice hev ho hc0 hn
  all_goals try (rename_i t ho; simp only [Option.some.injEq] at hc; subst hc; exact new_mkMap ho hn)
  all_goals try (
    rename_i t l c' ho
    split at hc
    · rename_i el s l' c2 hes hl hc2
      split at hc
      · rename_i z i hz hi
        split at hc
        · rename_i hzs
          simp only [Option.some.injEq] at hc; subst hc
          exact new_mkSlice hev ho hes hz hi hzs hl hc2 hn
        · cases hc
      · cases hc
    · cases hc)
  all_goals try (
    rename_i s d x ho
    split at hc
    · rename_i k' k x' hs hd hx; simp only [Option.some.injEq] at hc; subst hc; simp [aNew] at hn; done
    · rename_i x' hs hd hx; simp only [Option.some.injEq] at hc; subst hc; simp [aNew] at hn; done
    · rename_i el x' hs hd hx
      split at hc
      · rename_i hel
        simp only [Option.some.injEq] at hc; subst hc
        exact new_s2b hev ho hs hd hel hx hn
      · cases hc
    · split at hc
      · split at hc
        · simp only [Option.some.injEq] at hc; subst hc; simp [aNew] at hn; done
        · cases hc
      · cases hc
    · split at hc
      · simp only [Option.some.injEq] at hc; subst hc; simp [aNew] at hn; done
      · cases hc
    · cases hc)
  all_goals exfalso
  all_goals clear hc0
  all_goals repeat' split at hc
  all_goals first
    | (cases hc; done)
    | (simp only [Option.some.injEq] at hc; subst hc; simp [aNew] at hn; done)
    | (simp only [Option.map_eq_some_iff] at hc; obtain ⟨_, _, rfl⟩ := hc; simp [aNew] at hn; done)

end
end Go.Ab

namespace Go.Ab
open Go

theorem mergeN_next {base : Nat} {p : Tr AObj} {sel : Nat → Bool} : ∀ (n : Nat) (H : Heap), (mergeN base p sel n H).next = H.next
  | 0, _ => rfl
  | n + 1, H => by
    simp only [mergeN]
    split
    · split
      · exact mergeN_next n H
      · exact mergeN_next n H
    · exact mergeN_next n H

theorem mergeN_get {base : Nat} {p : Tr AObj} {sel : Nat → Bool} : ∀ (n : Nat) (H : Heap) (i : Nat) (o : AObj), (mergeN base p sel n H).get i = some o ↔
    (∃ k, k < n ∧ i = base + k ∧ sel k = true ∧ p.get k = some o) ∨ ((∀ k, k < n → i = base + k → sel k = true → p.get k = none) ∧ H.get i = some o)
  | 0, H, i, o => by simp [mergeN]
  | n + 1, H, i, o => by
    have ih := mergeN_get (base := base) (p := p) (sel := sel) n H i o
    have lift : ∀ (hne : i = base + n → sel n = true → p.get n = none),
        ((∃ k, k < n ∧ i = base + k ∧ sel k = true ∧ p.get k = some o) ∨ ((∀ k, k < n → i = base + k → sel k = true → p.get k = none) ∧ H.get i = some o)) ↔
        ((∃ k, k < n + 1 ∧ i = base + k ∧ sel k = true ∧ p.get k = some o) ∨ ((∀ k, k < n + 1 → i = base + k → sel k = true → p.get k = none) ∧ H.get i = some o)) := by
      intro hne
      constructor
      · rintro (⟨k, h1, h2, h3, h4⟩ | ⟨h1, h2⟩)
        · exact .inl ⟨k, by omega, h2, h3, h4⟩
        · refine .inr ⟨fun k hk e hs => ?_, h2⟩
          by_cases e2 : k = n
          · subst e2; exact hne e hs
          · exact h1 k (by omega) e hs
      · rintro (⟨k, h1, h2, h3, h4⟩ | ⟨h1, h2⟩)
        · by_cases e2 : k = n
          · subst e2; rw [hne h2 h3] at h4; cases h4
          · exact .inl ⟨k, by omega, h2, h3, h4⟩
        · exact .inr ⟨fun k hk => h1 k (by omega), h2⟩
    simp only [mergeN]
    cases hs : sel n with
    | false =>
      simp only [Bool.false_eq_true, if_false]
      rw [ih]; exact lift (fun _ h => by rw [hs] at h; cases h)
    | true =>
      simp only [if_true]
      cases hg : p.get n with
      | none => simp only; rw [ih]; exact lift (fun _ _ => hg)
      | some q =>
        simp only [Heap.get_set]
        by_cases e : i = base + n
        · subst e
          simp only [if_true, Option.some.injEq]
          constructor
          · rintro rfl; exact .inl ⟨n, by omega, rfl, hs, hg⟩
          · rintro (⟨k, h1, h2, h3, h4⟩ | ⟨h1, h2⟩)
            · have : k = n := by omega
              subst this; rw [hg] at h4; exact Option.some.inj h4
            · have := h1 n (by omega) rfl hs; rw [hg] at this; cases this
        · simp only [e, if_false]
          rw [ih]; exact lift (fun h => absurd h e)

theorem dropN_get {p : Tr AObj} {sel : Nat → Bool} : ∀ (n k : Nat), (dropN p sel n).get k = if k < n ∧ sel k = false then p.get k else none
  | 0, k => by simp [dropN, Tr.get_nil]
  | n + 1, k => by
    simp only [dropN]
    by_cases e : k = n
    · subst e
      cases hs : sel k with
      | true => simp [dropN_get k k]
      | false =>
        cases hg : p.get k with
        | none => simp [dropN_get k k]
        | some x => simp [Tr.get_set]
    · have h1 : (k < n + 1 ∧ sel k = false) ↔ (k < n ∧ sel k = false) := by
        constructor <;> rintro ⟨a, b⟩ <;> exact ⟨by omega, b⟩
      simp only [h1]
      cases hs : sel n with
      | true => simp [dropN_get n k]
      | false =>
        cases hg : p.get n with
        | none => simp [dropN_get n k]
        | some x => simp [Tr.get_set, e, dropN_get n k]

section
variable {C : Ctx} {ρ ρ' : Rho} {F K F' K' H0 : Heap} {w w' : World}

/-- Fewer objects. -/
theorem HRel.sub (h : HRel C ρ F w) (hk : ∀ i o, K.get i = some o → F.get i = some o) (hn : F.next ≤ K.next) : HRel C ρ K w where
  size := h.size
  old := h.old
  obj := fun i o ho => h.obj i o (hk i o ho)
  lt := fun i o ho => Nat.lt_of_lt_of_le (h.lt i o (hk i o ho)) hn
  inj := fun i o j p b x y h1 h2 => h.inj i o j p b x y (hk _ _ h1) (hk _ _ h2)
  dom := fun i v b x hx => by have := h.dom i v b x hx; exact ⟨Nat.lt_of_lt_of_le this.1 hn, this.2⟩
  top := fun i o v x ho => h.top i o v x (hk _ _ ho)

theorem Step.sub (h : Step C ρ H0 w ρ' F' w') (hk : ∀ i o, K'.get i = some o → F'.get i = some o) (hn : F'.next ≤ K'.next) : Step C ρ H0 w ρ' K' w' where
  le := h.le
  rel := h.rel.sub hk hn
  frame := h.frame
  back := fun i o b x ho => h.back i o b x (hk _ _ ho)
  size := h.size
  next := Nat.le_trans h.next hn
  none := fun j hj e => by
    cases hg : K'.get j with
    | none => rfl
    | some o => have := h.none j hj e; rw [hk _ _ hg] at this; cases this
  tape := h.tape
  os := h.os
  out := h.out
  fresh := h.fresh

/-- What a step leaves alone stays. -/
theorem Step.extend (h : Step C ρ K w ρ' K' w') (hF : HRel C ρ F w) (hk : ∀ i o, K.get i = some o → F.get i = some o) (hn : F.next = K.next) (hn' : F'.next = K'.next)
    (hF' : ∀ i o, F'.get i = some o → K'.get i = some o ∨ (K.get i = Option.none ∧ F.get i = some o)) : Step C ρ F w ρ' F' w' := by
  have has : ∀ i o, F.get i = some o → ∃ b x, ρ i o.ver = some (b, x) := fun i o ho => (hF.obj i o ho).has
  have extra : ∀ i o b x, K.get i = Option.none → F.get i = some o → ρ' i o.ver = some (b, x) → ρ i o.ver = some (b, x) := by
    intro i o b x _ ho hx
    obtain ⟨b', x', hb⟩ := has i o ho
    have := h.le _ _ _ hb
    rw [hx] at this
    rw [hb]; exact this.symm
  constructor
  · exact h.le
  · constructor
    · exact h.rel.size
    · exact h.rel.old
    · intro i o ho
      rcases hF' i o ho with h1 | ⟨h1, h2⟩
      · exact h.rel.obj i o h1
      · refine (hF.obj i o h2).same h.le fun b x hb => h.frame b (hF.dom _ _ _ _ hb).2.2 ?_
        intro j q y hq hy
        have := hF.inj _ _ _ _ _ _ _ h2 (hk _ _ hq) hb hy
        subst this
        rw [h1] at hq; cases hq
    · intro i o ho
      rw [hn']
      rcases hF' i o ho with h1 | ⟨h1, h2⟩
      · exact h.rel.lt i o h1
      · have := hF.lt i o h2
        have := h.next
        omega
    · intro i o j q b x y hi hj hx hy
      rcases hF' i o hi with h1 | ⟨h1, h2⟩ <;> rcases hF' j q hj with h3 | ⟨h3, h4⟩
      · exact h.rel.inj _ _ _ _ _ _ _ h1 h3 hx hy
      · have hy' := extra _ _ _ _ h3 h4 hy
        obtain ⟨o', x', h5, h6⟩ := h.back i o b x h1 hx (hF.dom _ _ _ _ hy').2.2
        exact hF.inj _ _ _ _ _ _ _ (hk _ _ h5) h4 h6 hy'
      · have hx' := extra _ _ _ _ h1 h2 hx
        obtain ⟨o', x', h5, h6⟩ := h.back j q b y h3 hy (hF.dom _ _ _ _ hx').2.2
        exact hF.inj _ _ _ _ _ _ _ h2 (hk _ _ h5) hx' h6
      · exact hF.inj _ _ _ _ _ _ _ h2 h4 (extra _ _ _ _ h1 h2 hx) (extra _ _ _ _ h3 h4 hy)
    · intro i v b x hx
      rw [hn']; exact h.rel.dom _ _ _ _ hx
    · intro i o v x ho hx
      rcases hF' i o ho with h1 | ⟨h1, h2⟩
      · exact h.rel.top _ _ _ _ h1 hx
      · rcases h.fresh _ _ _ hx with h3 | h3 | ⟨q, h3, _⟩
        · exact hF.top _ _ _ _ h2 h3
        · have := hF.lt _ _ h2; omega
        · rw [h1] at h3; cases h3
  · intro b hb hnot
    exact h.frame b hb fun i o x ho => hnot i o x (hk _ _ ho)
  · intro i o b x ho hx hb
    rcases hF' i o ho with h1 | ⟨h1, h2⟩
    · obtain ⟨o', x', h3, h4⟩ := h.back _ _ _ _ h1 hx hb
      exact ⟨o', x', hk _ _ h3, h4⟩
    · exact ⟨o, x, h2, extra _ _ _ _ h1 h2 hx⟩
  · exact h.size
  · rw [hn, hn']; exact h.next
  · intro j hj e
    have hKj : K.get j = Option.none := by
      cases hg : K.get j with
      | none => rfl
      | some o => rw [hk _ _ hg] at e; cases e
    cases hg : F'.get j with
    | none => rfl
    | some o =>
      rcases hF' j o hg with h1 | ⟨h1, h2⟩
      · rw [h.none j (by omega) hKj] at h1; cases h1
      · rw [e] at h2; cases h2
  · exact h.tape
  · exact h.os
  · exact h.out
  · intro i v x hx
    rcases h.fresh i v x hx with h1 | h1 | ⟨o, h1, h2⟩
    · exact .inl h1
    · exact .inr (.inl (by omega))
    · exact .inr (.inr ⟨o, hk _ _ h1, h2⟩)

/-- A new object under a number that was kept for it. -/
theorem Step.kept {w0 : World} {ρ0 : Rho} {X : Obj} {o : AObj} {i : Nat} {cs : Nat × Nat} (h : Step C ρ0 H0 w0 ρ F w) (hlo : H0.next ≤ i) (hhi : i < F.next) (hfree : ∀ v, ρ i v = Option.none) (hv : o.ver = 0)
    (ho : ORel C (ρ.upd i 0 (w.heap.size, cs)) { w with heap := w.heap.push X } i o) (hn' : F'.next = F.next) (hF' : ∀ j q, F'.get j = some q → (j = i ∧ q = o) ∨ (j ≠ i ∧ F.get j = some q)) :
    Step C ρ0 H0 w0 (ρ.upd i 0 (w.heap.size, cs)) F' { w with heap := w.heap.push X } := by
  have hle := Rho.le_upd ρ i 0 (w.heap.size, cs) (hfree 0)
  have hput : HRel C (ρ.upd i 0 (w.heap.size, cs)) { next := F.next, m := F.m.set i o } { w with heap := w.heap.push X } := by
    refine put_rel (b' := w.heap.size) (x' := cs) (o' := o) h.rel (by rw [hv]; exact Rho.upd_same _ _ _ _) ?_ hle hhi (Nat.le_refl _) h.rel.size (by simp) ?_ (by simp) (.inl (Nat.le_refl _)) ?_ ho
    · intro j v hj; rw [hv] at hj; exact Rho.upd_ne _ _ _ _ hj
    · intro b hb _
      have : b ≠ w.heap.size := by omega
      simp [Array.getElem?_push, this]
    · intro v x hx; rw [hfree] at hx; cases hx
  have hget : ∀ j, Heap.get { next := F.next, m := F.m.set i o } j = if j = i then some o else F.get j := fun j => Tr.get_set _ _ _ _
  constructor
  · exact fun a b c hx => hle _ _ _ (h.le _ _ _ hx)
  · refine hput.sub ?_ (by simp [hn'])
    intro j q hq
    rw [hget]
    rcases hF' j q hq with ⟨rfl, rfl⟩ | ⟨h1, h2⟩
    · simp
    · simp [h1, h2]
  · intro b hb hnot
    rw [← h.frame b hb hnot]
    have : b ≠ w.heap.size := by have := h.size; omega
    simp [Array.getElem?_push, this]
  · intro j q b x hq hx hb
    rcases hF' j q hq with ⟨rfl, rfl⟩ | ⟨h1, h2⟩
    · rw [hv, Rho.upd_same] at hx
      simp only [Option.some.injEq, Prod.mk.injEq] at hx
      have := h.size
      omega
    · rw [Rho.upd_ne _ _ _ _ (fun e => h1 e.1)] at hx
      exact h.back _ _ _ _ h2 hx hb
  · have := h.size; simp; omega
  · rw [hn']; exact h.next
  · intro j hj e
    cases hg : F'.get j with
    | none => rfl
    | some q =>
      rcases hF' j q hg with ⟨rfl, rfl⟩ | ⟨h1, h2⟩
      · omega
      · rw [h.none j hj e] at h2; cases h2
  · exact h.tape
  · exact h.os
  · exact h.out
  · intro j v x hx
    by_cases e : j = i ∧ v = 0
    · exact .inr (.inl (by omega))
    · rw [Rho.upd_ne _ _ _ _ e] at hx
      exact h.fresh _ _ _ hx

end
end Go.Ab

namespace Go.Ab
open Go

structure ItemOk (P : Program) (ops : Array Oper) (n : Nat) (dsts : List Nat) (it : DItem) : Prop where
  ok : OpOk P ops it.idx it.op
  lt : it.idx < n
  pure : it.cls = .quiet ∨ it.cls = .sure → it.op.op.pure = true
  dst : ∀ t, it.op.dst = some t → t ∈ dsts

/-- Where a draw stands. -/
structure DInv (C : Ctx) (n base : Nat) (ρ0 : Rho) (H0 : Heap) (w0 : World) (items : List DItem) (r : Tr Rd) (p : Tr AObj) (b : Frame) (s : St) (T : Array Value) (D : List Deferred) (cs : List Frame)
    (w : World) (ρ : Rho) : Prop where
  reads : ∀ it ∈ items, r.get it.idx = none
  pfree : ∀ it ∈ items, p.get it.idx = none
  hfree : ∀ it ∈ items, s.H.get (base + it.idx) = none
  rfree : ∀ it ∈ items, ∀ v, ρ (base + it.idx) v = none
  pend : ∀ k q, k < n → p.get k = some q → s.H.get (base + k) = none
  next : base + n ≤ s.H.next
  T : RelL ρ s.T T.toList
  D : RelD ρ s.D D
  R : RRel ρ b cs s.R
  fn : (C.P.funcs[b.fn]?).isSome = true
  step : Step C ρ0 H0 w0 ρ (mergeN base p (fun _ => true) n s.H) w

theorem light_cases {E : Env} {base : Nat} {y : DItem} {s : St} {a : Option Rd × Option AObj × AV} (h : light E.O base y s.T s.H = some a) :
    (a.2.1 = none ∧ doOp E y.op s = some (.norm, s.put y.op.dst a.2.2)) ∨
    (∃ ob f, want s.T y.op.guard = some true ∧ aNew y.op.op (Opd.ev s.T) = some (ob, f) ∧ a = (none, some ob, f (base + y.idx))) := by
  unfold light at h
  split at h
  · cases h
  · rename_i hw
    simp only [Option.some.injEq] at h; subst h
    exact .inl ⟨rfl, by simp [doOp, hw, St.put]⟩
  · rename_i hw
    split at h
    · simp only [Option.map_eq_some_iff] at h
      obtain ⟨v, hv, rfl⟩ := h
      exact .inl ⟨rfl, by simp [doOp, hw, aop_of_quiet hv, St.put]⟩
    · simp only [Option.map_eq_some_iff] at h
      obtain ⟨v, hv, rfl⟩ := h
      exact .inl ⟨rfl, by simp [doOp, hw, aop_of_quiet hv, St.put]⟩
    · simp only [Option.map_eq_some_iff] at h
      obtain ⟨v, hv, rfl⟩ := h
      exact .inl ⟨rfl, by simp [doOp, hw, aop_of_quiet hv, St.put]⟩
    · simp only [Option.map_eq_some_iff] at h
      obtain ⟨⟨ob, f⟩, hv, rfl⟩ := h
      exact .inr ⟨ob, f, hw, hv, rfl⟩
    · cases h

section
variable {C : Ctx} {E : Env} {n base : Nat} {ρ0 : Rho} {H0 : Heap} {w0 : World} {dsts : List Nat} {items : List DItem} {y : DItem} {r r1 : Tr Rd} {p p1 : Tr AObj} {b : Frame} {s s1 : St} {T : Array Value}
  {D : List Deferred} {cs : List Frame} {w : World} {ρ : Rho} {ops : Array Oper} {k : List Item} {rest : List Nat}

theorem DInv.all_get (hi : DInv C n base ρ0 H0 w0 (y :: items) r p b s T D cs w ρ) {sel : Nat → Bool} {i : Nat} {o : AObj} (h : (mergeN base p sel n s.H).get i = some o) :
    (mergeN base p (fun _ => true) n s.H).get i = some o := by
  rw [mergeN_get] at h ⊢
  rcases h with ⟨k, h1, h2, h3, h4⟩ | ⟨h1, h2⟩
  · exact .inl ⟨k, h1, h2, rfl, h4⟩
  · refine .inr ⟨fun k hk e _ => ?_, h2⟩
    cases hp : p.get k with
    | none => rfl
    | some q => have := hi.pend k q hk hp; rw [← e, h2] at this; cases this

/-- An item with an effect. -/
theorem heavy_step (hE : EnvOk C E) (hi : DInv C n base ρ0 H0 w0 (y :: items) r p b s T D cs w ρ) (h0 : HRel C ρ0 H0 w0) (hok : OpOk C.P ops y.idx y.op) {sel : Nat → Bool} {ex : Ex}
    (hd : doOp E y.op { s with H := mergeN base p sel n s.H } = some (ex, s1)) (hlt : ∀ it ∈ items, it.idx < n) :
    ∃ ρ1 T1 D1 cs1 w1, SRel C ρ1 b s1 T1 D1 cs1 w1 ∧ Step C ρ0 H0 w0 ρ1 (mergeN base (dropN p sel n) (fun _ => true) n s1.H) w1 ∧ CsRel s.R s1.R cs cs1 ∧
      Arr C.P ρ1 (lone (mk b T D (.inRegion ops (y.idx :: rest) :: k)) cs w) b (.inRegion ops rest :: k) T1 D1 cs1 w1 ex ∧
      (∀ it ∈ items, s1.H.get (base + it.idx) = none) ∧ (∀ it ∈ items, ∀ v, ρ1 (base + it.idx) v = none) ∧ (∀ k q, k < n → (dropN p sel n).get k = some q → s1.H.get (base + k) = none) ∧ base + n ≤ s1.H.next := by
  obtain ⟨o, ho, hc, hg, hdst⟩ := hok.ok
  have hco : y.op = ⟨o.dst, y.op.op, y.op.guard⟩ := by rw [← hdst]
  rw [hco] at hd
  have hF := hi.step.rel
  have hK : HRel C ρ (mergeN base p sel n s.H) w := hF.sub (fun i o h => hi.all_get h) (by rw [mergeN_next, mergeN_next]; exact Nat.le_refl _)
  have hs : SRel C ρ b { s with H := mergeN base p sel n s.H } T D cs w := ⟨hi.T, hi.D, hi.R, hK, hi.fn⟩
  obtain ⟨ρ1, T1, D1, cs1, w1, hs1, hst1, hcs1, harr1⟩ := op_step (k := k) (rest := rest) hE hs ho hc hg hd
  simp only at hst1 hcs1
  have hnx : (mergeN base p sel n s.H).next = s.H.next := mergeN_next n _
  have hnext1 := hst1.next
  have hKnone : ∀ k, k < n → s.H.get (base + k) = none → (sel k = true → p.get k = none) → (mergeN base p sel n s.H).get (base + k) = none := by
    intro j hj h1 h2
    cases hg : (mergeN base p sel n s.H).get (base + j) with
    | none => rfl
    | some q =>
      rw [mergeN_get] at hg
      rcases hg with ⟨j', e1, e2, e3, e4⟩ | ⟨_, e2⟩
      · have : j' = j := by omega
        subst this; rw [h2 e3] at e4; cases e4
      · rw [h1] at e2; cases e2
  have hnone1 : ∀ k, k < n → s.H.get (base + k) = none → (sel k = true → p.get k = none) → s1.H.get (base + k) = none := by
    intro j hj h1 h2
    refine hst1.none _ ?_ (hKnone j hj h1 h2)
    have := hi.next; rw [hnx]; omega
  have hpend1 : ∀ k q, k < n → (dropN p sel n).get k = some q → s1.H.get (base + k) = none := by
    intro j q hj hq
    rw [dropN_get] at hq
    split at hq
    · rename_i hjs
      exact hnone1 j hj (hi.pend j q hj hq) (fun h => by rw [hjs.2] at h; cases h)
    · cases hq
  refine ⟨ρ1, T1, D1, cs1, w1, hs1, hi.step.trans h0 (hst1.extend hF (fun i o h => hi.all_get h) (by rw [mergeN_next, mergeN_next]) (mergeN_next n _) ?_), hcs1, harr1, ?_, ?_, hpend1, ?_⟩
  · intro i q hq
    rw [mergeN_get] at hq
    rcases hq with ⟨j, e1, e2, _, e4⟩ | ⟨_, e2⟩
    · rw [dropN_get] at e4
      split at e4
      · rename_i hjs
        refine .inr ⟨?_, ?_⟩
        · rw [e2]; exact hKnone j e1 (hi.pend j q e1 e4) (fun h => by rw [hjs.2] at h; cases h)
        · rw [mergeN_get]; exact .inl ⟨j, e1, e2, rfl, e4⟩
      · cases e4
    · exact .inl e2
  · intro it hit
    exact hnone1 _ (hlt it hit) (hi.hfree it (by simp [hit])) (fun _ => hi.pfree it (by simp [hit]))
  · intro it hit v
    cases hx : ρ1 (base + it.idx) v with
    | none => rfl
    | some x =>
      rcases hst1.fresh _ _ _ hx with h1 | h1 | ⟨q, h1, _⟩
      · rw [hi.rfree it (by simp [hit])] at h1; cases h1
      · have := hi.next; have := hlt it hit; rw [hnx] at h1; omega
      · rw [hKnone _ (hlt it hit) (hi.hfree it (by simp [hit])) (fun _ => hi.pfree it (by simp [hit]))] at h1; cases h1
  · have := hi.next; rw [hnx] at hnext1; omega

theorem DInv.own_get (hi : DInv C n base ρ0 H0 w0 (y :: items) r p b s T D cs w ρ) {i : Nat} {o : AObj} (h : s.H.get i = some o) : (mergeN base p (fun _ => true) n s.H).get i = some o := by
  rw [mergeN_get]
  refine .inr ⟨fun k hk e _ => ?_, h⟩
  cases hp : p.get k with
  | none => rfl
  | some q => have := hi.pend k q hk hp; rw [← e, h] at this; cases this

/-- An item without effect. -/
theorem light_step (hE : EnvOk C E) (hi : DInv C n base ρ0 H0 w0 (y :: items) r p b s T D cs w ρ) (h0 : HRel C ρ0 H0 w0) (hb0 : H0.next = base) (hok : OpOk C.P ops y.idx y.op) (hyn : y.idx < n)
    {a : Option Rd × Option AObj × AV} (hl : light E.O base y s.T s.H = some a) (hlt : ∀ it ∈ items, it.idx < n) (hne : ∀ it ∈ items, it.idx ≠ y.idx) :
    ∃ ρ1 T1 D1 cs1 w1, DInv C n base ρ0 H0 w0 items (setO r y.idx a.1) (setO p y.idx a.2.1) b (s.put y.op.dst a.2.2) T1 D1 cs1 w1 ρ1 ∧ CsRel s.R s.R cs cs1 ∧
      Arr C.P ρ1 (lone (mk b T D (.inRegion ops (y.idx :: rest) :: k)) cs w) b (.inRegion ops rest :: k) T1 D1 cs1 w1 .norm := by
  obtain ⟨o, ho, hc, hg, hdst⟩ := hok.ok
  have hco : y.op = ⟨o.dst, y.op.op, y.op.guard⟩ := by rw [← hdst]
  have hF := hi.step.rel
  have hK : HRel C ρ s.H w := hF.sub (fun i o h => hi.own_get h) (by rw [mergeN_next]; exact Nat.le_refl _)
  have hs : SRel C ρ b s T D cs w := ⟨hi.T, hi.D, hi.R, hK, hi.fn⟩
  rcases light_cases hl with ⟨hpa, hd⟩ | ⟨ob, f, hw, hn, rfl⟩
  · have hd' : doOp E ⟨o.dst, y.op.op, y.op.guard⟩ s = some (.norm, s.put y.op.dst a.2.2) := by rw [← hco]; exact hd
    obtain ⟨ρ1, T1, D1, cs1, w1, hs1, hst1, hcs1, harr1⟩ := op_step (k := k) (rest := rest) hE hs ho hc hg hd'
    refine ⟨ρ1, T1, D1, cs1, w1, ?_, hcs1, harr1⟩
    rw [hpa]
    refine ⟨?_, ?_, ?_, ?_, ?_, ?_, hs1.T, hs1.D, hs1.R, hi.fn, ?_⟩
    · intro it hit; rw [setO_get _ _ _ _ (hne it hit)]; exact hi.reads it (by simp [hit])
    · intro it hit; exact hi.pfree it (by simp [hit])
    · intro it hit; exact hi.hfree it (by simp [hit])
    · intro it hit v
      cases hx : ρ1 (base + it.idx) v with
      | none => rfl
      | some x =>
        rcases hst1.fresh _ _ _ hx with h1 | h1 | ⟨q, h1, _⟩
        · rw [hi.rfree it (by simp [hit])] at h1; cases h1
        · have := hi.next; have := hlt it hit; omega
        · rw [hi.hfree it (by simp [hit])] at h1; cases h1
    · intro k q hk hq; exact hi.pend k q hk hq
    · exact hi.next
    · refine hi.step.trans h0 (hst1.extend hF (fun i o h => hi.own_get h) (by rw [mergeN_next]) (mergeN_next n _) ?_)
      intro i q hq
      cases hsi : s.H.get i with
      | none => exact .inr ⟨rfl, hq⟩
      | some q' =>
        have := hi.own_get hsi
        rw [show setO p y.idx (none : Option AObj) = p from rfl] at hq
        have e : q' = q := Option.some.inj (this.symm.trans hq)
        rw [← e]; exact .inl hsi
  · obtain ⟨X, x, cells, nd, hrun, hver, hall⟩ := sound_new (C := C) (ρ := ρ) (w := w) (opdRel hi.T) hc hn
    have hfree : ∀ v, ρ (base + y.idx) v = none := hi.rfree y (by simp)
    have hle := Rho.le_upd ρ (base + y.idx) 0 (w.heap.size, cells) (hfree 0)
    obtain ⟨hob, hval⟩ := hall (ρ.upd (base + y.idx) 0 (w.heap.size, cells)) (base + y.idx) hle (Rho.upd_same _ _ _ _)
    have hyp := hi.pfree y (by simp)
    have hyh := hi.hfree y (by simp)
    have hnext := hi.next
    have hd : ∀ c, o.op ≠ .defer c := by
      intro c' hop
      have hcc := hc
      simp only [comp, hop] at hcc
      cases c' with
      | mk callee args ts =>
        cases callee with
        | value g =>
          simp only at hcc
          split at hcc
          · simp only [Option.some.injEq] at hcc
            rw [← hcc] at hn
            simp [aNew] at hn
          · cases hcc
        | invoke r m => simp at hcc
        | builtin b => simp at hcc
    have hfin : (mk b T D (.inRegion ops (y.idx :: rest) :: k)).finish x = mk b (putV T o.dst x) D (.inRegion ops rest :: k) := by
      rw [mk_finish, ho]; rfl
    refine ⟨ρ.upd (base + y.idx) 0 (w.heap.size, cells), putV T o.dst x, D, cs, { w with drawn := nd, heap := w.heap.push X }, ?_, CsRel.refl _ _, .one (step_lone_go ?_)⟩
    · have hset : ∀ j, (setO p y.idx (some ob)).get j = if j = y.idx then some ob else p.get j := fun j => Tr.get_set _ _ _ _
      refine ⟨?_, ?_, ?_, ?_, ?_, hi.next, ?_, hi.D.mono hle, hi.R.mono hle, hi.fn, ?_⟩
      · intro it hit; exact hi.reads it (by simp [hit])
      · intro it hit; rw [setO_get _ _ _ _ (hne it hit)]; exact hi.pfree it (by simp [hit])
      · intro it hit; exact hi.hfree it (by simp [hit])
      · intro it hit v
        have := hne it hit
        rw [Rho.upd_ne _ _ _ _ (by omega)]
        exact hi.rfree it (by simp [hit]) v
      · intro j q hj hq
        rw [hset] at hq
        by_cases e : j = y.idx
        · subst e; exact hyh
        · simp only [e, if_false] at hq; exact hi.pend j q hj hq
      · rw [hdst]; exact putRel (hi.T.mono hle) _ hval
      · refine (hi.step.trans h0 (Step.drawn hi.step.rel nd)).kept (o := ob) (by omega) ?_ hfree hver hob (by rw [mergeN_next, mergeN_next]; rfl) ?_
        · rw [mergeN_next]; omega
        · intro i q hq
          rw [mergeN_get] at hq
          rcases hq with ⟨j, e1, e2, _, e4⟩ | ⟨e1, e2⟩
          · rw [hset] at e4
            by_cases e : j = y.idx
            · subst e
              simp only [if_true, Option.some.injEq] at e4
              exact .inl ⟨e2, e4.symm⟩
            · simp only [e, if_false] at e4
              exact .inr ⟨by omega, by rw [mergeN_get]; exact .inl ⟨j, e1, e2, rfl, e4⟩⟩
          · have hiy : i ≠ base + y.idx := by
              intro e
              have := e1 y.idx hyn e rfl
              rw [hset] at this; simp at this
            refine .inr ⟨hiy, ?_⟩
            rw [mergeN_get]
            refine .inr ⟨fun j hj ej hs' => ?_, e2⟩
            have := e1 j hj ej hs'
            rw [hset] at this
            by_cases e : j = y.idx
            · subst e; exact hyp
            · simpa [e] using this
    · rw [stG_op ho (want_sound hi.T hg hw) (.inr hd), ← hfin]
      simp [stepG.apply, hrun]

end
end Go.Ab

namespace Go.Ab
open Go

/-- Two items, the first ahead of the second. -/
structure DPair (ops : Array Oper) (x y : DItem) : Prop where
  ne : x.idx ≠ y.idx
  eff : x.cls = .eff → x.idx ∈ y.anc
  apart : x.idx ∈ y.anc ∨ Apart x.op y.op
  edge : ∀ o, ops[x.idx]? = some o → ∀ e ∈ o.after.toList, Region.binds .any e = true → e.on ≠ y.idx

/-- A region that draws its order, and its items. -/
structure DrawOk (P : Program) (ops : Array Oper) (n : Nat) (items : List DItem) : Prop where
  follows : P.follows .mixedOrders = true
  size : ops.size = n
  len : items.length = n
  item : ∀ it ∈ items, ItemOk P ops n (dstsOf items) it
  pair : items.Pairwise (DPair ops)
  cover : ∀ i, i < n → ∃ it ∈ items, it.idx = i
  anc : ∀ it ∈ items, ∀ j ∈ it.anc, ∃ o, ops[it.idx]? = some o ∧ ∃ e ∈ o.after.toList, Region.binds .any e = true ∧ (e.on = j ∨ ∃ it' ∈ items, it'.idx = e.on ∧ j ∈ it'.anc)
  edges : ∀ it ∈ items, ∀ o, ops[it.idx]? = some o → ∀ e ∈ o.after.toList, Region.binds .any e = true → e.on < n ∧ e.on ≠ it.idx

def rdy (ops : Array Oper) (listed : Array Bool) : List Nat := (List.range ops.size).filter fun i =>
  !listed.getD i true && ((ops[i]?).map (·.after.all fun e => !Region.binds .any e || listed.getD e.on false)).getD false

theorem lin_acc (ops : Array Oper) : ∀ (fuel t : Nat) (listed : Array Bool) (acc : List Nat),
    Region.linearise.go .any ops fuel t listed acc = acc.reverse ++ Region.linearise.go .any ops fuel t listed [] := by
  intro fuel
  induction fuel with
  | zero => intro t listed acc; simp [Region.linearise.go]
  | succ fuel ih =>
    intro t listed acc
    simp only [Region.linearise.go]
    split
    · rename_i i _
      rw [ih _ _ (i :: acc), ih _ _ [i]]
      simp
    · simp

theorem lin_succ (ops : Array Oper) (fuel t : Nat) (listed : Array Bool) (hne : rdy ops listed ≠ []) :
    ∃ i t', i ∈ rdy ops listed ∧ Region.linearise.go .any ops (fuel + 1) t listed [] = i :: Region.linearise.go .any ops fuel t' (listed.setIfInBounds i true) [] := by
  have hunf : Region.linearise.go .any ops (fuel + 1) t listed [] = match (rdy ops listed)[t % (rdy ops listed).length]? with
      | some i => Region.linearise.go .any ops fuel (t / (rdy ops listed).length) (listed.setIfInBounds i true) [i]
      | none => [] := rfl
  rw [hunf]
  have hlen : 0 < (rdy ops listed).length := List.length_pos_iff.2 hne
  have hlt : t % (rdy ops listed).length < (rdy ops listed).length := Nat.mod_lt _ hlen
  rw [List.getElem?_eq_getElem hlt]
  refine ⟨(rdy ops listed)[t % (rdy ops listed).length], t / (rdy ops listed).length, List.getElem_mem hlt, ?_⟩
  simp only
  rw [lin_acc]
  rfl

theorem rdy_mem {ops : Array Oper} {listed : Array Bool} {i : Nat} : i ∈ rdy ops listed ↔ i < ops.size ∧ listed.getD i true = false ∧ ∃ o, ops[i]? = some o ∧ ∀ e ∈ o.after.toList, Region.binds .any e = true → listed.getD e.on false = true := by
  simp only [rdy, List.mem_filter, List.mem_range, Bool.and_eq_true, Bool.not_eq_true']
  constructor
  · rintro ⟨h1, h2, h3⟩
    refine ⟨h1, h2, ?_⟩
    rw [Array.getElem?_eq_getElem h1] at h3 ⊢
    refine ⟨_, rfl, fun e he hb => ?_⟩
    simp only [Option.map_some, Option.getD_some, Array.all_eq_true'] at h3
    have := h3 e (by simpa using he)
    simpa [hb] using this
  · rintro ⟨h1, h2, o, h3, h4⟩
    refine ⟨h1, h2, ?_⟩
    rw [h3]
    simp only [Option.map_some, Option.getD_some, Array.all_eq_true']
    intro e he
    have := h4 e (by simpa using he)
    cases hb : Region.binds .any e with
    | false => rfl
    | true => simpa [hb] using this hb

section
variable {C : Ctx} {E : Env} {n base : Nat} {ρ0 : Rho} {H0 : Heap} {w0 : World} {ops : Array Oper} {I : List DItem}

theorem draw_steps (hE : EnvOk C E) (hd : DrawOk C.P ops n I) (h0 : HRel C ρ0 H0 w0) (hb0 : H0.next = base) : ∀ (fuel : Nat) (items : List DItem) (listed : Array Bool) (t : Nat) (r : Tr Rd) (p : Tr AObj)
    (b : Frame) (k : List Item) (cs : List Frame) (s s' : St) (T : Array Value) (D : List Deferred) (w : World) (ρ : Rho) (ex : Ex),
    items.length = fuel → items.Sublist I → listed.size = n → (∀ it ∈ I, it ∉ items → listed.getD it.idx false = true) → (∀ it ∈ items, listed.getD it.idx true = false) →
    (∀ it ∈ I, listed.getD it.idx false = true → ∀ j ∈ it.anc, listed.getD j false = true) →
    DInv C n base ρ0 H0 w0 items r p b s T D cs w ρ → drawGo E n base (dstsOf I) items r p s = some (ex, s') →
    ∃ ρ' T' D' cs' w', SRel C ρ' b s' T' D' cs' w' ∧ Step C ρ0 H0 w0 ρ' s'.H w' ∧ CsRel s.R s'.R cs cs' ∧
      Arr C.P ρ' (lone (mk b T D (.inRegion ops (Region.linearise.go .any ops fuel t listed []) :: k)) cs w) b k T' D' cs' w' ex := by
  intro fuel
  induction fuel with
  | zero =>
    intro items listed t r p b k cs s s' T D w ρ ex hlen hsub hsz hdone htodo hanc hi h
    have : items = [] := List.length_eq_zero_iff.1 hlen
    subst this
    simp only [drawGo, Option.some.injEq, Prod.mk.injEq] at h
    obtain ⟨rfl, rfl⟩ := h
    exact ⟨ρ, T, D, cs, w, ⟨hi.T, hi.D, hi.R, hi.step.rel, hi.fn⟩, hi.step, CsRel.refl _ _, .one st_regionEnd⟩
  | succ fuel ih =>
    intro items listed t r p b k cs s s' T D w ρ ex hlen hsub hsz hdone htodo hanc hi h
    have hpw : items.Pairwise (DPair ops) := hd.pair.sublist hsub
    have hmemI : ∀ it ∈ items, it ∈ I := fun it hit => hsub.subset hit
    have hlt : ∀ it ∈ I, it.idx < n := fun it hit => (hd.item it hit).lt
    -- the two ways to ask whether a place is listed
    have hgetD : ∀ i, i < n → listed.getD i true = listed.getD i false := by
      intro i hi
      have : i < listed.size := by omega
      simp [Array.getD, this]
    -- something is ready
    have hne : rdy ops listed ≠ [] := by
      cases items with
      | nil => cases hlen
      | cons x xs =>
        have hxI := hmemI x (by simp)
        intro hemp
        have : x.idx ∈ rdy ops listed := by
          rw [rdy_mem]
          refine ⟨by rw [hd.size]; exact hlt x hxI, htodo x (by simp), ?_⟩
          obtain ⟨o, ho, _⟩ := (hd.item x hxI).ok.ok
          refine ⟨o, ho, fun e he hb => ?_⟩
          obtain ⟨e1, e2⟩ := hd.edges x hxI o ho e he hb
          obtain ⟨it', h1, h2⟩ := hd.cover e.on e1
          rw [← h2]
          refine hdone it' h1 fun hmem => ?_
          rcases List.mem_cons.1 hmem with rfl | hm
          · exact e2 h2.symm
          · exact (List.rel_of_pairwise_cons hpw hm).edge o ho e he hb h2.symm
        rw [hemp] at this; cases this
    obtain ⟨i, t', hirdy, hlin⟩ := lin_succ ops fuel t listed hne
    rw [hlin]
    rw [rdy_mem] at hirdy
    obtain ⟨hilt, hil, oi, hoi, hedges⟩ := hirdy
    rw [hd.size] at hilt
    -- the item that it is
    obtain ⟨y, hyI, rfl⟩ := hd.cover i hilt
    have hyitems : y ∈ items := by
      refine Classical.byContradiction fun hn => ?_
      have := hdone y hyI hn
      rw [hgetD _ hilt, this] at hil; cases hil
    have hyanc : ∀ j ∈ y.anc, listed.getD j false = true := by
      intro j hj
      obtain ⟨o, ho, e, he, hb, hor⟩ := hd.anc y hyI j hj
      rw [hoi] at ho
      obtain rfl := Option.some.inj ho
      have hon := hedges e he hb
      rcases hor with rfl | ⟨it', h1, h2, h3⟩
      · exact hon
      · exact hanc it' h1 (by rw [h2]; exact hon) j h3
    obtain ⟨a, c, rfl⟩ := List.append_of_mem hyitems
    have hpa := List.pairwise_append.1 hpw
    have hnd : ((a ++ y :: c).map (·.idx)).Nodup := List.pairwise_map.2 (hpw.imp fun h => h.ne)
    have hne_y : ∀ it ∈ a ++ c, it.idx ≠ y.idx := by
      intro it hit e
      rcases List.mem_append.1 hit with hm | hm
      · exact (hpa.2.2 it hm y (by simp)).ne e
      · exact (List.rel_of_pairwise_cons hpa.2.1 hm).ne e.symm
    have hsubac : (a ++ c).Sublist I := List.Sublist.trans (List.Sublist.append (List.Sublist.refl a) (List.sublist_cons_self y c)) hsub
    have hin : ∀ it ∈ a ++ c, it ∈ a ++ y :: c := by
      intro it hit
      rcases List.mem_append.1 hit with hm | hm <;> simp [hm]
    have hh := hoist (n := n) (base := base) (dsts := dstsOf I) (E := E) (y := y) (b := c) (res := (ex, s')) a r p s (by
        intro x hx
        have hpr := hpa.2.2 x hx y (by simp)
        have hxm : x ∈ a ++ y :: c := by simp [hx]
        have hxn : x.idx ∉ y.anc := by
          intro hxa
          have h1 := hyanc _ hxa
          have h2 := htodo x hxm
          rw [hgetD _ (hlt x (hmemI x hxm)), h1] at h2; cases h2
        exact ⟨fun e => hxn (hpr.eff e), hpr.apart.resolve_left hxn, hpr.ne, hxn, hlt x (hmemI x hxm), (hd.item x (hmemI x hxm)).pure, (hd.item x (hmemI x hxm)).dst⟩)
      (fun x hx => hi.reads x (by simp [hx])) (by
        rw [List.map_append] at hnd
        exact (List.nodup_append.1 hnd).1) h
    have hmem' : ∀ it, it ∈ y :: (a ++ c) → it ∈ a ++ y :: c := by
      intro it hit
      rcases List.mem_cons.1 hit with rfl | hm
      · simp
      · exact hin it hm
    have hi' : DInv C n base ρ0 H0 w0 (y :: (a ++ c)) r p b s T D cs w ρ :=
      ⟨fun it hit => hi.reads it (hmem' it hit), fun it hit => hi.pfree it (hmem' it hit), fun it hit => hi.hfree it (hmem' it hit), fun it hit => hi.rfree it (hmem' it hit), hi.pend, hi.next, hi.T, hi.D, hi.R, hi.fn, hi.step⟩
    have hltac : ∀ it ∈ a ++ c, it.idx < n := fun it hit => hlt it (hsubac.subset hit)
    have hok := (hd.item y hyI).ok
    -- what is listed then
    have hset : ∀ j d, j < n → (listed.setIfInBounds y.idx true).getD j d = if j = y.idx then true else listed.getD j d := by
      intro j d hj
      have h1 : j < listed.size := by omega
      by_cases e : j = y.idx
      · subst e; simp [Array.getD, h1]
      · have : y.idx ≠ j := fun h => e h.symm
        simp [Array.getD, h1, e, Array.getElem_setIfInBounds, this]
    have hsz' : (listed.setIfInBounds y.idx true).size = n := by simpa using hsz
    have hmono : ∀ j, listed.getD j false = true → (listed.setIfInBounds y.idx true).getD j false = true := by
      intro j hj
      have hjn : j < n := by
        refine Classical.byContradiction fun hn => ?_
        have : ¬ j < listed.size := by omega
        simp [Array.getD, this] at hj
      rw [hset j false hjn]; split
      · rfl
      · exact hj
    have hdone' : ∀ it ∈ I, it ∉ a ++ c → (listed.setIfInBounds y.idx true).getD it.idx false = true := by
      intro it hit hn
      rw [hset _ _ (hlt it hit)]
      split
      · rfl
      · rename_i hne
        refine hdone it hit fun hm => hn ?_
        rcases List.mem_append.1 hm with hm | hm
        · simp [hm]
        · rcases List.mem_cons.1 hm with rfl | hm
          · exact absurd rfl hne
          · simp [hm]
    have htodo' : ∀ it ∈ a ++ c, (listed.setIfInBounds y.idx true).getD it.idx true = false := by
      intro it hit
      rw [hset _ _ (hltac it hit), if_neg (hne_y it hit)]
      exact htodo it (hin it hit)
    have hanc' : ∀ it ∈ I, (listed.setIfInBounds y.idx true).getD it.idx false = true → ∀ j ∈ it.anc, (listed.setIfInBounds y.idx true).getD j false = true := by
      intro it hit hl j hj
      rw [hset _ _ (hlt it hit)] at hl
      split at hl
      · rename_i e
        -- it is y itself
        have : it = y := by
          refine Classical.byContradiction fun hne => ?_
          have hnd2 : (I.map (·.idx)).Nodup := List.pairwise_map.2 (hd.pair.imp fun h => h.ne)
          obtain ⟨u, v, huv⟩ := List.append_of_mem hyI
          rw [huv] at hit
          have hp2 := hd.pair
          rw [huv] at hp2
          have hp3 := List.pairwise_append.1 hp2
          rcases List.mem_append.1 hit with hm | hm
          · exact (hp3.2.2 it hm y (by simp)).ne e
          · rcases List.mem_cons.1 hm with rfl | hm
            · exact hne rfl
            · exact (List.rel_of_pairwise_cons hp3.2.1 hm).ne e.symm
        subst this
        exact hmono j (hyanc j hj)
      · exact hmono j (hanc it hit hl j hj)
    have hlen' : (a ++ c).length = fuel := by simp at hlen ⊢; omega
    rw [drawGo_cons] at hh
    unfold dstep at hh
    cases hhv : heavy y s.T with
    | true =>
      simp only [hhv, if_true] at hh
      cases hdo : doOp E y.op { s with H := mergeN base p (inAnc y) n s.H } with
      | none => simp [hdo] at hh
      | some q =>
        obtain ⟨ex1, s1⟩ := q
        obtain ⟨ρ1, T1, D1, cs1, w1, hs1, hst1, hcs1, harr1, hhf, hrf, hpd, hnx⟩ :=
          heavy_step (k := k) (rest := Region.linearise.go .any ops fuel t' (listed.setIfInBounds y.idx true) []) hE hi' h0 hok hdo hltac
        simp only [hdo] at hh
        cases ex1 with
        | norm =>
          simp only at hh
          cases hv : validN (keepN r (inAnc y) n) s1.H n with
          | false => simp [hv] at hh
          | true =>
            simp only [hv, if_true] at hh
            obtain ⟨ρ2, T2, D2, cs2, w2, h1, h2, h3, h4⟩ := ih (a ++ c) (listed.setIfInBounds y.idx true) t' _ _ b k cs1 s1 s' T1 D1 w1 ρ1 ex hlen' hsubac hsz' hdone' htodo' hanc'
              ⟨fun it hit => by rw [keepN_get]; split <;> first | rfl | exact hi'.reads it (by simp only [List.mem_cons]; exact .inr hit),
               fun it hit => by rw [dropN_get]; split <;> first | rfl | exact hi'.pfree it (by simp only [List.mem_cons]; exact .inr hit),
               hhf, hrf, hpd, hnx, hs1.T, hs1.D, hs1.R, hs1.fn, hst1⟩ hh
            exact ⟨ρ2, T2, D2, cs2, w2, h1, h2, hcs1.trans h3, Arr.of_steps harr1 h4⟩
        | panic v =>
          simp only at hh
          cases hst : y.stops with
          | false => simp [hst] at hh
          | true =>
            simp only [hst, if_true, Option.some.injEq, Prod.mk.injEq] at hh
            obtain ⟨rfl, rfl⟩ := hh
            refine ⟨ρ1, T1, D1, cs1, w1, ⟨killT_rel _ hs1.T, hs1.D, hs1.R, hs1.H, hs1.fn⟩, hst1.sub (fun i o ho => ?_) (by rw [mergeN_next]; exact Nat.le_refl _), hcs1, Arr.pass (x := .inRegion ops _) (fun _ => rfl) (by simp) harr1⟩
            rw [mergeN_get]
            refine .inr ⟨fun j hj e _ => ?_, ho⟩
            cases hp : (dropN p (inAnc y) n).get j with
            | none => rfl
            | some q => have := hpd j q hj hp; rw [← e] at this; rw [show s1.H.get i = some o from ho] at this; cases this
        | exit id => cases hh
        | ret => cases hh
    | false =>
      simp only [hhv, Bool.false_eq_true, if_false] at hh
      cases hl : light E.O base y s.T s.H with
      | none => simp [hl] at hh
      | some q =>
        simp only [hl, Option.map_some] at hh
        obtain ⟨ρ1, T1, D1, cs1, w1, hinv1, hcs1, harr1⟩ :=
          light_step (k := k) (rest := Region.linearise.go .any ops fuel t' (listed.setIfInBounds y.idx true) []) hE hi' h0 hb0 hok hilt hl hltac hne_y
        obtain ⟨ρ2, T2, D2, cs2, w2, h1, h2, h3, h4⟩ := ih (a ++ c) (listed.setIfInBounds y.idx true) t' _ _ b k cs1 _ s' T1 D1 w1 ρ1 ex hlen' hsubac hsz' hdone' htodo' hanc' hinv1 hh
        exact ⟨ρ2, T2, D2, cs2, w2, h1, h2, hcs1.trans h3, Arr.of_steps harr1 h4⟩

theorem draws_sound (hE : EnvOk C E) {id : Nat} {items : List DItem} (hd : DrawOk C.P ops n items) : SoundB C (doDraws E n items) (.region id ops true) := by
  intro b k cs s s' T D w ρ ex hs h
  unfold doDraws at h
  have hget : ∀ i, Heap.get { s.H with next := s.H.next + n } i = s.H.get i := fun _ => rfl
  have hst0 : Step C ρ s.H w ρ { s.H with next := s.H.next + n } { w with drawn := w.drawn + 1 } := by
    refine (Step.drawn hs.H _).sub (fun i o h => h) (by simp)
  have hm0 : mergeN s.H.next (.nil : Tr AObj) (fun _ => true) n { s.H with next := s.H.next + n } = { s.H with next := s.H.next + n } := by
    have : ∀ m, mergeN s.H.next (.nil : Tr AObj) (fun _ => true) m { s.H with next := s.H.next + n } = { s.H with next := s.H.next + n } := by
      intro m
      induction m with
      | zero => rfl
      | succ m ih => simp [mergeN, ih, Tr.get_nil]
    exact this n
  have hrep : ∀ i d, i < n → (Array.replicate n false).getD i d = false := by intro i d hi; simp [Array.getD, hi]
  have hrepf : ∀ i, (Array.replicate n false).getD i false = false := by
    intro i
    by_cases hi : i < n
    · simp [Array.getD, hi]
    · simp [Array.getD, hi]
  obtain ⟨ρ', T', D', cs', w', h1, h2, h3, h4⟩ := draw_steps hE hd hs.H rfl n items (Array.replicate n false) (w.tape w.drawn (.order b.fn id)) .nil .nil b k cs { s with H := { s.H with next := s.H.next + n } } s' T D
    { w with drawn := w.drawn + 1 } ρ ex hd.len (List.Sublist.refl _) (by simp) (fun it _ hn => absurd ‹it ∈ items› hn) (fun it hit => hrep _ _ (hd.item it hit).lt) (fun it _ hl => by rw [hrepf] at hl; cases hl)
    ⟨fun _ _ => rfl, fun _ _ => rfl, fun it hit => by
        cases hg : s.H.get (s.H.next + it.idx) with
        | none => exact hg
        | some o => have := hs.H.lt _ _ hg; omega,
      fun it hit v => by
        cases hg : ρ (s.H.next + it.idx) v with
        | none => rfl
        | some x => have := (hs.H.dom _ _ x.1 x.2 hg).1; omega,
      fun k q _ hq => by simp [Tr.get_nil] at hq, Nat.le_refl _, hs.T, hs.D, hs.R, hs.fn, by rw [hm0]; exact hst0⟩ h
  refine ⟨ρ', T', D', cs', w', h1, h2, h3, Arr.of_steps (.one st_draw) ?_⟩
  have : Region.schedule (C.P.follows .mixedOrders) ops (w.tape w.drawn (.order b.fn id)) = Region.linearise.go .any ops n (w.tape w.drawn (.order b.fn id)) (Array.replicate n false) [] := by
    simp [Region.schedule, hd.follows, Region.linearise, hd.size]
  rw [this]
  exact h4

end
end Go.Ab

namespace Go.Ab
open Go

/-- What may be asked of a run. -/
inductive Q where
  | call (f : Nat) (args : List AV) (R : RS) (H : Heap)
  | loop (c : CCode) (s : St)
  | code (c : CCode) (s : St)

def Q.A : Q → Type
  | .call .. => AEnd × RS × Heap
  | .loop .. => Ex × St
  | .code .. => Ex × St

abbrev Tb := (q : Q) → Option q.A

def Env.of (O : Old) (d : Nat → Bool) (x : Tb) : Env := ⟨O, d, fun f a R H => x (.call f a R H), fun c s => x (.loop c s), fun c s => x (.code c s)⟩

/-- A program: old memory; what is known of calls beforehand; functions. -/
structure Prog where
  O : Old
  defers : Nat → Bool
  known : CallF
  tab : Nat → Option CFunc

def Prog.F (p : Prog) (x : Tb) : Tb
  | .call f args R H => match p.known f args R H with
    | some r => some r
    | none => match p.tab f with
      | some cf => evalF (Env.of p.O p.defers x) cf args R H
      | none => none
  | .loop c s => match evalC (Env.of p.O p.defers x) c s with
    | some (.norm, s') => x (.loop c s')
    | r => r
  | .code c s => evalC (Env.of p.O p.defers x) c s

/-- Less is known. -/
def Tb.le (x y : Tb) : Prop := ∀ q r, x q = some r → y q = some r

theorem of_le {O : Old} {d : Nat → Bool} {x y : Tb} (h : x.le y) : (Env.of O d x).le (Env.of O d y) :=
  ⟨rfl, rfl, fun f a R H r hr => h (.call f a R H) r hr, fun c s r hr => h (.loop c s) r hr, fun c s r hr => h (.code c s) r hr⟩

theorem Prog.mono (p : Prog) {x y : Tb} (h : x.le y) : (p.F x).le (p.F y) := by
  intro q r hr
  have hle := of_le (O := p.O) (d := p.defers) h
  cases q with
  | call f args R H =>
    simp only [Prog.F] at hr ⊢
    split at hr
    · exact hr
    · split at hr
      · exact evalF_mono hle hr
      · cases hr
  | loop c s =>
    simp only [Prog.F] at hr ⊢
    cases hd : evalC (Env.of p.O p.defers x) c s with
    | none => rw [hd] at hr; cases hr
    | some q2 =>
      rw [hd] at hr
      rw [evalC_mono hle hd]
      obtain ⟨ex, s'⟩ := q2
      cases ex with
      | norm => exact hle.loop _ _ _ hr
      | _ => exact hr
  | code c s => exact evalC_mono hle hr

/-- What a run answers: out of what is answered already. -/
inductive Prog.Ans (p : Prog) : (q : Q) → q.A → Prop
  | step (x : Tb) (hx : ∀ q r, x q = some r → Prog.Ans p q r) (q : Q) (r : q.A) (h : p.F x q = some r) : Prog.Ans p q r

theorem Prog.Ans.det (p : Prog) {q : Q} {r : q.A} (h : p.Ans q r) : ∀ r', p.Ans q r' → r = r' := by
  induction h with
  | step x hx q r h ih =>
    intro r' h'
    cases h' with
    | step y hy _ _ h2 =>
      let z : Tb := fun q => match x q with
        | some r => some r
        | none => y q
      have h1z : x.le z := by intro q r hr; simp only [z, hr]
      have h2z : y.le z := by
        intro q r hr
        simp only [z]
        cases hxq : x q with
        | none => exact hr
        | some r1 => rw [ih q r1 hxq r (hy q r hr)]
      have e1 := p.mono h1z q r h
      have e2 := p.mono h2z q r' h2
      rw [e1] at e2
      exact Option.some.inj e2

open Classical in
/-- The run. -/
noncomputable def Prog.run (p : Prog) : Tb := fun q => if h : ∃ r, p.Ans q r then some h.choose else none

theorem Prog.run_iff (p : Prog) {q : Q} {r : q.A} : p.run q = some r ↔ p.Ans q r := by
  unfold Prog.run
  constructor
  · intro h
    split at h
    · rename_i hh
      obtain rfl := Option.some.inj h
      exact hh.choose_spec
    · cases h
  · intro h
    have hh : ∃ r, p.Ans q r := ⟨r, h⟩
    rw [dif_pos hh, Prog.Ans.det p hh.choose_spec r h]

noncomputable def Prog.env (p : Prog) : Env := Env.of p.O p.defers p.run

theorem Prog.run_eq (p : Prog) (q : Q) : p.run q = p.F p.run q := by
  have h1 : ∀ r, p.run q = some r → p.F p.run q = some r := by
    intro r hr
    cases p.run_iff.1 hr with
    | step x hx _ _ h => exact p.mono (fun q r hr => p.run_iff.2 (hx q r hr)) q r h
  have h2 : ∀ r, p.F p.run q = some r → p.run q = some r := fun r hr => p.run_iff.2 (.step p.run (fun _ _ h => p.run_iff.1 h) q r hr)
  cases ha : p.run q with
  | some r => rw [h1 r ha]
  | none =>
    cases hb : p.F p.run q with
    | none => rfl
    | some r => rw [h2 r hb] at ha; cases ha

theorem Prog.call_eq (p : Prog) (f : Nat) (args : List AV) (R : RS) (H : Heap) : p.env.call f args R H = match p.known f args R H with
    | some r => some r
    | none => match p.tab f with
      | some cf => evalF p.env cf args R H
      | none => none := p.run_eq (.call f args R H)

theorem Prog.loop_eq (p : Prog) (c : CCode) (s : St) : p.env.loop c s = match evalC p.env c s with
    | some (.norm, s') => p.env.loop c s'
    | r => r := p.run_eq (.loop c s)

theorem Prog.code_eq (p : Prog) (c : CCode) (s : St) : p.env.code c s = evalC p.env c s := p.run_eq (.code c s)

/-- The run with so much fuel. -/
def Prog.tb (p : Prog) : Nat → Tb
  | 0 => fun _ => none
  | n + 1 => p.F (p.tb n)

theorem Prog.tb_le (p : Prog) : ∀ (n : Nat) (q : Q) (r : q.A), p.tb n q = some r → p.run q = some r
  | 0, _, _, h => by cases h
  | n + 1, q, r, h => by
    rw [p.run_eq]
    exact p.mono (p.tb_le n) q r h

/-- What a run says is so. -/
def QOk (C : Ctx) : (q : Q) → q.A → Prop
  | .call f args R H, (e, R', H') => SoundCall C f args R H e R' H'
  | .loop c s, (ex, s') => ∀ code, C.cc c code → ∀ (b : Frame) (k : List Item) (cs : List Frame) (T : Array Value) (D : List Deferred) (w : World) (ρ : Rho), SRel C ρ b s T D cs w →
    ∃ ρ' T' D' cs' w', SRel C ρ' b s' T' D' cs' w' ∧ Step C ρ s.H w ρ' s'.H w' ∧ CsRel s.R s'.R cs cs' ∧ Arr C.P ρ' (lone (mk b T D (.inLoop code :: k)) cs w) b k T' D' cs' w' ex
  | .code c s, (ex, s') => ∀ code, C.cc c code → ∀ (b : Frame) (k : List Item) (cs : List Frame) (T : Array Value) (D : List Deferred) (w : World) (ρ : Rho), SRel C ρ b s T D cs w →
    ∃ ρ' T' D' cs' w', SRel C ρ' b s' T' D' cs' w' ∧ Step C ρ s.H w ρ' s'.H w' ∧ CsRel s.R s'.R cs cs' ∧ Arr C.P ρ' (lone (mk b T D (.code code :: k)) cs w) b k T' D' cs' w' ex

def cDraw : DrawRel := fun P ops n items => DrawOk P ops n items

/-- A program that says what the machine's program does. -/
structure ProgOk (C : Ctx) (p : Prog) : Prop where
  cc : C.cc = CC cDraw C.P
  O : p.O = C.O
  defers : p.defers = C.defers
  known : ∀ f args R H e R' H', p.known f args R H = some (e, R', H') → SoundCall C f args R H e R' H'
  tab : ∀ f cf, p.tab f = some cf → FuncOk cDraw C.P f cf

theorem tb_ok {C : Ctx} {p : Prog} (hp : ProgOk C p) {x : Tb} (h : ∀ q r, x q = some r → QOk C q r) : EnvOk C (Env.of p.O p.defers x) := by
  refine ⟨hp.O, hp.defers, ?_, ?_, ?_⟩
  · intro f args R H e R' H' hc; exact h (.call f args R H) _ hc
  · intro c code hcc b k cs s s' T D w ρ ex hs hc
    exact h (.code c s) (ex, s') hc code hcc b k cs T D w ρ hs
  · intro c code hcc b k cs s s' T D w ρ ex hs hc
    exact h (.loop c s) (ex, s') hc code hcc b k cs T D w ρ hs

theorem F_ok {C : Ctx} {p : Prog} (hp : ProgOk C p) {x : Tb} (h : ∀ q r, x q = some r → QOk C q r) : ∀ q r, p.F x q = some r → QOk C q r := by
  have hE := tb_ok hp h
  have hcode : ∀ c code, CC cDraw C.P c code → SoundB C (evalC (Env.of p.O p.defers x) c) code := fun c code hc =>
    code_sound hE hp.cc (fun id ops n items hd => draws_sound hE hd) hc
  intro q r hr
  cases q with
  | call f args R H =>
    obtain ⟨e, R', H'⟩ := r
    simp only [Prog.F] at hr
    split at hr
    · rename_i hk
      obtain rfl := Option.some.inj hr
      exact hp.known _ _ _ _ _ _ _ hk
    · split at hr
      · rename_i cf ht
        exact evalF_sound hE hcode (hp.tab _ _ ht) hr
      · cases hr
  | loop c s =>
    obtain ⟨ex, s'⟩ := r
    intro code hcc b k cs T D w ρ hs
    simp only [Prog.F] at hr
    have hsb := hcode c code (by rw [← hp.cc]; exact hcc)
    cases h1 : evalC (Env.of p.O p.defers x) c s with
    | none => rw [h1] at hr; cases hr
    | some q2 =>
      obtain ⟨ex1, s1⟩ := q2
      rw [h1] at hr
      obtain ⟨ρ1, T1, D1, cs1, w1, hs1, hst1, hcs1, harr1⟩ := hsb b (.inLoop code :: k) cs _ _ _ _ _ _ _ hs h1
      by_cases hn : ex1 = .norm
      · subst hn
        obtain ⟨ρ2, T2, D2, cs2, w2, hs2, hst2, hcs2, harr2⟩ := hE.loop c code hcc b k _ _ _ _ _ _ _ _ hs1 hr
        exact ⟨ρ2, T2, D2, cs2, w2, hs2, hst1.trans hs.H hst2, hcs1.trans hcs2, Arr.of_steps (.head st_inLoop harr1) harr2⟩
      · have he : (ex1, s1) = (ex, s') := by
          cases ex1 with
          | norm => exact absurd rfl hn
          | _ => exact Option.some.inj hr
        obtain ⟨rfl, rfl⟩ := Prod.mk.inj he
        exact ⟨ρ1, T1, D1, cs1, w1, hs1, hst1, hcs1, Arr.of_steps (.one st_inLoop) (Arr.pass (x := .inLoop code) (fun _ => rfl) hn harr1)⟩
  | code c s =>
    obtain ⟨ex, s'⟩ := r
    intro code hcc b k cs T D w ρ hs
    exact hcode c code (by rw [← hp.cc]; exact hcc) b k cs _ _ _ _ _ _ _ hs hr

theorem Prog.ok {C : Ctx} {p : Prog} (hp : ProgOk C p) : ∀ q r, p.run q = some r → QOk C q r := by
  have key : ∀ q r, p.Ans q r → QOk C q r := by
    intro q r h
    induction h with
    | step x hx q r h ih => exact F_ok hp ih q r h
  exact fun q r h => key q r (p.run_iff.1 h)

theorem Prog.envOk {C : Ctx} {p : Prog} (hp : ProgOk C p) : EnvOk C p.env := tb_ok hp (Prog.ok hp)

end Go.Ab

namespace Go.Ab
open Go

  deriving instance DecidableEq for Opd
  deriving instance DecidableEq for COp

def opB (P : Program) (ops : Array Oper) (i : Nat) (co : COper) : Bool :=
  match ops[i]? with
  | some o => decide (comp P o = some co.op) && decide (gslot ops o = some co.guard) && decide (co.dst = o.dst)
  | none => false

theorem opB_ok {P : Program} {ops : Array Oper} {i : Nat} {co : COper} (h : opB P ops i co = true) : OpOk P ops i co := by
  unfold opB at h
  split at h
  · rename_i o ho
    simp only [Bool.and_eq_true, decide_eq_true_eq] at h
    exact ⟨o, ho, h.1.1, h.1.2, h.2⟩
  · cases h

def opsB (P : Program) (ops : Array Oper) : List Nat → List COper → Bool
  | [], [] => true
  | i :: l, co :: cs => opB P ops i co && opsB P ops l cs
  | _, _ => false

theorem opsB_ok {P : Program} {ops : Array Oper} : ∀ {l : List Nat} {cs : List COper}, opsB P ops l cs = true → OpsOk P ops l cs
  | [], [], _ => .nil
  | i :: l, co :: cs, h => by
    simp only [opsB, Bool.and_eq_true] at h
    exact .cons (opB_ok h.1) (opsB_ok h.2)
  | [], _ :: _, h => by cases h
  | _ :: _, [], h => by cases h

def apartB (x y : COper) : Bool :=
  (match x.dst with
   | some t => !y.looks.contains t && decide (y.dst ≠ some t)
   | none => true) &&
  (match y.dst with
   | some t => !x.looks.contains t
   | none => true)

theorem apartB_ok {x y : COper} (h : apartB x y = true) : Apart x y := by
  simp only [apartB, Bool.and_eq_true] at h
  refine ⟨fun t ht => ?_, fun t ht => ?_, fun t ht => ?_⟩
  · have := h.1; rw [ht] at this; simp at this; simpa using this.1
  · have := h.2; rw [ht] at this; simp at this; simpa using this
  · have := h.1; rw [ht] at this; simp at this; exact this.2

def binding (ops : Array Oper) (i : Nat) : List Nat :=
  match ops[i]? with
  | some o => (o.after.toList.filter fun e => Region.binds .any e).map (·.on)
  | none => []

theorem binding_mem {ops : Array Oper} {i : Nat} {o : Oper} (ho : ops[i]? = some o) {j : Nat} : j ∈ binding ops i ↔ ∃ e ∈ o.after.toList, Region.binds .any e = true ∧ e.on = j := by
  simp only [binding, ho, List.mem_map, List.mem_filter]
  constructor
  · rintro ⟨e, ⟨h1, h2⟩, h3⟩; exact ⟨e, h1, h2, h3⟩
  · rintro ⟨e, h1, h2, h3⟩; exact ⟨e, ⟨h1, h2⟩, h3⟩

def pairB (ops : Array Oper) (x y : DItem) : Bool :=
  decide (x.idx ≠ y.idx) && (y.anc.contains x.idx || (decide (x.cls ≠ .eff) && apartB x.op y.op)) && !(binding ops x.idx).contains y.idx

theorem pairB_ok {ops : Array Oper} {x y : DItem} (h : pairB ops x y = true) : DPair ops x y := by
  simp only [pairB, Bool.and_eq_true, Bool.or_eq_true, decide_eq_true_eq, Bool.not_eq_true', List.contains_iff_mem] at h
  obtain ⟨⟨h1, h2⟩, h3⟩ := h
  refine ⟨h1, fun he => h2.resolve_right fun h => h.1 he, h2.imp id fun h => apartB_ok h.2, fun o ho e he hb heq => ?_⟩
  have : y.idx ∈ binding ops x.idx := (binding_mem ho).2 ⟨e, he, hb, heq⟩
  rw [← List.contains_iff_mem, h3] at this
  cases this

def pairsB (ops : Array Oper) : List DItem → Bool
  | [] => true
  | x :: l => l.all (pairB ops x) && pairsB ops l

theorem pairsB_ok {ops : Array Oper} : ∀ {l : List DItem}, pairsB ops l = true → l.Pairwise (DPair ops)
  | [], _ => .nil
  | x :: l, h => by
    simp only [pairsB, Bool.and_eq_true, List.all_eq_true] at h
    exact .cons (fun y hy => pairB_ok (h.1 y hy)) (pairsB_ok h.2)

def itemB (P : Program) (ops : Array Oper) (n : Nat) (items : List DItem) (it : DItem) : Bool :=
  opB P ops it.idx it.op && decide (it.idx < n) && (!decide (it.cls = .quiet ∨ it.cls = .sure) || it.op.op.pure) &&
  (match it.op.dst with | some t => (dstsOf items).contains t | none => true) &&
  (it.anc.all fun j => (binding ops it.idx).any fun e => e == j || items.any fun it' => it'.idx == e && it'.anc.contains j) &&
  ((binding ops it.idx).all fun e => decide (e < n) && e != it.idx)

def drawB (P : Program) (ops : Array Oper) (n : Nat) (items : List DItem) : Bool :=
  decide (ops.size = n) && decide (items.length = n) && items.all (itemB P ops n items) && pairsB ops items &&
  ((List.range n).all fun i => items.any fun it => it.idx == i)

theorem drawB_ok {P : Program} {ops : Array Oper} {n : Nat} {items : List DItem} (h1 : P.follows .mixedOrders = true) (h : drawB P ops n items = true) : DrawOk P ops n items := by
  simp only [drawB, Bool.and_eq_true, decide_eq_true_eq, List.all_eq_true] at h
  obtain ⟨⟨⟨⟨h2, h3⟩, h4⟩, h5⟩, h6⟩ := h
  have hit : ∀ it ∈ items, OpOk P ops it.idx it.op ∧ it.idx < n ∧ (it.cls = .quiet ∨ it.cls = .sure → it.op.op.pure = true) ∧ (∀ t, it.op.dst = some t → t ∈ dstsOf items) ∧
      (∀ j ∈ it.anc, ∃ e ∈ binding ops it.idx, e = j ∨ ∃ it' ∈ items, it'.idx = e ∧ j ∈ it'.anc) ∧ (∀ e ∈ binding ops it.idx, e < n ∧ e ≠ it.idx) := by
    intro it hi
    have := h4 it hi
    simp only [itemB, Bool.and_eq_true, decide_eq_true_eq, List.all_eq_true, List.any_eq_true, Bool.or_eq_true, beq_iff_eq, bne_iff_ne, Bool.not_eq_true', decide_eq_false_iff_not, List.contains_iff_mem] at this
    obtain ⟨⟨⟨⟨⟨a, b⟩, c⟩, d⟩, e⟩, f⟩ := this
    refine ⟨opB_ok a, b, fun hc => c.resolve_left fun hn => hn hc, fun t ht => ?_, e, f⟩
    rw [ht] at d
    simpa using d
  refine ⟨h1, h2, h3, fun it hi => ⟨(hit it hi).1, (hit it hi).2.1, (hit it hi).2.2.1, (hit it hi).2.2.2.1⟩, pairsB_ok h5, ?_, ?_, ?_⟩
  · intro i hi
    have := h6 i (List.mem_range.2 hi)
    simp only [List.any_eq_true, beq_iff_eq] at this
    exact this
  · intro it hi j hj
    obtain ⟨o, ho, _⟩ := (hit it hi).1.ok
    obtain ⟨e, he, hor⟩ := (hit it hi).2.2.2.2.1 j hj
    obtain ⟨e', h7, h8, rfl⟩ := (binding_mem ho).1 he
    exact ⟨o, ho, e', h7, h8, hor⟩
  · intro it hi o ho e he hb
    exact (hit it hi).2.2.2.2.2 e.on ((binding_mem ho).2 ⟨e, he, hb, rfl⟩)

def ccB (P : Program) : CCode → Code → Bool
  | .kill _ a, x => ccB P a x
  | .skip, .skip => true
  | .region cops, .region _ ops false => opsB P ops (List.range ops.size) cops
  | .draws n items, .region _ ops true => drawB P ops n items
  | .seq a b, .seq x y => ccB P a x && ccB P b y
  | .cond c a b, .cond c' x y => decide (cOpd c' = some c) && ccB P a x && ccB P b y
  | .block id a, .block id' x => decide (id = id') && ccB P a x
  | .loop a, .loop x => ccB P a x
  | .rangeFunc f ps a b, .rangeFunc f' ps' x y => decide (cOpd f' = some f) && decide (ps = ps'.toList) && ccB P a x && ccB P b y
  | .exit id, .exit id' => decide (id = id')
  | .scope a, .scope x => ccB P a x
  | .ret, .ret => true
  | _, _ => false

theorem ccB_ok {P : Program} (hm : P.follows .mixedOrders = true) : ∀ {c : CCode} {code : Code}, ccB P c code = true → CC cDraw P c code
  | .kill ks a, x, h => .kill (ccB_ok hm (by simpa only [ccB] using h))
  | .skip, .skip, _ => .skip
  | .region cops, .region _ ops false, h => .region (opsB_ok (by simpa only [ccB] using h))
  | .draws n items, .region _ ops true, h => .draws (drawB_ok hm (by simpa only [ccB] using h))
  | .seq a b, .seq x y, h => by
    simp only [ccB, Bool.and_eq_true] at h
    exact .seq (ccB_ok hm h.1) (ccB_ok hm h.2)
  | .cond c a b, .cond c' x y, h => by
    simp only [ccB, Bool.and_eq_true, decide_eq_true_eq] at h
    exact .cond h.1.1 (ccB_ok hm h.1.2) (ccB_ok hm h.2)
  | .block id a, .block id' x, h => by
    simp only [ccB, Bool.and_eq_true, decide_eq_true_eq] at h
    obtain ⟨rfl, h⟩ := h
    exact .block (ccB_ok hm h)
  | .loop a, .loop x, h => .loop (ccB_ok hm (by simpa only [ccB] using h))
  | .rangeFunc f ps a b, .rangeFunc f' ps' x y, h => by
    simp only [ccB, Bool.and_eq_true, decide_eq_true_eq] at h
    obtain ⟨⟨⟨h1, rfl⟩, h3⟩, h4⟩ := h
    exact .rangeFunc h1 (ccB_ok hm h3) (ccB_ok hm h4)
  | .exit id, .exit id', h => by
    simp only [ccB, decide_eq_true_eq] at h
    subst h; exact .exit
  | .scope a, .scope x, h => .scope (ccB_ok hm (by simpa only [ccB] using h))
  | .ret, .ret, _ => .ret

def resB (P : Program) : List CRes → List ResultVar → Bool
  | [], [] => true
  | .tmp t :: l, .tmp u :: m => decide (t = u) && resB P l m
  | .cell t p :: l, .cell u ty :: m => decide (t = u) && decide (cPart P ty = some p) && resB P l m
  | _, _ => false

theorem resB_ok {P : Program} : ∀ {l : List CRes} {m : List ResultVar}, resB P l m = true → ResOk P l m
  | [], [], _ => .nil
  | .tmp t :: l, .tmp u :: m, h => by
    simp only [resB, Bool.and_eq_true, decide_eq_true_eq] at h
    obtain ⟨rfl, h⟩ := h
    exact .tmp (resB_ok h)
  | .cell t p :: l, .cell u ty :: m, h => by
    simp only [resB, Bool.and_eq_true, decide_eq_true_eq] at h
    obtain ⟨⟨rfl, h1⟩, h⟩ := h
    exact .cell h1 (resB_ok h)

def funcB (P : Program) (cf : CFunc) (fn : Func) : Bool :=
  match fn.body with
  | some code => decide (fn.name ≠ "runtime.NumGoroutine") && decide (fn.ntmps = cf.ntmps) && ccB P cf.code code && resB P cf.results fn.results.toList
  | none => false

theorem funcB_ok {P : Program} {f : Nat} {cf : CFunc} {fn : Func} (hm : P.follows .mixedOrders = true) (hf : P.funcs[f]? = some fn) (h : funcB P cf fn = true) : FuncOk cDraw P f cf := by
  unfold funcB at h
  split at h
  · rename_i code hc
    simp only [Bool.and_eq_true, decide_eq_true_eq] at h
    exact ⟨fn, code, hf, hc, h.1.1.1, h.1.1.2, ccB_ok hm h.1.2, resB_ok h.2⟩
  · cases h

end Go.Ab

namespace Go.Ab
open Go

/-- What is left to do. -/
inductive K where
  | ops (os : List COper)
  | code (c : CCode)
  | kill (ks : List Nat)
  | inBlock (id : Nat)
  | draw (n base : Nat) (dsts : List Nat) (items : List DItem) (pend : Tr AObj)
  | dpanic (dsts : List Nat)
  | drawR (n base : Nat) (dsts : List Nat) (items : List DItem) (reads : List (Nat × Rd)) (pend : Tr AObj) (news : List Nat)
  | validR (reads : List (Nat × Rd))
  | drawX (n base : Nat) (dsts : List Nat) (items : List DItem) (reads : List (Nat × Rd)) (pend : List (Nat × AObj))

def trR : List (Nat × Rd) → Tr Rd
  | [] => .nil
  | e :: l => (trR l).set e.1 e.2
def trP : List (Nat × AObj) → Tr AObj
  | [] => .nil
  | e :: l => (trP l).set e.1 e.2
/-- What was made, that an effect does not stand behind. -/
def restP (anc : List Nat) : List (Nat × AObj) → List (Nat × AObj)
  | [] => []
  | e :: l => if anc.contains e.1 then restP anc l else e :: restP anc l
/-- What was made, that it stands behind. -/
def pickP (anc : List Nat) : List (Nat × AObj) → List (Nat × AObj)
  | [] => []
  | e :: l => if anc.contains e.1 then e :: pickP anc l else pickP anc l
/-- All that was made is there. -/
def mergeP (base n : Nat) (l : List (Nat × AObj)) (H : Heap) : Heap := mergeN base (trP l) (fun _ => true) n H
def addP (pend : List (Nat × AObj)) (i : Nat) : Option AObj → List (Nat × AObj)
  | none => pend
  | some o => (i, o) :: pend

/-- The operations of a region that draws its order, where each effect stands behind all that was read and made ahead of it. -/
def drawS (E : Env) (n base : Nat) (dsts : List Nat) : List DItem → Tr AObj → BodyF
  | [], pend, s => some (.norm, { s with H := mergeN base pend (fun _ => true) n s.H })
  | it :: rest, pend, s =>
    if heavy it s.T then
      match doOp E it.op { s with H := mergeN base pend (fun _ => true) n s.H } with
      | some (.norm, s') => drawS E n base dsts rest .nil s'
      | some (.panic v, s') => some (.panic v, { s' with T := killT s'.T dsts })
      | _ => none
    else match light E.O base it s.T s.H with
      | some r => drawS E n base dsts rest (setO pend it.idx r.2.1) (s.put it.op.dst r.2.2)
      | none => none

/-- What was read that an effect does not stand behind. -/
def keepR (anc : List Nat) : List (Nat × Rd) → List (Nat × Rd)
  | [] => []
  | e :: l => if anc.contains e.1 then keepR anc l else e :: keepR anc l
def validL (H : Heap) : List (Nat × Rd) → Bool
  | [] => true
  | e :: l => decide (e.2.again H = some e.2.was) && validL H l
def addR (reads : List (Nat × Rd)) (i : Nat) : Option Rd → List (Nat × Rd)
  | none => reads
  | some r => (i, r) :: reads
def addN (news : List Nat) (i : Nat) : Option AObj → List Nat
  | none => news
  | some _ => i :: news

/-- The same, where what was read may be read again behind an effect; each effect stands behind all that was made ahead of it. -/
def drawRead (E : Env) (n base : Nat) (dsts : List Nat) : List DItem → List (Nat × Rd) → Tr AObj → List Nat → BodyF
  | [], _, pend, _, s => some (.norm, { s with H := mergeN base pend (fun _ => true) n s.H })
  | it :: rest, reads, pend, news, s =>
    if heavy it s.T then
      if news.all (it.anc.contains ·) && it.stops then
        match doOp E it.op { s with H := mergeN base pend (fun _ => true) n s.H } with
        | some (.norm, s') => if validL s'.H (keepR it.anc reads) then drawRead E n base dsts rest (keepR it.anc reads) .nil [] s' else none
        | some (.panic v, s') => some (.panic v, { s' with T := killT s'.T dsts })
        | _ => none
      else none
    else match light E.O base it s.T s.H with
      | some r => drawRead E n base dsts rest (addR reads it.idx r.1) (setO pend it.idx r.2.1) (addN news it.idx r.2.1) (s.put it.op.dst r.2.2)
      | none => none

/-- The operations of a region that draws its order: what was read may be read again behind an effect, what was made is there at once for those that stand behind it. -/
def drawXR (E : Env) (n base : Nat) (dsts : List Nat) : List DItem → List (Nat × Rd) → List (Nat × AObj) → BodyF
  | [], _, pend, s => some (.norm, { s with H := mergeP base n pend s.H })
  | it :: rest, reads, pend, s =>
    if heavy it s.T then
      if it.stops then
        match doOp E it.op { s with H := mergeP base n (pickP it.anc pend) s.H } with
        | some (.norm, s') => if validL s'.H (keepR it.anc reads) then drawXR E n base dsts rest (keepR it.anc reads) (restP it.anc pend) s' else none
        | some (.panic v, s') => some (.panic v, { s' with T := killT s'.T dsts })
        | _ => none
      else none
    else match light E.O base it s.T s.H with
      | some r => drawXR E n base dsts rest (addR reads it.idx r.1) (addP pend it.idx r.2.1) (s.put it.op.dst r.2.2)
      | none => none

def evalK (E : Env) : List K → Ex → St → Option (Ex × St)
  | [], ex, s => some (ex, s)
  | .kill ks :: k, ex, s => match ex with
    | .norm => evalK E k .norm { s with T := killT s.T ks }
    | ex => evalK E k ex s
  | .inBlock id :: k, ex, s => match ex with
    | .exit i => evalK E k (if i = id then .norm else .exit i) s
    | ex => evalK E k ex s
  | .ops os :: k, ex, s => match ex with
    | .norm => match doOps E os s with
      | some (ex, s') => evalK E k ex s'
      | none => none
    | ex => evalK E k ex s
  | .code c :: k, ex, s => match ex with
    | .norm => match evalC E c s with
      | some (ex, s') => evalK E k ex s'
      | none => none
    | ex => evalK E k ex s
  | .dpanic dsts :: k, ex, s => match ex with
    | .panic v => evalK E k (.panic v) { s with T := killT s.T dsts }
    | ex => evalK E k ex s
  | .draw n base dsts items pend :: k, ex, s => match ex with
    | .norm => match drawS E n base dsts items pend s with
      | some (ex, s') => evalK E k ex s'
      | none => none
    | ex => evalK E k ex s

  | .drawR n base dsts items reads pend news :: k, ex, s => match ex with
    | .norm => match drawRead E n base dsts items reads pend news s with
      | some (ex, s') => evalK E k ex s'
      | none => none
    | ex => evalK E k ex s
  | .validR reads :: k, ex, s => match ex with
    | .norm => if validL s.H reads then evalK E k .norm s else none
    | ex => evalK E k ex s
  | .drawX n base dsts items reads pend :: k, ex, s => match ex with
    | .norm => match drawXR E n base dsts items reads pend s with
      | some (ex, s') => evalK E k ex s'
      | none => none
    | ex => evalK E k ex s

/-- It runs to an end that is as wanted. -/
def W (E : Env) (k : List K) (ex : Ex) (s : St) (Q : Ex → St → Prop) : Prop := ∃ ex' s', evalK E k ex s = some (ex', s') ∧ Q ex' s'

/-- A call comes to an end that is as wanted. -/
def CallOk (E : Env) (f : Nat) (args : List AV) (R : RS) (H : Heap) (Q : AEnd → RS → Heap → Prop) : Prop :=
  ∃ e R' H', E.call f args R H = some (e, R', H') ∧ Q e R' H'

theorem CallOk.mono {E : Env} {f : Nat} {args : List AV} {R : RS} {H : Heap} {Q Q' : AEnd → RS → Heap → Prop} (h : CallOk E f args R H Q) (hq : ∀ e R' H', Q e R' H' → Q' e R' H') : CallOk E f args R H Q' := by
  obtain ⟨e, R', H', h1, h2⟩ := h
  exact ⟨e, R', H', h1, hq _ _ _ h2⟩

section
variable {E : Env} {k : List K} {T : List AV} {D : List ADef} {R : RS} {H : Heap} {Q : Ex → St → Prop}

theorem W_iff {k' : List K} {ex ex' : Ex} {s s' : St} (h : evalK E k ex s = evalK E k' ex' s') : W E k ex s Q ↔ W E k' ex' s' Q := by unfold W; rw [h]

@[simp] theorem W_nil {ex : Ex} {s : St} : W E [] ex s Q ↔ Q ex s := by
  unfold W; simp only [evalK]
  constructor
  · rintro ⟨_, _, h, hq⟩
    simp only [Option.some.injEq, Prod.mk.injEq] at h
    obtain ⟨rfl, rfl⟩ := h; exact hq
  · exact fun h => ⟨_, _, rfl, h⟩
@[simp] theorem W_kill {ks : List Nat} : W E (.kill ks :: k) .norm ⟨T, D, R, H⟩ Q ↔ W E k .norm ⟨killT T ks, D, R, H⟩ Q := W_iff rfl
@[simp] theorem W_kill_exit {ks : List Nat} {i : Nat} {s : St} : W E (.kill ks :: k) (.exit i) s Q ↔ W E k (.exit i) s Q := W_iff rfl
@[simp] theorem W_kill_ret {ks : List Nat} {s : St} : W E (.kill ks :: k) .ret s Q ↔ W E k .ret s Q := W_iff rfl
@[simp] theorem W_kill_panic {ks : List Nat} {v : AV} {s : St} : W E (.kill ks :: k) (.panic v) s Q ↔ W E k (.panic v) s Q := W_iff rfl
@[simp] theorem W_ops_exit {os : List COper} {i : Nat} {s : St} : W E (.ops os :: k) (.exit i) s Q ↔ W E k (.exit i) s Q := W_iff rfl
@[simp] theorem W_ops_ret {os : List COper} {s : St} : W E (.ops os :: k) .ret s Q ↔ W E k .ret s Q := W_iff rfl
@[simp] theorem W_ops_panic {os : List COper} {v : AV} {s : St} : W E (.ops os :: k) (.panic v) s Q ↔ W E k (.panic v) s Q := W_iff rfl
@[simp] theorem W_code_exit {c : CCode} {i : Nat} {s : St} : W E (.code c :: k) (.exit i) s Q ↔ W E k (.exit i) s Q := W_iff rfl
@[simp] theorem W_code_ret {c : CCode} {s : St} : W E (.code c :: k) .ret s Q ↔ W E k .ret s Q := W_iff rfl
@[simp] theorem W_code_panic {c : CCode} {v : AV} {s : St} : W E (.code c :: k) (.panic v) s Q ↔ W E k (.panic v) s Q := W_iff rfl
@[simp] theorem W_inBlock {id : Nat} {s : St} : W E (.inBlock id :: k) .norm s Q ↔ W E k .norm s Q := W_iff rfl
@[simp] theorem W_inBlock_exit {id i : Nat} {s : St} : W E (.inBlock id :: k) (.exit i) s Q ↔ W E k (if i = id then .norm else .exit i) s Q := W_iff rfl
@[simp] theorem W_inBlock_ret {id : Nat} {s : St} : W E (.inBlock id :: k) .ret s Q ↔ W E k .ret s Q := W_iff rfl
@[simp] theorem W_inBlock_panic {id : Nat} {v : AV} {s : St} : W E (.inBlock id :: k) (.panic v) s Q ↔ W E k (.panic v) s Q := W_iff rfl

@[simp] theorem W_skip {s : St} : W E (.code .skip :: k) .norm s Q ↔ W E k .norm s Q := W_iff rfl
@[simp] theorem W_retC {s : St} : W E (.code .ret :: k) .norm s Q ↔ W E k .ret s Q := W_iff rfl
@[simp] theorem W_exitC {i : Nat} {s : St} : W E (.code (.exit i) :: k) .norm s Q ↔ W E k (.exit i) s Q := W_iff rfl
@[simp] theorem W_scope {c : CCode} {s : St} : W E (.code (.scope c) :: k) .norm s Q ↔ W E (.code c :: k) .norm s Q := W_iff rfl
@[simp] theorem W_region {os : List COper} {s : St} : W E (.code (.region os) :: k) .norm s Q ↔ W E (.ops os :: k) .norm s Q := W_iff rfl
@[simp] theorem W_seq {a b : CCode} {s : St} : W E (.code (.seq a b) :: k) .norm s Q ↔ W E (.code a :: .code b :: k) .norm s Q := by
  refine W_iff ?_
  simp only [evalK, evalC]
  cases evalC E a s with
  | none => rfl
  | some r => obtain ⟨ex, s'⟩ := r; cases ex <;> rfl
@[simp] theorem W_killC {ks : List Nat} {a : CCode} {s : St} : W E (.code (.kill ks a) :: k) .norm s Q ↔ W E (.code a :: .kill ks :: k) .norm s Q := by
  refine W_iff ?_
  simp only [evalK, evalC]
  cases evalC E a s with
  | none => rfl
  | some r => obtain ⟨ex, s'⟩ := r; cases ex <;> rfl
@[simp] theorem W_block {id : Nat} {a : CCode} {s : St} : W E (.code (.block id a) :: k) .norm s Q ↔ W E (.code a :: .inBlock id :: k) .norm s Q := by
  refine W_iff ?_
  simp only [evalK, evalC]
  cases evalC E a s with
  | none => rfl
  | some r =>
    obtain ⟨ex, s'⟩ := r
    cases ex <;> try rfl
    rename_i i
    by_cases h : i = id <;> simp [h]
theorem W_cond_true {c : Opd} {a b : CCode} {s : St} (h : c.ev s.T = .bool true) : W E (.code (.cond c a b) :: k) .norm s Q ↔ W E (.code a :: k) .norm s Q := by
  refine W_iff ?_
  simp only [evalK, evalC, h]
theorem W_cond_false {c : Opd} {a b : CCode} {s : St} (h : c.ev s.T = .bool false) : W E (.code (.cond c a b) :: k) .norm s Q ↔ W E (.code b :: k) .norm s Q := by
  refine W_iff ?_
  simp only [evalK, evalC, h]
/-- A branch on what is known. -/
def condW (E : Env) (k : List K) (a b : CCode) (s : St) (Q : Ex → St → Prop) : AV → Prop
  | .bool true => W E (.code a :: k) .norm s Q
  | .bool false => W E (.code b :: k) .norm s Q
  | _ => False
@[simp] theorem condW_true {a b : CCode} {s : St} : condW E k a b s Q (.bool true) ↔ W E (.code a :: k) .norm s Q := Iff.rfl
@[simp] theorem condW_false {a b : CCode} {s : St} : condW E k a b s Q (.bool false) ↔ W E (.code b :: k) .norm s Q := Iff.rfl
@[simp] theorem W_cond {c : Opd} {a b : CCode} : W E (.code (.cond c a b) :: k) .norm ⟨T, D, R, H⟩ Q ↔ condW E k a b ⟨T, D, R, H⟩ Q (c.ev T) := by
  constructor
  · intro h
    obtain ⟨ex, s', h1, h2⟩ := h
    simp only [evalK, evalC] at h1
    unfold condW
    split
    · rename_i hc; simp only [hc] at h1; exact ⟨_, _, h1, h2⟩
    · rename_i hc; simp only [hc] at h1; exact ⟨_, _, h1, h2⟩
    · rename_i hn1 hn2
      split at h1
      · rename_i heq
        split at heq
        · rename_i h; exact hn1 h
        · rename_i h; exact hn2 h
        · cases heq
      · cases h1
  · unfold condW
    split
    · rename_i hc; exact (W_cond_true hc).2
    · rename_i hc; exact (W_cond_false hc).2
    · exact False.elim

/-- What a decided operation comes to. -/
def afterOp (E : Env) (os : List COper) (k : List K) (T : List AV) (D : List ADef) (R : RS) (d : Option Nat) (Q : Ex → St → Prop) : Option AR → Prop
  | none => False
  | some (.val v H) => W E (.ops os :: k) .norm ⟨put T d v, D, R, H⟩ Q
  | some (.skip H) => W E (.ops os :: k) .norm ⟨put T d unset, D, R, H⟩ Q
  | _ => False

/-- What comes behind a call. -/
def afterCall (E : Env) (os : List COper) (k : List K) (T : List AV) (D : List ADef) (R : RS) (d : Option Nat) (Q : Ex → St → Prop) (e : AEnd) (_ : RS) (H : Heap) : Prop :=
  match e with
  | .ret v => W E (.ops os :: k) .norm ⟨put T d v, D, R, H⟩ Q
  | .panic v => W E k (.panic v) ⟨T, D, R, H⟩ Q

@[simp] theorem afterCall_ret {os : List COper} {d : Option Nat} {v : AV} {R' : RS} : afterCall E os k T D R d Q (.ret v) R' H ↔ W E (.ops os :: k) .norm ⟨put T d v, D, R, H⟩ Q := Iff.rfl
@[simp] theorem afterCall_panic {os : List COper} {d : Option Nat} {v : AV} {R' : RS} : afterCall E os k T D R d Q (.panic v) R' H ↔ W E k (.panic v) ⟨T, D, R, H⟩ Q := Iff.rfl

@[simp] theorem W_ops_nil {s : St} : W E (.ops [] :: k) .norm s Q ↔ W E k .norm s Q := W_iff rfl

theorem evalK_ops_cons {o : COper} {os : List COper} {s : St} : evalK E (.ops (o :: os) :: k) .norm s = match doOp E o s with
    | some (.norm, s') => evalK E (.ops os :: k) .norm s'
    | some (ex, s') => evalK E k ex s'
    | none => none := by
  simp only [evalK, doOps]
  cases h : doOp E o s with
  | none => rfl
  | some r => obtain ⟨ex, s'⟩ := r; cases ex <;> rfl

theorem W_op_val {d : Option Nat} {op : COp} {os : List COper} {v : AV} {H' : Heap} (h : aop E.O op (Opd.ev T) H = some (.val v H')) :
    W E (.ops (⟨d, op, none⟩ :: os) :: k) .norm ⟨T, D, R, H⟩ Q ↔ W E (.ops os :: k) .norm ⟨put T d v, D, R, H'⟩ Q := by
  refine W_iff ?_
  rw [evalK_ops_cons]
  simp only [doOp, want, h]
theorem W_op_skip {d : Option Nat} {op : COp} {os : List COper} {H' : Heap} (h : aop E.O op (Opd.ev T) H = some (.skip H')) :
    W E (.ops (⟨d, op, none⟩ :: os) :: k) .norm ⟨T, D, R, H⟩ Q ↔ W E (.ops os :: k) .norm ⟨put T d unset, D, R, H'⟩ Q := by
  refine W_iff ?_
  rw [evalK_ops_cons]
  simp only [doOp, want, h]
theorem W_op_panic {d : Option Nat} {op : COp} {os : List COper} {v : AV} (h : aop E.O op (Opd.ev T) H = some (.panic v)) :
    W E (.ops (⟨d, op, none⟩ :: os) :: k) .norm ⟨T, D, R, H⟩ Q ↔ W E k (.panic v) ⟨T, D, R, H⟩ Q := by
  refine W_iff ?_
  rw [evalK_ops_cons]
  simp only [doOp, want, h]

/-- An operation with a guard. -/
def guardW (E : Env) (o : COper) (os : List COper) (k : List K) (s : St) (Q : Ex → St → Prop) : Option Bool → Prop
  | some true => W E (.ops (⟨o.dst, o.op, none⟩ :: os) :: k) .norm s Q
  | some false => W E (.ops os :: k) .norm { s with T := put s.T o.dst unset } Q
  | none => False
@[simp] theorem W_guard {d : Option Nat} {op : COp} {g : Nat × Bool} {os : List COper} :
    W E (.ops (⟨d, op, some g⟩ :: os) :: k) .norm ⟨T, D, R, H⟩ Q ↔ guardW E ⟨d, op, some g⟩ os k ⟨T, D, R, H⟩ Q (want T (some g)) := by
  cases hw : want T (some g) with
  | none =>
    simp only [guardW, iff_false]
    rintro ⟨ex, s', h1, _⟩
    rw [evalK_ops_cons] at h1
    simp [doOp, hw] at h1
  | some b =>
    cases b with
    | false =>
      refine W_iff ?_
      rw [evalK_ops_cons]
      simp only [doOp, hw]
    | true =>
      refine W_iff ?_
      rw [evalK_ops_cons, evalK_ops_cons]
      simp only [doOp, hw]
      rfl
@[simp] theorem guardW_true {o : COper} {os : List COper} {s : St} : guardW E o os k s Q (some true) ↔ W E (.ops (⟨o.dst, o.op, none⟩ :: os) :: k) .norm s Q := Iff.rfl
@[simp] theorem guardW_false {o : COper} {os : List COper} : guardW E o os k ⟨T, D, R, H⟩ Q (some false) ↔ W E (.ops os :: k) .norm ⟨put T o.dst unset, D, R, H⟩ Q := Iff.rfl

/-- Operations without memory: their value. -/
def quietW (E : Env) (os : List COper) (k : List K) (T : List AV) (D : List ADef) (R : RS) (H : Heap) (d : Option Nat) (Q : Ex → St → Prop) : Option AV → Prop
  | some v => W E (.ops os :: k) .norm ⟨put T d v, D, R, H⟩ Q
  | none => False
@[simp] theorem quietW_some {os : List COper} {d : Option Nat} {v : AV} : quietW E os k T D R H d Q (some v) ↔ W E (.ops os :: k) .norm ⟨put T d v, D, R, H⟩ Q := Iff.rfl
@[simp] theorem quietW_none {os : List COper} {d : Option Nat} : quietW E os k T D R H d Q none ↔ False := Iff.rfl

theorem W_quiet {d : Option Nat} {op : COp} {os : List COper} (h : ∀ r, aQuiet E.O op (Opd.ev T) H = r → aop E.O op (Opd.ev T) H = r.map fun v => .val v H) :
    W E (.ops (⟨d, op, none⟩ :: os) :: k) .norm ⟨T, D, R, H⟩ Q ↔ quietW E os k T D R H d Q (aQuiet E.O op (Opd.ev T) H) := by
  have h := h _ rfl
  cases hq : aQuiet E.O op (Opd.ev T) H with
  | some v =>
    rw [hq] at h
    exact W_op_val h
  | none =>
    rw [hq] at h
    simp only [quietW, iff_false]
    rintro ⟨ex, s', h1, _⟩
    rw [evalK_ops_cons] at h1
    simp [doOp, want, h] at h1

theorem mapv {O : Old} {op : COp} {ev : Opd → AV} {H : Heap} (h : aop O op ev H = match aQuiet O op ev H with | some v => some (.val v H) | none => none) :
    ∀ r, aQuiet O op ev H = r → aop O op ev H = r.map fun v => .val v H := by
  rintro r rfl
  rw [h]
  cases aQuiet O op ev H <;> rfl
end
end Go.Ab

namespace Go.Ab
open Go

@[simp] theorem Heap.next_set (H : Heap) (i : Nat) (o : AObj) : (H.set i o).next = H.next := rfl
@[simp] theorem Heap.next_new (H : Heap) (o : AObj) : (H.new o).next = H.next + 1 := rfl
attribute [simp] Heap.get_set Heap.get_new
theorem Heap.get_set_ne (H : Heap) {i j : Nat} (o : AObj) (h : j ≠ i) : (H.set i o).get j = H.get j := by rw [Heap.get_set, if_neg h]
theorem Heap.get_new_ne (H : Heap) {j : Nat} (o : AObj) (h : j ≠ H.next) : (H.new o).get j = H.get j := by rw [Heap.get_new, if_neg h]

/-- Memory that was there and is as it was, but for some objects. -/
def Heap.ext (S : List Nat) (H H' : Heap) : Prop := H.next ≤ H'.next ∧ ∀ i, i < H.next → i ∉ S → H'.get i = H.get i

theorem Heap.ext_refl (S : List Nat) (H : Heap) : H.ext S H := ⟨Nat.le_refl _, fun _ _ _ => rfl⟩
theorem Heap.ext.trans {S : List Nat} {H H' H'' : Heap} (h : H.ext S H') (h' : H'.ext S H'') : H.ext S H'' :=
  ⟨Nat.le_trans h.1 h'.1, fun i hi hs => (h'.2 i (Nat.lt_of_lt_of_le hi h.1) hs).trans (h.2 i hi hs)⟩
theorem Heap.ext.mono {S S' : List Nat} {H H' : Heap} (h : H.ext S H') (hs : ∀ i ∈ S, i ∈ S') : H.ext S' H' := ⟨h.1, fun i hi hn => h.2 i hi fun hm => hn (hs i hm)⟩
theorem Heap.ext.of_nil {S : List Nat} {H H' : Heap} (h : H.ext [] H') : H.ext S H' := h.mono (by simp)
/-- What is new may change. -/
theorem Heap.ext.trans_new {S S' : List Nat} {H H' H'' : Heap} (h : H.ext S H') (h' : H'.ext S' H'') (hs : ∀ i ∈ S', i ∈ S ∨ H.next ≤ i) : H.ext S H'' :=
  ⟨Nat.le_trans h.1 h'.1, fun i hi hn => (h'.2 i (Nat.lt_of_lt_of_le hi h.1) (fun hm => by rcases hs i hm with h | h; exact hn h; omega)).trans (h.2 i hi hn)⟩
theorem Heap.ext.new {S : List Nat} {H H' : Heap} (h : H.ext S H') (o : AObj) : H.ext S (H'.new o) :=
  ⟨by have := h.1; simp; omega, fun i hi hn => by rw [Heap.get_new_ne _ _ (by have := h.1; omega)]; exact h.2 i hi hn⟩
theorem Heap.ext.set {S : List Nat} {H H' : Heap} (h : H.ext S H') (i : Nat) (o : AObj) (hi : i ∈ S ∨ H.next ≤ i) : H.ext S (H'.set i o) :=
  ⟨h.1, fun j hj hn => by rw [Heap.get_set_ne _ _ (by rintro rfl; rcases hi with h | h; exact hn h; omega)]; exact h.2 j hj hn⟩

section
variable {E : Env} {k : List K} {T : List AV} {D : List ADef} {R : RS} {H : Heap} {Q : Ex → St → Prop} {d : Option Nat} {os : List COper}


/-- An operation that ends here: no call, no panic. -/
def AR.here : Option AR → Prop
  | none => True
  | some (.val _ _) => True
  | some (.skip _) => True
  | _ => False

theorem W_eff {op : COp} (h : AR.here (aop E.O op (Opd.ev T) H)) :
    W E (.ops (⟨d, op, none⟩ :: os) :: k) .norm ⟨T, D, R, H⟩ Q ↔ afterOp E os k T D R d Q (aop E.O op (Opd.ev T) H) := by
  cases ha : aop E.O op (Opd.ev T) H with
  | none =>
    simp only [afterOp, iff_false]
    rintro ⟨ex, s', h1, _⟩
    rw [evalK_ops_cons] at h1
    simp [doOp, want, ha] at h1
  | some r =>
    rw [ha] at h
    cases r <;> first | exact h.elim | exact W_op_val ha | exact W_op_skip ha

@[simp] theorem afterOp_val {v : AV} {H' : Heap} : afterOp E os k T D R d Q (some (.val v H')) ↔ W E (.ops os :: k) .norm ⟨put T d v, D, R, H'⟩ Q := Iff.rfl
@[simp] theorem afterOp_skip {H' : Heap} : afterOp E os k T D R d Q (some (.skip H')) ↔ W E (.ops os :: k) .norm ⟨put T d unset, D, R, H'⟩ Q := Iff.rfl
@[simp] theorem afterOp_none : afterOp E os k T D R d Q none ↔ False := Iff.rfl

/-- A call. -/
theorem W_callF {f : Opd} {args : List Opd} {g : Nat} {a c : List AV} (hf : f.ev T = .func (.func g) a c)
    (h : CallOk E g (a ++ args.map (Opd.ev T) ++ c) .no H (afterCall E os k T D R d Q)) :
    W E (.ops (⟨d, .call f args, none⟩ :: os) :: k) .norm ⟨T, D, R, H⟩ Q := by
  obtain ⟨e, R', H', h1, h2⟩ := h
  have ha : aop E.O (.call f args) (Opd.ev T) H = some (.enter g (a ++ args.map (Opd.ev T) ++ c)) := by simp only [aop, hf]
  cases e with
  | ret v =>
    obtain ⟨ex, s', h3, h4⟩ := h2
    refine ⟨ex, s', ?_, h4⟩
    rw [evalK_ops_cons]
    simp only [doOp, want, ha, h1]
    exact h3
  | panic v =>
    obtain ⟨ex, s', h3, h4⟩ := h2
    refine ⟨ex, s', ?_, h4⟩
    rw [evalK_ops_cons]
    simp only [doOp, want, ha, h1]
    exact h3

def callW (E : Env) (os : List COper) (k : List K) (T : List AV) (D : List ADef) (R : RS) (H : Heap) (d : Option Nat) (Q : Ex → St → Prop) (args : List AV) : AV → Prop
  | .func (.func g) a c => CallOk E g (a ++ args ++ c) .no H (afterCall E os k T D R d Q)
  | _ => False
@[simp] theorem callW_func {args a c : List AV} {g : Nat} : callW E os k T D R H d Q args (.func (.func g) a c) ↔ CallOk E g (a ++ args ++ c) .no H (afterCall E os k T D R d Q) := Iff.rfl

/-- With a loop that is no range over a function. -/
theorem W_call {f : Opd} {args : List Opd} (hy : ∀ i, f.ev T ≠ .yieldf i) :
    W E (.ops (⟨d, .call f args, none⟩ :: os) :: k) .norm ⟨T, D, R, H⟩ Q ↔ callW E os k T D R H d Q (args.map (Opd.ev T)) (f.ev T) := by
  constructor
  · rintro ⟨ex, s', h1, h2⟩
    rw [evalK_ops_cons] at h1
    unfold callW
    cases hf : f.ev T <;> simp only [doOp, want, aop, hf] at h1 <;> try (cases h1)
    · rename_i fn a c
      cases fn <;> simp only at h1 <;> try (cases h1)
      rename_i g
      cases hc : E.call g (a ++ args.map (Opd.ev T) ++ c) .no H with
      | none => simp only [hc] at h1; cases h1
      | some r =>
        obtain ⟨e, R', H'⟩ := r
        refine ⟨e, R', H', hc, ?_⟩
        simp only [hc] at h1
        cases e with
        | ret v => exact ⟨_, _, h1, h2⟩
        | panic v => exact ⟨_, _, h1, h2⟩
    · rename_i i; exact absurd hf (hy i)
  · intro h
    unfold callW at h
    split at h
    · rename_i g a c hf; exact W_callF hf h
    · exact h.elim

@[simp] theorem W_call_f {g : Nat} {args : List Opd} : W E (.ops (⟨d, .call (.f g) args, none⟩ :: os) :: k) .norm ⟨T, D, R, H⟩ Q ↔ CallOk E g (args.map (Opd.ev T)) .no H (afterCall E os k T D R d Q) := by
  rw [W_call (by intro i h; cases h)]
  simp [callW, Opd.ev]
def panicW (E : Env) (k : List K) (s : St) (Q : Ex → St → Prop) : AV → Prop
  | .iface t v => W E k (.panic (.iface t v)) s Q
  | _ => False
@[simp] theorem panicW_iface {s : St} {t : Nat} {v : AV} : panicW E k s Q (.iface t v) ↔ W E k (.panic (.iface t v)) s Q := Iff.rfl
@[simp] theorem W_panicO {x : Opd} : W E (.ops (⟨d, .panic x, none⟩ :: os) :: k) .norm ⟨T, D, R, H⟩ Q ↔ panicW E k ⟨T, D, R, H⟩ Q (x.ev T) := by
  cases hx : x.ev T <;> try (simp only [panicW]; exact W_op_panic (by simp only [aop, hx]))
  all_goals
    simp only [panicW, iff_false]
    rintro ⟨ex, s', h1, _⟩
    rw [evalK_ops_cons] at h1
    simp [doOp, want, aop, hx] at h1

@[simp] theorem W_recover_no : W E (.ops (⟨d, .recover, none⟩ :: os) :: k) .norm ⟨T, D, .no, H⟩ Q ↔ W E (.ops os :: k) .norm ⟨put T d .nili, D, .no, H⟩ Q := by
  refine W_iff ?_; rw [evalK_ops_cons]; rfl
@[simp] theorem W_recover_can {v : AV} : W E (.ops (⟨d, .recover, none⟩ :: os) :: k) .norm ⟨T, D, .can v, H⟩ Q ↔ W E (.ops os :: k) .norm ⟨put T d v, D, .done, H⟩ Q := by
  refine W_iff ?_; rw [evalK_ops_cons]; rfl

def deferW (E : Env) (os : List COper) (k : List K) (T : List AV) (D : List ADef) (R : RS) (H : Heap) (d : Option Nat) (Q : Ex → St → Prop) (args : List AV) : AV → Prop
  | .func (.func g) a c => W E (.ops os :: k) .norm ⟨put T d unset, .call g (a ++ args ++ c) :: D, R, H⟩ Q
  | _ => False
@[simp] theorem deferW_func {args a c : List AV} {g : Nat} : deferW E os k T D R H d Q args (.func (.func g) a c) ↔ W E (.ops os :: k) .norm ⟨put T d unset, .call g (a ++ args ++ c) :: D, R, H⟩ Q := Iff.rfl
theorem W_defer_f {f : Opd} {args : List Opd} {g : Nat} {a c : List AV} (hf : f.ev T = .func (.func g) a c) (hR : R ≠ .round) :
    W E (.ops (⟨d, .defer f args, none⟩ :: os) :: k) .norm ⟨T, D, R, H⟩ Q ↔ W E (.ops os :: k) .norm ⟨put T d unset, .call g (a ++ args.map (Opd.ev T) ++ c) :: D, R, H⟩ Q := by
  refine W_iff ?_
  rw [evalK_ops_cons]
  have ha : aop E.O (.defer f args) (Opd.ev T) H = some (.defer g (a ++ args.map (Opd.ev T) ++ c)) := by simp only [aop, hf]
  simp only [doOp, want, ha]
@[simp] theorem W_defer_no {g : Nat} {args : List Opd} : W E (.ops (⟨d, .defer (.f g) args, none⟩ :: os) :: k) .norm ⟨T, D, .no, H⟩ Q ↔ W E (.ops os :: k) .norm ⟨put T d unset, .call g (args.map (Opd.ev T)) :: D, .no, H⟩ Q := by
  rw [W_defer_f (g := g) (a := []) (c := []) rfl (by simp)]
  simp

@[simp] theorem W_move (x : Opd) : W E (.ops (⟨d, .move x, none⟩ :: os) :: k) .norm ⟨T, D, R, H⟩ Q ↔ quietW E os k T D R H d Q (aQuiet E.O (.move x) (Opd.ev T) H) := W_quiet (mapv rfl)
@[simp] theorem W_pick (c a b : Opd) : W E (.ops (⟨d, .pick c a b, none⟩ :: os) :: k) .norm ⟨T, D, R, H⟩ Q ↔ quietW E os k T D R H d Q (aQuiet E.O (.pick c a b) (Opd.ev T) H) := W_quiet (mapv rfl)
@[simp] theorem W_build (z : List AV) (ps : List (Nat × Nat × Opd)) : W E (.ops (⟨d, .build z ps, none⟩ :: os) :: k) .norm ⟨T, D, R, H⟩ Q ↔ quietW E os k T D R H d Q (aQuiet E.O (.build z ps) (Opd.ev T) H) := W_quiet (mapv rfl)
@[simp] theorem W_load (p : Part) (a : Opd) : W E (.ops (⟨d, .load p a, none⟩ :: os) :: k) .norm ⟨T, D, R, H⟩ Q ↔ quietW E os k T D R H d Q (aQuiet E.O (.load p a) (Opd.ev T) H) := W_quiet (mapv rfl)
@[simp] theorem W_nilCheck (x : Opd) : W E (.ops (⟨d, .nilCheck x, none⟩ :: os) :: k) .norm ⟨T, D, R, H⟩ Q ↔ quietW E os k T D R H d Q (aQuiet E.O (.nilCheck x) (Opd.ev T) H) := W_quiet (mapv rfl)
@[simp] theorem W_arith (op : BinOp) (x y : Opd) : W E (.ops (⟨d, .arith op x y, none⟩ :: os) :: k) .norm ⟨T, D, R, H⟩ Q ↔ quietW E os k T D R H d Q (aQuiet E.O (.arith op x y) (Opd.ev T) H) := W_quiet (mapv rfl)
@[simp] theorem W_shift (op : BinOp) (x y : Opd) : W E (.ops (⟨d, .shift op x y, none⟩ :: os) :: k) .norm ⟨T, D, R, H⟩ Q ↔ quietW E os k T D R H d Q (aQuiet E.O (.shift op x y) (Opd.ev T) H) := W_quiet (mapv rfl)
@[simp] theorem W_eq (c : EqC) (n : Bool) (x y : Opd) : W E (.ops (⟨d, .eq c n x y, none⟩ :: os) :: k) .norm ⟨T, D, R, H⟩ Q ↔ quietW E os k T D R H d Q (aQuiet E.O (.eq c n x y) (Opd.ev T) H) := W_quiet (mapv rfl)
@[simp] theorem W_un (op : UnOp) (x : Opd) : W E (.ops (⟨d, .un op x, none⟩ :: os) :: k) .norm ⟨T, D, R, H⟩ Q ↔ quietW E os k T D R H d Q (aQuiet E.O (.un op x) (Opd.ev T) H) := W_quiet (mapv rfl)
@[simp] theorem W_conv (kk : IntKind) (x : Opd) : W E (.ops (⟨d, .conv kk x, none⟩ :: os) :: k) .norm ⟨T, D, R, H⟩ Q ↔ quietW E os k T D R H d Q (aQuiet E.O (.conv kk x) (Opd.ev T) H) := W_quiet (mapv rfl)
@[simp] theorem W_b2s (x : Opd) : W E (.ops (⟨d, .b2s x, none⟩ :: os) :: k) .norm ⟨T, D, R, H⟩ Q ↔ quietW E os k T D R H d Q (aQuiet E.O (.b2s x) (Opd.ev T) H) := W_quiet (mapv rfl)
@[simp] theorem W_mkIface (t : Nat) (x : Opd) : W E (.ops (⟨d, .mkIface t x, none⟩ :: os) :: k) .norm ⟨T, D, R, H⟩ Q ↔ quietW E os k T D R H d Q (aQuiet E.O (.mkIface t x) (Opd.ev T) H) := W_quiet (mapv rfl)
@[simp] theorem W_mkFunc (fn : Fn) (f c : List Opd) : W E (.ops (⟨d, .mkFunc fn f c, none⟩ :: os) :: k) .norm ⟨T, D, R, H⟩ Q ↔ quietW E os k T D R H d Q (aQuiet E.O (.mkFunc fn f c) (Opd.ev T) H) := W_quiet (mapv rfl)
@[simp] theorem W_sliceStr (x : Opd) (lo hi : Option Opd) : W E (.ops (⟨d, .sliceStr x lo hi, none⟩ :: os) :: k) .norm ⟨T, D, R, H⟩ Q ↔ quietW E os k T D R H d Q (aQuiet E.O (.sliceStr x lo hi) (Opd.ev T) H) := W_quiet (mapv rfl)
@[simp] theorem W_sliceArr (n sz : Nat) (x : Opd) (lo hi : Option Opd) : W E (.ops (⟨d, .sliceArr n sz x lo hi, none⟩ :: os) :: k) .norm ⟨T, D, R, H⟩ Q ↔ quietW E os k T D R H d Q (aQuiet E.O (.sliceArr n sz x lo hi) (Opd.ev T) H) := W_quiet (mapv rfl)
@[simp] theorem W_fieldAddr (off : Nat) (x : Opd) : W E (.ops (⟨d, .fieldAddr off x, none⟩ :: os) :: k) .norm ⟨T, D, R, H⟩ Q ↔ quietW E os k T D R H d Q (aQuiet E.O (.fieldAddr off x) (Opd.ev T) H) := W_quiet (mapv rfl)
@[simp] theorem W_field (p : Part) (off : Nat) (x : Opd) : W E (.ops (⟨d, .field p off x, none⟩ :: os) :: k) .norm ⟨T, D, R, H⟩ Q ↔ quietW E os k T D R H d Q (aQuiet E.O (.field p off x) (Opd.ev T) H) := W_quiet (mapv rfl)
@[simp] theorem W_indexArr (len sz : Nat) (x i : Opd) : W E (.ops (⟨d, .indexArr len sz x i, none⟩ :: os) :: k) .norm ⟨T, D, R, H⟩ Q ↔ quietW E os k T D R H d Q (aQuiet E.O (.indexArr len sz x i) (Opd.ev T) H) := W_quiet (mapv rfl)
@[simp] theorem W_idxStr (x i : Opd) : W E (.ops (⟨d, .idxStr x i, none⟩ :: os) :: k) .norm ⟨T, D, R, H⟩ Q ↔ quietW E os k T D R H d Q (aQuiet E.O (.idxStr x i) (Opd.ev T) H) := W_quiet (mapv rfl)
@[simp] theorem W_idxArr (p : Part) (len sz : Nat) (x i : Opd) : W E (.ops (⟨d, .idxArr p len sz x i, none⟩ :: os) :: k) .norm ⟨T, D, R, H⟩ Q ↔ quietW E os k T D R H d Q (aQuiet E.O (.idxArr p len sz x i) (Opd.ev T) H) := W_quiet (mapv rfl)
@[simp] theorem W_extract (x : Opd) (n : Nat) : W E (.ops (⟨d, .extract x n, none⟩ :: os) :: k) .norm ⟨T, D, R, H⟩ Q ↔ quietW E os k T D R H d Q (aQuiet E.O (.extract x n) (Opd.ev T) H) := W_quiet (mapv rfl)
@[simp] theorem W_assertC (t : Nat) (z : Option AV) (x : Opd) : W E (.ops (⟨d, .assertC t z x, none⟩ :: os) :: k) .norm ⟨T, D, R, H⟩ Q ↔ quietW E os k T D R H d Q (aQuiet E.O (.assertC t z x) (Opd.ev T) H) := W_quiet (mapv rfl)
@[simp] theorem W_lenStr (x : Opd) : W E (.ops (⟨d, .lenStr x, none⟩ :: os) :: k) .norm ⟨T, D, R, H⟩ Q ↔ quietW E os k T D R H d Q (aQuiet E.O (.lenStr x) (Opd.ev T) H) := W_quiet (mapv rfl)
@[simp] theorem W_lenMap (x : Opd) : W E (.ops (⟨d, .lenMap x, none⟩ :: os) :: k) .norm ⟨T, D, R, H⟩ Q ↔ quietW E os k T D R H d Q (aQuiet E.O (.lenMap x) (Opd.ev T) H) := W_quiet (mapv rfl)
@[simp] theorem W_asStr (x : Opd) : W E (.ops (⟨d, .asStr x, none⟩ :: os) :: k) .norm ⟨T, D, R, H⟩ Q ↔ quietW E os k T D R H d Q (aQuiet E.O (.asStr x) (Opd.ev T) H) := W_quiet (mapv rfl)
@[simp] theorem W_lenC (n : Nat) : W E (.ops (⟨d, .lenC n, none⟩ :: os) :: k) .norm ⟨T, D, R, H⟩ Q ↔ quietW E os k T D R H d Q (aQuiet E.O (.lenC n) (Opd.ev T) H) := W_quiet (mapv rfl)
@[simp] theorem W_cap (x : Opd) : W E (.ops (⟨d, .cap x, none⟩ :: os) :: k) .norm ⟨T, D, R, H⟩ Q ↔ quietW E os k T D R H d Q (aQuiet E.O (.cap x) (Opd.ev T) H) := W_quiet (mapv rfl)
@[simp] theorem W_minMax (m : Bool) (xs : List Opd) : W E (.ops (⟨d, .minMax m xs, none⟩ :: os) :: k) .norm ⟨T, D, R, H⟩ Q ↔ quietW E os k T D R H d Q (aQuiet E.O (.minMax m xs) (Opd.ev T) H) := W_quiet (mapv rfl)
@[simp] theorem W_lookup (z : AV) (x y : Opd) (ok : Bool) : W E (.ops (⟨d, .lookup z x y ok, none⟩ :: os) :: k) .norm ⟨T, D, R, H⟩ Q ↔ quietW E os k T D R H d Q (aQuiet E.O (.lookup z x y ok) (Opd.ev T) H) := W_quiet (mapv rfl)
@[simp] theorem W_alloc (z : List AV) : W E (.ops (⟨d, .alloc z, none⟩ :: os) :: k) .norm ⟨T, D, R, H⟩ Q ↔ afterOp E os k T D R d Q (aop E.O (.alloc z) (Opd.ev T) H) := W_eff (by simp only [aop]; repeat' (first | exact trivial | split | (cases (wr _ _ _ _ _)) ))
@[simp] theorem W_box (x : Opd) : W E (.ops (⟨d, .box x, none⟩ :: os) :: k) .norm ⟨T, D, R, H⟩ Q ↔ afterOp E os k T D R d Q (aop E.O (.box x) (Opd.ev T) H) := W_eff (by simp only [aop]; repeat' (first | exact trivial | split | (cases (wr _ _ _ _ _)) ))
@[simp] theorem W_buildSlice (z : List AV) (n : Nat) (ps : List (Nat × Nat × Opd)) : W E (.ops (⟨d, .buildSlice z n ps, none⟩ :: os) :: k) .norm ⟨T, D, R, H⟩ Q ↔ afterOp E os k T D R d Q (aop E.O (.buildSlice z n ps) (Opd.ev T) H) := W_eff (by simp only [aop]; repeat' (first | exact trivial | split | (cases (wr _ _ _ _ _)) ))
@[simp] theorem W_mkMap  : W E (.ops (⟨d, .mkMap, none⟩ :: os) :: k) .norm ⟨T, D, R, H⟩ Q ↔ afterOp E os k T D R d Q (aop E.O (.mkMap) (Opd.ev T) H) := W_eff (by simp only [aop]; repeat' (first | exact trivial | split | (cases (wr _ _ _ _ _)) ))
@[simp] theorem W_iterS (x : Opd) : W E (.ops (⟨d, .iterS x, none⟩ :: os) :: k) .norm ⟨T, D, R, H⟩ Q ↔ afterOp E os k T D R d Q (aop E.O (.iterS x) (Opd.ev T) H) := W_eff (by simp only [aop]; repeat' (first | exact trivial | split | (cases (wr _ _ _ _ _)) ))
@[simp] theorem W_store (n : Nat) (a x : Opd) : W E (.ops (⟨d, .store n a x, none⟩ :: os) :: k) .norm ⟨T, D, R, H⟩ Q ↔ afterOp E os k T D R d Q (aop E.O (.store n a x) (Opd.ev T) H) := W_eff (by simp only [aop]; repeat' (first | exact trivial | split | (cases (wr _ _ _ _ _)) ))
@[simp] theorem W_s2b (x : Opd) : W E (.ops (⟨d, .s2b x, none⟩ :: os) :: k) .norm ⟨T, D, R, H⟩ Q ↔ afterOp E os k T D R d Q (aop E.O (.s2b x) (Opd.ev T) H) := W_eff (by simp only [aop]; repeat' (first | exact trivial | split | (cases (wr _ _ _ _ _)) ))
@[simp] theorem W_mark (x : Opd) : W E (.ops (⟨d, .mark x, none⟩ :: os) :: k) .norm ⟨T, D, R, H⟩ Q ↔ afterOp E os k T D R d Q (aop E.O (.mark x) (Opd.ev T) H) := W_eff (by simp only [aop]; repeat' (first | exact trivial | split | (cases (wr _ _ _ _ _)) ))
@[simp] theorem W_append (sz bytes : Nat) (s x : Opd) : W E (.ops (⟨d, .append sz bytes s x, none⟩ :: os) :: k) .norm ⟨T, D, R, H⟩ Q ↔ afterOp E os k T D R d Q (aop E.O (.append sz bytes s x) (Opd.ev T) H) := W_eff (by simp only [aop]; repeat' (first | exact trivial | split | (cases (wr _ _ _ _ _)) ))
@[simp] theorem W_copy (sz : Nat) (x y : Opd) : W E (.ops (⟨d, .copy sz x y, none⟩ :: os) :: k) .norm ⟨T, D, R, H⟩ Q ↔ afterOp E os k T D R d Q (aop E.O (.copy sz x y) (Opd.ev T) H) := W_eff (by simp only [aop]; repeat' (first | exact trivial | split | (cases (wr _ _ _ _ _)) ))
@[simp] theorem W_mapSet (m x v : Opd) : W E (.ops (⟨d, .mapSet m x v, none⟩ :: os) :: k) .norm ⟨T, D, R, H⟩ Q ↔ afterOp E os k T D R d Q (aop E.O (.mapSet m x v) (Opd.ev T) H) := W_eff (by simp only [aop]; repeat' (first | exact trivial | split | (cases (wr _ _ _ _ _)) ))
@[simp] theorem W_delete (m x : Opd) : W E (.ops (⟨d, .delete m x, none⟩ :: os) :: k) .norm ⟨T, D, R, H⟩ Q ↔ afterOp E os k T D R d Q (aop E.O (.delete m x) (Opd.ev T) H) := W_eff (by simp only [aop]; repeat' (first | exact trivial | split | (cases (wr _ _ _ _ _)) ))
end
end Go.Ab

namespace Go.Ab
open Go

/-- What a function's end comes to. -/
def evalFin (E : Env) (rs : List CRes) (ex : Ex) (s : St) : Option (AEnd × RS × Heap) :=
  match ex with
  | .norm | .ret => match unwind E s.D none s.H with
    | some (none, H') => (readRes E.O s.T H' rs).map fun l => (.ret (result l), s.R, H')
    | some (some v, H') => some (.panic v, s.R, H')
    | none => none
  | .panic v => match unwind E s.D (some v) s.H with
    | some (none, H') => (readRes E.O s.T H' rs).map fun l => (.ret (result l), s.R, H')
    | some (some v, H') => some (.panic v, s.R, H')
    | none => none
  | _ => none

theorem evalF_fin (E : Env) (cf : CFunc) (args : List AV) (R : RS) (H : Heap) : evalF E cf args R H =
    match evalC E cf.code { T := args ++ List.replicate (cf.ntmps - args.length) unset, D := [], R := R, H := H } with
    | some (ex, s) => evalFin E cf.results ex s
    | none => none := by
  unfold evalF evalFin
  cases evalC E cf.code { T := args ++ List.replicate (cf.ntmps - args.length) unset, D := [], R := R, H := H } with
  | none => rfl
  | some r => obtain ⟨ex, s⟩ := r; cases ex <;> rfl

def Fin (E : Env) (rs : List CRes) (Q : AEnd → RS → Heap → Prop) (ex : Ex) (s : St) : Prop := ∃ e R H, evalFin E rs ex s = some (e, R, H) ∧ Q e R H

/-- A function that is known by its code. -/
theorem CallOk.enter {E : Env} {f : Nat} {cf : CFunc} (hf : ∀ args R H, E.call f args R H = evalF E cf args R H) {args : List AV} {R : RS} {H : Heap} {Q : AEnd → RS → Heap → Prop}
    (h : W E [.code cf.code] .norm ⟨args ++ List.replicate (cf.ntmps - args.length) unset, [], R, H⟩ (Fin E cf.results Q)) : CallOk E f args R H Q := by
  obtain ⟨ex, s, h1, e, R', H', h2, h3⟩ := h
  refine ⟨e, R', H', ?_, h3⟩
  rw [hf, evalF_fin]
  simp only [evalK] at h1
  cases hc : evalC E cf.code ⟨args ++ List.replicate (cf.ntmps - args.length) unset, [], R, H⟩ with
  | none => rw [hc] at h1; cases h1
  | some r =>
    obtain ⟨ex1, s1⟩ := r
    rw [hc] at h1
    simp only [Option.some.injEq, Prod.mk.injEq] at h1
    obtain ⟨rfl, rfl⟩ := h1
    exact h2

section
variable {E : Env} {rs : List CRes} {T : List AV} {D : List ADef} {R : RS} {H : Heap} {Q : AEnd → RS → Heap → Prop}

/-- The results. -/
def resW (Q : AEnd → RS → Heap → Prop) (R : RS) (H : Heap) : Option (List AV) → Prop
  | some l => Q (.ret (result l)) R H
  | none => False
@[simp] theorem resW_some {l : List AV} : resW Q R H (some l) ↔ Q (.ret (result l)) R H := Iff.rfl

theorem resW_iff {o : Option (List AV)} : (∃ e R' H', (o.map fun l => ((.ret (result l) : AEnd), R, H)) = some (e, R', H') ∧ Q e R' H') ↔ resW Q R H o := by
  cases o with
  | none => simp [resW]
  | some l =>
    simp only [Option.map_some, Option.some.injEq, Prod.mk.injEq, resW_some]
    constructor
    · rintro ⟨_, _, _, ⟨rfl, rfl, rfl⟩, h⟩; exact h
    · exact fun h => ⟨_, _, _, ⟨rfl, rfl, rfl⟩, h⟩

@[simp] theorem Fin_norm : Fin E rs Q .norm ⟨T, [], R, H⟩ ↔ resW Q R H (readRes E.O T H rs) := by
  unfold Fin; simp only [evalFin, Ab.unwind]; exact resW_iff
@[simp] theorem Fin_ret : Fin E rs Q .ret ⟨T, [], R, H⟩ ↔ resW Q R H (readRes E.O T H rs) := by
  unfold Fin; simp only [evalFin, Ab.unwind]; exact resW_iff
@[simp] theorem Fin_panic {v : AV} : Fin E rs Q (.panic v) ⟨T, [], R, H⟩ ↔ Q (.panic v) R H := by
  unfold Fin; simp only [evalFin, Ab.unwind, Option.some.injEq, Prod.mk.injEq]
  constructor
  · rintro ⟨_, _, _, ⟨rfl, rfl, rfl⟩, h⟩; exact h
  · exact fun h => ⟨_, _, _, ⟨rfl, rfl, rfl⟩, h⟩

/-- Behind a deferred call, no panic. -/
def finRet (E : Env) (rs : List CRes) (T : List AV) (D : List ADef) (R : RS) (Q : AEnd → RS → Heap → Prop) (e : AEnd) (_ : RS) (H : Heap) : Prop :=
  match e with
  | .ret _ => Fin E rs Q .ret ⟨T, D, R, H⟩
  | .panic v => Fin E rs Q (.panic v) ⟨T, D, R, H⟩
@[simp] theorem finRet_ret {v : AV} {R' : RS} : finRet E rs T D R Q (.ret v) R' H ↔ Fin E rs Q .ret ⟨T, D, R, H⟩ := Iff.rfl
@[simp] theorem finRet_panic {v : AV} {R' : RS} : finRet E rs T D R Q (.panic v) R' H ↔ Fin E rs Q (.panic v) ⟨T, D, R, H⟩ := Iff.rfl
/-- Behind a deferred call, a panic: is it there still? -/
def finPan (E : Env) (rs : List CRes) (T : List AV) (D : List ADef) (R : RS) (p : AV) (Q : AEnd → RS → Heap → Prop) (e : AEnd) (R' : RS) (H : Heap) : Prop :=
  match e, R' with
  | .ret _, .can _ => Fin E rs Q (.panic p) ⟨T, D, R, H⟩
  | .ret _, .done => Fin E rs Q .ret ⟨T, D, R, H⟩
  | _, _ => False
@[simp] theorem finPan_can {v p q : AV} : finPan E rs T D R p Q (.ret v) (.can q) H ↔ Fin E rs Q (.panic p) ⟨T, D, R, H⟩ := Iff.rfl
@[simp] theorem finPan_done {v p : AV} : finPan E rs T D R p Q (.ret v) .done H ↔ Fin E rs Q .ret ⟨T, D, R, H⟩ := Iff.rfl

theorem Fin_ret_call {f : Nat} {args : List AV} (hd : E.defers f = true) (h : CallOk E f args .no H (finRet E rs T D R Q)) : Fin E rs Q .ret ⟨T, .call f args :: D, R, H⟩ := by
  obtain ⟨e, R', H', h1, h2⟩ := h
  cases e with
  | ret v =>
    obtain ⟨e, R2, H2, h3, h4⟩ := h2
    refine ⟨e, R2, H2, ?_, h4⟩
    rw [← h3]
    simp only [evalFin, Ab.unwind, hd, if_true, h1]
  | panic v =>
    obtain ⟨e, R2, H2, h3, h4⟩ := h2
    refine ⟨e, R2, H2, ?_, h4⟩
    rw [← h3]
    simp only [evalFin, Ab.unwind, hd, if_true, h1]
theorem Fin_norm_call {f : Nat} {args : List AV} (hd : E.defers f = true) (h : CallOk E f args .no H (finRet E rs T D R Q)) : Fin E rs Q .norm ⟨T, .call f args :: D, R, H⟩ := Fin_ret_call hd h
theorem Fin_panic_call {f : Nat} {args : List AV} {p : AV} (hd : E.defers f = true) (h : CallOk E f args (.can p) H (finPan E rs T D R p Q)) : Fin E rs Q (.panic p) ⟨T, .call f args :: D, R, H⟩ := by
  obtain ⟨e, R', H', h1, h2⟩ := h
  unfold finPan at h2
  split at h2
  · obtain ⟨e, R2, H2, h3, h4⟩ := h2
    refine ⟨e, R2, H2, ?_, h4⟩
    rw [← h3]
    simp only [evalFin, Ab.unwind, hd, if_true, h1]
  · obtain ⟨e, R2, H2, h3, h4⟩ := h2
    refine ⟨e, R2, H2, ?_, h4⟩
    rw [← h3]
    simp only [evalFin, Ab.unwind, hd, if_true, h1]
  · exact h2.elim
end

/-- A loop's round, for a program that is run. -/
theorem W_loop {p : Prog} {k : List K} {c : CCode} {s : St} {Q : Ex → St → Prop} : W p.env (.code (.loop c) :: k) .norm s Q ↔ W p.env (.code c :: .code (.loop c) :: k) .norm s Q := by
  refine W_iff ?_
  simp only [evalK, evalC]
  cases h : evalC p.env c s with
  | none => rfl
  | some r =>
    obtain ⟨ex, s'⟩ := r
    cases ex <;> try rfl
    simp only
    rw [p.loop_eq c s']
    cases evalC p.env c s' with
    | none => rfl
    | some r => obtain ⟨ex, s2⟩ := r; cases ex <;> rfl

section draw
variable {E : Env} {n base : Nat} {dsts : List Nat}

/-- Does each effect stand behind all that was read and made ahead of it? -/
def simpleD : List Nat → List DItem → Bool
  | _, [] => true
  | seen, it :: rest => match it.cls with
    | .eff => seen.all (it.anc.contains ·) && it.stops && simpleD seen rest
    | .read | .new => simpleD (it.idx :: seen) rest
    | _ => simpleD seen rest

theorem Tr.set_get {α : Type} {t : Tr α} {i j : Nat} {x : Option α} : (setO t i x).get j = match x with | some y => if j = i then some y else t.get j | none => t.get j := by
  cases x with
  | none => rfl
  | some y => exact Tr.get_set _ _ _ _

theorem keepN_nil {reads : Tr Rd} {sel : Nat → Bool} (h : ∀ i, sel i = false → reads.get i = none) : ∀ n, keepN reads sel n = .nil
  | 0 => rfl
  | n + 1 => by
    simp only [keepN, keepN_nil h n]
    cases hs : sel n with
    | true => rfl
    | false => simp [h n hs]
theorem dropN_nil {pend : Tr AObj} {sel : Nat → Bool} (h : ∀ i, sel i = false → pend.get i = none) : ∀ n, dropN pend sel n = .nil
  | 0 => rfl
  | n + 1 => by
    simp only [dropN, dropN_nil h n]
    cases hs : sel n with
    | true => rfl
    | false => simp [h n hs]
theorem mergeN_all {pend : Tr AObj} {sel : Nat → Bool} (h : ∀ i, sel i = false → pend.get i = none) (base : Nat) (H : Heap) : ∀ n, mergeN base pend sel n H = mergeN base pend (fun _ => true) n H
  | 0 => rfl
  | n + 1 => by
    simp only [mergeN, mergeN_all h base H n]
    cases hs : sel n with
    | true => rfl
    | false => simp [h n hs]
theorem validN_nil (H : Heap) : ∀ n, validN .nil H n = true
  | 0 => rfl
  | n + 1 => by simp [validN, validN_nil H n, Tr.get]
@[simp] theorem mergeN_nil (base : Nat) (sel : Nat → Bool) (H : Heap) : ∀ n, mergeN base .nil sel n H = H
  | 0 => rfl
  | n + 1 => by simp only [mergeN, mergeN_nil base sel H n]; cases sel n <;> rfl

theorem doOp_ex {o : COper} {s s' : St} {ex : Ex} (h : doOp E o s = some (ex, s')) : ex = .norm ∨ ∃ v, ex = .panic v := by
  unfold doOp at h
  split at h
  · cases h
  · simp only [Option.some.injEq, Prod.mk.injEq] at h; exact .inl h.1.symm
  · split at h
    · cases h
    · simp only [Option.some.injEq, Prod.mk.injEq] at h; exact .inl h.1.symm
    · simp only [Option.some.injEq, Prod.mk.injEq] at h; exact .inl h.1.symm
    · split at h <;> first | (cases h; done) | (simp only [Option.some.injEq, Prod.mk.injEq] at h; first | exact .inl h.1.symm | exact .inr ⟨_, h.1.symm⟩)
    · split at h <;> first | (cases h; done) | (simp only [Option.some.injEq, Prod.mk.injEq] at h; first | exact .inl h.1.symm | exact .inr ⟨_, h.1.symm⟩)
    · simp only [Option.some.injEq, Prod.mk.injEq] at h; exact .inr ⟨_, h.1.symm⟩
    · split at h <;> first | (cases h; done) | (simp only [Option.some.injEq, Prod.mk.injEq] at h; first | exact .inl h.1.symm | exact .inr ⟨_, h.1.symm⟩)
    · split at h <;> first | (cases h; done) | (simp only [Option.some.injEq, Prod.mk.injEq] at h; first | exact .inl h.1.symm | exact .inr ⟨_, h.1.symm⟩)

theorem light_some {O : Old} {it : DItem} {T : List AV} {H : Heap} {r : Option Rd × Option AObj × AV} (h : light O base it T H = some r) :
    (r.1 = none ∨ it.cls = .read) ∧ (r.2.1 = none ∨ it.cls = .new) := by
  unfold light at h
  split at h
  · cases h
  · simp only [Option.some.injEq] at h; subst h; exact ⟨.inl rfl, .inl rfl⟩
  · split at h
    · simp only [Option.map_eq_some_iff] at h; obtain ⟨v, _, rfl⟩ := h; exact ⟨.inl rfl, .inl rfl⟩
    · simp only [Option.map_eq_some_iff] at h; obtain ⟨v, _, rfl⟩ := h; exact ⟨.inl rfl, .inl rfl⟩
    · rename_i hc; simp only [Option.map_eq_some_iff] at h; obtain ⟨v, _, rfl⟩ := h; exact ⟨.inr hc, .inl rfl⟩
    · rename_i hc; simp only [Option.map_eq_some_iff] at h; obtain ⟨v, _, rfl⟩ := h; exact ⟨.inl rfl, .inr hc⟩
    · cases h

theorem drawGo_eq : ∀ (items : List DItem) (seen : List Nat) (reads : Tr Rd) (pend : Tr AObj) (s : St), simpleD seen items = true →
    (∀ i, i ∉ seen → reads.get i = none) → (∀ i, i ∉ seen → pend.get i = none) → drawGo E n base dsts items reads pend s = drawS E n base dsts items pend s
  | [], _, _, _, _, _, _, _ => rfl
  | it :: rest, seen, reads, pend, s, h, hr, hp => by
    simp only [drawGo, drawS, dstep]
    by_cases hh : heavy it s.T = true
    · rw [if_pos hh, if_pos hh]
      have hc : it.cls = .eff := by simp [heavy] at hh; exact hh.1
      simp only [simpleD, hc, Bool.and_eq_true, List.all_eq_true] at h
      obtain ⟨⟨h1, h2⟩, h3⟩ := h
      have hsel : ∀ i, inAnc it i = false → i ∉ seen := fun i hi hm => by
        have := h1 i hm
        simp only [inAnc] at hi
        rw [hi] at this; cases this
      rw [mergeN_all (fun i hi => hp i (hsel i hi)), keepN_nil (fun i hi => hr i (hsel i hi)), dropN_nil (fun i hi => hp i (hsel i hi))]
      cases ho : doOp E it.op { s with H := mergeN base pend (fun _ => true) n s.H } with
      | none => rfl
      | some q =>
        obtain ⟨ex, s'⟩ := q
        rcases doOp_ex ho with rfl | ⟨v, rfl⟩
        · simp only [validN_nil, if_true]
          exact drawGo_eq rest seen .nil .nil s' h3 (fun _ _ => rfl) (fun _ _ => rfl)
        · simp only [h2, if_true]
    · rw [if_neg hh, if_neg hh]
      cases hl : light E.O base it s.T s.H with
      | none => rfl
      | some r =>
        simp only [Option.map_some]
        obtain ⟨h1, h2⟩ := light_some hl
        have hnew : ∀ (seen' : List Nat), simpleD seen' rest = true → (∀ i, i ∈ seen → i ∈ seen') → (it.cls = .read ∨ it.cls = .new → it.idx ∈ seen') →
            drawGo E n base dsts rest (setO reads it.idx r.1) (setO pend it.idx r.2.1) (s.put it.op.dst r.2.2) = drawS E n base dsts rest (setO pend it.idx r.2.1) (s.put it.op.dst r.2.2) := by
          intro seen' hs hm hi
          refine drawGo_eq rest seen' _ _ _ hs ?_ ?_
          · intro i hn
            rw [Tr.set_get]
            rcases h1 with h1 | h1
            · rw [h1]; exact hr i fun h => hn (hm i h)
            · cases r.1 with
              | none => exact hr i fun h => hn (hm i h)
              | some y => simp only; rw [if_neg (by rintro rfl; exact hn (hi (.inl h1)))]; exact hr i fun h => hn (hm i h)
          · intro i hn
            rw [Tr.set_get]
            rcases h2 with h2 | h2
            · rw [h2]; exact hp i fun h => hn (hm i h)
            · cases r.2.1 with
              | none => exact hp i fun h => hn (hm i h)
              | some y => simp only; rw [if_neg (by rintro rfl; exact hn (hi (.inr h2)))]; exact hp i fun h => hn (hm i h)
        simp only [simpleD] at h
        split at h
        · rename_i hc
          simp only [Bool.and_eq_true] at h
          exact hnew seen h.2 (fun _ h => h) (by rw [hc]; rintro (h | h) <;> cases h)
        · exact hnew _ h (fun _ h => List.mem_cons_of_mem _ h) (fun _ => List.mem_cons_self)
        · exact hnew _ h (fun _ h => List.mem_cons_of_mem _ h) (fun _ => List.mem_cons_self)
        · rename_i h1 h2 h3
          exact hnew seen h (fun _ h => h) (by rintro (h | h); exact absurd h (by assumption); exact absurd h (by assumption))
end draw

section drawW
variable {E : Env} {k : List K} {T : List AV} {D : List ADef} {R : RS} {H : Heap} {Q : Ex → St → Prop} {n base : Nat} {dsts : List Nat} {pend : Tr AObj} {it : DItem} {items : List DItem}

@[simp] theorem W_draws (h : simpleD [] items = true) : W E (.code (.draws n items) :: k) .norm ⟨T, D, R, H⟩ Q ↔ W E (.draw n H.next (dstsOf items) items .nil :: k) .norm ⟨T, D, R, { H with next := H.next + n }⟩ Q := by
  refine W_iff ?_
  simp only [evalK, evalC, doDraws]
  rw [drawGo_eq items [] .nil .nil _ h (fun _ _ => rfl) (fun _ _ => rfl)]
@[simp] theorem W_draw_nil : W E (.draw n base dsts [] pend :: k) .norm ⟨T, D, R, H⟩ Q ↔ W E k .norm ⟨T, D, R, mergeN base pend (fun _ => true) n H⟩ Q := W_iff rfl
@[simp] theorem W_draw_exit {i : Nat} {s : St} : W E (.draw n base dsts items pend :: k) (.exit i) s Q ↔ W E k (.exit i) s Q := W_iff rfl
@[simp] theorem W_draw_ret {s : St} : W E (.draw n base dsts items pend :: k) .ret s Q ↔ W E k .ret s Q := W_iff rfl
@[simp] theorem W_draw_panic {v : AV} {s : St} : W E (.draw n base dsts items pend :: k) (.panic v) s Q ↔ W E k (.panic v) s Q := W_iff rfl
@[simp] theorem W_dpanic_norm {s : St} : W E (.dpanic dsts :: k) .norm s Q ↔ W E k .norm s Q := W_iff rfl
@[simp] theorem W_dpanic {v : AV} : W E (.dpanic dsts :: k) (.panic v) ⟨T, D, R, H⟩ Q ↔ W E k (.panic v) ⟨killT T dsts, D, R, H⟩ Q := W_iff rfl

def lightW (E : Env) (n base : Nat) (dsts : List Nat) (items : List DItem) (pend : Tr AObj) (k : List K) (idx : Nat) (d : Option Nat) (T : List AV) (D : List ADef) (R : RS) (H : Heap) (Q : Ex → St → Prop) : Option (Option Rd × Option AObj × AV) → Prop
  | some (_, o, v) => W E (.draw n base dsts items (setO pend idx o) :: k) .norm ⟨put T d v, D, R, H⟩ Q
  | none => False
@[simp] theorem lightW_some {idx : Nat} {d : Option Nat} {r : Option Rd} {v : AV} : lightW E n base dsts items pend k idx d T D R H Q (some (r, none, v)) ↔
    W E (.draw n base dsts items pend :: k) .norm ⟨put T d v, D, R, H⟩ Q := Iff.rfl
@[simp] theorem lightW_new {idx : Nat} {d : Option Nat} {r : Option Rd} {v : AV} {o : AObj} : lightW E n base dsts items pend k idx d T D R H Q (some (r, some o, v)) ↔
    W E (.draw n base dsts items (pend.set idx o) :: k) .norm ⟨put T d v, D, R, H⟩ Q := Iff.rfl

theorem W_draw_light (h : heavy it T = false) : W E (.draw n base dsts (it :: items) pend :: k) .norm ⟨T, D, R, H⟩ Q ↔ lightW E n base dsts items pend k it.idx it.op.dst T D R H Q (light E.O base it T H) := by
  cases hl : light E.O base it T H with
  | none =>
    simp only [lightW, iff_false]
    rintro ⟨ex, s', h1, _⟩
    simp [evalK, drawS, h, hl] at h1
  | some r =>
    obtain ⟨a, b, c⟩ := r
    refine W_iff ?_
    simp [evalK, drawS, h, hl, St.put]

@[simp] theorem W_draw_quiet {i : Nat} {o : COper} {anc : List Nat} {st : Bool} : W E (.draw n base dsts (⟨i, o, .quiet, anc, st⟩ :: items) pend :: k) .norm ⟨T, D, R, H⟩ Q ↔
    lightW E n base dsts items pend k i o.dst T D R H Q (light E.O base ⟨i, o, .quiet, [], false⟩ T H) := W_draw_light (by simp [heavy])
@[simp] theorem W_draw_sure {i : Nat} {o : COper} {anc : List Nat} {st : Bool} : W E (.draw n base dsts (⟨i, o, .sure, anc, st⟩ :: items) pend :: k) .norm ⟨T, D, R, H⟩ Q ↔
    lightW E n base dsts items pend k i o.dst T D R H Q (light E.O base ⟨i, o, .sure, [], false⟩ T H) := W_draw_light (by simp [heavy])
@[simp] theorem W_draw_read {i : Nat} {o : COper} {anc : List Nat} {st : Bool} : W E (.draw n base dsts (⟨i, o, .read, anc, st⟩ :: items) pend :: k) .norm ⟨T, D, R, H⟩ Q ↔
    lightW E n base dsts items pend k i o.dst T D R H Q (light E.O base ⟨i, o, .read, [], false⟩ T H) := W_draw_light (by simp [heavy])
@[simp] theorem W_draw_new {i : Nat} {o : COper} {anc : List Nat} {st : Bool} : W E (.draw n base dsts (⟨i, o, .new, anc, st⟩ :: items) pend :: k) .norm ⟨T, D, R, H⟩ Q ↔
    lightW E n base dsts items pend k i o.dst T D R H Q (light E.O base ⟨i, o, .new, [], false⟩ T H) := W_draw_light (by simp [heavy])

/-- An operation with effect: is it wanted? -/
def effW (E : Env) (n base : Nat) (dsts : List Nat) (items : List DItem) (pend : Tr AObj) (k : List K) (o : COper) (T : List AV) (D : List ADef) (R : RS) (H : Heap) (Q : Ex → St → Prop) : Option Bool → Prop
  | some true => W E (.ops [⟨o.dst, o.op, none⟩] :: .dpanic dsts :: .draw n base dsts items .nil :: k) .norm ⟨T, D, R, mergeN base pend (fun _ => true) n H⟩ Q
  | some false => W E (.draw n base dsts items pend :: k) .norm ⟨put T o.dst unset, D, R, H⟩ Q
  | none => False
@[simp] theorem effW_true {o : COper} : effW E n base dsts items pend k o T D R H Q (some true) ↔ W E (.ops [⟨o.dst, o.op, none⟩] :: .dpanic dsts :: .draw n base dsts items .nil :: k) .norm ⟨T, D, R, mergeN base pend (fun _ => true) n H⟩ Q := Iff.rfl
@[simp] theorem effW_false {o : COper} : effW E n base dsts items pend k o T D R H Q (some false) ↔ W E (.draw n base dsts items pend :: k) .norm ⟨put T o.dst unset, D, R, H⟩ Q := Iff.rfl
@[simp] theorem W_draw_eff {i : Nat} {o : COper} {anc : List Nat} {st : Bool} : W E (.draw n base dsts (⟨i, o, .eff, anc, st⟩ :: items) pend :: k) .norm ⟨T, D, R, H⟩ Q ↔
    effW E n base dsts items pend k o T D R H Q (want T o.guard) := by
  cases hw : want T o.guard with
  | none =>
    simp only [effW, iff_false]
    rintro ⟨ex, s', h1, _⟩
    simp [evalK, drawS, heavy, light, hw] at h1
  | some b =>
    cases b with
    | false => refine W_iff ?_; simp [evalK, drawS, heavy, light, hw, St.put, setO]
    | true =>
      refine W_iff ?_
      have hdo : ∀ s : St, s.T = T → doOp E o s = doOp E ⟨o.dst, o.op, none⟩ s := by
        rintro s rfl
        have hn : want s.T none = some true := rfl
        simp only [doOp, hw, hn]
      simp only [evalK, drawS, heavy, hw, doOps]
      simp only [decide_true, Bool.true_and, beq_self_eq_true, if_true]
      rw [hdo _ rfl]
      cases ho : doOp E ⟨o.dst, o.op, none⟩ ⟨T, D, R, mergeN base pend (fun _ => true) n H⟩ with
      | none => rfl
      | some q =>
        obtain ⟨ex, s'⟩ := q
        rcases doOp_ex ho with rfl | ⟨v, rfl⟩ <;> rfl
end drawW
end Go.Ab

namespace Go.Ab
open Go

/-! Named parts of the operations, and what they come to. -/

def aLen : AV → Option AV
  | .nils => some (.int .i64 0)
  | .eslice => some (.int .i64 0)
  | .slice _ _ _ len _ => some (.int .i64 len)
  | .slab _ _ _ len _ _ => some (.int .i64 len)
  | .oslice _ _ len _ => some (.int .i64 len)
  | _ => none
def aSliceSl (sz : Nat) (x : AV) (lo hi : Option AV) : Option AV :=
  let g (d : Nat) (y : Option AV) : Option Nat := match y with | none => some d | some v => asN v
  match x with
    | .nils => match g 0 lo, g 0 hi with
      | some 0, some 0 => some .nils
      | _, _ => none
    | .slice i v o len cap => match g 0 lo, g len hi with
      | some l, some h => if l ≤ h ∧ h ≤ cap then some (if cap = l then .slice i v o (h - l) 0 else .slice i v (o + l * sz) (h - l) (cap - l)) else none
      | _, _ => none
    | .oslice b o len cap => match g 0 lo, g len hi with
      | some l, some h => if l ≤ h ∧ h ≤ cap then some (if cap = l then .oslice b o (h - l) 0 else .oslice b (o + l * sz) (h - l) (cap - l)) else none
      | _, _ => none
    | .slab i v o len cap s' => match g 0 lo, g len hi with
      | some l, some h => if l ≤ h ∧ h ≤ cap ∧ s' = sz then (if l < cap then some (.slab i v (o + l * sz) (h - l) (cap - l) sz) else if l = h then some .eslice else none) else none
      | _, _ => none
    | _ => none

section
variable {E : Env} {k : List K} {T : List AV} {D : List ADef} {R : RS} {H : Heap} {Q : Ex → St → Prop} {d : Option Nat} {os : List COper} {O : Old} {ev : Opd → AV}

theorem aQ_len {x : Opd} : aQuiet O (.len x) ev H = aLen (ev x) := by
  show (match ev x with | .nils => _ | .eslice => _ | .slice _ _ _ len _ => _ | .slab _ _ _ len _ _ => _ | .oslice _ _ len _ => _ | _ => none) = _
  cases ev x <;> rfl
theorem aQ_indexSl {sz : Nat} {x i : Opd} : aQuiet O (.indexSl sz x i) ev H = aIndexSl sz (ev x) (ev i) := rfl
theorem aQ_sliceSl {sz : Nat} {x : Opd} {lo hi : Option Opd} : aQuiet O (.sliceSl sz x lo hi) ev H = aSliceSl sz (ev x) (lo.map ev) (hi.map ev) := by
  have h : ∀ (n : Nat) (y : Option Opd), optN ev n y = (match y.map ev with | none => some n | some v => asN v) := by
    intro n y; cases y <;> rfl
  simp only [aQuiet, aSliceSl, h]
  cases ev x <;> rfl

theorem rd_one_ptr {i v off : Nat} : rd O H (.ptr i v off) .one = match H.get i with
    | some (.cells ver l _) => if ver = v then l[off]? else none
    | _ => none := by
  simp only [rd, rdCells]
  cases H.get i with
  | none => rfl
  | some o =>
    cases o <;> try rfl
    rename_i ver l f
    simp only
    by_cases h : ver = v
    · simp only [h, if_true, cut]
      cases hl : l[off]? with
      | none =>
        have : l.length ≤ off := List.getElem?_eq_none_iff.1 hl
        rw [List.drop_eq_nil_of_le this]; simp
      | some a =>
        obtain ⟨hlt, rfl⟩ := List.getElem?_eq_some_iff.1 hl
        have h1 : min 1 (l.length - off) = 1 := by omega
        simp only [List.length_take, List.length_drop, h1, if_true]
        have e : List.take 1 (List.drop off l) = [l[off]] := by rw [List.drop_eq_getElem_cons hlt]; rfl
        rw [e]
    · simp [h]
theorem rd_one_optr {b off : Nat} : rd O H (.optr b off) .one = match O b with
    | some l => l[off]?
    | none => none := by
  simp only [rd, rdCells]
  cases O b with
  | none => rfl
  | some l =>
    simp only [cut]
    cases hl : l[off]? with
    | none =>
      have : l.length ≤ off := List.getElem?_eq_none_iff.1 hl
      rw [List.drop_eq_nil_of_le this]; simp
    | some a =>
      obtain ⟨hlt, rfl⟩ := List.getElem?_eq_some_iff.1 hl
      have h1 : min 1 (l.length - off) = 1 := by omega
      simp only [List.length_take, List.length_drop, h1, if_true]
      have e : List.take 1 (List.drop off l) = [l[off]] := by rw [List.drop_eq_getElem_cons hlt]; rfl
      rw [e]
theorem rd_many_ptr {i v off n : Nat} : rd O H (.ptr i v off) (.many n) = match H.get i with
    | some (.cells ver l _) => if ver = v then (cut l off n).map .agg else none
    | _ => none := by
  simp only [rd, rdCells]
  cases H.get i with
  | none => rfl
  | some o =>
    cases o <;> try rfl
    rename_i ver l f
    simp only
    by_cases h : ver = v
    · simp only [h, if_true]; cases cut l off n <;> rfl
    · simp [h]
theorem rd_many_optr {b off n : Nat} : rd O H (.optr b off) (.many n) = match O b with
    | some l => (cut l off n).map .agg
    | none => none := by
  simp only [rd, rdCells]
  cases O b with
  | none => rfl
  | some l => simp only; cases cut l off n <;> rfl

theorem over_one {l : List AV} {off : Nat} {x : AV} : over l off [x] = if off < l.length then some (l.set off x) else none := by
  unfold over
  by_cases h : off < l.length
  · rw [if_pos h, if_pos (by simp; omega)]
    simp [List.set_eq_take_append_cons_drop, h]
  · rw [if_neg h, if_neg (by simp; omega)]

/-- A store at one cell. -/
def aStore1 (H : Heap) (i v o : Nat) (x : AV) : Option Heap :=
  match H.get i with
  | some (.cells ver l full) => if ver = v ∧ o < l.length then some (H.set i (.cells ver (l.set o x) full)) else none
  | _ => none

theorem wr_one {i v o : Nat} {x : AV} : wr H i v o [x] = aStore1 H i v o x := by
  unfold wr aStore1
  cases H.get i with
  | none => rfl
  | some ob =>
    cases ob <;> try rfl
    rename_i ver l f
    simp only [over_one]
    by_cases h1 : ver = v
    · by_cases h2 : o < l.length <;> simp [h1, h2]
    · simp [h1]

theorem wrap64 {x : Int} (h1 : -9223372036854775808 ≤ x) (h2 : x < 9223372036854775808) : IntKind.i64.wrap x = x := by simp only [IntKind.wrap, IntKind.signed, IntKind.bits]; simp; omega
theorem wrapU64 {x : Int} (h1 : 0 ≤ x) (h2 : x < 18446744073709551616) : IntKind.u64.wrap x = x := by simp only [IntKind.wrap, IntKind.signed, IntKind.bits]; simp; omega
theorem wrapU16 {x : Int} (h1 : 0 ≤ x) (h2 : x < 65536) : IntKind.u16.wrap x = x := by simp only [IntKind.wrap, IntKind.signed, IntKind.bits]; simp; omega
theorem wrapU32 {x : Int} (h1 : 0 ≤ x) (h2 : x < 4294967296) : IntKind.u32.wrap x = x := by simp only [IntKind.wrap, IntKind.signed, IntKind.bits]; simp; omega
theorem wrapU8 {x : Int} (h1 : 0 ≤ x) (h2 : x < 256) : IntKind.u8.wrap x = x := by simp only [IntKind.wrap, IntKind.signed, IntKind.bits]; simp; omega
end
end Go.Ab
namespace Go.Ab
open Go
/-- A slot. -/
def slot (T : List AV) (n : Nat) : AV := T.getD n .undef
section
variable {T : List AV} {O : Old} {H : Heap}
@[simp] theorem slot_zero (a : AV) (l : List AV) : slot (a :: l) 0 = a := rfl
@[simp] theorem slot_succ (a : AV) (l : List AV) (n : Nat) : slot (a :: l) (n + 1) = slot l n := rfl
theorem slot_set (m n : Nat) (v : AV) : slot (T.set m v) n = if m = n then (if n < T.length then v else .undef) else slot T n := by
  unfold slot
  rw [List.getD_eq_getElem?_getD, List.getD_eq_getElem?_getD, List.getElem?_set]
  by_cases h : m = n
  · subst h
    by_cases h2 : m < T.length <;> simp [h2]
  · simp [h]
@[simp] theorem ev_t (n : Nat) : Opd.ev T (.t n) = slot T n := rfl
@[simp] theorem ev_c (v : AV) : Opd.ev T (.c v) = v := rfl
@[simp] theorem ev_g (b : Nat) : Opd.ev T (.g b) = .optr b 0 := rfl
@[simp] theorem ev_f (f : Nat) : Opd.ev T (.f f) = .func (.func f) [] [] := rfl
def wantV (b : Bool) : AV → Option Bool
  | .bool c => some (c == b)
  | .tuple [] => some false
  | _ => none
@[simp] theorem wantV_bool (b c : Bool) : wantV b (.bool c) = some (c == b) := rfl
@[simp] theorem wantV_unset (b : Bool) : wantV b (.tuple []) = some false := rfl
@[simp] theorem want_none : want T none = some true := rfl
@[simp] theorem want_some (t : Nat) (b : Bool) : want T (some (t, b)) = wantV b (slot T t) := by
  show (match T.getD t .undef with | .bool c => some (c == b) | .tuple [] => some false | _ => none) = wantV b (T.getD t .undef)
  generalize T.getD t .undef = x
  cases x with
  | tuple l => cases l <;> rfl
  | _ => rfl
@[simp] theorem readRes_nil : readRes O T H [] = some [] := rfl
@[simp] theorem readRes_tmp (t : Nat) (rs : List CRes) : readRes O T H (.tmp t :: rs) = (readRes O T H rs).map (slot T t :: ·) := rfl
@[simp] theorem readRes_cell (t : Nat) (p : Part) (rs : List CRes) : readRes O T H (.cell t p :: rs) = match rd O H (slot T t) p, readRes O T H rs with
    | some v, some l => some (v :: l)
    | _, _ => none := rfl
end
end Go.Ab
namespace Go.Ab
open Go
@[simp] theorem aLen_nils : aLen .nils = some (.int .i64 0) := rfl
@[simp] theorem aLen_eslice : aLen .eslice = some (.int .i64 0) := rfl
@[simp] theorem aLen_slice {i v o n c : Nat} : aLen (.slice i v o n c) = some (.int .i64 n) := rfl
@[simp] theorem aLen_slab {i v o n c s : Nat} : aLen (.slab i v o n c s) = some (.int .i64 n) := rfl
@[simp] theorem aLen_oslice {b o n c : Nat} : aLen (.oslice b o n c) = some (.int .i64 n) := rfl
@[simp] theorem aIndexSl_slice {sz i v o n c : Nat} {x : AV} : aIndexSl sz (.slice i v o n c) x = match asN x with
  | some j => if j < n then some (.ptr i v (o + j * sz)) else none
  | none => none := rfl
@[simp] theorem aIndexSl_slab {sz i v o n c s : Nat} {x : AV} : aIndexSl sz (.slab i v o n c s) x = match asN x with
  | some j => if j < n then some (.ptr i v (o + j * sz)) else none
  | none => none := rfl
@[simp] theorem aIndexSl_oslice {sz b o n c : Nat} {x : AV} : aIndexSl sz (.oslice b o n c) x = match asN x with
  | some j => if j < n then some (.optr b (o + j * sz)) else none
  | none => none := rfl
/-- A bound of a slice expression. -/
def bnd (d : Nat) : Option AV → Option Nat
  | none => some d
  | some v => asN v
@[simp] theorem bnd_none (d : Nat) : bnd d none = some d := rfl
@[simp] theorem bnd_some (d : Nat) (v : AV) : bnd d (some v) = asN v := rfl
@[simp] theorem aSliceSl_nils {sz : Nat} {lo hi : Option AV} : aSliceSl sz .nils lo hi = match bnd 0 lo, bnd 0 hi with
  | some 0, some 0 => some .nils
  | _, _ => none := by cases lo <;> cases hi <;> rfl
@[simp] theorem aSliceSl_slice {sz i v o len cap : Nat} {lo hi : Option AV} : aSliceSl sz (.slice i v o len cap) lo hi = match bnd 0 lo, bnd len hi with
  | some l, some h => if l ≤ h ∧ h ≤ cap then some (if cap = l then .slice i v o (h - l) 0 else .slice i v (o + l * sz) (h - l) (cap - l)) else none
  | _, _ => none := by cases lo <;> cases hi <;> rfl
@[simp] theorem aSliceSl_oslice {sz b o len cap : Nat} {lo hi : Option AV} : aSliceSl sz (.oslice b o len cap) lo hi = match bnd 0 lo, bnd len hi with
  | some l, some h => if l ≤ h ∧ h ≤ cap then some (if cap = l then .oslice b o (h - l) 0 else .oslice b (o + l * sz) (h - l) (cap - l)) else none
  | _, _ => none := by cases lo <;> cases hi <;> rfl
@[simp] theorem aSliceSl_slab {sz i v o len cap s' : Nat} {lo hi : Option AV} : aSliceSl sz (.slab i v o len cap s') lo hi = match bnd 0 lo, bnd len hi with
  | some l, some h => if l ≤ h ∧ h ≤ cap ∧ s' = sz then (if l < cap then some (.slab i v (o + l * sz) (h - l) (cap - l) sz) else if l = h then some .eslice else none) else none
  | _, _ => none := by cases lo <;> cases hi <;> rfl
end Go.Ab
namespace Go.Ab
open Go
section
variable {E : Env} {k : List K} {T : List AV} {D : List ADef} {R : RS} {H : Heap} {Q : Ex → St → Prop} {d : Option Nat} {os : List COper}
@[simp] theorem W_len (x : Opd) : W E (.ops (⟨d, .len x, none⟩ :: os) :: k) .norm ⟨T, D, R, H⟩ Q ↔ quietW E os k T D R H d Q (aLen (Opd.ev T x)) := by rw [W_quiet (mapv rfl), aQ_len]
@[simp] theorem W_indexSl (sz : Nat) (x i : Opd) : W E (.ops (⟨d, .indexSl sz x i, none⟩ :: os) :: k) .norm ⟨T, D, R, H⟩ Q ↔ quietW E os k T D R H d Q (aIndexSl sz (Opd.ev T x) (Opd.ev T i)) := by rw [W_quiet (mapv rfl), aQ_indexSl]
@[simp] theorem W_sliceSl (sz : Nat) (x : Opd) (lo hi : Option Opd) : W E (.ops (⟨d, .sliceSl sz x lo hi, none⟩ :: os) :: k) .norm ⟨T, D, R, H⟩ Q ↔ quietW E os k T D R H d Q (aSliceSl sz (Opd.ev T x) (lo.map (Opd.ev T)) (hi.map (Opd.ev T))) := by rw [W_quiet (mapv rfl), aQ_sliceSl]
end
end Go.Ab
namespace Go.Ab
open Go
@[simp] theorem Heap.get_mk (H : Heap) (n i : Nat) : Heap.get ⟨n, H.m⟩ i = H.get i := rfl
theorem Heap.ext.grow {S : List Nat} {H H' : Heap} (h : H.ext S H') (n : Nat) : H.ext S ⟨H'.next + n, H'.m⟩ := ⟨Nat.le_trans h.1 (Nat.le_add_right _ _), h.2⟩
end Go.Ab
namespace Go.Ab
open Go
@[simp] theorem mergeN_one (base k : Nat) (o : AObj) (H : Heap) : ∀ n, mergeN base (Tr.set .nil k o) (fun _ => true) n H = if k < n then H.set (base + k) o else H
  | 0 => by simp [mergeN]
  | n + 1 => by
    simp only [mergeN, mergeN_one base k o H n, if_true, Tr.get_set]
    by_cases h : n = k
    · subst h; simp
    · by_cases h2 : k < n
      · simp [h, h2, Nat.lt_succ_of_lt h2, Tr.get]
      · have : ¬ k < n + 1 := by omega
        simp [h, h2, this, Tr.get]
theorem over_append {a z xs : List AV} {off : Nat} (h : off = a.length) (hz : xs.length ≤ z.length) : over (a ++ z) off xs = some (a ++ xs ++ z.drop xs.length) := by
  subst h
  unfold over
  rw [if_pos (by simp; omega)]
  rw [List.take_left, List.drop_append, List.drop_eq_nil_of_le (by omega)]
  simp
end Go.Ab
namespace Go.Ab
open Go
section
variable {E : Env} {k : List K} {T : List AV} {D : List ADef} {R : RS} {H : Heap} {Q : Ex → St → Prop} {d : Option Nat} {os : List COper}
/-- May a slice of so many be made? -/
def MkOk (bytes : Nat) (a c : Int) : Prop := 0 ≤ a ∧ a ≤ c ∧ c * bytes ≤ 2 ^ 47 ∧ c ≤ maxInt
theorem MkOk.of {bytes : Nat} {a c : Int} (h0 : 0 ≤ a) (h1 : a ≤ c) (h2 : c * bytes ≤ 1099511627776) (h3 : c ≤ 1099511627776) : MkOk bytes a c := by
  refine ⟨h0, h1, ?_, ?_⟩
  · exact Int.le_trans h2 (by decide)
  · exact Int.le_trans h3 (by decide)
def mkW (E : Env) (os : List COper) (k : List K) (T : List AV) (D : List ADef) (R : RS) (H : Heap) (d : Option Nat) (Q : Ex → St → Prop) (z : List AV) (bytes : Nat) : AV → AV → Prop
  | .int _ a, .int _ c => MkOk bytes a c ∧ W E (.ops os :: k) .norm ⟨put T d (.slice H.next 0 0 a.toNat c.toNat), D, R, H.new (.cells 0 (List.replicate c.toNat z).flatten true)⟩ Q
  | _, _ => False
@[simp] theorem mkW_int {z : List AV} {bytes : Nat} {i j : IntKind} {a c : Int} : mkW E os k T D R H d Q z bytes (.int i a) (.int j c) ↔
    MkOk bytes a c ∧ W E (.ops os :: k) .norm ⟨put T d (.slice H.next 0 0 a.toNat c.toNat), D, R, H.new (.cells 0 (List.replicate c.toNat z).flatten true)⟩ Q := Iff.rfl
@[simp] theorem W_mkSlice (z : List AV) (b : Nat) (x y : Opd) : W E (.ops (⟨d, .mkSlice z b x y, none⟩ :: os) :: k) .norm ⟨T, D, R, H⟩ Q ↔ mkW E os k T D R H d Q z b (Opd.ev T x) (Opd.ev T y) := by
  cases hx : Opd.ev T x with
  | int i a => cases hy : Opd.ev T y with
    | int j c =>
      simp only [mkW_int]
      by_cases h : MkOk b a c
      · have ha : aop E.O (.mkSlice z b x y) (Opd.ev T) H = some (.val (.slice H.next 0 0 a.toNat c.toNat) (H.new (.cells 0 (List.replicate c.toNat z).flatten true))) := by
          have h' : 0 ≤ a ∧ a ≤ c ∧ c * b ≤ 2 ^ 47 ∧ c ≤ maxInt := h
          simp only [aop, aNew, hx, hy, if_pos h']
        rw [W_op_val ha]
        simp [h]
      · have ha : aop E.O (.mkSlice z b x y) (Opd.ev T) H = none := by
          have h' : ¬ (0 ≤ a ∧ a ≤ c ∧ c * b ≤ 2 ^ 47 ∧ c ≤ maxInt) := h
          simp only [aop, aNew, hx, hy, if_neg h']
        simp only [h, false_and, iff_false]
        rintro ⟨ex, s', h1, _⟩
        rw [evalK_ops_cons] at h1
        simp [doOp, want, ha] at h1
    | _ =>
      simp only [mkW, iff_false]
      rintro ⟨ex, s', h1, _⟩
      rw [evalK_ops_cons] at h1
      simp [doOp, want, aop, aNew, hx, hy] at h1
  | _ =>
    simp only [mkW, iff_false]
    rintro ⟨ex, s', h1, _⟩
    rw [evalK_ops_cons] at h1
    simp [doOp, want, aop, aNew, hx] at h1
end
end Go.Ab
namespace Go.Ab
open Go
theorem mergeN_lt (base k : Nat) (o : AObj) (t : Tr AObj) (H : Heap) : ∀ n, n ≤ k → mergeN base (Tr.set t k o) (fun _ => true) n H = mergeN base t (fun _ => true) n H
  | 0, _ => rfl
  | n + 1, h => by
    have : n ≠ k := by omega
    simp only [mergeN, mergeN_lt base k o t H n (by omega), Tr.get_set, this, if_false]
@[simp] theorem mergeN_two (base k1 k2 : Nat) (o1 o2 : AObj) (H : Heap) (h : k1 < k2) : ∀ n, mergeN base (Tr.set (Tr.set .nil k1 o1) k2 o2) (fun _ => true) n H =
    if k2 < n then (H.set (base + k1) o1).set (base + k2) o2 else mergeN base (Tr.set .nil k1 o1) (fun _ => true) n H
  | 0 => by simp [mergeN]
  | n + 1 => by
    by_cases h2 : k2 < n
    · have e := mergeN_two base k1 k2 o1 o2 H h n
      rw [if_pos h2] at e
      have n1 : n ≠ k2 := by omega
      have n2 : n ≠ k1 := by omega
      rw [if_pos (by omega)]
      simp only [mergeN, e, if_true, Tr.get_set, n1, n2, if_false]
      rfl
    · by_cases h3 : n = k2
      · subst h3
        rw [if_pos (by omega)]
        simp only [mergeN, mergeN_lt base n o2 _ H n (Nat.le_refl _), mergeN_one, if_pos h, if_true, Tr.get_set]
      · rw [if_neg (by omega), mergeN_lt base k2 o2 _ H (n + 1) (by omega)]
end Go.Ab

namespace Go.Ab
open Go

theorem keepN_some {reads : Tr Rd} {sel : Nat → Bool} : ∀ {n i : Nat} {r : Rd}, (keepN reads sel n).get i = some r → sel i = false ∧ reads.get i = some r
  | 0, i, r, h => by simp [keepN, Tr.get] at h
  | n + 1, i, r, h => by
    simp only [keepN] at h
    cases hs : sel n with
    | true => rw [hs] at h; exact keepN_some h
    | false =>
      rw [hs] at h
      simp only [Bool.false_eq_true, if_false] at h
      cases hg : reads.get n with
      | none => rw [hg] at h; exact keepN_some h
      | some o =>
        rw [hg] at h
        simp only at h
        rw [Tr.get_set] at h
        by_cases e : i = n
        · subst e; rw [if_pos rfl] at h; cases h; exact ⟨hs, hg⟩
        · rw [if_neg e] at h; exact keepN_some h
theorem validN_of {reads : Tr Rd} {H : Heap} : ∀ {n : Nat}, (∀ i r, reads.get i = some r → r.again H = some r.was) → validN reads H n = true
  | 0, _ => rfl
  | n + 1, h => by
    simp only [validN, validN_of h, Bool.and_true]
    split
    · rename_i r hr; simp [h n r hr]
    · rfl
theorem validL_iff {H : Heap} : ∀ {l : List (Nat × Rd)}, validL H l = true ↔ ∀ e ∈ l, e.2.again H = some e.2.was
  | [] => by simp [validL]
  | e :: l => by simp [validL, validL_iff (l := l)]
theorem mem_keepR {anc : List Nat} {e : Nat × Rd} : ∀ {l : List (Nat × Rd)}, e ∈ keepR anc l ↔ e ∈ l ∧ anc.contains e.1 = false
  | [] => by simp [keepR]
  | x :: l => by
    simp only [keepR]
    split
    · rename_i hx
      rw [mem_keepR (l := l), List.mem_cons]
      constructor
      · exact fun h => ⟨.inr h.1, h.2⟩
      · rintro ⟨rfl | h, h2⟩
        · rw [hx] at h2; cases h2
        · exact ⟨h, h2⟩
    · rename_i hx
      rw [List.mem_cons, mem_keepR (l := l), List.mem_cons]
      constructor
      · rintro (rfl | h)
        · exact ⟨.inl rfl, by simpa using hx⟩
        · exact ⟨.inr h.1, h.2⟩
      · rintro ⟨rfl | h, h2⟩
        · exact .inl rfl
        · exact .inr ⟨h, h2⟩

theorem drawRead_go {E : Env} {n base : Nat} {dsts : List Nat} : ∀ (items : List DItem) (reads : Tr Rd) (pend : Tr AObj) (rl : List (Nat × Rd)) (news : List Nat) (s : St) (q : Ex × St),
    (∀ i r, reads.get i = some r → (i, r) ∈ rl) → (∀ i, i ∉ news → pend.get i = none) → drawRead E n base dsts items rl pend news s = some q → drawGo E n base dsts items reads pend s = some q
  | [], _, _, _, _, _, _, _, _, h => h
  | it :: rest, reads, pend, rl, news, s, q, hr, hp, h => by
    simp only [drawGo, dstep]
    simp only [drawRead] at h
    by_cases hh : heavy it s.T = true
    · rw [if_pos hh] at h ⊢
      split at h
      case isFalse => cases h
      rename_i hn
      simp only [Bool.and_eq_true, List.all_eq_true] at hn
      have hsel : ∀ i, inAnc it i = false → pend.get i = none := fun i hi => hp i fun hm => by
        have := hn.1 i hm
        simp only [inAnc] at hi
        rw [hi] at this; cases this
      rw [mergeN_all hsel, dropN_nil hsel]
      cases ho : doOp E it.op { s with H := mergeN base pend (fun _ => true) n s.H } with
      | none => rw [ho] at h; cases h
      | some p =>
        obtain ⟨ex, s'⟩ := p
        rw [ho] at h
        rcases doOp_ex ho with rfl | ⟨v, rfl⟩
        · simp only at h ⊢
          split at h
          case isFalse => cases h
          rename_i hv
          rw [validL_iff] at hv
          have hk : ∀ i r, (keepN reads (inAnc it) n).get i = some r → (i, r) ∈ keepR it.anc rl := fun i r hg => by
            have := keepN_some hg
            exact mem_keepR.2 ⟨hr i r this.2, by simpa [inAnc] using this.1⟩
          rw [validN_of (fun i r hg => hv _ (hk i r hg))]
          simp only [if_true]
          exact drawRead_go rest _ _ _ _ s' q hk (fun _ _ => rfl) h
        · simp only at h ⊢
          rw [if_pos hn.2]
          exact h
    · rw [if_neg hh] at h ⊢
      cases hl : light E.O base it s.T s.H with
      | none => rw [hl] at h; cases h
      | some r =>
        rw [hl] at h
        simp only [Option.map_some] at h ⊢
        refine drawRead_go rest _ _ _ _ _ q ?_ ?_ h
        · intro i x hg
          rw [Tr.set_get] at hg
          cases hr1 : r.1 with
          | none => rw [hr1] at hg; exact hr i x hg
          | some y =>
            rw [hr1] at hg
            simp only at hg
            by_cases e : i = it.idx
            · rw [if_pos e] at hg; cases hg; subst e; exact List.mem_cons_self
            · rw [if_neg e] at hg; exact List.mem_cons_of_mem _ (hr i x hg)
        · intro i hg
          rw [Tr.set_get]
          cases hr1 : r.2.1 with
          | none => rw [hr1] at hg; exact hp i hg
          | some y =>
            rw [hr1] at hg
            simp only [addN, List.mem_cons, not_or] at hg
            simp only
            rw [if_neg hg.1]
            exact hp i hg.2

section drawW
variable {E : Env} {k : List K} {T : List AV} {D : List ADef} {R : RS} {H : Heap} {Q : Ex → St → Prop} {n base : Nat} {dsts : List Nat} {pend : Tr AObj} {it : DItem} {items : List DItem} {reads : List (Nat × Rd)} {news : List Nat}

theorem W_drawsR (h : W E (.drawR n H.next (dstsOf items) items [] .nil [] :: k) .norm ⟨T, D, R, { H with next := H.next + n }⟩ Q) : W E (.code (.draws n items) :: k) .norm ⟨T, D, R, H⟩ Q := by
  obtain ⟨ex, s, h1, h2⟩ := h
  refine ⟨ex, s, ?_, h2⟩
  simp only [evalK, evalC, doDraws] at h1 ⊢
  cases hd : drawRead E n H.next (dstsOf items) items [] .nil [] ⟨T, D, R, { H with next := H.next + n }⟩ with
  | none => rw [hd] at h1; cases h1
  | some q =>
    rw [hd] at h1
    rw [drawRead_go items .nil .nil [] [] _ q (fun i r hg => by cases hg) (fun _ _ => rfl) hd]
    exact h1
@[simp] theorem W_drawR_nil : W E (.drawR n base dsts [] reads pend news :: k) .norm ⟨T, D, R, H⟩ Q ↔ W E k .norm ⟨T, D, R, mergeN base pend (fun _ => true) n H⟩ Q := W_iff rfl
@[simp] theorem W_drawR_exit {i : Nat} {s : St} : W E (.drawR n base dsts items reads pend news :: k) (.exit i) s Q ↔ W E k (.exit i) s Q := W_iff rfl
@[simp] theorem W_drawR_ret {s : St} : W E (.drawR n base dsts items reads pend news :: k) .ret s Q ↔ W E k .ret s Q := W_iff rfl
@[simp] theorem W_drawR_panic {s : St} {v : AV} : W E (.drawR n base dsts items reads pend news :: k) (.panic v) s Q ↔ W E k (.panic v) s Q := W_iff rfl
@[simp] theorem W_validR_nil {s : St} : W E (.validR [] :: k) .norm s Q ↔ W E k .norm s Q := W_iff (by simp [evalK, validL])
@[simp] theorem W_validR_exit {i : Nat} {s : St} : W E (.validR reads :: k) (.exit i) s Q ↔ W E k (.exit i) s Q := W_iff rfl
@[simp] theorem W_validR_ret {s : St} : W E (.validR reads :: k) .ret s Q ↔ W E k .ret s Q := W_iff rfl
@[simp] theorem W_validR_panic {s : St} {v : AV} : W E (.validR reads :: k) (.panic v) s Q ↔ W E k (.panic v) s Q := W_iff rfl
@[simp] theorem W_validR_cons {i : Nat} {f : Heap → Option AV} {v : AV} : W E (.validR ((i, ⟨f, v⟩) :: reads) :: k) .norm ⟨T, D, R, H⟩ Q ↔ (f H = some v ∧ W E (.validR reads :: k) .norm ⟨T, D, R, H⟩ Q) := by
  constructor
  · rintro ⟨ex, s, h1, h2⟩
    by_cases hv : validL H ((i, ⟨f, v⟩) :: reads) = true
    · simp only [validL, Bool.and_eq_true, decide_eq_true_eq] at hv
      refine ⟨hv.1, ex, s, ?_, h2⟩
      simpa only [evalK, validL, hv.1, hv.2, decide_true, Bool.and_self, if_true] using h1
    · simp only [evalK, if_neg hv] at h1
      cases h1
  · rintro ⟨h, ex, s, h1, h2⟩
    refine ⟨ex, s, ?_, h2⟩
    simp only [evalK, validL] at h1 ⊢
    simp only [h, decide_true, Bool.true_and]
    exact h1

def lightR (E : Env) (n base : Nat) (dsts : List Nat) (items : List DItem) (reads : List (Nat × Rd)) (pend : Tr AObj) (news : List Nat) (k : List K) (idx : Nat) (d : Option Nat) (T : List AV) (D : List ADef) (R : RS) (H : Heap) (Q : Ex → St → Prop) : Option (Option Rd × Option AObj × AV) → Prop
  | some (r, o, v) => W E (.drawR n base dsts items (addR reads idx r) (setO pend idx o) (addN news idx o) :: k) .norm ⟨put T d v, D, R, H⟩ Q
  | none => False
@[simp] theorem lightR_some {idx : Nat} {d : Option Nat} {v : AV} : lightR E n base dsts items reads pend news k idx d T D R H Q (some (none, none, v)) ↔
    W E (.drawR n base dsts items reads pend news :: k) .norm ⟨put T d v, D, R, H⟩ Q := Iff.rfl
@[simp] theorem lightR_read {idx : Nat} {d : Option Nat} {r : Rd} {v : AV} : lightR E n base dsts items reads pend news k idx d T D R H Q (some (some r, none, v)) ↔
    W E (.drawR n base dsts items ((idx, r) :: reads) pend news :: k) .norm ⟨put T d v, D, R, H⟩ Q := Iff.rfl
@[simp] theorem lightR_new {idx : Nat} {d : Option Nat} {v : AV} {o : AObj} : lightR E n base dsts items reads pend news k idx d T D R H Q (some (none, some o, v)) ↔
    W E (.drawR n base dsts items reads (pend.set idx o) (idx :: news) :: k) .norm ⟨put T d v, D, R, H⟩ Q := Iff.rfl

theorem W_drawR_light (h : heavy it T = false) : W E (.drawR n base dsts (it :: items) reads pend news :: k) .norm ⟨T, D, R, H⟩ Q ↔ lightR E n base dsts items reads pend news k it.idx it.op.dst T D R H Q (light E.O base it T H) := by
  cases hl : light E.O base it T H with
  | none =>
    simp only [lightR, iff_false]
    rintro ⟨ex, s', h1, _⟩
    simp [evalK, drawRead, h, hl] at h1
  | some r =>
    obtain ⟨a, b, c⟩ := r
    refine W_iff ?_
    simp [evalK, drawRead, h, hl, St.put]

@[simp] theorem W_drawR_quiet {i : Nat} {o : COper} {anc : List Nat} {st : Bool} : W E (.drawR n base dsts (⟨i, o, .quiet, anc, st⟩ :: items) reads pend news :: k) .norm ⟨T, D, R, H⟩ Q ↔
    lightR E n base dsts items reads pend news k i o.dst T D R H Q (light E.O base ⟨i, o, .quiet, [], false⟩ T H) := W_drawR_light (by simp [heavy])
@[simp] theorem W_drawR_sure {i : Nat} {o : COper} {anc : List Nat} {st : Bool} : W E (.drawR n base dsts (⟨i, o, .sure, anc, st⟩ :: items) reads pend news :: k) .norm ⟨T, D, R, H⟩ Q ↔
    lightR E n base dsts items reads pend news k i o.dst T D R H Q (light E.O base ⟨i, o, .sure, [], false⟩ T H) := W_drawR_light (by simp [heavy])
@[simp] theorem W_drawR_new {i : Nat} {o : COper} {anc : List Nat} {st : Bool} : W E (.drawR n base dsts (⟨i, o, .new, anc, st⟩ :: items) reads pend news :: k) .norm ⟨T, D, R, H⟩ Q ↔
    lightR E n base dsts items reads pend news k i o.dst T D R H Q (light E.O base ⟨i, o, .new, [], false⟩ T H) := W_drawR_light (by simp [heavy])
theorem W_drawR_read {i : Nat} {o : COper} {anc : List Nat} {st : Bool} : W E (.drawR n base dsts (⟨i, o, .read, anc, st⟩ :: items) reads pend news :: k) .norm ⟨T, D, R, H⟩ Q ↔
    lightR E n base dsts items reads pend news k i o.dst T D R H Q (light E.O base ⟨i, o, .read, [], false⟩ T H) := W_drawR_light (by simp [heavy])

/-- What is loaded, to be loaded again. -/
def loadR (E : Env) (n base : Nat) (dsts : List Nat) (items : List DItem) (reads : List (Nat × Rd)) (pend : Tr AObj) (news : List Nat) (k : List K) (idx : Nat) (d : Option Nat) (T : List AV) (D : List ADef) (R : RS) (H : Heap) (Q : Ex → St → Prop) (a : AV) (p : Part) : Option AV → Prop
  | some v => W E (.drawR n base dsts items ((idx, ⟨fun H => rd E.O H a p, v⟩) :: reads) pend news :: k) .norm ⟨put T d v, D, R, H⟩ Q
  | none => False
@[simp] theorem loadR_some {idx : Nat} {d : Option Nat} {a v : AV} {p : Part} : loadR E n base dsts items reads pend news k idx d T D R H Q a p (some v) ↔
    W E (.drawR n base dsts items ((idx, ⟨fun H => rd E.O H a p, v⟩) :: reads) pend news :: k) .norm ⟨put T d v, D, R, H⟩ Q := Iff.rfl
@[simp] theorem W_drawR_load {i : Nat} {d : Option Nat} {p : Part} {x : Opd} {anc : List Nat} {st : Bool} : W E (.drawR n base dsts (⟨i, ⟨d, .load p x, none⟩, .read, anc, st⟩ :: items) reads pend news :: k) .norm ⟨T, D, R, H⟩ Q ↔
    loadR E n base dsts items reads pend news k i d T D R H Q (Opd.ev T x) p (rd E.O H (Opd.ev T x) p) := by
  rw [W_drawR_read]
  have hq : ∀ H, aQuiet E.O (.load p x) (Opd.ev T) H = rd E.O H (Opd.ev T x) p := fun _ => rfl
  simp only [light, want, hq]
  cases hr : rd E.O H (Opd.ev T x) p with
  | none => simp [lightR, loadR]
  | some v =>
    simp only [Option.map_some, lightR_read, loadR_some]
    have : aQuiet E.O (.load p x) (Opd.ev T) = fun H => rd E.O H (Opd.ev T x) p := funext hq
    rw [this]
@[simp] theorem W_drawR_indexSl {i sz : Nat} {d : Option Nat} {x y : Opd} {anc : List Nat} {st : Bool} :
    W E (.drawR n base dsts (⟨i, ⟨d, .indexSl sz x y, none⟩, .quiet, anc, st⟩ :: items) reads pend news :: k) .norm ⟨T, D, R, H⟩ Q ↔
    lightR E n base dsts items reads pend news k i d T D R H Q ((aIndexSl sz (Opd.ev T x) (Opd.ev T y)).map fun v => (none, none, v)) := W_drawR_light (by simp [heavy])
@[simp] theorem W_drawR_eff {i : Nat} {d : Option Nat} {op : COp} {anc : List Nat} : W E (.drawR n base dsts (⟨i, ⟨d, op, none⟩, .eff, anc, true⟩ :: items) reads pend news :: k) .norm ⟨T, D, R, H⟩ Q ↔
    (news.all (anc.contains ·) = true ∧ W E (.ops [⟨d, op, none⟩] :: .dpanic dsts :: .validR (keepR anc reads) :: .drawR n base dsts items (keepR anc reads) .nil [] :: k) .norm ⟨T, D, R, mergeN base pend (fun _ => true) n H⟩ Q) := by
  by_cases hn : news.all (anc.contains ·) = true
  · simp only [hn, true_and]
    refine W_iff ?_
    simp only [evalK, drawRead, heavy, want, doOps]
    simp only [decide_true, Bool.true_and, beq_self_eq_true, if_true, hn, Bool.and_true]
    cases ho : doOp E ⟨d, op, none⟩ ⟨T, D, R, mergeN base pend (fun _ => true) n H⟩ with
    | none => rfl
    | some q =>
      obtain ⟨ex, s'⟩ := q
      rcases doOp_ex ho with rfl | ⟨v, rfl⟩
      · simp only
        cases validL s'.H (keepR anc reads) <;> rfl
      · rfl
  · refine ⟨fun h => ?_, fun h => absurd h.1 hn⟩
    obtain ⟨ex, s', h1, _⟩ := h
    have hn' : news.all (anc.contains ·) = false := by simpa only [Bool.not_eq_true] using hn
    simp only [evalK, drawRead, heavy, want, hn'] at h1
    simp at h1
end drawW
attribute [simp] keepR
end Go.Ab

