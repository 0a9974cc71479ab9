/- A part of the proof: Ab.W6 S.C S.CheckS. No conditions. -/
import Derived.Test.YtkgpnpgocgllnaaGreatDoorProg
import Derived.KernelRfl
import Derived.Test.YtkgpnpgocgllnaaGreatDoorPrintsP0
import Derived.Test.YtkgpnpgocgllnaaGreatDoorPrintsP1
set_option linter.unusedSimpArgs false
set_option linter.unusedVariables false
set_option linter.unnecessarySimpa false
set_option linter.unusedSectionVars false
set_option linter.constructorNameAsVariable false
namespace Go.Ab
open Go

/-! Regions that draw their order, where an object may be made ahead of an effect that does not stand behind it. -/

theorem mergeX_congr {base : Nat} {p p' : Tr AObj} {sel : Nat → Bool} (H : Heap) : ∀ n, (∀ i, i < n → sel i = true → p.get i = p'.get i) → mergeN base p sel n H = mergeN base p' sel n H
  | 0, _ => rfl
  | n + 1, h => by
    simp only [mergeN, mergeX_congr H n (fun i hi => h i (by omega))]
    by_cases hs : sel n = true
    · simp [hs, h n (by omega) hs]
    · simp [hs]
theorem validX_congr {r r' : Tr Rd} (H : Heap) : ∀ n, (∀ i, i < n → r.get i = r'.get i) → validN r H n = validN r' H n
  | 0, _ => rfl
  | n + 1, h => by simp only [validN, validX_congr H n (fun i hi => h i (by omega)), h n (by omega)]
theorem keepX_get {r : Tr Rd} {sel : Nat → Bool} : ∀ {n i : Nat}, (keepN r sel n).get i = if i < n ∧ sel i = false then r.get i else none
  | 0, i => by simp [keepN, Tr.get]
  | n + 1, i => by
    simp only [keepN]
    cases hs : sel n with
    | true =>
      simp only [if_true, keepX_get (n := n)]
      by_cases e : i = n
      · subst e; simp [hs]
      · have : i < n + 1 ↔ i < n := by omega
        simp [this]
    | false =>
      simp only [Bool.false_eq_true, if_false]
      cases hg : r.get n with
      | none =>
        simp only [keepX_get (n := n)]
        by_cases e : i = n
        · subst e; simp [hg]
        · have : i < n + 1 ↔ i < n := by omega
          simp [this]
      | some o =>
        simp only [Tr.get_set, keepX_get (n := n)]
        by_cases e : i = n
        · subst e; simp [hs, hg]
        · have : i < n + 1 ↔ i < n := by omega
          simp [this, e]
theorem dropX_get {r : Tr AObj} {sel : Nat → Bool} : ∀ {n i : Nat}, (dropN r sel n).get i = if i < n ∧ sel i = false then r.get i else none
  | 0, i => by simp [dropN, Tr.get]
  | n + 1, i => by
    simp only [dropN]
    cases hs : sel n with
    | true =>
      simp only [if_true, dropX_get (n := n)]
      by_cases e : i = n
      · subst e; simp [hs]
      · have : i < n + 1 ↔ i < n := by omega
        simp [this]
    | false =>
      simp only [Bool.false_eq_true, if_false]
      cases hg : r.get n with
      | none =>
        simp only [dropX_get (n := n)]
        by_cases e : i = n
        · subst e; simp [hg]
        · have : i < n + 1 ↔ i < n := by omega
          simp [this]
      | some o =>
        simp only [Tr.get_set, dropX_get (n := n)]
        by_cases e : i = n
        · subst e; simp [hs, hg]
        · have : i < n + 1 ↔ i < n := by omega
          simp [this, e]

theorem drawGo_congr {E : Env} {n base : Nat} {dsts : List Nat} : ∀ (items : List DItem) (r r' : Tr Rd) (p p' : Tr AObj) (s : St), (∀ i, i < n → r.get i = r'.get i) → (∀ i, i < n → p.get i = p'.get i) →
    drawGo E n base dsts items r p s = drawGo E n base dsts items r' p' s
  | [], r, r', p, p', s, hr, hp => by simp only [drawGo, mergeX_congr _ n (fun i hi _ => hp i hi)]
  | it :: rest, r, r', p, p', s, hr, hp => by
    simp only [drawGo, dstep]
    by_cases hh : heavy it s.T = true
    · rw [if_pos hh, if_pos hh, mergeX_congr _ n (fun i hi _ => hp i hi)]
      cases doOp E it.op { s with H := mergeN base p' (inAnc it) n s.H } with
      | none => rfl
      | some q =>
        obtain ⟨ex, s'⟩ := q
        cases ex with
        | norm =>
          have hk : ∀ i, i < n → (keepN r (inAnc it) n).get i = (keepN r' (inAnc it) n).get i := fun i hi => by rw [keepX_get, keepX_get, hr i hi]
          have hd : ∀ i, i < n → (dropN p (inAnc it) n).get i = (dropN p' (inAnc it) n).get i := fun i hi => by rw [dropX_get, dropX_get, hp i hi]
          simp only [validX_congr _ n hk]
          by_cases hv : validN (keepN r' (inAnc it) n) s'.H n = true
          · rw [if_pos hv, if_pos hv]; exact drawGo_congr rest _ _ _ _ _ hk hd
          · rw [if_neg hv, if_neg hv]
        | panic v =>
          rfl
        | _ => rfl
    · rw [if_neg hh, if_neg hh]
      cases light E.O base it s.T s.H with
      | none => rfl
      | some q =>
        simp only [Option.map_some]
        refine drawGo_congr rest _ _ _ _ _ ?_ ?_
        · intro i hi; rw [Tr.set_get, Tr.set_get, hr i hi]
        · intro i hi; rw [Tr.set_get, Tr.set_get, hp i hi]

theorem trP_rest (anc : List Nat) (i : Nat) : ∀ l, (trP (restP anc l)).get i = if anc.contains i = true then none else (trP l).get i
  | [] => by simp [restP, trP, Tr.get]
  | e :: l => by
    simp only [restP]
    by_cases h : anc.contains e.1 = true
    · rw [if_pos h, trP_rest anc i l]
      by_cases h2 : anc.contains i = true
      · simp only [if_pos h2]
      · have : i ≠ e.1 := by rintro rfl; exact h2 h
        simp only [if_neg h2, trP, Tr.get_set, if_neg this]
    · rw [if_neg h]
      simp only [trP, Tr.get_set, trP_rest anc i l]
      by_cases h2 : i = e.1
      · subst h2; simp only [if_pos rfl, if_neg h]
      · simp only [if_neg h2]
theorem trP_pick (anc : List Nat) (i : Nat) : ∀ l, (trP (pickP anc l)).get i = if anc.contains i = true then (trP l).get i else none
  | [] => by simp [pickP, trP, Tr.get]
  | e :: l => by
    simp only [pickP]
    by_cases h : anc.contains e.1 = true
    · rw [if_pos h]
      simp only [trP, Tr.get_set, trP_pick anc i l]
      by_cases h2 : i = e.1
      · subst h2; simp only [if_pos rfl, if_pos h]
      · simp only [if_neg h2]
    · rw [if_neg h, trP_pick anc i l]
      by_cases h2 : anc.contains i = true
      · have : i ≠ e.1 := by rintro rfl; exact h h2
        simp only [if_pos h2, trP, Tr.get_set, if_neg this]
      · simp only [if_neg h2]
theorem trR_keep (anc : List Nat) (i : Nat) : ∀ l, (trR (keepR anc l)).get i = if anc.contains i = true then none else (trR l).get i
  | [] => by simp [keepR, trR, Tr.get]
  | e :: l => by
    simp only [keepR]
    by_cases h : anc.contains e.1 = true
    · rw [if_pos h, trR_keep anc i l]
      by_cases h2 : anc.contains i = true
      · simp only [if_pos h2]
      · have : i ≠ e.1 := by rintro rfl; exact h2 h
        simp only [if_neg h2, trR, Tr.get_set, if_neg this]
    · rw [if_neg h]
      simp only [trR, Tr.get_set, trR_keep anc i l]
      by_cases h2 : i = e.1
      · subst h2; simp only [if_pos rfl, if_neg h]
      · simp only [if_neg h2]
theorem trR_mem {i : Nat} {r : Rd} : ∀ {l : List (Nat × Rd)}, (trR l).get i = some r → (i, r) ∈ l
  | [], h => by simp [trR, Tr.get] at h
  | e :: l, h => by
    simp only [trR, Tr.get_set] at h
    split at h
    · rename_i he; obtain rfl := Option.some.inj h; subst he; exact List.mem_cons_self
    · exact List.mem_cons_of_mem _ (trR_mem h)

theorem mergeX_next (base : Nat) (p : Tr AObj) (sel : Nat → Bool) (H : Heap) : ∀ n, (mergeN base p sel n H).next = H.next
  | 0 => rfl
  | n + 1 => by
    have ih := mergeX_next base p sel H n
    simp only [mergeN]
    cases sel n with
    | false => simpa using ih
    | true => cases p.get n <;> simpa using ih
theorem mergeX_get (base : Nat) (p : Tr AObj) (sel : Nat → Bool) (H : Heap) (j : Nat) : ∀ n, (mergeN base p sel n H).get j =
    if base ≤ j ∧ j < base + n ∧ sel (j - base) = true then (match p.get (j - base) with | some o => some o | none => H.get j) else H.get j
  | 0 => by rw [if_neg (by omega)]; rfl
  | n + 1 => by
    have ih := mergeX_get base p sel H j n
    simp only [mergeN]
    by_cases hj : j = base + n
    · subst hj
      rw [if_neg (by omega)] at ih
      have e : base + n - base = n := by omega
      rw [e]
      cases hs : sel n with
      | false => simp [ih]
      | true =>
        cases hp : p.get n with
        | none => simp [ih]
        | some o => simp [Heap.get_set]
    · have hc : (base ≤ j ∧ j < base + (n + 1) ∧ sel (j - base) = true) ↔ (base ≤ j ∧ j < base + n ∧ sel (j - base) = true) := by
        constructor <;> rintro ⟨a, b, c⟩ <;> exact ⟨a, by omega, c⟩
      simp only [hc]
      rw [← ih]
      cases hs : sel n with
      | false => rfl
      | true =>
        cases hp : p.get n with
        | none => rfl
        | some o => simp [Heap.get_set, hj]
theorem mergeP_next (base n : Nat) (l : List (Nat × AObj)) (H : Heap) : (mergeP base n l H).next = H.next := mergeX_next _ _ _ _ _
theorem mergeP_get (base n : Nat) (l : List (Nat × AObj)) (H : Heap) (k : Nat) (hk : k < n) : (mergeP base n l H).get (base + k) = (match (trP l).get k with | some o => some o | none => H.get (base + k)) := by
  unfold mergeP
  rw [mergeX_get, if_pos ⟨by omega, by omega, rfl⟩, show base + k - base = k by omega]
theorem mergeP_old (base n : Nat) (l : List (Nat × AObj)) (H : Heap) (j : Nat) (hj : j < base) : (mergeP base n l H).get j = H.get j := by
  unfold mergeP
  rw [mergeX_get, if_neg (by omega)]
theorem mergeP_ext {S : List Nat} {H0 H : Heap} {base n : Nat} {l : List (Nat × AObj)} (h : H0.ext S H) (hb : H0.next ≤ base) : H0.ext S (mergeP base n l H) :=
  ⟨by rw [mergeP_next]; exact h.1, fun i hi hs => by rw [mergeP_old _ _ _ _ _ (by omega)]; exact h.2 i hi hs⟩
@[simp] theorem mergeP_nil (base n : Nat) (H : Heap) : mergeP base n [] H = H := mergeN_nil _ _ _ _
@[simp] theorem mergeP_one (base n k : Nat) (o : AObj) (H : Heap) : mergeP base n [(k, o)] H = if k < n then H.set (base + k) o else H := mergeN_one base k o H n

theorem drawXR_go {E : Env} {n base : Nat} {dsts : List Nat} : ∀ (items : List DItem) (reads : List (Nat × Rd)) (pend : List (Nat × AObj)) (s : St) (q : Ex × St),
    drawXR E n base dsts items reads pend s = some q → drawGo E n base dsts items (trR reads) (trP pend) s = some q
  | [], _, _, _, _, h => h
  | it :: rest, reads, pend, s, q, h => by
    have hm : mergeN base (trP pend) (inAnc it) n s.H = mergeP base n (pickP it.anc pend) s.H := by
      unfold mergeP
      have e1 : mergeN base (trP pend) (inAnc it) n s.H = mergeN base (trP (pickP it.anc pend)) (inAnc it) n s.H :=
        mergeX_congr s.H n (fun j _ hj => by rw [trP_pick, if_pos (by simpa [inAnc] using hj)])
      rw [e1]
      exact mergeN_all (fun j hj => by rw [trP_pick, if_neg (by simpa [inAnc] using hj)]) base s.H n
    simp only [drawXR] at h
    simp only [drawGo, dstep]
    by_cases hh : heavy it s.T = true
    · rw [if_pos hh] at h ⊢
      rw [hm]
      split at h
      case isFalse => cases h
      rename_i hst
      cases ho : doOp E it.op { s with H := mergeP base n (pickP it.anc pend) s.H } with
      | none => rw [ho] at h; cases h
      | some p =>
        obtain ⟨ex, s1⟩ := p
        rw [ho] at h
        rcases doOp_ex ho with rfl | ⟨v, rfl⟩
        · simp only at h ⊢
          split at h
          case isFalse => cases h
          rename_i hv
          rw [validL_iff] at hv
          have hk : ∀ j, (keepN (trR reads) (inAnc it) n).get j = if j < n then (trR (keepR it.anc reads)).get j else none := fun j => by
            rw [keepX_get, trR_keep]
            by_cases hj : j < n <;> by_cases ha : it.anc.contains j = true <;> simp [hj, ha, inAnc] <;> simpa using ha
          have hd : ∀ j, (dropN (trP pend) (inAnc it) n).get j = if j < n then (trP (restP it.anc pend)).get j else none := fun j => by
            rw [dropX_get, trP_rest]
            by_cases hj : j < n <;> by_cases ha : it.anc.contains j = true <;> simp [hj, ha, inAnc] <;> simpa using ha
          have hv2 : validN (keepN (trR reads) (inAnc it) n) s1.H n = true := validN_of (fun j r hg => by
            rw [hk] at hg
            split at hg
            · exact hv _ (trR_mem hg)
            · cases hg)
          rw [if_pos hv2]
          simp only
          rw [drawGo_congr rest _ (trR (keepR it.anc reads)) _ (trP (restP it.anc pend)) s1 (fun j hj => by rw [hk, if_pos hj]) (fun j hj => by rw [hd, if_pos hj])]
          exact drawXR_go rest _ _ _ _ h
        · simp only at h ⊢
          rw [if_pos hst]
          exact h
    · rw [if_neg hh] at h ⊢
      cases hl : light E.O base it s.T s.H with
      | none => rw [hl] at h; cases h
      | some r =>
        rw [hl] at h
        simp only [Option.map_some] at h ⊢
        have := drawXR_go rest _ _ _ _ h
        obtain ⟨r1, r2, r3⟩ := r
        cases r1 <;> cases r2 <;> exact this

section drawW
variable {E : Env} {k : List K} {T : List AV} {D : List ADef} {R : RS} {H : Heap} {Q : Ex → St → Prop} {n base : Nat} {dsts : List Nat} {it : DItem} {items : List DItem} {reads : List (Nat × Rd)} {pend : List (Nat × AObj)}

theorem W_drawsX (h : W E (.drawX n H.next (dstsOf items) items [] [] :: k) .norm ⟨T, D, R, { H with next := H.next + n }⟩ Q) : W E (.code (.draws n items) :: k) .norm ⟨T, D, R, H⟩ Q := by
  obtain ⟨ex, s, h1, h2⟩ := h
  refine ⟨ex, s, ?_, h2⟩
  simp only [evalK, evalC, doDraws] at h1 ⊢
  cases hd : drawXR E n H.next (dstsOf items) items [] [] ⟨T, D, R, { H with next := H.next + n }⟩ with
  | none => rw [hd] at h1; cases h1
  | some q =>
    rw [hd] at h1
    have := drawXR_go items [] [] _ q hd
    rw [show trR [] = .nil from rfl, show trP [] = .nil from rfl] at this
    rw [this]
    exact h1
@[simp] theorem W_drawX_nil : W E (.drawX n base dsts [] reads pend :: k) .norm ⟨T, D, R, H⟩ Q ↔ W E k .norm ⟨T, D, R, mergeP base n pend H⟩ Q := W_iff rfl
@[simp] theorem W_drawX_exit {i : Nat} {s : St} : W E (.drawX n base dsts items reads pend :: k) (.exit i) s Q ↔ W E k (.exit i) s Q := W_iff rfl
@[simp] theorem W_drawX_ret {s : St} : W E (.drawX n base dsts items reads pend :: k) .ret s Q ↔ W E k .ret s Q := W_iff rfl
@[simp] theorem W_drawX_panic {s : St} {v : AV} : W E (.drawX n base dsts items reads pend :: k) (.panic v) s Q ↔ W E k (.panic v) s Q := W_iff rfl

def lightX (E : Env) (n base : Nat) (dsts : List Nat) (items : List DItem) (reads : List (Nat × Rd)) (pend : List (Nat × AObj)) (k : List K) (idx : Nat) (d : Option Nat) (T : List AV) (D : List ADef) (R : RS) (H : Heap) (Q : Ex → St → Prop) : Option (Option Rd × Option AObj × AV) → Prop
  | some (r, o, v) => W E (.drawX n base dsts items (addR reads idx r) (addP pend idx o) :: k) .norm ⟨put T d v, D, R, H⟩ Q
  | none => False
@[simp] theorem lightX_some {idx : Nat} {d : Option Nat} {v : AV} : lightX E n base dsts items reads pend k idx d T D R H Q (some (none, none, v)) ↔
    W E (.drawX n base dsts items reads pend :: k) .norm ⟨put T d v, D, R, H⟩ Q := Iff.rfl
@[simp] theorem lightX_read {idx : Nat} {d : Option Nat} {r : Rd} {v : AV} : lightX E n base dsts items reads pend k idx d T D R H Q (some (some r, none, v)) ↔
    W E (.drawX n base dsts items ((idx, r) :: reads) pend :: k) .norm ⟨put T d v, D, R, H⟩ Q := Iff.rfl
@[simp] theorem lightX_new {idx : Nat} {d : Option Nat} {v : AV} {o : AObj} : lightX E n base dsts items reads pend k idx d T D R H Q (some (none, some o, v)) ↔
    W E (.drawX n base dsts items reads ((idx, o) :: pend) :: k) .norm ⟨put T d v, D, R, H⟩ Q := Iff.rfl

theorem W_drawX_light (h : heavy it T = false) : W E (.drawX n base dsts (it :: items) reads pend :: k) .norm ⟨T, D, R, H⟩ Q ↔ lightX E n base dsts items reads pend k it.idx it.op.dst T D R H Q (light E.O base it T H) := by
  cases hl : light E.O base it T H with
  | none =>
    simp only [lightX, iff_false]
    rintro ⟨ex, s', h1, _⟩
    simp [evalK, drawXR, h, hl] at h1
  | some r =>
    obtain ⟨a, b, c⟩ := r
    refine W_iff ?_
    simp only [evalK, drawXR, h, hl, St.put, Bool.false_eq_true, if_false]

@[simp] theorem W_drawX_quiet {i : Nat} {o : COper} {anc : List Nat} {st : Bool} : W E (.drawX n base dsts (⟨i, o, .quiet, anc, st⟩ :: items) reads pend :: k) .norm ⟨T, D, R, H⟩ Q ↔
    lightX E n base dsts items reads pend k i o.dst T D R H Q (light E.O base ⟨i, o, .quiet, [], false⟩ T H) := W_drawX_light (by simp [heavy])
@[simp] theorem W_drawX_sure {i : Nat} {o : COper} {anc : List Nat} {st : Bool} : W E (.drawX n base dsts (⟨i, o, .sure, anc, st⟩ :: items) reads pend :: k) .norm ⟨T, D, R, H⟩ Q ↔
    lightX E n base dsts items reads pend k i o.dst T D R H Q (light E.O base ⟨i, o, .sure, [], false⟩ T H) := W_drawX_light (by simp [heavy])
@[simp] theorem W_drawX_new {i : Nat} {o : COper} {anc : List Nat} {st : Bool} : W E (.drawX n base dsts (⟨i, o, .new, anc, st⟩ :: items) reads pend :: k) .norm ⟨T, D, R, H⟩ Q ↔
    lightX E n base dsts items reads pend k i o.dst T D R H Q (light E.O base ⟨i, o, .new, [], false⟩ T H) := W_drawX_light (by simp [heavy])
theorem W_drawX_read {i : Nat} {o : COper} {anc : List Nat} {st : Bool} : W E (.drawX n base dsts (⟨i, o, .read, anc, st⟩ :: items) reads pend :: k) .norm ⟨T, D, R, H⟩ Q ↔
    lightX E n base dsts items reads pend k i o.dst T D R H Q (light E.O base ⟨i, o, .read, [], false⟩ T H) := W_drawX_light (by simp [heavy])

def loadX (E : Env) (n base : Nat) (dsts : List Nat) (items : List DItem) (reads : List (Nat × Rd)) (pend : List (Nat × AObj)) (k : List K) (idx : Nat) (d : Option Nat) (T : List AV) (D : List ADef) (R : RS) (H : Heap) (Q : Ex → St → Prop) (a : AV) (p : Part) : Option AV → Prop
  | some v => W E (.drawX n base dsts items ((idx, ⟨fun H => rd E.O H a p, v⟩) :: reads) pend :: k) .norm ⟨put T d v, D, R, H⟩ Q
  | none => False
@[simp] theorem loadX_some {idx : Nat} {d : Option Nat} {a v : AV} {p : Part} : loadX E n base dsts items reads pend k idx d T D R H Q a p (some v) ↔
    W E (.drawX n base dsts items ((idx, ⟨fun H => rd E.O H a p, v⟩) :: reads) pend :: k) .norm ⟨put T d v, D, R, H⟩ Q := Iff.rfl
@[simp] theorem W_drawX_load {i : Nat} {d : Option Nat} {p : Part} {x : Opd} {anc : List Nat} {st : Bool} : W E (.drawX n base dsts (⟨i, ⟨d, .load p x, none⟩, .read, anc, st⟩ :: items) reads pend :: k) .norm ⟨T, D, R, H⟩ Q ↔
    loadX E n base dsts items reads pend k i d T D R H Q (Opd.ev T x) p (rd E.O H (Opd.ev T x) p) := by
  rw [W_drawX_read]
  have hq : ∀ H, aQuiet E.O (.load p x) (Opd.ev T) H = rd E.O H (Opd.ev T x) p := fun _ => rfl
  simp only [light, want, hq]
  cases hr : rd E.O H (Opd.ev T x) p with
  | none => simp [lightX, loadX]
  | some v =>
    simp only [Option.map_some, lightX_read, loadX_some]
    have : aQuiet E.O (.load p x) (Opd.ev T) = fun H => rd E.O H (Opd.ev T x) p := funext hq
    rw [this]
@[simp] theorem W_drawX_indexSl {i sz : Nat} {d : Option Nat} {x y : Opd} {anc : List Nat} {st : Bool} :
    W E (.drawX n base dsts (⟨i, ⟨d, .indexSl sz x y, none⟩, .quiet, anc, st⟩ :: items) reads pend :: k) .norm ⟨T, D, R, H⟩ Q ↔
    lightX E n base dsts items reads pend k i d T D R H Q ((aIndexSl sz (Opd.ev T x) (Opd.ev T y)).map fun v => (none, none, v)) := W_drawX_light (by simp [heavy])

@[simp] theorem W_drawX_eff {i : Nat} {d : Option Nat} {op : COp} {anc : List Nat} : W E (.drawX n base dsts (⟨i, ⟨d, op, none⟩, .eff, anc, true⟩ :: items) reads pend :: k) .norm ⟨T, D, R, H⟩ Q ↔
    W E (.ops [⟨d, op, none⟩] :: .dpanic dsts :: .validR (keepR anc reads) :: .drawX n base dsts items (keepR anc reads) (restP anc pend) :: k) .norm ⟨T, D, R, mergeP base n (pickP anc pend) H⟩ Q := by
  refine W_iff ?_
  have hh : heavy (⟨i, ⟨d, op, none⟩, .eff, anc, true⟩ : DItem) T = true := by simp [heavy, want]
  simp only [evalK, drawXR, hh, if_true, doOps]
  cases ho : doOp E ⟨d, op, none⟩ ⟨T, D, R, mergeP base n (pickP anc pend) H⟩ with
  | none => rfl
  | some q =>
    obtain ⟨ex, s'⟩ := q
    rcases doOp_ex ho with rfl | ⟨v, rfl⟩
    · simp only
      cases validL s'.H (keepR anc reads) <;> rfl
    · rfl
end drawW
attribute [simp] restP pickP
end Go.Ab

namespace Go.S
open Go Go.Ab
def c3_r0 : List COper := [⟨some 2,.box (.t 0),none⟩,
 ⟨some 4,.move (.c (.bool false)),none⟩]
def c3_r1 : List COper := [⟨some 16,.load (.many 12) (.t 2),none⟩,
 ⟨some 17,.call (.f 8) [(.t 16)],none⟩,
 ⟨some 15,.move (.t 17),none⟩,
 ⟨some 18,.extract (.t 15) 0,none⟩,
 ⟨some 19,.extract (.t 15) 1,none⟩,
 ⟨some 5,.move (.t 18),none⟩,
 ⟨some 6,.move (.t 19),none⟩]
def c3_r2 : List COper := [⟨some 21,.load (.many 12) (.t 2),none⟩,
 ⟨some 22,.call (.f 9) [(.t 21)],none⟩,
 ⟨some 20,.move (.t 22),none⟩,
 ⟨some 23,.extract (.t 20) 0,none⟩,
 ⟨some 24,.extract (.t 20) 1,none⟩,
 ⟨some 7,.move (.t 23),none⟩,
 ⟨some 8,.move (.t 24),none⟩]
def c3_r3 : List COper := [⟨some 26,.move (.t 1),none⟩,
 ⟨some 27,.call (.f 10) [(.t 26)],none⟩,
 ⟨some 25,.move (.t 27),none⟩,
 ⟨some 28,.extract (.t 25) 0,none⟩,
 ⟨some 29,.extract (.t 25) 1,none⟩,
 ⟨some 9,.alloc [(.int .i64 0),(.int .i64 0),(.int .i64 0),(.int .i64 0),(.int .i64 0),(.int .u8 0),(.int .i64 0),(.int .u16 0),(.int .u32 0),(.bool false),.nils,(.str [])],none⟩,
 ⟨none,.store 12 (.t 9) (.t 28),none⟩,
 ⟨some 10,.move (.t 29),none⟩]
def c3_r4 : List COper := [⟨some 31,.move (.t 1),none⟩,
 ⟨some 32,.call (.f 11) [(.t 31)],none⟩,
 ⟨some 30,.move (.t 32),none⟩,
 ⟨some 33,.extract (.t 30) 0,none⟩,
 ⟨some 34,.extract (.t 30) 1,none⟩,
 ⟨some 11,.alloc [(.int .i64 0),(.int .i64 0),(.int .i64 0),(.int .i64 0),(.int .i64 0),(.int .u8 0),(.int .i64 0),(.int .u16 0),(.int .u32 0),(.bool false),.nils,(.str [])],none⟩,
 ⟨none,.store 12 (.t 11) (.t 33),none⟩,
 ⟨some 12,.move (.t 34),none⟩]
def c3_r5 : List COper := [⟨some 35,.move (.t 5),none⟩,
 ⟨some 36,.move (.t 7),none⟩,
 ⟨some 37,.eq .scalar true (.t 35) (.t 36),none⟩,
 ⟨some 38,.move (.t 37),none⟩,
 ⟨some 39,.move (.t 6),some (38,false)⟩,
 ⟨some 40,.move (.t 8),some (38,false)⟩,
 ⟨some 41,.eq .scalar true (.t 39) (.t 40),some (38,false)⟩,
 ⟨some 42,.pick (.t 38) (.c (.bool true)) (.t 41),none⟩,
 ⟨some 43,.move (.t 42),none⟩,
 ⟨some 44,.load (.many 12) (.t 9),some (43,false)⟩,
 ⟨some 45,.load (.many 12) (.t 11),some (43,false)⟩,
 ⟨some 46,.call (.f 12) [(.t 44),(.t 45)],some (43,false)⟩,
 ⟨some 47,.un .not (.t 46),some (43,false)⟩,
 ⟨some 48,.pick (.t 43) (.c (.bool true)) (.t 47),none⟩,
 ⟨some 49,.move (.t 48),none⟩,
 ⟨some 50,.move (.t 10),some (49,false)⟩,
 ⟨some 51,.move (.t 12),some (49,false)⟩,
 ⟨some 52,.eq .scalar true (.t 50) (.t 51),some (49,false)⟩,
 ⟨some 53,.pick (.t 49) (.c (.bool true)) (.t 52),none⟩]
def c3_r6 : List COper := [⟨some 4,.move (.c (.bool false)),none⟩]
def c3_r7 : List COper := [⟨some 54,.move (.t 8),none⟩,
 ⟨some 55,.eq .scalar true (.t 54) (.c (.int .i64 0)),none⟩]
def c3_r8 : List COper := [⟨some 56,.call (.f 13) [],none⟩,
 ⟨some 4,.move (.t 56),none⟩]
def c3_r9 : List COper := [⟨some 58,.move (.t 5),none⟩,
 ⟨some 59,.call (.f 10) [(.t 58)],none⟩,
 ⟨some 57,.move (.t 59),none⟩,
 ⟨some 60,.extract (.t 57) 0,none⟩,
 ⟨some 61,.extract (.t 57) 1,none⟩,
 ⟨some 13,.alloc [(.int .i64 0),(.int .i64 0),(.int .i64 0),(.int .i64 0),(.int .i64 0),(.int .u8 0),(.int .i64 0),(.int .u16 0),(.int .u32 0),(.bool false),.nils,(.str [])],none⟩,
 ⟨none,.store 12 (.t 13) (.t 60),none⟩,
 ⟨some 14,.move (.t 61),none⟩]
def c3_r10 : List COper := [⟨some 62,.move (.t 14),none⟩,
 ⟨some 63,.eq .scalar false (.t 62) (.c (.int .i64 0)),none⟩,
 ⟨some 64,.move (.t 63),none⟩,
 ⟨some 65,.load (.many 12) (.t 13),some (64,true)⟩,
 ⟨some 66,.load (.many 12) (.t 2),some (64,true)⟩,
 ⟨some 67,.call (.f 12) [(.t 65),(.t 66)],some (64,true)⟩,
 ⟨some 68,.pick (.t 64) (.t 67) (.c (.bool false)),none⟩,
 ⟨some 69,.move (.t 68),none⟩,
 ⟨some 70,.call (.f 13) [],some (69,true)⟩,
 ⟨some 71,.pick (.t 69) (.t 70) (.c (.bool false)),none⟩,
 ⟨some 4,.move (.t 71),none⟩]
def c3 : CFunc := ⟨72,(.seq (.region c3_r0) (.seq (.kill [16,17,15,18,19] (.region c3_r1)) (.seq (.kill [21,22,20,23,24] (.region c3_r2)) (.seq (.kill [26,27,25,28,29] (.region c3_r3)) (.seq (.kill [31,32,30,33,34] (.region c3_r4)) (.seq (.kill [35,36,37,38,39,40,41,42,43,44,45,46,47,48,49,50,51,52,53] (.seq (.kill [35,36,37,38,39,40,41,42,43,44,45,46,47,48,49,50,51,52] (.region c3_r5)) (.cond (.t 53) (.seq (.region c3_r6) .ret) .skip))) (.seq (.kill [54,55,56] (.seq (.kill [54] (.region c3_r7)) (.cond (.t 55) (.seq (.kill [56] (.region c3_r8)) .ret) .skip))) (.seq (.kill [58,59,57,60,61] (.region c3_r9)) (.seq (.kill [62,63,64,65,66,67,68,69,70,71] (.region c3_r10)) .ret))))))))),[.tmp 4]⟩
def c4_r0 : List COper := [⟨some 2,.box (.t 0),none⟩,
 ⟨some 4,.move (.c (.bool false)),none⟩]
def c4_r1 : List COper := [⟨some 16,.load (.many 41) (.t 2),none⟩,
 ⟨some 17,.call (.f 14) [(.t 16)],none⟩,
 ⟨some 15,.move (.t 17),none⟩,
 ⟨some 18,.extract (.t 15) 0,none⟩,
 ⟨some 19,.extract (.t 15) 1,none⟩,
 ⟨some 5,.move (.t 18),none⟩,
 ⟨some 6,.move (.t 19),none⟩]
def c4_r2 : List COper := [⟨some 21,.load (.many 41) (.t 2),none⟩,
 ⟨some 22,.call (.f 15) [(.t 21)],none⟩,
 ⟨some 20,.move (.t 22),none⟩,
 ⟨some 23,.extract (.t 20) 0,none⟩,
 ⟨some 24,.extract (.t 20) 1,none⟩,
 ⟨some 7,.move (.t 23),none⟩,
 ⟨some 8,.move (.t 24),none⟩]
def c4_r3 : List COper := [⟨some 26,.move (.t 1),none⟩,
 ⟨some 27,.call (.f 16) [(.t 26)],none⟩,
 ⟨some 25,.move (.t 27),none⟩,
 ⟨some 28,.extract (.t 25) 0,none⟩,
 ⟨some 29,.extract (.t 25) 1,none⟩,
 ⟨some 9,.alloc [(.int .u8 0),(.int .u8 0),(.int .u8 0),(.int .u8 0),(.int .u8 0),(.int .u8 0),(.int .u8 0),(.int .u8 0),(.int .u8 0),(.int .u8 0),(.int .u8 0),(.int .u8 0),(.int .u8 0),(.int .u8 0),(.int .u8 0),(.int .u8 0),(.int .u64 0),(.int .i64 0),(.int .u32 0),(.int .u16 0),(.int .u16 0),(.int .i64 0),(.int .i64 0),(.int .u16 0),(.int .u16 0),(.int .i64 0),(.int .i64 0),(.int .i64 0),(.int .i64 0),(.int .i64 0),(.int .i64 0),(.int .i64 0),(.int .i64 0),(.int .i64 0),(.int .i64 0),(.int .i64 0),(.int .i64 0),(.int .i64 0),(.bool false),(.bool false),(.bool false)],none⟩,
 ⟨none,.store 41 (.t 9) (.t 28),none⟩,
 ⟨some 10,.move (.t 29),none⟩]
def c4_r4 : List COper := [⟨some 31,.move (.t 1),none⟩,
 ⟨some 32,.call (.f 17) [(.t 31)],none⟩,
 ⟨some 30,.move (.t 32),none⟩,
 ⟨some 33,.extract (.t 30) 0,none⟩,
 ⟨some 34,.extract (.t 30) 1,none⟩,
 ⟨some 11,.alloc [(.int .u8 0),(.int .u8 0),(.int .u8 0),(.int .u8 0),(.int .u8 0),(.int .u8 0),(.int .u8 0),(.int .u8 0),(.int .u8 0),(.int .u8 0),(.int .u8 0),(.int .u8 0),(.int .u8 0),(.int .u8 0),(.int .u8 0),(.int .u8 0),(.int .u64 0),(.int .i64 0),(.int .u32 0),(.int .u16 0),(.int .u16 0),(.int .i64 0),(.int .i64 0),(.int .u16 0),(.int .u16 0),(.int .i64 0),(.int .i64 0),(.int .i64 0),(.int .i64 0),(.int .i64 0),(.int .i64 0),(.int .i64 0),(.int .i64 0),(.int .i64 0),(.int .i64 0),(.int .i64 0),(.int .i64 0),(.int .i64 0),(.bool false),(.bool false),(.bool false)],none⟩,
 ⟨none,.store 41 (.t 11) (.t 33),none⟩,
 ⟨some 12,.move (.t 34),none⟩]
def c4_r5 : List COper := [⟨some 35,.move (.t 5),none⟩,
 ⟨some 36,.move (.t 7),none⟩,
 ⟨some 37,.eq .scalar true (.t 35) (.t 36),none⟩,
 ⟨some 38,.move (.t 37),none⟩,
 ⟨some 39,.move (.t 6),some (38,false)⟩,
 ⟨some 40,.move (.t 8),some (38,false)⟩,
 ⟨some 41,.eq .scalar true (.t 39) (.t 40),some (38,false)⟩,
 ⟨some 42,.pick (.t 38) (.c (.bool true)) (.t 41),none⟩,
 ⟨some 43,.move (.t 42),none⟩,
 ⟨some 44,.load (.many 41) (.t 9),some (43,false)⟩,
 ⟨some 45,.load (.many 41) (.t 11),some (43,false)⟩,
 ⟨some 46,.eq (.flat [1,1,1,1,1,1,1,1,1,1,1,1,1,1,1,1,1,1,1,1,1,1,1,1,1,1,1,1,1,1,1,1,1,1,1,1,1,1,0,0,0]) true (.t 44) (.t 45),some (43,false)⟩,
 ⟨some 47,.pick (.t 43) (.c (.bool true)) (.t 46),none⟩,
 ⟨some 48,.move (.t 47),none⟩,
 ⟨some 49,.move (.t 10),some (48,false)⟩,
 ⟨some 50,.move (.t 12),some (48,false)⟩,
 ⟨some 51,.eq .scalar true (.t 49) (.t 50),some (48,false)⟩,
 ⟨some 52,.pick (.t 48) (.c (.bool true)) (.t 51),none⟩]
def c4_r6 : List COper := [⟨some 4,.move (.c (.bool false)),none⟩]
def c4_r7 : List COper := [⟨some 53,.move (.t 8),none⟩,
 ⟨some 54,.eq .scalar true (.t 53) (.c (.int .i64 0)),none⟩]
def c4_r8 : List COper := [⟨some 55,.call (.f 13) [],none⟩,
 ⟨some 4,.move (.t 55),none⟩]
def c4_r9 : List COper := [⟨some 57,.move (.t 5),none⟩,
 ⟨some 58,.call (.f 16) [(.t 57)],none⟩,
 ⟨some 56,.move (.t 58),none⟩,
 ⟨some 59,.extract (.t 56) 0,none⟩,
 ⟨some 60,.extract (.t 56) 1,none⟩,
 ⟨some 13,.alloc [(.int .u8 0),(.int .u8 0),(.int .u8 0),(.int .u8 0),(.int .u8 0),(.int .u8 0),(.int .u8 0),(.int .u8 0),(.int .u8 0),(.int .u8 0),(.int .u8 0),(.int .u8 0),(.int .u8 0),(.int .u8 0),(.int .u8 0),(.int .u8 0),(.int .u64 0),(.int .i64 0),(.int .u32 0),(.int .u16 0),(.int .u16 0),(.int .i64 0),(.int .i64 0),(.int .u16 0),(.int .u16 0),(.int .i64 0),(.int .i64 0),(.int .i64 0),(.int .i64 0),(.int .i64 0),(.int .i64 0),(.int .i64 0),(.int .i64 0),(.int .i64 0),(.int .i64 0),(.int .i64 0),(.int .i64 0),(.int .i64 0),(.bool false),(.bool false),(.bool false)],none⟩,
 ⟨none,.store 41 (.t 13) (.t 59),none⟩,
 ⟨some 14,.move (.t 60),none⟩]
def c4_r10 : List COper := [⟨some 61,.move (.t 14),none⟩,
 ⟨some 62,.eq .scalar false (.t 61) (.c (.int .i64 0)),none⟩,
 ⟨some 63,.move (.t 62),none⟩,
 ⟨some 64,.load (.many 41) (.t 13),some (63,true)⟩,
 ⟨some 65,.load (.many 41) (.t 2),some (63,true)⟩,
 ⟨some 66,.eq (.flat [1,1,1,1,1,1,1,1,1,1,1,1,1,1,1,1,1,1,1,1,1,1,1,1,1,1,1,1,1,1,1,1,1,1,1,1,1,1,0,0,0]) false (.t 64) (.t 65),some (63,true)⟩,
 ⟨some 67,.pick (.t 63) (.t 66) (.c (.bool false)),none⟩,
 ⟨some 68,.move (.t 67),none⟩,
 ⟨some 69,.call (.f 13) [],some (68,true)⟩,
 ⟨some 70,.pick (.t 68) (.t 69) (.c (.bool false)),none⟩,
 ⟨some 4,.move (.t 70),none⟩]
def c4 : CFunc := ⟨71,(.seq (.region c4_r0) (.seq (.kill [16,17,15,18,19] (.region c4_r1)) (.seq (.kill [21,22,20,23,24] (.region c4_r2)) (.seq (.kill [26,27,25,28,29] (.region c4_r3)) (.seq (.kill [31,32,30,33,34] (.region c4_r4)) (.seq (.kill [35,36,37,38,39,40,41,42,43,44,45,46,47,48,49,50,51,52] (.seq (.kill [35,36,37,38,39,40,41,42,43,44,45,46,47,48,49,50,51] (.region c4_r5)) (.cond (.t 52) (.seq (.region c4_r6) .ret) .skip))) (.seq (.kill [53,54,55] (.seq (.kill [53] (.region c4_r7)) (.cond (.t 54) (.seq (.kill [55] (.region c4_r8)) .ret) .skip))) (.seq (.kill [57,58,56,59,60] (.region c4_r9)) (.seq (.kill [61,62,63,64,65,66,67,68,69,70] (.region c4_r10)) .ret))))))))),[.tmp 4]⟩
def c5_r0 : List COper := [⟨some 1,.box (.t 0),none⟩,
 ⟨some 2,.move (.c (.bool false)),none⟩]
def c5_r1 : List COper := [⟨some 10,.load (.many 83) (.t 1),none⟩,
 ⟨some 11,.call (.f 18) [(.t 10)],none⟩,
 ⟨some 9,.move (.t 11),none⟩,
 ⟨some 12,.extract (.t 9) 0,none⟩,
 ⟨some 13,.extract (.t 9) 1,none⟩,
 ⟨some 14,.extract (.t 9) 2,none⟩,
 ⟨some 3,.move (.t 12),none⟩,
 ⟨some 4,.move (.t 13),none⟩,
 ⟨some 5,.move (.t 14),none⟩]
def c5_r2 : List COper := [⟨some 16,.load (.many 83) (.t 1),none⟩,
 ⟨some 17,.call (.f 19) [(.t 16)],none⟩,
 ⟨some 15,.move (.t 17),none⟩,
 ⟨some 18,.extract (.t 15) 0,none⟩,
 ⟨some 19,.extract (.t 15) 1,none⟩,
 ⟨some 20,.extract (.t 15) 2,none⟩,
 ⟨some 6,.move (.t 18),none⟩,
 ⟨some 7,.move (.t 19),none⟩,
 ⟨some 8,.move (.t 20),none⟩]
def c5_r3 : List COper := [⟨some 21,.move (.t 3),none⟩,
 ⟨some 22,.move (.t 6),none⟩,
 ⟨some 23,.eq .scalar false (.t 21) (.t 22),none⟩,
 ⟨some 24,.move (.t 23),none⟩,
 ⟨some 25,.move (.t 4),some (24,true)⟩,
 ⟨some 26,.move (.t 7),some (24,true)⟩,
 ⟨some 27,.eq .scalar false (.t 25) (.t 26),some (24,true)⟩,
 ⟨some 28,.pick (.t 24) (.t 27) (.c (.bool false)),none⟩,
 ⟨some 29,.move (.t 28),none⟩,
 ⟨some 30,.move (.t 5),some (29,true)⟩,
 ⟨some 31,.move (.t 8),some (29,true)⟩,
 ⟨some 32,.eq .scalar false (.t 30) (.t 31),some (29,true)⟩,
 ⟨some 33,.pick (.t 29) (.t 32) (.c (.bool false)),none⟩,
 ⟨some 34,.move (.t 33),none⟩,
 ⟨some 35,.call (.f 13) [],some (34,true)⟩,
 ⟨some 36,.pick (.t 34) (.t 35) (.c (.bool false)),none⟩,
 ⟨some 2,.move (.t 36),none⟩]
def c5 : CFunc := ⟨37,(.seq (.region c5_r0) (.seq (.kill [10,11,9,12,13,14] (.region c5_r1)) (.seq (.kill [16,17,15,18,19,20] (.region c5_r2)) (.seq (.kill [21,22,23,24,25,26,27,28,29,30,31,32,33,34,35,36] (.region c5_r3)) .ret)))),[.tmp 2]⟩
def c6_r0 : List COper := [⟨some 2,.move (.c (.bool false)),none⟩]
def c6_r1 : List COper := [⟨some 10,.move (.t 0),none⟩,
 ⟨some 11,.call (.f 20) [(.t 10)],none⟩,
 ⟨some 9,.move (.t 11),none⟩,
 ⟨some 12,.extract (.t 9) 0,none⟩,
 ⟨some 13,.extract (.t 9) 1,none⟩,
 ⟨some 14,.extract (.t 9) 2,none⟩,
 ⟨some 3,.alloc [(.int .u8 0),(.int .u8 0),(.int .u8 0),(.int .u8 0),(.int .u8 0),(.int .u8 0),(.int .u8 0),(.int .u8 0),(.int .u8 0),(.int .u8 0),(.int .u8 0),(.int .u8 0),(.int .u8 0),(.int .u8 0),(.int .u8 0),(.int .u8 0),(.int .u64 0),(.int .i64 0),(.int .u32 0),(.int .u16 0),(.int .u16 0),(.int .i64 0),(.int .i64 0),(.int .u16 0),(.int .u16 0),(.int .i64 0),(.int .i64 0),(.int .i64 0),(.int .i64 0),(.int .i64 0),(.int .i64 0),(.int .i64 0),(.int .i64 0),(.int .i64 0),(.int .i64 0),(.int .i64 0),(.int .i64 0),(.int .i64 0),(.bool false),(.bool false),(.bool false),(.int .u8 0),(.int .u8 0),(.int .u8 0),(.int .u8 0),(.int .u8 0),(.int .u8 0),(.int .u8 0),(.int .u8 0),(.int .u8 0),(.int .u8 0),(.int .u8 0),(.int .u8 0),(.int .u8 0),(.int .u8 0),(.int .u8 0),(.int .u8 0),(.int .u64 0),(.int .i64 0),(.int .u32 0),(.int .u16 0),(.int .u16 0),(.int .i64 0),(.int .i64 0),(.int .u16 0),(.int .u16 0),(.int .i64 0),(.int .i64 0),(.int .i64 0),(.int .i64 0),(.int .i64 0),(.int .i64 0),(.int .i64 0),(.int .i64 0),(.int .i64 0),(.int .i64 0),(.int .i64 0),(.int .i64 0),(.int .i64 0),(.bool false),(.bool false),(.bool false),.nils],none⟩,
 ⟨none,.store 83 (.t 3) (.t 12),none⟩,
 ⟨some 4,.move (.t 13),none⟩,
 ⟨some 5,.move (.t 14),none⟩]
def c6_r2 : List COper := [⟨some 16,.move (.t 0),none⟩,
 ⟨some 17,.call (.f 21) [(.t 16)],none⟩,
 ⟨some 15,.move (.t 17),none⟩,
 ⟨some 18,.extract (.t 15) 0,none⟩,
 ⟨some 19,.extract (.t 15) 1,none⟩,
 ⟨some 20,.extract (.t 15) 2,none⟩,
 ⟨some 6,.alloc [(.int .u8 0),(.int .u8 0),(.int .u8 0),(.int .u8 0),(.int .u8 0),(.int .u8 0),(.int .u8 0),(.int .u8 0),(.int .u8 0),(.int .u8 0),(.int .u8 0),(.int .u8 0),(.int .u8 0),(.int .u8 0),(.int .u8 0),(.int .u8 0),(.int .u64 0),(.int .i64 0),(.int .u32 0),(.int .u16 0),(.int .u16 0),(.int .i64 0),(.int .i64 0),(.int .u16 0),(.int .u16 0),(.int .i64 0),(.int .i64 0),(.int .i64 0),(.int .i64 0),(.int .i64 0),(.int .i64 0),(.int .i64 0),(.int .i64 0),(.int .i64 0),(.int .i64 0),(.int .i64 0),(.int .i64 0),(.int .i64 0),(.bool false),(.bool false),(.bool false),(.int .u8 0),(.int .u8 0),(.int .u8 0),(.int .u8 0),(.int .u8 0),(.int .u8 0),(.int .u8 0),(.int .u8 0),(.int .u8 0),(.int .u8 0),(.int .u8 0),(.int .u8 0),(.int .u8 0),(.int .u8 0),(.int .u8 0),(.int .u8 0),(.int .u64 0),(.int .i64 0),(.int .u32 0),(.int .u16 0),(.int .u16 0),(.int .i64 0),(.int .i64 0),(.int .u16 0),(.int .u16 0),(.int .i64 0),(.int .i64 0),(.int .i64 0),(.int .i64 0),(.int .i64 0),(.int .i64 0),(.int .i64 0),(.int .i64 0),(.int .i64 0),(.int .i64 0),(.int .i64 0),(.int .i64 0),(.int .i64 0),(.bool false),(.bool false),(.bool false),.nils],none⟩,
 ⟨none,.store 83 (.t 6) (.t 18),none⟩,
 ⟨some 7,.move (.t 19),none⟩,
 ⟨some 8,.move (.t 20),none⟩]
def c6_r3 : List COper := [⟨some 21,.load (.many 83) (.t 3),none⟩,
 ⟨some 22,.load (.many 83) (.t 6),none⟩,
 ⟨some 23,.call (.f 22) [(.t 21),(.t 22)],none⟩,
 ⟨some 24,.move (.t 23),none⟩,
 ⟨some 25,.move (.t 4),some (24,true)⟩,
 ⟨some 26,.move (.t 7),some (24,true)⟩,
 ⟨some 27,.eq .scalar false (.t 25) (.t 26),some (24,true)⟩,
 ⟨some 28,.pick (.t 24) (.t 27) (.c (.bool false)),none⟩,
 ⟨some 29,.move (.t 28),none⟩,
 ⟨some 30,.move (.t 5),some (29,true)⟩,
 ⟨some 31,.move (.t 8),some (29,true)⟩,
 ⟨some 32,.eq .scalar false (.t 30) (.t 31),some (29,true)⟩,
 ⟨some 33,.pick (.t 29) (.t 32) (.c (.bool false)),none⟩,
 ⟨some 34,.move (.t 33),none⟩,
 ⟨some 35,.call (.f 13) [],some (34,true)⟩,
 ⟨some 36,.pick (.t 34) (.t 35) (.c (.bool false)),none⟩,
 ⟨some 2,.move (.t 36),none⟩]
def c6 : CFunc := ⟨37,(.seq (.region c6_r0) (.seq (.kill [10,11,9,12,13,14] (.region c6_r1)) (.seq (.kill [16,17,15,18,19,20] (.region c6_r2)) (.seq (.kill [21,22,23,24,25,26,27,28,29,30,31,32,33,34,35,36] (.region c6_r3)) .ret)))),[.tmp 2]⟩
def c7_r0 : List COper := [⟨some 3,.box (.t 0),none⟩,
 ⟨some 4,.box (.t 1),none⟩,
 ⟨some 6,.move (.c (.bool false)),none⟩]
def c7_r1 : List DItem := [⟨0,⟨some 19,.load (.many 83) (.t 3),none⟩,.read,[],false⟩,
 ⟨1,⟨some 20,.load (.many 83) (.t 4),none⟩,.read,[],false⟩,
 ⟨3,⟨some 22,.load (.many 83) (.t 3),none⟩,.read,[],false⟩,
 ⟨4,⟨some 23,.load (.many 83) (.t 4),none⟩,.read,[],false⟩,
 ⟨2,⟨some 21,.call (.f 23) [(.t 19),(.t 20)],none⟩,.eff,[0,1],true⟩,
 ⟨5,⟨some 24,.call (.f 22) [(.t 22),(.t 23)],none⟩,.eff,[3,4,2,0,1],true⟩,
 ⟨6,⟨some 25,.eq .bool true (.t 21) (.t 24),none⟩,.quiet,[2,5,0,1,3,4],false⟩,
 ⟨7,⟨some 26,.move (.t 25),none⟩,.quiet,[6,5,2,0,1,3,4],false⟩,
 ⟨8,⟨some 27,.load (.many 83) (.t 3),some (26,false)⟩,.read,[7,6,5,2,0,1,3,4],false⟩,
 ⟨9,⟨some 28,.load (.many 83) (.t 3),some (26,false)⟩,.read,[7,6,5,2,0,1,3,4],false⟩,
 ⟨10,⟨some 29,.call (.f 23) [(.t 27),(.t 28)],some (26,false)⟩,.eff,[8,9,7,6,5,2,0,1,3,4],true⟩,
 ⟨11,⟨some 30,.un .not (.t 29),some (26,false)⟩,.quiet,[10,7,8,9,6,5,2,0,1,3,4],false⟩,
 ⟨12,⟨some 31,.pick (.t 26) (.c (.bool true)) (.t 30),none⟩,.quiet,[7,11,6,5,2,0,1,3,4,10,8,9],false⟩]
def c7_r2 : List COper := [⟨some 6,.move (.c (.bool false)),none⟩]
def c7_r3 : List COper := [⟨some 33,.load (.many 83) (.t 3),none⟩,
 ⟨some 34,.call (.f 18) [(.t 33)],none⟩,
 ⟨some 32,.move (.t 34),none⟩,
 ⟨some 35,.extract (.t 32) 0,none⟩,
 ⟨some 36,.extract (.t 32) 1,none⟩,
 ⟨some 37,.extract (.t 32) 2,none⟩,
 ⟨some 7,.move (.t 35),none⟩,
 ⟨some 8,.move (.t 36),none⟩,
 ⟨some 9,.move (.t 37),none⟩]
def c7_r4 : List COper := [⟨some 38,.move (.t 9),none⟩,
 ⟨some 39,.eq .scalar false (.t 38) (.c (.int .i64 0)),none⟩]
def c7_r5 : List COper := [⟨some 41,.move (.t 7),none⟩,
 ⟨some 42,.call (.f 20) [(.t 41)],none⟩,
 ⟨some 40,.move (.t 42),none⟩,
 ⟨some 43,.extract (.t 40) 0,none⟩,
 ⟨some 44,.extract (.t 40) 1,none⟩,
 ⟨some 45,.extract (.t 40) 2,none⟩,
 ⟨some 10,.alloc [(.int .u8 0),(.int .u8 0),(.int .u8 0),(.int .u8 0),(.int .u8 0),(.int .u8 0),(.int .u8 0),(.int .u8 0),(.int .u8 0),(.int .u8 0),(.int .u8 0),(.int .u8 0),(.int .u8 0),(.int .u8 0),(.int .u8 0),(.int .u8 0),(.int .u64 0),(.int .i64 0),(.int .u32 0),(.int .u16 0),(.int .u16 0),(.int .i64 0),(.int .i64 0),(.int .u16 0),(.int .u16 0),(.int .i64 0),(.int .i64 0),(.int .i64 0),(.int .i64 0),(.int .i64 0),(.int .i64 0),(.int .i64 0),(.int .i64 0),(.int .i64 0),(.int .i64 0),(.int .i64 0),(.int .i64 0),(.int .i64 0),(.bool false),(.bool false),(.bool false),(.int .u8 0),(.int .u8 0),(.int .u8 0),(.int .u8 0),(.int .u8 0),(.int .u8 0),(.int .u8 0),(.int .u8 0),(.int .u8 0),(.int .u8 0),(.int .u8 0),(.int .u8 0),(.int .u8 0),(.int .u8 0),(.int .u8 0),(.int .u8 0),(.int .u64 0),(.int .i64 0),(.int .u32 0),(.int .u16 0),(.int .u16 0),(.int .i64 0),(.int .i64 0),(.int .u16 0),(.int .u16 0),(.int .i64 0),(.int .i64 0),(.int .i64 0),(.int .i64 0),(.int .i64 0),(.int .i64 0),(.int .i64 0),(.int .i64 0),(.int .i64 0),(.int .i64 0),(.int .i64 0),(.int .i64 0),(.int .i64 0),(.bool false),(.bool false),(.bool false),.nils],none⟩,
 ⟨none,.store 83 (.t 10) (.t 43),none⟩,
 ⟨some 11,.move (.t 44),none⟩,
 ⟨some 12,.move (.t 45),none⟩]
def c7_r6 : List COper := [⟨some 46,.move (.t 12),none⟩,
 ⟨some 47,.eq .scalar true (.t 46) (.c (.int .i64 0)),none⟩,
 ⟨some 48,.move (.t 47),none⟩,
 ⟨some 49,.load (.many 83) (.t 10),some (48,false)⟩,
 ⟨some 50,.load (.many 83) (.t 3),some (48,false)⟩,
 ⟨some 51,.call (.f 22) [(.t 49),(.t 50)],some (48,false)⟩,
 ⟨some 52,.un .not (.t 51),some (48,false)⟩,
 ⟨some 53,.pick (.t 48) (.c (.bool true)) (.t 52),none⟩]
def c7_r7 : List COper := [⟨some 6,.move (.c (.bool false)),none⟩]
def c7_r8 : List COper := [⟨some 55,.move (.t 2),none⟩,
 ⟨some 56,.call (.f 20) [(.t 55)],none⟩,
 ⟨some 54,.move (.t 56),none⟩,
 ⟨some 57,.extract (.t 54) 0,none⟩,
 ⟨some 58,.extract (.t 54) 1,none⟩,
 ⟨some 59,.extract (.t 54) 2,none⟩,
 ⟨some 13,.alloc [(.int .u8 0),(.int .u8 0),(.int .u8 0),(.int .u8 0),(.int .u8 0),(.int .u8 0),(.int .u8 0),(.int .u8 0),(.int .u8 0),(.int .u8 0),(.int .u8 0),(.int .u8 0),(.int .u8 0),(.int .u8 0),(.int .u8 0),(.int .u8 0),(.int .u64 0),(.int .i64 0),(.int .u32 0),(.int .u16 0),(.int .u16 0),(.int .i64 0),(.int .i64 0),(.int .u16 0),(.int .u16 0),(.int .i64 0),(.int .i64 0),(.int .i64 0),(.int .i64 0),(.int .i64 0),(.int .i64 0),(.int .i64 0),(.int .i64 0),(.int .i64 0),(.int .i64 0),(.int .i64 0),(.int .i64 0),(.int .i64 0),(.bool false),(.bool false),(.bool false),(.int .u8 0),(.int .u8 0),(.int .u8 0),(.int .u8 0),(.int .u8 0),(.int .u8 0),(.int .u8 0),(.int .u8 0),(.int .u8 0),(.int .u8 0),(.int .u8 0),(.int .u8 0),(.int .u8 0),(.int .u8 0),(.int .u8 0),(.int .u8 0),(.int .u64 0),(.int .i64 0),(.int .u32 0),(.int .u16 0),(.int .u16 0),(.int .i64 0),(.int .i64 0),(.int .u16 0),(.int .u16 0),(.int .i64 0),(.int .i64 0),(.int .i64 0),(.int .i64 0),(.int .i64 0),(.int .i64 0),(.int .i64 0),(.int .i64 0),(.int .i64 0),(.int .i64 0),(.int .i64 0),(.int .i64 0),(.int .i64 0),(.bool false),(.bool false),(.bool false),.nils],none⟩,
 ⟨none,.store 83 (.t 13) (.t 57),none⟩,
 ⟨some 14,.move (.t 58),none⟩,
 ⟨some 15,.move (.t 59),none⟩]
def c7_r9 : List COper := [⟨some 60,.move (.t 15),none⟩,
 ⟨some 61,.eq .scalar false (.t 60) (.c (.int .i64 0)),none⟩]
def c7_r10 : List COper := [⟨some 63,.load (.many 83) (.t 13),none⟩,
 ⟨some 64,.call (.f 18) [(.t 63)],none⟩,
 ⟨some 62,.move (.t 64),none⟩,
 ⟨some 65,.extract (.t 62) 0,none⟩,
 ⟨some 66,.extract (.t 62) 1,none⟩,
 ⟨some 67,.extract (.t 62) 2,none⟩,
 ⟨some 16,.move (.t 65),none⟩,
 ⟨some 17,.move (.t 66),none⟩,
 ⟨some 18,.move (.t 67),none⟩]
def c7_r11 : List COper := [⟨some 68,.move (.t 18),none⟩,
 ⟨some 69,.eq .scalar true (.t 68) (.c (.int .i64 0)),none⟩,
 ⟨some 70,.move (.t 69),none⟩,
 ⟨some 71,.move (.t 16),some (70,false)⟩,
 ⟨some 72,.move (.t 2),some (70,false)⟩,
 ⟨some 73,.eq .scalar true (.t 71) (.t 72),some (70,false)⟩,
 ⟨some 74,.pick (.t 70) (.c (.bool true)) (.t 73),none⟩]
def c7_r12 : List COper := [⟨some 6,.move (.c (.bool false)),none⟩]
def c7_r13 : List COper := [⟨some 75,.call (.f 13) [],none⟩,
 ⟨some 6,.move (.t 75),none⟩]
def c7 : CFunc := ⟨76,(.seq (.region c7_r0) (.seq (.kill [19,20,21,22,23,24,25,26,27,28,29,30,31] (.seq (.kill [19,20,21,22,23,24,25,26,27,28,29,30] (.draws 13 c7_r1)) (.cond (.t 31) (.seq (.region c7_r2) .ret) .skip))) (.seq (.kill [33,34,32,35,36,37,8] (.region c7_r3)) (.seq (.kill [38,39,41,42,40,43,44,45,10,11,12,46,47,48,49,50,51,52,53] (.seq (.kill [38] (.region c7_r4)) (.cond (.t 39) (.seq (.kill [41,42,40,43,44,45,11] (.region c7_r5)) (.seq (.kill [46,47,48,49,50,51,52] (.region c7_r6)) (.cond (.t 53) (.seq (.region c7_r7) .ret) .skip))) .skip))) (.seq (.kill [55,56,54,57,58,59,14] (.region c7_r8)) (.seq (.kill [60,61,63,64,62,65,66,67,16,17,18,68,69,70,71,72,73,74] (.seq (.kill [60] (.region c7_r9)) (.cond (.t 61) (.seq (.kill [63,64,62,65,66,67,17] (.region c7_r10)) (.seq (.kill [68,69,70,71,72,73] (.region c7_r11)) (.cond (.t 74) (.seq (.region c7_r12) .ret) .skip))) .skip))) (.seq (.kill [75] (.region c7_r13)) .ret))))))),[.tmp 6]⟩
def c8_r0 : List COper := [⟨some 1,.box (.t 0),none⟩,
 ⟨some 2,.move (.c (.str [])),none⟩,
 ⟨some 3,.alloc [(.int .i64 0)],none⟩]
def c8_r1 : List COper := [⟨none,.defer (.f 24) [(.t 3)],none⟩]
def c8_r2 : List COper := [⟨some 9,.load (.many 12) (.t 1),none⟩,
 ⟨some 4,.alloc [(.int .i64 0),(.int .i64 0),(.int .i64 0),(.int .i64 0),(.int .i64 0),(.int .u8 0),(.int .i64 0),(.int .u16 0),(.int .u32 0),(.bool false),.nils,(.str [])],none⟩,
 ⟨none,.store 12 (.t 4) (.t 9),none⟩]
def c8_r3 : List COper := [⟨some 10,.build [.nils,(.bool false)] [],none⟩,
 ⟨some 11,.box (.t 10),none⟩,
 ⟨some 12,.build [.nilp,.nilp] [(0,1,(.t 11)),(1,1,(.t 4))],none⟩,
 ⟨some 5,.alloc [.nilp,.nilp],none⟩,
 ⟨none,.store 2 (.t 5) (.t 12),none⟩]
def c8_r4 : List COper := [⟨some 13,.load (.many 2) (.t 5),none⟩,
 ⟨some 14,.mkFunc (.func 26) [] [(.t 1)],none⟩,
 ⟨some 15,.call (.f 25) [(.t 13),(.c (.int .i64 1)),(.t 14)],none⟩]
def c8_r5 : List COper := [⟨some 16,.fieldAddr 0 (.t 5),none⟩,
 ⟨some 17,.load .one (.t 16),none⟩,
 ⟨some 18,.call (.f 27) [(.t 17)],none⟩,
 ⟨some 6,.move (.t 18),none⟩]
def c8_r6 : List COper := [⟨some 20,.move (.t 6),none⟩,
 ⟨some 21,.call (.f 10) [(.t 20)],none⟩,
 ⟨some 19,.move (.t 21),none⟩,
 ⟨some 22,.extract (.t 19) 0,none⟩,
 ⟨some 23,.extract (.t 19) 1,none⟩,
 ⟨some 7,.alloc [(.int .i64 0),(.int .i64 0),(.int .i64 0),(.int .i64 0),(.int .i64 0),(.int .u8 0),(.int .i64 0),(.int .u16 0),(.int .u32 0),(.bool false),.nils,(.str [])],none⟩,
 ⟨none,.store 12 (.t 7) (.t 22),none⟩,
 ⟨some 8,.move (.t 23),none⟩]
def c8_r7 : List COper := [⟨some 24,.move (.t 8),none⟩,
 ⟨some 25,.eq .scalar false (.t 24) (.c (.int .i64 0)),none⟩,
 ⟨some 26,.move (.t 25),none⟩,
 ⟨some 27,.load (.many 12) (.t 7),some (26,true)⟩,
 ⟨some 28,.load (.many 12) (.t 1),some (26,true)⟩,
 ⟨some 29,.call (.f 29) [(.t 27),(.t 28)],some (26,true)⟩,
 ⟨some 30,.pick (.t 26) (.t 29) (.c (.bool false)),none⟩,
 ⟨some 31,.call (.f 28) [(.t 30),(.c (.int .i64 1))],none⟩]
def c8_r8 : List COper := [⟨some 32,.move (.t 6),none⟩,
 ⟨some 2,.move (.t 32),none⟩,
 ⟨none,.store 1 (.t 3) (.c (.int .i64 0)),none⟩]
def c8 : CFunc := ⟨33,(.seq (.region c8_r0) (.seq (.region c8_r1) (.seq (.kill [9] (.region c8_r2)) (.seq (.kill [10,11,12] (.region c8_r3)) (.seq (.kill [13,14,15] (.region c8_r4)) (.seq (.kill [16,17,18] (.region c8_r5)) (.seq (.kill [20,21,19,22,23] (.region c8_r6)) (.seq (.kill [24,25,26,27,28,29,30,31] (.region c8_r7)) (.seq (.kill [32] (.region c8_r8)) .ret))))))))),[.tmp 2,.cell 3 .one]⟩
def c9_r0 : List COper := [⟨some 1,.box (.t 0),none⟩,
 ⟨some 2,.move (.c (.str [])),none⟩,
 ⟨some 3,.move (.c (.int .i64 0)),none⟩]
def c9_r1 : List COper := [⟨some 6,.fieldAddr 10 (.t 1),none⟩,
 ⟨some 7,.load .one (.t 6),none⟩,
 ⟨some 8,.len (.t 7),none⟩,
 ⟨some 9,.arith .gtr (.t 8) (.c (.int .i64 65536)),none⟩,
 ⟨some 10,.move (.t 9),none⟩,
 ⟨some 11,.fieldAddr 11 (.t 1),some (10,false)⟩,
 ⟨some 12,.load .one (.t 11),some (10,false)⟩,
 ⟨some 13,.lenStr (.t 12),some (10,false)⟩,
 ⟨some 14,.arith .gtr (.t 13) (.c (.int .i64 65536)),some (10,false)⟩,
 ⟨some 15,.pick (.t 10) (.c (.bool true)) (.t 14),none⟩,
 ⟨some 16,.move (.t 15),none⟩,
 ⟨some 17,.fieldAddr 1 (.t 1),some (16,false)⟩,
 ⟨some 18,.load .one (.t 17),some (16,false)⟩,
 ⟨some 19,.call (.f 30) [(.t 18)],some (16,false)⟩,
 ⟨some 20,.un .not (.t 19),some (16,false)⟩,
 ⟨some 21,.pick (.t 16) (.c (.bool true)) (.t 20),none⟩,
 ⟨some 22,.move (.t 21),none⟩,
 ⟨some 23,.fieldAddr 2 (.t 1),some (22,false)⟩,
 ⟨some 24,.load .one (.t 23),some (22,false)⟩,
 ⟨some 25,.call (.f 30) [(.t 24)],some (22,false)⟩,
 ⟨some 26,.un .not (.t 25),some (22,false)⟩,
 ⟨some 27,.pick (.t 22) (.c (.bool true)) (.t 26),none⟩,
 ⟨some 28,.move (.t 27),none⟩,
 ⟨some 29,.fieldAddr 3 (.t 1),some (28,false)⟩,
 ⟨some 30,.load .one (.t 29),some (28,false)⟩,
 ⟨some 31,.call (.f 30) [(.t 30)],some (28,false)⟩,
 ⟨some 32,.un .not (.t 31),some (28,false)⟩,
 ⟨some 33,.pick (.t 28) (.c (.bool true)) (.t 32),none⟩,
 ⟨some 34,.move (.t 33),none⟩,
 ⟨some 35,.fieldAddr 4 (.t 1),some (34,false)⟩,
 ⟨some 36,.load .one (.t 35),some (34,false)⟩,
 ⟨some 37,.call (.f 30) [(.t 36)],some (34,false)⟩,
 ⟨some 38,.un .not (.t 37),some (34,false)⟩,
 ⟨some 39,.pick (.t 34) (.c (.bool true)) (.t 38),none⟩,
 ⟨some 40,.move (.t 39),none⟩,
 ⟨some 41,.fieldAddr 6 (.t 1),some (40,false)⟩,
 ⟨some 42,.load .one (.t 41),some (40,false)⟩,
 ⟨some 43,.call (.f 30) [(.t 42)],some (40,false)⟩,
 ⟨some 44,.un .not (.t 43),some (40,false)⟩,
 ⟨some 45,.pick (.t 40) (.c (.bool true)) (.t 44),none⟩]
def c9_r2 : List COper := [⟨some 2,.move (.c (.str [])),none⟩,
 ⟨some 3,.move (.c (.int .i64 1)),none⟩]
def c9_r3 : List COper := [⟨some 47,.load (.many 12) (.t 1),none⟩,
 ⟨some 48,.call (.f 31) [(.t 47)],none⟩,
 ⟨some 46,.move (.t 48),none⟩,
 ⟨some 49,.extract (.t 46) 0,none⟩,
 ⟨some 50,.extract (.t 46) 1,none⟩,
 ⟨some 5,.alloc [(.int .i64 0),(.int .i64 0),(.int .i64 0),(.int .i64 0),(.int .i64 0),(.int .u8 0),(.int .i64 0),(.int .u16 0),(.int .u32 0),(.bool false),.nils,(.str [])],none⟩,
 ⟨some 4,.move (.t 49),none⟩,
 ⟨none,.store 12 (.t 5) (.t 50),none⟩]
def c9_r4 : List COper := [⟨some 51,.move (.t 4),none⟩,
 ⟨some 52,.eq .scalar false (.t 51) (.c (.str [])),none⟩,
 ⟨some 53,.move (.t 52),none⟩,
 ⟨some 54,.load (.many 12) (.t 1),some (53,false)⟩,
 ⟨some 55,.load (.many 12) (.t 5),some (53,false)⟩,
 ⟨some 56,.call (.f 12) [(.t 54),(.t 55)],some (53,false)⟩,
 ⟨some 57,.un .not (.t 56),some (53,false)⟩,
 ⟨some 58,.pick (.t 53) (.c (.bool true)) (.t 57),none⟩]
def c9_r5 : List COper := [⟨some 2,.move (.c (.str [])),none⟩,
 ⟨some 3,.move (.c (.int .i64 1)),none⟩]
def c9_r6 : List COper := [⟨some 59,.move (.t 4),none⟩,
 ⟨some 2,.move (.t 59),none⟩,
 ⟨some 3,.move (.c (.int .i64 0)),none⟩]
def c9 : CFunc := ⟨60,(.seq (.region c9_r0) (.seq (.kill [6,7,8,9,10,11,12,13,14,15,16,17,18,19,20,21,22,23,24,25,26,27,28,29,30,31,32,33,34,35,36,37,38,39,40,41,42,43,44,45] (.seq (.kill [6,7,8,9,10,11,12,13,14,15,16,17,18,19,20,21,22,23,24,25,26,27,28,29,30,31,32,33,34,35,36,37,38,39,40,41,42,43,44] (.region c9_r1)) (.cond (.t 45) (.seq (.region c9_r2) .ret) .skip))) (.seq (.kill [47,48,46,49,50] (.region c9_r3)) (.seq (.kill [51,52,53,54,55,56,57,58] (.seq (.kill [51,52,53,54,55,56,57] (.region c9_r4)) (.cond (.t 58) (.seq (.region c9_r5) .ret) .skip))) (.seq (.kill [59] (.region c9_r6)) .ret))))),[.tmp 2,.tmp 3]⟩
def c10_r0 : List COper := [⟨some 2,.alloc [(.int .i64 0),(.int .i64 0),(.int .i64 0),(.int .i64 0),(.int .i64 0),(.int .u8 0),(.int .i64 0),(.int .u16 0),(.int .u32 0),(.bool false),.nils,(.str [])],none⟩,
 ⟨some 3,.alloc [(.int .i64 0)],none⟩]
def c10_r1 : List COper := [⟨none,.defer (.f 24) [(.t 3)],none⟩]
def c10_r2 : List COper := [⟨some 4,.alloc [(.int .i64 0),(.int .i64 0),(.int .i64 0),(.int .i64 0),(.int .i64 0),(.int .u8 0),(.int .i64 0),(.int .u16 0),(.int .u32 0),(.bool false),.nils,(.str [])],none⟩]
def c10_r3 : List COper := [⟨some 7,.move (.t 0),none⟩,
 ⟨some 8,.call (.f 32) [(.t 7),(.c (.str [32]))],none⟩,
 ⟨some 9,.build [.nils,(.bool false)] [(0,1,(.t 8)),(1,1,(.c (.bool true)))],none⟩,
 ⟨some 10,.box (.t 9),none⟩,
 ⟨some 11,.build [.nilp,.nilp] [(0,1,(.t 10)),(1,1,(.t 4))],none⟩,
 ⟨some 5,.alloc [.nilp,.nilp],none⟩,
 ⟨none,.store 2 (.t 5) (.t 11),none⟩]
def c10_r4 : List COper := [⟨some 12,.fieldAddr 0 (.t 5),none⟩,
 ⟨some 13,.load .one (.t 12),none⟩,
 ⟨some 14,.nilCheck (.t 13),none⟩,
 ⟨some 15,.fieldAddr 0 (.t 14),none⟩,
 ⟨some 16,.load .one (.t 15),none⟩,
 ⟨some 17,.indexSl 1 (.t 16) (.c (.int .i64 0)),none⟩,
 ⟨some 18,.load .one (.t 17),none⟩,
 ⟨some 6,.alloc [(.str [])],none⟩,
 ⟨none,.store 1 (.t 6) (.t 18),none⟩]
def c10_r5 : List COper := [⟨some 19,.load (.many 2) (.t 5),none⟩,
 ⟨some 20,.mkFunc (.func 33) [] [(.t 6)],none⟩,
 ⟨some 21,.call (.f 25) [(.t 19),(.c (.int .i64 250)),(.t 20)],none⟩]
def c10_r6 : List COper := [⟨some 22,.fieldAddr 0 (.t 5),none⟩,
 ⟨some 23,.load .one (.t 22),none⟩,
 ⟨some 24,.call (.f 34) [(.t 23)],none⟩]
def c10_r7 : List COper := [⟨some 25,.load (.many 12) (.t 4),none⟩,
 ⟨none,.store 12 (.t 2) (.t 25),none⟩,
 ⟨none,.store 1 (.t 3) (.c (.int .i64 0)),none⟩]
def c10 : CFunc := ⟨26,(.seq (.region c10_r0) (.seq (.region c10_r1) (.seq (.region c10_r2) (.seq (.kill [7,8,9,10,11] (.region c10_r3)) (.seq (.kill [12,13,14,15,16,17,18] (.region c10_r4)) (.seq (.kill [19,20,21] (.region c10_r5)) (.seq (.kill [22,23,24] (.region c10_r6)) (.seq (.kill [25] (.region c10_r7)) .ret)))))))),[.cell 2 (.many 12),.cell 3 .one]⟩
def c11_r0 : List COper := [⟨some 2,.alloc [(.int .i64 0),(.int .i64 0),(.int .i64 0),(.int .i64 0),(.int .i64 0),(.int .u8 0),(.int .i64 0),(.int .u16 0),(.int .u32 0),(.bool false),.nils,(.str [])],none⟩,
 ⟨some 3,.move (.c (.int .i64 0)),none⟩]
def c11_r1 : List COper := [⟨some 10,.move (.t 0),none⟩,
 ⟨some 11,.call (.f 35) [(.t 10)],none⟩,
 ⟨some 4,.move (.t 11),none⟩]
def c11_r2 : List COper := [⟨some 12,.move (.t 4),none⟩,
 ⟨some 13,.len (.t 12),none⟩,
 ⟨some 14,.arith .lss (.t 13) (.c (.int .i64 6)),none⟩]
def c11_r3 : List COper := [⟨some 15,.move (.t 4),none⟩,
 ⟨some 16,.buildSlice [(.str [])] 1 [(0,1,(.c (.str [])))],none⟩,
 ⟨some 17,.append 1 16 (.t 15) (.t 16),none⟩,
 ⟨some 4,.move (.t 17),none⟩]
def c11_l0 : CCode :=
  (.kill [12,13,14,15,16,17] (.seq (.kill [12,13,14] (.seq (.kill [12,13] (.region c11_r2)) (.cond (.t 14) .skip (.exit 0)))) (.block 1 (.region c11_r3))))
def c11_r4 : List COper := [⟨some 18,.move (.t 4),none⟩,
 ⟨some 19,.indexSl 1 (.t 18) (.c (.int .i64 0)),none⟩,
 ⟨some 20,.load .one (.t 19),none⟩,
 ⟨some 21,.call (.f 36) [(.t 20)],none⟩,
 ⟨some 22,.build [(.int .i64 0),(.int .i64 0),(.int .i64 0),(.int .i64 0),(.int .i64 0),(.int .u8 0),(.int .i64 0),(.int .u16 0),(.int .u32 0),(.bool false),.nils,(.str [])] [(0,1,(.t 21))],none⟩,
 ⟨some 5,.alloc [(.int .i64 0),(.int .i64 0),(.int .i64 0),(.int .i64 0),(.int .i64 0),(.int .u8 0),(.int .i64 0),(.int .u16 0),(.int .u32 0),(.bool false),.nils,(.str [])],none⟩,
 ⟨none,.store 12 (.t 5) (.t 22),none⟩]
def c11_r5 : List COper := [⟨some 23,.mkSlice [(.int .i64 0)] 8 (.c (.int .i64 6)) (.c (.int .i64 6)),none⟩,
 ⟨some 6,.move (.t 23),none⟩]
def c11_r6 : List COper := [⟨some 7,.move (.c (.int .i64 0)),none⟩]
def c11_r7 : List COper := [⟨some 24,.move (.t 7),none⟩,
 ⟨some 25,.arith .lss (.t 24) (.c (.int .i64 6)),none⟩]
def c11_r8 : List COper := [⟨some 28,.move (.t 6),none⟩,
 ⟨some 29,.move (.t 7),none⟩,
 ⟨some 30,.move (.t 4),none⟩,
 ⟨some 31,.move (.t 7),none⟩,
 ⟨some 32,.indexSl 1 (.t 30) (.t 31),none⟩,
 ⟨some 33,.load .one (.t 32),none⟩,
 ⟨some 34,.call (.f 37) [(.t 33)],none⟩,
 ⟨some 35,.arith .rem (.t 34) (.c (.int .u64 4398046511104)),none⟩,
 ⟨some 36,.conv .i64 (.t 35),none⟩,
 ⟨some 37,.indexSl 1 (.t 28) (.t 29),none⟩,
 ⟨none,.store 1 (.t 37) (.t 36),none⟩]
def c11_r9 : List COper := [⟨some 26,.move (.t 7),none⟩,
 ⟨some 27,.arith .add (.t 26) (.c (.int .i64 1)),none⟩,
 ⟨some 7,.move (.t 27),none⟩]
def c11_l1 : CCode :=
  (.kill [24,25,28,29,30,31,32,33,34,35,36,37,26,27] (.seq (.kill [24,25] (.seq (.kill [24] (.region c11_r7)) (.cond (.t 25) .skip (.exit 2)))) (.seq (.kill [28,29,30,31,32,33,34,35,36,37] (.block 3 (.region c11_r8))) (.region c11_r9))))
def c11_r10 : List COper := [⟨some 38,.move (.t 6),none⟩,
 ⟨some 39,.indexSl 1 (.t 38) (.c (.int .i64 1)),none⟩,
 ⟨some 40,.load .one (.t 39),none⟩,
 ⟨some 41,.fieldAddr 1 (.t 5),none⟩,
 ⟨none,.store 1 (.t 41) (.t 40),none⟩]
def c11_r11 : List COper := [⟨some 42,.fieldAddr 0 (.t 5),none⟩,
 ⟨some 43,.load .one (.t 42),none⟩]
def c11_r12 : List COper := [⟨some 45,.eq .scalar false (.t 43) (.c (.int .i64 2)),none⟩,
 ⟨some 44,.move (.t 45),none⟩]
def c11_r13 : List DItem := [⟨0,⟨some 46,.move (.t 6),none⟩,.quiet,[],false⟩,
 ⟨1,⟨some 47,.indexSl 1 (.t 46) (.c (.int .i64 2)),none⟩,.quiet,[0],false⟩,
 ⟨2,⟨some 48,.load .one (.t 47),none⟩,.read,[1,0],false⟩,
 ⟨3,⟨some 49,.conv .u16 (.t 48),none⟩,.quiet,[2,1,0],false⟩,
 ⟨4,⟨some 50,.move (.t 6),none⟩,.quiet,[],false⟩,
 ⟨5,⟨some 51,.indexSl 1 (.t 50) (.c (.int .i64 3)),none⟩,.quiet,[4],false⟩,
 ⟨6,⟨some 52,.load .one (.t 51),none⟩,.read,[5,4],false⟩,
 ⟨7,⟨some 53,.conv .u32 (.t 52),none⟩,.quiet,[6,5,4],false⟩,
 ⟨8,⟨some 54,.move (.t 4),none⟩,.quiet,[],false⟩,
 ⟨9,⟨some 55,.indexSl 1 (.t 54) (.c (.int .i64 4)),none⟩,.quiet,[8],false⟩,
 ⟨10,⟨some 56,.load .one (.t 55),none⟩,.read,[9,8],false⟩,
 ⟨11,⟨some 57,.eq .scalar false (.t 56) (.c (.str [117])),none⟩,.quiet,[10,9,8],false⟩,
 ⟨12,⟨some 58,.move (.t 4),none⟩,.quiet,[],false⟩,
 ⟨13,⟨some 59,.indexSl 1 (.t 58) (.c (.int .i64 5)),none⟩,.quiet,[12],false⟩,
 ⟨14,⟨some 60,.load .one (.t 59),none⟩,.read,[13,12],false⟩,
 ⟨16,⟨some 62,.fieldAddr 7 (.t 5),none⟩,.quiet,[0,1,2,3],false⟩,
 ⟨15,⟨some 61,.call (.f 38) [(.t 60)],none⟩,.eff,[14,13,12],true⟩,
 ⟨17,⟨none,.store 1 (.t 62) (.t 49),none⟩,.eff,[16,3,15,0,1,2,14,13,12],true⟩,
 ⟨18,⟨some 63,.fieldAddr 8 (.t 5),none⟩,.quiet,[0,1,2,3,4,5,6,7,16,17,15,14,13,12],false⟩,
 ⟨19,⟨none,.store 1 (.t 63) (.t 53),none⟩,.eff,[18,7,17,0,1,2,3,4,5,6,16,15,14,13,12],true⟩,
 ⟨20,⟨some 64,.fieldAddr 9 (.t 5),none⟩,.quiet,[0,1,2,3,4,5,6,7,8,9,10,11,16,17,18,19,15,14,13,12],false⟩,
 ⟨21,⟨none,.store 1 (.t 64) (.t 57),none⟩,.eff,[20,11,19,0,1,2,3,4,5,6,7,8,9,10,16,17,18,15,14,13,12],true⟩,
 ⟨22,⟨some 65,.fieldAddr 10 (.t 5),none⟩,.quiet,[0,1,2,3,4,5,6,7,8,9,10,11,12,13,14,15,16,17,18,19,20,21],false⟩,
 ⟨23,⟨none,.store 1 (.t 65) (.t 61),none⟩,.eff,[22,15,21,0,1,2,3,4,5,6,7,8,9,10,11,12,13,14,16,17,18,19,20],true⟩]
def c11_r14 : List COper := [⟨some 67,.eq .scalar false (.t 43) (.c (.int .i64 5)),none⟩,
 ⟨some 66,.move (.t 67),none⟩]
def c11_r15 : List COper := [⟨some 68,.move (.t 4),none⟩,
 ⟨some 69,.indexSl 1 (.t 68) (.c (.int .i64 2)),none⟩,
 ⟨some 70,.load .one (.t 69),none⟩,
 ⟨some 71,.call (.f 38) [(.t 70)],none⟩,
 ⟨some 72,.b2s (.t 71),none⟩,
 ⟨some 73,.fieldAddr 11 (.t 5),none⟩,
 ⟨none,.store 1 (.t 73) (.t 72),none⟩]
def c11_r16 : List COper := [⟨some 75,.eq .scalar false (.t 43) (.c (.int .i64 7)),none⟩,
 ⟨some 74,.move (.t 75),none⟩]
def c11_r17 : List DItem := [⟨0,⟨some 76,.move (.t 6),none⟩,.quiet,[],false⟩,
 ⟨1,⟨some 77,.indexSl 1 (.t 76) (.c (.int .i64 1)),none⟩,.quiet,[0],false⟩,
 ⟨2,⟨some 78,.load .one (.t 77),none⟩,.read,[1,0],false⟩,
 ⟨3,⟨some 79,.fieldAddr 1 (.t 5),none⟩,.quiet,[],false⟩,
 ⟨4,⟨none,.store 1 (.t 79) (.c (.int .i64 0)),none⟩,.eff,[3],true⟩,
 ⟨5,⟨some 80,.fieldAddr 6 (.t 5),none⟩,.quiet,[0,1,2,3,4],false⟩,
 ⟨6,⟨none,.store 1 (.t 80) (.t 78),none⟩,.eff,[5,2,4,0,1,3],true⟩]
def c11_r18 : List COper := [⟨some 82,.eq .scalar false (.t 43) (.c (.int .i64 8)),none⟩,
 ⟨some 81,.move (.t 82),none⟩]
def c11_r19 : List COper := [⟨some 83,.eq .scalar false (.t 43) (.c (.int .i64 9)),none⟩,
 ⟨some 81,.move (.t 83),none⟩]
def c11_r20 : List COper := [⟨some 84,.eq .scalar false (.t 43) (.c (.int .i64 10)),none⟩,
 ⟨some 81,.move (.t 84),none⟩]
def c11_r21 : List COper := [⟨some 85,.eq .scalar false (.t 43) (.c (.int .i64 11)),none⟩,
 ⟨some 81,.move (.t 85),none⟩]
def c11_r22 : List DItem := [⟨0,⟨some 86,.move (.t 6),none⟩,.quiet,[],false⟩,
 ⟨1,⟨some 87,.indexSl 1 (.t 86) (.c (.int .i64 2)),none⟩,.quiet,[0],false⟩,
 ⟨2,⟨some 88,.load .one (.t 87),none⟩,.read,[1,0],false⟩,
 ⟨3,⟨some 89,.move (.t 6),none⟩,.quiet,[],false⟩,
 ⟨4,⟨some 90,.indexSl 1 (.t 89) (.c (.int .i64 3)),none⟩,.quiet,[3],false⟩,
 ⟨5,⟨some 91,.load .one (.t 90),none⟩,.read,[4,3],false⟩,
 ⟨6,⟨some 92,.fieldAddr 2 (.t 5),none⟩,.quiet,[0,1,2],false⟩,
 ⟨7,⟨none,.store 1 (.t 92) (.t 88),none⟩,.eff,[6,2,0,1],true⟩,
 ⟨8,⟨some 93,.fieldAddr 3 (.t 5),none⟩,.quiet,[0,1,2,3,4,5,6,7],false⟩,
 ⟨9,⟨none,.store 1 (.t 93) (.t 91),none⟩,.eff,[8,5,7,0,1,2,3,4,6],true⟩]
def c11_r23 : List COper := [⟨some 94,.fieldAddr 0 (.t 5),none⟩,
 ⟨some 95,.load .one (.t 94),none⟩,
 ⟨some 96,.eq .scalar false (.t 95) (.c (.int .i64 11)),none⟩]
def c11_r24 : List DItem := [⟨0,⟨some 97,.move (.t 6),none⟩,.quiet,[],false⟩,
 ⟨1,⟨some 98,.indexSl 1 (.t 97) (.c (.int .i64 4)),none⟩,.quiet,[0],false⟩,
 ⟨2,⟨some 99,.load .one (.t 98),none⟩,.read,[1,0],false⟩,
 ⟨3,⟨some 100,.move (.t 6),none⟩,.quiet,[],false⟩,
 ⟨4,⟨some 101,.indexSl 1 (.t 100) (.c (.int .i64 5)),none⟩,.quiet,[3],false⟩,
 ⟨5,⟨some 102,.load .one (.t 101),none⟩,.read,[4,3],false⟩,
 ⟨6,⟨some 103,.conv .u8 (.t 102),none⟩,.quiet,[5,4,3],false⟩,
 ⟨7,⟨some 104,.fieldAddr 4 (.t 5),none⟩,.quiet,[0,1,2],false⟩,
 ⟨8,⟨none,.store 1 (.t 104) (.t 99),none⟩,.eff,[7,2,0,1],true⟩,
 ⟨9,⟨some 105,.fieldAddr 5 (.t 5),none⟩,.quiet,[0,1,2,3,4,5,6,7,8],false⟩,
 ⟨10,⟨none,.store 1 (.t 105) (.t 103),none⟩,.eff,[9,6,8,0,1,2,3,4,5,7],true⟩]
def c11_r25 : List COper := [⟨some 107,.eq .scalar false (.t 43) (.c (.int .i64 12)),none⟩,
 ⟨some 106,.move (.t 107),none⟩]
def c11_r26 : List DItem := [⟨0,⟨some 108,.move (.t 6),none⟩,.quiet,[],false⟩,
 ⟨1,⟨some 109,.indexSl 1 (.t 108) (.c (.int .i64 2)),none⟩,.quiet,[0],false⟩,
 ⟨2,⟨some 110,.load .one (.t 109),none⟩,.read,[1,0],false⟩,
 ⟨3,⟨some 111,.move (.t 4),none⟩,.quiet,[],false⟩,
 ⟨4,⟨some 112,.indexSl 1 (.t 111) (.c (.int .i64 3)),none⟩,.quiet,[3],false⟩,
 ⟨5,⟨some 113,.load .one (.t 112),none⟩,.read,[4,3],false⟩,
 ⟨7,⟨some 115,.fieldAddr 2 (.t 5),none⟩,.quiet,[0,1,2],false⟩,
 ⟨6,⟨some 114,.call (.f 38) [(.t 113)],none⟩,.eff,[5,4,3],true⟩,
 ⟨8,⟨none,.store 1 (.t 115) (.t 110),none⟩,.eff,[7,2,6,0,1,5,4,3],true⟩,
 ⟨9,⟨some 116,.fieldAddr 10 (.t 5),none⟩,.quiet,[0,1,2,3,4,5,6,7,8],false⟩,
 ⟨10,⟨none,.store 1 (.t 116) (.t 114),none⟩,.eff,[9,6,8,0,1,2,3,4,5,7],true⟩]
def c11_r27 : List COper := [⟨some 118,.eq .scalar false (.t 43) (.c (.int .i64 13)),none⟩,
 ⟨some 117,.move (.t 118),none⟩]
def c11_r28 : List COper := [⟨some 119,.eq .scalar false (.t 43) (.c (.int .i64 14)),none⟩,
 ⟨some 117,.move (.t 119),none⟩]
def c11_r29 : List DItem := [⟨0,⟨some 120,.move (.t 6),none⟩,.quiet,[],false⟩,
 ⟨1,⟨some 121,.indexSl 1 (.t 120) (.c (.int .i64 1)),none⟩,.quiet,[0],false⟩,
 ⟨2,⟨some 122,.load .one (.t 121),none⟩,.read,[1,0],false⟩,
 ⟨3,⟨some 123,.fieldAddr 1 (.t 5),none⟩,.quiet,[],false⟩,
 ⟨4,⟨none,.store 1 (.t 123) (.c (.int .i64 0)),none⟩,.eff,[3],true⟩,
 ⟨5,⟨some 124,.fieldAddr 2 (.t 5),none⟩,.quiet,[0,1,2,3,4],false⟩,
 ⟨6,⟨none,.store 1 (.t 124) (.t 122),none⟩,.eff,[5,2,4,0,1,3],true⟩]
def c11_r30 : List COper := [⟨some 126,.load (.many 12) (.t 5),none⟩,
 ⟨some 127,.call (.f 9) [(.t 126)],none⟩,
 ⟨some 125,.move (.t 127),none⟩,
 ⟨some 128,.extract (.t 125) 0,none⟩,
 ⟨some 129,.extract (.t 125) 1,none⟩,
 ⟨some 8,.move (.t 128),none⟩,
 ⟨some 9,.move (.t 129),none⟩]
def c11_r31 : List COper := [⟨some 130,.move (.t 9),none⟩,
 ⟨some 131,.eq .scalar true (.t 130) (.c (.int .i64 0)),none⟩,
 ⟨some 132,.move (.t 131),none⟩,
 ⟨some 133,.move (.t 8),some (132,false)⟩,
 ⟨some 134,.move (.t 0),some (132,false)⟩,
 ⟨some 135,.eq .scalar true (.t 133) (.t 134),some (132,false)⟩,
 ⟨some 136,.pick (.t 132) (.c (.bool true)) (.t 135),none⟩]
def c11_r32 : List COper := [⟨some 137,.build [(.int .i64 0),(.int .i64 0),(.int .i64 0),(.int .i64 0),(.int .i64 0),(.int .u8 0),(.int .i64 0),(.int .u16 0),(.int .u32 0),(.bool false),.nils,(.str [])] [],none⟩,
 ⟨none,.store 12 (.t 2) (.t 137),none⟩,
 ⟨some 3,.move (.c (.int .i64 250)),none⟩]
def c11_r33 : List COper := [⟨some 138,.load (.many 12) (.t 5),none⟩,
 ⟨none,.store 12 (.t 2) (.t 138),none⟩,
 ⟨some 3,.move (.c (.int .i64 0)),none⟩]
def c11 : CFunc := ⟨139,(.seq (.region c11_r0) (.seq (.kill [10,11,12,13,14,15,16,17] (.region c11_r1)) (.seq (.kill [12,13,14,15,16,17] (.block 0 (.loop c11_l0))) (.seq (.kill [18,19,20,21,22] (.region c11_r4)) (.seq (.kill [23] (.region c11_r5)) (.seq (.kill [7,24,25,28,29,30,31,32,33,34,35,36,37,26,27] (.seq (.kill [24,25,28,29,30,31,32,33,34,35,36,37,26,27] (.region c11_r6)) (.block 2 (.loop c11_l1)))) (.seq (.kill [38,39,40,41] (.region c11_r10)) (.seq (.kill [42,43,45,44,46,47,48,49,50,51,52,53,54,55,56,57,58,59,60,61,62,63,64,65,67,66,68,69,70,71,72,73,75,74,76,77,78,79,80,82,81,83,84,85,86,87,88,89,90,91,92,93,94,95,96,97,98,99,100,101,102,103,104,105,107,106,108,109,110,111,112,113,114,115,116,118,117,119,120,121,122,123,124] (.seq (.kill [42] (.region c11_r11)) (.block 4 (.seq (.kill [45] (.region c11_r12)) (.cond (.t 44) (.draws 24 c11_r13) (.seq (.kill [67] (.region c11_r14)) (.cond (.t 66) (.region c11_r15) (.seq (.kill [75] (.region c11_r16)) (.cond (.t 74) (.draws 7 c11_r17) (.seq (.kill [82,83,84,85] (.seq (.kill [82] (.region c11_r18)) (.cond (.t 81) .skip (.seq (.kill [83] (.region c11_r19)) (.cond (.t 81) .skip (.seq (.kill [84] (.region c11_r20)) (.cond (.t 81) .skip (.region c11_r21)))))))) (.cond (.t 81) (.seq (.kill [86,87,88,89,90,91,92,93] (.draws 10 c11_r22)) (.seq (.kill [94,95] (.region c11_r23)) (.cond (.t 96) (.draws 11 c11_r24) .skip))) (.seq (.kill [107] (.region c11_r25)) (.cond (.t 106) (.draws 11 c11_r26) (.seq (.kill [118,119] (.seq (.kill [118] (.region c11_r27)) (.cond (.t 117) .skip (.region c11_r28)))) (.cond (.t 117) (.draws 7 c11_r29) .skip))))))))))))))) (.seq (.kill [126,127,125,128,129] (.region c11_r30)) (.seq (.kill [130,131,132,133,134,135,136,137] (.seq (.kill [130,131,132,133,134,135] (.region c11_r31)) (.cond (.t 136) (.seq (.kill [137] (.region c11_r32)) .ret) .skip))) (.seq (.kill [138] (.region c11_r33)) .ret))))))))))),[.cell 2 (.many 12),.tmp 3]⟩
def c12_r0 : List COper := [⟨some 2,.box (.t 0),none⟩,
 ⟨some 3,.box (.t 1),none⟩,
 ⟨some 4,.move (.c (.bool false)),none⟩]
def c12_r1 : List COper := [⟨some 5,.fieldAddr 0 (.t 2),none⟩,
 ⟨some 6,.load .one (.t 5),none⟩,
 ⟨some 7,.fieldAddr 0 (.t 3),none⟩,
 ⟨some 8,.load .one (.t 7),none⟩,
 ⟨some 9,.eq .scalar false (.t 6) (.t 8),none⟩,
 ⟨some 10,.move (.t 9),none⟩,
 ⟨some 11,.fieldAddr 1 (.t 2),some (10,true)⟩,
 ⟨some 12,.load .one (.t 11),some (10,true)⟩,
 ⟨some 13,.fieldAddr 1 (.t 3),some (10,true)⟩,
 ⟨some 14,.load .one (.t 13),some (10,true)⟩,
 ⟨some 15,.eq .scalar false (.t 12) (.t 14),some (10,true)⟩,
 ⟨some 16,.pick (.t 10) (.t 15) (.c (.bool false)),none⟩,
 ⟨some 17,.move (.t 16),none⟩,
 ⟨some 18,.fieldAddr 2 (.t 2),some (17,true)⟩,
 ⟨some 19,.load .one (.t 18),some (17,true)⟩,
 ⟨some 20,.fieldAddr 2 (.t 3),some (17,true)⟩,
 ⟨some 21,.load .one (.t 20),some (17,true)⟩,
 ⟨some 22,.eq .scalar false (.t 19) (.t 21),some (17,true)⟩,
 ⟨some 23,.pick (.t 17) (.t 22) (.c (.bool false)),none⟩,
 ⟨some 24,.move (.t 23),none⟩,
 ⟨some 25,.fieldAddr 3 (.t 2),some (24,true)⟩,
 ⟨some 26,.load .one (.t 25),some (24,true)⟩,
 ⟨some 27,.fieldAddr 3 (.t 3),some (24,true)⟩,
 ⟨some 28,.load .one (.t 27),some (24,true)⟩,
 ⟨some 29,.eq .scalar false (.t 26) (.t 28),some (24,true)⟩,
 ⟨some 30,.pick (.t 24) (.t 29) (.c (.bool false)),none⟩,
 ⟨some 31,.move (.t 30),none⟩,
 ⟨some 32,.fieldAddr 4 (.t 2),some (31,true)⟩,
 ⟨some 33,.load .one (.t 32),some (31,true)⟩,
 ⟨some 34,.fieldAddr 4 (.t 3),some (31,true)⟩,
 ⟨some 35,.load .one (.t 34),some (31,true)⟩,
 ⟨some 36,.eq .scalar false (.t 33) (.t 35),some (31,true)⟩,
 ⟨some 37,.pick (.t 31) (.t 36) (.c (.bool false)),none⟩,
 ⟨some 38,.move (.t 37),none⟩,
 ⟨some 39,.fieldAddr 5 (.t 2),some (38,true)⟩,
 ⟨some 40,.load .one (.t 39),some (38,true)⟩,
 ⟨some 41,.fieldAddr 5 (.t 3),some (38,true)⟩,
 ⟨some 42,.load .one (.t 41),some (38,true)⟩,
 ⟨some 43,.eq .scalar false (.t 40) (.t 42),some (38,true)⟩,
 ⟨some 44,.pick (.t 38) (.t 43) (.c (.bool false)),none⟩,
 ⟨some 45,.move (.t 44),none⟩,
 ⟨some 46,.fieldAddr 6 (.t 2),some (45,true)⟩,
 ⟨some 47,.load .one (.t 46),some (45,true)⟩,
 ⟨some 48,.fieldAddr 6 (.t 3),some (45,true)⟩,
 ⟨some 49,.load .one (.t 48),some (45,true)⟩,
 ⟨some 50,.eq .scalar false (.t 47) (.t 49),some (45,true)⟩,
 ⟨some 51,.pick (.t 45) (.t 50) (.c (.bool false)),none⟩,
 ⟨some 52,.move (.t 51),none⟩,
 ⟨some 53,.fieldAddr 7 (.t 2),some (52,true)⟩,
 ⟨some 54,.load .one (.t 53),some (52,true)⟩,
 ⟨some 55,.fieldAddr 7 (.t 3),some (52,true)⟩,
 ⟨some 56,.load .one (.t 55),some (52,true)⟩,
 ⟨some 57,.eq .scalar false (.t 54) (.t 56),some (52,true)⟩,
 ⟨some 58,.pick (.t 52) (.t 57) (.c (.bool false)),none⟩,
 ⟨some 59,.move (.t 58),none⟩,
 ⟨some 60,.fieldAddr 8 (.t 2),some (59,true)⟩,
 ⟨some 61,.load .one (.t 60),some (59,true)⟩,
 ⟨some 62,.fieldAddr 8 (.t 3),some (59,true)⟩,
 ⟨some 63,.load .one (.t 62),some (59,true)⟩,
 ⟨some 64,.eq .scalar false (.t 61) (.t 63),some (59,true)⟩,
 ⟨some 65,.pick (.t 59) (.t 64) (.c (.bool false)),none⟩,
 ⟨some 66,.move (.t 65),none⟩,
 ⟨some 67,.fieldAddr 9 (.t 2),some (66,true)⟩,
 ⟨some 68,.load .one (.t 67),some (66,true)⟩,
 ⟨some 69,.fieldAddr 9 (.t 3),some (66,true)⟩,
 ⟨some 70,.load .one (.t 69),some (66,true)⟩,
 ⟨some 71,.eq .bool false (.t 68) (.t 70),some (66,true)⟩,
 ⟨some 72,.pick (.t 66) (.t 71) (.c (.bool false)),none⟩,
 ⟨some 73,.move (.t 72),none⟩,
 ⟨some 74,.fieldAddr 10 (.t 2),some (73,true)⟩,
 ⟨some 75,.load .one (.t 74),some (73,true)⟩,
 ⟨some 76,.b2s (.t 75),some (73,true)⟩,
 ⟨some 77,.fieldAddr 10 (.t 3),some (73,true)⟩,
 ⟨some 78,.load .one (.t 77),some (73,true)⟩,
 ⟨some 79,.b2s (.t 78),some (73,true)⟩,
 ⟨some 80,.eq .scalar false (.t 76) (.t 79),some (73,true)⟩,
 ⟨some 81,.pick (.t 73) (.t 80) (.c (.bool false)),none⟩,
 ⟨some 82,.move (.t 81),none⟩,
 ⟨some 83,.fieldAddr 11 (.t 2),some (82,true)⟩,
 ⟨some 84,.load .one (.t 83),some (82,true)⟩,
 ⟨some 85,.fieldAddr 11 (.t 3),some (82,true)⟩,
 ⟨some 86,.load .one (.t 85),some (82,true)⟩,
 ⟨some 87,.eq .scalar false (.t 84) (.t 86),some (82,true)⟩,
 ⟨some 88,.pick (.t 82) (.t 87) (.c (.bool false)),none⟩,
 ⟨some 4,.move (.t 88),none⟩]
def c12 : CFunc := ⟨89,(.seq (.region c12_r0) (.seq (.kill [5,6,7,8,9,10,11,12,13,14,15,16,17,18,19,20,21,22,23,24,25,26,27,28,29,30,31,32,33,34,35,36,37,38,39,40,41,42,43,44,45,46,47,48,49,50,51,52,53,54,55,56,57,58,59,60,61,62,63,64,65,66,67,68,69,70,71,72,73,74,75,76,77,78,79,80,81,82,83,84,85,86,87,88] (.region c12_r1)) .ret)),[.tmp 4]⟩
def c13_r0 : List COper := [⟨some 0,.move (.c (.bool false)),none⟩]
def c13_r1 : List COper := [⟨some 6,.buildSlice [(.int .u8 0),(.int .u8 0)] 2 [(0,1,(.c (.int .u8 104))),(1,1,(.c (.int .u8 105)))],none⟩,
 ⟨some 7,.mark (.t 6),none⟩,
 ⟨some 8,.build [(.int .i64 0),(.int .i64 0),(.int .i64 0),(.int .i64 0),(.int .i64 0),(.int .u8 0),(.int .i64 0),(.int .u16 0),(.int .u32 0),(.bool false),.nils,(.str [])] [(0,1,(.c (.int .i64 2))),(1,1,(.c (.int .i64 1))),(7,1,(.c (.int .u16 2))),(8,1,(.c (.int .u32 7))),(9,1,(.c (.bool true))),(10,1,(.t 7))],none⟩,
 ⟨some 1,.alloc [(.int .i64 0),(.int .i64 0),(.int .i64 0),(.int .i64 0),(.int .i64 0),(.int .u8 0),(.int .i64 0),(.int .u16 0),(.int .u32 0),(.bool false),.nils,(.str [])],none⟩,
 ⟨none,.store 12 (.t 1) (.t 8),none⟩]
def c13_r2 : List COper := [⟨some 10,.load (.many 12) (.t 1),none⟩,
 ⟨some 11,.call (.f 8) [(.t 10)],none⟩,
 ⟨some 9,.move (.t 11),none⟩,
 ⟨some 12,.extract (.t 9) 0,none⟩,
 ⟨some 13,.extract (.t 9) 1,none⟩,
 ⟨some 2,.move (.t 12),none⟩,
 ⟨some 3,.move (.t 13),none⟩]
def c13_r3 : List COper := [⟨some 15,.move (.t 2),none⟩,
 ⟨some 16,.call (.f 10) [(.t 15)],none⟩,
 ⟨some 14,.move (.t 16),none⟩,
 ⟨some 17,.extract (.t 14) 0,none⟩,
 ⟨some 18,.extract (.t 14) 1,none⟩,
 ⟨some 4,.alloc [(.int .i64 0),(.int .i64 0),(.int .i64 0),(.int .i64 0),(.int .i64 0),(.int .u8 0),(.int .i64 0),(.int .u16 0),(.int .u32 0),(.bool false),.nils,(.str [])],none⟩,
 ⟨none,.store 12 (.t 4) (.t 17),none⟩,
 ⟨some 5,.move (.t 18),none⟩]
def c13_r4 : List COper := [⟨some 19,.move (.t 3),none⟩,
 ⟨some 20,.eq .scalar false (.t 19) (.c (.int .i64 0)),none⟩,
 ⟨some 21,.move (.t 20),none⟩,
 ⟨some 22,.move (.t 5),some (21,true)⟩,
 ⟨some 23,.eq .scalar false (.t 22) (.c (.int .i64 0)),some (21,true)⟩,
 ⟨some 24,.pick (.t 21) (.t 23) (.c (.bool false)),none⟩,
 ⟨some 25,.move (.t 24),none⟩,
 ⟨some 26,.move (.t 2),some (25,true)⟩,
 ⟨some 27,.eq .scalar false (.t 26) (.c (.str [115,101,110,100,32,49,32,50,32,55,32,117,32,54,56,54,57])),some (25,true)⟩,
 ⟨some 28,.pick (.t 25) (.t 27) (.c (.bool false)),none⟩,
 ⟨some 29,.move (.t 28),none⟩,
 ⟨some 30,.load (.many 12) (.t 1),some (29,true)⟩,
 ⟨some 31,.load (.many 12) (.t 4),some (29,true)⟩,
 ⟨some 32,.call (.f 12) [(.t 30),(.t 31)],some (29,true)⟩,
 ⟨some 33,.pick (.t 29) (.t 32) (.c (.bool false)),none⟩,
 ⟨some 0,.move (.t 33),none⟩]
def c13 : CFunc := ⟨34,(.seq (.region c13_r0) (.seq (.kill [6,7,8] (.region c13_r1)) (.seq (.kill [10,11,9,12,13] (.region c13_r2)) (.seq (.kill [15,16,14,17,18] (.region c13_r3)) (.seq (.kill [19,20,21,22,23,24,25,26,27,28,29,30,31,32,33] (.region c13_r4)) .ret))))),[.tmp 0]⟩
def c14_r0 : List COper := [⟨some 1,.box (.t 0),none⟩,
 ⟨some 2,.move (.c (.str [])),none⟩,
 ⟨some 3,.alloc [(.int .i64 0)],none⟩]
def c14_r1 : List COper := [⟨none,.defer (.f 24) [(.t 3)],none⟩]
def c14_r2 : List COper := [⟨some 5,.build [.nils,(.bool false)] [],none⟩,
 ⟨some 6,.box (.t 5),none⟩,
 ⟨some 4,.move (.t 6),none⟩]
def c14_r3 : List COper := [⟨some 7,.move (.t 4),none⟩,
 ⟨some 8,.call (.f 39) [(.t 7),(.t 1)],none⟩]
def c14_r4 : List COper := [⟨some 9,.move (.t 4),none⟩,
 ⟨some 10,.call (.f 27) [(.t 9)],none⟩,
 ⟨some 2,.move (.t 10),none⟩,
 ⟨none,.store 1 (.t 3) (.c (.int .i64 0)),none⟩]
def c14 : CFunc := ⟨11,(.seq (.region c14_r0) (.seq (.region c14_r1) (.seq (.kill [5,6] (.region c14_r2)) (.seq (.kill [7,8] (.region c14_r3)) (.seq (.kill [9,10] (.region c14_r4)) .ret))))),[.tmp 2,.cell 3 .one]⟩
def c15_r0 : List COper := [⟨some 1,.box (.t 0),none⟩,
 ⟨some 2,.move (.c (.str [])),none⟩,
 ⟨some 3,.move (.c (.int .i64 0)),none⟩]
def c15_r1 : List DItem := [⟨0,⟨some 8,.fieldAddr 0 (.t 1),none⟩,.quiet,[],false⟩,
 ⟨1,⟨some 9,.fieldAddr 16 (.t 8),none⟩,.quiet,[0],false⟩,
 ⟨2,⟨some 10,.load .one (.t 9),none⟩,.read,[1,0],false⟩,
 ⟨6,⟨some 14,.fieldAddr 0 (.t 1),none⟩,.quiet,[],false⟩,
 ⟨7,⟨some 15,.fieldAddr 0 (.t 14),none⟩,.quiet,[6],false⟩,
 ⟨8,⟨some 16,.sliceArr 16 1 (.t 15) none none,none⟩,.quiet,[7,6],false⟩,
 ⟨3,⟨some 11,.call (.f 40) [(.t 10),(.c (.int .i64 10))],none⟩,.eff,[2,1,0],true⟩,
 ⟨4,⟨some 12,.arith .add (.c (.str [99,111,110,102,32,115,101,101,100,32])) (.t 11),none⟩,.quiet,[3,2,1,0],false⟩,
 ⟨5,⟨some 13,.arith .add (.t 12) (.c (.str [32,107,101,121,32])),none⟩,.quiet,[4,3,2,1,0],false⟩,
 ⟨9,⟨some 17,.call (.f 41) [(.t 16)],none⟩,.eff,[8,3,7,6,2,1,0],true⟩,
 ⟨10,⟨some 18,.arith .add (.t 13) (.t 17),none⟩,.quiet,[5,9,4,3,2,1,0,8,7,6],false⟩,
 ⟨11,⟨some 4,.move (.t 18),none⟩,.quiet,[10,9,0,1,2,3,4,5,6,7,8],false⟩]
def c15_r2 : List COper := [⟨some 19,.load (.many 41) (.t 1),none⟩,
 ⟨some 20,.call (.f 42) [(.t 19)],none⟩,
 ⟨some 21,.call (.f 43) [],none⟩,
 ⟨some 5,.move (.t 20),none⟩,
 ⟨some 6,.move (.t 21),none⟩]
def c15_r3 : List COper := [⟨some 7,.move (.c (.int .i64 0)),none⟩]
def c15_r4 : List COper := [⟨some 22,.move (.t 7),none⟩,
 ⟨some 23,.move (.t 5),none⟩,
 ⟨some 24,.len (.t 23),none⟩,
 ⟨some 25,.arith .lss (.t 22) (.t 24),none⟩,
 ⟨some 26,.move (.t 25),none⟩,
 ⟨some 27,.move (.t 7),some (26,true)⟩,
 ⟨some 28,.move (.t 6),some (26,true)⟩,
 ⟨some 29,.len (.t 28),some (26,true)⟩,
 ⟨some 30,.arith .lss (.t 27) (.t 29),some (26,true)⟩,
 ⟨some 31,.pick (.t 26) (.t 30) (.c (.bool false)),none⟩]
def c15_r5 : List COper := [⟨some 34,.move (.t 5),none⟩,
 ⟨some 35,.move (.t 7),none⟩,
 ⟨some 36,.indexSl 1 (.t 34) (.t 35),none⟩,
 ⟨some 37,.load .one (.t 36),none⟩,
 ⟨some 38,.call (.f 30) [(.t 37)],none⟩,
 ⟨some 39,.un .not (.t 38),none⟩]
def c15_r6 : List COper := [⟨some 2,.move (.c (.str [])),none⟩,
 ⟨some 3,.move (.c (.int .i64 1)),none⟩]
def c15_r7 : List DItem := [⟨0,⟨some 40,.move (.t 4),none⟩,.quiet,[],false⟩,
 ⟨1,⟨some 41,.arith .add (.t 40) (.c (.str [32])),none⟩,.quiet,[0],false⟩,
 ⟨2,⟨some 42,.move (.t 6),none⟩,.quiet,[],false⟩,
 ⟨3,⟨some 43,.move (.t 7),none⟩,.quiet,[],false⟩,
 ⟨4,⟨some 44,.indexSl 1 (.t 42) (.t 43),none⟩,.quiet,[2,3],false⟩,
 ⟨5,⟨some 45,.load .one (.t 44),none⟩,.read,[4,2,3],false⟩,
 ⟨6,⟨some 46,.arith .add (.t 41) (.t 45),none⟩,.quiet,[1,5,0,4,2,3],false⟩,
 ⟨7,⟨some 47,.arith .add (.t 46) (.c (.str [32])),none⟩,.quiet,[6,1,5,0,4,2,3],false⟩,
 ⟨8,⟨some 48,.move (.t 5),none⟩,.quiet,[],false⟩,
 ⟨9,⟨some 49,.move (.t 7),none⟩,.quiet,[],false⟩,
 ⟨10,⟨some 50,.indexSl 1 (.t 48) (.t 49),none⟩,.quiet,[8,9],false⟩,
 ⟨11,⟨some 51,.load .one (.t 50),none⟩,.read,[10,8,9],false⟩,
 ⟨12,⟨some 52,.call (.f 44) [(.t 51)],none⟩,.eff,[11,10,8,9],true⟩,
 ⟨13,⟨some 53,.arith .add (.t 47) (.t 52),none⟩,.quiet,[7,12,6,1,5,0,4,2,3,11,10,8,9],false⟩,
 ⟨14,⟨some 4,.move (.t 53),none⟩,.quiet,[13,12,0,1,2,3,4,5,6,7,8,9,10,11],false⟩]
def c15_r8 : List COper := [⟨some 32,.move (.t 7),none⟩,
 ⟨some 33,.arith .add (.t 32) (.c (.int .i64 1)),none⟩,
 ⟨some 7,.move (.t 33),none⟩]
def c15_l0 : CCode :=
  (.kill [22,23,24,25,26,27,28,29,30,31,34,35,36,37,38,39,40,41,42,43,44,45,46,47,48,49,50,51,52,53,32,33] (.seq (.kill [22,23,24,25,26,27,28,29,30,31] (.seq (.kill [22,23,24,25,26,27,28,29,30] (.region c15_r4)) (.cond (.t 31) .skip (.exit 0)))) (.seq (.kill [34,35,36,37,38,39,40,41,42,43,44,45,46,47,48,49,50,51,52,53] (.block 1 (.seq (.kill [34,35,36,37,38,39] (.seq (.kill [34,35,36,37,38] (.region c15_r5)) (.cond (.t 39) (.seq (.region c15_r6) .ret) .skip))) (.draws 15 c15_r7)))) (.region c15_r8))))
def c15_r9 : List COper := [⟨some 54,.move (.t 4),none⟩,
 ⟨some 2,.move (.t 54),none⟩,
 ⟨some 3,.move (.c (.int .i64 0)),none⟩]
def c15 : CFunc := ⟨55,(.seq (.region c15_r0) (.seq (.kill [8,9,10,11,12,13,14,15,16,17,18] (.draws 12 c15_r1)) (.seq (.kill [19,20,21] (.region c15_r2)) (.seq (.kill [7,22,23,24,25,26,27,28,29,30,31,34,35,36,37,38,39,40,41,42,43,44,45,46,47,48,49,50,51,52,53,32,33] (.seq (.kill [22,23,24,25,26,27,28,29,30,31,34,35,36,37,38,39,40,41,42,43,44,45,46,47,48,49,50,51,52,53,32,33] (.region c15_r3)) (.block 0 (.loop c15_l0)))) (.seq (.kill [54] (.region c15_r9)) .ret))))),[.tmp 2,.tmp 3]⟩
def c16_r0 : List COper := [⟨some 2,.alloc [(.int .u8 0),(.int .u8 0),(.int .u8 0),(.int .u8 0),(.int .u8 0),(.int .u8 0),(.int .u8 0),(.int .u8 0),(.int .u8 0),(.int .u8 0),(.int .u8 0),(.int .u8 0),(.int .u8 0),(.int .u8 0),(.int .u8 0),(.int .u8 0),(.int .u64 0),(.int .i64 0),(.int .u32 0),(.int .u16 0),(.int .u16 0),(.int .i64 0),(.int .i64 0),(.int .u16 0),(.int .u16 0),(.int .i64 0),(.int .i64 0),(.int .i64 0),(.int .i64 0),(.int .i64 0),(.int .i64 0),(.int .i64 0),(.int .i64 0),(.int .i64 0),(.int .i64 0),(.int .i64 0),(.int .i64 0),(.int .i64 0),(.bool false),(.bool false),(.bool false)],none⟩,
 ⟨some 3,.alloc [(.int .i64 0)],none⟩]
def c16_r1 : List COper := [⟨none,.defer (.f 24) [(.t 3)],none⟩]
def c16_r2 : List COper := [⟨some 4,.alloc [(.int .u8 0),(.int .u8 0),(.int .u8 0),(.int .u8 0),(.int .u8 0),(.int .u8 0),(.int .u8 0),(.int .u8 0),(.int .u8 0),(.int .u8 0),(.int .u8 0),(.int .u8 0),(.int .u8 0),(.int .u8 0),(.int .u8 0),(.int .u8 0),(.int .u64 0),(.int .i64 0),(.int .u32 0),(.int .u16 0),(.int .u16 0),(.int .i64 0),(.int .i64 0),(.int .u16 0),(.int .u16 0),(.int .i64 0),(.int .i64 0),(.int .i64 0),(.int .i64 0),(.int .i64 0),(.int .i64 0),(.int .i64 0),(.int .i64 0),(.int .i64 0),(.int .i64 0),(.int .i64 0),(.int .i64 0),(.int .i64 0),(.bool false),(.bool false),(.bool false)],none⟩]
def c16_r3 : List COper := [⟨some 6,.move (.t 0),none⟩,
 ⟨some 7,.call (.f 32) [(.t 6),(.c (.str [32]))],none⟩,
 ⟨some 8,.build [.nils,(.bool false)] [(0,1,(.t 7)),(1,1,(.c (.bool true)))],none⟩,
 ⟨some 9,.box (.t 8),none⟩,
 ⟨some 5,.move (.t 9),none⟩]
def c16_r4 : List COper := [⟨some 10,.move (.t 5),none⟩,
 ⟨some 11,.call (.f 39) [(.t 10),(.t 4)],none⟩]
def c16_r5 : List COper := [⟨some 12,.move (.t 5),none⟩,
 ⟨some 13,.call (.f 34) [(.t 12)],none⟩]
def c16_r6 : List COper := [⟨some 14,.load (.many 41) (.t 4),none⟩,
 ⟨none,.store 41 (.t 2) (.t 14),none⟩,
 ⟨none,.store 1 (.t 3) (.c (.int .i64 0)),none⟩]
def c16 : CFunc := ⟨15,(.seq (.region c16_r0) (.seq (.region c16_r1) (.seq (.region c16_r2) (.seq (.kill [6,7,8,9] (.region c16_r3)) (.seq (.kill [10,11] (.region c16_r4)) (.seq (.kill [12,13] (.region c16_r5)) (.seq (.kill [14] (.region c16_r6)) .ret))))))),[.cell 2 (.many 41),.cell 3 .one]⟩
def c17_r0 : List COper := [⟨some 2,.alloc [(.int .u8 0),(.int .u8 0),(.int .u8 0),(.int .u8 0),(.int .u8 0),(.int .u8 0),(.int .u8 0),(.int .u8 0),(.int .u8 0),(.int .u8 0),(.int .u8 0),(.int .u8 0),(.int .u8 0),(.int .u8 0),(.int .u8 0),(.int .u8 0),(.int .u64 0),(.int .i64 0),(.int .u32 0),(.int .u16 0),(.int .u16 0),(.int .i64 0),(.int .i64 0),(.int .u16 0),(.int .u16 0),(.int .i64 0),(.int .i64 0),(.int .i64 0),(.int .i64 0),(.int .i64 0),(.int .i64 0),(.int .i64 0),(.int .i64 0),(.int .i64 0),(.int .i64 0),(.int .i64 0),(.int .i64 0),(.int .i64 0),(.bool false),(.bool false),(.bool false)],none⟩,
 ⟨some 3,.move (.c (.int .i64 0)),none⟩]
def c17_r1 : List COper := [⟨some 12,.move (.t 0),none⟩,
 ⟨some 13,.call (.f 35) [(.t 12)],none⟩,
 ⟨some 4,.move (.t 13),none⟩]
def c17_r2 : List COper := [⟨some 14,.move (.t 4),none⟩,
 ⟨some 15,.len (.t 14),none⟩,
 ⟨some 16,.eq .scalar true (.t 15) (.c (.int .i64 53)),none⟩]
def c17_r3 : List COper := [⟨some 17,.build [(.int .u8 0),(.int .u8 0),(.int .u8 0),(.int .u8 0),(.int .u8 0),(.int .u8 0),(.int .u8 0),(.int .u8 0),(.int .u8 0),(.int .u8 0),(.int .u8 0),(.int .u8 0),(.int .u8 0),(.int .u8 0),(.int .u8 0),(.int .u8 0),(.int .u64 0),(.int .i64 0),(.int .u32 0),(.int .u16 0),(.int .u16 0),(.int .i64 0),(.int .i64 0),(.int .u16 0),(.int .u16 0),(.int .i64 0),(.int .i64 0),(.int .i64 0),(.int .i64 0),(.int .i64 0),(.int .i64 0),(.int .i64 0),(.int .i64 0),(.int .i64 0),(.int .i64 0),(.int .i64 0),(.int .i64 0),(.int .i64 0),(.bool false),(.bool false),(.bool false)] [],none⟩,
 ⟨none,.store 41 (.t 2) (.t 17),none⟩,
 ⟨some 3,.move (.c (.int .i64 250)),none⟩]
def c17_r4 : List COper := [⟨some 18,.build [(.int .u8 0),(.int .u8 0),(.int .u8 0),(.int .u8 0),(.int .u8 0),(.int .u8 0),(.int .u8 0),(.int .u8 0),(.int .u8 0),(.int .u8 0),(.int .u8 0),(.int .u8 0),(.int .u8 0),(.int .u8 0),(.int .u8 0),(.int .u8 0),(.int .u64 0),(.int .i64 0),(.int .u32 0),(.int .u16 0),(.int .u16 0),(.int .i64 0),(.int .i64 0),(.int .u16 0),(.int .u16 0),(.int .i64 0),(.int .i64 0),(.int .i64 0),(.int .i64 0),(.int .i64 0),(.int .i64 0),(.int .i64 0),(.int .i64 0),(.int .i64 0),(.int .i64 0),(.int .i64 0),(.int .i64 0),(.int .i64 0),(.bool false),(.bool false),(.bool false)] [],none⟩,
 ⟨some 5,.alloc [(.int .u8 0),(.int .u8 0),(.int .u8 0),(.int .u8 0),(.int .u8 0),(.int .u8 0),(.int .u8 0),(.int .u8 0),(.int .u8 0),(.int .u8 0),(.int .u8 0),(.int .u8 0),(.int .u8 0),(.int .u8 0),(.int .u8 0),(.int .u8 0),(.int .u64 0),(.int .i64 0),(.int .u32 0),(.int .u16 0),(.int .u16 0),(.int .i64 0),(.int .i64 0),(.int .u16 0),(.int .u16 0),(.int .i64 0),(.int .i64 0),(.int .i64 0),(.int .i64 0),(.int .i64 0),(.int .i64 0),(.int .i64 0),(.int .i64 0),(.int .i64 0),(.int .i64 0),(.int .i64 0),(.int .i64 0),(.int .i64 0),(.bool false),(.bool false),(.bool false)],none⟩,
 ⟨none,.store 41 (.t 5) (.t 18),none⟩]
def c17_r5 : List COper := [⟨some 19,.move (.t 4),none⟩,
 ⟨some 20,.indexSl 1 (.t 19) (.c (.int .i64 2)),none⟩,
 ⟨some 21,.load .one (.t 20),none⟩,
 ⟨some 22,.call (.f 37) [(.t 21)],none⟩,
 ⟨some 23,.fieldAddr 0 (.t 5),none⟩,
 ⟨some 24,.fieldAddr 16 (.t 23),none⟩,
 ⟨none,.store 1 (.t 24) (.t 22),none⟩]
def c17_r6 : List COper := [⟨some 25,.move (.t 4),none⟩,
 ⟨some 26,.indexSl 1 (.t 25) (.c (.int .i64 4)),none⟩,
 ⟨some 27,.load .one (.t 26),none⟩,
 ⟨some 28,.call (.f 38) [(.t 27)],none⟩,
 ⟨some 6,.move (.t 28),none⟩]
def c17_r7 : List COper := [⟨some 7,.move (.c (.int .i64 0)),none⟩]
def c17_r8 : List COper := [⟨some 29,.move (.t 7),none⟩,
 ⟨some 30,.move (.t 6),none⟩,
 ⟨some 31,.len (.t 30),none⟩,
 ⟨some 32,.arith .lss (.t 29) (.t 31),none⟩,
 ⟨some 33,.move (.t 32),none⟩,
 ⟨some 34,.move (.t 7),some (33,true)⟩,
 ⟨some 35,.arith .lss (.t 34) (.c (.int .i64 16)),some (33,true)⟩,
 ⟨some 36,.pick (.t 33) (.t 35) (.c (.bool false)),none⟩]
def c17_r9 : List COper := [⟨some 39,.move (.t 7),none⟩,
 ⟨some 40,.move (.t 6),none⟩,
 ⟨some 41,.move (.t 7),none⟩,
 ⟨some 42,.indexSl 1 (.t 40) (.t 41),none⟩,
 ⟨some 43,.load .one (.t 42),none⟩,
 ⟨some 44,.fieldAddr 0 (.t 5),none⟩,
 ⟨some 45,.fieldAddr 0 (.t 44),none⟩,
 ⟨some 46,.indexArr 16 1 (.t 45) (.t 39),none⟩,
 ⟨none,.store 1 (.t 46) (.t 43),none⟩]
def c17_r10 : List COper := [⟨some 37,.move (.t 7),none⟩,
 ⟨some 38,.arith .add (.t 37) (.c (.int .i64 1)),none⟩,
 ⟨some 7,.move (.t 38),none⟩]
def c17_l0 : CCode :=
  (.kill [29,30,31,32,33,34,35,36,39,40,41,42,43,44,45,46,37,38] (.seq (.kill [29,30,31,32,33,34,35,36] (.seq (.kill [29,30,31,32,33,34,35] (.region c17_r8)) (.cond (.t 36) .skip (.exit 0)))) (.seq (.kill [39,40,41,42,43,44,45,46] (.block 1 (.region c17_r9))) (.region c17_r10))))
def c17_r11 : List COper := [⟨some 47,.mkSlice [(.int .i64 0)] 8 (.c (.int .i64 24)) (.c (.int .i64 24)),none⟩,
 ⟨some 8,.move (.t 47),none⟩]
def c17_r12 : List COper := [⟨some 9,.move (.c (.int .i64 0)),none⟩]
def c17_r13 : List COper := [⟨some 48,.move (.t 9),none⟩,
 ⟨some 49,.arith .lss (.t 48) (.c (.int .i64 24)),none⟩]
def c17_r14 : List COper := [⟨some 52,.move (.t 8),none⟩,
 ⟨some 53,.move (.t 9),none⟩,
 ⟨some 54,.move (.t 4),none⟩,
 ⟨some 55,.move (.t 9),none⟩,
 ⟨some 56,.arith .mul (.c (.int .i64 2)) (.t 55),none⟩,
 ⟨some 57,.arith .add (.c (.int .i64 6)) (.t 56),none⟩,
 ⟨some 58,.indexSl 1 (.t 54) (.t 57),none⟩,
 ⟨some 59,.load .one (.t 58),none⟩,
 ⟨some 60,.call (.f 37) [(.t 59)],none⟩,
 ⟨some 61,.arith .rem (.t 60) (.c (.int .u64 4398046511104)),none⟩,
 ⟨some 62,.conv .i64 (.t 61),none⟩,
 ⟨some 63,.indexSl 1 (.t 52) (.t 53),none⟩,
 ⟨none,.store 1 (.t 63) (.t 62),none⟩]
def c17_r15 : List COper := [⟨some 50,.move (.t 9),none⟩,
 ⟨some 51,.arith .add (.t 50) (.c (.int .i64 1)),none⟩,
 ⟨some 9,.move (.t 51),none⟩]
def c17_l1 : CCode :=
  (.kill [48,49,52,53,54,55,56,57,58,59,60,61,62,63,50,51] (.seq (.kill [48,49] (.seq (.kill [48] (.region c17_r13)) (.cond (.t 49) .skip (.exit 2)))) (.seq (.kill [52,53,54,55,56,57,58,59,60,61,62,63] (.block 3 (.region c17_r14))) (.region c17_r15))))
def c17_r16 : List DItem := [⟨0,⟨some 64,.move (.t 8),none⟩,.quiet,[],false⟩,
 ⟨1,⟨some 65,.indexSl 1 (.t 64) (.c (.int .i64 0)),none⟩,.quiet,[0],false⟩,
 ⟨2,⟨some 66,.load .one (.t 65),none⟩,.read,[1,0],false⟩,
 ⟨3,⟨some 67,.move (.t 8),none⟩,.quiet,[],false⟩,
 ⟨4,⟨some 68,.indexSl 1 (.t 67) (.c (.int .i64 1)),none⟩,.quiet,[3],false⟩,
 ⟨5,⟨some 69,.load .one (.t 68),none⟩,.read,[4,3],false⟩,
 ⟨6,⟨some 70,.conv .u32 (.t 69),none⟩,.quiet,[5,4,3],false⟩,
 ⟨7,⟨some 71,.move (.t 8),none⟩,.quiet,[],false⟩,
 ⟨8,⟨some 72,.indexSl 1 (.t 71) (.c (.int .i64 2)),none⟩,.quiet,[7],false⟩,
 ⟨9,⟨some 73,.load .one (.t 72),none⟩,.read,[8,7],false⟩,
 ⟨10,⟨some 74,.conv .u16 (.t 73),none⟩,.quiet,[9,8,7],false⟩,
 ⟨11,⟨some 75,.move (.t 8),none⟩,.quiet,[],false⟩,
 ⟨12,⟨some 76,.indexSl 1 (.t 75) (.c (.int .i64 3)),none⟩,.quiet,[11],false⟩,
 ⟨13,⟨some 77,.load .one (.t 76),none⟩,.read,[12,11],false⟩,
 ⟨14,⟨some 78,.conv .u16 (.t 77),none⟩,.quiet,[13,12,11],false⟩,
 ⟨15,⟨some 79,.fieldAddr 0 (.t 5),none⟩,.quiet,[0,1,2],false⟩,
 ⟨16,⟨some 80,.fieldAddr 17 (.t 79),none⟩,.quiet,[15,0,1,2],false⟩,
 ⟨17,⟨none,.store 1 (.t 80) (.t 66),none⟩,.eff,[16,2,0,1,15],true⟩,
 ⟨18,⟨some 81,.fieldAddr 0 (.t 5),none⟩,.quiet,[0,1,2,3,4,5,6,15,16,17],false⟩,
 ⟨19,⟨some 82,.fieldAddr 18 (.t 81),none⟩,.quiet,[18,0,1,2,3,4,5,6,15,16,17],false⟩,
 ⟨20,⟨none,.store 1 (.t 82) (.t 70),none⟩,.eff,[19,6,17,0,1,2,3,4,5,15,16,18],true⟩,
 ⟨21,⟨some 83,.fieldAddr 0 (.t 5),none⟩,.quiet,[0,1,2,3,4,5,6,7,8,9,10,15,16,17,18,19,20],false⟩,
 ⟨22,⟨some 84,.fieldAddr 19 (.t 83),none⟩,.quiet,[21,0,1,2,3,4,5,6,7,8,9,10,15,16,17,18,19,20],false⟩,
 ⟨23,⟨none,.store 1 (.t 84) (.t 74),none⟩,.eff,[22,10,20,0,1,2,3,4,5,6,7,8,9,15,16,17,18,19,21],true⟩,
 ⟨24,⟨some 85,.fieldAddr 0 (.t 5),none⟩,.quiet,[0,1,2,3,4,5,6,7,8,9,10,11,12,13,14,15,16,17,18,19,20,21,22,23],false⟩,
 ⟨25,⟨some 86,.fieldAddr 20 (.t 85),none⟩,.quiet,[24,0,1,2,3,4,5,6,7,8,9,10,11,12,13,14,15,16,17,18,19,20,21,22,23],false⟩,
 ⟨26,⟨none,.store 1 (.t 86) (.t 78),none⟩,.eff,[25,14,23,0,1,2,3,4,5,6,7,8,9,10,11,12,13,15,16,17,18,19,20,21,22,24],true⟩]
def c17_r17 : List DItem := [⟨0,⟨some 87,.move (.t 8),none⟩,.quiet,[],false⟩,
 ⟨1,⟨some 88,.indexSl 1 (.t 87) (.c (.int .i64 4)),none⟩,.quiet,[0],false⟩,
 ⟨2,⟨some 89,.load .one (.t 88),none⟩,.read,[1,0],false⟩,
 ⟨3,⟨some 90,.move (.t 8),none⟩,.quiet,[],false⟩,
 ⟨4,⟨some 91,.indexSl 1 (.t 90) (.c (.int .i64 5)),none⟩,.quiet,[3],false⟩,
 ⟨5,⟨some 92,.load .one (.t 91),none⟩,.read,[4,3],false⟩,
 ⟨6,⟨some 93,.move (.t 8),none⟩,.quiet,[],false⟩,
 ⟨7,⟨some 94,.indexSl 1 (.t 93) (.c (.int .i64 6)),none⟩,.quiet,[6],false⟩,
 ⟨8,⟨some 95,.load .one (.t 94),none⟩,.read,[7,6],false⟩,
 ⟨9,⟨some 96,.conv .u16 (.t 95),none⟩,.quiet,[8,7,6],false⟩,
 ⟨10,⟨some 97,.move (.t 8),none⟩,.quiet,[],false⟩,
 ⟨11,⟨some 98,.indexSl 1 (.t 97) (.c (.int .i64 7)),none⟩,.quiet,[10],false⟩,
 ⟨12,⟨some 99,.load .one (.t 98),none⟩,.read,[11,10],false⟩,
 ⟨13,⟨some 100,.conv .u16 (.t 99),none⟩,.quiet,[12,11,10],false⟩,
 ⟨14,⟨some 101,.fieldAddr 0 (.t 5),none⟩,.quiet,[0,1,2],false⟩,
 ⟨15,⟨some 102,.fieldAddr 21 (.t 101),none⟩,.quiet,[14,0,1,2],false⟩,
 ⟨16,⟨none,.store 1 (.t 102) (.t 89),none⟩,.eff,[15,2,0,1,14],true⟩,
 ⟨17,⟨some 103,.fieldAddr 0 (.t 5),none⟩,.quiet,[0,1,2,3,4,5,14,15,16],false⟩,
 ⟨18,⟨some 104,.fieldAddr 22 (.t 103),none⟩,.quiet,[17,0,1,2,3,4,5,14,15,16],false⟩,
 ⟨19,⟨none,.store 1 (.t 104) (.t 92),none⟩,.eff,[18,5,16,0,1,2,3,4,14,15,17],true⟩,
 ⟨20,⟨some 105,.fieldAddr 0 (.t 5),none⟩,.quiet,[0,1,2,3,4,5,6,7,8,9,14,15,16,17,18,19],false⟩,
 ⟨21,⟨some 106,.fieldAddr 23 (.t 105),none⟩,.quiet,[20,0,1,2,3,4,5,6,7,8,9,14,15,16,17,18,19],false⟩,
 ⟨22,⟨none,.store 1 (.t 106) (.t 96),none⟩,.eff,[21,9,19,0,1,2,3,4,5,6,7,8,14,15,16,17,18,20],true⟩,
 ⟨23,⟨some 107,.fieldAddr 0 (.t 5),none⟩,.quiet,[0,1,2,3,4,5,6,7,8,9,10,11,12,13,14,15,16,17,18,19,20,21,22],false⟩,
 ⟨24,⟨some 108,.fieldAddr 24 (.t 107),none⟩,.quiet,[23,0,1,2,3,4,5,6,7,8,9,10,11,12,13,14,15,16,17,18,19,20,21,22],false⟩,
 ⟨25,⟨none,.store 1 (.t 108) (.t 100),none⟩,.eff,[24,13,22,0,1,2,3,4,5,6,7,8,9,10,11,12,14,15,16,17,18,19,20,21,23],true⟩]
def c17_r18 : List DItem := [⟨0,⟨some 109,.move (.t 8),none⟩,.quiet,[],false⟩,
 ⟨1,⟨some 110,.indexSl 1 (.t 109) (.c (.int .i64 8)),none⟩,.quiet,[0],false⟩,
 ⟨2,⟨some 111,.load .one (.t 110),none⟩,.read,[1,0],false⟩,
 ⟨3,⟨some 112,.move (.t 8),none⟩,.quiet,[],false⟩,
 ⟨4,⟨some 113,.indexSl 1 (.t 112) (.c (.int .i64 9)),none⟩,.quiet,[3],false⟩,
 ⟨5,⟨some 114,.load .one (.t 113),none⟩,.read,[4,3],false⟩,
 ⟨6,⟨some 115,.move (.t 8),none⟩,.quiet,[],false⟩,
 ⟨7,⟨some 116,.indexSl 1 (.t 115) (.c (.int .i64 10)),none⟩,.quiet,[6],false⟩,
 ⟨8,⟨some 117,.load .one (.t 116),none⟩,.read,[7,6],false⟩,
 ⟨9,⟨some 118,.fieldAddr 25 (.t 5),none⟩,.quiet,[0,1,2],false⟩,
 ⟨10,⟨none,.store 1 (.t 118) (.t 111),none⟩,.eff,[9,2,0,1],true⟩,
 ⟨11,⟨some 119,.fieldAddr 26 (.t 5),none⟩,.quiet,[0,1,2,3,4,5,9,10],false⟩,
 ⟨12,⟨none,.store 1 (.t 119) (.t 114),none⟩,.eff,[11,5,10,0,1,2,3,4,9],true⟩,
 ⟨13,⟨some 120,.fieldAddr 27 (.t 5),none⟩,.quiet,[0,1,2,3,4,5,6,7,8,9,10,11,12],false⟩,
 ⟨14,⟨none,.store 1 (.t 120) (.t 117),none⟩,.eff,[13,8,12,0,1,2,3,4,5,6,7,9,10,11],true⟩]
def c17_r19 : List DItem := [⟨0,⟨some 121,.move (.t 8),none⟩,.quiet,[],false⟩,
 ⟨1,⟨some 122,.indexSl 1 (.t 121) (.c (.int .i64 11)),none⟩,.quiet,[0],false⟩,
 ⟨2,⟨some 123,.load .one (.t 122),none⟩,.read,[1,0],false⟩,
 ⟨3,⟨some 124,.move (.t 8),none⟩,.quiet,[],false⟩,
 ⟨4,⟨some 125,.indexSl 1 (.t 124) (.c (.int .i64 12)),none⟩,.quiet,[3],false⟩,
 ⟨5,⟨some 126,.load .one (.t 125),none⟩,.read,[4,3],false⟩,
 ⟨6,⟨some 127,.move (.t 8),none⟩,.quiet,[],false⟩,
 ⟨7,⟨some 128,.indexSl 1 (.t 127) (.c (.int .i64 13)),none⟩,.quiet,[6],false⟩,
 ⟨8,⟨some 129,.load .one (.t 128),none⟩,.read,[7,6],false⟩,
 ⟨9,⟨some 130,.build [(.int .i64 0),(.int .i64 0),(.int .i64 0)] [(0,1,(.t 123)),(1,1,(.t 126)),(2,1,(.t 129))],none⟩,.quiet,[2,5,8,1,0,4,3,7,6],false⟩,
 ⟨10,⟨some 131,.fieldAddr 28 (.t 5),none⟩,.quiet,[0,1,2,3,4,5,6,7,8,9],false⟩,
 ⟨11,⟨none,.store 3 (.t 131) (.t 130),none⟩,.eff,[10,9,0,1,2,3,4,5,6,7,8],true⟩]
def c17_r20 : List DItem := [⟨0,⟨some 132,.move (.t 8),none⟩,.quiet,[],false⟩,
 ⟨1,⟨some 133,.indexSl 1 (.t 132) (.c (.int .i64 14)),none⟩,.quiet,[0],false⟩,
 ⟨2,⟨some 134,.load .one (.t 133),none⟩,.read,[1,0],false⟩,
 ⟨3,⟨some 135,.move (.t 8),none⟩,.quiet,[],false⟩,
 ⟨4,⟨some 136,.indexSl 1 (.t 135) (.c (.int .i64 15)),none⟩,.quiet,[3],false⟩,
 ⟨5,⟨some 137,.load .one (.t 136),none⟩,.read,[4,3],false⟩,
 ⟨6,⟨some 138,.move (.t 8),none⟩,.quiet,[],false⟩,
 ⟨7,⟨some 139,.indexSl 1 (.t 138) (.c (.int .i64 16)),none⟩,.quiet,[6],false⟩,
 ⟨8,⟨some 140,.load .one (.t 139),none⟩,.read,[7,6],false⟩,
 ⟨9,⟨some 141,.build [(.int .i64 0),(.int .i64 0),(.int .i64 0)] [(0,1,(.t 134)),(1,1,(.t 137)),(2,1,(.t 140))],none⟩,.quiet,[2,5,8,1,0,4,3,7,6],false⟩,
 ⟨10,⟨some 142,.fieldAddr 31 (.t 5),none⟩,.quiet,[0,1,2,3,4,5,6,7,8,9],false⟩,
 ⟨11,⟨none,.store 3 (.t 142) (.t 141),none⟩,.eff,[10,9,0,1,2,3,4,5,6,7,8],true⟩]
def c17_r21 : List DItem := [⟨0,⟨some 143,.move (.t 8),none⟩,.quiet,[],false⟩,
 ⟨1,⟨some 144,.indexSl 1 (.t 143) (.c (.int .i64 17)),none⟩,.quiet,[0],false⟩,
 ⟨2,⟨some 145,.load .one (.t 144),none⟩,.read,[1,0],false⟩,
 ⟨3,⟨some 146,.move (.t 8),none⟩,.quiet,[],false⟩,
 ⟨4,⟨some 147,.indexSl 1 (.t 146) (.c (.int .i64 18)),none⟩,.quiet,[3],false⟩,
 ⟨5,⟨some 148,.load .one (.t 147),none⟩,.read,[4,3],false⟩,
 ⟨6,⟨some 149,.move (.t 8),none⟩,.quiet,[],false⟩,
 ⟨7,⟨some 150,.indexSl 1 (.t 149) (.c (.int .i64 19)),none⟩,.quiet,[6],false⟩,
 ⟨8,⟨some 151,.load .one (.t 150),none⟩,.read,[7,6],false⟩,
 ⟨9,⟨some 152,.move (.t 8),none⟩,.quiet,[],false⟩,
 ⟨10,⟨some 153,.indexSl 1 (.t 152) (.c (.int .i64 20)),none⟩,.quiet,[9],false⟩,
 ⟨11,⟨some 154,.load .one (.t 153),none⟩,.read,[10,9],false⟩,
 ⟨12,⟨some 155,.fieldAddr 34 (.t 5),none⟩,.quiet,[0,1,2],false⟩,
 ⟨13,⟨none,.store 1 (.t 155) (.t 145),none⟩,.eff,[12,2,0,1],true⟩,
 ⟨14,⟨some 156,.fieldAddr 35 (.t 5),none⟩,.quiet,[0,1,2,3,4,5,12,13],false⟩,
 ⟨15,⟨none,.store 1 (.t 156) (.t 148),none⟩,.eff,[14,5,13,0,1,2,3,4,12],true⟩,
 ⟨16,⟨some 157,.fieldAddr 36 (.t 5),none⟩,.quiet,[0,1,2,3,4,5,6,7,8,12,13,14,15],false⟩,
 ⟨17,⟨none,.store 1 (.t 157) (.t 151),none⟩,.eff,[16,8,15,0,1,2,3,4,5,6,7,12,13,14],true⟩,
 ⟨18,⟨some 158,.fieldAddr 37 (.t 5),none⟩,.quiet,[0,1,2,3,4,5,6,7,8,9,10,11,12,13,14,15,16,17],false⟩,
 ⟨19,⟨none,.store 1 (.t 158) (.t 154),none⟩,.eff,[18,11,17,0,1,2,3,4,5,6,7,8,9,10,12,13,14,15,16],true⟩]
def c17_r22 : List DItem := [⟨0,⟨some 159,.move (.t 8),none⟩,.quiet,[],false⟩,
 ⟨1,⟨some 160,.indexSl 1 (.t 159) (.c (.int .i64 21)),none⟩,.quiet,[0],false⟩,
 ⟨2,⟨some 161,.load .one (.t 160),none⟩,.read,[1,0],false⟩,
 ⟨3,⟨some 162,.eq .scalar false (.t 161) (.c (.int .i64 1)),none⟩,.quiet,[2,1,0],false⟩,
 ⟨4,⟨some 163,.move (.t 8),none⟩,.quiet,[],false⟩,
 ⟨5,⟨some 164,.indexSl 1 (.t 163) (.c (.int .i64 22)),none⟩,.quiet,[4],false⟩,
 ⟨6,⟨some 165,.load .one (.t 164),none⟩,.read,[5,4],false⟩,
 ⟨7,⟨some 166,.eq .scalar false (.t 165) (.c (.int .i64 1)),none⟩,.quiet,[6,5,4],false⟩,
 ⟨8,⟨some 167,.move (.t 8),none⟩,.quiet,[],false⟩,
 ⟨9,⟨some 168,.indexSl 1 (.t 167) (.c (.int .i64 23)),none⟩,.quiet,[8],false⟩,
 ⟨10,⟨some 169,.load .one (.t 168),none⟩,.read,[9,8],false⟩,
 ⟨11,⟨some 170,.eq .scalar false (.t 169) (.c (.int .i64 1)),none⟩,.quiet,[10,9,8],false⟩,
 ⟨12,⟨some 171,.fieldAddr 38 (.t 5),none⟩,.quiet,[0,1,2,3],false⟩,
 ⟨13,⟨none,.store 1 (.t 171) (.t 162),none⟩,.eff,[12,3,0,1,2],true⟩,
 ⟨14,⟨some 172,.fieldAddr 39 (.t 5),none⟩,.quiet,[0,1,2,3,4,5,6,7,12,13],false⟩,
 ⟨15,⟨none,.store 1 (.t 172) (.t 166),none⟩,.eff,[14,7,13,0,1,2,3,4,5,6,12],true⟩,
 ⟨16,⟨some 173,.fieldAddr 40 (.t 5),none⟩,.quiet,[0,1,2,3,4,5,6,7,8,9,10,11,12,13,14,15],false⟩,
 ⟨17,⟨none,.store 1 (.t 173) (.t 170),none⟩,.eff,[16,11,15,0,1,2,3,4,5,6,7,8,9,10,12,13,14],true⟩]
def c17_r23 : List COper := [⟨some 175,.load (.many 41) (.t 5),none⟩,
 ⟨some 176,.call (.f 15) [(.t 175)],none⟩,
 ⟨some 174,.move (.t 176),none⟩,
 ⟨some 177,.extract (.t 174) 0,none⟩,
 ⟨some 178,.extract (.t 174) 1,none⟩,
 ⟨some 10,.move (.t 177),none⟩,
 ⟨some 11,.move (.t 178),none⟩]
def c17_r24 : List COper := [⟨some 179,.move (.t 11),none⟩,
 ⟨some 180,.eq .scalar true (.t 179) (.c (.int .i64 0)),none⟩,
 ⟨some 181,.move (.t 180),none⟩,
 ⟨some 182,.move (.t 10),some (181,false)⟩,
 ⟨some 183,.move (.t 0),some (181,false)⟩,
 ⟨some 184,.eq .scalar true (.t 182) (.t 183),some (181,false)⟩,
 ⟨some 185,.pick (.t 181) (.c (.bool true)) (.t 184),none⟩]
def c17_r25 : List COper := [⟨some 186,.build [(.int .u8 0),(.int .u8 0),(.int .u8 0),(.int .u8 0),(.int .u8 0),(.int .u8 0),(.int .u8 0),(.int .u8 0),(.int .u8 0),(.int .u8 0),(.int .u8 0),(.int .u8 0),(.int .u8 0),(.int .u8 0),(.int .u8 0),(.int .u8 0),(.int .u64 0),(.int .i64 0),(.int .u32 0),(.int .u16 0),(.int .u16 0),(.int .i64 0),(.int .i64 0),(.int .u16 0),(.int .u16 0),(.int .i64 0),(.int .i64 0),(.int .i64 0),(.int .i64 0),(.int .i64 0),(.int .i64 0),(.int .i64 0),(.int .i64 0),(.int .i64 0),(.int .i64 0),(.int .i64 0),(.int .i64 0),(.int .i64 0),(.bool false),(.bool false),(.bool false)] [],none⟩,
 ⟨none,.store 41 (.t 2) (.t 186),none⟩,
 ⟨some 3,.move (.c (.int .i64 250)),none⟩]
def c17_r26 : List COper := [⟨some 187,.load (.many 41) (.t 5),none⟩,
 ⟨none,.store 41 (.t 2) (.t 187),none⟩,
 ⟨some 3,.move (.c (.int .i64 0)),none⟩]
def c17 : CFunc := ⟨188,(.seq (.region c17_r0) (.seq (.kill [12,13] (.region c17_r1)) (.seq (.kill [14,15,16,17] (.seq (.kill [14,15] (.region c17_r2)) (.cond (.t 16) (.seq (.kill [17] (.region c17_r3)) .ret) .skip))) (.seq (.kill [18] (.region c17_r4)) (.seq (.kill [19,20,21,22,23,24] (.region c17_r5)) (.seq (.kill [25,26,27,28] (.region c17_r6)) (.seq (.kill [7,29,30,31,32,33,34,35,36,39,40,41,42,43,44,45,46,37,38] (.seq (.kill [29,30,31,32,33,34,35,36,39,40,41,42,43,44,45,46,37,38] (.region c17_r7)) (.block 0 (.loop c17_l0)))) (.seq (.kill [47] (.region c17_r11)) (.seq (.kill [9,48,49,52,53,54,55,56,57,58,59,60,61,62,63,50,51] (.seq (.kill [48,49,52,53,54,55,56,57,58,59,60,61,62,63,50,51] (.region c17_r12)) (.block 2 (.loop c17_l1)))) (.seq (.kill [64,65,66,67,68,69,70,71,72,73,74,75,76,77,78,79,80,81,82,83,84,85,86] (.draws 27 c17_r16)) (.seq (.kill [87,88,89,90,91,92,93,94,95,96,97,98,99,100,101,102,103,104,105,106,107,108] (.draws 26 c17_r17)) (.seq (.kill [109,110,111,112,113,114,115,116,117,118,119,120] (.draws 15 c17_r18)) (.seq (.kill [121,122,123,124,125,126,127,128,129,130,131] (.draws 12 c17_r19)) (.seq (.kill [132,133,134,135,136,137,138,139,140,141,142] (.draws 12 c17_r20)) (.seq (.kill [143,144,145,146,147,148,149,150,151,152,153,154,155,156,157,158] (.draws 20 c17_r21)) (.seq (.kill [159,160,161,162,163,164,165,166,167,168,169,170,171,172,173] (.draws 18 c17_r22)) (.seq (.kill [175,176,174,177,178] (.region c17_r23)) (.seq (.kill [179,180,181,182,183,184,185,186] (.seq (.kill [179,180,181,182,183,184] (.region c17_r24)) (.cond (.t 185) (.seq (.kill [186] (.region c17_r25)) .ret) .skip))) (.seq (.kill [187] (.region c17_r26)) .ret))))))))))))))))))),[.cell 2 (.many 41),.tmp 3]⟩
def c18_r0 : List COper := [⟨some 1,.box (.t 0),none⟩,
 ⟨some 2,.move (.c (.str [])),none⟩,
 ⟨some 3,.move (.c (.int .i64 0)),none⟩,
 ⟨some 4,.move (.c (.int .i64 0)),none⟩]
def c18_r1 : List COper := [⟨some 5,.move (.c .nils),none⟩]
def c18_r2 : List COper := [⟨some 14,.fieldAddr 0 (.t 1),none⟩,
 ⟨some 15,.load (.many 82) (.t 14),none⟩,
 ⟨some 16,.move (.c (.int .i64 0)),none⟩]
def c18_r3 : List COper := [⟨some 17,.arith .lss (.t 16) (.c (.int .i64 2)),none⟩]
def c18_r4 : List COper := [⟨some 18,.idxArr (.many 41) 2 41 (.t 15) (.t 16),none⟩,
 ⟨some 7,.alloc [(.int .u8 0),(.int .u8 0),(.int .u8 0),(.int .u8 0),(.int .u8 0),(.int .u8 0),(.int .u8 0),(.int .u8 0),(.int .u8 0),(.int .u8 0),(.int .u8 0),(.int .u8 0),(.int .u8 0),(.int .u8 0),(.int .u8 0),(.int .u8 0),(.int .u64 0),(.int .i64 0),(.int .u32 0),(.int .u16 0),(.int .u16 0),(.int .i64 0),(.int .i64 0),(.int .u16 0),(.int .u16 0),(.int .i64 0),(.int .i64 0),(.int .i64 0),(.int .i64 0),(.int .i64 0),(.int .i64 0),(.int .i64 0),(.int .i64 0),(.int .i64 0),(.int .i64 0),(.int .i64 0),(.int .i64 0),(.int .i64 0),(.bool false),(.bool false),(.bool false)],none⟩,
 ⟨none,.store 41 (.t 7) (.t 18),none⟩]
def c18_r5 : List COper := [⟨some 20,.load (.many 41) (.t 7),none⟩,
 ⟨some 21,.call (.f 14) [(.t 20)],none⟩,
 ⟨some 19,.move (.t 21),none⟩,
 ⟨some 22,.extract (.t 19) 0,none⟩,
 ⟨some 23,.extract (.t 19) 1,none⟩,
 ⟨some 8,.move (.t 22),none⟩,
 ⟨some 9,.move (.t 23),none⟩]
def c18_r6 : List COper := [⟨some 24,.move (.t 9),none⟩,
 ⟨some 25,.eq .scalar true (.t 24) (.c (.int .i64 0)),none⟩]
def c18_r7 : List COper := [⟨some 26,.move (.t 9),none⟩,
 ⟨some 2,.move (.c (.str [])),none⟩,
 ⟨some 3,.move (.c (.int .i64 (-1))),none⟩,
 ⟨some 4,.move (.t 26),none⟩]
def c18_r8 : List COper := [⟨some 27,.move (.t 5),none⟩,
 ⟨some 28,.move (.t 8),none⟩,
 ⟨some 29,.append 1 1 (.t 27) (.t 28),none⟩,
 ⟨some 30,.buildSlice [(.int .u8 0)] 1 [(0,1,(.c (.int .u8 10)))],none⟩,
 ⟨some 31,.append 1 1 (.t 29) (.t 30),none⟩,
 ⟨some 5,.move (.t 31),none⟩]
def c18_r9 : List COper := [⟨some 32,.arith .add (.t 16) (.c (.int .i64 1)),none⟩,
 ⟨some 16,.move (.t 32),none⟩]
def c18_l0 : CCode :=
  (.kill [17,18,7,20,21,19,22,23,8,9,24,25,26,27,28,29,30,31,32] (.seq (.region c18_r3) (.seq (.cond (.t 17) .skip (.exit 0)) (.seq (.kill [18,7,20,21,19,22,23,8,9,24,25,26,27,28,29,30,31] (.block 1 (.seq (.kill [18] (.region c18_r4)) (.seq (.kill [20,21,19,22,23] (.region c18_r5)) (.seq (.kill [24,25,26] (.seq (.kill [24] (.region c18_r6)) (.cond (.t 25) (.seq (.kill [26] (.region c18_r7)) .ret) .skip))) (.region c18_r8)))))) (.region c18_r9)))))
def c18_r10 : List COper := [⟨some 33,.fieldAddr 82 (.t 1),none⟩,
 ⟨some 34,.load .one (.t 33),none⟩,
 ⟨some 35,.len (.t 34),none⟩,
 ⟨some 36,.arith .gtr (.t 35) (.c (.int .i64 65536)),none⟩]
def c18_r11 : List COper := [⟨some 2,.move (.c (.str [])),none⟩,
 ⟨some 3,.move (.c (.int .i64 (-1))),none⟩,
 ⟨some 4,.move (.c (.int .i64 3)),none⟩]
def c18_r12 : List COper := [⟨some 37,.fieldAddr 82 (.t 1),none⟩,
 ⟨some 38,.load .one (.t 37),none⟩,
 ⟨some 39,.len (.t 38),none⟩,
 ⟨some 40,.move (.c (.int .i64 0)),none⟩]
def c18_r13 : List COper := [⟨some 41,.arith .lss (.t 40) (.t 39),none⟩]
def c18_r14 : List COper := [⟨some 42,.move (.t 40),none⟩,
 ⟨some 43,.indexSl 12 (.t 38) (.t 40),none⟩,
 ⟨some 44,.load (.many 12) (.t 43),none⟩,
 ⟨some 11,.alloc [(.int .i64 0),(.int .i64 0),(.int .i64 0),(.int .i64 0),(.int .i64 0),(.int .u8 0),(.int .i64 0),(.int .u16 0),(.int .u32 0),(.bool false),.nils,(.str [])],none⟩,
 ⟨some 10,.move (.t 42),none⟩,
 ⟨none,.store 12 (.t 11) (.t 44),none⟩]
def c18_r15 : List COper := [⟨some 46,.load (.many 12) (.t 11),none⟩,
 ⟨some 47,.call (.f 8) [(.t 46)],none⟩,
 ⟨some 45,.move (.t 47),none⟩,
 ⟨some 48,.extract (.t 45) 0,none⟩,
 ⟨some 49,.extract (.t 45) 1,none⟩,
 ⟨some 12,.move (.t 48),none⟩,
 ⟨some 13,.move (.t 49),none⟩]
def c18_r16 : List COper := [⟨some 50,.move (.t 13),none⟩,
 ⟨some 51,.eq .scalar true (.t 50) (.c (.int .i64 0)),none⟩]
def c18_r17 : List COper := [⟨some 52,.move (.t 10),none⟩,
 ⟨some 53,.move (.t 13),none⟩,
 ⟨some 2,.move (.c (.str [])),none⟩,
 ⟨some 3,.move (.t 52),none⟩,
 ⟨some 4,.move (.t 53),none⟩]
def c18_r18 : List COper := [⟨some 54,.move (.t 5),none⟩,
 ⟨some 55,.len (.t 54),none⟩,
 ⟨some 56,.arith .leq (.t 55) (.c (.int .i64 4194304)),none⟩]
def c18_r19 : List COper := [⟨some 57,.move (.t 5),none⟩,
 ⟨some 58,.move (.t 12),none⟩,
 ⟨some 59,.append 1 1 (.t 57) (.t 58),none⟩,
 ⟨some 60,.buildSlice [(.int .u8 0)] 1 [(0,1,(.c (.int .u8 10)))],none⟩,
 ⟨some 61,.append 1 1 (.t 59) (.t 60),none⟩,
 ⟨some 5,.move (.t 61),none⟩]
def c18_r20 : List COper := [⟨some 62,.arith .add (.t 40) (.c (.int .i64 1)),none⟩,
 ⟨some 40,.move (.t 62),none⟩]
def c18_l1 : CCode :=
  (.kill [41,42,43,44,11,10,46,47,45,48,49,12,13,50,51,52,53,54,55,56,57,58,59,60,61,62] (.seq (.region c18_r13) (.seq (.cond (.t 41) .skip (.exit 2)) (.seq (.kill [42,43,44,11,10,46,47,45,48,49,12,13,50,51,52,53,54,55,56,57,58,59,60,61] (.block 3 (.seq (.kill [42,43,44] (.region c18_r14)) (.seq (.kill [46,47,45,48,49] (.region c18_r15)) (.seq (.kill [50,51,52,53] (.seq (.kill [50] (.region c18_r16)) (.cond (.t 51) (.seq (.kill [52,53] (.region c18_r17)) .ret) .skip))) (.seq (.kill [54,55] (.region c18_r18)) (.cond (.t 56) (.region c18_r19) .skip))))))) (.region c18_r20)))))
def c18_r21 : List COper := [⟨some 63,.move (.t 5),none⟩,
 ⟨some 64,.len (.t 63),none⟩,
 ⟨some 65,.arith .gtr (.t 64) (.c (.int .i64 4194304)),none⟩]
def c18_r22 : List COper := [⟨some 2,.move (.c (.str [])),none⟩,
 ⟨some 3,.move (.c (.int .i64 (-1))),none⟩,
 ⟨some 4,.move (.c (.int .i64 2)),none⟩]
def c18_r23 : List COper := [⟨some 66,.move (.t 5),none⟩,
 ⟨some 67,.b2s (.t 66),none⟩,
 ⟨some 2,.move (.t 67),none⟩,
 ⟨some 3,.move (.c (.int .i64 0)),none⟩,
 ⟨some 4,.move (.c (.int .i64 0)),none⟩]
def c18 : CFunc := ⟨68,(.seq (.region c18_r0) (.seq (.region c18_r1) (.seq (.kill [14,15,16,17,18,7,20,21,19,22,23,8,9,24,25,26,27,28,29,30,31,32] (.seq (.kill [14,17,18,7,20,21,19,22,23,8,9,24,25,26,27,28,29,30,31,32] (.region c18_r2)) (.block 0 (.loop c18_l0)))) (.seq (.kill [33,34,35,36] (.seq (.kill [33,34,35] (.region c18_r10)) (.cond (.t 36) (.seq (.region c18_r11) .ret) .skip))) (.seq (.kill [37,38,39,40,41,42,43,44,11,10,46,47,45,48,49,12,13,50,51,52,53,54,55,56,57,58,59,60,61,62] (.seq (.kill [37,41,42,43,44,11,10,46,47,45,48,49,12,13,50,51,52,53,54,55,56,57,58,59,60,61,62] (.region c18_r12)) (.block 2 (.loop c18_l1)))) (.seq (.kill [63,64,65] (.seq (.kill [63,64] (.region c18_r21)) (.cond (.t 65) (.seq (.region c18_r22) .ret) .skip))) (.seq (.kill [66,67] (.region c18_r23)) .ret))))))),[.tmp 2,.tmp 3,.tmp 4]⟩
def c19_r0 : List COper := [⟨some 1,.box (.t 0),none⟩,
 ⟨some 2,.move (.c (.str [])),none⟩,
 ⟨some 3,.move (.c (.int .i64 0)),none⟩,
 ⟨some 4,.move (.c (.int .i64 0)),none⟩]
def c19_r1 : List COper := [⟨some 5,.move (.c .nils),none⟩]
def c19_r2 : List COper := [⟨some 6,.move (.c (.int .i64 0)),none⟩]
def c19_r3 : List COper := [⟨some 12,.move (.t 6),none⟩,
 ⟨some 13,.arith .lss (.t 12) (.c (.int .i64 2)),none⟩]
def c19_r4 : List COper := [⟨some 17,.move (.t 6),none⟩,
 ⟨some 18,.fieldAddr 0 (.t 1),none⟩,
 ⟨some 19,.indexArr 2 41 (.t 18) (.t 17),none⟩,
 ⟨some 20,.load (.many 41) (.t 19),none⟩,
 ⟨some 21,.call (.f 15) [(.t 20)],none⟩,
 ⟨some 16,.move (.t 21),none⟩,
 ⟨some 22,.extract (.t 16) 0,none⟩,
 ⟨some 23,.extract (.t 16) 1,none⟩,
 ⟨some 7,.move (.t 22),none⟩,
 ⟨some 8,.move (.t 23),none⟩]
def c19_r5 : List COper := [⟨some 24,.move (.t 8),none⟩,
 ⟨some 25,.eq .scalar true (.t 24) (.c (.int .i64 0)),none⟩]
def c19_r6 : List COper := [⟨some 2,.move (.c (.str [])),none⟩,
 ⟨some 3,.move (.c (.int .i64 (-1))),none⟩,
 ⟨some 4,.move (.c (.int .i64 1)),none⟩]
def c19_r7 : List COper := [⟨some 26,.move (.t 5),none⟩,
 ⟨some 27,.move (.t 7),none⟩,
 ⟨some 28,.arith .add (.t 27) (.c (.str [10])),none⟩,
 ⟨some 29,.append 1 1 (.t 26) (.t 28),none⟩,
 ⟨some 5,.move (.t 29),none⟩]
def c19_r8 : List COper := [⟨some 14,.move (.t 6),none⟩,
 ⟨some 15,.arith .add (.t 14) (.c (.int .i64 1)),none⟩,
 ⟨some 6,.move (.t 15),none⟩]
def c19_l0 : CCode :=
  (.kill [12,13,17,18,19,20,21,16,22,23,7,8,24,25,26,27,28,29,14,15] (.seq (.kill [12,13] (.seq (.kill [12] (.region c19_r3)) (.cond (.t 13) .skip (.exit 0)))) (.seq (.kill [17,18,19,20,21,16,22,23,7,8,24,25,26,27,28,29] (.block 1 (.seq (.kill [17,18,19,20,21,16,22,23] (.region c19_r4)) (.seq (.kill [24,25] (.seq (.kill [24] (.region c19_r5)) (.cond (.t 25) (.seq (.region c19_r6) .ret) .skip))) (.region c19_r7))))) (.region c19_r8))))
def c19_r9 : List COper := [⟨some 30,.fieldAddr 82 (.t 1),none⟩,
 ⟨some 31,.load .one (.t 30),none⟩,
 ⟨some 32,.len (.t 31),none⟩,
 ⟨some 33,.arith .gtr (.t 32) (.c (.int .i64 65536)),none⟩]
def c19_r10 : List COper := [⟨some 2,.move (.c (.str [])),none⟩,
 ⟨some 3,.move (.c (.int .i64 (-1))),none⟩,
 ⟨some 4,.move (.c (.int .i64 3)),none⟩]
def c19_r11 : List COper := [⟨some 9,.move (.c (.int .i64 0)),none⟩]
def c19_r12 : List COper := [⟨some 34,.move (.t 9),none⟩,
 ⟨some 35,.fieldAddr 82 (.t 1),none⟩,
 ⟨some 36,.load .one (.t 35),none⟩,
 ⟨some 37,.len (.t 36),none⟩,
 ⟨some 38,.arith .lss (.t 34) (.t 37),none⟩]
def c19_r13 : List COper := [⟨some 42,.fieldAddr 82 (.t 1),none⟩,
 ⟨some 43,.load .one (.t 42),none⟩,
 ⟨some 44,.move (.t 9),none⟩,
 ⟨some 45,.indexSl 12 (.t 43) (.t 44),none⟩,
 ⟨some 46,.load (.many 12) (.t 45),none⟩,
 ⟨some 47,.call (.f 9) [(.t 46)],none⟩,
 ⟨some 41,.move (.t 47),none⟩,
 ⟨some 48,.extract (.t 41) 0,none⟩,
 ⟨some 49,.extract (.t 41) 1,none⟩,
 ⟨some 10,.move (.t 48),none⟩,
 ⟨some 11,.move (.t 49),none⟩]
def c19_r14 : List COper := [⟨some 50,.move (.t 11),none⟩,
 ⟨some 51,.eq .scalar true (.t 50) (.c (.int .i64 0)),none⟩]
def c19_r15 : List COper := [⟨some 52,.move (.t 9),none⟩,
 ⟨some 2,.move (.c (.str [])),none⟩,
 ⟨some 3,.move (.t 52),none⟩,
 ⟨some 4,.move (.c (.int .i64 1)),none⟩]
def c19_r16 : List COper := [⟨some 53,.move (.t 5),none⟩,
 ⟨some 54,.len (.t 53),none⟩,
 ⟨some 55,.arith .leq (.t 54) (.c (.int .i64 4194304)),none⟩]
def c19_r17 : List COper := [⟨some 56,.move (.t 5),none⟩,
 ⟨some 57,.move (.t 10),none⟩,
 ⟨some 58,.arith .add (.t 57) (.c (.str [10])),none⟩,
 ⟨some 59,.append 1 1 (.t 56) (.t 58),none⟩,
 ⟨some 5,.move (.t 59),none⟩]
def c19_r18 : List COper := [⟨some 39,.move (.t 9),none⟩,
 ⟨some 40,.arith .add (.t 39) (.c (.int .i64 1)),none⟩,
 ⟨some 9,.move (.t 40),none⟩]
def c19_l1 : CCode :=
  (.kill [34,35,36,37,38,42,43,44,45,46,47,41,48,49,10,11,50,51,52,53,54,55,56,57,58,59,39,40] (.seq (.kill [34,35,36,37,38] (.seq (.kill [34,35,36,37] (.region c19_r12)) (.cond (.t 38) .skip (.exit 2)))) (.seq (.kill [42,43,44,45,46,47,41,48,49,10,11,50,51,52,53,54,55,56,57,58,59] (.block 3 (.seq (.kill [42,43,44,45,46,47,41,48,49] (.region c19_r13)) (.seq (.kill [50,51,52] (.seq (.kill [50] (.region c19_r14)) (.cond (.t 51) (.seq (.kill [52] (.region c19_r15)) .ret) .skip))) (.seq (.kill [53,54] (.region c19_r16)) (.cond (.t 55) (.region c19_r17) .skip)))))) (.region c19_r18))))
def c19_r19 : List COper := [⟨some 60,.move (.t 5),none⟩,
 ⟨some 61,.len (.t 60),none⟩,
 ⟨some 62,.arith .gtr (.t 61) (.c (.int .i64 4194304)),none⟩]
def c19_r20 : List COper := [⟨some 2,.move (.c (.str [])),none⟩,
 ⟨some 3,.move (.c (.int .i64 (-1))),none⟩,
 ⟨some 4,.move (.c (.int .i64 2)),none⟩]
def c19_r21 : List COper := [⟨some 63,.move (.t 5),none⟩,
 ⟨some 64,.b2s (.t 63),none⟩,
 ⟨some 2,.move (.t 64),none⟩,
 ⟨some 3,.move (.c (.int .i64 0)),none⟩,
 ⟨some 4,.move (.c (.int .i64 0)),none⟩]
def c19 : CFunc := ⟨65,(.seq (.region c19_r0) (.seq (.region c19_r1) (.seq (.kill [6,12,13,17,18,19,20,21,16,22,23,7,8,24,25,26,27,28,29,14,15] (.seq (.kill [12,13,17,18,19,20,21,16,22,23,7,8,24,25,26,27,28,29,14,15] (.region c19_r2)) (.block 0 (.loop c19_l0)))) (.seq (.kill [30,31,32,33] (.seq (.kill [30,31,32] (.region c19_r9)) (.cond (.t 33) (.seq (.region c19_r10) .ret) .skip))) (.seq (.kill [9,34,35,36,37,38,42,43,44,45,46,47,41,48,49,10,11,50,51,52,53,54,55,56,57,58,59,39,40] (.seq (.kill [34,35,36,37,38,42,43,44,45,46,47,41,48,49,10,11,50,51,52,53,54,55,56,57,58,59,39,40] (.region c19_r11)) (.block 2 (.loop c19_l1)))) (.seq (.kill [60,61,62] (.seq (.kill [60,61] (.region c19_r19)) (.cond (.t 62) (.seq (.region c19_r20) .ret) .skip))) (.seq (.kill [63,64] (.region c19_r21)) .ret))))))),[.tmp 2,.tmp 3,.tmp 4]⟩
def c20_r0 : List COper := [⟨some 2,.alloc [(.int .u8 0),(.int .u8 0),(.int .u8 0),(.int .u8 0),(.int .u8 0),(.int .u8 0),(.int .u8 0),(.int .u8 0),(.int .u8 0),(.int .u8 0),(.int .u8 0),(.int .u8 0),(.int .u8 0),(.int .u8 0),(.int .u8 0),(.int .u8 0),(.int .u64 0),(.int .i64 0),(.int .u32 0),(.int .u16 0),(.int .u16 0),(.int .i64 0),(.int .i64 0),(.int .u16 0),(.int .u16 0),(.int .i64 0),(.int .i64 0),(.int .i64 0),(.int .i64 0),(.int .i64 0),(.int .i64 0),(.int .i64 0),(.int .i64 0),(.int .i64 0),(.int .i64 0),(.int .i64 0),(.int .i64 0),(.int .i64 0),(.bool false),(.bool false),(.bool false),(.int .u8 0),(.int .u8 0),(.int .u8 0),(.int .u8 0),(.int .u8 0),(.int .u8 0),(.int .u8 0),(.int .u8 0),(.int .u8 0),(.int .u8 0),(.int .u8 0),(.int .u8 0),(.int .u8 0),(.int .u8 0),(.int .u8 0),(.int .u8 0),(.int .u64 0),(.int .i64 0),(.int .u32 0),(.int .u16 0),(.int .u16 0),(.int .i64 0),(.int .i64 0),(.int .u16 0),(.int .u16 0),(.int .i64 0),(.int .i64 0),(.int .i64 0),(.int .i64 0),(.int .i64 0),(.int .i64 0),(.int .i64 0),(.int .i64 0),(.int .i64 0),(.int .i64 0),(.int .i64 0),(.int .i64 0),(.int .i64 0),(.bool false),(.bool false),(.bool false),.nils],none⟩,
 ⟨some 3,.alloc [(.int .i64 0)],none⟩,
 ⟨some 4,.alloc [(.int .i64 0)],none⟩]
def c20_r1 : List COper := [⟨some 12,.move (.t 0),none⟩,
 ⟨some 13,.lenStr (.t 12),none⟩,
 ⟨some 14,.arith .gtr (.t 13) (.c (.int .i64 4194304)),none⟩]
def c20_r2 : List COper := [⟨some 15,.build [(.int .u8 0),(.int .u8 0),(.int .u8 0),(.int .u8 0),(.int .u8 0),(.int .u8 0),(.int .u8 0),(.int .u8 0),(.int .u8 0),(.int .u8 0),(.int .u8 0),(.int .u8 0),(.int .u8 0),(.int .u8 0),(.int .u8 0),(.int .u8 0),(.int .u64 0),(.int .i64 0),(.int .u32 0),(.int .u16 0),(.int .u16 0),(.int .i64 0),(.int .i64 0),(.int .u16 0),(.int .u16 0),(.int .i64 0),(.int .i64 0),(.int .i64 0),(.int .i64 0),(.int .i64 0),(.int .i64 0),(.int .i64 0),(.int .i64 0),(.int .i64 0),(.int .i64 0),(.int .i64 0),(.int .i64 0),(.int .i64 0),(.bool false),(.bool false),(.bool false),(.int .u8 0),(.int .u8 0),(.int .u8 0),(.int .u8 0),(.int .u8 0),(.int .u8 0),(.int .u8 0),(.int .u8 0),(.int .u8 0),(.int .u8 0),(.int .u8 0),(.int .u8 0),(.int .u8 0),(.int .u8 0),(.int .u8 0),(.int .u8 0),(.int .u64 0),(.int .i64 0),(.int .u32 0),(.int .u16 0),(.int .u16 0),(.int .i64 0),(.int .i64 0),(.int .u16 0),(.int .u16 0),(.int .i64 0),(.int .i64 0),(.int .i64 0),(.int .i64 0),(.int .i64 0),(.int .i64 0),(.int .i64 0),(.int .i64 0),(.int .i64 0),(.int .i64 0),(.int .i64 0),(.int .i64 0),(.int .i64 0),(.bool false),(.bool false),(.bool false),.nils] [],none⟩,
 ⟨none,.store 83 (.t 2) (.t 15),none⟩,
 ⟨none,.store 1 (.t 3) (.c (.int .i64 0)),none⟩,
 ⟨none,.store 1 (.t 4) (.c (.int .i64 2)),none⟩]
def c20_r3 : List COper := [⟨some 5,.alloc [(.int .u8 0),(.int .u8 0),(.int .u8 0),(.int .u8 0),(.int .u8 0),(.int .u8 0),(.int .u8 0),(.int .u8 0),(.int .u8 0),(.int .u8 0),(.int .u8 0),(.int .u8 0),(.int .u8 0),(.int .u8 0),(.int .u8 0),(.int .u8 0),(.int .u64 0),(.int .i64 0),(.int .u32 0),(.int .u16 0),(.int .u16 0),(.int .i64 0),(.int .i64 0),(.int .u16 0),(.int .u16 0),(.int .i64 0),(.int .i64 0),(.int .i64 0),(.int .i64 0),(.int .i64 0),(.int .i64 0),(.int .i64 0),(.int .i64 0),(.int .i64 0),(.int .i64 0),(.int .i64 0),(.int .i64 0),(.int .i64 0),(.bool false),(.bool false),(.bool false),(.int .u8 0),(.int .u8 0),(.int .u8 0),(.int .u8 0),(.int .u8 0),(.int .u8 0),(.int .u8 0),(.int .u8 0),(.int .u8 0),(.int .u8 0),(.int .u8 0),(.int .u8 0),(.int .u8 0),(.int .u8 0),(.int .u8 0),(.int .u8 0),(.int .u64 0),(.int .i64 0),(.int .u32 0),(.int .u16 0),(.int .u16 0),(.int .i64 0),(.int .i64 0),(.int .u16 0),(.int .u16 0),(.int .i64 0),(.int .i64 0),(.int .i64 0),(.int .i64 0),(.int .i64 0),(.int .i64 0),(.int .i64 0),(.int .i64 0),(.int .i64 0),(.int .i64 0),(.int .i64 0),(.int .i64 0),(.int .i64 0),(.bool false),(.bool false),(.bool false),.nils],none⟩]
def c20_r4 : List COper := [⟨some 6,.alloc [(.int .i64 0)],none⟩,
 ⟨none,.store 1 (.t 6) (.c (.int .i64 0)),none⟩]
def c20_r5 : List COper := [⟨some 16,.move (.t 0),none⟩,
 ⟨some 17,.call (.f 45) [(.t 16)],none⟩]
def c20_r6 : List COper := [⟨some 7,.move (.t 18),none⟩]
def c20_r7 : List COper := [⟨some 20,.move (.t 7),none⟩,
 ⟨some 21,.call (.f 46) [(.t 20),(.c (.str [10]))],none⟩,
 ⟨some 19,.move (.t 21),none⟩,
 ⟨some 22,.extract (.t 19) 0,none⟩,
 ⟨some 23,.extract (.t 19) 1,none⟩,
 ⟨some 8,.move (.t 22),none⟩,
 ⟨some 9,.move (.t 23),none⟩]
def c20_r8 : List COper := [⟨some 10,.move (.c (.int .i64 0)),none⟩]
def c20_r9 : List COper := [⟨some 24,.load .one (.t 6),none⟩,
 ⟨some 25,.arith .lss (.t 24) (.c (.int .i64 2)),none⟩]
def c20_r10 : List DItem := [⟨0,⟨some 27,.load .one (.t 6),none⟩,.read,[],false⟩,
 ⟨1,⟨some 28,.move (.t 8),none⟩,.quiet,[],false⟩,
 ⟨6,⟨some 32,.fieldAddr 0 (.t 5),none⟩,.quiet,[],false⟩,
 ⟨2,⟨some 29,.call (.f 16) [(.t 28)],none⟩,.eff,[1],true⟩,
 ⟨3,⟨some 26,.move (.t 29),none⟩,.quiet,[2,1],false⟩,
 ⟨4,⟨some 30,.extract (.t 26) 0,none⟩,.quiet,[3,2,1],false⟩,
 ⟨5,⟨some 31,.extract (.t 26) 1,none⟩,.quiet,[3,2,1],false⟩,
 ⟨7,⟨some 33,.indexArr 2 41 (.t 32) (.t 27),none⟩,.quiet,[6,0,1,2,3,4],false⟩,
 ⟨8,⟨none,.store 41 (.t 33) (.t 30),none⟩,.eff,[7,4,2,0,1,3,6],true⟩,
 ⟨9,⟨some 10,.move (.t 31),none⟩,.quiet,[5,8,0,1,2,3,4,6,7],false⟩]
def c20_r11 : List COper := [⟨some 11,.alloc [(.int .i64 0),(.int .i64 0),(.int .i64 0),(.int .i64 0),(.int .i64 0),(.int .u8 0),(.int .i64 0),(.int .u16 0),(.int .u32 0),(.bool false),.nils,(.str [])],none⟩]
def c20_r12 : List COper := [⟨some 35,.move (.t 8),none⟩,
 ⟨some 36,.call (.f 10) [(.t 35)],none⟩,
 ⟨some 34,.move (.t 36),none⟩,
 ⟨some 37,.extract (.t 34) 0,none⟩,
 ⟨some 38,.extract (.t 34) 1,none⟩,
 ⟨none,.store 12 (.t 11) (.t 37),none⟩,
 ⟨some 10,.move (.t 38),none⟩]
def c20_r13 : List COper := [⟨some 39,.fieldAddr 82 (.t 5),none⟩,
 ⟨some 40,.load .one (.t 39),none⟩,
 ⟨some 41,.load (.many 12) (.t 11),none⟩,
 ⟨some 42,.buildSlice [(.int .i64 0),(.int .i64 0),(.int .i64 0),(.int .i64 0),(.int .i64 0),(.int .u8 0),(.int .i64 0),(.int .u16 0),(.int .u32 0),(.bool false),.nils,(.str [])] 1 [(0,12,(.t 41))],none⟩,
 ⟨some 43,.append 12 112 (.t 40) (.t 42),none⟩,
 ⟨some 44,.fieldAddr 82 (.t 5),none⟩,
 ⟨none,.store 1 (.t 44) (.t 43),none⟩]
def c20_r14 : List COper := [⟨some 45,.move (.t 9),none⟩,
 ⟨some 46,.un .not (.t 45),none⟩,
 ⟨some 47,.move (.t 46),none⟩,
 ⟨some 48,.move (.t 10),some (47,false)⟩,
 ⟨some 49,.eq .scalar true (.t 48) (.c (.int .i64 0)),some (47,false)⟩,
 ⟨some 50,.pick (.t 47) (.c (.bool true)) (.t 49),none⟩,
 ⟨some 51,.move (.t 50),none⟩,
 ⟨some 52,.fieldAddr 82 (.t 5),some (51,false)⟩,
 ⟨some 53,.load .one (.t 52),some (51,false)⟩,
 ⟨some 54,.len (.t 53),some (51,false)⟩,
 ⟨some 55,.arith .gtr (.t 54) (.c (.int .i64 65536)),some (51,false)⟩,
 ⟨some 56,.pick (.t 51) (.c (.bool true)) (.t 55),none⟩]
def c20_r15 : List DItem := [⟨0,⟨some 57,.build [(.int .u8 0),(.int .u8 0),(.int .u8 0),(.int .u8 0),(.int .u8 0),(.int .u8 0),(.int .u8 0),(.int .u8 0),(.int .u8 0),(.int .u8 0),(.int .u8 0),(.int .u8 0),(.int .u8 0),(.int .u8 0),(.int .u8 0),(.int .u8 0),(.int .u64 0),(.int .i64 0),(.int .u32 0),(.int .u16 0),(.int .u16 0),(.int .i64 0),(.int .i64 0),(.int .u16 0),(.int .u16 0),(.int .i64 0),(.int .i64 0),(.int .i64 0),(.int .i64 0),(.int .i64 0),(.int .i64 0),(.int .i64 0),(.int .i64 0),(.int .i64 0),(.int .i64 0),(.int .i64 0),(.int .i64 0),(.int .i64 0),(.bool false),(.bool false),(.bool false),(.int .u8 0),(.int .u8 0),(.int .u8 0),(.int .u8 0),(.int .u8 0),(.int .u8 0),(.int .u8 0),(.int .u8 0),(.int .u8 0),(.int .u8 0),(.int .u8 0),(.int .u8 0),(.int .u8 0),(.int .u8 0),(.int .u8 0),(.int .u8 0),(.int .u64 0),(.int .i64 0),(.int .u32 0),(.int .u16 0),(.int .u16 0),(.int .i64 0),(.int .i64 0),(.int .u16 0),(.int .u16 0),(.int .i64 0),(.int .i64 0),(.int .i64 0),(.int .i64 0),(.int .i64 0),(.int .i64 0),(.int .i64 0),(.int .i64 0),(.int .i64 0),(.int .i64 0),(.int .i64 0),(.int .i64 0),(.int .i64 0),(.bool false),(.bool false),(.bool false),.nils] [],none⟩,.quiet,[],false⟩,
 ⟨1,⟨some 58,.load .one (.t 6),none⟩,.read,[],false⟩,
 ⟨2,⟨none,.store 83 (.t 2) (.t 57),none⟩,.eff,[0],true⟩,
 ⟨3,⟨none,.store 1 (.t 3) (.t 58),none⟩,.eff,[1,2,0],true⟩,
 ⟨4,⟨none,.store 1 (.t 4) (.c (.int .i64 250)),none⟩,.eff,[3,0,1,2],true⟩]
def c20_r16 : List COper := [⟨some 59,.load .one (.t 6),none⟩,
 ⟨some 60,.arith .add (.t 59) (.c (.int .i64 1)),none⟩,
 ⟨none,.store 1 (.t 6) (.t 60),none⟩]
def c20_l0a : CCode :=
  (.region c20_r6)
def c20_l0b : CCode :=
  (.block 1 (.seq (.kill [20,21,19,22,23] (.region c20_r7)) (.seq (.region c20_r8) (.seq (.kill [24,25,27,28,29,26,30,31,32,33,11,35,36,34,37,38,39,40,41,42,43,44] (.seq (.kill [24] (.region c20_r9)) (.cond (.t 25) (.draws 10 c20_r10) (.seq (.region c20_r11) (.seq (.kill [35,36,34,37,38] (.region c20_r12)) (.region c20_r13)))))) (.seq (.kill [45,46,47,48,49,50,51,52,53,54,55,56,57,58] (.seq (.kill [45,46,47,48,49,50,51,52,53,54,55] (.region c20_r14)) (.cond (.t 56) (.seq (.kill [57,58] (.draws 5 c20_r15)) .ret) .skip))) (.region c20_r16))))))
def c20_r17 : List COper := [⟨some 61,.load .one (.t 6),none⟩,
 ⟨some 62,.arith .lss (.t 61) (.c (.int .i64 2)),none⟩]
def c20_r18 : List DItem := [⟨0,⟨some 63,.build [(.int .u8 0),(.int .u8 0),(.int .u8 0),(.int .u8 0),(.int .u8 0),(.int .u8 0),(.int .u8 0),(.int .u8 0),(.int .u8 0),(.int .u8 0),(.int .u8 0),(.int .u8 0),(.int .u8 0),(.int .u8 0),(.int .u8 0),(.int .u8 0),(.int .u64 0),(.int .i64 0),(.int .u32 0),(.int .u16 0),(.int .u16 0),(.int .i64 0),(.int .i64 0),(.int .u16 0),(.int .u16 0),(.int .i64 0),(.int .i64 0),(.int .i64 0),(.int .i64 0),(.int .i64 0),(.int .i64 0),(.int .i64 0),(.int .i64 0),(.int .i64 0),(.int .i64 0),(.int .i64 0),(.int .i64 0),(.int .i64 0),(.bool false),(.bool false),(.bool false),(.int .u8 0),(.int .u8 0),(.int .u8 0),(.int .u8 0),(.int .u8 0),(.int .u8 0),(.int .u8 0),(.int .u8 0),(.int .u8 0),(.int .u8 0),(.int .u8 0),(.int .u8 0),(.int .u8 0),(.int .u8 0),(.int .u8 0),(.int .u8 0),(.int .u64 0),(.int .i64 0),(.int .u32 0),(.int .u16 0),(.int .u16 0),(.int .i64 0),(.int .i64 0),(.int .u16 0),(.int .u16 0),(.int .i64 0),(.int .i64 0),(.int .i64 0),(.int .i64 0),(.int .i64 0),(.int .i64 0),(.int .i64 0),(.int .i64 0),(.int .i64 0),(.int .i64 0),(.int .i64 0),(.int .i64 0),(.int .i64 0),(.bool false),(.bool false),(.bool false),.nils] [],none⟩,.quiet,[],false⟩,
 ⟨1,⟨some 64,.load .one (.t 6),none⟩,.read,[],false⟩,
 ⟨2,⟨none,.store 83 (.t 2) (.t 63),none⟩,.eff,[0],true⟩,
 ⟨3,⟨none,.store 1 (.t 3) (.t 64),none⟩,.eff,[1,2,0],true⟩,
 ⟨4,⟨none,.store 1 (.t 4) (.c (.int .i64 250)),none⟩,.eff,[3,0,1,2],true⟩]
def c20_r19 : List COper := [⟨some 65,.load (.many 83) (.t 5),none⟩,
 ⟨none,.store 83 (.t 2) (.t 65),none⟩,
 ⟨none,.store 1 (.t 3) (.c (.int .i64 0)),none⟩,
 ⟨none,.store 1 (.t 4) (.c (.int .i64 0)),none⟩]
def c20 : CFunc := ⟨66,(.seq (.region c20_r0) (.seq (.kill [12,13,14,15] (.seq (.kill [12,13] (.region c20_r1)) (.cond (.t 14) (.seq (.kill [15] (.region c20_r2)) .ret) .skip))) (.seq (.region c20_r3) (.seq (.region c20_r4) (.seq (.kill [16,17,18,7,20,21,19,22,23,8,9,10,24,25,27,28,29,26,30,31,32,33,11,35,36,34,37,38,39,40,41,42,43,44,45,46,47,48,49,50,51,52,53,54,55,56,57,58,59,60] (.seq (.kill [16] (.region c20_r5)) (.block 0 (.rangeFunc (.t 17) [18] c20_l0a c20_l0b)))) (.seq (.kill [61,62,63,64] (.seq (.kill [61] (.region c20_r17)) (.cond (.t 62) (.seq (.kill [63,64] (.draws 5 c20_r18)) .ret) .skip))) (.seq (.kill [65] (.region c20_r19)) .ret))))))),[.cell 2 (.many 83),.cell 3 .one,.cell 4 .one]⟩
def c21_r0 : List COper := [⟨some 2,.alloc [(.int .u8 0),(.int .u8 0),(.int .u8 0),(.int .u8 0),(.int .u8 0),(.int .u8 0),(.int .u8 0),(.int .u8 0),(.int .u8 0),(.int .u8 0),(.int .u8 0),(.int .u8 0),(.int .u8 0),(.int .u8 0),(.int .u8 0),(.int .u8 0),(.int .u64 0),(.int .i64 0),(.int .u32 0),(.int .u16 0),(.int .u16 0),(.int .i64 0),(.int .i64 0),(.int .u16 0),(.int .u16 0),(.int .i64 0),(.int .i64 0),(.int .i64 0),(.int .i64 0),(.int .i64 0),(.int .i64 0),(.int .i64 0),(.int .i64 0),(.int .i64 0),(.int .i64 0),(.int .i64 0),(.int .i64 0),(.int .i64 0),(.bool false),(.bool false),(.bool false),(.int .u8 0),(.int .u8 0),(.int .u8 0),(.int .u8 0),(.int .u8 0),(.int .u8 0),(.int .u8 0),(.int .u8 0),(.int .u8 0),(.int .u8 0),(.int .u8 0),(.int .u8 0),(.int .u8 0),(.int .u8 0),(.int .u8 0),(.int .u8 0),(.int .u64 0),(.int .i64 0),(.int .u32 0),(.int .u16 0),(.int .u16 0),(.int .i64 0),(.int .i64 0),(.int .u16 0),(.int .u16 0),(.int .i64 0),(.int .i64 0),(.int .i64 0),(.int .i64 0),(.int .i64 0),(.int .i64 0),(.int .i64 0),(.int .i64 0),(.int .i64 0),(.int .i64 0),(.int .i64 0),(.int .i64 0),(.int .i64 0),(.bool false),(.bool false),(.bool false),.nils],none⟩,
 ⟨some 3,.move (.c (.int .i64 0)),none⟩,
 ⟨some 4,.move (.c (.int .i64 0)),none⟩]
def c21_r1 : List COper := [⟨some 11,.move (.t 0),none⟩,
 ⟨some 12,.lenStr (.t 11),none⟩,
 ⟨some 13,.arith .gtr (.t 12) (.c (.int .i64 4194304)),none⟩]
def c21_r2 : List COper := [⟨some 14,.build [(.int .u8 0),(.int .u8 0),(.int .u8 0),(.int .u8 0),(.int .u8 0),(.int .u8 0),(.int .u8 0),(.int .u8 0),(.int .u8 0),(.int .u8 0),(.int .u8 0),(.int .u8 0),(.int .u8 0),(.int .u8 0),(.int .u8 0),(.int .u8 0),(.int .u64 0),(.int .i64 0),(.int .u32 0),(.int .u16 0),(.int .u16 0),(.int .i64 0),(.int .i64 0),(.int .u16 0),(.int .u16 0),(.int .i64 0),(.int .i64 0),(.int .i64 0),(.int .i64 0),(.int .i64 0),(.int .i64 0),(.int .i64 0),(.int .i64 0),(.int .i64 0),(.int .i64 0),(.int .i64 0),(.int .i64 0),(.int .i64 0),(.bool false),(.bool false),(.bool false),(.int .u8 0),(.int .u8 0),(.int .u8 0),(.int .u8 0),(.int .u8 0),(.int .u8 0),(.int .u8 0),(.int .u8 0),(.int .u8 0),(.int .u8 0),(.int .u8 0),(.int .u8 0),(.int .u8 0),(.int .u8 0),(.int .u8 0),(.int .u8 0),(.int .u64 0),(.int .i64 0),(.int .u32 0),(.int .u16 0),(.int .u16 0),(.int .i64 0),(.int .i64 0),(.int .u16 0),(.int .u16 0),(.int .i64 0),(.int .i64 0),(.int .i64 0),(.int .i64 0),(.int .i64 0),(.int .i64 0),(.int .i64 0),(.int .i64 0),(.int .i64 0),(.int .i64 0),(.int .i64 0),(.int .i64 0),(.int .i64 0),(.bool false),(.bool false),(.bool false),.nils] [],none⟩,
 ⟨none,.store 83 (.t 2) (.t 14),none⟩,
 ⟨some 3,.move (.c (.int .i64 0)),none⟩,
 ⟨some 4,.move (.c (.int .i64 2)),none⟩]
def c21_r3 : List COper := [⟨some 15,.build [(.int .u8 0),(.int .u8 0),(.int .u8 0),(.int .u8 0),(.int .u8 0),(.int .u8 0),(.int .u8 0),(.int .u8 0),(.int .u8 0),(.int .u8 0),(.int .u8 0),(.int .u8 0),(.int .u8 0),(.int .u8 0),(.int .u8 0),(.int .u8 0),(.int .u64 0),(.int .i64 0),(.int .u32 0),(.int .u16 0),(.int .u16 0),(.int .i64 0),(.int .i64 0),(.int .u16 0),(.int .u16 0),(.int .i64 0),(.int .i64 0),(.int .i64 0),(.int .i64 0),(.int .i64 0),(.int .i64 0),(.int .i64 0),(.int .i64 0),(.int .i64 0),(.int .i64 0),(.int .i64 0),(.int .i64 0),(.int .i64 0),(.bool false),(.bool false),(.bool false),(.int .u8 0),(.int .u8 0),(.int .u8 0),(.int .u8 0),(.int .u8 0),(.int .u8 0),(.int .u8 0),(.int .u8 0),(.int .u8 0),(.int .u8 0),(.int .u8 0),(.int .u8 0),(.int .u8 0),(.int .u8 0),(.int .u8 0),(.int .u8 0),(.int .u64 0),(.int .i64 0),(.int .u32 0),(.int .u16 0),(.int .u16 0),(.int .i64 0),(.int .i64 0),(.int .u16 0),(.int .u16 0),(.int .i64 0),(.int .i64 0),(.int .i64 0),(.int .i64 0),(.int .i64 0),(.int .i64 0),(.int .i64 0),(.int .i64 0),(.int .i64 0),(.int .i64 0),(.int .i64 0),(.int .i64 0),(.int .i64 0),(.bool false),(.bool false),(.bool false),.nils] [],none⟩,
 ⟨some 5,.alloc [(.int .u8 0),(.int .u8 0),(.int .u8 0),(.int .u8 0),(.int .u8 0),(.int .u8 0),(.int .u8 0),(.int .u8 0),(.int .u8 0),(.int .u8 0),(.int .u8 0),(.int .u8 0),(.int .u8 0),(.int .u8 0),(.int .u8 0),(.int .u8 0),(.int .u64 0),(.int .i64 0),(.int .u32 0),(.int .u16 0),(.int .u16 0),(.int .i64 0),(.int .i64 0),(.int .u16 0),(.int .u16 0),(.int .i64 0),(.int .i64 0),(.int .i64 0),(.int .i64 0),(.int .i64 0),(.int .i64 0),(.int .i64 0),(.int .i64 0),(.int .i64 0),(.int .i64 0),(.int .i64 0),(.int .i64 0),(.int .i64 0),(.bool false),(.bool false),(.bool false),(.int .u8 0),(.int .u8 0),(.int .u8 0),(.int .u8 0),(.int .u8 0),(.int .u8 0),(.int .u8 0),(.int .u8 0),(.int .u8 0),(.int .u8 0),(.int .u8 0),(.int .u8 0),(.int .u8 0),(.int .u8 0),(.int .u8 0),(.int .u8 0),(.int .u64 0),(.int .i64 0),(.int .u32 0),(.int .u16 0),(.int .u16 0),(.int .i64 0),(.int .i64 0),(.int .u16 0),(.int .u16 0),(.int .i64 0),(.int .i64 0),(.int .i64 0),(.int .i64 0),(.int .i64 0),(.int .i64 0),(.int .i64 0),(.int .i64 0),(.int .i64 0),(.int .i64 0),(.int .i64 0),(.int .i64 0),(.int .i64 0),(.bool false),(.bool false),(.bool false),.nils],none⟩,
 ⟨none,.store 83 (.t 5) (.t 15),none⟩]
def c21_r4 : List COper := [⟨some 6,.move (.c (.int .i64 0)),none⟩,
 ⟨some 7,.move (.c (.int .i64 0)),none⟩]
def c21_r5 : List COper := [⟨some 8,.move (.c (.int .i64 0)),none⟩]
def c21_r6 : List COper := [⟨some 16,.move (.t 8),none⟩,
 ⟨some 17,.move (.t 0),none⟩,
 ⟨some 18,.lenStr (.t 17),none⟩,
 ⟨some 19,.arith .leq (.t 16) (.t 18),none⟩]
def c21_r7 : List COper := [⟨some 22,.move (.t 8),none⟩,
 ⟨some 23,.move (.t 0),none⟩,
 ⟨some 24,.lenStr (.t 23),none⟩,
 ⟨some 25,.arith .lss (.t 22) (.t 24),none⟩,
 ⟨some 26,.move (.t 25),none⟩,
 ⟨some 27,.move (.t 0),some (26,true)⟩,
 ⟨some 28,.move (.t 8),some (26,true)⟩,
 ⟨some 29,.idxStr (.t 27) (.t 28),some (26,true)⟩,
 ⟨some 30,.eq .scalar true (.t 29) (.c (.int .u8 10)),some (26,true)⟩,
 ⟨some 31,.pick (.t 26) (.t 30) (.c (.bool false)),none⟩]
def c21_r8 : List COper := [⟨some 32,.move (.t 8),none⟩,
 ⟨some 33,.move (.t 0),none⟩,
 ⟨some 34,.lenStr (.t 33),none⟩,
 ⟨some 35,.eq .scalar false (.t 32) (.t 34),none⟩,
 ⟨some 36,.move (.t 35),none⟩,
 ⟨some 37,.move (.t 7),some (36,true)⟩,
 ⟨some 38,.move (.t 8),some (36,true)⟩,
 ⟨some 39,.eq .scalar false (.t 37) (.t 38),some (36,true)⟩,
 ⟨some 40,.pick (.t 36) (.t 39) (.c (.bool false)),none⟩,
 ⟨some 41,.move (.t 40),none⟩,
 ⟨some 42,.move (.t 6),some (41,true)⟩,
 ⟨some 43,.arith .geq (.t 42) (.c (.int .i64 2)),some (41,true)⟩,
 ⟨some 44,.pick (.t 41) (.t 43) (.c (.bool false)),none⟩]
def c21_r9 : List COper := [⟨some 9,.move (.c (.int .i64 0)),none⟩]
def c21_r10 : List COper := [⟨some 10,.alloc [(.int .i64 0),(.int .i64 0),(.int .i64 0),(.int .i64 0),(.int .i64 0),(.int .u8 0),(.int .i64 0),(.int .u16 0),(.int .u32 0),(.bool false),.nils,(.str [])],none⟩]
def c21_r11 : List COper := [⟨some 45,.move (.t 6),none⟩,
 ⟨some 46,.arith .lss (.t 45) (.c (.int .i64 2)),none⟩]
def c21_r12 : List COper := [⟨some 48,.move (.t 6),none⟩,
 ⟨some 49,.move (.t 0),none⟩,
 ⟨some 50,.move (.t 7),none⟩,
 ⟨some 51,.move (.t 8),none⟩,
 ⟨some 52,.sliceStr (.t 49) (some (.t 50)) (some (.t 51)),none⟩,
 ⟨some 53,.call (.f 17) [(.t 52)],none⟩,
 ⟨some 47,.move (.t 53),none⟩,
 ⟨some 54,.extract (.t 47) 0,none⟩,
 ⟨some 55,.extract (.t 47) 1,none⟩,
 ⟨some 56,.fieldAddr 0 (.t 5),none⟩,
 ⟨some 57,.indexArr 2 41 (.t 56) (.t 48),none⟩,
 ⟨none,.store 41 (.t 57) (.t 54),none⟩,
 ⟨some 9,.move (.t 55),none⟩]
def c21_r13 : List COper := [⟨some 59,.move (.t 0),none⟩,
 ⟨some 60,.move (.t 7),none⟩,
 ⟨some 61,.move (.t 8),none⟩,
 ⟨some 62,.sliceStr (.t 59) (some (.t 60)) (some (.t 61)),none⟩,
 ⟨some 63,.call (.f 11) [(.t 62)],none⟩,
 ⟨some 58,.move (.t 63),none⟩,
 ⟨some 64,.extract (.t 58) 0,none⟩,
 ⟨some 65,.extract (.t 58) 1,none⟩,
 ⟨none,.store 12 (.t 10) (.t 64),none⟩,
 ⟨some 9,.move (.t 65),none⟩]
def c21_r14 : List COper := [⟨some 66,.fieldAddr 82 (.t 5),none⟩,
 ⟨some 67,.load .one (.t 66),none⟩,
 ⟨some 68,.load (.many 12) (.t 10),none⟩,
 ⟨some 69,.buildSlice [(.int .i64 0),(.int .i64 0),(.int .i64 0),(.int .i64 0),(.int .i64 0),(.int .u8 0),(.int .i64 0),(.int .u16 0),(.int .u32 0),(.bool false),.nils,(.str [])] 1 [(0,12,(.t 68))],none⟩,
 ⟨some 70,.append 12 112 (.t 67) (.t 69),none⟩,
 ⟨some 71,.fieldAddr 82 (.t 5),none⟩,
 ⟨none,.store 1 (.t 71) (.t 70),none⟩]
def c21_r15 : List COper := [⟨some 72,.move (.t 9),none⟩,
 ⟨some 73,.eq .scalar true (.t 72) (.c (.int .i64 0)),none⟩,
 ⟨some 74,.move (.t 73),none⟩,
 ⟨some 75,.move (.t 8),some (74,false)⟩,
 ⟨some 76,.move (.t 0),some (74,false)⟩,
 ⟨some 77,.lenStr (.t 76),some (74,false)⟩,
 ⟨some 78,.eq .scalar false (.t 75) (.t 77),some (74,false)⟩,
 ⟨some 79,.pick (.t 74) (.c (.bool true)) (.t 78),none⟩,
 ⟨some 80,.move (.t 79),none⟩,
 ⟨some 81,.fieldAddr 82 (.t 5),some (80,false)⟩,
 ⟨some 82,.load .one (.t 81),some (80,false)⟩,
 ⟨some 83,.len (.t 82),some (80,false)⟩,
 ⟨some 84,.arith .gtr (.t 83) (.c (.int .i64 65536)),some (80,false)⟩,
 ⟨some 85,.pick (.t 80) (.c (.bool true)) (.t 84),none⟩]
def c21_r16 : List COper := [⟨some 86,.build [(.int .u8 0),(.int .u8 0),(.int .u8 0),(.int .u8 0),(.int .u8 0),(.int .u8 0),(.int .u8 0),(.int .u8 0),(.int .u8 0),(.int .u8 0),(.int .u8 0),(.int .u8 0),(.int .u8 0),(.int .u8 0),(.int .u8 0),(.int .u8 0),(.int .u64 0),(.int .i64 0),(.int .u32 0),(.int .u16 0),(.int .u16 0),(.int .i64 0),(.int .i64 0),(.int .u16 0),(.int .u16 0),(.int .i64 0),(.int .i64 0),(.int .i64 0),(.int .i64 0),(.int .i64 0),(.int .i64 0),(.int .i64 0),(.int .i64 0),(.int .i64 0),(.int .i64 0),(.int .i64 0),(.int .i64 0),(.int .i64 0),(.bool false),(.bool false),(.bool false),(.int .u8 0),(.int .u8 0),(.int .u8 0),(.int .u8 0),(.int .u8 0),(.int .u8 0),(.int .u8 0),(.int .u8 0),(.int .u8 0),(.int .u8 0),(.int .u8 0),(.int .u8 0),(.int .u8 0),(.int .u8 0),(.int .u8 0),(.int .u8 0),(.int .u64 0),(.int .i64 0),(.int .u32 0),(.int .u16 0),(.int .u16 0),(.int .i64 0),(.int .i64 0),(.int .u16 0),(.int .u16 0),(.int .i64 0),(.int .i64 0),(.int .i64 0),(.int .i64 0),(.int .i64 0),(.int .i64 0),(.int .i64 0),(.int .i64 0),(.int .i64 0),(.int .i64 0),(.int .i64 0),(.int .i64 0),(.int .i64 0),(.bool false),(.bool false),(.bool false),.nils] [],none⟩,
 ⟨some 87,.move (.t 6),none⟩,
 ⟨none,.store 83 (.t 2) (.t 86),none⟩,
 ⟨some 3,.move (.t 87),none⟩,
 ⟨some 4,.move (.c (.int .i64 250)),none⟩]
def c21_r17 : List COper := [⟨some 88,.move (.t 6),none⟩,
 ⟨some 89,.arith .add (.t 88) (.c (.int .i64 1)),none⟩,
 ⟨some 6,.move (.t 89),none⟩]
def c21_r18 : List COper := [⟨some 90,.move (.t 8),none⟩,
 ⟨some 91,.arith .add (.t 90) (.c (.int .i64 1)),none⟩,
 ⟨some 7,.move (.t 91),none⟩]
def c21_r19 : List COper := [⟨some 20,.move (.t 8),none⟩,
 ⟨some 21,.arith .add (.t 20) (.c (.int .i64 1)),none⟩,
 ⟨some 8,.move (.t 21),none⟩]
def c21_l0 : CCode :=
  (.kill [16,17,18,19,22,23,24,25,26,27,28,29,30,31,32,33,34,35,36,37,38,39,40,41,42,43,44,9,10,45,46,48,49,50,51,52,53,47,54,55,56,57,59,60,61,62,63,58,64,65,66,67,68,69,70,71,72,73,74,75,76,77,78,79,80,81,82,83,84,85,86,87,88,89,90,91,20,21] (.seq (.kill [16,17,18,19] (.seq (.kill [16,17,18] (.region c21_r6)) (.cond (.t 19) .skip (.exit 0)))) (.seq (.kill [22,23,24,25,26,27,28,29,30,31,32,33,34,35,36,37,38,39,40,41,42,43,44,9,10,45,46,48,49,50,51,52,53,47,54,55,56,57,59,60,61,62,63,58,64,65,66,67,68,69,70,71,72,73,74,75,76,77,78,79,80,81,82,83,84,85,86,87,88,89,90,91] (.block 1 (.seq (.kill [22,23,24,25,26,27,28,29,30,31] (.seq (.kill [22,23,24,25,26,27,28,29,30] (.region c21_r7)) (.cond (.t 31) (.exit 1) .skip))) (.seq (.kill [32,33,34,35,36,37,38,39,40,41,42,43,44] (.seq (.kill [32,33,34,35,36,37,38,39,40,41,42,43] (.region c21_r8)) (.cond (.t 44) (.exit 0) .skip))) (.seq (.region c21_r9) (.seq (.region c21_r10) (.seq (.kill [45,46,48,49,50,51,52,53,47,54,55,56,57,59,60,61,62,63,58,64,65,66,67,68,69,70,71] (.seq (.kill [45] (.region c21_r11)) (.cond (.t 46) (.region c21_r12) (.seq (.kill [59,60,61,62,63,58,64,65] (.region c21_r13)) (.region c21_r14))))) (.seq (.kill [72,73,74,75,76,77,78,79,80,81,82,83,84,85,86,87] (.seq (.kill [72,73,74,75,76,77,78,79,80,81,82,83,84] (.region c21_r15)) (.cond (.t 85) (.seq (.kill [86,87] (.region c21_r16)) .ret) .skip))) (.seq (.kill [88,89] (.region c21_r17)) (.region c21_r18)))))))))) (.region c21_r19))))
def c21_r20 : List COper := [⟨some 92,.load (.many 83) (.t 5),none⟩,
 ⟨none,.store 83 (.t 2) (.t 92),none⟩,
 ⟨some 3,.move (.c (.int .i64 0)),none⟩,
 ⟨some 4,.move (.c (.int .i64 0)),none⟩]
def c21 : CFunc := ⟨93,(.seq (.region c21_r0) (.seq (.kill [11,12,13,14] (.seq (.kill [11,12] (.region c21_r1)) (.cond (.t 13) (.seq (.kill [14] (.region c21_r2)) .ret) .skip))) (.seq (.kill [15] (.region c21_r3)) (.seq (.region c21_r4) (.seq (.kill [8,16,17,18,19,22,23,24,25,26,27,28,29,30,31,32,33,34,35,36,37,38,39,40,41,42,43,44,9,10,45,46,48,49,50,51,52,53,47,54,55,56,57,59,60,61,62,63,58,64,65,66,67,68,69,70,71,72,73,74,75,76,77,78,79,80,81,82,83,84,85,86,87,88,89,90,91,20,21] (.seq (.kill [16,17,18,19,22,23,24,25,26,27,28,29,30,31,32,33,34,35,36,37,38,39,40,41,42,43,44,9,10,45,46,48,49,50,51,52,53,47,54,55,56,57,59,60,61,62,63,58,64,65,66,67,68,69,70,71,72,73,74,75,76,77,78,79,80,81,82,83,84,85,86,87,88,89,90,91,20,21] (.region c21_r5)) (.block 0 (.loop c21_l0)))) (.seq (.kill [92] (.region c21_r20)) .ret)))))),[.cell 2 (.many 83),.tmp 3,.tmp 4]⟩
def c22_r0 : List COper := [⟨some 2,.box (.t 0),none⟩,
 ⟨some 3,.box (.t 1),none⟩,
 ⟨some 4,.move (.c (.bool false)),none⟩]
def c22_r1 : List COper := [⟨some 6,.fieldAddr 0 (.t 2),none⟩,
 ⟨some 7,.indexArr 2 41 (.t 6) (.c (.int .i64 0)),none⟩,
 ⟨some 8,.load (.many 41) (.t 7),none⟩,
 ⟨some 9,.fieldAddr 0 (.t 3),none⟩,
 ⟨some 10,.indexArr 2 41 (.t 9) (.c (.int .i64 0)),none⟩,
 ⟨some 11,.load (.many 41) (.t 10),none⟩,
 ⟨some 12,.eq (.flat [1,1,1,1,1,1,1,1,1,1,1,1,1,1,1,1,1,1,1,1,1,1,1,1,1,1,1,1,1,1,1,1,1,1,1,1,1,1,0,0,0]) true (.t 8) (.t 11),none⟩,
 ⟨some 13,.move (.t 12),none⟩,
 ⟨some 14,.fieldAddr 0 (.t 2),some (13,false)⟩,
 ⟨some 15,.indexArr 2 41 (.t 14) (.c (.int .i64 1)),some (13,false)⟩,
 ⟨some 16,.load (.many 41) (.t 15),some (13,false)⟩,
 ⟨some 17,.fieldAddr 0 (.t 3),some (13,false)⟩,
 ⟨some 18,.indexArr 2 41 (.t 17) (.c (.int .i64 1)),some (13,false)⟩,
 ⟨some 19,.load (.many 41) (.t 18),some (13,false)⟩,
 ⟨some 20,.eq (.flat [1,1,1,1,1,1,1,1,1,1,1,1,1,1,1,1,1,1,1,1,1,1,1,1,1,1,1,1,1,1,1,1,1,1,1,1,1,1,0,0,0]) true (.t 16) (.t 19),some (13,false)⟩,
 ⟨some 21,.pick (.t 13) (.c (.bool true)) (.t 20),none⟩,
 ⟨some 22,.move (.t 21),none⟩,
 ⟨some 23,.fieldAddr 82 (.t 2),some (22,false)⟩,
 ⟨some 24,.load .one (.t 23),some (22,false)⟩,
 ⟨some 25,.len (.t 24),some (22,false)⟩,
 ⟨some 26,.fieldAddr 82 (.t 3),some (22,false)⟩,
 ⟨some 27,.load .one (.t 26),some (22,false)⟩,
 ⟨some 28,.len (.t 27),some (22,false)⟩,
 ⟨some 29,.eq .scalar true (.t 25) (.t 28),some (22,false)⟩,
 ⟨some 30,.pick (.t 22) (.c (.bool true)) (.t 29),none⟩]
def c22_r2 : List COper := [⟨some 4,.move (.c (.bool false)),none⟩]
def c22_r3 : List COper := [⟨some 5,.move (.c (.int .i64 0)),none⟩]
def c22_r4 : List COper := [⟨some 31,.move (.t 5),none⟩,
 ⟨some 32,.fieldAddr 82 (.t 2),none⟩,
 ⟨some 33,.load .one (.t 32),none⟩,
 ⟨some 34,.len (.t 33),none⟩,
 ⟨some 35,.arith .lss (.t 31) (.t 34),none⟩]
def c22_r5 : List DItem := [⟨0,⟨some 38,.fieldAddr 82 (.t 2),none⟩,.quiet,[],false⟩,
 ⟨1,⟨some 39,.load .one (.t 38),none⟩,.read,[0],false⟩,
 ⟨2,⟨some 40,.move (.t 5),none⟩,.quiet,[],false⟩,
 ⟨3,⟨some 41,.indexSl 12 (.t 39) (.t 40),none⟩,.quiet,[1,2,0],false⟩,
 ⟨4,⟨some 42,.load (.many 12) (.t 41),none⟩,.read,[3,1,2,0],false⟩,
 ⟨5,⟨some 43,.fieldAddr 82 (.t 3),none⟩,.quiet,[],false⟩,
 ⟨6,⟨some 44,.load .one (.t 43),none⟩,.read,[5],false⟩,
 ⟨7,⟨some 45,.move (.t 5),none⟩,.quiet,[],false⟩,
 ⟨8,⟨some 46,.indexSl 12 (.t 44) (.t 45),none⟩,.quiet,[6,7,5],false⟩,
 ⟨9,⟨some 47,.load (.many 12) (.t 46),none⟩,.read,[8,6,7,5],false⟩,
 ⟨10,⟨some 48,.call (.f 12) [(.t 42),(.t 47)],none⟩,.eff,[4,9,3,1,2,0,8,6,7,5],true⟩,
 ⟨11,⟨some 49,.un .not (.t 48),none⟩,.quiet,[10,4,9,3,1,2,0,8,6,7,5],false⟩]
def c22_r6 : List COper := [⟨some 4,.move (.c (.bool false)),none⟩]
def c22_r7 : List COper := [⟨some 36,.move (.t 5),none⟩,
 ⟨some 37,.arith .add (.t 36) (.c (.int .i64 1)),none⟩,
 ⟨some 5,.move (.t 37),none⟩]
def c22_l0 : CCode :=
  (.kill [31,32,33,34,35,38,39,40,41,42,43,44,45,46,47,48,49,36,37] (.seq (.kill [31,32,33,34,35] (.seq (.kill [31,32,33,34] (.region c22_r4)) (.cond (.t 35) .skip (.exit 0)))) (.seq (.kill [38,39,40,41,42,43,44,45,46,47,48,49] (.block 1 (.seq (.kill [38,39,40,41,42,43,44,45,46,47,48] (.draws 12 c22_r5)) (.cond (.t 49) (.seq (.region c22_r6) .ret) .skip)))) (.region c22_r7))))
def c22_r8 : List COper := [⟨some 4,.move (.c (.bool true)),none⟩]
def c22 : CFunc := ⟨50,(.seq (.region c22_r0) (.seq (.kill [6,7,8,9,10,11,12,13,14,15,16,17,18,19,20,21,22,23,24,25,26,27,28,29,30] (.seq (.kill [6,7,8,9,10,11,12,13,14,15,16,17,18,19,20,21,22,23,24,25,26,27,28,29] (.region c22_r1)) (.cond (.t 30) (.seq (.region c22_r2) .ret) .skip))) (.seq (.kill [5,31,32,33,34,35,38,39,40,41,42,43,44,45,46,47,48,49,36,37] (.seq (.kill [31,32,33,34,35,38,39,40,41,42,43,44,45,46,47,48,49,36,37] (.region c22_r3)) (.block 0 (.loop c22_l0)))) (.seq (.region c22_r8) .ret)))),[.tmp 4]⟩
def c23_r0 : List COper := [⟨some 2,.box (.t 0),none⟩,
 ⟨some 3,.box (.t 1),none⟩,
 ⟨some 4,.move (.c (.bool false)),none⟩]
def c23_r1 : List COper := [⟨some 5,.fieldAddr 0 (.t 2),none⟩,
 ⟨some 6,.load (.many 82) (.t 5),none⟩,
 ⟨some 7,.fieldAddr 0 (.t 3),none⟩,
 ⟨some 8,.load (.many 82) (.t 7),none⟩,
 ⟨some 9,.eq (.flat [1,1,1,1,1,1,1,1,1,1,1,1,1,1,1,1,1,1,1,1,1,1,1,1,1,1,1,1,1,1,1,1,1,1,1,1,1,1,0,0,0,1,1,1,1,1,1,1,1,1,1,1,1,1,1,1,1,1,1,1,1,1,1,1,1,1,1,1,1,1,1,1,1,1,1,1,1,1,1,0,0,0]) false (.t 6) (.t 8),none⟩,
 ⟨some 10,.move (.t 9),none⟩,
 ⟨some 11,.fieldAddr 82 (.t 2),some (10,true)⟩,
 ⟨some 12,.load .one (.t 11),some (10,true)⟩,
 ⟨some 13,.fieldAddr 82 (.t 3),some (10,true)⟩,
 ⟨some 14,.load .one (.t 13),some (10,true)⟩,
 ⟨some 15,.call (.f 47) [(.t 12),(.t 14),(.f 29)],some (10,true)⟩,
 ⟨some 16,.pick (.t 10) (.t 15) (.c (.bool false)),none⟩,
 ⟨some 4,.move (.t 16),none⟩]
def c23 : CFunc := ⟨17,(.seq (.region c23_r0) (.seq (.kill [5,6,7,8,9,10,11,12,13,14,15,16] (.region c23_r1)) .ret)),[.tmp 4]⟩
def c24_r0 : List COper := [⟨some 5,.recover,none⟩,
 ⟨some 2,.move (.t 5),none⟩]
def c24_r1 : List COper := [⟨some 6,.move (.t 2),none⟩,
 ⟨some 7,.eq (.iface true) false (.t 6) (.c .nili),none⟩]
def c24_r2 : List COper := [⟨some 9,.move (.t 2),none⟩,
 ⟨some 10,.assertC 113 (some (.agg [(.int .i64 0)])) (.t 9),none⟩,
 ⟨some 8,.move (.t 10),none⟩,
 ⟨some 11,.extract (.t 8) 0,none⟩,
 ⟨some 12,.extract (.t 8) 1,none⟩,
 ⟨some 3,.alloc [(.int .i64 0)],none⟩,
 ⟨none,.store 1 (.t 3) (.t 11),none⟩,
 ⟨some 4,.move (.t 12),none⟩]
def c24_r3 : List COper := [⟨some 13,.move (.t 4),none⟩,
 ⟨some 14,.un .not (.t 13),none⟩]
def c24_r4 : List COper := [⟨some 15,.move (.t 2),none⟩,
 ⟨none,.panic (.t 15),none⟩]
def c24_r5 : List COper := [⟨some 16,.move (.t 0),none⟩,
 ⟨some 17,.fieldAddr 0 (.t 3),none⟩,
 ⟨some 18,.load .one (.t 17),none⟩,
 ⟨some 19,.nilCheck (.t 16),none⟩,
 ⟨none,.store 1 (.t 19) (.t 18),none⟩]
def c24 : CFunc := ⟨20,(.seq (.kill [5] (.region c24_r0)) (.seq (.kill [6,7] (.seq (.kill [6] (.region c24_r1)) (.cond (.t 7) .ret .skip))) (.seq (.kill [9,10,8,11,12] (.region c24_r2)) (.seq (.kill [13,14,15] (.seq (.kill [13] (.region c24_r3)) (.cond (.t 14) (.region c24_r4) .skip))) (.region c24_r5))))),[]⟩
def c25_r0 : List COper := [⟨some 3,.box (.t 0),none⟩]
def c25_r1 : List COper := [⟨some 10,.load (.many 2) (.t 3),none⟩,
 ⟨some 11,.call (.f 48) [(.t 10)],none⟩,
 ⟨some 6,.move (.t 11),none⟩]
def c25_r2 : List COper := [⟨some 12,.move (.t 6),none⟩,
 ⟨some 13,.move (.t 2),none⟩,
 ⟨some 14,.call (.f 49) [(.t 12),(.t 13)],none⟩,
 ⟨some 7,.move (.t 14),none⟩]
def c25_r3 : List COper := [⟨some 15,.move (.t 7),none⟩,
 ⟨some 16,.arith .geq (.t 15) (.c (.int .i64 0)),none⟩,
 ⟨some 17,.move (.t 1),none⟩,
 ⟨some 18,.call (.f 28) [(.t 16),(.t 17)],none⟩]
def c25_r4 : List DItem := [⟨0,⟨some 19,.fieldAddr 1 (.t 3),none⟩,.quiet,[],false⟩,
 ⟨1,⟨some 20,.load .one (.t 19),none⟩,.read,[0],false⟩,
 ⟨2,⟨some 21,.move (.t 6),none⟩,.quiet,[],false⟩,
 ⟨3,⟨some 22,.move (.t 7),none⟩,.quiet,[],false⟩,
 ⟨4,⟨some 23,.indexSl 3 (.t 21) (.t 22),none⟩,.quiet,[2,3],false⟩,
 ⟨5,⟨some 24,.fieldAddr 0 (.t 23),none⟩,.quiet,[4,2,3],false⟩,
 ⟨6,⟨some 25,.load .one (.t 24),none⟩,.read,[5,4,2,3],false⟩,
 ⟨7,⟨some 26,.nilCheck (.t 20),none⟩,.quiet,[1,0,2,3,4,5,6],false⟩,
 ⟨8,⟨some 27,.fieldAddr 0 (.t 26),none⟩,.quiet,[7,0,1,2,3,4,5,6],false⟩,
 ⟨9,⟨none,.store 1 (.t 27) (.t 25),none⟩,.eff,[8,6,0,1,2,3,4,5,7],true⟩]
def c25_r5 : List DItem := [⟨0,⟨some 28,.fieldAddr 0 (.t 3),none⟩,.quiet,[],false⟩,
 ⟨1,⟨some 29,.load .one (.t 28),none⟩,.read,[0],false⟩,
 ⟨2,⟨some 30,.move (.t 6),none⟩,.quiet,[],false⟩,
 ⟨3,⟨some 31,.move (.t 7),none⟩,.quiet,[],false⟩,
 ⟨4,⟨some 32,.indexSl 3 (.t 30) (.t 31),none⟩,.quiet,[2,3],false⟩,
 ⟨5,⟨some 33,.fieldAddr 1 (.t 32),none⟩,.quiet,[4,2,3],false⟩,
 ⟨6,⟨some 34,.load .one (.t 33),none⟩,.read,[5,4,2,3],false⟩,
 ⟨7,⟨some 35,.call (.f 50) [(.t 29),(.t 34)],none⟩,.eff,[1,6,0,5,4,2,3],true⟩]
def c25_r6 : List COper := [⟨some 36,.move (.t 6),none⟩,
 ⟨some 37,.move (.t 7),none⟩,
 ⟨some 38,.indexSl 3 (.t 36) (.t 37),none⟩,
 ⟨some 39,.fieldAddr 2 (.t 38),none⟩,
 ⟨some 40,.load .one (.t 39),none⟩,
 ⟨some 41,.len (.t 40),none⟩,
 ⟨some 42,.move (.c (.int .i64 0)),none⟩]
def c25_r7 : List COper := [⟨some 43,.arith .lss (.t 42) (.t 41),none⟩]
def c25_r8 : List COper := [⟨some 44,.indexSl 1 (.t 40) (.t 42),none⟩,
 ⟨some 45,.load .one (.t 44),none⟩,
 ⟨some 9,.move (.t 45),none⟩]
def c25_r9 : List COper := [⟨some 46,.move (.t 9),none⟩,
 ⟨some 47,.call (.t 46) [],none⟩]
def c25_r10 : List COper := [⟨some 48,.arith .add (.t 42) (.c (.int .i64 1)),none⟩,
 ⟨some 42,.move (.t 48),none⟩]
def c25_l0 : CCode :=
  (.kill [43,44,45,9,46,47,48] (.seq (.region c25_r7) (.seq (.cond (.t 43) .skip (.exit 0)) (.seq (.kill [44,45,9,46,47] (.block 1 (.seq (.kill [44,45] (.region c25_r8)) (.region c25_r9)))) (.region c25_r10)))))
def c25 : CFunc := ⟨49,(.seq (.region c25_r0) (.seq (.kill [10,11] (.region c25_r1)) (.seq (.kill [12,13,14] (.region c25_r2)) (.seq (.kill [15,16,17,18] (.region c25_r3)) (.seq (.kill [19,20,21,22,23,24,25,26,27] (.draws 10 c25_r4)) (.seq (.kill [28,29,30,31,32,33,34,35] (.draws 8 c25_r5)) (.seq (.kill [36,37,38,39,43,44,45,9,46,47,48] (.region c25_r6)) (.block 0 (.loop c25_l0))))))))),[]⟩
def c26_r0 : List COper := [⟨some 2,.box (.t 0),none⟩,
 ⟨some 3,.move (.c (.bool false)),none⟩]
def c26_r1 : List COper := [⟨some 4,.fieldAddr 0 (.t 2),none⟩,
 ⟨some 5,.load .one (.t 4),none⟩,
 ⟨some 6,.fieldAddr 0 (.t 1),none⟩,
 ⟨some 7,.load .one (.t 6),none⟩,
 ⟨some 8,.eq .scalar false (.t 5) (.t 7),none⟩,
 ⟨some 3,.move (.t 8),none⟩]
def c26 : CFunc := ⟨9,(.seq (.region c26_r0) (.seq (.kill [4,5,6,7,8] (.region c26_r1)) .ret)),[.tmp 3]⟩
def c27_r0 : List COper := [⟨some 2,.move (.c (.str [])),none⟩]
def c27_r1 : List COper := [⟨some 3,.move (.t 0),none⟩,
 ⟨some 4,.nilCheck (.t 3),none⟩,
 ⟨some 5,.fieldAddr 0 (.t 4),none⟩,
 ⟨some 6,.load .one (.t 5),none⟩,
 ⟨some 7,.call (.f 51) [(.t 6),(.c (.str [32]))],none⟩,
 ⟨some 2,.move (.t 7),none⟩]
def c27 : CFunc := ⟨8,(.seq (.region c27_r0) (.seq (.kill [3,4,5,6,7] (.region c27_r1)) .ret)),[.tmp 2]⟩
def c28_r0 : List COper := [⟨some 4,.move (.t 0),none⟩,
 ⟨some 5,.un .not (.t 4),none⟩]
def c28_r1 : List COper := [⟨some 6,.move (.t 1),none⟩,
 ⟨some 7,.build [(.int .i64 0)] [(0,1,(.t 6))],none⟩,
 ⟨some 8,.mkIface 113 (.t 7),none⟩,
 ⟨none,.panic (.t 8),none⟩]
def c28 : CFunc := ⟨9,(.seq (.kill [4] (.region c28_r0)) (.cond (.t 5) (.region c28_r1) .skip)),[]⟩
def c29_r0 : List COper := [⟨some 2,.box (.t 0),none⟩,
 ⟨some 3,.box (.t 1),none⟩,
 ⟨some 4,.move (.c (.bool false)),none⟩]
def c29_r1 : List COper := [⟨some 6,.fieldAddr 10 (.t 2),none⟩,
 ⟨some 7,.load .one (.t 6),none⟩,
 ⟨some 8,.fieldAddr 10 (.t 3),none⟩,
 ⟨some 9,.load .one (.t 8),none⟩,
 ⟨some 10,.call (.f 52) [(.t 7),(.t 9)],none⟩,
 ⟨some 5,.move (.t 10),none⟩]
def c29_r2 : List COper := [⟨some 11,.move (.t 5),none⟩,
 ⟨some 12,.move (.t 11),none⟩,
 ⟨some 13,.fieldAddr 0 (.t 2),some (12,true)⟩,
 ⟨some 14,.load .one (.t 13),some (12,true)⟩,
 ⟨some 15,.fieldAddr 0 (.t 3),some (12,true)⟩,
 ⟨some 16,.load .one (.t 15),some (12,true)⟩,
 ⟨some 17,.eq .scalar false (.t 14) (.t 16),some (12,true)⟩,
 ⟨some 18,.pick (.t 12) (.t 17) (.c (.bool false)),none⟩,
 ⟨some 19,.move (.t 18),none⟩,
 ⟨some 20,.fieldAddr 1 (.t 2),some (19,true)⟩,
 ⟨some 21,.load .one (.t 20),some (19,true)⟩,
 ⟨some 22,.fieldAddr 1 (.t 3),some (19,true)⟩,
 ⟨some 23,.load .one (.t 22),some (19,true)⟩,
 ⟨some 24,.eq .scalar false (.t 21) (.t 23),some (19,true)⟩,
 ⟨some 25,.pick (.t 19) (.t 24) (.c (.bool false)),none⟩,
 ⟨some 26,.move (.t 25),none⟩,
 ⟨some 27,.fieldAddr 2 (.t 2),some (26,true)⟩,
 ⟨some 28,.load .one (.t 27),some (26,true)⟩,
 ⟨some 29,.fieldAddr 2 (.t 3),some (26,true)⟩,
 ⟨some 30,.load .one (.t 29),some (26,true)⟩,
 ⟨some 31,.eq .scalar false (.t 28) (.t 30),some (26,true)⟩,
 ⟨some 32,.pick (.t 26) (.t 31) (.c (.bool false)),none⟩,
 ⟨some 33,.move (.t 32),none⟩,
 ⟨some 34,.fieldAddr 3 (.t 2),some (33,true)⟩,
 ⟨some 35,.load .one (.t 34),some (33,true)⟩,
 ⟨some 36,.fieldAddr 3 (.t 3),some (33,true)⟩,
 ⟨some 37,.load .one (.t 36),some (33,true)⟩,
 ⟨some 38,.eq .scalar false (.t 35) (.t 37),some (33,true)⟩,
 ⟨some 39,.pick (.t 33) (.t 38) (.c (.bool false)),none⟩,
 ⟨some 40,.move (.t 39),none⟩,
 ⟨some 41,.fieldAddr 4 (.t 2),some (40,true)⟩,
 ⟨some 42,.load .one (.t 41),some (40,true)⟩,
 ⟨some 43,.fieldAddr 4 (.t 3),some (40,true)⟩,
 ⟨some 44,.load .one (.t 43),some (40,true)⟩,
 ⟨some 45,.eq .scalar false (.t 42) (.t 44),some (40,true)⟩,
 ⟨some 46,.pick (.t 40) (.t 45) (.c (.bool false)),none⟩,
 ⟨some 47,.move (.t 46),none⟩,
 ⟨some 48,.fieldAddr 5 (.t 2),some (47,true)⟩,
 ⟨some 49,.load .one (.t 48),some (47,true)⟩,
 ⟨some 50,.fieldAddr 5 (.t 3),some (47,true)⟩,
 ⟨some 51,.load .one (.t 50),some (47,true)⟩,
 ⟨some 52,.eq .scalar false (.t 49) (.t 51),some (47,true)⟩,
 ⟨some 53,.pick (.t 47) (.t 52) (.c (.bool false)),none⟩,
 ⟨some 54,.move (.t 53),none⟩,
 ⟨some 55,.fieldAddr 6 (.t 2),some (54,true)⟩,
 ⟨some 56,.load .one (.t 55),some (54,true)⟩,
 ⟨some 57,.fieldAddr 6 (.t 3),some (54,true)⟩,
 ⟨some 58,.load .one (.t 57),some (54,true)⟩,
 ⟨some 59,.eq .scalar false (.t 56) (.t 58),some (54,true)⟩,
 ⟨some 60,.pick (.t 54) (.t 59) (.c (.bool false)),none⟩,
 ⟨some 61,.move (.t 60),none⟩,
 ⟨some 62,.fieldAddr 7 (.t 2),some (61,true)⟩,
 ⟨some 63,.load .one (.t 62),some (61,true)⟩,
 ⟨some 64,.fieldAddr 7 (.t 3),some (61,true)⟩,
 ⟨some 65,.load .one (.t 64),some (61,true)⟩,
 ⟨some 66,.eq .scalar false (.t 63) (.t 65),some (61,true)⟩,
 ⟨some 67,.pick (.t 61) (.t 66) (.c (.bool false)),none⟩,
 ⟨some 68,.move (.t 67),none⟩,
 ⟨some 69,.fieldAddr 8 (.t 2),some (68,true)⟩,
 ⟨some 70,.load .one (.t 69),some (68,true)⟩,
 ⟨some 71,.fieldAddr 8 (.t 3),some (68,true)⟩,
 ⟨some 72,.load .one (.t 71),some (68,true)⟩,
 ⟨some 73,.eq .scalar false (.t 70) (.t 72),some (68,true)⟩,
 ⟨some 74,.pick (.t 68) (.t 73) (.c (.bool false)),none⟩,
 ⟨some 75,.move (.t 74),none⟩,
 ⟨some 76,.fieldAddr 9 (.t 2),some (75,true)⟩,
 ⟨some 77,.load .one (.t 76),some (75,true)⟩,
 ⟨some 78,.fieldAddr 9 (.t 3),some (75,true)⟩,
 ⟨some 79,.load .one (.t 78),some (75,true)⟩,
 ⟨some 80,.eq .bool false (.t 77) (.t 79),some (75,true)⟩,
 ⟨some 81,.pick (.t 75) (.t 80) (.c (.bool false)),none⟩,
 ⟨some 82,.move (.t 81),none⟩,
 ⟨some 83,.fieldAddr 11 (.t 2),some (82,true)⟩,
 ⟨some 84,.load .one (.t 83),some (82,true)⟩,
 ⟨some 85,.fieldAddr 11 (.t 3),some (82,true)⟩,
 ⟨some 86,.load .one (.t 85),some (82,true)⟩,
 ⟨some 87,.eq .scalar false (.t 84) (.t 86),some (82,true)⟩,
 ⟨some 88,.pick (.t 82) (.t 87) (.c (.bool false)),none⟩,
 ⟨some 4,.move (.t 88),none⟩]
def c29 : CFunc := ⟨89,(.seq (.region c29_r0) (.seq (.kill [6,7,8,9,10] (.region c29_r1)) (.seq (.kill [11,12,13,14,15,16,17,18,19,20,21,22,23,24,25,26,27,28,29,30,31,32,33,34,35,36,37,38,39,40,41,42,43,44,45,46,47,48,49,50,51,52,53,54,55,56,57,58,59,60,61,62,63,64,65,66,67,68,69,70,71,72,73,74,75,76,77,78,79,80,81,82,83,84,85,86,87,88] (.region c29_r2)) .ret))),[.tmp 4]⟩
def c30_r0 : List COper := [⟨some 2,.move (.c (.bool false)),none⟩]
def c30_r1 : List COper := [⟨some 3,.move (.t 0),none⟩,
 ⟨some 4,.arith .geq (.t 3) (.c (.int .i64 0)),none⟩,
 ⟨some 5,.move (.t 4),none⟩,
 ⟨some 6,.move (.t 0),some (5,true)⟩,
 ⟨some 7,.arith .leq (.t 6) (.c (.int .i64 1099511627776)),some (5,true)⟩,
 ⟨some 8,.pick (.t 5) (.t 7) (.c (.bool false)),none⟩,
 ⟨some 2,.move (.t 8),none⟩]
def c30 : CFunc := ⟨9,(.seq (.region c30_r0) (.seq (.kill [3,4,5,6,7,8] (.region c30_r1)) .ret)),[.tmp 2]⟩
def c31_r0 : List COper := [⟨some 1,.box (.t 0),none⟩,
 ⟨some 2,.move (.c (.str [])),none⟩,
 ⟨some 3,.alloc [(.int .i64 0),(.int .i64 0),(.int .i64 0),(.int .i64 0),(.int .i64 0),(.int .u8 0),(.int .i64 0),(.int .u16 0),(.int .u32 0),(.bool false),.nils,(.str [])],none⟩]
def c31_r1 : List COper := [⟨some 5,.fieldAddr 0 (.t 1),none⟩,
 ⟨some 6,.load .one (.t 5),none⟩,
 ⟨some 7,.fieldAddr 1 (.t 1),none⟩,
 ⟨some 8,.load .one (.t 7),none⟩,
 ⟨some 9,.build [(.int .i64 0),(.int .i64 0),(.int .i64 0),(.int .i64 0),(.int .i64 0),(.int .u8 0),(.int .i64 0),(.int .u16 0),(.int .u32 0),(.bool false),.nils,(.str [])] [(0,1,(.t 6)),(1,1,(.t 8))],none⟩,
 ⟨some 4,.alloc [(.int .i64 0),(.int .i64 0),(.int .i64 0),(.int .i64 0),(.int .i64 0),(.int .u8 0),(.int .i64 0),(.int .u16 0),(.int .u32 0),(.bool false),.nils,(.str [])],none⟩,
 ⟨none,.store 12 (.t 4) (.t 9),none⟩]
def c31_r2 : List COper := [⟨some 10,.fieldAddr 0 (.t 1),none⟩,
 ⟨some 11,.load .one (.t 10),none⟩]
def c31_r3 : List COper := [⟨some 13,.eq .scalar false (.t 11) (.c (.int .i64 1)),none⟩,
 ⟨some 12,.move (.t 13),none⟩]
def c31_r4 : List DItem := [⟨0,⟨some 14,.fieldAddr 1 (.t 1),none⟩,.quiet,[],false⟩,
 ⟨1,⟨some 15,.load .one (.t 14),none⟩,.read,[0],false⟩,
 ⟨2,⟨some 16,.buildSlice [(.int .i64 0)] 1 [(0,1,(.t 15))],none⟩,.new,[1,0],false⟩,
 ⟨4,⟨some 18,.load (.many 12) (.t 4),none⟩,.read,[],false⟩,
 ⟨3,⟨some 17,.call (.f 53) [(.c (.str [111,112,101,110])),(.t 16)],none⟩,.eff,[2,1,0],true⟩,
 ⟨5,⟨some 2,.move (.t 17),none⟩,.quiet,[3,0,1,2],false⟩,
 ⟨6,⟨none,.store 12 (.t 3) (.t 18),none⟩,.eff,[4,5,0,1,2,3],true⟩]
def c31_r5 : List COper := [⟨some 20,.eq .scalar false (.t 11) (.c (.int .i64 2)),none⟩,
 ⟨some 19,.move (.t 20),none⟩]
def c31_r6 : List DItem := [⟨0,⟨some 21,.fieldAddr 7 (.t 1),none⟩,.quiet,[],false⟩,
 ⟨1,⟨some 22,.load .one (.t 21),none⟩,.read,[0],false⟩,
 ⟨2,⟨some 23,.fieldAddr 8 (.t 1),none⟩,.quiet,[],false⟩,
 ⟨3,⟨some 24,.load .one (.t 23),none⟩,.read,[2],false⟩,
 ⟨4,⟨some 25,.fieldAddr 9 (.t 1),none⟩,.quiet,[],false⟩,
 ⟨5,⟨some 26,.load .one (.t 25),none⟩,.read,[4],false⟩,
 ⟨6,⟨some 27,.fieldAddr 10 (.t 1),none⟩,.quiet,[],false⟩,
 ⟨7,⟨some 28,.load .one (.t 27),none⟩,.read,[6],false⟩,
 ⟨8,⟨some 29,.fieldAddr 7 (.t 4),none⟩,.quiet,[0,1],false⟩,
 ⟨9,⟨none,.store 1 (.t 29) (.t 22),none⟩,.eff,[8,1,0],true⟩,
 ⟨10,⟨some 30,.fieldAddr 8 (.t 4),none⟩,.quiet,[0,1,2,3,8,9],false⟩,
 ⟨11,⟨none,.store 1 (.t 30) (.t 24),none⟩,.eff,[10,3,9,0,1,2,8],true⟩,
 ⟨12,⟨some 31,.fieldAddr 9 (.t 4),none⟩,.quiet,[0,1,2,3,4,5,8,9,10,11],false⟩,
 ⟨13,⟨none,.store 1 (.t 31) (.t 26),none⟩,.eff,[12,5,11,0,1,2,3,4,8,9,10],true⟩,
 ⟨14,⟨some 32,.fieldAddr 10 (.t 4),none⟩,.quiet,[0,1,2,3,4,5,6,7,8,9,10,11,12,13],false⟩,
 ⟨15,⟨none,.store 1 (.t 32) (.t 28),none⟩,.eff,[14,7,13,0,1,2,3,4,5,6,8,9,10,11,12],true⟩]
def c31_r7 : List DItem := [⟨0,⟨some 33,.fieldAddr 1 (.t 1),none⟩,.quiet,[],false⟩,
 ⟨1,⟨some 34,.load .one (.t 33),none⟩,.read,[0],false⟩,
 ⟨2,⟨some 35,.fieldAddr 7 (.t 1),none⟩,.quiet,[],false⟩,
 ⟨3,⟨some 36,.load .one (.t 35),none⟩,.read,[2],false⟩,
 ⟨4,⟨some 37,.conv .i64 (.t 36),none⟩,.quiet,[3,2],false⟩,
 ⟨5,⟨some 38,.fieldAddr 8 (.t 1),none⟩,.quiet,[],false⟩,
 ⟨6,⟨some 39,.load .one (.t 38),none⟩,.read,[5],false⟩,
 ⟨7,⟨some 40,.conv .i64 (.t 39),none⟩,.quiet,[6,5],false⟩,
 ⟨8,⟨some 41,.buildSlice [(.int .i64 0),(.int .i64 0),(.int .i64 0)] 3 [(0,1,(.t 34)),(1,1,(.t 37)),(2,1,(.t 40))],none⟩,.new,[1,4,7,0,3,2,6,5],false⟩,
 ⟨11,⟨some 44,.fieldAddr 9 (.t 1),none⟩,.quiet,[],false⟩,
 ⟨12,⟨some 45,.load .one (.t 44),none⟩,.read,[11],false⟩,
 ⟨16,⟨some 49,.fieldAddr 10 (.t 1),none⟩,.quiet,[],false⟩,
 ⟨17,⟨some 50,.load .one (.t 49),none⟩,.read,[16],false⟩,
 ⟨20,⟨some 53,.load (.many 12) (.t 4),none⟩,.read,[],false⟩,
 ⟨9,⟨some 42,.call (.f 53) [(.c (.str [115,101,110,100])),(.t 41)],none⟩,.eff,[8,1,4,7,0,3,2,6,5],true⟩,
 ⟨10,⟨some 43,.arith .add (.t 42) (.c (.str [32])),none⟩,.quiet,[9,8,1,4,7,0,3,2,6,5],false⟩,
 ⟨13,⟨some 46,.call (.f 54) [(.t 45)],none⟩,.eff,[12,9,11,8,1,4,7,0,3,2,6,5],true⟩,
 ⟨14,⟨some 47,.arith .add (.t 43) (.t 46),none⟩,.quiet,[10,13,9,8,1,4,7,0,3,2,6,5,12,11],false⟩,
 ⟨15,⟨some 48,.arith .add (.t 47) (.c (.str [32])),none⟩,.quiet,[14,10,13,9,8,1,4,7,0,3,2,6,5,12,11],false⟩,
 ⟨18,⟨some 51,.call (.f 41) [(.t 50)],none⟩,.eff,[17,13,16,12,9,11,8,1,4,7,0,3,2,6,5],true⟩,
 ⟨19,⟨some 52,.arith .add (.t 48) (.t 51),none⟩,.quiet,[15,18,14,10,13,9,8,1,4,7,0,3,2,6,5,12,11,17,16],false⟩,
 ⟨21,⟨some 2,.move (.t 52),none⟩,.quiet,[19,18,0,1,2,3,4,5,6,7,8,9,10,11,12,13,14,15,16,17],false⟩,
 ⟨22,⟨none,.store 12 (.t 3) (.t 53),none⟩,.eff,[20,21,0,1,2,3,4,5,6,7,8,9,10,11,12,13,14,15,16,17,18,19],true⟩]
def c31_r8 : List COper := [⟨some 55,.eq .scalar false (.t 11) (.c (.int .i64 3)),none⟩,
 ⟨some 54,.move (.t 55),none⟩]
def c31_r9 : List DItem := [⟨0,⟨some 56,.fieldAddr 1 (.t 1),none⟩,.quiet,[],false⟩,
 ⟨1,⟨some 57,.load .one (.t 56),none⟩,.read,[0],false⟩,
 ⟨2,⟨some 58,.buildSlice [(.int .i64 0)] 1 [(0,1,(.t 57))],none⟩,.new,[1,0],false⟩,
 ⟨4,⟨some 60,.load (.many 12) (.t 4),none⟩,.read,[],false⟩,
 ⟨3,⟨some 59,.call (.f 53) [(.c (.str [114,101,99,101,105,118,101])),(.t 58)],none⟩,.eff,[2,1,0],true⟩,
 ⟨5,⟨some 2,.move (.t 59),none⟩,.quiet,[3,0,1,2],false⟩,
 ⟨6,⟨none,.store 12 (.t 3) (.t 60),none⟩,.eff,[4,5,0,1,2,3],true⟩]
def c31_r10 : List COper := [⟨some 62,.eq .scalar false (.t 11) (.c (.int .i64 4)),none⟩,
 ⟨some 61,.move (.t 62),none⟩]
def c31_r11 : List DItem := [⟨0,⟨some 63,.fieldAddr 1 (.t 1),none⟩,.quiet,[],false⟩,
 ⟨1,⟨some 64,.load .one (.t 63),none⟩,.read,[0],false⟩,
 ⟨2,⟨some 65,.buildSlice [(.int .i64 0)] 1 [(0,1,(.t 64))],none⟩,.new,[1,0],false⟩,
 ⟨4,⟨some 67,.load (.many 12) (.t 4),none⟩,.read,[],false⟩,
 ⟨3,⟨some 66,.call (.f 53) [(.c (.str [115,104,117,116,100,111,119,110])),(.t 65)],none⟩,.eff,[2,1,0],true⟩,
 ⟨5,⟨some 2,.move (.t 66),none⟩,.quiet,[3,0,1,2],false⟩,
 ⟨6,⟨none,.store 12 (.t 3) (.t 67),none⟩,.eff,[4,5,0,1,2,3],true⟩]
def c31_r12 : List COper := [⟨some 69,.eq .scalar false (.t 11) (.c (.int .i64 5)),none⟩,
 ⟨some 68,.move (.t 69),none⟩]
def c31_r13 : List COper := [⟨some 70,.fieldAddr 11 (.t 1),none⟩,
 ⟨some 71,.load .one (.t 70),none⟩,
 ⟨some 72,.fieldAddr 11 (.t 4),none⟩,
 ⟨none,.store 1 (.t 72) (.t 71),none⟩]
def c31_r14 : List DItem := [⟨0,⟨some 73,.fieldAddr 1 (.t 1),none⟩,.quiet,[],false⟩,
 ⟨1,⟨some 74,.load .one (.t 73),none⟩,.read,[0],false⟩,
 ⟨2,⟨some 75,.buildSlice [(.int .i64 0)] 1 [(0,1,(.t 74))],none⟩,.new,[1,0],false⟩,
 ⟨5,⟨some 78,.fieldAddr 11 (.t 1),none⟩,.quiet,[],false⟩,
 ⟨6,⟨some 79,.load .one (.t 78),none⟩,.read,[5],false⟩,
 ⟨7,⟨some 80,.s2b (.t 79),none⟩,.new,[6,5],false⟩,
 ⟨10,⟨some 83,.load (.many 12) (.t 4),none⟩,.read,[],false⟩,
 ⟨3,⟨some 76,.call (.f 53) [(.c (.str [97,98,111,114,116])),(.t 75)],none⟩,.eff,[2,1,0],true⟩,
 ⟨4,⟨some 77,.arith .add (.t 76) (.c (.str [32])),none⟩,.quiet,[3,2,1,0],false⟩,
 ⟨8,⟨some 81,.call (.f 41) [(.t 80)],none⟩,.eff,[7,3,6,5,2,1,0],true⟩,
 ⟨9,⟨some 82,.arith .add (.t 77) (.t 81),none⟩,.quiet,[4,8,3,2,1,0,7,6,5],false⟩,
 ⟨11,⟨some 2,.move (.t 82),none⟩,.quiet,[9,8,0,1,2,3,4,5,6,7],false⟩,
 ⟨12,⟨none,.store 12 (.t 3) (.t 83),none⟩,.eff,[10,11,0,1,2,3,4,5,6,7,8,9],true⟩]
def c31_r15 : List COper := [⟨some 85,.eq .scalar false (.t 11) (.c (.int .i64 6)),none⟩,
 ⟨some 84,.move (.t 85),none⟩]
def c31_r16 : List DItem := [⟨0,⟨some 86,.fieldAddr 1 (.t 1),none⟩,.quiet,[],false⟩,
 ⟨1,⟨some 87,.load .one (.t 86),none⟩,.read,[0],false⟩,
 ⟨2,⟨some 88,.buildSlice [(.int .i64 0)] 1 [(0,1,(.t 87))],none⟩,.new,[1,0],false⟩,
 ⟨4,⟨some 90,.load (.many 12) (.t 4),none⟩,.read,[],false⟩,
 ⟨3,⟨some 89,.call (.f 53) [(.c (.str [116,105,99,107])),(.t 88)],none⟩,.eff,[2,1,0],true⟩,
 ⟨5,⟨some 2,.move (.t 89),none⟩,.quiet,[3,0,1,2],false⟩,
 ⟨6,⟨none,.store 12 (.t 3) (.t 90),none⟩,.eff,[4,5,0,1,2,3],true⟩]
def c31_r17 : List COper := [⟨some 92,.eq .scalar false (.t 11) (.c (.int .i64 7)),none⟩,
 ⟨some 91,.move (.t 92),none⟩]
def c31_r18 : List DItem := [⟨0,⟨some 93,.fieldAddr 6 (.t 1),none⟩,.quiet,[],false⟩,
 ⟨1,⟨some 94,.load .one (.t 93),none⟩,.read,[0],false⟩,
 ⟨2,⟨some 95,.buildSlice [(.int .i64 0)] 1 [(0,1,(.t 94))],none⟩,.new,[1,0],false⟩,
 ⟨4,⟨some 97,.fieldAddr 0 (.t 1),none⟩,.quiet,[],false⟩,
 ⟨5,⟨some 98,.load .one (.t 97),none⟩,.read,[4],false⟩,
 ⟨6,⟨some 99,.fieldAddr 6 (.t 1),none⟩,.quiet,[],false⟩,
 ⟨7,⟨some 100,.load .one (.t 99),none⟩,.read,[6],false⟩,
 ⟨8,⟨some 101,.build [(.int .i64 0),(.int .i64 0),(.int .i64 0),(.int .i64 0),(.int .i64 0),(.int .u8 0),(.int .i64 0),(.int .u16 0),(.int .u32 0),(.bool false),.nils,(.str [])] [(0,1,(.t 98)),(6,1,(.t 100))],none⟩,.quiet,[5,7,4,6],false⟩,
 ⟨3,⟨some 96,.call (.f 53) [(.c (.str [99,108,111,99,107])),(.t 95)],none⟩,.eff,[2,1,0],true⟩,
 ⟨9,⟨some 2,.move (.t 96),none⟩,.quiet,[3,0,1,2],false⟩,
 ⟨10,⟨none,.store 12 (.t 3) (.t 101),none⟩,.eff,[8,9,0,1,2,3,4,5,6,7],true⟩]
def c31_r19 : List COper := [⟨some 103,.eq .scalar false (.t 11) (.c (.int .i64 8)),none⟩,
 ⟨some 102,.move (.t 103),none⟩]
def c31_r20 : List DItem := [⟨0,⟨some 104,.fieldAddr 2 (.t 1),none⟩,.quiet,[],false⟩,
 ⟨1,⟨some 105,.load .one (.t 104),none⟩,.read,[0],false⟩,
 ⟨2,⟨some 106,.fieldAddr 3 (.t 1),none⟩,.quiet,[],false⟩,
 ⟨3,⟨some 107,.load .one (.t 106),none⟩,.read,[2],false⟩,
 ⟨4,⟨some 108,.fieldAddr 2 (.t 4),none⟩,.quiet,[0,1],false⟩,
 ⟨5,⟨none,.store 1 (.t 108) (.t 105),none⟩,.eff,[4,1,0],true⟩,
 ⟨6,⟨some 109,.fieldAddr 3 (.t 4),none⟩,.quiet,[0,1,2,3,4,5],false⟩,
 ⟨7,⟨none,.store 1 (.t 109) (.t 107),none⟩,.eff,[6,3,5,0,1,2,4],true⟩]
def c31_r21 : List DItem := [⟨0,⟨some 110,.fieldAddr 1 (.t 1),none⟩,.quiet,[],false⟩,
 ⟨1,⟨some 111,.load .one (.t 110),none⟩,.read,[0],false⟩,
 ⟨2,⟨some 112,.fieldAddr 2 (.t 1),none⟩,.quiet,[],false⟩,
 ⟨3,⟨some 113,.load .one (.t 112),none⟩,.read,[2],false⟩,
 ⟨4,⟨some 114,.fieldAddr 3 (.t 1),none⟩,.quiet,[],false⟩,
 ⟨5,⟨some 115,.load .one (.t 114),none⟩,.read,[4],false⟩,
 ⟨6,⟨some 116,.buildSlice [(.int .i64 0),(.int .i64 0),(.int .i64 0)] 3 [(0,1,(.t 111)),(1,1,(.t 113)),(2,1,(.t 115))],none⟩,.new,[1,3,5,0,2,4],false⟩,
 ⟨8,⟨some 118,.load (.many 12) (.t 4),none⟩,.read,[],false⟩,
 ⟨7,⟨some 117,.call (.f 53) [(.c (.str [100,101,108,105,118,101,114])),(.t 116)],none⟩,.eff,[6,1,3,5,0,2,4],true⟩,
 ⟨9,⟨some 2,.move (.t 117),none⟩,.quiet,[7,0,1,2,3,4,5,6],false⟩,
 ⟨10,⟨none,.store 12 (.t 3) (.t 118),none⟩,.eff,[8,9,0,1,2,3,4,5,6,7],true⟩]
def c31_r22 : List COper := [⟨some 120,.eq .scalar false (.t 11) (.c (.int .i64 9)),none⟩,
 ⟨some 119,.move (.t 120),none⟩]
def c31_r23 : List DItem := [⟨0,⟨some 121,.fieldAddr 2 (.t 1),none⟩,.quiet,[],false⟩,
 ⟨1,⟨some 122,.load .one (.t 121),none⟩,.read,[0],false⟩,
 ⟨2,⟨some 123,.fieldAddr 3 (.t 1),none⟩,.quiet,[],false⟩,
 ⟨3,⟨some 124,.load .one (.t 123),none⟩,.read,[2],false⟩,
 ⟨4,⟨some 125,.fieldAddr 2 (.t 4),none⟩,.quiet,[0,1],false⟩,
 ⟨5,⟨none,.store 1 (.t 125) (.t 122),none⟩,.eff,[4,1,0],true⟩,
 ⟨6,⟨some 126,.fieldAddr 3 (.t 4),none⟩,.quiet,[0,1,2,3,4,5],false⟩,
 ⟨7,⟨none,.store 1 (.t 126) (.t 124),none⟩,.eff,[6,3,5,0,1,2,4],true⟩]
def c31_r24 : List DItem := [⟨0,⟨some 127,.fieldAddr 1 (.t 1),none⟩,.quiet,[],false⟩,
 ⟨1,⟨some 128,.load .one (.t 127),none⟩,.read,[0],false⟩,
 ⟨2,⟨some 129,.fieldAddr 2 (.t 1),none⟩,.quiet,[],false⟩,
 ⟨3,⟨some 130,.load .one (.t 129),none⟩,.read,[2],false⟩,
 ⟨4,⟨some 131,.fieldAddr 3 (.t 1),none⟩,.quiet,[],false⟩,
 ⟨5,⟨some 132,.load .one (.t 131),none⟩,.read,[4],false⟩,
 ⟨6,⟨some 133,.buildSlice [(.int .i64 0),(.int .i64 0),(.int .i64 0)] 3 [(0,1,(.t 128)),(1,1,(.t 130)),(2,1,(.t 132))],none⟩,.new,[1,3,5,0,2,4],false⟩,
 ⟨8,⟨some 135,.load (.many 12) (.t 4),none⟩,.read,[],false⟩,
 ⟨7,⟨some 134,.call (.f 53) [(.c (.str [100,114,111,112])),(.t 133)],none⟩,.eff,[6,1,3,5,0,2,4],true⟩,
 ⟨9,⟨some 2,.move (.t 134),none⟩,.quiet,[7,0,1,2,3,4,5,6],false⟩,
 ⟨10,⟨none,.store 12 (.t 3) (.t 135),none⟩,.eff,[8,9,0,1,2,3,4,5,6,7],true⟩]
def c31_r25 : List COper := [⟨some 137,.eq .scalar false (.t 11) (.c (.int .i64 10)),none⟩,
 ⟨some 136,.move (.t 137),none⟩]
def c31_r26 : List DItem := [⟨0,⟨some 138,.fieldAddr 2 (.t 1),none⟩,.quiet,[],false⟩,
 ⟨1,⟨some 139,.load .one (.t 138),none⟩,.read,[0],false⟩,
 ⟨2,⟨some 140,.fieldAddr 3 (.t 1),none⟩,.quiet,[],false⟩,
 ⟨3,⟨some 141,.load .one (.t 140),none⟩,.read,[2],false⟩,
 ⟨4,⟨some 142,.fieldAddr 2 (.t 4),none⟩,.quiet,[0,1],false⟩,
 ⟨5,⟨none,.store 1 (.t 142) (.t 139),none⟩,.eff,[4,1,0],true⟩,
 ⟨6,⟨some 143,.fieldAddr 3 (.t 4),none⟩,.quiet,[0,1,2,3,4,5],false⟩,
 ⟨7,⟨none,.store 1 (.t 143) (.t 141),none⟩,.eff,[6,3,5,0,1,2,4],true⟩]
def c31_r27 : List DItem := [⟨0,⟨some 144,.fieldAddr 1 (.t 1),none⟩,.quiet,[],false⟩,
 ⟨1,⟨some 145,.load .one (.t 144),none⟩,.read,[0],false⟩,
 ⟨2,⟨some 146,.fieldAddr 2 (.t 1),none⟩,.quiet,[],false⟩,
 ⟨3,⟨some 147,.load .one (.t 146),none⟩,.read,[2],false⟩,
 ⟨4,⟨some 148,.fieldAddr 3 (.t 1),none⟩,.quiet,[],false⟩,
 ⟨5,⟨some 149,.load .one (.t 148),none⟩,.read,[4],false⟩,
 ⟨6,⟨some 150,.buildSlice [(.int .i64 0),(.int .i64 0),(.int .i64 0)] 3 [(0,1,(.t 145)),(1,1,(.t 147)),(2,1,(.t 149))],none⟩,.new,[1,3,5,0,2,4],false⟩,
 ⟨8,⟨some 152,.load (.many 12) (.t 4),none⟩,.read,[],false⟩,
 ⟨7,⟨some 151,.call (.f 53) [(.c (.str [116,119,105,99,101])),(.t 150)],none⟩,.eff,[6,1,3,5,0,2,4],true⟩,
 ⟨9,⟨some 2,.move (.t 151),none⟩,.quiet,[7,0,1,2,3,4,5,6],false⟩,
 ⟨10,⟨none,.store 12 (.t 3) (.t 152),none⟩,.eff,[8,9,0,1,2,3,4,5,6,7],true⟩]
def c31_r28 : List COper := [⟨some 154,.eq .scalar false (.t 11) (.c (.int .i64 11)),none⟩,
 ⟨some 153,.move (.t 154),none⟩]
def c31_r29 : List DItem := [⟨0,⟨some 155,.fieldAddr 2 (.t 1),none⟩,.quiet,[],false⟩,
 ⟨1,⟨some 156,.load .one (.t 155),none⟩,.read,[0],false⟩,
 ⟨2,⟨some 157,.fieldAddr 3 (.t 1),none⟩,.quiet,[],false⟩,
 ⟨3,⟨some 158,.load .one (.t 157),none⟩,.read,[2],false⟩,
 ⟨4,⟨some 159,.fieldAddr 4 (.t 1),none⟩,.quiet,[],false⟩,
 ⟨5,⟨some 160,.load .one (.t 159),none⟩,.read,[4],false⟩,
 ⟨6,⟨some 161,.fieldAddr 5 (.t 1),none⟩,.quiet,[],false⟩,
 ⟨7,⟨some 162,.load .one (.t 161),none⟩,.read,[6],false⟩,
 ⟨8,⟨some 163,.fieldAddr 2 (.t 4),none⟩,.quiet,[0,1],false⟩,
 ⟨9,⟨none,.store 1 (.t 163) (.t 156),none⟩,.eff,[8,1,0],true⟩,
 ⟨10,⟨some 164,.fieldAddr 3 (.t 4),none⟩,.quiet,[0,1,2,3,8,9],false⟩,
 ⟨11,⟨none,.store 1 (.t 164) (.t 158),none⟩,.eff,[10,3,9,0,1,2,8],true⟩,
 ⟨12,⟨some 165,.fieldAddr 4 (.t 4),none⟩,.quiet,[0,1,2,3,4,5,8,9,10,11],false⟩,
 ⟨13,⟨none,.store 1 (.t 165) (.t 160),none⟩,.eff,[12,5,11,0,1,2,3,4,8,9,10],true⟩,
 ⟨14,⟨some 166,.fieldAddr 5 (.t 4),none⟩,.quiet,[0,1,2,3,4,5,6,7,8,9,10,11,12,13],false⟩,
 ⟨15,⟨none,.store 1 (.t 166) (.t 162),none⟩,.eff,[14,7,13,0,1,2,3,4,5,6,8,9,10,11,12],true⟩]
def c31_r30 : List DItem := [⟨0,⟨some 167,.fieldAddr 1 (.t 1),none⟩,.quiet,[],false⟩,
 ⟨1,⟨some 168,.load .one (.t 167),none⟩,.read,[0],false⟩,
 ⟨2,⟨some 169,.fieldAddr 2 (.t 1),none⟩,.quiet,[],false⟩,
 ⟨3,⟨some 170,.load .one (.t 169),none⟩,.read,[2],false⟩,
 ⟨4,⟨some 171,.fieldAddr 3 (.t 1),none⟩,.quiet,[],false⟩,
 ⟨5,⟨some 172,.load .one (.t 171),none⟩,.read,[4],false⟩,
 ⟨6,⟨some 173,.fieldAddr 4 (.t 1),none⟩,.quiet,[],false⟩,
 ⟨7,⟨some 174,.load .one (.t 173),none⟩,.read,[6],false⟩,
 ⟨8,⟨some 175,.fieldAddr 5 (.t 1),none⟩,.quiet,[],false⟩,
 ⟨9,⟨some 176,.load .one (.t 175),none⟩,.read,[8],false⟩,
 ⟨10,⟨some 177,.conv .i64 (.t 176),none⟩,.quiet,[9,8],false⟩,
 ⟨11,⟨some 178,.buildSlice [(.int .i64 0),(.int .i64 0),(.int .i64 0),(.int .i64 0),(.int .i64 0)] 5 [(0,1,(.t 168)),(1,1,(.t 170)),(2,1,(.t 172)),(3,1,(.t 174)),(4,1,(.t 177))],none⟩,.new,[1,3,5,7,10,0,2,4,6,9,8],false⟩,
 ⟨13,⟨some 180,.load (.many 12) (.t 4),none⟩,.read,[],false⟩,
 ⟨12,⟨some 179,.call (.f 53) [(.c (.str [115,112,111,105,108])),(.t 178)],none⟩,.eff,[11,1,3,5,7,10,0,2,4,6,9,8],true⟩,
 ⟨14,⟨some 2,.move (.t 179),none⟩,.quiet,[12,0,1,2,3,4,5,6,7,8,9,10,11],false⟩,
 ⟨15,⟨none,.store 12 (.t 3) (.t 180),none⟩,.eff,[13,14,0,1,2,3,4,5,6,7,8,9,10,11,12],true⟩]
def c31_r31 : List COper := [⟨some 182,.eq .scalar false (.t 11) (.c (.int .i64 12)),none⟩,
 ⟨some 181,.move (.t 182),none⟩]
def c31_r32 : List DItem := [⟨0,⟨some 183,.fieldAddr 2 (.t 1),none⟩,.quiet,[],false⟩,
 ⟨1,⟨some 184,.load .one (.t 183),none⟩,.read,[0],false⟩,
 ⟨2,⟨some 185,.fieldAddr 10 (.t 1),none⟩,.quiet,[],false⟩,
 ⟨3,⟨some 186,.load .one (.t 185),none⟩,.read,[2],false⟩,
 ⟨4,⟨some 187,.fieldAddr 2 (.t 4),none⟩,.quiet,[0,1],false⟩,
 ⟨5,⟨none,.store 1 (.t 187) (.t 184),none⟩,.eff,[4,1,0],true⟩,
 ⟨6,⟨some 188,.fieldAddr 10 (.t 4),none⟩,.quiet,[0,1,2,3,4,5],false⟩,
 ⟨7,⟨none,.store 1 (.t 188) (.t 186),none⟩,.eff,[6,3,5,0,1,2,4],true⟩]
def c31_r33 : List DItem := [⟨0,⟨some 189,.fieldAddr 1 (.t 1),none⟩,.quiet,[],false⟩,
 ⟨1,⟨some 190,.load .one (.t 189),none⟩,.read,[0],false⟩,
 ⟨2,⟨some 191,.fieldAddr 2 (.t 1),none⟩,.quiet,[],false⟩,
 ⟨3,⟨some 192,.load .one (.t 191),none⟩,.read,[2],false⟩,
 ⟨4,⟨some 193,.buildSlice [(.int .i64 0),(.int .i64 0)] 2 [(0,1,(.t 190)),(1,1,(.t 192))],none⟩,.new,[1,3,0,2],false⟩,
 ⟨7,⟨some 196,.fieldAddr 10 (.t 1),none⟩,.quiet,[],false⟩,
 ⟨8,⟨some 197,.load .one (.t 196),none⟩,.read,[7],false⟩,
 ⟨11,⟨some 200,.load (.many 12) (.t 4),none⟩,.read,[],false⟩,
 ⟨5,⟨some 194,.call (.f 53) [(.c (.str [102,111,114,103,101])),(.t 193)],none⟩,.eff,[4,1,3,0,2],true⟩,
 ⟨6,⟨some 195,.arith .add (.t 194) (.c (.str [32])),none⟩,.quiet,[5,4,1,3,0,2],false⟩,
 ⟨9,⟨some 198,.call (.f 41) [(.t 197)],none⟩,.eff,[8,5,7,4,1,3,0,2],true⟩,
 ⟨10,⟨some 199,.arith .add (.t 195) (.t 198),none⟩,.quiet,[6,9,5,4,1,3,0,2,8,7],false⟩,
 ⟨12,⟨some 2,.move (.t 199),none⟩,.quiet,[10,9,0,1,2,3,4,5,6,7,8],false⟩,
 ⟨13,⟨none,.store 12 (.t 3) (.t 200),none⟩,.eff,[11,12,0,1,2,3,4,5,6,7,8,9,10],true⟩]
def c31_r34 : List COper := [⟨some 202,.eq .scalar false (.t 11) (.c (.int .i64 13)),none⟩,
 ⟨some 201,.move (.t 202),none⟩]
def c31_r35 : List DItem := [⟨0,⟨some 203,.fieldAddr 2 (.t 1),none⟩,.quiet,[],false⟩,
 ⟨1,⟨some 204,.load .one (.t 203),none⟩,.read,[0],false⟩,
 ⟨2,⟨some 205,.buildSlice [(.int .i64 0)] 1 [(0,1,(.t 204))],none⟩,.new,[1,0],false⟩,
 ⟨4,⟨some 207,.fieldAddr 0 (.t 1),none⟩,.quiet,[],false⟩,
 ⟨5,⟨some 208,.load .one (.t 207),none⟩,.read,[4],false⟩,
 ⟨6,⟨some 209,.fieldAddr 2 (.t 1),none⟩,.quiet,[],false⟩,
 ⟨7,⟨some 210,.load .one (.t 209),none⟩,.read,[6],false⟩,
 ⟨8,⟨some 211,.build [(.int .i64 0),(.int .i64 0),(.int .i64 0),(.int .i64 0),(.int .i64 0),(.int .u8 0),(.int .i64 0),(.int .u16 0),(.int .u32 0),(.bool false),.nils,(.str [])] [(0,1,(.t 208)),(2,1,(.t 210))],none⟩,.quiet,[5,7,4,6],false⟩,
 ⟨3,⟨some 206,.call (.f 53) [(.c (.str [100,111,119,110])),(.t 205)],none⟩,.eff,[2,1,0],true⟩,
 ⟨9,⟨some 2,.move (.t 206),none⟩,.quiet,[3,0,1,2],false⟩,
 ⟨10,⟨none,.store 12 (.t 3) (.t 211),none⟩,.eff,[8,9,0,1,2,3,4,5,6,7],true⟩]
def c31_r36 : List COper := [⟨some 213,.eq .scalar false (.t 11) (.c (.int .i64 14)),none⟩,
 ⟨some 212,.move (.t 213),none⟩]
def c31_r37 : List DItem := [⟨0,⟨some 214,.fieldAddr 2 (.t 1),none⟩,.quiet,[],false⟩,
 ⟨1,⟨some 215,.load .one (.t 214),none⟩,.read,[0],false⟩,
 ⟨2,⟨some 216,.buildSlice [(.int .i64 0)] 1 [(0,1,(.t 215))],none⟩,.new,[1,0],false⟩,
 ⟨4,⟨some 218,.fieldAddr 0 (.t 1),none⟩,.quiet,[],false⟩,
 ⟨5,⟨some 219,.load .one (.t 218),none⟩,.read,[4],false⟩,
 ⟨6,⟨some 220,.fieldAddr 2 (.t 1),none⟩,.quiet,[],false⟩,
 ⟨7,⟨some 221,.load .one (.t 220),none⟩,.read,[6],false⟩,
 ⟨8,⟨some 222,.build [(.int .i64 0),(.int .i64 0),(.int .i64 0),(.int .i64 0),(.int .i64 0),(.int .u8 0),(.int .i64 0),(.int .u16 0),(.int .u32 0),(.bool false),.nils,(.str [])] [(0,1,(.t 219)),(2,1,(.t 221))],none⟩,.quiet,[5,7,4,6],false⟩,
 ⟨3,⟨some 217,.call (.f 53) [(.c (.str [117,112])),(.t 216)],none⟩,.eff,[2,1,0],true⟩,
 ⟨9,⟨some 2,.move (.t 217),none⟩,.quiet,[3,0,1,2],false⟩,
 ⟨10,⟨none,.store 12 (.t 3) (.t 222),none⟩,.eff,[8,9,0,1,2,3,4,5,6,7],true⟩]
def c31_r38 : List COper := [⟨some 223,.build [(.int .i64 0),(.int .i64 0),(.int .i64 0),(.int .i64 0),(.int .i64 0),(.int .u8 0),(.int .i64 0),(.int .u16 0),(.int .u32 0),(.bool false),.nils,(.str [])] [],none⟩,
 ⟨some 2,.move (.c (.str [])),none⟩,
 ⟨none,.store 12 (.t 3) (.t 223),none⟩]
def c31 : CFunc := ⟨224,(.seq (.region c31_r0) (.seq (.kill [5,6,7,8,9] (.region c31_r1)) (.seq (.kill [10,11,13,12,14,15,16,17,18,20,19,21,22,23,24,25,26,27,28,29,30,31,32,33,34,35,36,37,38,39,40,41,42,43,44,45,46,47,48,49,50,51,52,53,55,54,56,57,58,59,60,62,61,63,64,65,66,67,69,68,70,71,72,73,74,75,76,77,78,79,80,81,82,83,85,84,86,87,88,89,90,92,91,93,94,95,96,97,98,99,100,101,103,102,104,105,106,107,108,109,110,111,112,113,114,115,116,117,118,120,119,121,122,123,124,125,126,127,128,129,130,131,132,133,134,135,137,136,138,139,140,141,142,143,144,145,146,147,148,149,150,151,152,154,153,155,156,157,158,159,160,161,162,163,164,165,166,167,168,169,170,171,172,173,174,175,176,177,178,179,180,182,181,183,184,185,186,187,188,189,190,191,192,193,194,195,196,197,198,199,200,202,201,203,204,205,206,207,208,209,210,211,213,212,214,215,216,217,218,219,220,221,222] (.seq (.kill [10] (.region c31_r2)) (.block 0 (.seq (.kill [13] (.region c31_r3)) (.cond (.t 12) (.seq (.kill [14,15,16,17,18] (.draws 7 c31_r4)) .ret) (.seq (.kill [20] (.region c31_r5)) (.cond (.t 19) (.seq (.kill [21,22,23,24,25,26,27,28,29,30,31,32] (.draws 16 c31_r6)) (.seq (.kill [33,34,35,36,37,38,39,40,41,42,43,44,45,46,47,48,49,50,51,52,53] (.draws 23 c31_r7)) .ret)) (.seq (.kill [55] (.region c31_r8)) (.cond (.t 54) (.seq (.kill [56,57,58,59,60] (.draws 7 c31_r9)) .ret) (.seq (.kill [62] (.region c31_r10)) (.cond (.t 61) (.seq (.kill [63,64,65,66,67] (.draws 7 c31_r11)) .ret) (.seq (.kill [69] (.region c31_r12)) (.cond (.t 68) (.seq (.kill [70,71,72] (.region c31_r13)) (.seq (.kill [73,74,75,76,77,78,79,80,81,82,83] (.draws 13 c31_r14)) .ret)) (.seq (.kill [85] (.region c31_r15)) (.cond (.t 84) (.seq (.kill [86,87,88,89,90] (.draws 7 c31_r16)) .ret) (.seq (.kill [92] (.region c31_r17)) (.cond (.t 91) (.seq (.kill [93,94,95,96,97,98,99,100,101] (.draws 11 c31_r18)) .ret) (.seq (.kill [103] (.region c31_r19)) (.cond (.t 102) (.seq (.kill [104,105,106,107,108,109] (.draws 8 c31_r20)) (.seq (.kill [110,111,112,113,114,115,116,117,118] (.draws 11 c31_r21)) .ret)) (.seq (.kill [120] (.region c31_r22)) (.cond (.t 119) (.seq (.kill [121,122,123,124,125,126] (.draws 8 c31_r23)) (.seq (.kill [127,128,129,130,131,132,133,134,135] (.draws 11 c31_r24)) .ret)) (.seq (.kill [137] (.region c31_r25)) (.cond (.t 136) (.seq (.kill [138,139,140,141,142,143] (.draws 8 c31_r26)) (.seq (.kill [144,145,146,147,148,149,150,151,152] (.draws 11 c31_r27)) .ret)) (.seq (.kill [154] (.region c31_r28)) (.cond (.t 153) (.seq (.kill [155,156,157,158,159,160,161,162,163,164,165,166] (.draws 16 c31_r29)) (.seq (.kill [167,168,169,170,171,172,173,174,175,176,177,178,179,180] (.draws 16 c31_r30)) .ret)) (.seq (.kill [182] (.region c31_r31)) (.cond (.t 181) (.seq (.kill [183,184,185,186,187,188] (.draws 8 c31_r32)) (.seq (.kill [189,190,191,192,193,194,195,196,197,198,199,200] (.draws 14 c31_r33)) .ret)) (.seq (.kill [202] (.region c31_r34)) (.cond (.t 201) (.seq (.kill [203,204,205,206,207,208,209,210,211] (.draws 11 c31_r35)) .ret) (.seq (.kill [213] (.region c31_r36)) (.cond (.t 212) (.seq (.kill [214,215,216,217,218,219,220,221,222] (.draws 11 c31_r37)) .ret) .skip))))))))))))))))))))))))))))))) (.seq (.kill [223] (.region c31_r38)) .ret)))),[.tmp 2,.cell 3 (.many 12)]⟩
def c33_r0 : List COper := [⟨some 2,.box (.t 0),none⟩,
 ⟨some 3,.move (.c (.bool false)),none⟩]
def c33_r1 : List COper := [⟨some 4,.fieldAddr 1 (.t 2),none⟩,
 ⟨some 5,.load .one (.t 4),none⟩,
 ⟨some 6,.load .one (.t 1),none⟩,
 ⟨some 7,.eq .scalar false (.t 5) (.t 6),none⟩,
 ⟨some 3,.move (.t 7),none⟩]
def c33 : CFunc := ⟨8,(.seq (.region c33_r0) (.seq (.kill [4,5,6,7] (.region c33_r1)) .ret)),[.tmp 3]⟩
def c34_r0 : List COper := [⟨some 2,.move (.t 0),none⟩,
 ⟨some 3,.nilCheck (.t 2),none⟩,
 ⟨some 4,.fieldAddr 0 (.t 3),none⟩,
 ⟨some 5,.load .one (.t 4),none⟩,
 ⟨some 6,.len (.t 5),none⟩,
 ⟨some 7,.eq .scalar false (.t 6) (.c (.int .i64 0)),none⟩,
 ⟨some 8,.call (.f 28) [(.t 7),(.c (.int .i64 250))],none⟩]
def c34 : CFunc := ⟨9,(.region c34_r0),[]⟩
def c35_r0 : List COper := [⟨some 2,.move (.c .nils),none⟩]
def c35_r1 : List COper := [⟨some 3,.move (.c .nils),none⟩]
def c35_r2 : List COper := [⟨some 4,.move (.c (.int .i64 0)),none⟩]
def c35_r3 : List COper := [⟨some 5,.move (.c (.int .i64 0)),none⟩]
def c35_r4 : List COper := [⟨some 6,.move (.t 5),none⟩,
 ⟨some 7,.move (.t 0),none⟩,
 ⟨some 8,.lenStr (.t 7),none⟩,
 ⟨some 9,.arith .leq (.t 6) (.t 8),none⟩]
def c35_r5 : List COper := [⟨some 12,.move (.t 5),none⟩,
 ⟨some 13,.move (.t 0),none⟩,
 ⟨some 14,.lenStr (.t 13),none⟩,
 ⟨some 15,.eq .scalar false (.t 12) (.t 14),none⟩,
 ⟨some 16,.move (.t 15),none⟩,
 ⟨some 17,.move (.t 0),some (16,false)⟩,
 ⟨some 18,.move (.t 5),some (16,false)⟩,
 ⟨some 19,.idxStr (.t 17) (.t 18),some (16,false)⟩,
 ⟨some 20,.eq .scalar false (.t 19) (.c (.int .u8 32)),some (16,false)⟩,
 ⟨some 21,.pick (.t 16) (.c (.bool true)) (.t 20),none⟩]
def c35_r6 : List COper := [⟨some 22,.move (.t 3),none⟩,
 ⟨some 23,.move (.t 0),none⟩,
 ⟨some 24,.move (.t 4),none⟩,
 ⟨some 25,.move (.t 5),none⟩,
 ⟨some 26,.sliceStr (.t 23) (some (.t 24)) (some (.t 25)),none⟩,
 ⟨some 27,.buildSlice [(.str [])] 1 [(0,1,(.t 26))],none⟩,
 ⟨some 28,.append 1 16 (.t 22) (.t 27),none⟩,
 ⟨some 3,.move (.t 28),none⟩]
def c35_r7 : List COper := [⟨some 29,.move (.t 5),none⟩,
 ⟨some 30,.arith .add (.t 29) (.c (.int .i64 1)),none⟩,
 ⟨some 4,.move (.t 30),none⟩]
def c35_r8 : List COper := [⟨some 10,.move (.t 5),none⟩,
 ⟨some 11,.arith .add (.t 10) (.c (.int .i64 1)),none⟩,
 ⟨some 5,.move (.t 11),none⟩]
def c35_l0 : CCode :=
  (.kill [6,7,8,9,12,13,14,15,16,17,18,19,20,21,22,23,24,25,26,27,28,29,30,10,11] (.seq (.kill [6,7,8,9] (.seq (.kill [6,7,8] (.region c35_r4)) (.cond (.t 9) .skip (.exit 0)))) (.seq (.kill [12,13,14,15,16,17,18,19,20,21,22,23,24,25,26,27,28,29,30] (.block 1 (.seq (.kill [12,13,14,15,16,17,18,19,20] (.region c35_r5)) (.cond (.t 21) (.seq (.kill [22,23,24,25,26,27,28] (.region c35_r6)) (.region c35_r7)) .skip)))) (.region c35_r8))))
def c35_r9 : List COper := [⟨some 31,.move (.t 3),none⟩,
 ⟨some 2,.move (.t 31),none⟩]
def c35 : CFunc := ⟨32,(.seq (.region c35_r0) (.seq (.region c35_r1) (.seq (.region c35_r2) (.seq (.kill [5,6,7,8,9,12,13,14,15,16,17,18,19,20,21,22,23,24,25,26,27,28,29,30,10,11] (.seq (.kill [6,7,8,9,12,13,14,15,16,17,18,19,20,21,22,23,24,25,26,27,28,29,30,10,11] (.region c35_r3)) (.block 0 (.loop c35_l0)))) (.seq (.kill [31] (.region c35_r9)) .ret))))),[.tmp 2]⟩
def c36_r0 : List COper := [⟨some 2,.move (.c (.int .i64 0)),none⟩]
def c36_r1 : List COper := [⟨some 5,.buildSlice [(.str []),(.str []),(.str []),(.str []),(.str []),(.str []),(.str []),(.str []),(.str []),(.str []),(.str []),(.str []),(.str []),(.str [])] 14 [(0,1,(.c (.str [111,112,101,110]))),(1,1,(.c (.str [115,101,110,100]))),(2,1,(.c (.str [114,101,99,101,105,118,101]))),(3,1,(.c (.str [115,104,117,116,100,111,119,110]))),(4,1,(.c (.str [97,98,111,114,116]))),(5,1,(.c (.str [116,105,99,107]))),(6,1,(.c (.str [99,108,111,99,107]))),(7,1,(.c (.str [100,101,108,105,118,101,114]))),(8,1,(.c (.str [100,114,111,112]))),(9,1,(.c (.str [116,119,105,99,101]))),(10,1,(.c (.str [115,112,111,105,108]))),(11,1,(.c (.str [102,111,114,103,101]))),(12,1,(.c (.str [100,111,119,110]))),(13,1,(.c (.str [117,112])))],none⟩,
 ⟨some 3,.move (.t 5),none⟩]
def c36_r2 : List COper := [⟨some 4,.move (.c (.int .i64 0)),none⟩]
def c36_r3 : List COper := [⟨some 6,.move (.t 4),none⟩,
 ⟨some 7,.move (.t 3),none⟩,
 ⟨some 8,.len (.t 7),none⟩,
 ⟨some 9,.arith .lss (.t 6) (.t 8),none⟩]
def c36_r4 : List COper := [⟨some 12,.move (.t 3),none⟩,
 ⟨some 13,.move (.t 4),none⟩,
 ⟨some 14,.indexSl 1 (.t 12) (.t 13),none⟩,
 ⟨some 15,.load .one (.t 14),none⟩,
 ⟨some 16,.move (.t 0),none⟩,
 ⟨some 17,.eq .scalar false (.t 15) (.t 16),none⟩]
def c36_r5 : List COper := [⟨some 18,.move (.t 4),none⟩,
 ⟨some 19,.arith .add (.t 18) (.c (.int .i64 1)),none⟩,
 ⟨some 2,.move (.t 19),none⟩]
def c36_r6 : List COper := [⟨some 10,.move (.t 4),none⟩,
 ⟨some 11,.arith .add (.t 10) (.c (.int .i64 1)),none⟩,
 ⟨some 4,.move (.t 11),none⟩]
def c36_l0 : CCode :=
  (.kill [6,7,8,9,12,13,14,15,16,17,18,19,10,11] (.seq (.kill [6,7,8,9] (.seq (.kill [6,7,8] (.region c36_r3)) (.cond (.t 9) .skip (.exit 0)))) (.seq (.kill [12,13,14,15,16,17,18,19] (.block 1 (.seq (.kill [12,13,14,15,16] (.region c36_r4)) (.cond (.t 17) (.seq (.kill [18,19] (.region c36_r5)) .ret) .skip)))) (.region c36_r6))))
def c36_r7 : List COper := [⟨some 2,.move (.c (.int .i64 0)),none⟩]
def c36 : CFunc := ⟨20,(.seq (.region c36_r0) (.seq (.kill [5] (.region c36_r1)) (.seq (.kill [4,6,7,8,9,12,13,14,15,16,17,18,19,10,11] (.seq (.kill [6,7,8,9,12,13,14,15,16,17,18,19,10,11] (.region c36_r2)) (.block 0 (.loop c36_l0)))) (.seq (.region c36_r7) .ret)))),[.tmp 2]⟩
def c37_r0 : List COper := [⟨some 2,.move (.c (.int .u64 0)),none⟩]
def c37_r1 : List COper := [⟨some 3,.move (.c (.int .u64 0)),none⟩]
def c37_r2 : List COper := [⟨some 4,.move (.c (.int .i64 0)),none⟩]
def c37_r3 : List COper := [⟨some 5,.move (.t 4),none⟩,
 ⟨some 6,.move (.t 0),none⟩,
 ⟨some 7,.lenStr (.t 6),none⟩,
 ⟨some 8,.arith .lss (.t 5) (.t 7),none⟩,
 ⟨some 9,.move (.t 8),none⟩,
 ⟨some 10,.move (.t 4),some (9,true)⟩,
 ⟨some 11,.arith .lss (.t 10) (.c (.int .i64 20)),some (9,true)⟩,
 ⟨some 12,.pick (.t 9) (.t 11) (.c (.bool false)),none⟩]
def c37_r4 : List COper := [⟨some 15,.move (.t 3),none⟩,
 ⟨some 16,.arith .mul (.t 15) (.c (.int .u64 10)),none⟩,
 ⟨some 17,.move (.t 0),none⟩,
 ⟨some 18,.move (.t 4),none⟩,
 ⟨some 19,.idxStr (.t 17) (.t 18),none⟩,
 ⟨some 20,.arith .sub (.t 19) (.c (.int .u8 48)),none⟩,
 ⟨some 21,.conv .u64 (.t 20),none⟩,
 ⟨some 22,.arith .rem (.t 21) (.c (.int .u64 10)),none⟩,
 ⟨some 23,.arith .add (.t 16) (.t 22),none⟩,
 ⟨some 3,.move (.t 23),none⟩]
def c37_r5 : List COper := [⟨some 13,.move (.t 4),none⟩,
 ⟨some 14,.arith .add (.t 13) (.c (.int .i64 1)),none⟩,
 ⟨some 4,.move (.t 14),none⟩]
def c37_l0 : CCode :=
  (.kill [5,6,7,8,9,10,11,12,15,16,17,18,19,20,21,22,23,13,14] (.seq (.kill [5,6,7,8,9,10,11,12] (.seq (.kill [5,6,7,8,9,10,11] (.region c37_r3)) (.cond (.t 12) .skip (.exit 0)))) (.seq (.kill [15,16,17,18,19,20,21,22,23] (.block 1 (.region c37_r4))) (.region c37_r5))))
def c37_r6 : List COper := [⟨some 24,.move (.t 3),none⟩,
 ⟨some 2,.move (.t 24),none⟩]
def c37 : CFunc := ⟨25,(.seq (.region c37_r0) (.seq (.region c37_r1) (.seq (.kill [4,5,6,7,8,9,10,11,12,15,16,17,18,19,20,21,22,23,13,14] (.seq (.kill [5,6,7,8,9,10,11,12,15,16,17,18,19,20,21,22,23,13,14] (.region c37_r2)) (.block 0 (.loop c37_l0)))) (.seq (.kill [24] (.region c37_r6)) .ret)))),[.tmp 2]⟩
def c38_r0 : List COper := [⟨some 2,.move (.c .nils),none⟩]
def c38_r1 : List COper := [⟨some 3,.move (.c .nils),none⟩]
def c38_r2 : List COper := [⟨some 4,.move (.c (.int .i64 0)),none⟩]
def c38_r3 : List COper := [⟨some 5,.move (.t 4),none⟩,
 ⟨some 6,.arith .add (.t 5) (.c (.int .i64 1)),none⟩,
 ⟨some 7,.move (.t 0),none⟩,
 ⟨some 8,.lenStr (.t 7),none⟩,
 ⟨some 9,.arith .lss (.t 6) (.t 8),none⟩]
def c38_r4 : List DItem := [⟨0,⟨some 12,.move (.t 3),none⟩,.quiet,[],false⟩,
 ⟨1,⟨some 13,.move (.t 0),none⟩,.quiet,[],false⟩,
 ⟨2,⟨some 14,.move (.t 4),none⟩,.quiet,[],false⟩,
 ⟨3,⟨some 15,.idxStr (.t 13) (.t 14),none⟩,.quiet,[1,2],false⟩,
 ⟨6,⟨some 18,.move (.t 0),none⟩,.quiet,[],false⟩,
 ⟨7,⟨some 19,.move (.t 4),none⟩,.quiet,[],false⟩,
 ⟨8,⟨some 20,.arith .add (.t 19) (.c (.int .i64 1)),none⟩,.quiet,[7],false⟩,
 ⟨9,⟨some 21,.idxStr (.t 18) (.t 20),none⟩,.quiet,[6,8,7],false⟩,
 ⟨4,⟨some 16,.call (.f 56) [(.t 15)],none⟩,.eff,[3,1,2],true⟩,
 ⟨5,⟨some 17,.arith .mul (.t 16) (.c (.int .i64 16)),none⟩,.quiet,[4,3,1,2],false⟩,
 ⟨10,⟨some 22,.call (.f 56) [(.t 21)],none⟩,.eff,[9,4,6,8,7,3,1,2],true⟩,
 ⟨11,⟨some 23,.arith .add (.t 17) (.t 22),none⟩,.quiet,[5,10,4,3,1,2,9,6,8,7],false⟩,
 ⟨12,⟨some 24,.conv .u8 (.t 23),none⟩,.quiet,[11,5,10,4,3,1,2,9,6,8,7],false⟩,
 ⟨13,⟨some 25,.buildSlice [(.int .u8 0)] 1 [(0,1,(.t 24))],none⟩,.new,[12,11,5,10,4,3,1,2,9,6,8,7],false⟩,
 ⟨14,⟨some 26,.append 1 1 (.t 12) (.t 25),none⟩,.eff,[0,13,10,12,11,5,4,3,1,2,9,6,8,7],true⟩,
 ⟨15,⟨some 3,.move (.t 26),none⟩,.quiet,[14,0,1,2,3,4,5,6,7,8,9,10,11,12,13],false⟩]
def c38_r5 : List COper := [⟨some 10,.move (.t 4),none⟩,
 ⟨some 11,.arith .add (.t 10) (.c (.int .i64 2)),none⟩,
 ⟨some 4,.move (.t 11),none⟩]
def c38_l0 : CCode :=
  (.kill [5,6,7,8,9,12,13,14,15,16,17,18,19,20,21,22,23,24,25,26,10,11] (.seq (.kill [5,6,7,8,9] (.seq (.kill [5,6,7,8] (.region c38_r3)) (.cond (.t 9) .skip (.exit 0)))) (.seq (.kill [12,13,14,15,16,17,18,19,20,21,22,23,24,25,26] (.block 1 (.draws 16 c38_r4))) (.region c38_r5))))
def c38_r6 : List COper := [⟨some 27,.move (.t 3),none⟩,
 ⟨some 2,.move (.t 27),none⟩]
def c38 : CFunc := ⟨28,(.seq (.region c38_r0) (.seq (.region c38_r1) (.seq (.kill [4,5,6,7,8,9,12,13,14,15,16,17,18,19,20,21,22,23,24,25,26,10,11] (.seq (.kill [5,6,7,8,9,12,13,14,15,16,17,18,19,20,21,22,23,24,25,26,10,11] (.region c38_r2)) (.block 0 (.loop c38_l0)))) (.seq (.kill [27] (.region c38_r6)) .ret)))),[.tmp 2]⟩
def c39_r0 : List COper := [⟨some 5,.move (.t 0),none⟩,
 ⟨some 6,.call (.f 50) [(.t 5),(.c (.str [99,111,110,102]))],none⟩]
def c39_r1 : List COper := [⟨some 7,.move (.t 0),none⟩,
 ⟨some 8,.call (.f 50) [(.t 7),(.c (.str [115,101,101,100]))],none⟩]
def c39_r2 : List COper := [⟨some 9,.move (.t 0),none⟩,
 ⟨some 10,.move (.t 1),none⟩,
 ⟨some 11,.nilCheck (.t 10),none⟩,
 ⟨some 12,.fieldAddr 0 (.t 11),none⟩,
 ⟨some 13,.fieldAddr 16 (.t 12),none⟩,
 ⟨some 14,.call (.f 57) [(.t 9),(.t 13),(.c (.int .u64 18446744073709551615))],none⟩]
def c39_r3 : List COper := [⟨some 15,.move (.t 0),none⟩,
 ⟨some 16,.call (.f 50) [(.t 15),(.c (.str [107,101,121]))],none⟩]
def c39_r4 : List COper := [⟨some 17,.move (.t 0),none⟩,
 ⟨some 18,.move (.t 1),none⟩,
 ⟨some 19,.nilCheck (.t 18),none⟩,
 ⟨some 20,.fieldAddr 0 (.t 19),none⟩,
 ⟨some 21,.fieldAddr 0 (.t 20),none⟩,
 ⟨some 22,.sliceArr 16 1 (.t 21) none none,none⟩,
 ⟨some 23,.call (.f 58) [(.t 17),(.t 22)],none⟩,
 ⟨some 4,.move (.t 23),none⟩]
def c39_r5 : List COper := [⟨some 24,.move (.t 4),none⟩,
 ⟨some 25,.len (.t 24),none⟩,
 ⟨some 26,.eq .scalar false (.t 25) (.c (.int .i64 16)),none⟩,
 ⟨some 27,.call (.f 28) [(.t 26),(.c (.int .i64 250))],none⟩]
def c39_r6 : List COper := [⟨some 28,.move (.t 1),none⟩,
 ⟨some 29,.nilCheck (.t 28),none⟩,
 ⟨some 30,.fieldAddr 0 (.t 29),none⟩,
 ⟨some 31,.fieldAddr 0 (.t 30),none⟩,
 ⟨some 32,.sliceArr 16 1 (.t 31) none none,none⟩,
 ⟨some 33,.move (.t 4),none⟩,
 ⟨some 34,.copy 1 (.t 32) (.t 33),none⟩]
def c39_r7 : List COper := [⟨some 35,.move (.t 0),none⟩,
 ⟨some 36,.buildSlice [(.str [])] 1 [(0,1,(.c (.str [108,105,102,101])))],none⟩,
 ⟨some 37,.move (.t 1),none⟩,
 ⟨some 38,.nilCheck (.t 37),none⟩,
 ⟨some 39,.fieldAddr 0 (.t 38),none⟩,
 ⟨some 40,.fieldAddr 17 (.t 39),none⟩,
 ⟨some 41,.buildSlice [.nilp] 1 [(0,1,(.t 40))],none⟩,
 ⟨some 42,.call (.f 59) [(.t 35),(.t 36),(.t 41)],none⟩]
def c39_r8 : List COper := [⟨some 43,.move (.t 0),none⟩,
 ⟨some 44,.call (.f 50) [(.t 43),(.c (.str [119,105,110,100,111,119]))],none⟩]
def c39_r9 : List COper := [⟨some 45,.move (.t 0),none⟩,
 ⟨some 46,.move (.t 1),none⟩,
 ⟨some 47,.nilCheck (.t 46),none⟩,
 ⟨some 48,.fieldAddr 0 (.t 47),none⟩,
 ⟨some 49,.fieldAddr 18 (.t 48),none⟩,
 ⟨some 50,.call (.f 60) [(.t 45),(.t 49)],none⟩]
def c39_r10 : List COper := [⟨some 51,.move (.t 0),none⟩,
 ⟨some 52,.call (.f 50) [(.t 51),(.c (.str [111,117,116]))],none⟩]
def c39_r11 : List COper := [⟨some 53,.move (.t 0),none⟩,
 ⟨some 54,.move (.t 1),none⟩,
 ⟨some 55,.nilCheck (.t 54),none⟩,
 ⟨some 56,.fieldAddr 0 (.t 55),none⟩,
 ⟨some 57,.fieldAddr 19 (.t 56),none⟩,
 ⟨some 58,.call (.f 61) [(.t 53),(.t 57)],none⟩]
def c39_r12 : List COper := [⟨some 59,.move (.t 0),none⟩,
 ⟨some 60,.call (.f 50) [(.t 59),(.c (.str [105,110]))],none⟩]
def c39_r13 : List COper := [⟨some 61,.move (.t 0),none⟩,
 ⟨some 62,.move (.t 1),none⟩,
 ⟨some 63,.nilCheck (.t 62),none⟩,
 ⟨some 64,.fieldAddr 0 (.t 63),none⟩,
 ⟨some 65,.fieldAddr 20 (.t 64),none⟩,
 ⟨some 66,.call (.f 61) [(.t 61),(.t 65)],none⟩]
def c39_r14 : List DItem := [⟨0,⟨some 67,.move (.t 0),none⟩,.quiet,[],false⟩,
 ⟨1,⟨some 68,.buildSlice [(.str []),(.str [])] 2 [(0,1,(.c (.str [116,114,105,101,115]))),(1,1,(.c (.str [108,97,115,116,115])))],none⟩,.new,[],false⟩,
 ⟨2,⟨some 69,.move (.t 1),none⟩,.quiet,[],false⟩,
 ⟨3,⟨some 70,.nilCheck (.t 69),none⟩,.quiet,[2],false⟩,
 ⟨4,⟨some 71,.fieldAddr 0 (.t 70),none⟩,.quiet,[3,2],false⟩,
 ⟨5,⟨some 72,.fieldAddr 21 (.t 71),none⟩,.quiet,[4,3,2],false⟩,
 ⟨6,⟨some 73,.move (.t 1),none⟩,.quiet,[],false⟩,
 ⟨7,⟨some 74,.nilCheck (.t 73),none⟩,.quiet,[6],false⟩,
 ⟨8,⟨some 75,.fieldAddr 0 (.t 74),none⟩,.quiet,[7,6],false⟩,
 ⟨9,⟨some 76,.fieldAddr 22 (.t 75),none⟩,.quiet,[8,7,6],false⟩,
 ⟨10,⟨some 77,.buildSlice [.nilp,.nilp] 2 [(0,1,(.t 72)),(1,1,(.t 76))],none⟩,.new,[5,9,4,3,2,8,7,6],false⟩,
 ⟨11,⟨some 78,.call (.f 59) [(.t 67),(.t 68),(.t 77)],none⟩,.eff,[0,1,10,5,9,4,3,2,8,7,6],true⟩]
def c39_r15 : List COper := [⟨some 79,.move (.t 0),none⟩,
 ⟨some 80,.call (.f 50) [(.t 79),(.c (.str [112,111,114,116]))],none⟩]
def c39_r16 : List COper := [⟨some 81,.move (.t 0),none⟩,
 ⟨some 82,.move (.t 1),none⟩,
 ⟨some 83,.nilCheck (.t 82),none⟩,
 ⟨some 84,.fieldAddr 0 (.t 83),none⟩,
 ⟨some 85,.fieldAddr 23 (.t 84),none⟩,
 ⟨some 86,.call (.f 61) [(.t 81),(.t 85)],none⟩]
def c39_r17 : List COper := [⟨some 87,.move (.t 0),none⟩,
 ⟨some 88,.call (.f 50) [(.t 87),(.c (.str [112,101,101,114]))],none⟩]
def c39_r18 : List COper := [⟨some 89,.move (.t 0),none⟩,
 ⟨some 90,.move (.t 1),none⟩,
 ⟨some 91,.nilCheck (.t 90),none⟩,
 ⟨some 92,.fieldAddr 0 (.t 91),none⟩,
 ⟨some 93,.fieldAddr 24 (.t 92),none⟩,
 ⟨some 94,.call (.f 61) [(.t 89),(.t 93)],none⟩]
def c39_r19 : List DItem := [⟨0,⟨some 95,.move (.t 0),none⟩,.quiet,[],false⟩,
 ⟨1,⟨some 96,.buildSlice [(.str []),(.str []),(.str []),(.str []),(.str []),(.str [])] 6 [(0,1,(.c (.str [112,97,116,104,115]))),(1,1,(.c (.str [109,116,117]))),(2,1,(.c (.str [98,117,102,102,101,114]))),(3,1,(.c (.str [105,110,105,116]))),(4,1,(.c (.str [109,105,110]))),(5,1,(.c (.str [109,97,120])))],none⟩,.new,[],false⟩,
 ⟨2,⟨some 97,.move (.t 1),none⟩,.quiet,[],false⟩,
 ⟨3,⟨some 98,.nilCheck (.t 97),none⟩,.quiet,[2],false⟩,
 ⟨4,⟨some 99,.fieldAddr 25 (.t 98),none⟩,.quiet,[3,2],false⟩,
 ⟨5,⟨some 100,.move (.t 1),none⟩,.quiet,[],false⟩,
 ⟨6,⟨some 101,.nilCheck (.t 100),none⟩,.quiet,[5],false⟩,
 ⟨7,⟨some 102,.fieldAddr 26 (.t 101),none⟩,.quiet,[6,5],false⟩,
 ⟨8,⟨some 103,.move (.t 1),none⟩,.quiet,[],false⟩,
 ⟨9,⟨some 104,.nilCheck (.t 103),none⟩,.quiet,[8],false⟩,
 ⟨10,⟨some 105,.fieldAddr 27 (.t 104),none⟩,.quiet,[9,8],false⟩,
 ⟨11,⟨some 106,.move (.t 1),none⟩,.quiet,[],false⟩,
 ⟨12,⟨some 107,.nilCheck (.t 106),none⟩,.quiet,[11],false⟩,
 ⟨13,⟨some 108,.fieldAddr 28 (.t 107),none⟩,.quiet,[12,11],false⟩,
 ⟨14,⟨some 109,.fieldAddr 0 (.t 108),none⟩,.quiet,[13,12,11],false⟩,
 ⟨15,⟨some 110,.move (.t 1),none⟩,.quiet,[],false⟩,
 ⟨16,⟨some 111,.nilCheck (.t 110),none⟩,.quiet,[15],false⟩,
 ⟨17,⟨some 112,.fieldAddr 28 (.t 111),none⟩,.quiet,[16,15],false⟩,
 ⟨18,⟨some 113,.fieldAddr 1 (.t 112),none⟩,.quiet,[17,16,15],false⟩,
 ⟨19,⟨some 114,.move (.t 1),none⟩,.quiet,[],false⟩,
 ⟨20,⟨some 115,.nilCheck (.t 114),none⟩,.quiet,[19],false⟩,
 ⟨21,⟨some 116,.fieldAddr 28 (.t 115),none⟩,.quiet,[20,19],false⟩,
 ⟨22,⟨some 117,.fieldAddr 2 (.t 116),none⟩,.quiet,[21,20,19],false⟩,
 ⟨23,⟨some 118,.buildSlice [.nilp,.nilp,.nilp,.nilp,.nilp,.nilp] 6 [(0,1,(.t 99)),(1,1,(.t 102)),(2,1,(.t 105)),(3,1,(.t 109)),(4,1,(.t 113)),(5,1,(.t 117))],none⟩,.new,[4,7,10,14,18,22,3,2,6,5,9,8,13,12,11,17,16,15,21,20,19],false⟩,
 ⟨24,⟨some 119,.call (.f 59) [(.t 95),(.t 96),(.t 118)],none⟩,.eff,[0,1,23,4,7,10,14,18,22,3,2,6,5,9,8,13,12,11,17,16,15,21,20,19],true⟩]
def c39_r20 : List DItem := [⟨0,⟨some 120,.move (.t 0),none⟩,.quiet,[],false⟩,
 ⟨1,⟨some 121,.buildSlice [(.str []),(.str []),(.str [])] 3 [(0,1,(.c (.str [101,114,114,111,114,115]))),(1,1,(.c (.str [102,97,105,108]))),(2,1,(.c (.str [112,97,117,115,101])))],none⟩,.new,[],false⟩,
 ⟨2,⟨some 122,.move (.t 1),none⟩,.quiet,[],false⟩,
 ⟨3,⟨some 123,.nilCheck (.t 122),none⟩,.quiet,[2],false⟩,
 ⟨4,⟨some 124,.fieldAddr 31 (.t 123),none⟩,.quiet,[3,2],false⟩,
 ⟨5,⟨some 125,.fieldAddr 0 (.t 124),none⟩,.quiet,[4,3,2],false⟩,
 ⟨6,⟨some 126,.move (.t 1),none⟩,.quiet,[],false⟩,
 ⟨7,⟨some 127,.nilCheck (.t 126),none⟩,.quiet,[6],false⟩,
 ⟨8,⟨some 128,.fieldAddr 31 (.t 127),none⟩,.quiet,[7,6],false⟩,
 ⟨9,⟨some 129,.fieldAddr 1 (.t 128),none⟩,.quiet,[8,7,6],false⟩,
 ⟨10,⟨some 130,.move (.t 1),none⟩,.quiet,[],false⟩,
 ⟨11,⟨some 131,.nilCheck (.t 130),none⟩,.quiet,[10],false⟩,
 ⟨12,⟨some 132,.fieldAddr 31 (.t 131),none⟩,.quiet,[11,10],false⟩,
 ⟨13,⟨some 133,.fieldAddr 2 (.t 132),none⟩,.quiet,[12,11,10],false⟩,
 ⟨14,⟨some 134,.buildSlice [.nilp,.nilp,.nilp] 3 [(0,1,(.t 125)),(1,1,(.t 129)),(2,1,(.t 133))],none⟩,.new,[5,9,13,4,3,2,8,7,6,12,11,10],false⟩,
 ⟨15,⟨some 135,.call (.f 59) [(.t 120),(.t 121),(.t 134)],none⟩,.eff,[0,1,14,5,9,13,4,3,2,8,7,6,12,11,10],true⟩]
def c39_r21 : List DItem := [⟨0,⟨some 136,.move (.t 0),none⟩,.quiet,[],false⟩,
 ⟨1,⟨some 137,.buildSlice [(.str []),(.str []),(.str []),(.str [])] 4 [(0,1,(.c (.str [109,111,115,116]))),(1,1,(.c (.str [100,101,108,97,121]))),(2,1,(.c (.str [115,99,104,101,100]))),(3,1,(.c (.str [99,97,112])))],none⟩,.new,[],false⟩,
 ⟨2,⟨some 138,.move (.t 1),none⟩,.quiet,[],false⟩,
 ⟨3,⟨some 139,.nilCheck (.t 138),none⟩,.quiet,[2],false⟩,
 ⟨4,⟨some 140,.fieldAddr 34 (.t 139),none⟩,.quiet,[3,2],false⟩,
 ⟨5,⟨some 141,.move (.t 1),none⟩,.quiet,[],false⟩,
 ⟨6,⟨some 142,.nilCheck (.t 141),none⟩,.quiet,[5],false⟩,
 ⟨7,⟨some 143,.fieldAddr 35 (.t 142),none⟩,.quiet,[6,5],false⟩,
 ⟨8,⟨some 144,.move (.t 1),none⟩,.quiet,[],false⟩,
 ⟨9,⟨some 145,.nilCheck (.t 144),none⟩,.quiet,[8],false⟩,
 ⟨10,⟨some 146,.fieldAddr 36 (.t 145),none⟩,.quiet,[9,8],false⟩,
 ⟨11,⟨some 147,.move (.t 1),none⟩,.quiet,[],false⟩,
 ⟨12,⟨some 148,.nilCheck (.t 147),none⟩,.quiet,[11],false⟩,
 ⟨13,⟨some 149,.fieldAddr 37 (.t 148),none⟩,.quiet,[12,11],false⟩,
 ⟨14,⟨some 150,.buildSlice [.nilp,.nilp,.nilp,.nilp] 4 [(0,1,(.t 140)),(1,1,(.t 143)),(2,1,(.t 146)),(3,1,(.t 149))],none⟩,.new,[4,7,10,13,3,2,6,5,9,8,12,11],false⟩,
 ⟨15,⟨some 151,.call (.f 59) [(.t 136),(.t 137),(.t 150)],none⟩,.eff,[0,1,14,4,7,10,13,3,2,6,5,9,8,12,11],true⟩]
def c39_r22 : List COper := [⟨some 152,.move (.t 0),none⟩,
 ⟨some 153,.call (.f 50) [(.t 152),(.c (.str [115,112,108,105,116]))],none⟩]
def c39_r23 : List COper := [⟨some 154,.move (.t 0),none⟩,
 ⟨some 155,.move (.t 1),none⟩,
 ⟨some 156,.nilCheck (.t 155),none⟩,
 ⟨some 157,.fieldAddr 38 (.t 156),none⟩,
 ⟨some 158,.call (.f 62) [(.t 154),(.t 157),(.c (.str [48])),(.c (.str [49]))],none⟩]
def c39_r24 : List COper := [⟨some 159,.move (.t 0),none⟩,
 ⟨some 160,.call (.f 50) [(.t 159),(.c (.str [110,114]))],none⟩]
def c39_r25 : List COper := [⟨some 161,.move (.t 0),none⟩,
 ⟨some 162,.move (.t 1),none⟩,
 ⟨some 163,.nilCheck (.t 162),none⟩,
 ⟨some 164,.fieldAddr 39 (.t 163),none⟩,
 ⟨some 165,.call (.f 62) [(.t 161),(.t 164),(.c (.str [48])),(.c (.str [49]))],none⟩]
def c39_r26 : List COper := [⟨some 166,.move (.t 0),none⟩,
 ⟨some 167,.call (.f 50) [(.t 166),(.c (.str [99,111,117,112,108,101]))],none⟩]
def c39_r27 : List COper := [⟨some 168,.move (.t 0),none⟩,
 ⟨some 169,.move (.t 1),none⟩,
 ⟨some 170,.nilCheck (.t 169),none⟩,
 ⟨some 171,.fieldAddr 40 (.t 170),none⟩,
 ⟨some 172,.call (.f 62) [(.t 168),(.t 171),(.c (.str [48])),(.c (.str [49]))],none⟩]
def c39 : CFunc := ⟨173,(.seq (.kill [5,6] (.region c39_r0)) (.seq (.kill [7,8] (.region c39_r1)) (.seq (.kill [9,10,11,12,13,14] (.region c39_r2)) (.seq (.kill [15,16] (.region c39_r3)) (.seq (.kill [17,18,19,20,21,22,23] (.region c39_r4)) (.seq (.kill [24,25,26,27] (.region c39_r5)) (.seq (.kill [28,29,30,31,32,33,34] (.region c39_r6)) (.seq (.kill [35,36,37,38,39,40,41,42] (.region c39_r7)) (.seq (.kill [43,44] (.region c39_r8)) (.seq (.kill [45,46,47,48,49,50] (.region c39_r9)) (.seq (.kill [51,52] (.region c39_r10)) (.seq (.kill [53,54,55,56,57,58] (.region c39_r11)) (.seq (.kill [59,60] (.region c39_r12)) (.seq (.kill [61,62,63,64,65,66] (.region c39_r13)) (.seq (.kill [67,68,69,70,71,72,73,74,75,76,77,78] (.draws 12 c39_r14)) (.seq (.kill [79,80] (.region c39_r15)) (.seq (.kill [81,82,83,84,85,86] (.region c39_r16)) (.seq (.kill [87,88] (.region c39_r17)) (.seq (.kill [89,90,91,92,93,94] (.region c39_r18)) (.seq (.kill [95,96,97,98,99,100,101,102,103,104,105,106,107,108,109,110,111,112,113,114,115,116,117,118,119] (.draws 25 c39_r19)) (.seq (.kill [120,121,122,123,124,125,126,127,128,129,130,131,132,133,134,135] (.draws 16 c39_r20)) (.seq (.kill [136,137,138,139,140,141,142,143,144,145,146,147,148,149,150,151] (.draws 16 c39_r21)) (.seq (.kill [152,153] (.region c39_r22)) (.seq (.kill [154,155,156,157,158] (.region c39_r23)) (.seq (.kill [159,160] (.region c39_r24)) (.seq (.kill [161,162,163,164,165] (.region c39_r25)) (.seq (.kill [166,167] (.region c39_r26)) (.region c39_r27)))))))))))))))))))))))))))),[]⟩
def c41_r0 : List COper := [⟨some 2,.move (.c (.str [])),none⟩]
def c41_r1 : List COper := [⟨some 5,.move (.t 0),none⟩,
 ⟨some 6,.len (.t 5),none⟩,
 ⟨some 7,.eq .scalar false (.t 6) (.c (.int .i64 0)),none⟩]
def c41_r2 : List COper := [⟨some 2,.move (.c (.str [45])),none⟩]
def c41_r3 : List COper := [⟨some 3,.move (.c .nils),none⟩]
def c41_r4 : List COper := [⟨some 4,.move (.c (.int .i64 0)),none⟩]
def c41_r5 : List COper := [⟨some 8,.move (.t 4),none⟩,
 ⟨some 9,.move (.t 0),none⟩,
 ⟨some 10,.len (.t 9),none⟩,
 ⟨some 11,.arith .lss (.t 8) (.t 10),none⟩]
def c41_r6 : List DItem := [⟨0,⟨some 14,.move (.t 3),none⟩,.quiet,[],false⟩,
 ⟨1,⟨some 15,.move (.t 0),none⟩,.quiet,[],false⟩,
 ⟨2,⟨some 16,.move (.t 4),none⟩,.quiet,[],false⟩,
 ⟨3,⟨some 17,.indexSl 1 (.t 15) (.t 16),none⟩,.quiet,[1,2],false⟩,
 ⟨4,⟨some 18,.load .one (.t 17),none⟩,.read,[3,1,2],false⟩,
 ⟨5,⟨some 19,.arith .quo (.t 18) (.c (.int .u8 16)),none⟩,.quiet,[4,3,1,2],false⟩,
 ⟨6,⟨some 20,.idxStr (.c (.str [48,49,50,51,52,53,54,55,56,57,97,98,99,100,101,102])) (.t 19),none⟩,.quiet,[5,4,3,1,2],false⟩,
 ⟨7,⟨some 21,.move (.t 0),none⟩,.quiet,[],false⟩,
 ⟨8,⟨some 22,.move (.t 4),none⟩,.quiet,[],false⟩,
 ⟨9,⟨some 23,.indexSl 1 (.t 21) (.t 22),none⟩,.quiet,[7,8],false⟩,
 ⟨10,⟨some 24,.load .one (.t 23),none⟩,.read,[9,7,8],false⟩,
 ⟨11,⟨some 25,.arith .rem (.t 24) (.c (.int .u8 16)),none⟩,.quiet,[10,9,7,8],false⟩,
 ⟨12,⟨some 26,.idxStr (.c (.str [48,49,50,51,52,53,54,55,56,57,97,98,99,100,101,102])) (.t 25),none⟩,.quiet,[11,10,9,7,8],false⟩,
 ⟨13,⟨some 27,.buildSlice [(.int .u8 0),(.int .u8 0)] 2 [(0,1,(.t 20)),(1,1,(.t 26))],none⟩,.new,[6,12,5,4,3,1,2,11,10,9,7,8],false⟩,
 ⟨14,⟨some 28,.append 1 1 (.t 14) (.t 27),none⟩,.eff,[0,13,6,12,5,4,3,1,2,11,10,9,7,8],true⟩,
 ⟨15,⟨some 3,.move (.t 28),none⟩,.quiet,[14,0,1,2,3,4,5,6,7,8,9,10,11,12,13],false⟩]
def c41_r7 : List COper := [⟨some 12,.move (.t 4),none⟩,
 ⟨some 13,.arith .add (.t 12) (.c (.int .i64 1)),none⟩,
 ⟨some 4,.move (.t 13),none⟩]
def c41_l0 : CCode :=
  (.kill [8,9,10,11,14,15,16,17,18,19,20,21,22,23,24,25,26,27,28,12,13] (.seq (.kill [8,9,10,11] (.seq (.kill [8,9,10] (.region c41_r5)) (.cond (.t 11) .skip (.exit 0)))) (.seq (.kill [14,15,16,17,18,19,20,21,22,23,24,25,26,27,28] (.block 1 (.draws 16 c41_r6))) (.region c41_r7))))
def c41_r8 : List COper := [⟨some 29,.move (.t 3),none⟩,
 ⟨some 30,.b2s (.t 29),none⟩,
 ⟨some 2,.move (.t 30),none⟩]
def c41 : CFunc := ⟨31,(.seq (.region c41_r0) (.seq (.kill [5,6,7] (.seq (.kill [5,6] (.region c41_r1)) (.cond (.t 7) (.seq (.region c41_r2) .ret) .skip))) (.seq (.region c41_r3) (.seq (.kill [4,8,9,10,11,14,15,16,17,18,19,20,21,22,23,24,25,26,27,28,12,13] (.seq (.kill [8,9,10,11,14,15,16,17,18,19,20,21,22,23,24,25,26,27,28,12,13] (.region c41_r4)) (.block 0 (.loop c41_l0)))) (.seq (.kill [29,30] (.region c41_r8)) .ret))))),[.tmp 2]⟩
def c42_r0 : List COper := [⟨some 1,.box (.t 0),none⟩,
 ⟨some 2,.move (.c .nils),none⟩]
def c42_r1 : List DItem := [⟨0,⟨some 3,.fieldAddr 0 (.t 1),none⟩,.quiet,[],false⟩,
 ⟨1,⟨some 4,.fieldAddr 17 (.t 3),none⟩,.quiet,[0],false⟩,
 ⟨2,⟨some 5,.load .one (.t 4),none⟩,.read,[1,0],false⟩,
 ⟨3,⟨some 6,.fieldAddr 0 (.t 1),none⟩,.quiet,[],false⟩,
 ⟨4,⟨some 7,.fieldAddr 18 (.t 6),none⟩,.quiet,[3],false⟩,
 ⟨5,⟨some 8,.load .one (.t 7),none⟩,.read,[4,3],false⟩,
 ⟨6,⟨some 9,.conv .i64 (.t 8),none⟩,.quiet,[5,4,3],false⟩,
 ⟨7,⟨some 10,.fieldAddr 0 (.t 1),none⟩,.quiet,[],false⟩,
 ⟨8,⟨some 11,.fieldAddr 19 (.t 10),none⟩,.quiet,[7],false⟩,
 ⟨9,⟨some 12,.load .one (.t 11),none⟩,.read,[8,7],false⟩,
 ⟨10,⟨some 13,.conv .i64 (.t 12),none⟩,.quiet,[9,8,7],false⟩,
 ⟨11,⟨some 14,.fieldAddr 0 (.t 1),none⟩,.quiet,[],false⟩,
 ⟨12,⟨some 15,.fieldAddr 20 (.t 14),none⟩,.quiet,[11],false⟩,
 ⟨13,⟨some 16,.load .one (.t 15),none⟩,.read,[12,11],false⟩,
 ⟨14,⟨some 17,.conv .i64 (.t 16),none⟩,.quiet,[13,12,11],false⟩,
 ⟨15,⟨some 18,.fieldAddr 0 (.t 1),none⟩,.quiet,[],false⟩,
 ⟨16,⟨some 19,.fieldAddr 21 (.t 18),none⟩,.quiet,[15],false⟩,
 ⟨17,⟨some 20,.load .one (.t 19),none⟩,.read,[16,15],false⟩,
 ⟨18,⟨some 21,.fieldAddr 0 (.t 1),none⟩,.quiet,[],false⟩,
 ⟨19,⟨some 22,.fieldAddr 22 (.t 21),none⟩,.quiet,[18],false⟩,
 ⟨20,⟨some 23,.load .one (.t 22),none⟩,.read,[19,18],false⟩,
 ⟨21,⟨some 24,.fieldAddr 0 (.t 1),none⟩,.quiet,[],false⟩,
 ⟨22,⟨some 25,.fieldAddr 23 (.t 24),none⟩,.quiet,[21],false⟩,
 ⟨23,⟨some 26,.load .one (.t 25),none⟩,.read,[22,21],false⟩,
 ⟨24,⟨some 27,.conv .i64 (.t 26),none⟩,.quiet,[23,22,21],false⟩,
 ⟨25,⟨some 28,.fieldAddr 0 (.t 1),none⟩,.quiet,[],false⟩,
 ⟨26,⟨some 29,.fieldAddr 24 (.t 28),none⟩,.quiet,[25],false⟩,
 ⟨27,⟨some 30,.load .one (.t 29),none⟩,.read,[26,25],false⟩,
 ⟨28,⟨some 31,.conv .i64 (.t 30),none⟩,.quiet,[27,26,25],false⟩,
 ⟨29,⟨some 32,.fieldAddr 25 (.t 1),none⟩,.quiet,[],false⟩,
 ⟨30,⟨some 33,.load .one (.t 32),none⟩,.read,[29],false⟩,
 ⟨31,⟨some 34,.fieldAddr 26 (.t 1),none⟩,.quiet,[],false⟩,
 ⟨32,⟨some 35,.load .one (.t 34),none⟩,.read,[31],false⟩,
 ⟨33,⟨some 36,.fieldAddr 27 (.t 1),none⟩,.quiet,[],false⟩,
 ⟨34,⟨some 37,.load .one (.t 36),none⟩,.read,[33],false⟩,
 ⟨35,⟨some 38,.fieldAddr 28 (.t 1),none⟩,.quiet,[],false⟩,
 ⟨36,⟨some 39,.fieldAddr 0 (.t 38),none⟩,.quiet,[35],false⟩,
 ⟨37,⟨some 40,.load .one (.t 39),none⟩,.read,[36,35],false⟩,
 ⟨38,⟨some 41,.fieldAddr 28 (.t 1),none⟩,.quiet,[],false⟩,
 ⟨39,⟨some 42,.fieldAddr 1 (.t 41),none⟩,.quiet,[38],false⟩,
 ⟨40,⟨some 43,.load .one (.t 42),none⟩,.read,[39,38],false⟩,
 ⟨41,⟨some 44,.fieldAddr 28 (.t 1),none⟩,.quiet,[],false⟩,
 ⟨42,⟨some 45,.fieldAddr 2 (.t 44),none⟩,.quiet,[41],false⟩,
 ⟨43,⟨some 46,.load .one (.t 45),none⟩,.read,[42,41],false⟩,
 ⟨44,⟨some 47,.fieldAddr 31 (.t 1),none⟩,.quiet,[],false⟩,
 ⟨45,⟨some 48,.fieldAddr 0 (.t 47),none⟩,.quiet,[44],false⟩,
 ⟨46,⟨some 49,.load .one (.t 48),none⟩,.read,[45,44],false⟩,
 ⟨47,⟨some 50,.fieldAddr 31 (.t 1),none⟩,.quiet,[],false⟩,
 ⟨48,⟨some 51,.fieldAddr 1 (.t 50),none⟩,.quiet,[47],false⟩,
 ⟨49,⟨some 52,.load .one (.t 51),none⟩,.read,[48,47],false⟩,
 ⟨50,⟨some 53,.fieldAddr 31 (.t 1),none⟩,.quiet,[],false⟩,
 ⟨51,⟨some 54,.fieldAddr 2 (.t 53),none⟩,.quiet,[50],false⟩,
 ⟨52,⟨some 55,.load .one (.t 54),none⟩,.read,[51,50],false⟩,
 ⟨53,⟨some 56,.fieldAddr 34 (.t 1),none⟩,.quiet,[],false⟩,
 ⟨54,⟨some 57,.load .one (.t 56),none⟩,.read,[53],false⟩,
 ⟨55,⟨some 58,.fieldAddr 35 (.t 1),none⟩,.quiet,[],false⟩,
 ⟨56,⟨some 59,.load .one (.t 58),none⟩,.read,[55],false⟩,
 ⟨57,⟨some 60,.fieldAddr 36 (.t 1),none⟩,.quiet,[],false⟩,
 ⟨58,⟨some 61,.load .one (.t 60),none⟩,.read,[57],false⟩,
 ⟨59,⟨some 62,.fieldAddr 37 (.t 1),none⟩,.quiet,[],false⟩,
 ⟨60,⟨some 63,.load .one (.t 62),none⟩,.read,[59],false⟩,
 ⟨61,⟨some 64,.fieldAddr 38 (.t 1),none⟩,.quiet,[],false⟩,
 ⟨62,⟨some 65,.load .one (.t 64),none⟩,.read,[61],false⟩,
 ⟨64,⟨some 67,.fieldAddr 39 (.t 1),none⟩,.quiet,[],false⟩,
 ⟨65,⟨some 68,.load .one (.t 67),none⟩,.read,[64],false⟩,
 ⟨67,⟨some 70,.fieldAddr 40 (.t 1),none⟩,.quiet,[],false⟩,
 ⟨68,⟨some 71,.load .one (.t 70),none⟩,.read,[67],false⟩,
 ⟨63,⟨some 66,.call (.f 64) [(.t 65)],none⟩,.eff,[62,61],true⟩,
 ⟨66,⟨some 69,.call (.f 64) [(.t 68)],none⟩,.eff,[65,63,64,62,61],true⟩,
 ⟨69,⟨some 72,.call (.f 64) [(.t 71)],none⟩,.eff,[68,66,67,65,63,64,62,61],true⟩,
 ⟨70,⟨some 73,.buildSlice [(.int .i64 0),(.int .i64 0),(.int .i64 0),(.int .i64 0),(.int .i64 0),(.int .i64 0),(.int .i64 0),(.int .i64 0),(.int .i64 0),(.int .i64 0),(.int .i64 0),(.int .i64 0),(.int .i64 0),(.int .i64 0),(.int .i64 0),(.int .i64 0),(.int .i64 0),(.int .i64 0),(.int .i64 0),(.int .i64 0),(.int .i64 0),(.int .i64 0),(.int .i64 0),(.int .i64 0)] 24 [(0,1,(.t 5)),(1,1,(.t 9)),(2,1,(.t 13)),(3,1,(.t 17)),(4,1,(.t 20)),(5,1,(.t 23)),(6,1,(.t 27)),(7,1,(.t 31)),(8,1,(.t 33)),(9,1,(.t 35)),(10,1,(.t 37)),(11,1,(.t 40)),(12,1,(.t 43)),(13,1,(.t 46)),(14,1,(.t 49)),(15,1,(.t 52)),(16,1,(.t 55)),(17,1,(.t 57)),(18,1,(.t 59)),(19,1,(.t 61)),(20,1,(.t 63)),(21,1,(.t 66)),(22,1,(.t 69)),(23,1,(.t 72))],none⟩,.new,[2,6,10,14,17,20,24,28,30,32,34,37,40,43,46,49,52,54,56,58,60,63,66,69,1,0,5,4,3,9,8,7,13,12,11,16,15,19,18,23,22,21,27,26,25,29,31,33,36,35,39,38,42,41,45,44,48,47,51,50,53,55,57,59,62,61,65,64,68,67],false⟩,
 ⟨71,⟨some 2,.move (.t 73),none⟩,.quiet,[70,69,0,1,2,3,4,5,6,7,8,9,10,11,12,13,14,15,16,17,18,19,20,21,22,23,24,25,26,27,28,29,30,31,32,33,34,35,36,37,38,39,40,41,42,43,44,45,46,47,48,49,50,51,52,53,54,55,56,57,58,59,60,61,62,63,64,65,66,67,68],false⟩]
def c42 : CFunc := ⟨74,(.seq (.region c42_r0) (.seq (.kill [3,4,5,6,7,8,9,10,11,12,13,14,15,16,17,18,19,20,21,22,23,24,25,26,27,28,29,30,31,32,33,34,35,36,37,38,39,40,41,42,43,44,45,46,47,48,49,50,51,52,53,54,55,56,57,58,59,60,61,62,63,64,65,66,67,68,69,70,71,72,73] (.draws 72 c42_r1)) .ret)),[.tmp 2]⟩
def c43_r0 : List COper := [⟨some 0,.move (.c .nils),none⟩]
def c43_r1 : List COper := [⟨some 1,.buildSlice [(.str []),(.str []),(.str []),(.str []),(.str []),(.str []),(.str []),(.str []),(.str []),(.str []),(.str []),(.str []),(.str []),(.str []),(.str []),(.str []),(.str []),(.str []),(.str []),(.str []),(.str []),(.str []),(.str []),(.str [])] 24 [(0,1,(.c (.str [108,105,102,101]))),(1,1,(.c (.str [119,105,110,100,111,119]))),(2,1,(.c (.str [111,117,116]))),(3,1,(.c (.str [105,110]))),(4,1,(.c (.str [116,114,105,101,115]))),(5,1,(.c (.str [108,97,115,116,115]))),(6,1,(.c (.str [112,111,114,116]))),(7,1,(.c (.str [112,101,101,114]))),(8,1,(.c (.str [112,97,116,104,115]))),(9,1,(.c (.str [109,116,117]))),(10,1,(.c (.str [98,117,102,102,101,114]))),(11,1,(.c (.str [105,110,105,116]))),(12,1,(.c (.str [109,105,110]))),(13,1,(.c (.str [109,97,120]))),(14,1,(.c (.str [101,114,114,111,114,115]))),(15,1,(.c (.str [102,97,105,108]))),(16,1,(.c (.str [112,97,117,115,101]))),(17,1,(.c (.str [109,111,115,116]))),(18,1,(.c (.str [100,101,108,97,121]))),(19,1,(.c (.str [115,99,104,101,100]))),(20,1,(.c (.str [99,97,112]))),(21,1,(.c (.str [115,112,108,105,116]))),(22,1,(.c (.str [110,114]))),(23,1,(.c (.str [99,111,117,112,108,101])))],none⟩,
 ⟨some 0,.move (.t 1),none⟩]
def c43 : CFunc := ⟨2,(.seq (.region c43_r0) (.seq (.kill [1] (.region c43_r1)) .ret)),[.tmp 0]⟩
def c45_r0 : List COper := [⟨some 1,.box (.t 0),none⟩,
 ⟨some 2,.move (.c .nilf),none⟩]
def c45_r1 : List COper := [⟨some 3,.mkFunc (.func 66) [] [(.t 1)],none⟩,
 ⟨some 2,.move (.t 3),none⟩]
def c45 : CFunc := ⟨4,(.seq (.region c45_r0) (.seq (.kill [3] (.region c45_r1)) .ret)),[.tmp 2]⟩
def c47_r0 : List COper := [⟨some 6,.move (.c (.bool false)),none⟩]
def c47_r1 : List COper := [⟨some 10,.move (.t 0),none⟩,
 ⟨some 11,.len (.t 10),none⟩,
 ⟨some 12,.move (.t 1),none⟩,
 ⟨some 13,.len (.t 12),none⟩,
 ⟨some 14,.eq .scalar true (.t 11) (.t 13),none⟩]
def c47_r2 : List COper := [⟨some 6,.move (.c (.bool false)),none⟩]
def c47_r3 : List COper := [⟨some 15,.move (.t 0),none⟩,
 ⟨some 16,.len (.t 15),none⟩,
 ⟨some 17,.move (.c (.int .i64 0)),none⟩]
def c47_r4 : List COper := [⟨some 18,.arith .lss (.t 17) (.t 16),none⟩]
def c47_r5 : List COper := [⟨some 19,.move (.t 17),none⟩,
 ⟨some 20,.indexSl 12 (.t 15) (.t 17),none⟩,
 ⟨some 21,.load (.many 12) (.t 20),none⟩,
 ⟨some 8,.alloc [(.int .i64 0),(.int .i64 0),(.int .i64 0),(.int .i64 0),(.int .i64 0),(.int .u8 0),(.int .i64 0),(.int .u16 0),(.int .u32 0),(.bool false),.nils,(.str [])],none⟩,
 ⟨some 7,.move (.t 19),none⟩,
 ⟨none,.store 12 (.t 8) (.t 21),none⟩]
def c47_r6 : List COper := [⟨some 22,.move (.t 1),none⟩,
 ⟨some 23,.move (.t 7),none⟩,
 ⟨some 24,.indexSl 12 (.t 22) (.t 23),none⟩,
 ⟨some 25,.load (.many 12) (.t 24),none⟩,
 ⟨some 9,.alloc [(.int .i64 0),(.int .i64 0),(.int .i64 0),(.int .i64 0),(.int .i64 0),(.int .u8 0),(.int .i64 0),(.int .u16 0),(.int .u32 0),(.bool false),.nils,(.str [])],none⟩,
 ⟨none,.store 12 (.t 9) (.t 25),none⟩]
def c47_r7 : List COper := [⟨some 26,.move (.t 2),none⟩,
 ⟨some 27,.load (.many 12) (.t 8),none⟩,
 ⟨some 28,.load (.many 12) (.t 9),none⟩,
 ⟨some 29,.call (.t 26) [(.t 27),(.t 28)],none⟩,
 ⟨some 30,.un .not (.t 29),none⟩]
def c47_r8 : List COper := [⟨some 6,.move (.c (.bool false)),none⟩]
def c47_r9 : List COper := [⟨some 31,.arith .add (.t 17) (.c (.int .i64 1)),none⟩,
 ⟨some 17,.move (.t 31),none⟩]
def c47_l0 : CCode :=
  (.kill [18,19,20,21,8,7,22,23,24,25,9,26,27,28,29,30,31] (.seq (.region c47_r4) (.seq (.cond (.t 18) .skip (.exit 0)) (.seq (.kill [19,20,21,8,7,22,23,24,25,9,26,27,28,29,30] (.block 1 (.seq (.kill [19,20,21] (.region c47_r5)) (.seq (.kill [22,23,24,25] (.region c47_r6)) (.seq (.kill [26,27,28,29] (.region c47_r7)) (.cond (.t 30) (.seq (.region c47_r8) .ret) .skip)))))) (.region c47_r9)))))
def c47_r10 : List COper := [⟨some 6,.move (.c (.bool true)),none⟩]
def c47 : CFunc := ⟨32,(.seq (.region c47_r0) (.seq (.kill [10,11,12,13,14] (.seq (.kill [10,11,12,13] (.region c47_r1)) (.cond (.t 14) (.seq (.region c47_r2) .ret) .skip))) (.seq (.kill [15,16,17,18,19,20,21,8,7,22,23,24,25,9,26,27,28,29,30,31] (.seq (.kill [18,19,20,21,8,7,22,23,24,25,9,26,27,28,29,30,31] (.region c47_r3)) (.block 0 (.loop c47_l0)))) (.seq (.region c47_r10) .ret)))),[.tmp 6]⟩
def c48_r0 : List COper := [⟨some 1,.box (.t 0),none⟩,
 ⟨some 2,.move (.c .nils),none⟩]
def c48_r1 : List COper := [⟨some 4,.load (.many 2) (.t 1),none⟩,
 ⟨some 5,.mkFunc (.func 69) [(.t 4)] [],none⟩,
 ⟨some 6,.load (.many 2) (.t 1),none⟩,
 ⟨some 7,.mkFunc (.func 70) [(.t 6)] [],none⟩,
 ⟨some 8,.load (.many 2) (.t 1),none⟩,
 ⟨some 9,.mkFunc (.func 71) [(.t 8)] [],none⟩,
 ⟨some 10,.buildSlice [.nilf,.nilf,.nilf] 3 [(0,1,(.t 5)),(1,1,(.t 7)),(2,1,(.t 9))],none⟩,
 ⟨some 3,.move (.t 10),none⟩]
def c48_r2 : List DItem := [⟨0,⟨some 11,.load (.many 2) (.t 1),none⟩,.read,[],false⟩,
 ⟨1,⟨some 12,.mkFunc (.func 69) [(.t 11)] [],none⟩,.quiet,[0],false⟩,
 ⟨2,⟨some 13,.buildSlice [.nilf] 1 [(0,1,(.t 12))],none⟩,.new,[1,0],false⟩,
 ⟨3,⟨some 14,.build [(.int .i64 0),(.str []),.nils] [(0,1,(.c (.int .i64 1))),(1,1,(.c (.str [111,112,101,110]))),(2,1,(.t 13))],none⟩,.quiet,[2,1,0],false⟩,
 ⟨4,⟨some 15,.load (.many 2) (.t 1),none⟩,.read,[],false⟩,
 ⟨5,⟨some 16,.mkFunc (.func 69) [(.t 15)] [],none⟩,.quiet,[4],false⟩,
 ⟨6,⟨some 17,.load (.many 2) (.t 1),none⟩,.read,[],false⟩,
 ⟨7,⟨some 18,.mkFunc (.func 72) [(.t 17)] [],none⟩,.quiet,[6],false⟩,
 ⟨8,⟨some 19,.load (.many 2) (.t 1),none⟩,.read,[],false⟩,
 ⟨9,⟨some 20,.mkFunc (.func 73) [(.t 19)] [],none⟩,.quiet,[8],false⟩,
 ⟨10,⟨some 21,.load (.many 2) (.t 1),none⟩,.read,[],false⟩,
 ⟨11,⟨some 22,.mkFunc (.func 74) [(.t 21)] [],none⟩,.quiet,[10],false⟩,
 ⟨12,⟨some 23,.load (.many 2) (.t 1),none⟩,.read,[],false⟩,
 ⟨13,⟨some 24,.mkFunc (.func 75) [(.t 23)] [],none⟩,.quiet,[12],false⟩,
 ⟨14,⟨some 25,.buildSlice [.nilf,.nilf,.nilf,.nilf,.nilf] 5 [(0,1,(.t 16)),(1,1,(.t 18)),(2,1,(.t 20)),(3,1,(.t 22)),(4,1,(.t 24))],none⟩,.new,[5,7,9,11,13,4,6,8,10,12],false⟩,
 ⟨15,⟨some 26,.build [(.int .i64 0),(.str []),.nils] [(0,1,(.c (.int .i64 2))),(1,1,(.c (.str [115,101,110,100]))),(2,1,(.t 25))],none⟩,.quiet,[14,5,7,9,11,13,4,6,8,10,12],false⟩,
 ⟨16,⟨some 27,.load (.many 2) (.t 1),none⟩,.read,[],false⟩,
 ⟨17,⟨some 28,.mkFunc (.func 69) [(.t 27)] [],none⟩,.quiet,[16],false⟩,
 ⟨18,⟨some 29,.buildSlice [.nilf] 1 [(0,1,(.t 28))],none⟩,.new,[17,16],false⟩,
 ⟨19,⟨some 30,.build [(.int .i64 0),(.str []),.nils] [(0,1,(.c (.int .i64 3))),(1,1,(.c (.str [114,101,99,101,105,118,101]))),(2,1,(.t 29))],none⟩,.quiet,[18,17,16],false⟩,
 ⟨20,⟨some 31,.load (.many 2) (.t 1),none⟩,.read,[],false⟩,
 ⟨21,⟨some 32,.mkFunc (.func 69) [(.t 31)] [],none⟩,.quiet,[20],false⟩,
 ⟨22,⟨some 33,.buildSlice [.nilf] 1 [(0,1,(.t 32))],none⟩,.new,[21,20],false⟩,
 ⟨23,⟨some 34,.build [(.int .i64 0),(.str []),.nils] [(0,1,(.c (.int .i64 4))),(1,1,(.c (.str [115,104,117,116,100,111,119,110]))),(2,1,(.t 33))],none⟩,.quiet,[22,21,20],false⟩,
 ⟨24,⟨some 35,.load (.many 2) (.t 1),none⟩,.read,[],false⟩,
 ⟨25,⟨some 36,.mkFunc (.func 69) [(.t 35)] [],none⟩,.quiet,[24],false⟩,
 ⟨26,⟨some 37,.load (.many 2) (.t 1),none⟩,.read,[],false⟩,
 ⟨27,⟨some 38,.mkFunc (.func 76) [(.t 37)] [],none⟩,.quiet,[26],false⟩,
 ⟨28,⟨some 39,.buildSlice [.nilf,.nilf] 2 [(0,1,(.t 36)),(1,1,(.t 38))],none⟩,.new,[25,27,24,26],false⟩,
 ⟨29,⟨some 40,.build [(.int .i64 0),(.str []),.nils] [(0,1,(.c (.int .i64 5))),(1,1,(.c (.str [97,98,111,114,116]))),(2,1,(.t 39))],none⟩,.quiet,[28,25,27,24,26],false⟩,
 ⟨30,⟨some 41,.load (.many 2) (.t 1),none⟩,.read,[],false⟩,
 ⟨31,⟨some 42,.mkFunc (.func 69) [(.t 41)] [],none⟩,.quiet,[30],false⟩,
 ⟨32,⟨some 43,.buildSlice [.nilf] 1 [(0,1,(.t 42))],none⟩,.new,[31,30],false⟩,
 ⟨33,⟨some 44,.build [(.int .i64 0),(.str []),.nils] [(0,1,(.c (.int .i64 6))),(1,1,(.c (.str [116,105,99,107]))),(2,1,(.t 43))],none⟩,.quiet,[32,31,30],false⟩,
 ⟨34,⟨some 45,.load (.many 2) (.t 1),none⟩,.read,[],false⟩,
 ⟨35,⟨some 46,.mkFunc (.func 77) [(.t 45)] [],none⟩,.quiet,[34],false⟩,
 ⟨36,⟨some 47,.buildSlice [.nilf] 1 [(0,1,(.t 46))],none⟩,.new,[35,34],false⟩,
 ⟨37,⟨some 48,.build [(.int .i64 0),(.str []),.nils] [(0,1,(.c (.int .i64 7))),(1,1,(.c (.str [99,108,111,99,107]))),(2,1,(.t 47))],none⟩,.quiet,[36,35,34],false⟩,
 ⟨38,⟨some 49,.move (.t 3),none⟩,.quiet,[],false⟩,
 ⟨39,⟨some 50,.build [(.int .i64 0),(.str []),.nils] [(0,1,(.c (.int .i64 8))),(1,1,(.c (.str [100,101,108,105,118,101,114]))),(2,1,(.t 49))],none⟩,.quiet,[38],false⟩,
 ⟨40,⟨some 51,.move (.t 3),none⟩,.quiet,[],false⟩,
 ⟨41,⟨some 52,.build [(.int .i64 0),(.str []),.nils] [(0,1,(.c (.int .i64 9))),(1,1,(.c (.str [100,114,111,112]))),(2,1,(.t 51))],none⟩,.quiet,[40],false⟩,
 ⟨42,⟨some 53,.move (.t 3),none⟩,.quiet,[],false⟩,
 ⟨43,⟨some 54,.build [(.int .i64 0),(.str []),.nils] [(0,1,(.c (.int .i64 10))),(1,1,(.c (.str [116,119,105,99,101]))),(2,1,(.t 53))],none⟩,.quiet,[42],false⟩,
 ⟨44,⟨some 55,.move (.t 3),none⟩,.quiet,[],false⟩,
 ⟨46,⟨some 57,.load (.many 2) (.t 1),none⟩,.read,[],false⟩,
 ⟨47,⟨some 58,.mkFunc (.func 79) [(.t 57)] [],none⟩,.quiet,[46],false⟩,
 ⟨48,⟨some 59,.load (.many 2) (.t 1),none⟩,.read,[],false⟩,
 ⟨49,⟨some 60,.mkFunc (.func 80) [(.t 59)] [],none⟩,.quiet,[48],false⟩,
 ⟨50,⟨some 61,.buildSlice [.nilf,.nilf] 2 [(0,1,(.t 58)),(1,1,(.t 60))],none⟩,.new,[47,49,46,48],false⟩,
 ⟨53,⟨some 64,.load (.many 2) (.t 1),none⟩,.read,[],false⟩,
 ⟨54,⟨some 65,.mkFunc (.func 69) [(.t 64)] [],none⟩,.quiet,[53],false⟩,
 ⟨55,⟨some 66,.load (.many 2) (.t 1),none⟩,.read,[],false⟩,
 ⟨56,⟨some 67,.mkFunc (.func 70) [(.t 66)] [],none⟩,.quiet,[55],false⟩,
 ⟨57,⟨some 68,.load (.many 2) (.t 1),none⟩,.read,[],false⟩,
 ⟨58,⟨some 69,.mkFunc (.func 75) [(.t 68)] [],none⟩,.quiet,[57],false⟩,
 ⟨59,⟨some 70,.buildSlice [.nilf,.nilf,.nilf] 3 [(0,1,(.t 65)),(1,1,(.t 67)),(2,1,(.t 69))],none⟩,.new,[54,56,58,53,55,57],false⟩,
 ⟨60,⟨some 71,.build [(.int .i64 0),(.str []),.nils] [(0,1,(.c (.int .i64 12))),(1,1,(.c (.str [102,111,114,103,101]))),(2,1,(.t 70))],none⟩,.quiet,[59,54,56,58,53,55,57],false⟩,
 ⟨61,⟨some 72,.load (.many 2) (.t 1),none⟩,.read,[],false⟩,
 ⟨62,⟨some 73,.mkFunc (.func 70) [(.t 72)] [],none⟩,.quiet,[61],false⟩,
 ⟨63,⟨some 74,.buildSlice [.nilf] 1 [(0,1,(.t 73))],none⟩,.new,[62,61],false⟩,
 ⟨64,⟨some 75,.build [(.int .i64 0),(.str []),.nils] [(0,1,(.c (.int .i64 13))),(1,1,(.c (.str [100,111,119,110]))),(2,1,(.t 74))],none⟩,.quiet,[63,62,61],false⟩,
 ⟨65,⟨some 76,.load (.many 2) (.t 1),none⟩,.read,[],false⟩,
 ⟨66,⟨some 77,.mkFunc (.func 70) [(.t 76)] [],none⟩,.quiet,[65],false⟩,
 ⟨67,⟨some 78,.buildSlice [.nilf] 1 [(0,1,(.t 77))],none⟩,.new,[66,65],false⟩,
 ⟨68,⟨some 79,.build [(.int .i64 0),(.str []),.nils] [(0,1,(.c (.int .i64 14))),(1,1,(.c (.str [117,112]))),(2,1,(.t 78))],none⟩,.quiet,[67,66,65],false⟩,
 ⟨45,⟨some 56,.call (.f 78) [(.t 55)],none⟩,.eff,[44],true⟩,
 ⟨51,⟨some 62,.append 1 8 (.t 56) (.t 61),none⟩,.eff,[45,50,44,47,49,46,48],true⟩,
 ⟨52,⟨some 63,.build [(.int .i64 0),(.str []),.nils] [(0,1,(.c (.int .i64 11))),(1,1,(.c (.str [115,112,111,105,108]))),(2,1,(.t 62))],none⟩,.quiet,[51,45,50,44,47,49,46,48],false⟩,
 ⟨69,⟨some 80,.buildSlice [(.int .i64 0),(.str []),.nils,(.int .i64 0),(.str []),.nils,(.int .i64 0),(.str []),.nils,(.int .i64 0),(.str []),.nils,(.int .i64 0),(.str []),.nils,(.int .i64 0),(.str []),.nils,(.int .i64 0),(.str []),.nils,(.int .i64 0),(.str []),.nils,(.int .i64 0),(.str []),.nils,(.int .i64 0),(.str []),.nils,(.int .i64 0),(.str []),.nils,(.int .i64 0),(.str []),.nils,(.int .i64 0),(.str []),.nils,(.int .i64 0),(.str []),.nils] 14 [(0,3,(.t 14)),(3,3,(.t 26)),(6,3,(.t 30)),(9,3,(.t 34)),(12,3,(.t 40)),(15,3,(.t 44)),(18,3,(.t 48)),(21,3,(.t 50)),(24,3,(.t 52)),(27,3,(.t 54)),(30,3,(.t 63)),(33,3,(.t 71)),(36,3,(.t 75)),(39,3,(.t 79))],none⟩,.new,[3,15,19,23,29,33,37,39,41,43,52,60,64,68,2,1,0,14,5,7,9,11,13,4,6,8,10,12,18,17,16,22,21,20,28,25,27,24,26,32,31,30,36,35,34,38,40,42,51,45,50,44,47,49,46,48,59,54,56,58,53,55,57,63,62,61,67,66,65],false⟩,
 ⟨70,⟨some 2,.move (.t 80),none⟩,.quiet,[69,51,0,1,2,3,4,5,6,7,8,9,10,11,12,13,14,15,16,17,18,19,20,21,22,23,24,25,26,27,28,29,30,31,32,33,34,35,36,37,38,39,40,41,42,43,44,45,46,47,48,49,50,52,53,54,55,56,57,58,59,60,61,62,63,64,65,66,67,68],false⟩]
def c48 : CFunc := ⟨81,(.seq (.region c48_r0) (.seq (.kill [4,5,6,7,8,9,10] (.region c48_r1)) (.seq (.kill [11,12,13,14,15,16,17,18,19,20,21,22,23,24,25,26,27,28,29,30,31,32,33,34,35,36,37,38,39,40,41,42,43,44,45,46,47,48,49,50,51,52,53,54,55,56,57,58,59,60,61,62,63,64,65,66,67,68,69,70,71,72,73,74,75,76,77,78,79,80] (.draws 71 c48_r2)) .ret))),[.tmp 2]⟩
def c49_r0 : List COper := [⟨some 4,.move (.c (.int .i64 0)),none⟩]
def c49_r1 : List COper := [⟨some 6,.move (.t 0),none⟩,
 ⟨some 7,.len (.t 6),none⟩,
 ⟨some 8,.move (.c (.int .i64 0)),none⟩]
def c49_r2 : List COper := [⟨some 9,.arith .lss (.t 8) (.t 7),none⟩]
def c49_r3 : List COper := [⟨some 10,.move (.t 8),none⟩,
 ⟨some 5,.move (.t 10),none⟩]
def c49_r4 : List COper := [⟨some 11,.move (.t 1),none⟩,
 ⟨some 12,.move (.t 0),none⟩,
 ⟨some 13,.move (.t 5),none⟩,
 ⟨some 14,.indexSl 3 (.t 12) (.t 13),none⟩,
 ⟨some 15,.load (.many 3) (.t 14),none⟩,
 ⟨some 16,.call (.t 11) [(.t 15)],none⟩]
def c49_r5 : List COper := [⟨some 17,.move (.t 5),none⟩,
 ⟨some 4,.move (.t 17),none⟩]
def c49_r6 : List COper := [⟨some 18,.arith .add (.t 8) (.c (.int .i64 1)),none⟩,
 ⟨some 8,.move (.t 18),none⟩]
def c49_l0 : CCode :=
  (.kill [9,10,5,11,12,13,14,15,16,17,18] (.seq (.region c49_r2) (.seq (.cond (.t 9) .skip (.exit 0)) (.seq (.kill [10,5,11,12,13,14,15,16,17] (.block 1 (.seq (.kill [10] (.region c49_r3)) (.seq (.kill [11,12,13,14,15] (.region c49_r4)) (.cond (.t 16) (.seq (.kill [17] (.region c49_r5)) .ret) .skip))))) (.region c49_r6)))))
def c49_r7 : List COper := [⟨some 4,.move (.c (.int .i64 (-1))),none⟩]
def c49 : CFunc := ⟨19,(.seq (.region c49_r0) (.seq (.kill [6,7,8,9,10,5,11,12,13,14,15,16,17,18] (.seq (.kill [6,9,10,5,11,12,13,14,15,16,17,18] (.region c49_r1)) (.block 0 (.loop c49_l0)))) (.seq (.region c49_r7) .ret))),[.tmp 4]⟩
def c50_r0 : List COper := [⟨some 4,.move (.t 0),none⟩,
 ⟨some 5,.nilCheck (.t 4),none⟩,
 ⟨some 6,.fieldAddr 1 (.t 5),none⟩,
 ⟨some 7,.load .one (.t 6),none⟩]
def c50_r1 : List COper := [⟨some 8,.move (.t 0),none⟩,
 ⟨some 9,.call (.f 81) [(.t 8)],none⟩,
 ⟨some 10,.move (.t 1),none⟩,
 ⟨some 11,.eq .scalar false (.t 9) (.t 10),none⟩,
 ⟨some 12,.call (.f 28) [(.t 11),(.c (.int .i64 250))],none⟩]
def c50_r2 : List COper := [⟨some 13,.move (.t 0),none⟩,
 ⟨some 14,.move (.t 1),none⟩,
 ⟨some 15,.buildSlice [(.str [])] 1 [(0,1,(.t 14))],none⟩,
 ⟨some 16,.call (.f 82) [(.t 13),(.t 15)],none⟩]
def c50 : CFunc := ⟨17,(.seq (.kill [4,5,6] (.region c50_r0)) (.cond (.t 7) (.region c50_r1) (.region c50_r2))),[]⟩
def c52_r0 : List COper := [⟨some 4,.move (.c (.bool false)),none⟩]
def c52_r1 : List COper := [⟨some 6,.move (.t 0),none⟩,
 ⟨some 7,.len (.t 6),none⟩,
 ⟨some 8,.move (.t 1),none⟩,
 ⟨some 9,.len (.t 8),none⟩,
 ⟨some 10,.eq .scalar true (.t 7) (.t 9),none⟩]
def c52_r2 : List COper := [⟨some 4,.move (.c (.bool false)),none⟩]
def c52_r3 : List COper := [⟨some 11,.move (.t 0),none⟩,
 ⟨some 12,.len (.t 11),none⟩,
 ⟨some 13,.move (.c (.int .i64 0)),none⟩]
def c52_r4 : List COper := [⟨some 14,.arith .lss (.t 13) (.t 12),none⟩]
def c52_r5 : List COper := [⟨some 15,.move (.t 13),none⟩,
 ⟨some 5,.move (.t 15),none⟩]
def c52_r6 : List DItem := [⟨0,⟨some 16,.move (.t 0),none⟩,.quiet,[],false⟩,
 ⟨1,⟨some 17,.move (.t 5),none⟩,.quiet,[],false⟩,
 ⟨2,⟨some 18,.indexSl 1 (.t 16) (.t 17),none⟩,.quiet,[0,1],false⟩,
 ⟨3,⟨some 19,.load .one (.t 18),none⟩,.read,[2,0,1],false⟩,
 ⟨4,⟨some 20,.move (.t 1),none⟩,.quiet,[],false⟩,
 ⟨5,⟨some 21,.move (.t 5),none⟩,.quiet,[],false⟩,
 ⟨6,⟨some 22,.indexSl 1 (.t 20) (.t 21),none⟩,.quiet,[4,5],false⟩,
 ⟨7,⟨some 23,.load .one (.t 22),none⟩,.read,[6,4,5],false⟩,
 ⟨8,⟨some 24,.eq .scalar true (.t 19) (.t 23),none⟩,.quiet,[3,7,2,0,1,6,4,5],false⟩]
def c52_r7 : List COper := [⟨some 4,.move (.c (.bool false)),none⟩]
def c52_r8 : List COper := [⟨some 25,.arith .add (.t 13) (.c (.int .i64 1)),none⟩,
 ⟨some 13,.move (.t 25),none⟩]
def c52_l0 : CCode :=
  (.kill [14,15,5,16,17,18,19,20,21,22,23,24,25] (.seq (.region c52_r4) (.seq (.cond (.t 14) .skip (.exit 0)) (.seq (.kill [15,5,16,17,18,19,20,21,22,23,24] (.block 1 (.seq (.kill [15] (.region c52_r5)) (.seq (.kill [16,17,18,19,20,21,22,23] (.draws 9 c52_r6)) (.cond (.t 24) (.seq (.region c52_r7) .ret) .skip))))) (.region c52_r8)))))
def c52_r9 : List COper := [⟨some 4,.move (.c (.bool true)),none⟩]
def c52 : CFunc := ⟨26,(.seq (.region c52_r0) (.seq (.kill [6,7,8,9,10] (.seq (.kill [6,7,8,9] (.region c52_r1)) (.cond (.t 10) (.seq (.region c52_r2) .ret) .skip))) (.seq (.kill [11,12,13,14,15,5,16,17,18,19,20,21,22,23,24,25] (.seq (.kill [11,14,15,5,16,17,18,19,20,21,22,23,24,25] (.region c52_r3)) (.block 0 (.loop c52_l0)))) (.seq (.region c52_r9) .ret)))),[.tmp 4]⟩
def c53_r0 : List COper := [⟨some 4,.move (.c (.str [])),none⟩]
def c53_r1 : List COper := [⟨some 5,.move (.c (.int .i64 0)),none⟩]
def c53_r2 : List COper := [⟨some 6,.move (.t 5),none⟩,
 ⟨some 7,.move (.t 1),none⟩,
 ⟨some 8,.len (.t 7),none⟩,
 ⟨some 9,.arith .lss (.t 6) (.t 8),none⟩]
def c53_r3 : List COper := [⟨some 12,.move (.t 0),none⟩,
 ⟨some 13,.arith .add (.t 12) (.c (.str [32])),none⟩,
 ⟨some 14,.move (.t 1),none⟩,
 ⟨some 15,.move (.t 5),none⟩,
 ⟨some 16,.indexSl 1 (.t 14) (.t 15),none⟩,
 ⟨some 17,.load .one (.t 16),none⟩,
 ⟨some 18,.call (.f 44) [(.t 17)],none⟩,
 ⟨some 19,.arith .add (.t 13) (.t 18),none⟩,
 ⟨some 0,.move (.t 19),none⟩]
def c53_r4 : List COper := [⟨some 10,.move (.t 5),none⟩,
 ⟨some 11,.arith .add (.t 10) (.c (.int .i64 1)),none⟩,
 ⟨some 5,.move (.t 11),none⟩]
def c53_l0 : CCode :=
  (.kill [6,7,8,9,12,13,14,15,16,17,18,19,10,11] (.seq (.kill [6,7,8,9] (.seq (.kill [6,7,8] (.region c53_r2)) (.cond (.t 9) .skip (.exit 0)))) (.seq (.kill [12,13,14,15,16,17,18,19] (.block 1 (.region c53_r3))) (.region c53_r4))))
def c53_r5 : List COper := [⟨some 20,.move (.t 0),none⟩,
 ⟨some 4,.move (.t 20),none⟩]
def c53 : CFunc := ⟨21,(.seq (.region c53_r0) (.seq (.kill [5,6,7,8,9,12,13,14,15,16,17,18,19,10,11] (.seq (.kill [6,7,8,9,12,13,14,15,16,17,18,19,10,11] (.region c53_r1)) (.block 0 (.loop c53_l0)))) (.seq (.kill [20] (.region c53_r5)) .ret))),[.tmp 4]⟩
def c54_r0 : List COper := [⟨some 2,.move (.c (.str [])),none⟩]
def c54_r1 : List COper := [⟨some 3,.move (.t 0),none⟩]
def c54_r2 : List COper := [⟨some 2,.move (.c (.str [117])),none⟩]
def c54_r3 : List COper := [⟨some 2,.move (.c (.str [111])),none⟩]
def c54 : CFunc := ⟨4,(.seq (.region c54_r0) (.seq (.kill [3] (.seq (.region c54_r1) (.cond (.t 3) (.seq (.region c54_r2) .ret) .skip))) (.seq (.region c54_r3) .ret))),[.tmp 2]⟩
def c56_r0 : List COper := [⟨some 2,.move (.c (.int .i64 0)),none⟩]
def c56_r1 : List COper := [⟨some 3,.move (.c (.int .i64 0)),none⟩]
def c56_r2 : List COper := [⟨some 4,.move (.t 3),none⟩,
 ⟨some 5,.arith .lss (.t 4) (.c (.int .i64 16)),none⟩]
def c56_r3 : List COper := [⟨some 8,.move (.t 3),none⟩,
 ⟨some 9,.idxStr (.c (.str [48,49,50,51,52,53,54,55,56,57,97,98,99,100,101,102])) (.t 8),none⟩,
 ⟨some 10,.move (.t 0),none⟩,
 ⟨some 11,.eq .scalar false (.t 9) (.t 10),none⟩]
def c56_r4 : List COper := [⟨some 12,.move (.t 3),none⟩,
 ⟨some 2,.move (.t 12),none⟩]
def c56_r5 : List COper := [⟨some 6,.move (.t 3),none⟩,
 ⟨some 7,.arith .add (.t 6) (.c (.int .i64 1)),none⟩,
 ⟨some 3,.move (.t 7),none⟩]
def c56_l0 : CCode :=
  (.kill [4,5,8,9,10,11,12,6,7] (.seq (.kill [4,5] (.seq (.kill [4] (.region c56_r2)) (.cond (.t 5) .skip (.exit 0)))) (.seq (.kill [8,9,10,11,12] (.block 1 (.seq (.kill [8,9,10] (.region c56_r3)) (.cond (.t 11) (.seq (.kill [12] (.region c56_r4)) .ret) .skip)))) (.region c56_r5))))
def c56_r6 : List COper := [⟨some 2,.move (.c (.int .i64 0)),none⟩]
def c56 : CFunc := ⟨13,(.seq (.region c56_r0) (.seq (.kill [3,4,5,8,9,10,11,12,6,7] (.seq (.kill [4,5,8,9,10,11,12,6,7] (.region c56_r1)) (.block 0 (.loop c56_l0)))) (.seq (.region c56_r6) .ret))),[.tmp 2]⟩
def c57_r0 : List COper := [⟨some 9,.move (.t 0),none⟩,
 ⟨some 10,.nilCheck (.t 9),none⟩,
 ⟨some 11,.fieldAddr 1 (.t 10),none⟩,
 ⟨some 12,.load .one (.t 11),none⟩,
 ⟨some 13,.un .not (.t 12),none⟩]
def c57_r1 : List COper := [⟨some 14,.move (.t 0),none⟩,
 ⟨some 15,.move (.t 1),none⟩,
 ⟨some 16,.nilCheck (.t 15),none⟩,
 ⟨some 17,.load .one (.t 16),none⟩,
 ⟨some 18,.call (.f 40) [(.t 17),(.c (.int .i64 10))],none⟩,
 ⟨some 19,.buildSlice [(.str [])] 1 [(0,1,(.t 18))],none⟩,
 ⟨some 20,.call (.f 82) [(.t 14),(.t 19)],none⟩]
def c57_r2 : List COper := [⟨some 21,.move (.t 0),none⟩,
 ⟨some 22,.call (.f 81) [(.t 21)],none⟩,
 ⟨some 6,.move (.t 22),none⟩]
def c57_r3 : List COper := [⟨some 24,.move (.t 6),none⟩,
 ⟨some 25,.call (.f 89) [(.t 24),(.c (.int .i64 10)),(.c (.int .i64 64))],none⟩,
 ⟨some 23,.move (.t 25),none⟩,
 ⟨some 26,.extract (.t 23) 0,none⟩,
 ⟨some 27,.extract (.t 23) 1,none⟩,
 ⟨some 7,.move (.t 26),none⟩,
 ⟨some 8,.move (.t 27),none⟩]
def c57_r4 : List COper := [⟨some 28,.move (.t 8),none⟩,
 ⟨some 29,.eq (.iface true) false (.t 28) (.c .nili),none⟩,
 ⟨some 30,.move (.t 29),none⟩,
 ⟨some 31,.move (.t 7),some (30,true)⟩,
 ⟨some 32,.move (.t 2),some (30,true)⟩,
 ⟨some 33,.arith .leq (.t 31) (.t 32),some (30,true)⟩,
 ⟨some 34,.pick (.t 30) (.t 33) (.c (.bool false)),none⟩,
 ⟨some 35,.move (.t 34),none⟩,
 ⟨some 36,.move (.t 7),some (35,true)⟩,
 ⟨some 37,.call (.f 40) [(.t 36),(.c (.int .i64 10))],some (35,true)⟩,
 ⟨some 38,.move (.t 6),some (35,true)⟩,
 ⟨some 39,.eq .scalar false (.t 37) (.t 38),some (35,true)⟩,
 ⟨some 40,.pick (.t 35) (.t 39) (.c (.bool false)),none⟩,
 ⟨some 41,.call (.f 28) [(.t 40),(.c (.int .i64 250))],none⟩]
def c57_r5 : List COper := [⟨some 42,.move (.t 1),none⟩,
 ⟨some 43,.move (.t 7),none⟩,
 ⟨some 44,.nilCheck (.t 42),none⟩,
 ⟨none,.store 1 (.t 44) (.t 43),none⟩]
def c57 : CFunc := ⟨45,(.seq (.kill [9,10,11,12,13,14,15,16,17,18,19,20] (.seq (.kill [9,10,11,12] (.region c57_r0)) (.cond (.t 13) (.seq (.kill [14,15,16,17,18,19,20] (.region c57_r1)) .ret) .skip))) (.seq (.kill [21,22] (.region c57_r2)) (.seq (.kill [24,25,23,26,27] (.region c57_r3)) (.seq (.kill [28,29,30,31,32,33,34,35,36,37,38,39,40,41] (.region c57_r4)) (.region c57_r5))))),[]⟩
def c58_r0 : List COper := [⟨some 4,.move (.c .nils),none⟩]
def c58_r1 : List COper := [⟨some 13,.move (.t 0),none⟩,
 ⟨some 14,.nilCheck (.t 13),none⟩,
 ⟨some 15,.fieldAddr 1 (.t 14),none⟩,
 ⟨some 16,.load .one (.t 15),none⟩,
 ⟨some 17,.un .not (.t 16),none⟩]
def c58_r2 : List COper := [⟨some 18,.move (.t 1),none⟩,
 ⟨some 19,.len (.t 18),none⟩,
 ⟨some 20,.arith .leq (.t 19) (.c (.int .i64 65536)),none⟩,
 ⟨some 21,.call (.f 28) [(.t 20),(.c (.int .i64 1))],none⟩]
def c58_r3 : List COper := [⟨some 22,.move (.t 1),none⟩,
 ⟨some 23,.len (.t 22),none⟩,
 ⟨some 24,.arith .mul (.c (.int .i64 2)) (.t 23),none⟩,
 ⟨some 25,.arith .add (.t 24) (.c (.int .i64 1)),none⟩,
 ⟨some 26,.mkSlice [(.int .u8 0)] 1 (.c (.int .i64 0)) (.t 25),none⟩,
 ⟨some 5,.move (.t 26),none⟩]
def c58_r4 : List COper := [⟨some 27,.move (.t 1),none⟩,
 ⟨some 28,.len (.t 27),none⟩,
 ⟨some 29,.move (.c (.int .i64 0)),none⟩]
def c58_r5 : List COper := [⟨some 30,.arith .lss (.t 29) (.t 28),none⟩]
def c58_r6 : List COper := [⟨some 31,.indexSl 1 (.t 27) (.t 29),none⟩,
 ⟨some 32,.load .one (.t 31),none⟩,
 ⟨some 7,.move (.t 32),none⟩]
def c58_r7 : List DItem := [⟨0,⟨some 33,.move (.t 5),none⟩,.quiet,[],false⟩,
 ⟨1,⟨some 34,.move (.t 7),none⟩,.quiet,[],false⟩,
 ⟨2,⟨some 35,.shift .shr (.t 34) (.c (.int .u64 4)),none⟩,.quiet,[1],false⟩,
 ⟨3,⟨some 36,.idxStr (.c (.str [48,49,50,51,52,53,54,55,56,57,97,98,99,100,101,102])) (.t 35),none⟩,.quiet,[2,1],false⟩,
 ⟨4,⟨some 37,.move (.t 7),none⟩,.quiet,[],false⟩,
 ⟨5,⟨some 38,.arith .and (.t 37) (.c (.int .u8 15)),none⟩,.quiet,[4],false⟩,
 ⟨6,⟨some 39,.idxStr (.c (.str [48,49,50,51,52,53,54,55,56,57,97,98,99,100,101,102])) (.t 38),none⟩,.quiet,[5,4],false⟩,
 ⟨7,⟨some 40,.buildSlice [(.int .u8 0),(.int .u8 0)] 2 [(0,1,(.t 36)),(1,1,(.t 39))],none⟩,.new,[3,6,2,1,5,4],false⟩,
 ⟨8,⟨some 41,.append 1 1 (.t 33) (.t 40),none⟩,.eff,[0,7,3,6,2,1,5,4],true⟩,
 ⟨9,⟨some 5,.move (.t 41),none⟩,.quiet,[8,0,1,2,3,4,5,6,7],false⟩]
def c58_r8 : List COper := [⟨some 42,.arith .add (.t 29) (.c (.int .i64 1)),none⟩,
 ⟨some 29,.move (.t 42),none⟩]
def c58_l0 : CCode :=
  (.kill [30,31,32,7,33,34,35,36,37,38,39,40,41,42] (.seq (.region c58_r5) (.seq (.cond (.t 30) .skip (.exit 0)) (.seq (.kill [31,32,7,33,34,35,36,37,38,39,40,41] (.block 1 (.seq (.kill [31,32] (.region c58_r6)) (.draws 10 c58_r7)))) (.region c58_r8)))))
def c58_r9 : List COper := [⟨some 43,.move (.t 1),none⟩,
 ⟨some 44,.len (.t 43),none⟩,
 ⟨some 45,.eq .scalar false (.t 44) (.c (.int .i64 0)),none⟩]
def c58_r10 : List COper := [⟨some 46,.move (.t 5),none⟩,
 ⟨some 47,.buildSlice [(.int .u8 0)] 1 [(0,1,(.c (.int .u8 45)))],none⟩,
 ⟨some 48,.append 1 1 (.t 46) (.t 47),none⟩,
 ⟨some 5,.move (.t 48),none⟩]
def c58_r11 : List COper := [⟨some 49,.move (.t 0),none⟩,
 ⟨some 50,.move (.t 5),none⟩,
 ⟨some 51,.b2s (.t 50),none⟩,
 ⟨some 52,.buildSlice [(.str [])] 1 [(0,1,(.t 51))],none⟩,
 ⟨some 53,.call (.f 82) [(.t 49),(.t 52)],none⟩]
def c58_r12 : List COper := [⟨some 54,.move (.t 1),none⟩,
 ⟨some 4,.move (.t 54),none⟩]
def c58_r13 : List COper := [⟨some 55,.move (.t 0),none⟩,
 ⟨some 56,.call (.f 81) [(.t 55)],none⟩,
 ⟨some 8,.move (.t 56),none⟩]
def c58_r14 : List COper := [⟨some 57,.move (.t 8),none⟩,
 ⟨some 58,.eq .scalar false (.t 57) (.c (.str [45])),none⟩]
def c58_r15 : List COper := [⟨some 4,.move (.c .nils),none⟩]
def c58_r16 : List COper := [⟨some 59,.move (.t 8),none⟩,
 ⟨some 60,.eq .scalar true (.t 59) (.c (.str [])),none⟩,
 ⟨some 61,.move (.t 60),none⟩,
 ⟨some 62,.move (.t 8),some (61,true)⟩,
 ⟨some 63,.lenStr (.t 62),some (61,true)⟩,
 ⟨some 64,.arith .rem (.t 63) (.c (.int .i64 2)),some (61,true)⟩,
 ⟨some 65,.eq .scalar false (.t 64) (.c (.int .i64 0)),some (61,true)⟩,
 ⟨some 66,.pick (.t 61) (.t 65) (.c (.bool false)),none⟩,
 ⟨some 67,.move (.t 66),none⟩,
 ⟨some 68,.move (.t 8),some (67,true)⟩,
 ⟨some 69,.lenStr (.t 68),some (67,true)⟩,
 ⟨some 70,.arith .quo (.t 69) (.c (.int .i64 2)),some (67,true)⟩,
 ⟨some 71,.arith .leq (.t 70) (.c (.int .i64 65536)),some (67,true)⟩,
 ⟨some 72,.pick (.t 67) (.t 71) (.c (.bool false)),none⟩,
 ⟨some 73,.call (.f 28) [(.t 72),(.c (.int .i64 250))],none⟩]
def c58_r17 : List COper := [⟨some 9,.move (.c .nils),none⟩]
def c58_r18 : List COper := [⟨some 10,.move (.c (.int .i64 0)),none⟩]
def c58_r19 : List COper := [⟨some 74,.move (.t 10),none⟩,
 ⟨some 75,.move (.t 8),none⟩,
 ⟨some 76,.lenStr (.t 75),none⟩,
 ⟨some 77,.arith .lss (.t 74) (.t 76),none⟩]
def c58_r20 : List DItem := [⟨0,⟨some 80,.move (.t 8),none⟩,.quiet,[],false⟩,
 ⟨1,⟨some 81,.move (.t 10),none⟩,.quiet,[],false⟩,
 ⟨2,⟨some 82,.idxStr (.t 80) (.t 81),none⟩,.quiet,[0,1],false⟩,
 ⟨4,⟨some 84,.move (.t 8),none⟩,.quiet,[],false⟩,
 ⟨5,⟨some 85,.move (.t 10),none⟩,.quiet,[],false⟩,
 ⟨6,⟨some 86,.arith .add (.t 85) (.c (.int .i64 1)),none⟩,.quiet,[5],false⟩,
 ⟨7,⟨some 87,.idxStr (.t 84) (.t 86),none⟩,.quiet,[4,6,5],false⟩,
 ⟨3,⟨some 83,.call (.f 67) [(.c (.str [48,49,50,51,52,53,54,55,56,57,97,98,99,100,101,102])),(.t 82)],none⟩,.eff,[2,0,1],true⟩,
 ⟨8,⟨some 88,.call (.f 67) [(.c (.str [48,49,50,51,52,53,54,55,56,57,97,98,99,100,101,102])),(.t 87)],none⟩,.eff,[7,3,4,6,5,2,0,1],true⟩,
 ⟨9,⟨some 11,.move (.t 83),none⟩,.quiet,[3,8,0,1,2,7,4,6,5],false⟩,
 ⟨10,⟨some 12,.move (.t 88),none⟩,.quiet,[8,9,0,1,2,3,4,5,6,7],false⟩]
def c58_r21 : List COper := [⟨some 89,.move (.t 11),none⟩,
 ⟨some 90,.arith .geq (.t 89) (.c (.int .i64 0)),none⟩,
 ⟨some 91,.move (.t 90),none⟩,
 ⟨some 92,.move (.t 12),some (91,true)⟩,
 ⟨some 93,.arith .geq (.t 92) (.c (.int .i64 0)),some (91,true)⟩,
 ⟨some 94,.pick (.t 91) (.t 93) (.c (.bool false)),none⟩,
 ⟨some 95,.call (.f 28) [(.t 94),(.c (.int .i64 250))],none⟩]
def c58_r22 : List COper := [⟨some 96,.move (.t 9),none⟩,
 ⟨some 97,.move (.t 11),none⟩,
 ⟨some 98,.shift .shl (.t 97) (.c (.int .u64 4)),none⟩,
 ⟨some 99,.move (.t 12),none⟩,
 ⟨some 100,.arith .or (.t 98) (.t 99),none⟩,
 ⟨some 101,.conv .u8 (.t 100),none⟩,
 ⟨some 102,.buildSlice [(.int .u8 0)] 1 [(0,1,(.t 101))],none⟩,
 ⟨some 103,.append 1 1 (.t 96) (.t 102),none⟩,
 ⟨some 9,.move (.t 103),none⟩]
def c58_r23 : List COper := [⟨some 78,.move (.t 10),none⟩,
 ⟨some 79,.arith .add (.t 78) (.c (.int .i64 2)),none⟩,
 ⟨some 10,.move (.t 79),none⟩]
def c58_l1 : CCode :=
  (.kill [74,75,76,77,80,81,82,83,84,85,86,87,88,11,12,89,90,91,92,93,94,95,96,97,98,99,100,101,102,103,78,79] (.seq (.kill [74,75,76,77] (.seq (.kill [74,75,76] (.region c58_r19)) (.cond (.t 77) .skip (.exit 2)))) (.seq (.kill [80,81,82,83,84,85,86,87,88,11,12,89,90,91,92,93,94,95,96,97,98,99,100,101,102,103] (.block 3 (.seq (.kill [80,81,82,83,84,85,86,87,88] (.draws 11 c58_r20)) (.seq (.kill [89,90,91,92,93,94,95] (.region c58_r21)) (.region c58_r22))))) (.region c58_r23))))
def c58_r24 : List COper := [⟨some 104,.move (.t 9),none⟩,
 ⟨some 4,.move (.t 104),none⟩]
def c58 : CFunc := ⟨105,(.seq (.region c58_r0) (.seq (.kill [13,14,15,16,17,18,19,20,21,22,23,24,25,26,5,27,28,29,30,31,32,7,33,34,35,36,37,38,39,40,41,42,43,44,45,46,47,48,49,50,51,52,53,54] (.seq (.kill [13,14,15,16] (.region c58_r1)) (.cond (.t 17) (.seq (.kill [18,19,20,21] (.region c58_r2)) (.seq (.kill [22,23,24,25,26] (.region c58_r3)) (.seq (.kill [27,28,29,30,31,32,7,33,34,35,36,37,38,39,40,41,42] (.seq (.kill [30,31,32,7,33,34,35,36,37,38,39,40,41,42] (.region c58_r4)) (.block 0 (.loop c58_l0)))) (.seq (.kill [43,44,45,46,47,48] (.seq (.kill [43,44] (.region c58_r9)) (.cond (.t 45) (.region c58_r10) .skip))) (.seq (.kill [49,50,51,52,53] (.region c58_r11)) (.seq (.kill [54] (.region c58_r12)) .ret)))))) .skip))) (.seq (.kill [55,56] (.region c58_r13)) (.seq (.kill [57,58] (.seq (.kill [57] (.region c58_r14)) (.cond (.t 58) (.seq (.region c58_r15) .ret) .skip))) (.seq (.kill [59,60,61,62,63,64,65,66,67,68,69,70,71,72,73] (.region c58_r16)) (.seq (.region c58_r17) (.seq (.kill [10,74,75,76,77,80,81,82,83,84,85,86,87,88,11,12,89,90,91,92,93,94,95,96,97,98,99,100,101,102,103,78,79] (.seq (.kill [74,75,76,77,80,81,82,83,84,85,86,87,88,11,12,89,90,91,92,93,94,95,96,97,98,99,100,101,102,103,78,79] (.region c58_r18)) (.block 2 (.loop c58_l1)))) (.seq (.kill [104] (.region c58_r24)) .ret)))))))),[.tmp 4]⟩
def c59_r0 : List COper := [⟨some 8,.move (.t 1),none⟩,
 ⟨some 9,.len (.t 8),none⟩,
 ⟨some 10,.move (.c (.int .i64 0)),none⟩]
def c59_r1 : List COper := [⟨some 11,.arith .lss (.t 10) (.t 9),none⟩]
def c59_r2 : List COper := [⟨some 12,.move (.t 10),none⟩,
 ⟨some 13,.indexSl 1 (.t 8) (.t 10),none⟩,
 ⟨some 14,.load .one (.t 13),none⟩,
 ⟨some 6,.move (.t 12),none⟩,
 ⟨some 7,.move (.t 14),none⟩]
def c59_r3 : List COper := [⟨some 15,.move (.t 0),none⟩,
 ⟨some 16,.move (.t 7),none⟩,
 ⟨some 17,.call (.f 50) [(.t 15),(.t 16)],none⟩]
def c59_r4 : List COper := [⟨some 18,.move (.t 0),none⟩,
 ⟨some 19,.move (.t 2),none⟩,
 ⟨some 20,.move (.t 6),none⟩,
 ⟨some 21,.indexSl 1 (.t 19) (.t 20),none⟩,
 ⟨some 22,.load .one (.t 21),none⟩,
 ⟨some 23,.call (.f 90) [(.t 18),(.t 22)],none⟩]
def c59_r5 : List COper := [⟨some 24,.arith .add (.t 10) (.c (.int .i64 1)),none⟩,
 ⟨some 10,.move (.t 24),none⟩]
def c59_l0 : CCode :=
  (.kill [11,12,13,14,6,7,15,16,17,18,19,20,21,22,23,24] (.seq (.region c59_r1) (.seq (.cond (.t 11) .skip (.exit 0)) (.seq (.kill [12,13,14,6,7,15,16,17,18,19,20,21,22,23] (.block 1 (.seq (.kill [12,13,14] (.region c59_r2)) (.seq (.kill [15,16,17] (.region c59_r3)) (.region c59_r4))))) (.region c59_r5)))))
def c59 : CFunc := ⟨25,(.seq (.kill [11,12,13,14,6,7,15,16,17,18,19,20,21,22,23,24] (.region c59_r0)) (.block 0 (.loop c59_l0))),[]⟩
def c60_r0 : List COper := [⟨some 5,.move (.t 1),none⟩,
 ⟨some 6,.nilCheck (.t 5),none⟩,
 ⟨some 7,.load .one (.t 6),none⟩,
 ⟨some 8,.conv .u64 (.t 7),none⟩,
 ⟨some 4,.alloc [(.int .u64 0)],none⟩,
 ⟨none,.store 1 (.t 4) (.t 8),none⟩]
def c60_r1 : List COper := [⟨some 9,.move (.t 0),none⟩,
 ⟨some 10,.conv .u32 (.c (.int .i64 0)),none⟩,
 ⟨some 11,.un .xor (.t 10),none⟩,
 ⟨some 12,.conv .u64 (.t 11),none⟩,
 ⟨some 13,.call (.f 57) [(.t 9),(.t 4),(.t 12)],none⟩]
def c60_r2 : List COper := [⟨some 14,.move (.t 1),none⟩,
 ⟨some 15,.load .one (.t 4),none⟩,
 ⟨some 16,.conv .u32 (.t 15),none⟩,
 ⟨some 17,.nilCheck (.t 14),none⟩,
 ⟨none,.store 1 (.t 17) (.t 16),none⟩]
def c60 : CFunc := ⟨18,(.seq (.kill [5,6,7,8] (.region c60_r0)) (.seq (.kill [9,10,11,12,13] (.region c60_r1)) (.region c60_r2))),[]⟩
def c61_r0 : List COper := [⟨some 5,.move (.t 1),none⟩,
 ⟨some 6,.nilCheck (.t 5),none⟩,
 ⟨some 7,.load .one (.t 6),none⟩,
 ⟨some 8,.conv .u64 (.t 7),none⟩,
 ⟨some 4,.alloc [(.int .u64 0)],none⟩,
 ⟨none,.store 1 (.t 4) (.t 8),none⟩]
def c61_r1 : List COper := [⟨some 9,.move (.t 0),none⟩,
 ⟨some 10,.conv .u16 (.c (.int .i64 0)),none⟩,
 ⟨some 11,.un .xor (.t 10),none⟩,
 ⟨some 12,.conv .u64 (.t 11),none⟩,
 ⟨some 13,.call (.f 57) [(.t 9),(.t 4),(.t 12)],none⟩]
def c61_r2 : List COper := [⟨some 14,.move (.t 1),none⟩,
 ⟨some 15,.load .one (.t 4),none⟩,
 ⟨some 16,.conv .u16 (.t 15),none⟩,
 ⟨some 17,.nilCheck (.t 14),none⟩,
 ⟨none,.store 1 (.t 17) (.t 16),none⟩]
def c61 : CFunc := ⟨18,(.seq (.kill [5,6,7,8] (.region c61_r0)) (.seq (.kill [9,10,11,12,13] (.region c61_r1)) (.region c61_r2))),[]⟩
def c62_r0 : List COper := [⟨some 10,.move (.t 0),none⟩,
 ⟨some 11,.nilCheck (.t 10),none⟩,
 ⟨some 12,.fieldAddr 1 (.t 11),none⟩,
 ⟨some 13,.load .one (.t 12),none⟩,
 ⟨some 14,.un .not (.t 13),none⟩]
def c62_r1 : List COper := [⟨some 15,.move (.t 2),none⟩,
 ⟨some 8,.move (.t 15),none⟩]
def c62_r2 : List COper := [⟨some 16,.move (.t 1),none⟩,
 ⟨some 17,.nilCheck (.t 16),none⟩,
 ⟨some 18,.load .one (.t 17),none⟩]
def c62_r3 : List COper := [⟨some 19,.move (.t 3),none⟩,
 ⟨some 8,.move (.t 19),none⟩]
def c62_r4 : List COper := [⟨some 20,.move (.t 0),none⟩,
 ⟨some 21,.move (.t 8),none⟩,
 ⟨some 22,.buildSlice [(.str [])] 1 [(0,1,(.t 21))],none⟩,
 ⟨some 23,.call (.f 82) [(.t 20),(.t 22)],none⟩]
def c62_r5 : List COper := [⟨some 24,.move (.t 0),none⟩,
 ⟨some 25,.call (.f 81) [(.t 24)],none⟩,
 ⟨some 9,.move (.t 25),none⟩]
def c62_r6 : List COper := [⟨some 26,.move (.t 9),none⟩,
 ⟨some 27,.move (.t 2),none⟩,
 ⟨some 28,.eq .scalar false (.t 26) (.t 27),none⟩,
 ⟨some 29,.move (.t 28),none⟩,
 ⟨some 30,.move (.t 9),some (29,false)⟩,
 ⟨some 31,.move (.t 3),some (29,false)⟩,
 ⟨some 32,.eq .scalar false (.t 30) (.t 31),some (29,false)⟩,
 ⟨some 33,.pick (.t 29) (.c (.bool true)) (.t 32),none⟩,
 ⟨some 34,.call (.f 28) [(.t 33),(.c (.int .i64 250))],none⟩]
def c62_r7 : List COper := [⟨some 35,.move (.t 1),none⟩,
 ⟨some 36,.move (.t 9),none⟩,
 ⟨some 37,.move (.t 3),none⟩,
 ⟨some 38,.eq .scalar false (.t 36) (.t 37),none⟩,
 ⟨some 39,.nilCheck (.t 35),none⟩,
 ⟨none,.store 1 (.t 39) (.t 38),none⟩]
def c62 : CFunc := ⟨40,(.seq (.kill [10,11,12,13,14,15,8,16,17,18,19,20,21,22,23] (.seq (.kill [10,11,12,13] (.region c62_r0)) (.cond (.t 14) (.seq (.kill [15] (.region c62_r1)) (.seq (.kill [16,17,18,19] (.seq (.kill [16,17] (.region c62_r2)) (.cond (.t 18) (.region c62_r3) .skip))) (.seq (.kill [20,21,22,23] (.region c62_r4)) .ret))) .skip))) (.seq (.kill [24,25] (.region c62_r5)) (.seq (.kill [26,27,28,29,30,31,32,33,34] (.region c62_r6)) (.region c62_r7)))),[]⟩
def c64_r0 : List COper := [⟨some 2,.move (.c (.int .i64 0)),none⟩]
def c64_r1 : List COper := [⟨some 3,.move (.t 0),none⟩]
def c64_r2 : List COper := [⟨some 2,.move (.c (.int .i64 1)),none⟩]
def c64_r3 : List COper := [⟨some 2,.move (.c (.int .i64 0)),none⟩]
def c64 : CFunc := ⟨4,(.seq (.region c64_r0) (.seq (.kill [3] (.seq (.region c64_r1) (.cond (.t 3) (.seq (.region c64_r2) .ret) .skip))) (.seq (.region c64_r3) .ret))),[.tmp 2]⟩
def c66_r0 : List COper := [⟨some 5,.load .one (.t 1),none⟩,
 ⟨some 6,.lenStr (.t 5),none⟩,
 ⟨some 7,.arith .gtr (.t 6) (.c (.int .i64 0)),none⟩]
def c66_r1 : List COper := [⟨some 3,.move (.c (.str [])),none⟩]
def c66_r2 : List COper := [⟨some 8,.load .one (.t 1),none⟩,
 ⟨some 9,.call (.f 67) [(.t 8),(.c (.int .u8 10))],none⟩,
 ⟨some 4,.move (.t 9),none⟩]
def c66_r3 : List COper := [⟨some 10,.move (.t 4),none⟩,
 ⟨some 11,.arith .geq (.t 10) (.c (.int .i64 0)),none⟩]
def c66_r4 : List DItem := [⟨0,⟨some 12,.load .one (.t 1),none⟩,.read,[],false⟩,
 ⟨1,⟨some 13,.move (.t 4),none⟩,.quiet,[],false⟩,
 ⟨2,⟨some 14,.arith .add (.t 13) (.c (.int .i64 1)),none⟩,.quiet,[1],false⟩,
 ⟨3,⟨some 15,.sliceStr (.t 12) none (some (.t 14)),none⟩,.quiet,[0,2,1],false⟩,
 ⟨4,⟨some 16,.load .one (.t 1),none⟩,.read,[],false⟩,
 ⟨5,⟨some 17,.move (.t 4),none⟩,.quiet,[],false⟩,
 ⟨6,⟨some 18,.arith .add (.t 17) (.c (.int .i64 1)),none⟩,.quiet,[5],false⟩,
 ⟨7,⟨some 19,.sliceStr (.t 16) (some (.t 18)) none,none⟩,.quiet,[4,6,5],false⟩,
 ⟨8,⟨some 3,.move (.t 15),none⟩,.quiet,[3,0,1,2],false⟩,
 ⟨9,⟨none,.store 1 (.t 1) (.t 19),none⟩,.eff,[7,8,0,1,2,3,4,5,6],true⟩]
def c66_r5 : List COper := [⟨some 20,.load .one (.t 1),none⟩,
 ⟨some 3,.move (.t 20),none⟩,
 ⟨none,.store 1 (.t 1) (.c (.str [])),none⟩]
def c66_r6 : List COper := [⟨some 21,.move (.t 0),none⟩,
 ⟨some 22,.move (.t 3),none⟩,
 ⟨some 23,.call (.t 21) [(.t 22)],none⟩,
 ⟨some 24,.un .not (.t 23),none⟩]
def c66_l0 : CCode :=
  (.kill [5,6,7,3,8,9,4,10,11,12,13,14,15,16,17,18,19,20,21,22,23,24] (.seq (.kill [5,6,7] (.seq (.kill [5,6] (.region c66_r0)) (.cond (.t 7) .skip (.exit 0)))) (.block 1 (.seq (.region c66_r1) (.seq (.kill [8,9,4,10,11,12,13,14,15,16,17,18,19,20] (.seq (.kill [8,9] (.region c66_r2)) (.seq (.kill [10] (.region c66_r3)) (.cond (.t 11) (.draws 10 c66_r4) (.region c66_r5))))) (.seq (.kill [21,22,23] (.region c66_r6)) (.cond (.t 24) .ret .skip)))))))
def c66 : CFunc := ⟨25,(.block 0 (.loop c66_l0)),[]⟩
def c69_r0 : List COper := [⟨some 1,.box (.t 0),none⟩]
def c69_r1 : List DItem := [⟨0,⟨some 2,.fieldAddr 0 (.t 1),none⟩,.quiet,[],false⟩,
 ⟨1,⟨some 3,.load .one (.t 2),none⟩,.read,[0],false⟩,
 ⟨2,⟨some 4,.fieldAddr 1 (.t 1),none⟩,.quiet,[],false⟩,
 ⟨3,⟨some 5,.load .one (.t 4),none⟩,.read,[2],false⟩,
 ⟨4,⟨some 6,.nilCheck (.t 5),none⟩,.quiet,[3,2],false⟩,
 ⟨5,⟨some 7,.fieldAddr 1 (.t 6),none⟩,.quiet,[4,3,2],false⟩,
 ⟨6,⟨some 8,.call (.f 90) [(.t 3),(.t 7)],none⟩,.eff,[1,5,0,4,3,2],true⟩]
def c69 : CFunc := ⟨9,(.seq (.region c69_r0) (.draws 7 c69_r1)),[]⟩
def c70_r0 : List COper := [⟨some 1,.box (.t 0),none⟩]
def c70_r1 : List DItem := [⟨0,⟨some 2,.fieldAddr 0 (.t 1),none⟩,.quiet,[],false⟩,
 ⟨1,⟨some 3,.load .one (.t 2),none⟩,.read,[0],false⟩,
 ⟨2,⟨some 4,.fieldAddr 1 (.t 1),none⟩,.quiet,[],false⟩,
 ⟨3,⟨some 5,.load .one (.t 4),none⟩,.read,[2],false⟩,
 ⟨4,⟨some 6,.nilCheck (.t 5),none⟩,.quiet,[3,2],false⟩,
 ⟨5,⟨some 7,.fieldAddr 2 (.t 6),none⟩,.quiet,[4,3,2],false⟩,
 ⟨6,⟨some 8,.call (.f 90) [(.t 3),(.t 7)],none⟩,.eff,[1,5,0,4,3,2],true⟩]
def c70 : CFunc := ⟨9,(.seq (.region c70_r0) (.draws 7 c70_r1)),[]⟩
def c71_r0 : List COper := [⟨some 1,.box (.t 0),none⟩]
def c71_r1 : List DItem := [⟨0,⟨some 2,.fieldAddr 0 (.t 1),none⟩,.quiet,[],false⟩,
 ⟨1,⟨some 3,.load .one (.t 2),none⟩,.read,[0],false⟩,
 ⟨2,⟨some 4,.fieldAddr 1 (.t 1),none⟩,.quiet,[],false⟩,
 ⟨3,⟨some 5,.load .one (.t 4),none⟩,.read,[2],false⟩,
 ⟨4,⟨some 6,.nilCheck (.t 5),none⟩,.quiet,[3,2],false⟩,
 ⟨5,⟨some 7,.fieldAddr 3 (.t 6),none⟩,.quiet,[4,3,2],false⟩,
 ⟨6,⟨some 8,.call (.f 90) [(.t 3),(.t 7)],none⟩,.eff,[1,5,0,4,3,2],true⟩]
def c71 : CFunc := ⟨9,(.seq (.region c71_r0) (.draws 7 c71_r1)),[]⟩
def c72_r0 : List COper := [⟨some 1,.box (.t 0),none⟩]
def c72_r1 : List DItem := [⟨0,⟨some 2,.fieldAddr 0 (.t 1),none⟩,.quiet,[],false⟩,
 ⟨1,⟨some 3,.load .one (.t 2),none⟩,.read,[0],false⟩,
 ⟨2,⟨some 4,.fieldAddr 1 (.t 1),none⟩,.quiet,[],false⟩,
 ⟨3,⟨some 5,.load .one (.t 4),none⟩,.read,[2],false⟩,
 ⟨4,⟨some 6,.nilCheck (.t 5),none⟩,.quiet,[3,2],false⟩,
 ⟨5,⟨some 7,.fieldAddr 7 (.t 6),none⟩,.quiet,[4,3,2],false⟩,
 ⟨6,⟨some 8,.call (.f 61) [(.t 3),(.t 7)],none⟩,.eff,[1,5,0,4,3,2],true⟩]
def c72 : CFunc := ⟨9,(.seq (.region c72_r0) (.draws 7 c72_r1)),[]⟩
def c73_r0 : List COper := [⟨some 1,.box (.t 0),none⟩]
def c73_r1 : List DItem := [⟨0,⟨some 2,.fieldAddr 0 (.t 1),none⟩,.quiet,[],false⟩,
 ⟨1,⟨some 3,.load .one (.t 2),none⟩,.read,[0],false⟩,
 ⟨2,⟨some 4,.fieldAddr 1 (.t 1),none⟩,.quiet,[],false⟩,
 ⟨3,⟨some 5,.load .one (.t 4),none⟩,.read,[2],false⟩,
 ⟨4,⟨some 6,.nilCheck (.t 5),none⟩,.quiet,[3,2],false⟩,
 ⟨5,⟨some 7,.fieldAddr 8 (.t 6),none⟩,.quiet,[4,3,2],false⟩,
 ⟨6,⟨some 8,.call (.f 60) [(.t 3),(.t 7)],none⟩,.eff,[1,5,0,4,3,2],true⟩]
def c73 : CFunc := ⟨9,(.seq (.region c73_r0) (.draws 7 c73_r1)),[]⟩
def c74_r0 : List COper := [⟨some 1,.box (.t 0),none⟩]
def c74_r1 : List DItem := [⟨0,⟨some 2,.fieldAddr 0 (.t 1),none⟩,.quiet,[],false⟩,
 ⟨1,⟨some 3,.load .one (.t 2),none⟩,.read,[0],false⟩,
 ⟨2,⟨some 4,.fieldAddr 1 (.t 1),none⟩,.quiet,[],false⟩,
 ⟨3,⟨some 5,.load .one (.t 4),none⟩,.read,[2],false⟩,
 ⟨4,⟨some 6,.nilCheck (.t 5),none⟩,.quiet,[3,2],false⟩,
 ⟨5,⟨some 7,.fieldAddr 9 (.t 6),none⟩,.quiet,[4,3,2],false⟩,
 ⟨6,⟨some 8,.call (.f 62) [(.t 3),(.t 7),(.c (.str [111])),(.c (.str [117]))],none⟩,.eff,[1,5,0,4,3,2],true⟩]
def c74 : CFunc := ⟨9,(.seq (.region c74_r0) (.draws 7 c74_r1)),[]⟩
def c75_r0 : List COper := [⟨some 1,.box (.t 0),none⟩]
def c75_r1 : List DItem := [⟨0,⟨some 2,.fieldAddr 1 (.t 1),none⟩,.quiet,[],false⟩,
 ⟨1,⟨some 3,.load .one (.t 2),none⟩,.read,[0],false⟩,
 ⟨2,⟨some 4,.fieldAddr 0 (.t 1),none⟩,.quiet,[],false⟩,
 ⟨3,⟨some 5,.load .one (.t 4),none⟩,.read,[2],false⟩,
 ⟨4,⟨some 6,.fieldAddr 1 (.t 1),none⟩,.quiet,[],false⟩,
 ⟨5,⟨some 7,.load .one (.t 6),none⟩,.read,[4],false⟩,
 ⟨6,⟨some 8,.nilCheck (.t 7),none⟩,.quiet,[5,4],false⟩,
 ⟨7,⟨some 9,.fieldAddr 10 (.t 8),none⟩,.quiet,[6,5,4],false⟩,
 ⟨8,⟨some 10,.load .one (.t 9),none⟩,.read,[7,6,5,4],false⟩,
 ⟨9,⟨some 11,.call (.f 58) [(.t 5),(.t 10)],none⟩,.eff,[3,8,2,7,6,5,4],true⟩,
 ⟨10,⟨some 12,.nilCheck (.t 3),none⟩,.quiet,[1,0,2,3,4,5,6,7,8,9],false⟩,
 ⟨11,⟨some 13,.fieldAddr 10 (.t 12),none⟩,.quiet,[10,0,1,2,3,4,5,6,7,8,9],false⟩,
 ⟨12,⟨none,.store 1 (.t 13) (.t 11),none⟩,.eff,[11,9,0,1,2,3,4,5,6,7,8,10],true⟩]
def c75 : CFunc := ⟨14,(.seq (.region c75_r0) (.draws 13 c75_r1)),[]⟩
def c76_r0 : List COper := [⟨some 1,.box (.t 0),none⟩]
def c76_r1 : List DItem := [⟨0,⟨some 2,.fieldAddr 1 (.t 1),none⟩,.quiet,[],false⟩,
 ⟨1,⟨some 3,.load .one (.t 2),none⟩,.read,[0],false⟩,
 ⟨2,⟨some 4,.fieldAddr 0 (.t 1),none⟩,.quiet,[],false⟩,
 ⟨3,⟨some 5,.load .one (.t 4),none⟩,.read,[2],false⟩,
 ⟨4,⟨some 6,.fieldAddr 1 (.t 1),none⟩,.quiet,[],false⟩,
 ⟨5,⟨some 7,.load .one (.t 6),none⟩,.read,[4],false⟩,
 ⟨6,⟨some 8,.nilCheck (.t 7),none⟩,.quiet,[5,4],false⟩,
 ⟨7,⟨some 9,.fieldAddr 11 (.t 8),none⟩,.quiet,[6,5,4],false⟩,
 ⟨8,⟨some 10,.load .one (.t 9),none⟩,.read,[7,6,5,4],false⟩,
 ⟨9,⟨some 11,.s2b (.t 10),none⟩,.new,[8,7,6,5,4],false⟩,
 ⟨10,⟨some 12,.call (.f 58) [(.t 5),(.t 11)],none⟩,.eff,[3,9,2,8,7,6,5,4],true⟩,
 ⟨11,⟨some 13,.b2s (.t 12),none⟩,.read,[10,3,9,2,8,7,6,5,4],false⟩,
 ⟨12,⟨some 14,.nilCheck (.t 3),none⟩,.quiet,[1,0,2,3,4,5,6,7,8,9,10,11],false⟩,
 ⟨13,⟨some 15,.fieldAddr 11 (.t 14),none⟩,.quiet,[12,0,1,2,3,4,5,6,7,8,9,10,11],false⟩,
 ⟨14,⟨none,.store 1 (.t 15) (.t 13),none⟩,.eff,[13,11,10,0,1,2,3,4,5,6,7,8,9,12],true⟩]
def c76 : CFunc := ⟨16,(.seq (.region c76_r0) (.draws 15 c76_r1)),[]⟩
def c77_r0 : List COper := [⟨some 1,.box (.t 0),none⟩]
def c77_r1 : List DItem := [⟨0,⟨some 2,.fieldAddr 0 (.t 1),none⟩,.quiet,[],false⟩,
 ⟨1,⟨some 3,.load .one (.t 2),none⟩,.read,[0],false⟩,
 ⟨2,⟨some 4,.fieldAddr 1 (.t 1),none⟩,.quiet,[],false⟩,
 ⟨3,⟨some 5,.load .one (.t 4),none⟩,.read,[2],false⟩,
 ⟨4,⟨some 6,.nilCheck (.t 5),none⟩,.quiet,[3,2],false⟩,
 ⟨5,⟨some 7,.fieldAddr 6 (.t 6),none⟩,.quiet,[4,3,2],false⟩,
 ⟨6,⟨some 8,.call (.f 90) [(.t 3),(.t 7)],none⟩,.eff,[1,5,0,4,3,2],true⟩]
def c77 : CFunc := ⟨9,(.seq (.region c77_r0) (.draws 7 c77_r1)),[]⟩
def c78_r0 : List COper := [⟨some 2,.move (.c .nils),none⟩]
def c78_r1 : List COper := [⟨some 3,.move (.t 0),none⟩,
 ⟨some 4,.eq .slice false (.t 3) (.c .nils),none⟩]
def c78_r2 : List COper := [⟨some 2,.move (.c .nils),none⟩]
def c78_r3 : List COper := [⟨some 5,.buildSlice [] 0 [],none⟩,
 ⟨some 6,.move (.t 0),none⟩,
 ⟨some 7,.append 1 8 (.t 5) (.t 6),none⟩,
 ⟨some 2,.move (.t 7),none⟩]
def c78 : CFunc := ⟨8,(.seq (.region c78_r0) (.seq (.kill [3,4] (.seq (.kill [3] (.region c78_r1)) (.cond (.t 4) (.seq (.region c78_r2) .ret) .skip))) (.seq (.kill [5,6,7] (.region c78_r3)) .ret))),[.tmp 2]⟩
def c79_r0 : List COper := [⟨some 1,.box (.t 0),none⟩]
def c79_r1 : List DItem := [⟨0,⟨some 2,.fieldAddr 0 (.t 1),none⟩,.quiet,[],false⟩,
 ⟨1,⟨some 3,.load .one (.t 2),none⟩,.read,[0],false⟩,
 ⟨2,⟨some 4,.fieldAddr 1 (.t 1),none⟩,.quiet,[],false⟩,
 ⟨3,⟨some 5,.load .one (.t 4),none⟩,.read,[2],false⟩,
 ⟨4,⟨some 6,.nilCheck (.t 5),none⟩,.quiet,[3,2],false⟩,
 ⟨5,⟨some 7,.fieldAddr 4 (.t 6),none⟩,.quiet,[4,3,2],false⟩,
 ⟨6,⟨some 8,.call (.f 90) [(.t 3),(.t 7)],none⟩,.eff,[1,5,0,4,3,2],true⟩]
def c79 : CFunc := ⟨9,(.seq (.region c79_r0) (.draws 7 c79_r1)),[]⟩
def c80_r0 : List COper := [⟨some 1,.box (.t 0),none⟩]
def c80_r1 : List DItem := [⟨0,⟨some 2,.fieldAddr 0 (.t 1),none⟩,.quiet,[],false⟩,
 ⟨1,⟨some 3,.load .one (.t 2),none⟩,.read,[0],false⟩,
 ⟨2,⟨some 4,.fieldAddr 1 (.t 1),none⟩,.quiet,[],false⟩,
 ⟨3,⟨some 5,.load .one (.t 4),none⟩,.read,[2],false⟩,
 ⟨4,⟨some 6,.nilCheck (.t 5),none⟩,.quiet,[3,2],false⟩,
 ⟨5,⟨some 7,.fieldAddr 5 (.t 6),none⟩,.quiet,[4,3,2],false⟩,
 ⟨6,⟨some 8,.call (.f 98) [(.t 3),(.t 7)],none⟩,.eff,[1,5,0,4,3,2],true⟩]
def c80 : CFunc := ⟨9,(.seq (.region c80_r0) (.draws 7 c80_r1)),[]⟩
def c81_r0 : List COper := [⟨some 2,.move (.c (.str [])),none⟩]
def c81_r1 : List COper := [⟨some 4,.move (.t 0),none⟩,
 ⟨some 5,.nilCheck (.t 4),none⟩,
 ⟨some 6,.fieldAddr 0 (.t 5),none⟩,
 ⟨some 7,.load .one (.t 6),none⟩,
 ⟨some 8,.len (.t 7),none⟩,
 ⟨some 9,.arith .gtr (.t 8) (.c (.int .i64 0)),none⟩,
 ⟨some 10,.call (.f 28) [(.t 9),(.c (.int .i64 250))],none⟩]
def c81_r2 : List COper := [⟨some 11,.move (.t 0),none⟩,
 ⟨some 12,.nilCheck (.t 11),none⟩,
 ⟨some 13,.fieldAddr 0 (.t 12),none⟩,
 ⟨some 14,.load .one (.t 13),none⟩,
 ⟨some 15,.indexSl 1 (.t 14) (.c (.int .i64 0)),none⟩,
 ⟨some 16,.load .one (.t 15),none⟩,
 ⟨some 3,.move (.t 16),none⟩]
def c81_r3 : List COper := [⟨some 17,.move (.t 0),none⟩,
 ⟨some 18,.move (.t 0),none⟩,
 ⟨some 19,.nilCheck (.t 18),none⟩,
 ⟨some 20,.fieldAddr 0 (.t 19),none⟩,
 ⟨some 21,.load .one (.t 20),none⟩,
 ⟨some 22,.sliceSl 1 (.t 21) (some (.c (.int .i64 1))) none,none⟩,
 ⟨some 23,.nilCheck (.t 17),none⟩,
 ⟨some 24,.fieldAddr 0 (.t 23),none⟩,
 ⟨none,.store 1 (.t 24) (.t 22),none⟩]
def c81_r4 : List COper := [⟨some 25,.move (.t 3),none⟩,
 ⟨some 2,.move (.t 25),none⟩]
def c81 : CFunc := ⟨26,(.seq (.region c81_r0) (.seq (.kill [4,5,6,7,8,9,10] (.region c81_r1)) (.seq (.kill [11,12,13,14,15,16] (.region c81_r2)) (.seq (.kill [17,18,19,20,21,22,23,24] (.region c81_r3)) (.seq (.kill [25] (.region c81_r4)) .ret))))),[.tmp 2]⟩
def c82_r0 : List COper := [⟨some 4,.move (.t 0),none⟩,
 ⟨some 5,.move (.t 0),none⟩,
 ⟨some 6,.nilCheck (.t 5),none⟩,
 ⟨some 7,.fieldAddr 0 (.t 6),none⟩,
 ⟨some 8,.load .one (.t 7),none⟩,
 ⟨some 9,.move (.t 1),none⟩,
 ⟨some 10,.append 1 16 (.t 8) (.t 9),none⟩,
 ⟨some 11,.nilCheck (.t 4),none⟩,
 ⟨some 12,.fieldAddr 0 (.t 11),none⟩,
 ⟨none,.store 1 (.t 12) (.t 10),none⟩]
def c82 : CFunc := ⟨13,(.region c82_r0),[]⟩
def c90_r0 : List COper := [⟨some 5,.move (.t 0),none⟩,
 ⟨some 6,.nilCheck (.t 5),none⟩,
 ⟨some 7,.fieldAddr 1 (.t 6),none⟩,
 ⟨some 8,.load .one (.t 7),none⟩,
 ⟨some 9,.un .not (.t 8),none⟩]
def c90_r1 : List COper := [⟨some 10,.move (.t 1),none⟩,
 ⟨some 11,.nilCheck (.t 10),none⟩,
 ⟨some 12,.load .one (.t 11),none⟩,
 ⟨some 13,.arith .geq (.t 12) (.c (.int .i64 0)),none⟩,
 ⟨some 14,.move (.t 13),none⟩,
 ⟨some 15,.move (.t 1),some (14,true)⟩,
 ⟨some 16,.nilCheck (.t 15),some (14,true)⟩,
 ⟨some 17,.load .one (.t 16),some (14,true)⟩,
 ⟨some 18,.arith .leq (.t 17) (.c (.int .i64 1099511627776)),some (14,true)⟩,
 ⟨some 19,.pick (.t 14) (.t 18) (.c (.bool false)),none⟩,
 ⟨some 20,.call (.f 28) [(.t 19),(.c (.int .i64 1))],none⟩]
def c90_r2 : List COper := [⟨some 21,.move (.t 1),none⟩,
 ⟨some 22,.nilCheck (.t 21),none⟩,
 ⟨some 23,.load .one (.t 22),none⟩,
 ⟨some 24,.conv .u64 (.t 23),none⟩,
 ⟨some 4,.alloc [(.int .u64 0)],none⟩,
 ⟨none,.store 1 (.t 4) (.t 24),none⟩]
def c90_r3 : List COper := [⟨some 25,.move (.t 0),none⟩,
 ⟨some 26,.call (.f 57) [(.t 25),(.t 4),(.c (.int .u64 1099511627776))],none⟩]
def c90_r4 : List COper := [⟨some 27,.move (.t 1),none⟩,
 ⟨some 28,.load .one (.t 4),none⟩,
 ⟨some 29,.conv .i64 (.t 28),none⟩,
 ⟨some 30,.nilCheck (.t 27),none⟩,
 ⟨none,.store 1 (.t 30) (.t 29),none⟩]
def c90 : CFunc := ⟨31,(.seq (.kill [5,6,7,8,9,10,11,12,13,14,15,16,17,18,19,20] (.seq (.kill [5,6,7,8] (.region c90_r0)) (.cond (.t 9) (.region c90_r1) .skip))) (.seq (.kill [21,22,23,24] (.region c90_r2)) (.seq (.kill [25,26] (.region c90_r3)) (.region c90_r4)))),[]⟩
def c98_r0 : List COper := [⟨some 5,.move (.t 1),none⟩,
 ⟨some 6,.nilCheck (.t 5),none⟩,
 ⟨some 7,.load .one (.t 6),none⟩,
 ⟨some 8,.conv .u64 (.t 7),none⟩,
 ⟨some 4,.alloc [(.int .u64 0)],none⟩,
 ⟨none,.store 1 (.t 4) (.t 8),none⟩]
def c98_r1 : List COper := [⟨some 9,.move (.t 0),none⟩,
 ⟨some 10,.conv .u8 (.c (.int .i64 0)),none⟩,
 ⟨some 11,.un .xor (.t 10),none⟩,
 ⟨some 12,.conv .u64 (.t 11),none⟩,
 ⟨some 13,.call (.f 57) [(.t 9),(.t 4),(.t 12)],none⟩]
def c98_r2 : List COper := [⟨some 14,.move (.t 1),none⟩,
 ⟨some 15,.load .one (.t 4),none⟩,
 ⟨some 16,.conv .u8 (.t 15),none⟩,
 ⟨some 17,.nilCheck (.t 14),none⟩,
 ⟨none,.store 1 (.t 17) (.t 16),none⟩]
def c98 : CFunc := ⟨18,(.seq (.kill [5,6,7,8] (.region c98_r0)) (.seq (.kill [9,10,11,12,13] (.region c98_r1)) (.region c98_r2))),[]⟩
def tab : Nat → Option CFunc
  | 3 => some c3
  | 4 => some c4
  | 5 => some c5
  | 6 => some c6
  | 7 => some c7
  | 8 => some c8
  | 9 => some c9
  | 10 => some c10
  | 11 => some c11
  | 12 => some c12
  | 13 => some c13
  | 14 => some c14
  | 15 => some c15
  | 16 => some c16
  | 17 => some c17
  | 18 => some c18
  | 19 => some c19
  | 20 => some c20
  | 21 => some c21
  | 22 => some c22
  | 23 => some c23
  | 24 => some c24
  | 25 => some c25
  | 26 => some c26
  | 27 => some c27
  | 28 => some c28
  | 29 => some c29
  | 30 => some c30
  | 31 => some c31
  | 33 => some c33
  | 34 => some c34
  | 35 => some c35
  | 36 => some c36
  | 37 => some c37
  | 38 => some c38
  | 39 => some c39
  | 41 => some c41
  | 42 => some c42
  | 43 => some c43
  | 45 => some c45
  | 47 => some c47
  | 48 => some c48
  | 49 => some c49
  | 50 => some c50
  | 52 => some c52
  | 53 => some c53
  | 54 => some c54
  | 56 => some c56
  | 57 => some c57
  | 58 => some c58
  | 59 => some c59
  | 60 => some c60
  | 61 => some c61
  | 62 => some c62
  | 64 => some c64
  | 66 => some c66
  | 69 => some c69
  | 70 => some c70
  | 71 => some c71
  | 72 => some c72
  | 73 => some c73
  | 74 => some c74
  | 75 => some c75
  | 76 => some c76
  | 77 => some c77
  | 78 => some c78
  | 79 => some c79
  | 80 => some c80
  | 81 => some c81
  | 82 => some c82
  | 90 => some c90
  | 98 => some c98
  | _ => none
end Go.S

namespace Go.S
open Go Go.Ab Go.Proofs
set_option maxRecDepth 100000
theorem mixed : Tryz.prog.follows .mixedOrders = true := by kernel_rfl
theorem ok3 : FuncOk cDraw Tryz.prog 3 c3 := funcB_ok mixed Tryz.func3 (by kernel_rfl)
theorem ok4 : FuncOk cDraw Tryz.prog 4 c4 := funcB_ok mixed Tryz.func4 (by kernel_rfl)
theorem ok5 : FuncOk cDraw Tryz.prog 5 c5 := funcB_ok mixed Tryz.func5 (by kernel_rfl)
theorem ok6 : FuncOk cDraw Tryz.prog 6 c6 := funcB_ok mixed Tryz.func6 (by kernel_rfl)
theorem ok7 : FuncOk cDraw Tryz.prog 7 c7 := funcB_ok mixed Tryz.func7 (by kernel_rfl)
theorem ok8 : FuncOk cDraw Tryz.prog 8 c8 := funcB_ok mixed Tryz.func8 (by kernel_rfl)
theorem ok9 : FuncOk cDraw Tryz.prog 9 c9 := funcB_ok mixed Tryz.func9 (by kernel_rfl)
theorem ok10 : FuncOk cDraw Tryz.prog 10 c10 := funcB_ok mixed Tryz.func10 (by kernel_rfl)
theorem ok11 : FuncOk cDraw Tryz.prog 11 c11 := funcB_ok mixed Tryz.func11 (by kernel_rfl)
theorem ok12 : FuncOk cDraw Tryz.prog 12 c12 := funcB_ok mixed Tryz.func12 (by kernel_rfl)
theorem ok13 : FuncOk cDraw Tryz.prog 13 c13 := funcB_ok mixed Tryz.func13 (by kernel_rfl)
theorem ok14 : FuncOk cDraw Tryz.prog 14 c14 := funcB_ok mixed Tryz.func14 (by kernel_rfl)
theorem ok15 : FuncOk cDraw Tryz.prog 15 c15 := funcB_ok mixed Tryz.func15 (by kernel_rfl)
theorem ok16 : FuncOk cDraw Tryz.prog 16 c16 := funcB_ok mixed Tryz.func16 (by kernel_rfl)
theorem ok17 : FuncOk cDraw Tryz.prog 17 c17 := funcB_ok mixed Tryz.func17 (by kernel_rfl)
theorem ok18 : FuncOk cDraw Tryz.prog 18 c18 := funcB_ok mixed Tryz.func18 (by kernel_rfl)
theorem ok19 : FuncOk cDraw Tryz.prog 19 c19 := funcB_ok mixed Tryz.func19 (by kernel_rfl)
theorem ok20 : FuncOk cDraw Tryz.prog 20 c20 := funcB_ok mixed Tryz.func20 (by kernel_rfl)
theorem ok21 : FuncOk cDraw Tryz.prog 21 c21 := funcB_ok mixed Tryz.func21 (by kernel_rfl)
theorem ok22 : FuncOk cDraw Tryz.prog 22 c22 := funcB_ok mixed Tryz.func22 (by kernel_rfl)
theorem ok23 : FuncOk cDraw Tryz.prog 23 c23 := funcB_ok mixed Tryz.func23 (by kernel_rfl)
theorem ok24 : FuncOk cDraw Tryz.prog 24 c24 := funcB_ok mixed Tryz.func24 (by kernel_rfl)
theorem ok25 : FuncOk cDraw Tryz.prog 25 c25 := funcB_ok mixed Tryz.func25 (by kernel_rfl)
theorem ok26 : FuncOk cDraw Tryz.prog 26 c26 := funcB_ok mixed Tryz.func26 (by kernel_rfl)
theorem ok27 : FuncOk cDraw Tryz.prog 27 c27 := funcB_ok mixed Tryz.func27 (by kernel_rfl)
theorem ok28 : FuncOk cDraw Tryz.prog 28 c28 := funcB_ok mixed Tryz.func28 (by kernel_rfl)
theorem ok29 : FuncOk cDraw Tryz.prog 29 c29 := funcB_ok mixed Tryz.func29 (by kernel_rfl)
theorem ok30 : FuncOk cDraw Tryz.prog 30 c30 := funcB_ok mixed Tryz.func30 (by kernel_rfl)
theorem ok31 : FuncOk cDraw Tryz.prog 31 c31 := funcB_ok mixed Tryz.func31 (by kernel_rfl)
theorem ok33 : FuncOk cDraw Tryz.prog 33 c33 := funcB_ok mixed Tryz.func33 (by kernel_rfl)
theorem ok34 : FuncOk cDraw Tryz.prog 34 c34 := funcB_ok mixed Tryz.func34 (by kernel_rfl)
theorem ok35 : FuncOk cDraw Tryz.prog 35 c35 := funcB_ok mixed Tryz.func35 (by kernel_rfl)
theorem ok36 : FuncOk cDraw Tryz.prog 36 c36 := funcB_ok mixed Tryz.func36 (by kernel_rfl)
theorem ok37 : FuncOk cDraw Tryz.prog 37 c37 := funcB_ok mixed Tryz.func37 (by kernel_rfl)
theorem ok38 : FuncOk cDraw Tryz.prog 38 c38 := funcB_ok mixed Tryz.func38 (by kernel_rfl)
theorem ok39 : FuncOk cDraw Tryz.prog 39 c39 := funcB_ok mixed Tryz.func39 (by kernel_rfl)
theorem ok41 : FuncOk cDraw Tryz.prog 41 c41 := funcB_ok mixed Tryz.func41 (by kernel_rfl)
theorem ok42 : FuncOk cDraw Tryz.prog 42 c42 := funcB_ok mixed Tryz.func42 (by kernel_rfl)
theorem ok43 : FuncOk cDraw Tryz.prog 43 c43 := funcB_ok mixed Tryz.func43 (by kernel_rfl)
theorem ok45 : FuncOk cDraw Tryz.prog 45 c45 := funcB_ok mixed Tryz.func45 (by kernel_rfl)
theorem ok47 : FuncOk cDraw Tryz.prog 47 c47 := funcB_ok mixed Tryz.func47 (by kernel_rfl)
theorem ok48 : FuncOk cDraw Tryz.prog 48 c48 := funcB_ok mixed Tryz.func48 (by kernel_rfl)
theorem ok49 : FuncOk cDraw Tryz.prog 49 c49 := funcB_ok mixed Tryz.func49 (by kernel_rfl)
theorem ok50 : FuncOk cDraw Tryz.prog 50 c50 := funcB_ok mixed Tryz.func50 (by kernel_rfl)
theorem ok52 : FuncOk cDraw Tryz.prog 52 c52 := funcB_ok mixed Tryz.func52 (by kernel_rfl)
theorem ok53 : FuncOk cDraw Tryz.prog 53 c53 := funcB_ok mixed Tryz.func53 (by kernel_rfl)
theorem ok54 : FuncOk cDraw Tryz.prog 54 c54 := funcB_ok mixed Tryz.func54 (by kernel_rfl)
theorem ok56 : FuncOk cDraw Tryz.prog 56 c56 := funcB_ok mixed Tryz.func56 (by kernel_rfl)
theorem ok57 : FuncOk cDraw Tryz.prog 57 c57 := funcB_ok mixed Tryz.func57 (by kernel_rfl)
theorem ok58 : FuncOk cDraw Tryz.prog 58 c58 := funcB_ok mixed Tryz.func58 (by kernel_rfl)
theorem ok59 : FuncOk cDraw Tryz.prog 59 c59 := funcB_ok mixed Tryz.func59 (by kernel_rfl)
theorem ok60 : FuncOk cDraw Tryz.prog 60 c60 := funcB_ok mixed Tryz.func60 (by kernel_rfl)
theorem ok61 : FuncOk cDraw Tryz.prog 61 c61 := funcB_ok mixed Tryz.func61 (by kernel_rfl)
theorem ok62 : FuncOk cDraw Tryz.prog 62 c62 := funcB_ok mixed Tryz.func62 (by kernel_rfl)
theorem ok64 : FuncOk cDraw Tryz.prog 64 c64 := funcB_ok mixed Tryz.func64 (by kernel_rfl)
theorem ok66 : FuncOk cDraw Tryz.prog 66 c66 := funcB_ok mixed Tryz.func66 (by kernel_rfl)
theorem ok69 : FuncOk cDraw Tryz.prog 69 c69 := funcB_ok mixed Tryz.func69 (by kernel_rfl)
theorem ok70 : FuncOk cDraw Tryz.prog 70 c70 := funcB_ok mixed Tryz.func70 (by kernel_rfl)
theorem ok71 : FuncOk cDraw Tryz.prog 71 c71 := funcB_ok mixed Tryz.func71 (by kernel_rfl)
theorem ok72 : FuncOk cDraw Tryz.prog 72 c72 := funcB_ok mixed Tryz.func72 (by kernel_rfl)
theorem ok73 : FuncOk cDraw Tryz.prog 73 c73 := funcB_ok mixed Tryz.func73 (by kernel_rfl)
theorem ok74 : FuncOk cDraw Tryz.prog 74 c74 := funcB_ok mixed Tryz.func74 (by kernel_rfl)
theorem ok75 : FuncOk cDraw Tryz.prog 75 c75 := funcB_ok mixed Tryz.func75 (by kernel_rfl)
theorem ok76 : FuncOk cDraw Tryz.prog 76 c76 := funcB_ok mixed Tryz.func76 (by kernel_rfl)
theorem ok77 : FuncOk cDraw Tryz.prog 77 c77 := funcB_ok mixed Tryz.func77 (by kernel_rfl)
theorem ok78 : FuncOk cDraw Tryz.prog 78 c78 := funcB_ok mixed Tryz.func78 (by kernel_rfl)
theorem ok79 : FuncOk cDraw Tryz.prog 79 c79 := funcB_ok mixed Tryz.func79 (by kernel_rfl)
theorem ok80 : FuncOk cDraw Tryz.prog 80 c80 := funcB_ok mixed Tryz.func80 (by kernel_rfl)
theorem ok81 : FuncOk cDraw Tryz.prog 81 c81 := funcB_ok mixed Tryz.func81 (by kernel_rfl)
theorem ok82 : FuncOk cDraw Tryz.prog 82 c82 := funcB_ok mixed Tryz.func82 (by kernel_rfl)
theorem ok90 : FuncOk cDraw Tryz.prog 90 c90 := funcB_ok mixed Tryz.func90 (by kernel_rfl)
theorem ok98 : FuncOk cDraw Tryz.prog 98 c98 := funcB_ok mixed Tryz.func98 (by kernel_rfl)
theorem tab_ok : ∀ f cf, tab f = some cf → FuncOk cDraw Tryz.prog f cf := by
  intro f cf h
  unfold tab at h
  split at h <;> simp only [Option.some.injEq, reduceCtorEq] at h <;> subst h
  · exact ok3
  · exact ok4
  · exact ok5
  · exact ok6
  · exact ok7
  · exact ok8
  · exact ok9
  · exact ok10
  · exact ok11
  · exact ok12
  · exact ok13
  · exact ok14
  · exact ok15
  · exact ok16
  · exact ok17
  · exact ok18
  · exact ok19
  · exact ok20
  · exact ok21
  · exact ok22
  · exact ok23
  · exact ok24
  · exact ok25
  · exact ok26
  · exact ok27
  · exact ok28
  · exact ok29
  · exact ok30
  · exact ok31
  · exact ok33
  · exact ok34
  · exact ok35
  · exact ok36
  · exact ok37
  · exact ok38
  · exact ok39
  · exact ok41
  · exact ok42
  · exact ok43
  · exact ok45
  · exact ok47
  · exact ok48
  · exact ok49
  · exact ok50
  · exact ok52
  · exact ok53
  · exact ok54
  · exact ok56
  · exact ok57
  · exact ok58
  · exact ok59
  · exact ok60
  · exact ok61
  · exact ok62
  · exact ok64
  · exact ok66
  · exact ok69
  · exact ok70
  · exact ok71
  · exact ok72
  · exact ok73
  · exact ok74
  · exact ok75
  · exact ok76
  · exact ok77
  · exact ok78
  · exact ok79
  · exact ok80
  · exact ok81
  · exact ok82
  · exact ok90
  · exact ok98
end Go.S

