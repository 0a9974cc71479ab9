/- A part of the proof: Ab.W6. No conditions. -/
import Derived.Test.YtkgpnpgocgllnaaGreatDoorLinesP0
import Derived.Test.YtkgpnpgocgllnaaGreatDoorLinesP1
set_option linter.unusedSimpArgs false
set_option linter.unusedVariables false
set_option linter.unnecessarySimpa false
set_option linter.unusedSectionVars false
set_option linter.constructorNameAsVariable false
namespace Go.Ab
open Go

/-! Regions that draw their order, where an object may be made ahead of an effect that does not stand behind it. -/

theorem mergeX_congr {base : Nat} {p p' : Tr AObj} {sel : Nat → Bool} (H : Heap) : ∀ n, (∀ i, i < n → sel i = true → p.get i = p'.get i) → mergeN base p sel n H = mergeN base p' sel n H
  | 0, _ => rfl
  | n + 1, h => by
    simp only [mergeN, mergeX_congr H n (fun i hi => h i (by omega))]
    by_cases hs : sel n = true
    · simp [hs, h n (by omega) hs]
    · simp [hs]
theorem validX_congr {r r' : Tr Rd} (H : Heap) : ∀ n, (∀ i, i < n → r.get i = r'.get i) → validN r H n = validN r' H n
  | 0, _ => rfl
  | n + 1, h => by simp only [validN, validX_congr H n (fun i hi => h i (by omega)), h n (by omega)]
theorem keepX_get {r : Tr Rd} {sel : Nat → Bool} : ∀ {n i : Nat}, (keepN r sel n).get i = if i < n ∧ sel i = false then r.get i else none
  | 0, i => by simp [keepN, Tr.get]
  | n + 1, i => by
    simp only [keepN]
    cases hs : sel n with
    | true =>
      simp only [if_true, keepX_get (n := n)]
      by_cases e : i = n
      · subst e; simp [hs]
      · have : i < n + 1 ↔ i < n := by omega
        simp [this]
    | false =>
      simp only [Bool.false_eq_true, if_false]
      cases hg : r.get n with
      | none =>
        simp only [keepX_get (n := n)]
        by_cases e : i = n
        · subst e; simp [hg]
        · have : i < n + 1 ↔ i < n := by omega
          simp [this]
      | some o =>
        simp only [Tr.get_set, keepX_get (n := n)]
        by_cases e : i = n
        · subst e; simp [hs, hg]
        · have : i < n + 1 ↔ i < n := by omega
          simp [this, e]
theorem dropX_get {r : Tr AObj} {sel : Nat → Bool} : ∀ {n i : Nat}, (dropN r sel n).get i = if i < n ∧ sel i = false then r.get i else none
  | 0, i => by simp [dropN, Tr.get]
  | n + 1, i => by
    simp only [dropN]
    cases hs : sel n with
    | true =>
      simp only [if_true, dropX_get (n := n)]
      by_cases e : i = n
      · subst e; simp [hs]
      · have : i < n + 1 ↔ i < n := by omega
        simp [this]
    | false =>
      simp only [Bool.false_eq_true, if_false]
      cases hg : r.get n with
      | none =>
        simp only [dropX_get (n := n)]
        by_cases e : i = n
        · subst e; simp [hg]
        · have : i < n + 1 ↔ i < n := by omega
          simp [this]
      | some o =>
        simp only [Tr.get_set, dropX_get (n := n)]
        by_cases e : i = n
        · subst e; simp [hs, hg]
        · have : i < n + 1 ↔ i < n := by omega
          simp [this, e]

theorem drawGo_congr {E : Env} {n base : Nat} {dsts : List Nat} : ∀ (items : List DItem) (r r' : Tr Rd) (p p' : Tr AObj) (s : St), (∀ i, i < n → r.get i = r'.get i) → (∀ i, i < n → p.get i = p'.get i) →
    drawGo E n base dsts items r p s = drawGo E n base dsts items r' p' s
  | [], r, r', p, p', s, hr, hp => by simp only [drawGo, mergeX_congr _ n (fun i hi _ => hp i hi)]
  | it :: rest, r, r', p, p', s, hr, hp => by
    simp only [drawGo, dstep]
    by_cases hh : heavy it s.T = true
    · rw [if_pos hh, if_pos hh, mergeX_congr _ n (fun i hi _ => hp i hi)]
      cases doOp E it.op { s with H := mergeN base p' (inAnc it) n s.H } with
      | none => rfl
      | some q =>
        obtain ⟨ex, s'⟩ := q
        cases ex with
        | norm =>
          have hk : ∀ i, i < n → (keepN r (inAnc it) n).get i = (keepN r' (inAnc it) n).get i := fun i hi => by rw [keepX_get, keepX_get, hr i hi]
          have hd : ∀ i, i < n → (dropN p (inAnc it) n).get i = (dropN p' (inAnc it) n).get i := fun i hi => by rw [dropX_get, dropX_get, hp i hi]
          simp only [validX_congr _ n hk]
          by_cases hv : validN (keepN r' (inAnc it) n) s'.H n = true
          · rw [if_pos hv, if_pos hv]; exact drawGo_congr rest _ _ _ _ _ hk hd
          · rw [if_neg hv, if_neg hv]
        | panic v =>
          rfl
        | _ => rfl
    · rw [if_neg hh, if_neg hh]
      cases light E.O base it s.T s.H with
      | none => rfl
      | some q =>
        simp only [Option.map_some]
        refine drawGo_congr rest _ _ _ _ _ ?_ ?_
        · intro i hi; rw [Tr.set_get, Tr.set_get, hr i hi]
        · intro i hi; rw [Tr.set_get, Tr.set_get, hp i hi]

theorem trP_rest (anc : List Nat) (i : Nat) : ∀ l, (trP (restP anc l)).get i = if anc.contains i = true then none else (trP l).get i
  | [] => by simp [restP, trP, Tr.get]
  | e :: l => by
    simp only [restP]
    by_cases h : anc.contains e.1 = true
    · rw [if_pos h, trP_rest anc i l]
      by_cases h2 : anc.contains i = true
      · simp only [if_pos h2]
      · have : i ≠ e.1 := by rintro rfl; exact h2 h
        simp only [if_neg h2, trP, Tr.get_set, if_neg this]
    · rw [if_neg h]
      simp only [trP, Tr.get_set, trP_rest anc i l]
      by_cases h2 : i = e.1
      · subst h2; simp only [if_pos rfl, if_neg h]
      · simp only [if_neg h2]
theorem trP_pick (anc : List Nat) (i : Nat) : ∀ l, (trP (pickP anc l)).get i = if anc.contains i = true then (trP l).get i else none
  | [] => by simp [pickP, trP, Tr.get]
  | e :: l => by
    simp only [pickP]
    by_cases h : anc.contains e.1 = true
    · rw [if_pos h]
      simp only [trP, Tr.get_set, trP_pick anc i l]
      by_cases h2 : i = e.1
      · subst h2; simp only [if_pos rfl, if_pos h]
      · simp only [if_neg h2]
    · rw [if_neg h, trP_pick anc i l]
      by_cases h2 : anc.contains i = true
      · have : i ≠ e.1 := by rintro rfl; exact h h2
        simp only [if_pos h2, trP, Tr.get_set, if_neg this]
      · simp only [if_neg h2]
theorem trR_keep (anc : List Nat) (i : Nat) : ∀ l, (trR (keepR anc l)).get i = if anc.contains i = true then none else (trR l).get i
  | [] => by simp [keepR, trR, Tr.get]
  | e :: l => by
    simp only [keepR]
    by_cases h : anc.contains e.1 = true
    · rw [if_pos h, trR_keep anc i l]
      by_cases h2 : anc.contains i = true
      · simp only [if_pos h2]
      · have : i ≠ e.1 := by rintro rfl; exact h2 h
        simp only [if_neg h2, trR, Tr.get_set, if_neg this]
    · rw [if_neg h]
      simp only [trR, Tr.get_set, trR_keep anc i l]
      by_cases h2 : i = e.1
      · subst h2; simp only [if_pos rfl, if_neg h]
      · simp only [if_neg h2]
theorem trR_mem {i : Nat} {r : Rd} : ∀ {l : List (Nat × Rd)}, (trR l).get i = some r → (i, r) ∈ l
  | [], h => by simp [trR, Tr.get] at h
  | e :: l, h => by
    simp only [trR, Tr.get_set] at h
    split at h
    · rename_i he; obtain rfl := Option.some.inj h; subst he; exact List.mem_cons_self
    · exact List.mem_cons_of_mem _ (trR_mem h)

theorem mergeX_next (base : Nat) (p : Tr AObj) (sel : Nat → Bool) (H : Heap) : ∀ n, (mergeN base p sel n H).next = H.next
  | 0 => rfl
  | n + 1 => by
    have ih := mergeX_next base p sel H n
    simp only [mergeN]
    cases sel n with
    | false => simpa using ih
    | true => cases p.get n <;> simpa using ih
theorem mergeX_get (base : Nat) (p : Tr AObj) (sel : Nat → Bool) (H : Heap) (j : Nat) : ∀ n, (mergeN base p sel n H).get j =
    if base ≤ j ∧ j < base + n ∧ sel (j - base) = true then (match p.get (j - base) with | some o => some o | none => H.get j) else H.get j
  | 0 => by rw [if_neg (by omega)]; rfl
  | n + 1 => by
    have ih := mergeX_get base p sel H j n
    simp only [mergeN]
    by_cases hj : j = base + n
    · subst hj
      rw [if_neg (by omega)] at ih
      have e : base + n - base = n := by omega
      rw [e]
      cases hs : sel n with
      | false => simp [ih]
      | true =>
        cases hp : p.get n with
        | none => simp [ih]
        | some o => simp [Heap.get_set]
    · have hc : (base ≤ j ∧ j < base + (n + 1) ∧ sel (j - base) = true) ↔ (base ≤ j ∧ j < base + n ∧ sel (j - base) = true) := by
        constructor <;> rintro ⟨a, b, c⟩ <;> exact ⟨a, by omega, c⟩
      simp only [hc]
      rw [← ih]
      cases hs : sel n with
      | false => rfl
      | true =>
        cases hp : p.get n with
        | none => rfl
        | some o => simp [Heap.get_set, hj]
theorem mergeP_next (base n : Nat) (l : List (Nat × AObj)) (H : Heap) : (mergeP base n l H).next = H.next := mergeX_next _ _ _ _ _
theorem mergeP_get (base n : Nat) (l : List (Nat × AObj)) (H : Heap) (k : Nat) (hk : k < n) : (mergeP base n l H).get (base + k) = (match (trP l).get k with | some o => some o | none => H.get (base + k)) := by
  unfold mergeP
  rw [mergeX_get, if_pos ⟨by omega, by omega, rfl⟩, show base + k - base = k by omega]
theorem mergeP_old (base n : Nat) (l : List (Nat × AObj)) (H : Heap) (j : Nat) (hj : j < base) : (mergeP base n l H).get j = H.get j := by
  unfold mergeP
  rw [mergeX_get, if_neg (by omega)]
theorem mergeP_ext {S : List Nat} {H0 H : Heap} {base n : Nat} {l : List (Nat × AObj)} (h : H0.ext S H) (hb : H0.next ≤ base) : H0.ext S (mergeP base n l H) :=
  ⟨by rw [mergeP_next]; exact h.1, fun i hi hs => by rw [mergeP_old _ _ _ _ _ (by omega)]; exact h.2 i hi hs⟩
@[simp] theorem mergeP_nil (base n : Nat) (H : Heap) : mergeP base n [] H = H := mergeN_nil _ _ _ _
@[simp] theorem mergeP_one (base n k : Nat) (o : AObj) (H : Heap) : mergeP base n [(k, o)] H = if k < n then H.set (base + k) o else H := mergeN_one base k o H n

theorem drawXR_go {E : Env} {n base : Nat} {dsts : List Nat} : ∀ (items : List DItem) (reads : List (Nat × Rd)) (pend : List (Nat × AObj)) (s : St) (q : Ex × St),
    drawXR E n base dsts items reads pend s = some q → drawGo E n base dsts items (trR reads) (trP pend) s = some q
  | [], _, _, _, _, h => h
  | it :: rest, reads, pend, s, q, h => by
    have hm : mergeN base (trP pend) (inAnc it) n s.H = mergeP base n (pickP it.anc pend) s.H := by
      unfold mergeP
      have e1 : mergeN base (trP pend) (inAnc it) n s.H = mergeN base (trP (pickP it.anc pend)) (inAnc it) n s.H :=
        mergeX_congr s.H n (fun j _ hj => by rw [trP_pick, if_pos (by simpa [inAnc] using hj)])
      rw [e1]
      exact mergeN_all (fun j hj => by rw [trP_pick, if_neg (by simpa [inAnc] using hj)]) base s.H n
    simp only [drawXR] at h
    simp only [drawGo, dstep]
    by_cases hh : heavy it s.T = true
    · rw [if_pos hh] at h ⊢
      rw [hm]
      split at h
      case isFalse => cases h
      rename_i hst
      cases ho : doOp E it.op { s with H := mergeP base n (pickP it.anc pend) s.H } with
      | none => rw [ho] at h; cases h
      | some p =>
        obtain ⟨ex, s1⟩ := p
        rw [ho] at h
        rcases doOp_ex ho with rfl | ⟨v, rfl⟩
        · simp only at h ⊢
          split at h
          case isFalse => cases h
          rename_i hv
          rw [validL_iff] at hv
          have hk : ∀ j, (keepN (trR reads) (inAnc it) n).get j = if j < n then (trR (keepR it.anc reads)).get j else none := fun j => by
            rw [keepX_get, trR_keep]
            by_cases hj : j < n <;> by_cases ha : it.anc.contains j = true <;> simp [hj, ha, inAnc] <;> simpa using ha
          have hd : ∀ j, (dropN (trP pend) (inAnc it) n).get j = if j < n then (trP (restP it.anc pend)).get j else none := fun j => by
            rw [dropX_get, trP_rest]
            by_cases hj : j < n <;> by_cases ha : it.anc.contains j = true <;> simp [hj, ha, inAnc] <;> simpa using ha
          have hv2 : validN (keepN (trR reads) (inAnc it) n) s1.H n = true := validN_of (fun j r hg => by
            rw [hk] at hg
            split at hg
            · exact hv _ (trR_mem hg)
            · cases hg)
          rw [if_pos hv2]
          simp only
          rw [drawGo_congr rest _ (trR (keepR it.anc reads)) _ (trP (restP it.anc pend)) s1 (fun j hj => by rw [hk, if_pos hj]) (fun j hj => by rw [hd, if_pos hj])]
          exact drawXR_go rest _ _ _ _ h
        · simp only at h ⊢
          rw [if_pos hst]
          exact h
    · rw [if_neg hh] at h ⊢
      cases hl : light E.O base it s.T s.H with
      | none => rw [hl] at h; cases h
      | some r =>
        rw [hl] at h
        simp only [Option.map_some] at h ⊢
        have := drawXR_go rest _ _ _ _ h
        obtain ⟨r1, r2, r3⟩ := r
        cases r1 <;> cases r2 <;> exact this

section drawW
variable {E : Env} {k : List K} {T : List AV} {D : List ADef} {R : RS} {H : Heap} {Q : Ex → St → Prop} {n base : Nat} {dsts : List Nat} {it : DItem} {items : List DItem} {reads : List (Nat × Rd)} {pend : List (Nat × AObj)}

theorem W_drawsX (h : W E (.drawX n H.next (dstsOf items) items [] [] :: k) .norm ⟨T, D, R, { H with next := H.next + n }⟩ Q) : W E (.code (.draws n items) :: k) .norm ⟨T, D, R, H⟩ Q := by
  obtain ⟨ex, s, h1, h2⟩ := h
  refine ⟨ex, s, ?_, h2⟩
  simp only [evalK, evalC, doDraws] at h1 ⊢
  cases hd : drawXR E n H.next (dstsOf items) items [] [] ⟨T, D, R, { H with next := H.next + n }⟩ with
  | none => rw [hd] at h1; cases h1
  | some q =>
    rw [hd] at h1
    have := drawXR_go items [] [] _ q hd
    rw [show trR [] = .nil from rfl, show trP [] = .nil from rfl] at this
    rw [this]
    exact h1
@[simp] theorem W_drawX_nil : W E (.drawX n base dsts [] reads pend :: k) .norm ⟨T, D, R, H⟩ Q ↔ W E k .norm ⟨T, D, R, mergeP base n pend H⟩ Q := W_iff rfl
@[simp] theorem W_drawX_exit {i : Nat} {s : St} : W E (.drawX n base dsts items reads pend :: k) (.exit i) s Q ↔ W E k (.exit i) s Q := W_iff rfl
@[simp] theorem W_drawX_ret {s : St} : W E (.drawX n base dsts items reads pend :: k) .ret s Q ↔ W E k .ret s Q := W_iff rfl
@[simp] theorem W_drawX_panic {s : St} {v : AV} : W E (.drawX n base dsts items reads pend :: k) (.panic v) s Q ↔ W E k (.panic v) s Q := W_iff rfl

def lightX (E : Env) (n base : Nat) (dsts : List Nat) (items : List DItem) (reads : List (Nat × Rd)) (pend : List (Nat × AObj)) (k : List K) (idx : Nat) (d : Option Nat) (T : List AV) (D : List ADef) (R : RS) (H : Heap) (Q : Ex → St → Prop) : Option (Option Rd × Option AObj × AV) → Prop
  | some (r, o, v) => W E (.drawX n base dsts items (addR reads idx r) (addP pend idx o) :: k) .norm ⟨put T d v, D, R, H⟩ Q
  | none => False
@[simp] theorem lightX_some {idx : Nat} {d : Option Nat} {v : AV} : lightX E n base dsts items reads pend k idx d T D R H Q (some (none, none, v)) ↔
    W E (.drawX n base dsts items reads pend :: k) .norm ⟨put T d v, D, R, H⟩ Q := Iff.rfl
@[simp] theorem lightX_read {idx : Nat} {d : Option Nat} {r : Rd} {v : AV} : lightX E n base dsts items reads pend k idx d T D R H Q (some (some r, none, v)) ↔
    W E (.drawX n base dsts items ((idx, r) :: reads) pend :: k) .norm ⟨put T d v, D, R, H⟩ Q := Iff.rfl
@[simp] theorem lightX_new {idx : Nat} {d : Option Nat} {v : AV} {o : AObj} : lightX E n base dsts items reads pend k idx d T D R H Q (some (none, some o, v)) ↔
    W E (.drawX n base dsts items reads ((idx, o) :: pend) :: k) .norm ⟨put T d v, D, R, H⟩ Q := Iff.rfl

theorem W_drawX_light (h : heavy it T = false) : W E (.drawX n base dsts (it :: items) reads pend :: k) .norm ⟨T, D, R, H⟩ Q ↔ lightX E n base dsts items reads pend k it.idx it.op.dst T D R H Q (light E.O base it T H) := by
  cases hl : light E.O base it T H with
  | none =>
    simp only [lightX, iff_false]
    rintro ⟨ex, s', h1, _⟩
    simp [evalK, drawXR, h, hl] at h1
  | some r =>
    obtain ⟨a, b, c⟩ := r
    refine W_iff ?_
    simp only [evalK, drawXR, h, hl, St.put, Bool.false_eq_true, if_false]

@[simp] theorem W_drawX_quiet {i : Nat} {o : COper} {anc : List Nat} {st : Bool} : W E (.drawX n base dsts (⟨i, o, .quiet, anc, st⟩ :: items) reads pend :: k) .norm ⟨T, D, R, H⟩ Q ↔
    lightX E n base dsts items reads pend k i o.dst T D R H Q (light E.O base ⟨i, o, .quiet, [], false⟩ T H) := W_drawX_light (by simp [heavy])
@[simp] theorem W_drawX_sure {i : Nat} {o : COper} {anc : List Nat} {st : Bool} : W E (.drawX n base dsts (⟨i, o, .sure, anc, st⟩ :: items) reads pend :: k) .norm ⟨T, D, R, H⟩ Q ↔
    lightX E n base dsts items reads pend k i o.dst T D R H Q (light E.O base ⟨i, o, .sure, [], false⟩ T H) := W_drawX_light (by simp [heavy])
@[simp] theorem W_drawX_new {i : Nat} {o : COper} {anc : List Nat} {st : Bool} : W E (.drawX n base dsts (⟨i, o, .new, anc, st⟩ :: items) reads pend :: k) .norm ⟨T, D, R, H⟩ Q ↔
    lightX E n base dsts items reads pend k i o.dst T D R H Q (light E.O base ⟨i, o, .new, [], false⟩ T H) := W_drawX_light (by simp [heavy])
theorem W_drawX_read {i : Nat} {o : COper} {anc : List Nat} {st : Bool} : W E (.drawX n base dsts (⟨i, o, .read, anc, st⟩ :: items) reads pend :: k) .norm ⟨T, D, R, H⟩ Q ↔
    lightX E n base dsts items reads pend k i o.dst T D R H Q (light E.O base ⟨i, o, .read, [], false⟩ T H) := W_drawX_light (by simp [heavy])

def loadX (E : Env) (n base : Nat) (dsts : List Nat) (items : List DItem) (reads : List (Nat × Rd)) (pend : List (Nat × AObj)) (k : List K) (idx : Nat) (d : Option Nat) (T : List AV) (D : List ADef) (R : RS) (H : Heap) (Q : Ex → St → Prop) (a : AV) (p : Part) : Option AV → Prop
  | some v => W E (.drawX n base dsts items ((idx, ⟨fun H => rd E.O H a p, v⟩) :: reads) pend :: k) .norm ⟨put T d v, D, R, H⟩ Q
  | none => False
@[simp] theorem loadX_some {idx : Nat} {d : Option Nat} {a v : AV} {p : Part} : loadX E n base dsts items reads pend k idx d T D R H Q a p (some v) ↔
    W E (.drawX n base dsts items ((idx, ⟨fun H => rd E.O H a p, v⟩) :: reads) pend :: k) .norm ⟨put T d v, D, R, H⟩ Q := Iff.rfl
@[simp] theorem W_drawX_load {i : Nat} {d : Option Nat} {p : Part} {x : Opd} {anc : List Nat} {st : Bool} : W E (.drawX n base dsts (⟨i, ⟨d, .load p x, none⟩, .read, anc, st⟩ :: items) reads pend :: k) .norm ⟨T, D, R, H⟩ Q ↔
    loadX E n base dsts items reads pend k i d T D R H Q (Opd.ev T x) p (rd E.O H (Opd.ev T x) p) := by
  rw [W_drawX_read]
  have hq : ∀ H, aQuiet E.O (.load p x) (Opd.ev T) H = rd E.O H (Opd.ev T x) p := fun _ => rfl
  simp only [light, want, hq]
  cases hr : rd E.O H (Opd.ev T x) p with
  | none => simp [lightX, loadX]
  | some v =>
    simp only [Option.map_some, lightX_read, loadX_some]
    have : aQuiet E.O (.load p x) (Opd.ev T) = fun H => rd E.O H (Opd.ev T x) p := funext hq
    rw [this]
@[simp] theorem W_drawX_indexSl {i sz : Nat} {d : Option Nat} {x y : Opd} {anc : List Nat} {st : Bool} :
    W E (.drawX n base dsts (⟨i, ⟨d, .indexSl sz x y, none⟩, .quiet, anc, st⟩ :: items) reads pend :: k) .norm ⟨T, D, R, H⟩ Q ↔
    lightX E n base dsts items reads pend k i d T D R H Q ((aIndexSl sz (Opd.ev T x) (Opd.ev T y)).map fun v => (none, none, v)) := W_drawX_light (by simp [heavy])

@[simp] theorem W_drawX_eff {i : Nat} {d : Option Nat} {op : COp} {anc : List Nat} : W E (.drawX n base dsts (⟨i, ⟨d, op, none⟩, .eff, anc, true⟩ :: items) reads pend :: k) .norm ⟨T, D, R, H⟩ Q ↔
    W E (.ops [⟨d, op, none⟩] :: .dpanic dsts :: .validR (keepR anc reads) :: .drawX n base dsts items (keepR anc reads) (restP anc pend) :: k) .norm ⟨T, D, R, mergeP base n (pickP anc pend) H⟩ Q := by
  refine W_iff ?_
  have hh : heavy (⟨i, ⟨d, op, none⟩, .eff, anc, true⟩ : DItem) T = true := by simp [heavy, want]
  simp only [evalK, drawXR, hh, if_true, doOps]
  cases ho : doOp E ⟨d, op, none⟩ ⟨T, D, R, mergeP base n (pickP anc pend) H⟩ with
  | none => rfl
  | some q =>
    obtain ⟨ex, s'⟩ := q
    rcases doOp_ex ho with rfl | ⟨v, rfl⟩
    · simp only
      cases validL s'.H (keepR anc reads) <;> rfl
    · rfl
end drawW
attribute [simp] restP pickP
end Go.Ab

