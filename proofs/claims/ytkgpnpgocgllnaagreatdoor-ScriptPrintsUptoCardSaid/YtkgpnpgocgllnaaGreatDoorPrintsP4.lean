/- A part of the proof: S.ConfR S.Set S.Split S.SetR S.LineR S.LineW S.Alive S.Grow S.Ref1 S.Ref2 S.Ref3 S.Ref4 S.Ref8 S.Text S.Ref9 S.Ref5 S.Ref6 S.Ref10 S.Ref7 S.Plain1 S.Plain2 S.PlainL S.Law3 S.Plain3 S.Prnt. No conditions. -/
import Derived.Test.YtkgpnpgocgllnaaGreatDoorPrintsP0
import Derived.Test.YtkgpnpgocgllnaaGreatDoorPrintsP1
import Derived.Test.YtkgpnpgocgllnaaGreatDoorPrintsP2
import Derived.Test.YtkgpnpgocgllnaaGreatDoorPrintsP3
set_option linter.unusedSimpArgs false
set_option linter.unusedVariables false
set_option linter.unnecessarySimpa false
set_option linter.unusedSectionVars false
set_option linter.constructorNameAsVariable false
namespace Go.S
open Go Go.Ab Go.RowKit Go.Proofs
variable {O : Old}

def rdInt (n : B) (ws : List B) : Option (Nat × List B) := (rdWord n ws).bind (rdNum maxTime)
theorem namedR_nil {cs : List AV} {ws : List B} : namedR [] cs ws = some (cs, ws) := rfl
theorem namedR_cons {n : B} {off : Nat} {r : List (B × Nat)} {cs : List AV} {ws : List B} : namedR ((n, off) :: r) cs ws = match rdInt n ws with
    | some (x, ws2) => namedR r (cs.set off (.int .i64 x)) ws2
    | none => none := by
  simp only [namedR, rdInt]
  cases rdWord n ws <;> rfl

def Conf.zero : Conf := ⟨List.replicate 16 0, 0, 0, 0, 0, 0, 0, 0, 0, 0, 0, 0, 0, 0, 0, 0, 0, 0, 0, 0, 0, 0, 0, false, false, false⟩

/-- The settings of words, and what is left. -/
def settingR (ws : List B) : Option (Conf × List B) :=
  (rdWord [99, 111, 110, 102] ws).bind fun ws => (rdWord [115, 101, 101, 100] ws).bind fun ws => (rdNum 18446744073709551615 ws).bind fun (seed, ws) =>
  (rdWord [107, 101, 121] ws).bind fun ws => (rdBytes ws).bind fun (key, ws) => if key.length = 16 then
  (rdInt [108, 105, 102, 101] ws).bind fun (life, ws) =>
  (rdWord [119, 105, 110, 100, 111, 119] ws).bind fun ws => (rdNum 4294967295 ws).bind fun (window, ws) =>
  (rdWord [111, 117, 116] ws).bind fun ws => (rdNum 65535 ws).bind fun (out, ws) =>
  (rdWord [105, 110] ws).bind fun ws => (rdNum 65535 ws).bind fun (inn, ws) =>
  (rdInt [116, 114, 105, 101, 115] ws).bind fun (tries, ws) =>
  (rdInt [108, 97, 115, 116, 115] ws).bind fun (lasts, ws) =>
  (rdWord [112, 111, 114, 116] ws).bind fun ws => (rdNum 65535 ws).bind fun (port, ws) =>
  (rdWord [112, 101, 101, 114] ws).bind fun ws => (rdNum 65535 ws).bind fun (peer, ws) =>
  (rdInt [112, 97, 116, 104, 115] ws).bind fun (paths, ws) =>
  (rdInt [109, 116, 117] ws).bind fun (mtu, ws) =>
  (rdInt [98, 117, 102, 102, 101, 114] ws).bind fun (buffer, ws) =>
  (rdInt [105, 110, 105, 116] ws).bind fun (init, ws) =>
  (rdInt [109, 105, 110] ws).bind fun (mn, ws) =>
  (rdInt [109, 97, 120] ws).bind fun (mx, ws) =>
  (rdInt [101, 114, 114, 111, 114, 115] ws).bind fun (errors, ws) =>
  (rdInt [102, 97, 105, 108] ws).bind fun (fail, ws) =>
  (rdInt [112, 97, 117, 115, 101] ws).bind fun (pause, ws) =>
  (rdInt [109, 111, 115, 116] ws).bind fun (most, ws) =>
  (rdInt [100, 101, 108, 97, 121] ws).bind fun (delay, ws) =>
  (rdInt [115, 99, 104, 101, 100] ws).bind fun (sched, ws) =>
  (rdInt [99, 97, 112] ws).bind fun (cap, ws) =>
  (rdWord [115, 112, 108, 105, 116] ws).bind fun ws => (rdChoice [48] [49] ws).bind fun (split, ws) =>
  (rdWord [110, 114] ws).bind fun ws => (rdChoice [48] [49] ws).bind fun (nr, ws) =>
  (rdWord [99, 111, 117, 112, 108, 101] ws).bind fun ws => (rdChoice [48] [49] ws).bind fun (couple, ws) =>
  some ({ key, seed, life, window, out, inn, tries, lasts, port, peer, paths, mtu, buffer, init, mn, mx, errors, fail, pause, most, delay, sched, cap, split, nr, couple }, ws)
  else none

theorem bout_elems {H H' : Heap} {v : AV} {bs : List UInt8} (h : BOut H H' v bs) : elems O H' v 1 = some (bs.length, u8s bs) := by
  rcases h with ⟨rfl, rfl⟩ | ⟨j, u, rfl, hg, _, _, _⟩
  · rfl
  · have : List.take bs.length (u8s bs) = u8s bs := by rw [← u8s_length, List.take_length]
    simp [elems, rdCells, hg, this]
theorem bout_len {H H' : Heap} {v : AV} {bs : List UInt8} (h : BOut H H' v bs) : aLen v = some (.int .i64 bs.length) := by
  rcases h with ⟨rfl, rfl⟩ | ⟨j, u, rfl, hg, _, _, _⟩ <;> rfl

set_option maxHeartbeats 16000000 in
set_option maxRecDepth 100000 in
theorem setting_r {H0 H : Heap} {l i t : Nat} {ws : List B} {Q : AEnd → RS → Heap → Prop} (h : RI H0 l i t H ws Conf.zero.cells)
    (q : ∀ H' c ws', settingR ws = some (c, ws') → c.key.length = 16 → RI H0 l i t H' ws' c.cells → Q (.ret (.tuple [])) .no H') (qp : ∀ H', settingR ws = none → H0.ext [l, t] H' → Q (.panic (flt 250)) .no H') :
    CallOk (E O) 39 [.ptr l 0 0, .ptr t 0 0] .no H Q := by
  refine CallOk.go c39 rfl rfl ?_
  have kl : (List.replicate 16 (0 : UInt8)).length = 16 := by simp
  replace h : RI H0 l i t H ws (⟨(List.replicate 16 0), 0, 0, 0, 0, 0, 0, 0, 0, 0, 0, 0, 0, 0, 0, 0, 0, 0, 0, 0, 0, 0, 0, false, false, false⟩ : Conf).cells := h
  generalize List.replicate 16 (0 : UInt8) = k0 at h kl
  simp [c39, c39_r0]
  refine word_ri h (fun H1 ws1 e1 h1 => ?_) (fun H' e r => by simp; exact qp H' (by simp [settingR, e]) r)
  simp [c39_r1]
  refine word_ri h1 (fun H2 ws2 e2 h2 => ?_) (fun H' e r => by simp; exact qp H' (by simp [settingR, e1, e]) r)
  simp [c39_r2]
  refine wide_ri (most := 18446744073709551615) h2 (by simp [Conf.cells, Conf.tl]) (fun H3 x3 ws3 e3 h3 => ?_) (fun H' e r => by simp; exact qp H' (by simp [settingR, e1, e2, e]) r)
  have z3seed : (⟨k0, 0, 0, 0, 0, 0, 0, 0, 0, 0, 0, 0, 0, 0, 0, 0, 0, 0, 0, 0, 0, 0, 0, false, false, false⟩ : Conf).cells.set 16 (.int .u64 x3) = (⟨k0, x3, 0, 0, 0, 0, 0, 0, 0, 0, 0, 0, 0, 0, 0, 0, 0, 0, 0, 0, 0, 0, 0, false, false, false⟩ : Conf).cells := by simp [Conf.cells, Conf.tl, List.set_append, kl]
  rw [z3seed] at h3
  simp [c39_r3]
  refine word_ri h3 (fun H4 ws4 e4 h4 => ?_) (fun H' e r => by simp; exact qp H' (by simp [settingR, e1, e2, e3, e]) r)
  simp [c39_r4]
  refine bytes_ri h4 (fun H5 v key ws5 e5 h5 b5 => ?_) (fun H' e r => by simp; exact qp H' (by simp [settingR, e1, e2, e3, e4, e]) r)
  by_cases hk : key.length = 16
  rotate_left
  · have hk2 : ((key.length : Int) == 16) = false := by simp; omega
    simp [c39_r5, bout_len b5, hk2]
    refine must_false ?_
    simp
    exact qp H5 (by simp [settingR, e1, e2, e3, e4, e5, hk]) h5.ext
  have t5 := h5.get
  simp [c39_r5, bout_len b5, hk]
  refine must_true ?_
  have tk2 : List.take 16 (u8s key) = u8s key := by rw [← hk, ← u8s_length, List.take_length]
  have al : (u8s key).all AV.isCell = true := by simp [u8s, u8, AV.isCell]
  have ov : over (⟨k0, x3, 0, 0, 0, 0, 0, 0, 0, 0, 0, 0, 0, 0, 0, 0, 0, 0, 0, 0, 0, 0, 0, false, false, false⟩ : Conf).cells 0 (u8s key) = some (⟨key, x3, 0, 0, 0, 0, 0, 0, 0, 0, 0, 0, 0, 0, 0, 0, 0, 0, 0, 0, 0, 0, 0, false, false, false⟩ : Conf).cells := by
    unfold over; simp [Conf.cells, hk, Conf.tl]; exact List.drop_left' (by simp [kl])
  have el : elems O H5 v 1 = some (16, u8s key) := by
    have := bout_elems (O := O) b5; rw [hk] at this; exact this
  simp [c39_r6, el, t5, tk2, ov, al, wr]
  have h5' : RI H0 l i t (H5.set t (.cells 0 (⟨key, x3, 0, 0, 0, 0, 0, 0, 0, 0, 0, 0, 0, 0, 0, 0, 0, 0, 0, 0, 0, 0, 0, false, false, false⟩ : Conf).cells true)) ws5 (⟨key, x3, 0, 0, 0, 0, 0, 0, 0, 0, 0, 0, 0, 0, 0, 0, 0, 0, 0, 0, 0, 0, 0, false, false, false⟩ : Conf).cells :=
    h5.step (h5.rl.mono (S := [t]) ((Heap.ext_refl _ _).set _ _ (.inl (by simp))) (by simpa using Ne.symm h5.tl) (by simpa using Ne.symm h5.ti)) ((Heap.ext_refl _ _).set _ _ (.inl (by simp))) (by simp) (fun _ h => h)
  generalize H5.set t (AObj.cells 0 (⟨key, x3, 0, 0, 0, 0, 0, 0, 0, 0, 0, 0, 0, 0, 0, 0, 0, 0, 0, 0, 0, 0, 0, false, false, false⟩ : Conf).cells true) = H5' at h5' ⊢
  clear t5
  replace kl : key.length = 16 := hk
  simp [c39_r7]
  refine named_ri [([108, 105, 102, 101], 17)] rfl h5' (H1 := ((H5'.new (.cells 0 [.str [108, 105, 102, 101]] true)).new (.cells 0 [.ptr t 0 17] true))) (((Heap.ext_refl _ _).new _).new _) ⟨by simp, by simp, by simp <;> omega, by simp <;> omega⟩ (by simp) (by simp) ?_ (by simp) (fun H6 cs6 ws6 e6 h6 => ?_) (fun H' e r => ?_)
  · intro p hp
    simp only [List.mem_cons, List.not_mem_nil, or_false] at hp
    rcases hp with rfl
    all_goals exact ⟨0, by simp [Conf.cells, Conf.tl, List.getElem?_append, kl]⟩
  rotate_left
  · simp
    refine qp H' ?_ r
    simp only [namedR_cons, namedR_nil] at e
    cases f0 : rdInt [108, 105, 102, 101] ws5 with
    | none => simp [settingR, e1, e2, e3, e4, e5, hk, f0]
    | some p0 =>
    obtain ⟨v0, w0⟩ := p0
    simp only [f0] at e
    cases e
  simp only [namedR_cons, namedR_nil] at e6
  cases f6_0 : rdInt [108, 105, 102, 101] ws5 with
  | none => simp only [f6_0] at e6; cases e6
  | some p6_0 =>
  obtain ⟨v6_0, w6_0⟩ := p6_0
  simp only [f6_0, Option.some.injEq, Prod.mk.injEq] at e6
  obtain ⟨rfl, rfl⟩ := e6
  have z6life : (⟨key, x3, 0, 0, 0, 0, 0, 0, 0, 0, 0, 0, 0, 0, 0, 0, 0, 0, 0, 0, 0, 0, 0, false, false, false⟩ : Conf).cells.set 17 (.int .i64 v6_0) = (⟨key, x3, v6_0, 0, 0, 0, 0, 0, 0, 0, 0, 0, 0, 0, 0, 0, 0, 0, 0, 0, 0, 0, 0, false, false, false⟩ : Conf).cells := by simp [Conf.cells, Conf.tl, List.set_append, kl]
  rw [z6life] at h6
  simp [c39_r8]
  refine word_ri h6 (fun H7 ws7 e7 h7 => ?_) (fun H' e r => by simp; exact qp H' (by simp [settingR, e1, e2, e3, e4, e5, hk, f6_0, e]) r)
  have y8 : (⟨key, x3, v6_0, 0, 0, 0, 0, 0, 0, 0, 0, 0, 0, 0, 0, 0, 0, 0, 0, 0, 0, 0, 0, false, false, false⟩ : Conf).cells[18]? = some (.int .u32 (0 : Int)) := by simp [Conf.cells, Conf.tl, List.getElem?_append, kl]
  simp [c39_r9]
  refine narrowu32_ri h7 y8 (fun H8 x8 ws8 e8 h8 => ?_) (fun H' e r => by simp; exact qp H' (by simp [settingR, e1, e2, e3, e4, e5, hk, f6_0, e7, e]) r)
  have z8window : (⟨key, x3, v6_0, 0, 0, 0, 0, 0, 0, 0, 0, 0, 0, 0, 0, 0, 0, 0, 0, 0, 0, 0, 0, false, false, false⟩ : Conf).cells.set 18 (.int .u32 x8) = (⟨key, x3, v6_0, x8, 0, 0, 0, 0, 0, 0, 0, 0, 0, 0, 0, 0, 0, 0, 0, 0, 0, 0, 0, false, false, false⟩ : Conf).cells := by simp [Conf.cells, Conf.tl, List.set_append, kl]
  rw [z8window] at h8
  simp [c39_r10]
  refine word_ri h8 (fun H9 ws9 e9 h9 => ?_) (fun H' e r => by simp; exact qp H' (by simp [settingR, e1, e2, e3, e4, e5, hk, f6_0, e7, e8, e]) r)
  have y10 : (⟨key, x3, v6_0, x8, 0, 0, 0, 0, 0, 0, 0, 0, 0, 0, 0, 0, 0, 0, 0, 0, 0, 0, 0, false, false, false⟩ : Conf).cells[19]? = some (.int .u16 (0 : Int)) := by simp [Conf.cells, Conf.tl, List.getElem?_append, kl]
  simp [c39_r11]
  refine narrowu16_ri h9 y10 (fun H10 x10 ws10 e10 h10 => ?_) (fun H' e r => by simp; exact qp H' (by simp [settingR, e1, e2, e3, e4, e5, hk, f6_0, e7, e8, e9, e]) r)
  have z10out : (⟨key, x3, v6_0, x8, 0, 0, 0, 0, 0, 0, 0, 0, 0, 0, 0, 0, 0, 0, 0, 0, 0, 0, 0, false, false, false⟩ : Conf).cells.set 19 (.int .u16 x10) = (⟨key, x3, v6_0, x8, x10, 0, 0, 0, 0, 0, 0, 0, 0, 0, 0, 0, 0, 0, 0, 0, 0, 0, 0, false, false, false⟩ : Conf).cells := by simp [Conf.cells, Conf.tl, List.set_append, kl]
  rw [z10out] at h10
  simp [c39_r12]
  refine word_ri h10 (fun H11 ws11 e11 h11 => ?_) (fun H' e r => by simp; exact qp H' (by simp [settingR, e1, e2, e3, e4, e5, hk, f6_0, e7, e8, e9, e10, e]) r)
  have y12 : (⟨key, x3, v6_0, x8, x10, 0, 0, 0, 0, 0, 0, 0, 0, 0, 0, 0, 0, 0, 0, 0, 0, 0, 0, false, false, false⟩ : Conf).cells[20]? = some (.int .u16 (0 : Int)) := by simp [Conf.cells, Conf.tl, List.getElem?_append, kl]
  simp [c39_r13]
  refine narrowu16_ri h11 y12 (fun H12 x12 ws12 e12 h12 => ?_) (fun H' e r => by simp; exact qp H' (by simp [settingR, e1, e2, e3, e4, e5, hk, f6_0, e7, e8, e9, e10, e11, e]) r)
  have z12inn : (⟨key, x3, v6_0, x8, x10, 0, 0, 0, 0, 0, 0, 0, 0, 0, 0, 0, 0, 0, 0, 0, 0, 0, 0, false, false, false⟩ : Conf).cells.set 20 (.int .u16 x12) = (⟨key, x3, v6_0, x8, x10, x12, 0, 0, 0, 0, 0, 0, 0, 0, 0, 0, 0, 0, 0, 0, 0, 0, 0, false, false, false⟩ : Conf).cells := by simp [Conf.cells, Conf.tl, List.set_append, kl]
  rw [z12inn] at h12
  simp [c39_r14]
  refine named_ri [([116, 114, 105, 101, 115], 21), ([108, 97, 115, 116, 115], 22)] rfl h12 (H1 := ((Heap.set ⟨H12.next + 12, H12.m⟩ (H12.next + 1) (.cells 0 [.str [116, 114, 105, 101, 115], .str [108, 97, 115, 116, 115]] true)).set (H12.next + 10) (.cells 0 [.ptr t 0 21, .ptr t 0 22] true))) ((((Heap.ext_refl _ _).grow 12).set _ _ (.inr (Nat.le_add_right _ _))).set _ _ (.inr (Nat.le_add_right _ _))) ⟨by simp, by simp, by simp <;> omega, by simp <;> omega⟩ (by simp) (by simp) ?_ (by simp) (fun H13 cs13 ws13 e13 h13 => ?_) (fun H' e r => ?_)
  · intro p hp
    simp only [List.mem_cons, List.not_mem_nil, or_false] at hp
    rcases hp with rfl | rfl
    all_goals exact ⟨0, by simp [Conf.cells, Conf.tl, List.getElem?_append, kl]⟩
  rotate_left
  · simp
    refine qp H' ?_ r
    simp only [namedR_cons, namedR_nil] at e
    cases f0 : rdInt [116, 114, 105, 101, 115] ws12 with
    | none => simp [settingR, e1, e2, e3, e4, e5, hk, f6_0, e7, e8, e9, e10, e11, e12, f0]
    | some p0 =>
    obtain ⟨v0, w0⟩ := p0
    simp only [f0] at e
    cases f1 : rdInt [108, 97, 115, 116, 115] w0 with
    | none => simp [settingR, e1, e2, e3, e4, e5, hk, f6_0, e7, e8, e9, e10, e11, e12, f0, f1]
    | some p1 =>
    obtain ⟨v1, w1⟩ := p1
    simp only [f1] at e
    cases e
  simp only [namedR_cons, namedR_nil] at e13
  cases f13_0 : rdInt [116, 114, 105, 101, 115] ws12 with
  | none => simp only [f13_0] at e13; cases e13
  | some p13_0 =>
  obtain ⟨v13_0, w13_0⟩ := p13_0
  cases f13_1 : rdInt [108, 97, 115, 116, 115] w13_0 with
  | none => simp only [f13_0, f13_1] at e13; cases e13
  | some p13_1 =>
  obtain ⟨v13_1, w13_1⟩ := p13_1
  simp only [f13_0, f13_1, Option.some.injEq, Prod.mk.injEq] at e13
  obtain ⟨rfl, rfl⟩ := e13
  have z13tries : (⟨key, x3, v6_0, x8, x10, x12, 0, 0, 0, 0, 0, 0, 0, 0, 0, 0, 0, 0, 0, 0, 0, 0, 0, false, false, false⟩ : Conf).cells.set 21 (.int .i64 v13_0) = (⟨key, x3, v6_0, x8, x10, x12, v13_0, 0, 0, 0, 0, 0, 0, 0, 0, 0, 0, 0, 0, 0, 0, 0, 0, false, false, false⟩ : Conf).cells := by simp [Conf.cells, Conf.tl, List.set_append, kl]
  rw [z13tries] at h13
  have z13lasts : (⟨key, x3, v6_0, x8, x10, x12, v13_0, 0, 0, 0, 0, 0, 0, 0, 0, 0, 0, 0, 0, 0, 0, 0, 0, false, false, false⟩ : Conf).cells.set 22 (.int .i64 v13_1) = (⟨key, x3, v6_0, x8, x10, x12, v13_0, v13_1, 0, 0, 0, 0, 0, 0, 0, 0, 0, 0, 0, 0, 0, 0, 0, false, false, false⟩ : Conf).cells := by simp [Conf.cells, Conf.tl, List.set_append, kl]
  rw [z13lasts] at h13
  simp [c39_r15]
  refine word_ri h13 (fun H14 ws14 e14 h14 => ?_) (fun H' e r => by simp; exact qp H' (by simp [settingR, e1, e2, e3, e4, e5, hk, f6_0, e7, e8, e9, e10, e11, e12, f13_0, f13_1, e]) r)
  have y15 : (⟨key, x3, v6_0, x8, x10, x12, v13_0, v13_1, 0, 0, 0, 0, 0, 0, 0, 0, 0, 0, 0, 0, 0, 0, 0, false, false, false⟩ : Conf).cells[23]? = some (.int .u16 (0 : Int)) := by simp [Conf.cells, Conf.tl, List.getElem?_append, kl]
  simp [c39_r16]
  refine narrowu16_ri h14 y15 (fun H15 x15 ws15 e15 h15 => ?_) (fun H' e r => by simp; exact qp H' (by simp [settingR, e1, e2, e3, e4, e5, hk, f6_0, e7, e8, e9, e10, e11, e12, f13_0, f13_1, e14, e]) r)
  have z15port : (⟨key, x3, v6_0, x8, x10, x12, v13_0, v13_1, 0, 0, 0, 0, 0, 0, 0, 0, 0, 0, 0, 0, 0, 0, 0, false, false, false⟩ : Conf).cells.set 23 (.int .u16 x15) = (⟨key, x3, v6_0, x8, x10, x12, v13_0, v13_1, x15, 0, 0, 0, 0, 0, 0, 0, 0, 0, 0, 0, 0, 0, 0, false, false, false⟩ : Conf).cells := by simp [Conf.cells, Conf.tl, List.set_append, kl]
  rw [z15port] at h15
  simp [c39_r17]
  refine word_ri h15 (fun H16 ws16 e16 h16 => ?_) (fun H' e r => by simp; exact qp H' (by simp [settingR, e1, e2, e3, e4, e5, hk, f6_0, e7, e8, e9, e10, e11, e12, f13_0, f13_1, e14, e15, e]) r)
  have y17 : (⟨key, x3, v6_0, x8, x10, x12, v13_0, v13_1, x15, 0, 0, 0, 0, 0, 0, 0, 0, 0, 0, 0, 0, 0, 0, false, false, false⟩ : Conf).cells[24]? = some (.int .u16 (0 : Int)) := by simp [Conf.cells, Conf.tl, List.getElem?_append, kl]
  simp [c39_r18]
  refine narrowu16_ri h16 y17 (fun H17 x17 ws17 e17 h17 => ?_) (fun H' e r => by simp; exact qp H' (by simp [settingR, e1, e2, e3, e4, e5, hk, f6_0, e7, e8, e9, e10, e11, e12, f13_0, f13_1, e14, e15, e16, e]) r)
  have z17peer : (⟨key, x3, v6_0, x8, x10, x12, v13_0, v13_1, x15, 0, 0, 0, 0, 0, 0, 0, 0, 0, 0, 0, 0, 0, 0, false, false, false⟩ : Conf).cells.set 24 (.int .u16 x17) = (⟨key, x3, v6_0, x8, x10, x12, v13_0, v13_1, x15, x17, 0, 0, 0, 0, 0, 0, 0, 0, 0, 0, 0, 0, 0, false, false, false⟩ : Conf).cells := by simp [Conf.cells, Conf.tl, List.set_append, kl]
  rw [z17peer] at h17
  simp [c39_r19]
  refine named_ri [([112, 97, 116, 104, 115], 25), ([109, 116, 117], 26), ([98, 117, 102, 102, 101, 114], 27), ([105, 110, 105, 116], 28), ([109, 105, 110], 29), ([109, 97, 120], 30)] rfl h17 (H1 := ((Heap.set ⟨H17.next + 25, H17.m⟩ (H17.next + 1) (.cells 0 [.str [112, 97, 116, 104, 115], .str [109, 116, 117], .str [98, 117, 102, 102, 101, 114], .str [105, 110, 105, 116], .str [109, 105, 110], .str [109, 97, 120]] true)).set (H17.next + 23) (.cells 0 [.ptr t 0 25, .ptr t 0 26, .ptr t 0 27, .ptr t 0 28, .ptr t 0 29, .ptr t 0 30] true))) ((((Heap.ext_refl _ _).grow 25).set _ _ (.inr (Nat.le_add_right _ _))).set _ _ (.inr (Nat.le_add_right _ _))) ⟨by simp, by simp, by simp <;> omega, by simp <;> omega⟩ (by simp) (by simp) ?_ (by simp) (fun H18 cs18 ws18 e18 h18 => ?_) (fun H' e r => ?_)
  · intro p hp
    simp only [List.mem_cons, List.not_mem_nil, or_false] at hp
    rcases hp with rfl | rfl | rfl | rfl | rfl | rfl
    all_goals exact ⟨0, by simp [Conf.cells, Conf.tl, List.getElem?_append, kl]⟩
  rotate_left
  · simp
    refine qp H' ?_ r
    simp only [namedR_cons, namedR_nil] at e
    cases f0 : rdInt [112, 97, 116, 104, 115] ws17 with
    | none => simp [settingR, e1, e2, e3, e4, e5, hk, f6_0, e7, e8, e9, e10, e11, e12, f13_0, f13_1, e14, e15, e16, e17, f0]
    | some p0 =>
    obtain ⟨v0, w0⟩ := p0
    simp only [f0] at e
    cases f1 : rdInt [109, 116, 117] w0 with
    | none => simp [settingR, e1, e2, e3, e4, e5, hk, f6_0, e7, e8, e9, e10, e11, e12, f13_0, f13_1, e14, e15, e16, e17, f0, f1]
    | some p1 =>
    obtain ⟨v1, w1⟩ := p1
    simp only [f1] at e
    cases f2 : rdInt [98, 117, 102, 102, 101, 114] w1 with
    | none => simp [settingR, e1, e2, e3, e4, e5, hk, f6_0, e7, e8, e9, e10, e11, e12, f13_0, f13_1, e14, e15, e16, e17, f0, f1, f2]
    | some p2 =>
    obtain ⟨v2, w2⟩ := p2
    simp only [f2] at e
    cases f3 : rdInt [105, 110, 105, 116] w2 with
    | none => simp [settingR, e1, e2, e3, e4, e5, hk, f6_0, e7, e8, e9, e10, e11, e12, f13_0, f13_1, e14, e15, e16, e17, f0, f1, f2, f3]
    | some p3 =>
    obtain ⟨v3, w3⟩ := p3
    simp only [f3] at e
    cases f4 : rdInt [109, 105, 110] w3 with
    | none => simp [settingR, e1, e2, e3, e4, e5, hk, f6_0, e7, e8, e9, e10, e11, e12, f13_0, f13_1, e14, e15, e16, e17, f0, f1, f2, f3, f4]
    | some p4 =>
    obtain ⟨v4, w4⟩ := p4
    simp only [f4] at e
    cases f5 : rdInt [109, 97, 120] w4 with
    | none => simp [settingR, e1, e2, e3, e4, e5, hk, f6_0, e7, e8, e9, e10, e11, e12, f13_0, f13_1, e14, e15, e16, e17, f0, f1, f2, f3, f4, f5]
    | some p5 =>
    obtain ⟨v5, w5⟩ := p5
    simp only [f5] at e
    cases e
  simp only [namedR_cons, namedR_nil] at e18
  cases f18_0 : rdInt [112, 97, 116, 104, 115] ws17 with
  | none => simp only [f18_0] at e18; cases e18
  | some p18_0 =>
  obtain ⟨v18_0, w18_0⟩ := p18_0
  cases f18_1 : rdInt [109, 116, 117] w18_0 with
  | none => simp only [f18_0, f18_1] at e18; cases e18
  | some p18_1 =>
  obtain ⟨v18_1, w18_1⟩ := p18_1
  cases f18_2 : rdInt [98, 117, 102, 102, 101, 114] w18_1 with
  | none => simp only [f18_0, f18_1, f18_2] at e18; cases e18
  | some p18_2 =>
  obtain ⟨v18_2, w18_2⟩ := p18_2
  cases f18_3 : rdInt [105, 110, 105, 116] w18_2 with
  | none => simp only [f18_0, f18_1, f18_2, f18_3] at e18; cases e18
  | some p18_3 =>
  obtain ⟨v18_3, w18_3⟩ := p18_3
  cases f18_4 : rdInt [109, 105, 110] w18_3 with
  | none => simp only [f18_0, f18_1, f18_2, f18_3, f18_4] at e18; cases e18
  | some p18_4 =>
  obtain ⟨v18_4, w18_4⟩ := p18_4
  cases f18_5 : rdInt [109, 97, 120] w18_4 with
  | none => simp only [f18_0, f18_1, f18_2, f18_3, f18_4, f18_5] at e18; cases e18
  | some p18_5 =>
  obtain ⟨v18_5, w18_5⟩ := p18_5
  simp only [f18_0, f18_1, f18_2, f18_3, f18_4, f18_5, Option.some.injEq, Prod.mk.injEq] at e18
  obtain ⟨rfl, rfl⟩ := e18
  have z18paths : (⟨key, x3, v6_0, x8, x10, x12, v13_0, v13_1, x15, x17, 0, 0, 0, 0, 0, 0, 0, 0, 0, 0, 0, 0, 0, false, false, false⟩ : Conf).cells.set 25 (.int .i64 v18_0) = (⟨key, x3, v6_0, x8, x10, x12, v13_0, v13_1, x15, x17, v18_0, 0, 0, 0, 0, 0, 0, 0, 0, 0, 0, 0, 0, false, false, false⟩ : Conf).cells := by simp [Conf.cells, Conf.tl, List.set_append, kl]
  rw [z18paths] at h18
  have z18mtu : (⟨key, x3, v6_0, x8, x10, x12, v13_0, v13_1, x15, x17, v18_0, 0, 0, 0, 0, 0, 0, 0, 0, 0, 0, 0, 0, false, false, false⟩ : Conf).cells.set 26 (.int .i64 v18_1) = (⟨key, x3, v6_0, x8, x10, x12, v13_0, v13_1, x15, x17, v18_0, v18_1, 0, 0, 0, 0, 0, 0, 0, 0, 0, 0, 0, false, false, false⟩ : Conf).cells := by simp [Conf.cells, Conf.tl, List.set_append, kl]
  rw [z18mtu] at h18
  have z18buffer : (⟨key, x3, v6_0, x8, x10, x12, v13_0, v13_1, x15, x17, v18_0, v18_1, 0, 0, 0, 0, 0, 0, 0, 0, 0, 0, 0, false, false, false⟩ : Conf).cells.set 27 (.int .i64 v18_2) = (⟨key, x3, v6_0, x8, x10, x12, v13_0, v13_1, x15, x17, v18_0, v18_1, v18_2, 0, 0, 0, 0, 0, 0, 0, 0, 0, 0, false, false, false⟩ : Conf).cells := by simp [Conf.cells, Conf.tl, List.set_append, kl]
  rw [z18buffer] at h18
  have z18init : (⟨key, x3, v6_0, x8, x10, x12, v13_0, v13_1, x15, x17, v18_0, v18_1, v18_2, 0, 0, 0, 0, 0, 0, 0, 0, 0, 0, false, false, false⟩ : Conf).cells.set 28 (.int .i64 v18_3) = (⟨key, x3, v6_0, x8, x10, x12, v13_0, v13_1, x15, x17, v18_0, v18_1, v18_2, v18_3, 0, 0, 0, 0, 0, 0, 0, 0, 0, false, false, false⟩ : Conf).cells := by simp [Conf.cells, Conf.tl, List.set_append, kl]
  rw [z18init] at h18
  have z18mn : (⟨key, x3, v6_0, x8, x10, x12, v13_0, v13_1, x15, x17, v18_0, v18_1, v18_2, v18_3, 0, 0, 0, 0, 0, 0, 0, 0, 0, false, false, false⟩ : Conf).cells.set 29 (.int .i64 v18_4) = (⟨key, x3, v6_0, x8, x10, x12, v13_0, v13_1, x15, x17, v18_0, v18_1, v18_2, v18_3, v18_4, 0, 0, 0, 0, 0, 0, 0, 0, false, false, false⟩ : Conf).cells := by simp [Conf.cells, Conf.tl, List.set_append, kl]
  rw [z18mn] at h18
  have z18mx : (⟨key, x3, v6_0, x8, x10, x12, v13_0, v13_1, x15, x17, v18_0, v18_1, v18_2, v18_3, v18_4, 0, 0, 0, 0, 0, 0, 0, 0, false, false, false⟩ : Conf).cells.set 30 (.int .i64 v18_5) = (⟨key, x3, v6_0, x8, x10, x12, v13_0, v13_1, x15, x17, v18_0, v18_1, v18_2, v18_3, v18_4, v18_5, 0, 0, 0, 0, 0, 0, 0, false, false, false⟩ : Conf).cells := by simp [Conf.cells, Conf.tl, List.set_append, kl]
  rw [z18mx] at h18
  simp [c39_r20]
  refine named_ri [([101, 114, 114, 111, 114, 115], 31), ([102, 97, 105, 108], 32), ([112, 97, 117, 115, 101], 33)] rfl h18 (H1 := ((Heap.set ⟨H18.next + 16, H18.m⟩ (H18.next + 1) (.cells 0 [.str [101, 114, 114, 111, 114, 115], .str [102, 97, 105, 108], .str [112, 97, 117, 115, 101]] true)).set (H18.next + 14) (.cells 0 [.ptr t 0 31, .ptr t 0 32, .ptr t 0 33] true))) ((((Heap.ext_refl _ _).grow 16).set _ _ (.inr (Nat.le_add_right _ _))).set _ _ (.inr (Nat.le_add_right _ _))) ⟨by simp, by simp, by simp <;> omega, by simp <;> omega⟩ (by simp) (by simp) ?_ (by simp) (fun H19 cs19 ws19 e19 h19 => ?_) (fun H' e r => ?_)
  · intro p hp
    simp only [List.mem_cons, List.not_mem_nil, or_false] at hp
    rcases hp with rfl | rfl | rfl
    all_goals exact ⟨0, by simp [Conf.cells, Conf.tl, List.getElem?_append, kl]⟩
  rotate_left
  · simp
    refine qp H' ?_ r
    simp only [namedR_cons, namedR_nil] at e
    cases f0 : rdInt [101, 114, 114, 111, 114, 115] w18_5 with
    | none => simp [settingR, e1, e2, e3, e4, e5, hk, f6_0, e7, e8, e9, e10, e11, e12, f13_0, f13_1, e14, e15, e16, e17, f18_0, f18_1, f18_2, f18_3, f18_4, f18_5, f0]
    | some p0 =>
    obtain ⟨v0, w0⟩ := p0
    simp only [f0] at e
    cases f1 : rdInt [102, 97, 105, 108] w0 with
    | none => simp [settingR, e1, e2, e3, e4, e5, hk, f6_0, e7, e8, e9, e10, e11, e12, f13_0, f13_1, e14, e15, e16, e17, f18_0, f18_1, f18_2, f18_3, f18_4, f18_5, f0, f1]
    | some p1 =>
    obtain ⟨v1, w1⟩ := p1
    simp only [f1] at e
    cases f2 : rdInt [112, 97, 117, 115, 101] w1 with
    | none => simp [settingR, e1, e2, e3, e4, e5, hk, f6_0, e7, e8, e9, e10, e11, e12, f13_0, f13_1, e14, e15, e16, e17, f18_0, f18_1, f18_2, f18_3, f18_4, f18_5, f0, f1, f2]
    | some p2 =>
    obtain ⟨v2, w2⟩ := p2
    simp only [f2] at e
    cases e
  simp only [namedR_cons, namedR_nil] at e19
  cases f19_0 : rdInt [101, 114, 114, 111, 114, 115] w18_5 with
  | none => simp only [f19_0] at e19; cases e19
  | some p19_0 =>
  obtain ⟨v19_0, w19_0⟩ := p19_0
  cases f19_1 : rdInt [102, 97, 105, 108] w19_0 with
  | none => simp only [f19_0, f19_1] at e19; cases e19
  | some p19_1 =>
  obtain ⟨v19_1, w19_1⟩ := p19_1
  cases f19_2 : rdInt [112, 97, 117, 115, 101] w19_1 with
  | none => simp only [f19_0, f19_1, f19_2] at e19; cases e19
  | some p19_2 =>
  obtain ⟨v19_2, w19_2⟩ := p19_2
  simp only [f19_0, f19_1, f19_2, Option.some.injEq, Prod.mk.injEq] at e19
  obtain ⟨rfl, rfl⟩ := e19
  have z19errors : (⟨key, x3, v6_0, x8, x10, x12, v13_0, v13_1, x15, x17, v18_0, v18_1, v18_2, v18_3, v18_4, v18_5, 0, 0, 0, 0, 0, 0, 0, false, false, false⟩ : Conf).cells.set 31 (.int .i64 v19_0) = (⟨key, x3, v6_0, x8, x10, x12, v13_0, v13_1, x15, x17, v18_0, v18_1, v18_2, v18_3, v18_4, v18_5, v19_0, 0, 0, 0, 0, 0, 0, false, false, false⟩ : Conf).cells := by simp [Conf.cells, Conf.tl, List.set_append, kl]
  rw [z19errors] at h19
  have z19fail : (⟨key, x3, v6_0, x8, x10, x12, v13_0, v13_1, x15, x17, v18_0, v18_1, v18_2, v18_3, v18_4, v18_5, v19_0, 0, 0, 0, 0, 0, 0, false, false, false⟩ : Conf).cells.set 32 (.int .i64 v19_1) = (⟨key, x3, v6_0, x8, x10, x12, v13_0, v13_1, x15, x17, v18_0, v18_1, v18_2, v18_3, v18_4, v18_5, v19_0, v19_1, 0, 0, 0, 0, 0, false, false, false⟩ : Conf).cells := by simp [Conf.cells, Conf.tl, List.set_append, kl]
  rw [z19fail] at h19
  have z19pause : (⟨key, x3, v6_0, x8, x10, x12, v13_0, v13_1, x15, x17, v18_0, v18_1, v18_2, v18_3, v18_4, v18_5, v19_0, v19_1, 0, 0, 0, 0, 0, false, false, false⟩ : Conf).cells.set 33 (.int .i64 v19_2) = (⟨key, x3, v6_0, x8, x10, x12, v13_0, v13_1, x15, x17, v18_0, v18_1, v18_2, v18_3, v18_4, v18_5, v19_0, v19_1, v19_2, 0, 0, 0, 0, false, false, false⟩ : Conf).cells := by simp [Conf.cells, Conf.tl, List.set_append, kl]
  rw [z19pause] at h19
  simp [c39_r21]
  refine named_ri [([109, 111, 115, 116], 34), ([100, 101, 108, 97, 121], 35), ([115, 99, 104, 101, 100], 36), ([99, 97, 112], 37)] rfl h19 (H1 := ((Heap.set ⟨H19.next + 16, H19.m⟩ (H19.next + 1) (.cells 0 [.str [109, 111, 115, 116], .str [100, 101, 108, 97, 121], .str [115, 99, 104, 101, 100], .str [99, 97, 112]] true)).set (H19.next + 14) (.cells 0 [.ptr t 0 34, .ptr t 0 35, .ptr t 0 36, .ptr t 0 37] true))) ((((Heap.ext_refl _ _).grow 16).set _ _ (.inr (Nat.le_add_right _ _))).set _ _ (.inr (Nat.le_add_right _ _))) ⟨by simp, by simp, by simp <;> omega, by simp <;> omega⟩ (by simp) (by simp) ?_ (by simp) (fun H20 cs20 ws20 e20 h20 => ?_) (fun H' e r => ?_)
  · intro p hp
    simp only [List.mem_cons, List.not_mem_nil, or_false] at hp
    rcases hp with rfl | rfl | rfl | rfl
    all_goals exact ⟨0, by simp [Conf.cells, Conf.tl, List.getElem?_append, kl]⟩
  rotate_left
  · simp
    refine qp H' ?_ r
    simp only [namedR_cons, namedR_nil] at e
    cases f0 : rdInt [109, 111, 115, 116] w19_2 with
    | none => simp [settingR, e1, e2, e3, e4, e5, hk, f6_0, e7, e8, e9, e10, e11, e12, f13_0, f13_1, e14, e15, e16, e17, f18_0, f18_1, f18_2, f18_3, f18_4, f18_5, f19_0, f19_1, f19_2, f0]
    | some p0 =>
    obtain ⟨v0, w0⟩ := p0
    simp only [f0] at e
    cases f1 : rdInt [100, 101, 108, 97, 121] w0 with
    | none => simp [settingR, e1, e2, e3, e4, e5, hk, f6_0, e7, e8, e9, e10, e11, e12, f13_0, f13_1, e14, e15, e16, e17, f18_0, f18_1, f18_2, f18_3, f18_4, f18_5, f19_0, f19_1, f19_2, f0, f1]
    | some p1 =>
    obtain ⟨v1, w1⟩ := p1
    simp only [f1] at e
    cases f2 : rdInt [115, 99, 104, 101, 100] w1 with
    | none => simp [settingR, e1, e2, e3, e4, e5, hk, f6_0, e7, e8, e9, e10, e11, e12, f13_0, f13_1, e14, e15, e16, e17, f18_0, f18_1, f18_2, f18_3, f18_4, f18_5, f19_0, f19_1, f19_2, f0, f1, f2]
    | some p2 =>
    obtain ⟨v2, w2⟩ := p2
    simp only [f2] at e
    cases f3 : rdInt [99, 97, 112] w2 with
    | none => simp [settingR, e1, e2, e3, e4, e5, hk, f6_0, e7, e8, e9, e10, e11, e12, f13_0, f13_1, e14, e15, e16, e17, f18_0, f18_1, f18_2, f18_3, f18_4, f18_5, f19_0, f19_1, f19_2, f0, f1, f2, f3]
    | some p3 =>
    obtain ⟨v3, w3⟩ := p3
    simp only [f3] at e
    cases e
  simp only [namedR_cons, namedR_nil] at e20
  cases f20_0 : rdInt [109, 111, 115, 116] w19_2 with
  | none => simp only [f20_0] at e20; cases e20
  | some p20_0 =>
  obtain ⟨v20_0, w20_0⟩ := p20_0
  cases f20_1 : rdInt [100, 101, 108, 97, 121] w20_0 with
  | none => simp only [f20_0, f20_1] at e20; cases e20
  | some p20_1 =>
  obtain ⟨v20_1, w20_1⟩ := p20_1
  cases f20_2 : rdInt [115, 99, 104, 101, 100] w20_1 with
  | none => simp only [f20_0, f20_1, f20_2] at e20; cases e20
  | some p20_2 =>
  obtain ⟨v20_2, w20_2⟩ := p20_2
  cases f20_3 : rdInt [99, 97, 112] w20_2 with
  | none => simp only [f20_0, f20_1, f20_2, f20_3] at e20; cases e20
  | some p20_3 =>
  obtain ⟨v20_3, w20_3⟩ := p20_3
  simp only [f20_0, f20_1, f20_2, f20_3, Option.some.injEq, Prod.mk.injEq] at e20
  obtain ⟨rfl, rfl⟩ := e20
  have z20most : (⟨key, x3, v6_0, x8, x10, x12, v13_0, v13_1, x15, x17, v18_0, v18_1, v18_2, v18_3, v18_4, v18_5, v19_0, v19_1, v19_2, 0, 0, 0, 0, false, false, false⟩ : Conf).cells.set 34 (.int .i64 v20_0) = (⟨key, x3, v6_0, x8, x10, x12, v13_0, v13_1, x15, x17, v18_0, v18_1, v18_2, v18_3, v18_4, v18_5, v19_0, v19_1, v19_2, v20_0, 0, 0, 0, false, false, false⟩ : Conf).cells := by simp [Conf.cells, Conf.tl, List.set_append, kl]
  rw [z20most] at h20
  have z20delay : (⟨key, x3, v6_0, x8, x10, x12, v13_0, v13_1, x15, x17, v18_0, v18_1, v18_2, v18_3, v18_4, v18_5, v19_0, v19_1, v19_2, v20_0, 0, 0, 0, false, false, false⟩ : Conf).cells.set 35 (.int .i64 v20_1) = (⟨key, x3, v6_0, x8, x10, x12, v13_0, v13_1, x15, x17, v18_0, v18_1, v18_2, v18_3, v18_4, v18_5, v19_0, v19_1, v19_2, v20_0, v20_1, 0, 0, false, false, false⟩ : Conf).cells := by simp [Conf.cells, Conf.tl, List.set_append, kl]
  rw [z20delay] at h20
  have z20sched : (⟨key, x3, v6_0, x8, x10, x12, v13_0, v13_1, x15, x17, v18_0, v18_1, v18_2, v18_3, v18_4, v18_5, v19_0, v19_1, v19_2, v20_0, v20_1, 0, 0, false, false, false⟩ : Conf).cells.set 36 (.int .i64 v20_2) = (⟨key, x3, v6_0, x8, x10, x12, v13_0, v13_1, x15, x17, v18_0, v18_1, v18_2, v18_3, v18_4, v18_5, v19_0, v19_1, v19_2, v20_0, v20_1, v20_2, 0, false, false, false⟩ : Conf).cells := by simp [Conf.cells, Conf.tl, List.set_append, kl]
  rw [z20sched] at h20
  have z20cap : (⟨key, x3, v6_0, x8, x10, x12, v13_0, v13_1, x15, x17, v18_0, v18_1, v18_2, v18_3, v18_4, v18_5, v19_0, v19_1, v19_2, v20_0, v20_1, v20_2, 0, false, false, false⟩ : Conf).cells.set 37 (.int .i64 v20_3) = (⟨key, x3, v6_0, x8, x10, x12, v13_0, v13_1, x15, x17, v18_0, v18_1, v18_2, v18_3, v18_4, v18_5, v19_0, v19_1, v19_2, v20_0, v20_1, v20_2, v20_3, false, false, false⟩ : Conf).cells := by simp [Conf.cells, Conf.tl, List.set_append, kl]
  rw [z20cap] at h20
  simp [c39_r22]
  refine word_ri h20 (fun H21 ws21 e21 h21 => ?_) (fun H' e r => by simp; exact qp H' (by simp [settingR, e1, e2, e3, e4, e5, hk, f6_0, e7, e8, e9, e10, e11, e12, f13_0, f13_1, e14, e15, e16, e17, f18_0, f18_1, f18_2, f18_3, f18_4, f18_5, f19_0, f19_1, f19_2, f20_0, f20_1, f20_2, f20_3, e]) r)
  simp [c39_r23]
  refine choice_ri h21 (by simp [Conf.cells, Conf.tl, kl]) (fun H22 x22 ws22 e22 h22 => ?_) (fun H' e r => by simp; exact qp H' (by simp [settingR, e1, e2, e3, e4, e5, hk, f6_0, e7, e8, e9, e10, e11, e12, f13_0, f13_1, e14, e15, e16, e17, f18_0, f18_1, f18_2, f18_3, f18_4, f18_5, f19_0, f19_1, f19_2, f20_0, f20_1, f20_2, f20_3, e21, e]) r)
  have z22split : (⟨key, x3, v6_0, x8, x10, x12, v13_0, v13_1, x15, x17, v18_0, v18_1, v18_2, v18_3, v18_4, v18_5, v19_0, v19_1, v19_2, v20_0, v20_1, v20_2, v20_3, false, false, false⟩ : Conf).cells.set 38 (.bool x22) = (⟨key, x3, v6_0, x8, x10, x12, v13_0, v13_1, x15, x17, v18_0, v18_1, v18_2, v18_3, v18_4, v18_5, v19_0, v19_1, v19_2, v20_0, v20_1, v20_2, v20_3, x22, false, false⟩ : Conf).cells := by simp [Conf.cells, Conf.tl, List.set_append, kl]
  rw [z22split] at h22
  simp [c39_r24]
  refine word_ri h22 (fun H23 ws23 e23 h23 => ?_) (fun H' e r => by simp; exact qp H' (by simp [settingR, e1, e2, e3, e4, e5, hk, f6_0, e7, e8, e9, e10, e11, e12, f13_0, f13_1, e14, e15, e16, e17, f18_0, f18_1, f18_2, f18_3, f18_4, f18_5, f19_0, f19_1, f19_2, f20_0, f20_1, f20_2, f20_3, e21, e22, e]) r)
  simp [c39_r25]
  refine choice_ri h23 (by simp [Conf.cells, Conf.tl, kl]) (fun H24 x24 ws24 e24 h24 => ?_) (fun H' e r => by simp; exact qp H' (by simp [settingR, e1, e2, e3, e4, e5, hk, f6_0, e7, e8, e9, e10, e11, e12, f13_0, f13_1, e14, e15, e16, e17, f18_0, f18_1, f18_2, f18_3, f18_4, f18_5, f19_0, f19_1, f19_2, f20_0, f20_1, f20_2, f20_3, e21, e22, e23, e]) r)
  have z24nr : (⟨key, x3, v6_0, x8, x10, x12, v13_0, v13_1, x15, x17, v18_0, v18_1, v18_2, v18_3, v18_4, v18_5, v19_0, v19_1, v19_2, v20_0, v20_1, v20_2, v20_3, x22, false, false⟩ : Conf).cells.set 39 (.bool x24) = (⟨key, x3, v6_0, x8, x10, x12, v13_0, v13_1, x15, x17, v18_0, v18_1, v18_2, v18_3, v18_4, v18_5, v19_0, v19_1, v19_2, v20_0, v20_1, v20_2, v20_3, x22, x24, false⟩ : Conf).cells := by simp [Conf.cells, Conf.tl, List.set_append, kl]
  rw [z24nr] at h24
  simp [c39_r26]
  refine word_ri h24 (fun H25 ws25 e25 h25 => ?_) (fun H' e r => by simp; exact qp H' (by simp [settingR, e1, e2, e3, e4, e5, hk, f6_0, e7, e8, e9, e10, e11, e12, f13_0, f13_1, e14, e15, e16, e17, f18_0, f18_1, f18_2, f18_3, f18_4, f18_5, f19_0, f19_1, f19_2, f20_0, f20_1, f20_2, f20_3, e21, e22, e23, e24, e]) r)
  simp [c39_r27]
  refine choice_ri h25 (by simp [Conf.cells, Conf.tl, kl]) (fun H26 x26 ws26 e26 h26 => ?_) (fun H' e r => by simp; exact qp H' (by simp [settingR, e1, e2, e3, e4, e5, hk, f6_0, e7, e8, e9, e10, e11, e12, f13_0, f13_1, e14, e15, e16, e17, f18_0, f18_1, f18_2, f18_3, f18_4, f18_5, f19_0, f19_1, f19_2, f20_0, f20_1, f20_2, f20_3, e21, e22, e23, e24, e25, e]) r)
  have z26couple : (⟨key, x3, v6_0, x8, x10, x12, v13_0, v13_1, x15, x17, v18_0, v18_1, v18_2, v18_3, v18_4, v18_5, v19_0, v19_1, v19_2, v20_0, v20_1, v20_2, v20_3, x22, x24, false⟩ : Conf).cells.set 40 (.bool x26) = (⟨key, x3, v6_0, x8, x10, x12, v13_0, v13_1, x15, x17, v18_0, v18_1, v18_2, v18_3, v18_4, v18_5, v19_0, v19_1, v19_2, v20_0, v20_1, v20_2, v20_3, x22, x24, x26⟩ : Conf).cells := by simp [Conf.cells, Conf.tl, List.set_append, kl]
  rw [z26couple] at h26
  simp
  exact q H26 (⟨key, x3, v6_0, x8, x10, x12, v13_0, v13_1, x15, x17, v18_0, v18_1, v18_2, v18_3, v18_4, v18_5, v19_0, v19_1, v19_2, v20_0, v20_1, v20_2, v20_3, x22, x24, x26⟩ : Conf) ws26 (by simp [settingR, e1, e2, e3, e4, e5, hk, f6_0, e7, e8, e9, e10, e11, e12, f13_0, f13_1, e14, e15, e16, e17, f18_0, f18_1, f18_2, f18_3, f18_4, f18_5, f19_0, f19_1, f19_2, f20_0, f20_1, f20_2, f20_3, e21, e22, e23, e24, e25, e26]) kl h26
end Go.S

namespace Go.S
open Go Go.Ab Go.RowKit Go.Proofs
variable {O : Old}

theorem unstrs_strs (l : List B) : unstrs (strs l) = some l := by
  induction l with
  | nil => rfl
  | cons a l ih => simp [unstrs, ih]

/-- The text of words. -/
def lineOf (ws : List B) : B := Lib.join ws [32]

theorem text_w {H : Heap} {l i : Nat} {ws : List B} {Q : AEnd → RS → Heap → Prop} (h : WL H l i ws) (hl : (lineOf ws).length ≤ 140737488355328) (hn : ws.length ≤ 140737488355328)
    (q : Q (.ret (.str (lineOf ws))) .no H) : CallOk (E O) 27 [.ptr l 0 0] .no H Q := by
  obtain ⟨av, h1, h2⟩ := h.ex
  refine CallOk.go c27 rfl rfl ?_
  have hk : knownV O 51 [av, .str [32]] H = some (.str (lineOf ws), H) := by
    rcases h2 with ⟨rfl, rfl⟩ | ⟨v, rfl, h2, h3, h4⟩
    · rfl
    · have ht : List.take ws.length (strs ws) = strs ws := by rw [← strs_length, List.take_length]
      simp [knownV, kJoin, elems, rdCells, h2, cut, unstrs_strs, ht, capOk, lineOf] 
      exact ⟨hl, hn⟩
  simp [c27, c27_r0, c27_r1, h1]
  refine CallOk.known hk ?_
  simp [q]

theorem join_le (sep : B) (m : Nat) : ∀ ws : List B, (∀ w ∈ ws, w.length ≤ m) → (Lib.join ws sep).length ≤ ws.length * (m + sep.length)
  | [], _ => by simp [Lib.join]
  | w :: ws, h => by
    have ih := join_le sep m ws (fun w hw => h w (by simp [hw]))
    have h1 := h w (by simp)
    cases ws with
    | nil => simp [Lib.join]; omega
    | cons x r =>
      have e : Lib.join (w :: x :: r) sep = w ++ (sep ++ Lib.join (x :: r) sep) := by simp [Lib.join, List.intercalate]
      rw [e, List.length_append, List.length_append, List.length_cons, Nat.add_mul, Nat.one_mul]
      omega

theorem nDigits_le : ∀ (k u : Nat), u < 10 ^ (k + 1) → Lib.nDigits u ≤ k + 1
  | 0, u, h => by rw [Lib.nDigits_small (by simpa using h)]; omega
  | k + 1, u, h => by
    by_cases h10 : u < 10
    · rw [Lib.nDigits_small h10]; omega
    · have := nDigits_le k (u / 10) (by rw [Nat.pow_succ] at h; omega)
      rw [Lib.nDigits_big h10]; omega
theorem decDigits_len {n : Nat} (h : n < 18446744073709551616) : (Lib.decDigits n).length ≤ 20 := by
  rw [Lib.decDigits_length]
  exact nDigits_le 19 n (by omega)
theorem words_len {c : Conf} (hk : c.Ok) (hf : c.Fits) : ∀ w ∈ c.words, w.length ≤ 32 := by
  have kl := hk.key
  have key : ∀ n, n < 18446744073709551616 → (Lib.decDigits n).length ≤ 32 := fun n h => Nat.le_trans (decDigits_len h) (by omega)
  have k2 : ∀ n : Int, okInt n → (Lib.decDigits n.toNat).length ≤ 32 := fun n h => key _ (by unfold okInt at h; omega)
  have k3 : ∀ b, (bitW b).length ≤ 32 := by intro b; cases b <;> simp [bitW]
  have k4 : (hexW c.key).length ≤ 32 := by
    unfold hexW; split
    · simp
    · rw [hexL_length]; omega
  obtain ⟨f1, f2, f3, f4, f5, f6, f7, f8, f9, f10, f11, f12, f13, f14, f15, f16⟩ := hf
  obtain ⟨o1, o2, o3, o4, o5, o6, o7⟩ := hk
  intro w hw
  simp only [Conf.words, List.mem_cons, List.not_mem_nil, or_false] at hw
  repeat' (rcases hw with rfl | hw)
  all_goals first | exact k4 | exact k3 _ | (apply k2; assumption) | (apply key; omega) | decide | skip


instance (c : Conf) : Decidable c.Fits := inferInstanceAs (Decidable (_ ∧ _))
/-- The line of settings, and its code. -/
def setS (c : Conf) : B := if c.Fits then lineOf c.words else []
def setE (c : Conf) : Int := if c.Fits then 0 else 1

theorem Setting_ok {H : Heap} {c : Conf} (hk : c.Ok) {Q : AEnd → RS → Heap → Prop} (q : ∀ H', H.ext [] H' → Q (.ret (.tuple [.str (setS c), .int .i64 (setE c)])) .no H') :
    CallOk (E O) 14 [.agg c.cells] .no H Q := by
  refine CallOk.go c14 rfl rfl ?_
  simp [c14, c14_r0, c14_r1, c14_r2, c14_r3]
  have hl : WL (((H.new (.cells 0 c.cells true)).new (.cells 0 [.int .i64 0] true)).new (.cells 0 [.nils, .bool false] true)) (H.next + 1 + 1) (H.next + 1 + 1) [] :=
    ⟨⟨.nils, by simp, .inl ⟨rfl, rfl⟩⟩, by simp, by simp⟩
  have hc : (((H.new (.cells 0 c.cells true)).new (.cells 0 [.int .i64 0] true)).new (.cells 0 [.nils, .bool false] true)).get (H.next + 1) = some (.cells 0 [.int .i64 0] true) := by simp
  have he : H.ext [] (((H.new (.cells 0 c.cells true)).new (.cells 0 [.int .i64 0] true)).new (.cells 0 [.nils, .bool false] true)) := (((Heap.ext_refl _ _).new _).new _).new _
  have hg : (((H.new (.cells 0 c.cells true)).new (.cells 0 [.int .i64 0] true)).new (.cells 0 [.nils, .bool false] true)).get H.next = some (.cells 0 c.cells true) := by
    rw [Heap.get_new_ne _ _ (by simp; omega), Heap.get_new_ne _ _ (by simp)]; simp
  have hn : (((H.new (.cells 0 c.cells true)).new (.cells 0 [.int .i64 0] true)).new (.cells 0 [.nils, .bool false] true)).next = H.next + 3 := by simp
  generalize (((H.new (.cells 0 c.cells true)).new (.cells 0 [.int .i64 0] true)).new (.cells 0 [.nils, .bool false] true)) = H0 at *
  refine setting_w hk (H0 := H0) ⟨Heap.ext_refl _ _, by omega, _, hl, .inl rfl⟩ hg (by omega) (by omega) (fun H' hf h' => ?_) (fun H' hf e' => ?_)
  · obtain ⟨i, hw, hi⟩ := h'.ex
    have hg' := h'.get hc (by omega) (by omega)
    have hle := join_le [32] 32 c.words (words_len hk hf)
    have hwl : c.words.length = 53 := rfl
    rw [hwl] at hle
    simp [c14_r4]
    refine text_w hw ?_ ?_ ?_
    · exact Nat.le_trans hle (by simp)
    · omega
    simp [hg']
    refine Fin_ret_call E_defers (caught_no ?_)
    simp
    have := q (H'.set (H.next + 1) (AObj.cells 0 [AV.int IntKind.i64 0] true)) ((he.trans_new h'.ext (by simp; omega)).set _ _ (.inr (by omega)))
    simpa [setS, setE, hf] using this
  · simp
    refine Fin_panic_call E_defers (caught_flt (x := .int .i64 0) ?_ ?_ fun H'' e2 g2 => ?_)
    · rw [e'.2 _ (by omega) (by simp)]; exact hc
    · have := e'.1; omega
    simp [g2]
    have := q H'' ((he.trans_new e' (by simp; omega)).trans_new e2 (by simp))
    simpa [setS, setE, hf] using this
end Go.S

namespace Go.S
open Go Go.Ab Go.RowKit Go.Proofs

/-- The pieces between bytes c. -/
def splitW (c : UInt8) : List UInt8 → List (List UInt8)
  | [] => [[]]
  | b :: r => if b = c then [] :: splitW c r else match splitW c r with
    | w :: ws => (b :: w) :: ws
    | [] => [[b]]

theorem splitW_ne (c : UInt8) : ∀ s, splitW c s ≠ []
  | [] => by simp [splitW]
  | b :: r => by
    simp only [splitW]
    split
    · simp
    · split <;> simp

theorem isPrefixOf_one (c b : UInt8) (l : List UInt8) : [c].isPrefixOf (b :: l) = (c == b) := by simp [List.isPrefixOf]

theorem splitK_eq (c : UInt8) : ∀ s : List UInt8, Lib.splitK [c] 0 (Lib.count s [c]) s = splitW c s
  | [] => by
    have : Lib.count [] [c] = 0 := Lib.count_miss (by simp [Lib.index])
    rw [this]; rfl
  | b :: l => by
    have ih := splitK_eq c l
    have hx : Lib.index (b :: l) [c] = if (c == b) = true then 0 else if Lib.index l [c] == -1 then -1 else Lib.index l [c] + 1 := by
      rw [Lib.index, isPrefixOf_one]
    by_cases hb : b = c
    · subst hb
      simp only [beq_self_eq_true, if_true] at hx
      rw [Lib.count_hit (i := 0) (by simp) hx, Nat.add_comm, Lib.splitK, hx]
      simp [splitW, ih]
    · have hb' : (c == b) = false := by simp; exact fun e => hb e.symm
      simp only [hb', Bool.false_eq_true, if_false] at hx
      have hs : splitW c (b :: l) = match splitW c l with | w :: ws => (b :: w) :: ws | [] => [[b]] := by simp [splitW, hb]
      rw [hs, ← ih]
      by_cases hi : Lib.index l [c] = -1
      · simp only [hi, beq_self_eq_true, if_true] at hx
        rw [Lib.count_miss hx, Lib.count_miss hi]
        rfl
      · have hge := Lib.index_ge l [c]
        obtain ⟨i, hi2⟩ : ∃ i : Nat, Lib.index l [c] = i := ⟨(Lib.index l [c]).toNat, by omega⟩
        have hne : ((i : Int) == -1) = false := by simp
        simp only [hi2, hne, Bool.false_eq_true, if_false] at hx
        rw [Lib.count_hit (i := i + 1) (by simp) (by rw [hx]; rfl), Lib.count_hit (i := i) (by simp) hi2]
        simp only [Nat.add_comm 1, Lib.splitK, hx, hi2, hne, Bool.false_eq_true, if_false]
        have : ((i : Int) + 1 == -1) = false := by simp; omega
        have e3 : ((i : Int) + 1).toNat = i + 1 := by omega
        simp [this, e3]

theorem splitL_eq (s : List UInt8) (c : UInt8) : splitL s [c] = splitW c s := by
  unfold splitL
  rw [Lib.splitB_data]
  exact splitK_eq c s

theorem splitW_len (c : UInt8) : ∀ s, ∀ w ∈ splitW c s, w.length ≤ s.length
  | [], w, h => by simp [splitW] at h; simp [h]
  | b :: r, w, h => by
    have ih := splitW_len c r
    simp only [splitW] at h
    split at h
    · simp only [List.mem_cons] at h
      rcases h with rfl | h
      · simp
      · have := ih w h; simp; omega
    · split at h
      · rename_i w0 ws e
        simp only [List.mem_cons] at h
        rcases h with rfl | h
        · have := ih w0 (by simp [e]); simp; omega
        · have := ih w (by simp [e, h]); simp; omega
      · simp at h; simp [h]

theorem splitW_no (c : UInt8) : ∀ s, ∀ w ∈ splitW c s, c ∉ w
  | [], w, h => by simp [splitW] at h; simp [h]
  | b :: r, w, h => by
    have ih := splitW_no c r
    simp only [splitW] at h
    split at h
    · simp only [List.mem_cons] at h
      rcases h with rfl | h
      · simp
      · exact ih w h
    · rename_i hb
      split at h
      · rename_i w0 ws e
        simp only [List.mem_cons] at h
        rcases h with rfl | h
        · have := ih w0 (by simp [e]); simp [this]; exact fun e => hb e.symm
        · exact ih w (by simp [e, h])
      · simp at h; subst h; simp; exact fun e => hb e.symm

theorem join_cons2 (c : UInt8) (w x : List UInt8) (r : List (List UInt8)) : Lib.join (w :: x :: r) [c] = w ++ c :: Lib.join (x :: r) [c] := by
  simp [Lib.join, List.intercalate]
theorem join_one (c : UInt8) (w : List UInt8) : Lib.join [w] [c] = w := by simp [Lib.join, List.intercalate]
theorem join_head (c b : UInt8) (w : List UInt8) (r : List (List UInt8)) : Lib.join ((b :: w) :: r) [c] = b :: Lib.join (w :: r) [c] := by
  cases r with
  | nil => simp [join_one]
  | cons x r => simp [join_cons2]

theorem join_splitW (c : UInt8) : ∀ s, Lib.join (splitW c s) [c] = s
  | [] => by simp [splitW, join_one]
  | b :: r => by
    have ih := join_splitW c r
    simp only [splitW]
    split
    · rename_i hb
      subst hb
      have := splitW_ne b r
      cases e : splitW b r with
      | nil => exact absurd e this
      | cons x t => rw [join_cons2, ← e, ih]; rfl
    · split
      · rename_i w ws e
        rw [join_head, ← e, ih]
      · rename_i e; exact absurd e (splitW_ne c r)

theorem splitW_app (c : UInt8) : ∀ (w r : List UInt8), c ∉ w → splitW c (w ++ c :: r) = w :: splitW c r
  | [], r, _ => by simp [splitW]
  | b :: w, r, h => by
    simp only [List.mem_cons, not_or] at h
    have hb : ¬ b = c := fun e => h.1 e.symm
    rw [List.cons_append, splitW, if_neg hb, splitW_app c w r h.2]
theorem splitW_self (c : UInt8) : ∀ (w : List UInt8), c ∉ w → splitW c w = [w]
  | [], _ => by simp [splitW]
  | b :: w, h => by
    simp only [List.mem_cons, not_or] at h
    have hb : ¬ b = c := fun e => h.1 e.symm
    rw [splitW, if_neg hb, splitW_self c w h.2]

theorem splitW_join (c : UInt8) : ∀ ws : List (List UInt8), ws ≠ [] → (∀ w ∈ ws, c ∉ w) → splitW c (Lib.join ws [c]) = ws
  | [], h, _ => absurd rfl h
  | [w], _, h => by rw [join_one]; exact splitW_self c w (h w (by simp))
  | w :: x :: r, _, h => by
    rw [join_cons2, splitW_app c w _ (h w (by simp)), splitW_join c (x :: r) (by simp) (fun y hy => h y (by simp [hy]))]

theorem splitW_count (c : UInt8) (s : List UInt8) : (splitW c s).length = Lib.count s [c] + 1 := by
  rw [← splitL_eq, splitL, List.length_map, Lib.splitB_all (ba [c]) (by simp [ba, ByteArray.size]) 0 _ (ba s) rfl]
  rfl
end Go.S

namespace Go.S
open Go Go.Ab Go.RowKit Go.Proofs
variable {O : Old}

/-- A text's words as a read line. -/
theorem call_split {s : B} {H : Heap} {Q : AEnd → RS → Heap → Prop} (hs : s.length ≤ 16777216) (q : Q (.ret (.slice H.next 0 0 (splitW 32 s).length (splitW 32 s).length)) .no (H.new (.cells 0 (strs (splitW 32 s)) true))) :
    CallOk (E O) 32 [.str s, .str [32]] .no H Q := by
  refine CallOk.known (v := .slice H.next 0 0 (splitW 32 s).length (splitW 32 s).length) (H' := H.new (.cells 0 (strs (splitW 32 s)) true)) ?_ q
  have : Lib.countB (ba s) (ba [32]) + 1 = (splitW 32 s).length := by rw [splitW_count]; rfl
  have hc : List.length s < 4294967281 ∧ 1 ≤ List.length [(32 : UInt8)] := ⟨by omega, by simp⟩
  simp [knownV, kSplit, this, splitL_eq]
  omega

/-- The settings of a line. -/
def setR (s : B) : Option Conf := match settingR (splitW 32 s) with
  | some (c, []) => some c
  | _ => none
def setRC (s : B) : Conf := (setR s).getD Conf.zero
def setRE (s : B) : Int := if (setR s).isSome then 0 else 250

theorem ReadSetting_ok {H : Heap} {s : B} (hs : s.length ≤ 16777216) {Q : AEnd → RS → Heap → Prop} (q : ∀ H', H.ext [] H' → Q (.ret (.tuple [.agg (setRC s).cells, .int .i64 (setRE s)])) .no H') :
    CallOk (E O) 16 [.str s] .no H Q := by
  refine CallOk.go c16 rfl rfl ?_
  simp [c16, c16_r0, c16_r1, c16_r2, c16_r3]
  refine call_split hs ?_
  simp [c16_r4]
  have hz : [AV.int .u8 0, AV.int .u8 0, AV.int .u8 0, AV.int .u8 0, AV.int .u8 0, AV.int .u8 0, AV.int .u8 0, AV.int .u8 0, AV.int .u8 0, AV.int .u8 0, AV.int .u8 0, AV.int .u8 0, AV.int .u8 0, AV.int .u8 0, AV.int .u8 0, AV.int .u8 0, AV.int .u64 0, AV.int .i64 0, AV.int .u32 0, AV.int .u16 0, AV.int .u16 0, AV.int .i64 0, AV.int .i64 0, AV.int .u16 0, AV.int .u16 0, AV.int .i64 0, AV.int .i64 0, AV.int .i64 0, AV.int .i64 0, AV.int .i64 0, AV.int .i64 0, AV.int .i64 0, AV.int .i64 0, AV.int .i64 0, AV.int .i64 0, AV.int .i64 0, AV.int .i64 0, AV.int .i64 0, AV.bool false, AV.bool false, AV.bool false] = Conf.zero.cells := rfl
  rw [hz]
  clear hz
  have g0 : (((((H.new (.cells 0 Conf.zero.cells true)).new (.cells 0 [.int .i64 0] true)).new (.cells 0 Conf.zero.cells true)).new (.cells 0 (strs (splitW 32 s)) true)).new (.cells 0 [.slice (H.next + 1 + 1 + 1) 0 0 (splitW 32 s).length (splitW 32 s).length, .bool true] true)).get H.next = some (.cells 0 Conf.zero.cells true) := by
    rw [Heap.get_new_ne _ _ (by simp <;> omega), Heap.get_new_ne _ _ (by simp <;> omega), Heap.get_new_ne _ _ (by simp <;> omega), Heap.get_new_ne _ _ (by simp <;> omega)]; simp
  have g1 : (((((H.new (.cells 0 Conf.zero.cells true)).new (.cells 0 [.int .i64 0] true)).new (.cells 0 Conf.zero.cells true)).new (.cells 0 (strs (splitW 32 s)) true)).new (.cells 0 [.slice (H.next + 1 + 1 + 1) 0 0 (splitW 32 s).length (splitW 32 s).length, .bool true] true)).get (H.next + 1) = some (.cells 0 [.int .i64 0] true) := by
    rw [Heap.get_new_ne _ _ (by simp <;> omega), Heap.get_new_ne _ _ (by simp <;> omega), Heap.get_new_ne _ _ (by simp <;> omega)]; simp
  have g2 : (((((H.new (.cells 0 Conf.zero.cells true)).new (.cells 0 [.int .i64 0] true)).new (.cells 0 Conf.zero.cells true)).new (.cells 0 (strs (splitW 32 s)) true)).new (.cells 0 [.slice (H.next + 1 + 1 + 1) 0 0 (splitW 32 s).length (splitW 32 s).length, .bool true] true)).get (H.next + 1 + 1) = some (.cells 0 Conf.zero.cells true) := by
    rw [Heap.get_new_ne _ _ (by simp <;> omega), Heap.get_new_ne _ _ (by simp <;> omega)]; simp
  have g3 : (((((H.new (.cells 0 Conf.zero.cells true)).new (.cells 0 [.int .i64 0] true)).new (.cells 0 Conf.zero.cells true)).new (.cells 0 (strs (splitW 32 s)) true)).new (.cells 0 [.slice (H.next + 1 + 1 + 1) 0 0 (splitW 32 s).length (splitW 32 s).length, .bool true] true)).get (H.next + 1 + 1 + 1) = some (.cells 0 (strs (splitW 32 s)) true) := by
    rw [Heap.get_new_ne _ _ (by simp)]; simp
  have g4 : (((((H.new (.cells 0 Conf.zero.cells true)).new (.cells 0 [.int .i64 0] true)).new (.cells 0 Conf.zero.cells true)).new (.cells 0 (strs (splitW 32 s)) true)).new (.cells 0 [.slice (H.next + 1 + 1 + 1) 0 0 (splitW 32 s).length (splitW 32 s).length, .bool true] true)).get (H.next + 1 + 1 + 1 + 1) = some (.cells 0 [.slice (H.next + 1 + 1 + 1) 0 0 (splitW 32 s).length (splitW 32 s).length, .bool true] true) := by simp
  have he : H.ext [] (((((H.new (.cells 0 Conf.zero.cells true)).new (.cells 0 [.int .i64 0] true)).new (.cells 0 Conf.zero.cells true)).new (.cells 0 (strs (splitW 32 s)) true)).new (.cells 0 [.slice (H.next + 1 + 1 + 1) 0 0 (splitW 32 s).length (splitW 32 s).length, .bool true] true)) := (((((Heap.ext_refl _ _).new _).new _).new _).new _).new _
  have hn : (((((H.new (.cells 0 Conf.zero.cells true)).new (.cells 0 [.int .i64 0] true)).new (.cells 0 Conf.zero.cells true)).new (.cells 0 (strs (splitW 32 s)) true)).new (.cells 0 [.slice (H.next + 1 + 1 + 1) 0 0 (splitW 32 s).length (splitW 32 s).length, .bool true] true)).next = H.next + 1 + 1 + 1 + 1 + 1 := by simp
  generalize (((((H.new (.cells 0 Conf.zero.cells true)).new (.cells 0 [.int .i64 0] true)).new (.cells 0 Conf.zero.cells true)).new (.cells 0 (strs (splitW 32 s)) true)).new (.cells 0 [.slice (H.next + 1 + 1 + 1) 0 0 (splitW 32 s).length (splitW 32 s).length, .bool true] true)) = H0 at *
  have hri : RI H0 (H.next + 1 + 1 + 1 + 1) (H.next + 1 + 1 + 1) (H.next + 1 + 1) H0 (splitW 32 s) Conf.zero.cells :=
    ⟨Heap.ext_refl _ _, ⟨⟨0, 0, _, _, _, g4, g3, by simp only [List.drop_zero]; rw [← strs_length, List.take_length], Nat.le_refl _⟩, by omega, by omega, by omega⟩, g2, by omega, by omega, by omega, fun w hw => Nat.le_trans (splitW_len 32 s w hw) hs⟩
  refine setting_r hri (fun H' c ws' e hk h' => ?_) (fun H' e he' => ?_)
  · have g0' := h'.ext.2 _ (by omega : H.next < H0.next) (by simp; omega)
    have g1' := h'.ext.2 _ (by omega : H.next + 1 < H0.next) (by simp)
    rw [g0] at g0'
    rw [g1] at g1'
    have gt := h'.get
    have hnx := h'.ext.1
    simp [c16_r5]
    refine done_r h'.rl (fun hw => ?_) (fun hw => ?_)
    · subst hw
      have hlen : c.cells.length = 41 := by simp [Conf.cells, Conf.tl, hk]
      have hzl : Conf.zero.cells.length = 41 := rfl
      have htk : List.take 41 c.cells = c.cells := by rw [← hlen, List.take_length]
      have hov : over Conf.zero.cells 0 c.cells = some c.cells := by
        unfold over; simp [hlen, hzl, List.drop_eq_nil_of_le]
      have al : c.cells.all AV.isCell = true := by simp [Conf.cells, Conf.tl, u8s, u8, AV.isCell]
      simp [c16_r6, gt, g0', g1', hlen, htk, hov, wr, al]
      refine Fin_ret_call E_defers (caught_no ?_)
      simp [hlen, htk]
      have hrn : setR s = some c := by unfold setR; rw [e]
      have := q _ (((he.trans_new h'.ext (by simp; omega)).set H.next (.cells 0 c.cells true) (.inr (Nat.le_refl _))).set (H.next + 1) (.cells 0 [.int .i64 0] true) (.inr (by omega)))
      rw [setRC, setRE, hrn] at this
      exact this
    · simp
      refine Fin_panic_call E_defers (caught_flt (x := .int .i64 0) g1' (by omega) fun H'' e2 g2 => ?_)
      have g0'' := e2.2 _ (by omega : H.next < H'.next) (by simp)
      rw [g0'] at g0''
      have hzl : Conf.zero.cells.length = 41 := rfl
      have hzt : List.take 41 Conf.zero.cells = Conf.zero.cells := rfl
      have hrn : setR s = none := by
        unfold setR; rw [e]
        cases ws' with
        | nil => exact absurd rfl hw
        | cons _ _ => rfl
      have := q H'' (((he.trans_new h'.ext (by simp; omega))).trans_new e2 (by simp))
      rw [setRC, setRE, hrn] at this
      simp [g0'', g2, hzl, hzt]
      exact this
  · have g0' := he'.2 _ (by omega : H.next < H0.next) (by simp; omega)
    have g1' := he'.2 _ (by omega : H.next + 1 < H0.next) (by simp)
    rw [g0] at g0'
    rw [g1] at g1'
    have hnx := he'.1
    simp
    refine Fin_panic_call E_defers (caught_flt (x := .int .i64 0) g1' (by omega) fun H'' e2 g2 => ?_)
    have g0'' := e2.2 _ (by omega : H.next < H'.next) (by simp)
    rw [g0'] at g0''
    have hzl : Conf.zero.cells.length = 41 := rfl
    have hzt : List.take 41 Conf.zero.cells = Conf.zero.cells := rfl
    have hrn : setR s = none := by unfold setR; rw [e]
    have := q H'' (((he.trans_new he' (by simp; omega))).trans_new e2 (by simp))
    rw [setRC, setRE, hrn] at this
    simp [g0'', g2, hzl, hzt]
    exact this
end Go.S

namespace Go.S
open Go Go.Ab Go.RowKit Go.Proofs
variable {O : Old}

def Deed.zero : Deed := ⟨0, 0, 0, 0, 0, 0, 0, 0, 0, false, [], []⟩
/-- The deed of a line. -/
def lineR (s : B) : Option Deed := match deedR Deed.zero (splitW 32 s) with
  | some (d, []) => some d
  | _ => none
def lineRD (s : B) : Deed := (lineR s).getD Deed.zero
def lineRE (s : B) : Int := if (lineR s).isSome then 0 else 250

/-- ReadLine's closure. -/
theorem is33 {H : Heap} {j : Nat} {w : B} (hg : H.get j = some (.cells 0 [.str w] true)) (hj : j < H.next) : Is O H 33 [.ptr j 0 0] (fun _ n => n == w) := by
  intro H1 he x Q q
  refine CallOk.go c33 rfl rfl ?_
  have h1 : H1.get j = some (.cells 0 [.str w] true) := by rw [he.2 j hj (by simp)]; exact hg
  have hl := he.1
  simp [c33, c33_r0, c33_r1, h1, show ¬ j = H1.next by omega]
  exact q _ ((Heap.ext_refl _ _).new _)
/-- Line's closure. -/
theorem is26 {H : Heap} {j : Nat} {d : Deed} {v : AV} (hg : H.get j = some (.cells 0 (d.cells v) true)) (hj : j < H.next) : Is O H 26 [.ptr j 0 0] (fun k _ => k == d.kind) := by
  intro H1 he x Q q
  refine CallOk.go c26 rfl rfl ?_
  have h1 : H1.get j = some (.cells 0 (d.cells v) true) := by rw [he.2 j hj (by simp)]; exact hg
  have hl := he.1
  simp [c26, c26_r0, c26_r1, h1, Deed.cells, show ¬ j = H1.next by omega]
  exact q _ ((Heap.ext_refl _ _).new _)

theorem DV.set {H : Heap} {v : AV} {bs : List UInt8} {l t k x : Nat} {y : List AV} (o : AObj) (h : DV H v bs l t) (hk : H.get k = some (.cells x y true)) : DV (H.set k o) v bs l t := by
  rcases h with h | ⟨j, u, a, b, c, d, e⟩
  · exact .inl h
  · right
    have hjk : j ≠ k := by
      rintro rfl
      rw [b] at hk
      simp at hk
    exact ⟨j, u, a, by rw [Heap.get_set, if_neg hjk]; exact b, c, d, e⟩

theorem ReadLine_ok {H : Heap} {s : B} (hs : s.length ≤ 16777216) {Q : AEnd → RS → Heap → Prop}
    (q : ∀ H' v, H.ext [] H' → Byt O H' v (lineRD s).data → Q (.ret (.tuple [.agg ((lineRD s).cells v), .int .i64 (lineRE s)])) .no H') : CallOk (E O) 10 [.str s] .no H Q := by
  refine CallOk.go c10 rfl rfl ?_
  simp [c10, c10_r0, c10_r1, c10_r2, c10_r3]
  refine call_split hs ?_
  have hz : ([AV.int .i64 0, .int .i64 0, .int .i64 0, .int .i64 0, .int .i64 0, .int .u8 0, .int .i64 0, .int .u16 0, .int .u32 0, .bool false, .nils, .str []] : List AV) = Deed.zero.cells .nils := rfl
  obtain ⟨w, ws, hw⟩ : ∃ w ws, splitW 32 s = w :: ws := by
    cases h : splitW 32 s with
    | nil => exact absurd h (splitW_ne 32 s)
    | cons w ws => exact ⟨w, ws, rfl⟩
  have hlw : ∀ x ∈ w :: ws, x.length ≤ 16777216 := fun x hx => Nat.le_trans (splitW_len 32 s x (by rw [hw]; exact hx)) hs
  rw [hw]
  simp [c10_r4, wr, over]
  rw [hz]
  clear hz
  generalize hH0 : Heap.set _ (H.next + 1 + 1 + 1 + 1 + 1 + 1) _ = H0
  have n0 : H0.next = H.next + 7 := by subst hH0; simp
  have e0 : H.ext [] H0 := by
    subst hH0
    exact (((((((((Heap.ext_refl _ _).new _).new _).new _).new _).new _).new _).set (H.next + 1 + 1 + 1 + 1 + 1) _ (.inr (by omega))).new _).set (H.next + 1 + 1 + 1 + 1 + 1 + 1) _ (.inr (by omega))
  have g0 : H0.get H.next = some (.cells 0 (Deed.zero.cells .nils) true) := by
    subst hH0; simp [Heap.get_set, Heap.get_new]; repeat (first | rfl | rw [if_neg (by omega)] | rw [if_pos (by omega)])
  have g1 : H0.get (H.next + 1) = some (.cells 0 [.int .i64 0] true) := by
    subst hH0; simp [Heap.get_set, Heap.get_new]; repeat (first | rfl | rw [if_neg (by omega)] | rw [if_pos (by omega)])
  have g2 : H0.get (H.next + 1 + 1) = some (.cells 0 (Deed.zero.cells .nils) true) := by
    subst hH0; simp [Heap.get_set, Heap.get_new]; repeat (first | rfl | rw [if_neg (by omega)] | rw [if_pos (by omega)])
  have g3 : H0.get (H.next + 1 + 1 + 1) = some (.cells 0 (strs (w :: ws)) true) := by
    subst hH0; simp [Heap.get_set, Heap.get_new]; repeat (first | rfl | rw [if_neg (by omega)] | rw [if_pos (by omega)])
  have g4 : H0.get (H.next + 1 + 1 + 1 + 1) = some (.cells 0 [.slice (H.next + 1 + 1 + 1) 0 0 (w :: ws).length (ws.length + 1), .bool true] true) := by
    subst hH0; simp [Heap.get_set, Heap.get_new]; repeat (first | rfl | rw [if_neg (by omega)] | rw [if_pos (by omega)])
  have g5 : H0.get (H.next + 1 + 1 + 1 + 1 + 1) = some (.cells 0 [.ptr (H.next + 1 + 1 + 1 + 1) 0 0, .ptr (H.next + 1 + 1) 0 0] true) := by
    subst hH0; simp [Heap.get_set, Heap.get_new]; repeat (first | rfl | rw [if_neg (by omega)] | rw [if_pos (by omega)])
  have g6 : H0.get (H.next + 1 + 1 + 1 + 1 + 1 + 1) = some (.cells 0 [.str w] true) := by
    subst hH0; simp [Heap.get_set, Heap.get_new]; repeat (first | rfl | rw [if_neg (by omega)] | rw [if_pos (by omega)])
  clear hH0
  have tks : List.take (ws.length + 1) (strs (w :: ws)) = strs (w :: ws) := by
    have : ws.length + 1 = (strs (w :: ws)).length := by simp
    rw [this, List.take_length]
  have hrp : RP H0 (H.next + 1 + 1 + 1 + 1) (H.next + 1 + 1 + 1) (H.next + 1 + 1) H0 (w :: ws) Deed.zero :=
    ⟨.nils, ⟨Heap.ext_refl _ _, ⟨⟨0, 0, _, _, _, g4, g3, by simpa using tks, by simp⟩, by omega, by omega, by omega⟩, g2, by omega, by omega, by omega, hlw⟩, .inl ⟨rfl, rfl⟩⟩
  have zc : (Deed.zero.cells .nils) = [AV.int .i64 0, .int .i64 0, .int .i64 0, .int .i64 0, .int .i64 0, .int .u8 0, .int .i64 0, .int .u16 0, .int .u32 0, .bool false, .nils, .str []] := rfl
  simp [c10_r5, Fn.isYield, g5]
  refine say_r hrp (is33 g6 (by omega)) (fun H1 d' ws' a b => ?_) (fun H1 a b => ?_)
  · obtain ⟨v, r, dv⟩ := b.ex
    have e1 := r.ext
    have k0 : H1.get H.next = _ := (e1.2 _ (by omega) (by simp; omega)).trans g0
    have k1 : H1.get (H.next + 1) = _ := (e1.2 _ (by omega) (by simp)).trans g1
    have k5 : H1.get (H.next + 1 + 1 + 1 + 1 + 1) = _ := (e1.2 _ (by omega) (by simp; omega)).trans g5
    have hn1 := e1.1
    simp [c10_r6, k5]
    refine done_r r.rl (fun hz => ?_) (fun hz => ?_)
    · subst hz
      have gt := r.get
      have hc : v.cells = [v] ∧ v.isCell = true := by rcases dv with ⟨rfl, _⟩ | ⟨_, _, rfl, _⟩ <;> exact ⟨rfl, rfl⟩
      have hl : lineR s = some d' := by unfold lineR; rw [hw, a]
      have hv2 : (d'.cells v).all AV.isCell = true := by simp [Deed.cells, AV.isCell]; exact hc.2
      have ov : over (Deed.zero.cells .nils) 0 (d'.cells v) = some (d'.cells v) := by simp [over, Deed.cells, zc]
      have hlen : (d'.cells v).length = 12 := by simp [Deed.cells]
      have htk : List.take 12 (d'.cells v) = d'.cells v := by rw [← hlen, List.take_length]
      simp [c10_r7, gt, hlen, htk, hv2, wr, k0, ov, k1]
      refine Fin_ret_call E_defers (caught_no ?_)
      simp [hlen, htk]
      have ex : H.ext [] ((H1.set H.next (.cells 0 (d'.cells v) true)).set (H.next + 1) (.cells 0 [.int .i64 0] true)) :=
        ((e0.trans_new e1 (by simp <;> omega)).set _ _ (.inr (by omega))).set _ _ (.inr (by omega))
      have k1' : (H1.set H.next (.cells 0 (d'.cells v) true)).get (H.next + 1) = some (.cells 0 [.int .i64 0] true) := by rw [Heap.get_set, if_neg (by omega)]; exact k1
      have := q _ v ex (by rw [lineRD, hl]; exact ((dv.set _ k0).set _ k1').byt)
      rw [lineRD, lineRE, hl] at this
      exact this
    · simp
      refine Fin_panic_call E_defers (caught_flt k1 (by omega) fun H2 e2 g2' => ?_)
      have k02 := (e2.2 _ (by omega) (by simp)).trans k0
      have hl : lineR s = none := by
        unfold lineR; rw [hw, a]
        cases ws' with
        | nil => exact absurd rfl hz
        | cons _ _ => rfl
      simp [k02, g2', zc]
      have := q H2 .nils ((e0.trans_new e1 (by simp <;> omega)).trans_new e2 (by simp)) (by rw [lineRD, hl]; exact ⟨fun s h => (by cases h), fun H' _ => rfl⟩)
      rw [lineRD, lineRE, hl] at this
      exact this
  · have k0 : H1.get H.next = _ := (b.2 _ (by omega) (by simp; omega)).trans g0
    have k1 : H1.get (H.next + 1) = _ := (b.2 _ (by omega) (by simp)).trans g1
    have hn1 := b.1
    simp
    refine Fin_panic_call E_defers (caught_flt k1 (by omega) fun H2 e2 g2' => ?_)
    have k02 := (e2.2 _ (by omega) (by simp)).trans k0
    have hl : lineR s = none := by unfold lineR; rw [hw, a]
    simp [k02, g2', zc]
    have := q H2 .nils ((e0.trans_new b (by simp <;> omega)).trans_new e2 (by simp)) (by rw [lineRD, hl]; exact ⟨fun s h => (by cases h), fun H' _ => rfl⟩)
    rw [lineRD, lineRE, hl] at this
    exact this
end Go.S

namespace Go.S
open Go Go.Ab Go.RowKit Go.Proofs
variable {O : Old}

theorem hexW_len {l : List UInt8} (h : l.length ≤ 65536) : (hexW l).length ≤ 131072 := by
  unfold hexW; split
  · simp
  · rw [hexL_length]; omega
theorem pw_len {f : Nat} {d : Deed} {w : B} (ok : d.Ok) (h : pw f d = some w) : w.length ≤ 131072 := by
  have key : ∀ n, n < 18446744073709551616 → (Lib.decDigits n).length ≤ 131072 := fun n h => Nat.le_trans (decDigits_len h) (by omega)
  have k1 : ∀ n : Int, numW n = some w → w.length ≤ 131072 := fun n h => by
    unfold numW at h; split at h
    · simp only [Option.some.injEq] at h; subst h; exact key _ (by omega)
    · cases h
  have k2 : ∀ l, bytW l = some w → w.length ≤ 131072 := fun l h => by
    unfold bytW at h; split at h
    · simp only [Option.some.injEq] at h; subst h; exact hexW_len (by assumption)
    · cases h
  have o1 := ok.bits; have o2 := ok.stream; have o3 := ok.proto
  unfold pw at h
  split at h <;> first | exact k1 _ h | exact k2 _ h | (simp only [Option.some.injEq] at h; subst h; exact key _ (by omega)) | (simp only [Option.some.injEq] at h; subst h; split <;> simp) | (cases h)
theorem pws_len {d : Deed} (ok : d.Ok) : ∀ {ids : List Nat} {ws : List B}, pws ids d = some ws → ws.length = ids.length ∧ ∀ w ∈ ws, w.length ≤ 131072
  | [], ws, h => by simp only [pws, Option.some.injEq] at h; subst h; simp
  | f :: r, ws, h => by
    simp only [pws] at h
    cases hf : pw f d with
    | none => rw [hf] at h; cases h
    | some w =>
      rw [hf] at h
      simp only [Option.map_eq_some_iff] at h
      obtain ⟨ws', h1, rfl⟩ := h
      obtain ⟨a, b⟩ := pws_len ok h1
      refine ⟨by simp [a], fun x hx => ?_⟩
      rcases List.mem_cons.1 hx with rfl | hx
      · exact pw_len ok hf
      · exact b x hx
theorem vtab_len : ∀ e ∈ vtab, e.2.1.length ≤ 131072 ∧ e.2.2.length ≤ 5 := by decide
theorem deedW_len {d : Deed} (ok : d.Ok) {ws : List B} (h : deedW d = some ws) : ws.length ≤ 6 ∧ ∀ w ∈ ws, w.length ≤ 131072 := by
  unfold deedW at h
  split at h
  · rename_i e he
    simp only [Option.map_eq_some_iff] at h
    obtain ⟨ws', h1, rfl⟩ := h
    obtain ⟨a, b⟩ := pws_len ok h1
    obtain ⟨c1, c2⟩ := vtab_len e (List.mem_of_find?_eq_some he)
    refine ⟨by simp only [List.length_cons]; omega, fun x hx => ?_⟩
    rcases List.mem_cons.1 hx with rfl | hx
    · exact c1
    · exact b x hx
  · cases h

def lineW (d : Deed) : Option B := (deedW d).map lineOf
/-- A deed's line, and its code. -/
def lineS (d : Deed) : B := match lineW d with
  | some t => if lineR t = some d then t else []
  | none => []
def lineE (d : Deed) : Int := match lineW d with
  | some t => if lineR t = some d then 0 else 1
  | none => 1

theorem Line_ok {H : Heap} {d : Deed} {v : AV} (ok : d.Ok) (hb : Byt O H v d.data) (hm : d.data.length < 2 ^ 62) {Q : AEnd → RS → Heap → Prop}
    (q : ∀ H', H.ext [] H' → Q (.ret (.tuple [.str (lineS d), .int .i64 (lineE d)])) .no H') : CallOk (E O) 8 [.agg (d.cells v)] .no H Q := by
  have hc := cell_of_len hb.bsl.1
  have hlen : (d.cells v).length = 12 := by simp [Deed.cells]
  have htk : List.take 12 (d.cells v) = d.cells v := by rw [← hlen, List.take_length]
  have hv2 : (d.cells v).all AV.isCell = true := by simp [Deed.cells, AV.isCell]; exact hc.2
  have ov : ∀ x : Deed, ∀ u, over (Deed.zero.cells .nils) 0 (x.cells u) = some (x.cells u) := fun x u => by simp [over, Deed.cells]
  have hz : ([AV.int .i64 0, .int .i64 0, .int .i64 0, .int .i64 0, .int .i64 0, .int .u8 0, .int .i64 0, .int .u16 0, .int .u32 0, .bool false, .nils, .str []] : List AV) = Deed.zero.cells .nils := rfl
  refine CallOk.go c8 rfl rfl ?_
  simp [c8, c8_r0, c8_r1, c8_r2, c8_r3, hlen, htk, hv2, wr, over]
  generalize hH0 : Heap.set _ (H.next + 1 + 1 + 1 + 1) _ = H0
  have n0 : H0.next = H.next + 5 := by subst hH0; simp
  have e0 : H.ext [] H0 := by
    subst hH0
    exact (((((((Heap.ext_refl _ _).new _).new _).new _).set (H.next + 1 + 1) _ (.inr (by omega))).new _).new _).set (H.next + 1 + 1 + 1 + 1) _ (.inr (by omega))
  have g0 : H0.get H.next = some (.cells 0 (d.cells v) true) := by
    subst hH0; simp [Heap.get_set, Heap.get_new]; repeat (first | rfl | rw [if_neg (by omega)] | rw [if_pos (by omega)])
  have g1 : H0.get (H.next + 1) = some (.cells 0 [.int .i64 0] true) := by
    subst hH0; simp [Heap.get_set, Heap.get_new]; repeat (first | rfl | rw [if_neg (by omega)] | rw [if_pos (by omega)])
  have g2 : H0.get (H.next + 1 + 1) = some (.cells 0 (d.cells v) true) := by
    subst hH0; simp [Heap.get_set, Heap.get_new]; repeat (first | rfl | rw [if_neg (by omega)] | rw [if_pos (by omega)])
  have g3 : H0.get (H.next + 1 + 1 + 1) = some (.cells 0 [.nils, .bool false] true) := by
    subst hH0; simp [Heap.get_set, Heap.get_new]; repeat (first | rfl | rw [if_neg (by omega)] | rw [if_pos (by omega)])
  have g4 : H0.get (H.next + 1 + 1 + 1 + 1) = some (.cells 0 [.ptr (H.next + 1 + 1 + 1) 0 0, .ptr (H.next + 1 + 1) 0 0] true) := by
    subst hH0; simp [Heap.get_set, Heap.get_new]
  clear hH0
  have hwl : WL H0 (H.next + 1 + 1 + 1) (H.next + 1 + 1 + 1) [] := ⟨⟨.nils, g3, .inl ⟨rfl, rfl⟩⟩, by omega, by omega⟩
  simp [c8_r4, Fn.isYield, g4]
  refine say_w hwl g2 (by omega) (by omega) ok (fun H' he => (hb.mono (e0.trans_new he (by simp <;> omega))).bsl) (is26 g0 (by omega)) (fun H1 ws a b => ?_) (fun H1 a b => ?_)
  · have e1 := b.ext
    have hn1 := e1.1
    have k0 : H1.get H.next = _ := (e1.2 _ (by omega) (by simp <;> omega)).trans g0
    have k1 : H1.get (H.next + 1) = _ := (e1.2 _ (by omega) (by simp <;> omega)).trans g1
    have k4 : H1.get (H.next + 1 + 1 + 1 + 1) = _ := (e1.2 _ (by omega) (by simp)).trans g4
    obtain ⟨i, hw, hi⟩ := b.ex
    obtain ⟨l1, l2⟩ := deedW_len ok a
    have hlw : (lineOf ws).length ≤ 1000000 := by
      have := join_le [32] 131072 ws l2
      have h2 : ws.length * (131072 + 1) ≤ 6 * (131072 + 1) := Nat.mul_le_mul_right _ l1
      simp only [List.length_singleton] at this
      exact Nat.le_trans this (by omega)
    simp [c8_r5, k4]
    refine text_w hw (Nat.le_trans hlw (by omega)) (by omega) ?_
    have hW : lineW d = some (lineOf ws) := by unfold lineW; rw [a]; rfl
    simp [c8_r6]
    refine ReadLine_ok (Nat.le_trans hlw (by omega)) fun H2 v2 e2 b2 => ?_
    have hc2 := cell_of_len b2.bsl.1
    have hlen2 : ((lineRD (lineOf ws)).cells v2).length = 12 := by simp [Deed.cells]
    have htk2 : List.take 12 ((lineRD (lineOf ws)).cells v2) = (lineRD (lineOf ws)).cells v2 := by rw [← hlen2, List.take_length]
    have hv22 : ((lineRD (lineOf ws)).cells v2).all AV.isCell = true := by simp [Deed.cells, AV.isCell]; exact hc2.2
    have n2 := e2.1
    have e12 : H.ext [] H2 := (e0.trans_new e1 (by simp <;> omega)).trans e2
    have k02 : H2.get H.next = _ := (e2.2 _ (by omega) (by simp)).trans k0
    have k12 : H2.get (H.next + 1) = _ := (e2.2 _ (by omega) (by simp)).trans k1
    simp [hlen2, hv22, wr, over, htk2]
    have e3 : H2.ext [] ((H2.new (.cells 0 (Deed.zero.cells .nils) true)).set H2.next (.cells 0 ((lineRD (lineOf ws)).cells v2) true)) := ((Heap.ext_refl _ _).new _).set _ _ (.inr (Nat.le_refl _))
    have g3' : ((H2.new (.cells 0 (Deed.zero.cells .nils) true)).set H2.next (.cells 0 ((lineRD (lineOf ws)).cells v2) true)).get H2.next = some (.cells 0 ((lineRD (lineOf ws)).cells v2) true) := by simp
    rw [hz]
    generalize ((H2.new (.cells 0 (Deed.zero.cells .nils) true)).set H2.next (.cells 0 ((lineRD (lineOf ws)).cells v2) true)) = H3 at e3 g3' ⊢
    have n3 := e3.1
    have k03 := (e3.2 _ (by omega) (by simp)).trans k02
    have k13 := (e3.2 _ (by omega) (by simp)).trans k12
    by_cases hr : lineR (lineOf ws) = none
    · have hE : lineRE (lineOf ws) = 250 := by simp [lineRE, hr]
      simp [c8_r7, hE]
      refine must_false ?_
      simp
      refine Fin_panic_call E_defers (caught_flt k13 (by omega) fun H5 e5 g5 => ?_)
      simp [g5]
      have := q _ ((e12.trans e3).trans_new e5 (by simp))
      simpa [lineS, lineE, hW, hr] using this
    · obtain ⟨d2, hr⟩ := Option.ne_none_iff_exists'.1 hr
      have hE : lineRE (lineOf ws) = 0 := by simp [lineRE, hr]
      have hD : lineRD (lineOf ws) = d2 := by simp [lineRD, hr]
      rw [hD] at g3' b2 hlen2 htk2
      simp [c8_r7, hE, g3', hlen2, htk2, k03, hlen, htk]
      refine same_ok (b2.mono e3) (hb.mono (e12.trans e3)) hm fun H4 e4 => ?_
      have n4 := e4.1
      have k14 := (e4.2 _ (by omega) (by simp)).trans k13
      by_cases heq : d2 = d
      · subst heq
        simp
        refine must_true ?_
        simp [c8_r8, k14]
        refine Fin_ret_call E_defers (caught_no ?_)
        simp
        have := q _ (((e12.trans e3).trans e4).set (H.next + 1) (.cells 0 [.int .i64 0] true) (.inr (by omega)))
        simpa [lineS, lineE, hW, hr] using this
      · simp [heq]
        refine must_false ?_
        simp
        refine Fin_panic_call E_defers (caught_flt k14 (by omega) fun H5 e5 g5 => ?_)
        simp [g5]
        have := q _ (((e12.trans e3).trans e4).trans_new e5 (by simp))
        simpa [lineS, lineE, hW, hr, heq] using this
  · have k1 : H1.get (H.next + 1) = _ := (b.2 _ (by omega) (by simp <;> omega)).trans g1
    have n1 := b.1
    simp
    refine Fin_panic_call E_defers (caught_flt k1 (by omega) fun H5 e5 g5 => ?_)
    simp [g5]
    have := q _ ((e0.trans_new b (by simp <;> omega)).trans_new e5 (by simp))
    simpa [lineS, lineE, lineW, a] using this
end Go.S

namespace Go.S
open Go Go.Ab Go.RowKit Go.Proofs
variable {O : Old}

def aliveD : Deed := ⟨2, 1, 0, 0, 0, 0, 0, 2, 7, true, [104, 105], []⟩
def aliveS : B := [115, 101, 110, 100, 32, 49, 32, 50, 32, 55, 32, 117, 32, 54, 56, 54, 57]
theorem alive_w : lineW aliveD = some aliveS := by decide +kernel
theorem alive_r : lineR aliveS = some aliveD := by decide +kernel

theorem alive_ok {H : Heap} {Q : AEnd → RS → Heap → Prop} (q : ∀ H', H.ext [] H' → Q (.ret (.bool true)) .no H') : CallOk (E O) 13 [] .no H Q := by
  refine CallOk.go c13 rfl rfl ?_
  simp [c13, c13_r0, c13_r1, over, wr]
  have hz : ([AV.int .i64 2, .int .i64 1, .int .i64 0, .int .i64 0, .int .i64 0, .int .u8 0, .int .i64 0, .int .u16 2, .int .u32 7, .bool true, .slice H.next 0 0 2 2, .str []] : List AV) = aliveD.cells (.slice H.next 0 0 2 2) := rfl
  rw [hz]
  generalize hH0 : Heap.set _ (H.next + 1) _ = H0
  have n0 : H0.next = H.next + 2 := by subst hH0; simp
  have e0 : H.ext [] H0 := by
    subst hH0
    exact ((((Heap.ext_refl _ _).new _).set H.next _ (.inr (by omega))).new _).set (H.next + 1) _ (.inr (by omega))
  have g0 : H0.get H.next = some (.cells 0 [.int .u8 104, .int .u8 105] true) := by
    subst hH0; simp [Heap.get_set, Heap.get_new]
  have g1 : H0.get (H.next + 1) = some (.cells 0 (aliveD.cells (.slice H.next 0 0 2 2)) true) := by
    subst hH0; simp [Heap.get_set]
  clear hH0 hz
  have hb : Byt O H0 (.slice H.next 0 0 2 2) aliveD.data := by
    refine ⟨fun s h => (by cases h), fun H' he => ?_⟩
    have := (he.2 _ (by omega) (by simp)).trans g0
    simp [elems, rdCells, this, aliveD, u8s, u8]
  have hl : (aliveD.cells (.slice H.next 0 0 2 2)).length = 12 := rfl
  have hc : List.take 12 (aliveD.cells (.slice H.next 0 0 2 2)) = aliveD.cells (.slice H.next 0 0 2 2) := rfl
  simp [c13_r2, g1, hl, hc]
  refine Line_ok ⟨by decide, by decide, by decide⟩ hb (by decide) fun H1 e1 => ?_
  have hS : lineS aliveD = aliveS := by simp [lineS, alive_w, alive_r]
  have hE : lineE aliveD = 0 := by simp [lineE, alive_w, alive_r]
  simp [hS, hE, c13_r3]
  refine ReadLine_ok (by decide) fun H2 v2 e2 b2 => ?_
  have hD : lineRD aliveS = aliveD := by simp [lineRD, alive_r]
  have hR : lineRE aliveS = 0 := by simp [lineRE, alive_r]
  rw [hD] at b2
  rw [hD, hR]
  have hc2 := cell_of_len b2.bsl.1
  have hv2 : (aliveD.cells v2).all AV.isCell = true := by simp [Deed.cells, AV.isCell]; exact hc2.2
  have hl2 : (aliveD.cells v2).length = 12 := rfl
  have ht2 : List.take 12 (aliveD.cells v2) = aliveD.cells v2 := rfl
  have n1 := e1.1
  have n2 := e2.1
  have g12 : H2.get (H.next + 1) = _ := ((e1.trans e2).2 _ (by omega) (by simp)).trans g1
  simp [wr, over, hl2, hv2, ht2, -List.all_eq_true]
  have hz : ([AV.int .i64 0, .int .i64 0, .int .i64 0, .int .i64 0, .int .i64 0, .int .u8 0, .int .i64 0, .int .u16 0, .int .u32 0, .bool false, .nils, .str []] : List AV) = Deed.zero.cells .nils := rfl
  rw [hz]
  have e3 : H2.ext [] ((H2.new (.cells 0 (Deed.zero.cells .nils) true)).set H2.next (.cells 0 (aliveD.cells v2) true)) := ((Heap.ext_refl _ _).new _).set _ _ (.inr (Nat.le_refl _))
  have g3 : ((H2.new (.cells 0 (Deed.zero.cells .nils) true)).set H2.next (.cells 0 (aliveD.cells v2) true)).get H2.next = some (.cells 0 (aliveD.cells v2) true) := by simp
  generalize ((H2.new (.cells 0 (Deed.zero.cells .nils) true)).set H2.next (.cells 0 (aliveD.cells v2) true)) = H3 at e3 g3 ⊢
  have g13 := (e3.2 _ (by omega) (by simp)).trans g12
  have hS2 : (aliveS == [115, 101, 110, 100, 32, 49, 32, 50, 32, 55, 32, 117, 32, 54, 56, 54, 57]) = true := rfl
  simp [c13_r4, hS2, g3, g13, hl, hc, hl2, ht2]
  refine sameDeed_ref (a := aliveD) (b := aliveD) (hb.mono ((e1.trans e2).trans e3)) (b2.mono e3) fun H4 e4 => ?_
  simp
  exact q _ ((((e0.trans e1).trans e2).trans e3).trans e4)
end Go.S

namespace Go.S
open Go Go.Ab Go.RowKit Go.Proofs
variable {O : Old}

/-- What lies below is as it was. -/
def Beyond (b : Nat) (H H' : Heap) : Prop := H.next ≤ H'.next ∧ ∀ i, i < b → H'.get i = H.get i
theorem Beyond.refl (b : Nat) (H : Heap) : Beyond b H H := ⟨Nat.le_refl _, fun _ _ => rfl⟩
theorem Beyond.trans {b : Nat} {H H' H'' : Heap} (h : Beyond b H H') (h2 : Beyond b H' H'') : Beyond b H H'' := ⟨Nat.le_trans h.1 h2.1, fun i hi => (h2.2 i hi).trans (h.2 i hi)⟩
theorem Beyond.of_ext {b : Nat} {H H' : Heap} {S : List Nat} (h : H.ext S H') (hb : b ≤ H.next) (hs : ∀ i ∈ S, b ≤ i) : Beyond b H H' :=
  ⟨h.1, fun i hi => h.2 i (Nat.lt_of_lt_of_le hi hb) fun hm => by have := hs i hm; omega⟩
theorem Beyond.ext {b : Nat} {H H' : Heap} (h : Beyond b H H') (hb : H.next = b) : H.ext [] H' := ⟨h.1, fun i hi _ => h.2 i (by omega)⟩
theorem Beyond.new {b : Nat} {H H' : Heap} (h : Beyond b H H') (hb : b ≤ H.next) (o : AObj) : Beyond b H (H'.new o) :=
  h.trans (Beyond.of_ext (S := []) ((Heap.ext_refl _ _).new o) (Nat.le_trans hb h.1) (fun _ hi => by cases hi))
theorem Beyond.weaken {b b' : Nat} {H H' : Heap} (h : Beyond b H H') (hb : b' ≤ b) : Beyond b' H H' := ⟨h.1, fun i hi => h.2 i (by omega)⟩

/-- What has been appended so far. -/
def Grown (sz : Nat) (H : Heap) (av : AV) (base n : Nat) (cs : List AV) : Prop :=
  cs.length = n * sz ∧ ((av = .nils ∧ n = 0) ∨ ∃ j v, av = .slab j v 0 n n sz ∧ H.get j = some (.cells v cs false) ∧ base ≤ j ∧ j < H.next)

theorem Grown.nil {sz base : Nat} {H : Heap} : Grown sz H .nils base 0 [] := ⟨by simp, .inl ⟨rfl, rfl⟩⟩
theorem Grown.mono {sz base n : Nat} {H H' : Heap} {av : AV} {cs : List AV} (h : Grown sz H av base n cs) (he : H.ext [] H') : Grown sz H' av base n cs := by
  obtain ⟨h1, h2⟩ := h
  refine ⟨h1, ?_⟩
  rcases h2 with h2 | ⟨j, v, a, b, c, d⟩
  · exact .inl h2
  · exact .inr ⟨j, v, a, by rw [he.2 j d (by simp)]; exact b, c, Nat.lt_of_lt_of_le d he.1⟩
theorem Grown.elems {sz base n : Nat} {H : Heap} {av : AV} {cs : List AV} (h : Grown sz H av base n cs) : elems O H av sz = some (n, cs) := by
  obtain ⟨h1, h2⟩ := h
  rcases h2 with ⟨rfl, rfl⟩ | ⟨j, v, rfl, b, c, d⟩
  · have : cs = [] := List.length_eq_zero_iff.1 (by simpa using h1)
    subst this; rfl
  · have : List.take (n * sz) cs = cs := by rw [← h1, List.take_length]
    simp [Ab.elems, rdCells, b, cut, this, h1]
theorem Grown.len {sz base n : Nat} {H : Heap} {av : AV} {cs : List AV} (h : Grown sz H av base n cs) : aLen av = some (.int .i64 n) := by
  obtain ⟨h1, ⟨rfl, rfl⟩ | ⟨j, v, rfl, b, c, d⟩⟩ := h <;> rfl

theorem grown_app {sz base n k bytes : Nat} {H : Heap} {av x : AV} {cs new : List AV} (h : Grown sz H av base n cs) (hb : base ≤ H.next) (hx : elems O H x sz = some (k, new)) (hk : k ≠ 0) (hnew : new.length = k * sz)
    (hall : new.all AV.isCell = true) (hlen : (n + k) * bytes ≤ 1099511627776) :
    ∃ av' H', aAppend O H sz bytes av x = some (av', H') ∧ Grown sz H' av' base (n + k) (cs ++ new) ∧ Beyond base H H' := by
  obtain ⟨h1, h2⟩ := h
  rcases h2 with ⟨rfl, rfl⟩ | ⟨j, v, rfl, b, c, d⟩
  · have : cs = [] := List.length_eq_zero_iff.1 (by simpa using h1)
    subst this
    have hl : k * bytes ≤ 1099511627776 := by simpa using hlen
    refine ⟨.slab H.next 0 0 k k sz, H.new (.cells 0 new false), ?_, ⟨by simp [hnew], .inr ⟨H.next, 0, by simp, by simp, hb, by simp⟩⟩, Beyond.of_ext (S := []) ((Heap.ext_refl _ _).new _) hb (fun _ hi => by cases hi)⟩
    simp only [aAppend, hx, hk, if_false, hall, Bool.not_true, Bool.false_eq_true]
    rw [if_pos (by simpa using hl)]
  · have ht : List.take (n * sz) cs = cs := by rw [← h1, List.take_length]
    refine ⟨.slab j (v + 1) 0 (n + k) (n + k) sz, H.set j (.cells (v + 1) (cs ++ new) false), ?_, ⟨by simp [h1, hnew, Nat.add_mul], .inr ⟨j, v + 1, rfl, by simp, c, by simpa using d⟩⟩, Beyond.of_ext ((Heap.ext_refl _ _).set _ _ (.inl (List.mem_singleton.2 rfl))) hb (by simpa using c)⟩
    simp only [aAppend, hx, hk, if_false, hall, Bool.not_true, Bool.false_eq_true, if_true]
    rw [if_neg (by omega), if_pos (by simpa using hlen)]
    simp [b, ht, h1, rdCells, cut]

theorem afterAppend {E : Env} {os : List COper} {kk : List K} {T : List AV} {D : List ADef} {R : RS} {d : Option Nat} {Q : Ex → St → Prop} {sz base n k bytes : Nat} {H H1 : Heap} {av x : AV} {cs new : List AV}
    (h : Grown sz H av base n cs) (he : H.ext [] H1) (hb : base ≤ H.next) (hx : elems O H1 x sz = some (k, new)) (hk : k ≠ 0) (hnew : new.length = k * sz)
    (hall : new.all AV.isCell = true) (hlen : (n + k) * bytes ≤ 1099511627776)
    (q : ∀ av' H', Grown sz H' av' base (n + k) (cs ++ new) → Beyond base H H' → W E (.ops os :: kk) .norm ⟨put T d av', D, R, H'⟩ Q) :
    afterOp E os kk T D R d Q (match aAppend O H1 sz bytes av x with | some (v, H') => some (.val v H') | none => none) := by
  obtain ⟨av', H', e, hg, hy⟩ := grown_app (O := O) (bytes := bytes) (h.mono he) (Nat.le_trans hb he.1) hx hk hnew hall hlen
  rw [e]
  exact q av' H' hg ((Beyond.of_ext he hb (fun _ hi => by cases hi)).trans hy)
end Go.S

namespace Go.S
open Go Go.Ab Go.RowKit Go.Proofs
variable {O : Old}
@[simp] theorem W_draw_indexSl {E : Env} {k : List K} {T : List AV} {D : List ADef} {R : RS} {H : Heap} {Q : Ex → St → Prop} {n base : Nat} {dsts : List Nat} {pend : Tr AObj} {items : List DItem} {i sz : Nat} {d : Option Nat} {x y : Opd} {anc : List Nat} {st : Bool} :
    W E (.draw n base dsts (⟨i, ⟨d, .indexSl sz x y, none⟩, .quiet, anc, st⟩ :: items) pend :: k) .norm ⟨T, D, R, H⟩ Q ↔
    lightW E n base dsts items pend k i d T D R H Q ((aIndexSl sz (Opd.ev T x) (Opd.ev T y)).map fun v => (none, none, v)) := W_draw_light (by simp [heavy])
@[simp] theorem rd_next {n : Nat} {H : Heap} {a : AV} {p : Part} : rd O ⟨n, H.m⟩ a p = rd O H a p := rfl
@[simp] theorem elems_next {n sz : Nat} {H : Heap} {a : AV} : elems O ⟨n, H.m⟩ a sz = elems O H a sz := rfl

theorem number_ref {n : Int} {H : Heap} {Q : AEnd → RS → Heap → Prop} (q : Q (.ret (.bool (decide (0 ≤ n ∧ n ≤ 1099511627776)))) .no H) : CallOk (E O) 30 [.int .i64 n] .no H Q := by
  refine CallOk.go c30 rfl rfl ?_
  by_cases h : 0 ≤ n <;> simp [c30, c30_r0, c30_r1, h] <;> simpa [h] using q

theorem bit_ref {b : Bool} {H : Heap} {Q : AEnd → RS → Heap → Prop} (q : Q (.ret (.int .i64 (if b then 1 else 0))) .no H) : CallOk (E O) 64 [.bool b] .no H Q := by
  refine CallOk.go c64 rfl rfl ?_
  cases b <;> simp [c64, c64_r0, c64_r1, c64_r2, c64_r3] <;> exact q

theorem loop41 {k : List K} {D : List ADef} {R : RS} {Q : Ex → St → Prop} {x : AV} {xs : List UInt8} {H0 : Heap} (hb : BSl O H0 x xs) (hlen : xs.length ≤ 65536) : ∀ (rest : List UInt8) (done : List UInt8) (T : List AV) (H : Heap),
    xs = done ++ rest → Beyond H0.next H0 H → T.length = 31 → slot T 0 = x → slot T 4 = (.int .i64 done.length) → Grown 1 H (slot T 3) H0.next (2 * done.length) (u8s (hexL done)) →
    (∀ T' H', T'.length = 31 → Beyond H0.next H0 H' → Grown 1 H' (slot T' 3) H0.next (2 * xs.length) (u8s (hexL xs)) → W (E O) k (.exit 0) ⟨T', D, R, H'⟩ Q) →
    W (E O) (.code (.loop c41_l0) :: k) .norm ⟨T, D, R, H⟩ Q
  | [], done, T, H, hxs, he, hT, h0, h4, hg, q => by
    rw [W_loopE]
    simp at hxs
    subst hxs
    simp [c41_l0, c41_r5, h0, h4, hb.1, hT]
    refine q _ _ ?_ he ?_
    · simp [hT]
    · simpa [hT] using hg
  | b :: rest, done, T, H, hxs, he, hT, h0, h4, hg, q => by
    rw [W_loopE]
    have hl : done.length < xs.length := by rw [hxs]; simp
    have hxj : xs[done.length]? = some b := by rw [hxs]; simp
    obtain ⟨a, ha1, ha2⟩ := hb.2 done.length b hxj H (he.ext rfl)
    have hw : IntKind.i64.wrap ((done.length : Int) + 1) = (done.length : Int) + 1 := wrap64 (by omega) (by omega)
    have g1 : (0 : Int) ≤ (b.toNat : Int) / 16 := by omega
    have g2 : ((b.toNat : Int) / 16).toNat = b.toNat / 16 := by omega
    have g3 : (0 : Int) ≤ (b.toNat : Int) % 16 := by omega
    have g4 : ((b.toNat : Int) % 16).toNat = b.toNat % 16 := by omega
    have hlt := b.toNat_lt
    have g5 : IntKind.u8.wrap ((b.toNat : Int) / 16) = (b.toNat : Int) / 16 := wrapU8 (by omega) (by omega)
    have g7 : ((b.toNat : Int)).tmod 16 = (b.toNat : Int) % 16 := Int.tmod_eq_emod_of_nonneg (by omega)
    simp [c41_l0, c41_r5, h0, h4, hb.1, hT, hl, c41_r6, simpleD, light, ha1, ha2, u8, g1, g2, g3, g4, g5, g7, hex_hi, hex_lo]
    refine afterAppend (k := 2) (new := [u8 (hexd (b.toNat / 16)), u8 (hexd (b.toNat % 16))]) hg (((Heap.ext_refl _ _).grow 16).set _ _ (.inr (Nat.le_add_right _ _))) he.1 (by simp [elems, rdCells, u8]) (by simp) rfl (by simp [u8]) (by omega) fun av' H' hg' he' => ?_
    simp [c41_r7, hT, h4, hw]
    refine loop41 hb hlen rest (done ++ [b]) _ H' (by simp [hxs]) (he.trans he') ?_ ?_ ?_ ?_ q
    · simp [hT]
    · simp [h0]
    · simp [hT]
    · simp [hT]
      have e1 : 2 * (done.length + 1) = 2 * done.length + 2 := by omega
      have e2 : u8s (hexL (done ++ [b])) = u8s (hexL done) ++ [u8 (hexd (b.toNat / 16)), u8 (hexd (b.toNat % 16))] := by simp [hexL, u8s]
      rw [e1, e2]
      exact hg'

theorem hex_ref {H : Heap} {x : AV} {xs : List UInt8} {Q : AEnd → RS → Heap → Prop} (hb : BSl O H x xs) (hlen : xs.length ≤ 65536) (q : ∀ H', H.ext [] H' → Q (.ret (.str (hexW xs))) .no H') : CallOk (E O) 41 [x] .no H Q := by
  refine CallOk.go c41 rfl rfl ?_
  by_cases hx : xs = []
  · subst hx
    have h1 := hb.1
    simp at h1
    simp [c41, c41_r0, c41_r1, c41_r2, h1]
    exact q H (Heap.ext_refl _ _)
  · have hz0 : ((xs.length : Int) == 0) = false := by
      have : xs.length ≠ 0 := by simpa using hx
      simp [hx]
    simp [c41, c41_r0, c41_r1, hb.1, hz0, c41_r3, c41_r4]
    refine loop41 hb hlen xs [] _ H rfl (Beyond.refl _ _) (by simp) (by simp) (by simp) (by simpa [hexL, u8s] using Grown.nil) ?_
    intro T' H' hT he hg
    simp [c41_r8, hT, hg.elems (O := O)]
    have hq : Q (.ret (.str (hexL xs))) .no H' := by simpa [hexW, hx] using q H' (he.ext rfl)
    rcases hg.2 with ⟨e, _⟩ | ⟨j, v, e, _⟩ <;> simp [e, hT] <;> exact hq

/-- What a hex digit is worth; of others, nothing. -/
def placeOf (c : UInt8) : List UInt8 → Nat → Option Nat
  | [], _ => none
  | d :: r, i => if d = c then some i else placeOf c r (i + 1)
def worth (c : UInt8) : Nat := (placeOf c digs 0).getD 0
theorem loop56 {k : List K} {D : List ADef} {R : RS} {Q : Ex → St → Prop} {c : UInt8} : ∀ (m i : Nat) (T : List AV) (H : Heap), m + i = 16 → T.length = 13 → slot T 0 = .int .u8 c.toNat → slot T 3 = (.int .i64 i) →
    (∀ T', T'.length = 13 → placeOf c (digs.drop i) i = none → W (E O) k (.exit 0) ⟨T', D, R, H⟩ Q) →
    (∀ T' j, T'.length = 13 → placeOf c (digs.drop i) i = some j → slot T' 2 = .int .i64 (j : Nat) → W (E O) k .ret ⟨T', D, R, H⟩ Q) →
    W (E O) (.code (.loop c56_l0) :: k) .norm ⟨T, D, R, H⟩ Q
  | 0, i, T, H, hm, hT, h0, h3, q, q2 => by
    obtain rfl : i = 16 := by omega
    rw [W_loopE]
    simp [c56_l0, c56_r2, h0, h3, hT]
    exact q _ (by simp [hT]) rfl
  | m + 1, i, T, H, hm, hT, h0, h3, q, q2 => by
    rw [W_loopE]
    have hi : i < 16 := by omega
    have hw : IntKind.i64.wrap ((i : Int) + 1) = (i : Int) + 1 := wrap64 (by omega) (by omega)
    have hd : ([48, 49, 50, 51, 52, 53, 54, 55, 56, 57, 97, 98, 99, 100, 101, 102] : List UInt8)[i]? = some (hexd i) := by
      unfold hexd
      rw [List.getD_eq_getElem?_getD, List.getElem?_eq_getElem (by simpa using hi)]; rfl
    have hdr : digs.drop i = hexd i :: digs.drop (i + 1) := by
      rw [List.drop_eq_getElem_cons (by simpa [digs] using hi)]
      have : digs[i]? = some (hexd i) := hd
      rw [(List.getElem?_eq_some_iff.1 this).2]
    have hi2 : (i : Int) < 16 := by omega
    simp [c56_l0, c56_r2, c56_r3, h0, h3, hT, hi2, hd]
    by_cases e : hexd i = c
    · have e2 : (((hexd i).toNat : Int) == (c.toNat : Int)) = true := by simp [e]
      simp [e2, c56_r4, hT, h3]
      exact q2 _ i (by simp [hT]) (by rw [hdr]; simp [placeOf, e]) (by simp [hT])
    · have e2 : (((hexd i).toNat : Int) == (c.toNat : Int)) = false := by
        simp only [beq_eq_false_iff_ne, ne_eq]
        intro h
        exact e (UInt8.toNat_inj.1 (by omega))
      simp [e2, c56_r5, hT, h3, hw]
      refine loop56 (c := c) m (i + 1) _ H (by omega) (by simp [hT]) (by simp [h0]) (by simp [hT]) ?_ ?_
      · intro T' a b
        exact q T' a (by rw [hdr, placeOf, if_neg e, b])
      · intro T' j a b d
        exact q2 T' j a (by rw [hdr, placeOf, if_neg e, b]) d

theorem worth_ref {c : UInt8} {H : Heap} {Q : AEnd → RS → Heap → Prop} (q : Q (.ret (.int .i64 (worth c))) .no H) : CallOk (E O) 56 [.int .u8 c.toNat] .no H Q := by
  refine CallOk.go c56 rfl rfl ?_
  simp [c56, c56_r0, c56_r1]
  refine loop56 (c := c) 16 0 _ H rfl (by simp) (by simp) (by simp) ?_ ?_
  · intro T' hT e
    have : worth c = 0 := by unfold worth; rw [List.drop_zero] at e; rw [e]; rfl
    simp [c56_r6, hT]
    simpa [this] using q
  · intro T' j hT e hs
    have : worth c = j := by unfold worth; rw [List.drop_zero] at e; rw [e]; rfl
    simp [hs]
    simpa [this] using q
end Go.S

namespace Go.S
open Go Go.Ab Go.RowKit Go.Proofs
variable {O : Old}

theorem placeOf_lt (c : UInt8) : ∀ (l : List UInt8) (i j : Nat), placeOf c l i = some j → j < i + l.length
  | [], i, j, h => by cases h
  | d :: r, i, j, h => by
    rw [placeOf] at h
    split at h
    · cases h; simp
    · have := placeOf_lt c r (i + 1) j h; simp; omega
theorem worth_lt (c : UInt8) : worth c < 16 := by
  unfold worth
  cases h : placeOf c digs 0 with
  | none => simp
  | some j => have h2 := placeOf_lt c digs 0 j h; have h3 : digs.length = 16 := rfl; simp; omega

/-- Bytes of hex, loosely. -/
def hexR : List UInt8 → List UInt8
  | a :: b :: r => UInt8.ofNat (worth a * 16 + worth b) :: hexR r
  | _ => []

theorem loop38 {k : List K} {D : List ADef} {R : RS} {Q : Ex → St → Prop} {s : List UInt8} {H0 : Heap} (hlen : s.length ≤ 16777216) : ∀ (m : Nat) (rest pre done : List UInt8) (T : List AV) (H : Heap),
    rest.length ≤ m → s = pre ++ rest → pre.length = 2 * done.length → Beyond H0.next H0 H → T.length = 28 → slot T 0 = .str s → slot T 4 = (.int .i64 (2 * done.length : Nat)) → Grown 1 H (slot T 3) H0.next done.length (u8s done) →
    (∀ T' H', T'.length = 28 → Beyond H0.next H0 H' → Grown 1 H' (slot T' 3) H0.next (done ++ hexR rest).length (u8s (done ++ hexR rest)) → W (E O) k (.exit 0) ⟨T', D, R, H'⟩ Q) →
    W (E O) (.code (.loop c38_l0) :: k) .norm ⟨T, D, R, H⟩ Q := by
  intro m
  have stop : ∀ (rest pre done : List UInt8) (T : List AV) (H : Heap), rest.length ≤ 1 → s = pre ++ rest → pre.length = 2 * done.length → Beyond H0.next H0 H → T.length = 28 → slot T 0 = .str s → slot T 4 = (.int .i64 (2 * done.length : Nat)) → Grown 1 H (slot T 3) H0.next done.length (u8s done) →
    (∀ T' H', T'.length = 28 → Beyond H0.next H0 H' → Grown 1 H' (slot T' 3) H0.next (done ++ hexR rest).length (u8s (done ++ hexR rest)) → W (E O) k (.exit 0) ⟨T', D, R, H'⟩ Q) →
    W (E O) (.code (.loop c38_l0) :: k) .norm ⟨T, D, R, H⟩ Q := by
    intro rest pre done T H hm hs hp he hT h0 h4 hg q
    have hl : s.length = 2 * done.length + rest.length := by rw [hs]; simp [hp]
    have hw : IntKind.i64.wrap (2 * (done.length : Int) + 1) = 2 * (done.length : Int) + 1 := wrap64 (by omega) (by omega)
    have hlt : ¬ (2 * (done.length : Int) + 1) < s.length := by omega
    have hr : hexR rest = [] := by
      match rest, hm with
      | [], _ => rfl
      | [_], _ => rfl
    rw [W_loopE]
    simp [c38_l0, c38_r3, h0, h4, hT, hw, hlt]
    refine q _ _ (by simp [hT]) he (by simpa [hr] using hg)
  induction m with
  | zero =>
    intro rest pre done T H hm
    exact stop rest pre done T H (by omega)
  | succ m ih =>
    intro rest pre done T H hm hs hp he hT h0 h4 hg q
    match rest, hm, hs, q with
    | [], hm, hs, q => exact stop [] pre done T H (by simp) hs hp he hT h0 h4 hg q
    | [a], hm, hs, q => exact stop [a] pre done T H (by simp) hs hp he hT h0 h4 hg q
    | a :: b :: rest, hm, hs, q =>
    rw [W_loopE]
    have hl : s.length = 2 * done.length + (rest.length + 2) := by rw [hs]; simp [hp]
    have hw : IntKind.i64.wrap (2 * (done.length : Int) + 1) = 2 * (done.length : Int) + 1 := wrap64 (by omega) (by omega)
    have hw2 : IntKind.i64.wrap (2 * (done.length : Int) + 2) = 2 * (done.length : Int) + 2 := wrap64 (by omega) (by omega)
    have hlt : (2 * (done.length : Int) + 1) < s.length := by omega
    have ga : s[2 * done.length]? = some a := by rw [hs, ← hp]; simp
    have gb : s[2 * done.length + 1]? = some b := by rw [hs, ← hp, List.getElem?_append_right (by omega)]; simp
    have n1 : (0 : Int) ≤ 2 * (done.length : Int) := by omega
    have n2 : (2 * (done.length : Int)).toNat = 2 * done.length := by omega
    have n3 : (0 : Int) ≤ 2 * (done.length : Int) + 1 := by omega
    have n4 : (2 * (done.length : Int) + 1).toNat = 2 * done.length + 1 := by omega
    have wa := worth_lt a
    have wb := worth_lt b
    have m1 : IntKind.i64.wrap ((worth a : Int) * 16) = (worth a : Int) * 16 := wrap64 (by omega) (by omega)
    have m2 : IntKind.i64.wrap ((worth a : Int) * 16 + worth b) = (worth a : Int) * 16 + worth b := wrap64 (by omega) (by omega)
    have m3 : IntKind.u8.wrap ((worth a : Int) * 16 + worth b) = ((UInt8.ofNat (worth a * 16 + worth b)).toNat : Int) := by
      rw [wrapU8 (by omega) (by omega)]; simp; omega
    simp [c38_l0, c38_r3, h0, h4, hT, hw, hlt, c38_r4, simpleD, light, ga, gb, n1, n2, n3, n4]
    refine worth_ref (c := a) ?_
    simp [hT, m1]
    refine worth_ref (c := b) ?_
    simp [hT, m1, m2, m3, simpleD]
    refine afterAppend (k := 1) (new := [u8 (UInt8.ofNat (worth a * 16 + worth b))]) hg (((Heap.ext_refl _ _).grow 16).set _ _ (.inr (Nat.le_add_right _ _))) he.1 (by simp [elems, rdCells, u8]) (by simp) rfl (by simp [u8]) (by omega) fun av' H' hg' he' => ?_
    simp [c38_r5, hT, h4, hw2]
    refine ih rest (pre ++ [a, b]) (done ++ [UInt8.ofNat (worth a * 16 + worth b)]) _ H' (by simp at hm; omega) (by simp [hs]) (by simp [hp]; omega) (he.trans he') ?_ ?_ ?_ ?_ ?_
    · simp [hT]
    · simp [h0]
    · simp [hT]; omega
    · have e2 : u8s (done ++ [UInt8.ofNat (worth a * 16 + worth b)]) = u8s done ++ [u8 (UInt8.ofNat (worth a * 16 + worth b))] := by simp [u8s]
      rw [e2]
      simpa [hT] using hg'
    · intro T' H'' a1 a2 a3
      exact q T' H'' a1 a2 (by simpa [hexR] using a3)

/-- A slice that was grown, as its bytes. -/
theorem bytes_ref {H : Heap} {s : B} {Q : AEnd → RS → Heap → Prop} (hs : s.length ≤ 16777216) (q : ∀ H' v, H.ext [] H' → Grown 1 H' v H.next (hexR s).length (u8s (hexR s)) → Q (.ret v) .no H') : CallOk (E O) 38 [.str s] .no H Q := by
  refine CallOk.go c38 rfl rfl ?_
  simp [c38, c38_r0, c38_r1, c38_r2]
  refine loop38 hs s.length s [] [] _ H (Nat.le_refl _) rfl rfl (Beyond.refl _ _) (by simp) (by simp) (by simp) (by simpa [u8s] using Grown.nil) ?_
  intro T' H' hT he hg
  simp [c38_r6, hT]
  exact q H' _ (he.ext rfl) (by simpa using hg)

/-- Digits, loosely. -/
def valueR : List UInt8 → Nat → Nat → Nat
  | b :: r, m + 1, n => valueR r m ((n * 10 + (b - 48).toNat % 10) % 18446744073709551616)
  | _, _, n => n

theorem sub48 (b : UInt8) : IntKind.u8.wrap ((b.toNat : Int) - 48) = ((b - 48).toNat : Int) := by
  have h : ∀ n : Fin 256, IntKind.u8.wrap ((n.val : Int) - 48) = ((UInt8.ofNat n.val - 48).toNat : Int) := by decide +kernel
  have := h ⟨b.toNat, b.toNat_lt⟩
  simpa using this
theorem value_step (n : Nat) (b : UInt8) (hn : n < 18446744073709551616) : IntKind.u64.wrap (IntKind.u64.wrap ((n : Int) * 10) + (IntKind.u64.wrap (IntKind.u8.wrap ((b.toNat : Int) - 48))).tmod 10) = (((n * 10 + (b - 48).toNat % 10) % 18446744073709551616 : Nat) : Int) := by
  have hb := (b - 48).toNat_lt
  have wu : ∀ x : Int, IntKind.u64.wrap x = x % 18446744073709551616 := by intro x; simp [IntKind.wrap, IntKind.signed, IntKind.bits]
  rw [sub48, wrapU64 (x := ((b - 48).toNat : Int)) (by omega) (by omega), Int.tmod_eq_emod_of_nonneg (by omega), wu, wu]
  omega

theorem loop37 {k : List K} {D : List ADef} {R : RS} {Q : Ex → St → Prop} {s : List UInt8} {H : Heap} (hlen : s.length ≤ 16777216) : ∀ (rest pre : List UInt8) (m n : Nat) (T : List AV), s = pre ++ rest → pre.length + m = 20 → n < 18446744073709551616 → T.length = 25 → slot T 0 = .str s → slot T 3 = .int .u64 n → slot T 4 = (.int .i64 pre.length) →
    (∀ T', T'.length = 25 → slot T' 3 = .int .u64 (valueR rest m n) → W (E O) k (.exit 0) ⟨T', D, R, H⟩ Q) →
    W (E O) (.code (.loop c37_l0) :: k) .norm ⟨T, D, R, H⟩ Q
  | [], pre, m, n, T, hs, hm, hn, hT, h0, h3, h4, q => by
    simp at hs
    subst hs
    rw [W_loopE]
    simp [c37_l0, c37_r3, h0, h4, hT]
    exact q _ (by simp [hT]) (by simp [h3, valueR])
  | b :: rest, pre, 0, n, T, hs, hm, hn, hT, h0, h3, h4, q => by
    rw [W_loopE]
    have hp : pre.length = 20 := by omega
    have hl : pre.length < s.length := by rw [hs]; simp
    have hl2 : 20 < s.length := by omega
    have h4' : slot T 4 = .int .i64 20 := by rw [h4, hp]; rfl
    have hl3 : (20 : Int) < s.length := by omega
    simp [c37_l0, c37_r3, h0, h4', hT, hl3]
    exact q _ (by simp [hT]) (by simp [h3, valueR])
  | b :: rest, pre, m + 1, n, T, hs, hm, hn, hT, h0, h3, h4, q => by
    rw [W_loopE]
    have hl : pre.length < s.length := by rw [hs]; simp
    have hl2 : (pre.length : Int) < 20 := by omega
    have gb : s[pre.length]? = some b := by rw [hs]; simp
    have hw : IntKind.i64.wrap ((pre.length : Int) + 1) = (pre.length : Int) + 1 := wrap64 (by omega) (by omega)
    have gb' : s[pre.length]'hl = b := by rw [List.getElem?_eq_getElem hl] at gb; exact Option.some.inj gb
    have hv := value_step n b hn
    simp [c37_l0, c37_r3, h0, h4, hT, hl, hl2, c37_r4, gb', h3, hv, c37_r5, hw]
    refine loop37 hlen rest (pre ++ [b]) m ((n * 10 + (b - 48).toNat % 10) % 18446744073709551616) _ (by simp [hs]) (by simp; omega) (Nat.mod_lt _ (by omega)) ?_ ?_ ?_ ?_ ?_
    · simp [hT]
    · simp [h0]
    · simp [hT]
    · simp [hT]
    · intro T' a b'
      exact q T' a b'

theorem value_ref {H : Heap} {s : B} {Q : AEnd → RS → Heap → Prop} (hs : s.length ≤ 16777216) (q : Q (.ret (.int .u64 (valueR s 20 0))) .no H) : CallOk (E O) 37 [.str s] .no H Q := by
  refine CallOk.go c37 rfl rfl ?_
  simp [c37, c37_r0, c37_r1, c37_r2]
  refine loop37 hs s [] 20 0 _ rfl rfl (by omega) (by simp) (by simp) (by simp) (by simp) ?_
  intro T' hT h3
  simp [c37_r6, hT, h3]
  exact q
end Go.S

namespace Go.S
open Go Go.Ab Go.RowKit Go.Proofs
variable {O : Old}

/-- The pieces of what is left, behind what has been seen of the first. -/
def splitC (cur : List UInt8) (rest : List UInt8) : List (List UInt8) := match splitW 32 rest with
  | w :: ws => (cur ++ w) :: ws
  | [] => []
theorem splitC_nil (cur : List UInt8) : splitC cur [] = [cur] := by simp [splitC, splitW]
theorem splitC_sep (cur r : List UInt8) : splitC cur (32 :: r) = cur :: splitC [] r := by
  have : splitC [] r = splitW 32 r := by
    unfold splitC
    cases h : splitW 32 r with
    | nil => rfl
    | cons w ws => simp
  rw [this]
  simp [splitC, splitW]
theorem splitC_byte {b : UInt8} (cur r : List UInt8) (hb : b ≠ 32) : splitC cur (b :: r) = splitC (cur ++ [b]) r := by
  simp only [splitC, splitW, if_neg hb]
  cases h : splitW 32 r with
  | nil => exact absurd h (splitW_ne 32 r)
  | cons w ws => simp
theorem splitC_zero (r : List UInt8) : splitC [] r = splitW 32 r := by
  unfold splitC
  cases h : splitW 32 r with
  | nil => rfl
  | cons w ws => simp

theorem loop35 {k : List K} {D : List ADef} {R : RS} {Q : Ex → St → Prop} {s : List UInt8} {H0 : Heap} (hlen : s.length ≤ 16777216) : ∀ (rest pre cur : List UInt8) (done : List (List UInt8)) (T : List AV) (H : Heap),
    s = pre ++ (cur ++ rest) → done.length ≤ pre.length → Beyond H0.next H0 H → T.length = 32 → slot T 0 = .str s → slot T 4 = (.int .i64 pre.length) → slot T 5 = (.int .i64 (pre.length + cur.length : Nat)) → Grown 1 H (slot T 3) H0.next done.length (strs done) →
    (∀ T' H', T'.length = 32 → Beyond H0.next H0 H' → Grown 1 H' (slot T' 3) H0.next (done ++ splitC cur rest).length (strs (done ++ splitC cur rest)) → W (E O) k (.exit 0) ⟨T', D, R, H'⟩ Q) →
    W (E O) (.code (.loop c35_l0) :: k) .norm ⟨T, D, R, H⟩ Q
  | [], pre, cur, done, T, H, hs, hd, he, hT, h0, h4, h5, hg, q => by
    rw [W_loopE]
    have hl : s.length = pre.length + cur.length := by rw [hs]; simp
    have hw : IntKind.i64.wrap ((pre.length : Int) + cur.length + 1) = (pre.length : Int) + cur.length + 1 := wrap64 (by omega) (by omega)
    have n1 : (0 : Int) ≤ (pre.length : Int) + cur.length := by omega
    have n2 : ((pre.length : Int) + cur.length).toNat = pre.length + cur.length := by omega
    have hcut : List.drop pre.length (List.take (pre.length + cur.length) s) = cur := by
      rw [← List.append_assoc] at hs
      rw [hs, ← List.length_append, List.take_left, List.drop_left]
    simp [c35_l0, c35_r4, h0, h5, hT, hl, c35_r5, c35_r6, h4, n1, n2, hcut]
    refine afterAppend (k := 1) (new := [.str cur]) hg ((Heap.ext_refl _ _).new _) he.1 (by simp [elems, rdCells]) (by simp) rfl (by simp) (by omega) fun av' H' hg' he' => ?_
    have n3 : ¬ (pre.length : Int) + cur.length + 1 ≤ s.length := by omega
    simp [c35_r7, hT, h5, hw, c35_r8]
    rw [W_loopE]
    simp [c35_l0, c35_r4, h0, hT, n3]
    refine q _ H' (by simp [hT]) (he.trans he') ?_
    rw [splitC_nil]
    simpa [hT, strs] using hg'
  | b :: rest, pre, cur, done, T, H, hs, hd, he, hT, h0, h4, h5, hg, q => by
    rw [W_loopE]
    have hl : s.length = pre.length + cur.length + (rest.length + 1) := by rw [hs]; simp; omega
    have hw : IntKind.i64.wrap ((pre.length : Int) + cur.length + 1) = (pre.length : Int) + cur.length + 1 := wrap64 (by omega) (by omega)
    have n1 : (0 : Int) ≤ (pre.length : Int) + cur.length := by omega
    have n2 : ((pre.length : Int) + cur.length).toNat = pre.length + cur.length := by omega
    have n4 : (pre.length : Int) + cur.length ≤ s.length := by omega
    have n5 : ((pre.length : Int) + cur.length == s.length) = false := by simp; omega
    have n6 : pre.length + cur.length ≤ s.length := by omega
    have gb : s[pre.length + cur.length]? = some b := by
      rw [← List.append_assoc] at hs
      rw [hs, ← List.length_append]; simp
    have hcut : List.drop pre.length (List.take (pre.length + cur.length) s) = cur := by
      rw [← List.append_assoc] at hs
      rw [hs, ← List.length_append, List.take_left, List.drop_left]
    by_cases hb : b = 32
    · subst hb
      simp [c35_l0, c35_r4, h0, h5, hT, n4, n5, n6, c35_r5, gb, c35_r6, h4, n1, n2, hcut]
      refine afterAppend (k := 1) (new := [.str cur]) hg ((Heap.ext_refl _ _).new _) he.1 (by simp [elems, rdCells]) (by simp) rfl (by simp) (by omega) fun av' H' hg' he' => ?_
      simp [c35_r7, hT, h5, hw, c35_r8]
      refine loop35 hlen rest (pre ++ cur ++ [32]) [] (done ++ [cur]) _ H' (by simp [hs]) (by simp; omega) (he.trans he') ?_ ?_ ?_ ?_ ?_ ?_
      · simp [hT]
      · simp [h0]
      · simp [hT]; omega
      · simp [hT]; omega
      · simpa [hT, strs] using hg'
      · intro T' H'' a1 a2 a3
        refine q T' H'' a1 a2 ?_
        rw [splitC_sep]
        simpa using a3
    · have hb2 : ((b.toNat : Int) == 32) = false := by
        simp only [beq_eq_false_iff_ne, ne_eq]
        intro h
        exact hb (UInt8.toNat_inj.1 (by simp; omega))
      simp [c35_l0, c35_r4, h0, h5, hT, n4, n5, n6, c35_r5, gb, h4, n1, n2, hb2, hw, c35_r8]
      refine loop35 hlen rest pre (cur ++ [b]) done _ H (by simp [hs]) hd he ?_ ?_ ?_ ?_ ?_ ?_
      · simp [hT]
      · simp [h0]
      · simp [h4]
      · simp [hT]; omega
      · simpa [hT] using hg
      · intro T' H'' a1 a2 a3
        refine q T' H'' a1 a2 ?_
        rw [splitC_byte _ _ hb]
        exact a3

theorem words_ref {H : Heap} {s : B} {Q : AEnd → RS → Heap → Prop} (hs : s.length ≤ 16777216) (q : ∀ H' v, H.ext [] H' → Grown 1 H' v H.next (splitW 32 s).length (strs (splitW 32 s)) → Q (.ret v) .no H') : CallOk (E O) 35 [.str s] .no H Q := by
  refine CallOk.go c35 rfl rfl ?_
  simp [c35, c35_r0, c35_r1, c35_r2, c35_r3]
  refine loop35 hs s [] [] [] _ H rfl (by simp) (Beyond.refl _ _) (by simp) (by simp) (by simp) (by simp) (by simpa using Grown.nil) ?_
  intro T' H' hT he hg
  simp [c35_r9, hT]
  rw [splitC_zero] at hg
  exact q H' _ (he.ext rfl) (by simpa using hg)
end Go.S

namespace Go.S
open Go Go.Ab Go.RowKit Go.Proofs
variable {O : Old}

/-- The ints of settings. -/
def Conf.ints (c : Conf) : List Int := [c.life, (c.window : Int), (c.out : Int), (c.inn : Int), c.tries, c.lasts, (c.port : Int), (c.peer : Int), c.paths, c.mtu, c.buffer, c.init, c.mn, c.mx, c.errors, c.fail, c.pause, c.most, c.delay, c.sched, c.cap, (if c.split then 1 else 0), (if c.nr then 1 else 0), (if c.couple then 1 else 0)]

set_option maxRecDepth 100000 in
set_option maxHeartbeats 4000000 in
theorem ints_ref {H : Heap} {c : Conf} (hk : c.Ok) {Q : AEnd → RS → Heap → Prop} (q : ∀ H' j, H.ext [] H' → H.next ≤ j → j < H'.next → H'.get j = some (.cells 0 (c.ints.map (.int .i64)) true) → Q (.ret (.slice j 0 0 24 24)) .no H') :
    CallOk (E O) 42 [.agg c.cells] .no H Q := by
  refine CallOk.go c42 rfl rfl ?_
  have kl := hk.key
  obtain ⟨_, _, k3, k4, k5, k6, k7⟩ := hk
  have g17 : c.cells[17]? = some (.int .i64 c.life) := conf_at kl 1
  have g18 : c.cells[18]? = some (.int .u32 c.window) := conf_at kl 2
  have g19 : c.cells[19]? = some (.int .u16 c.out) := conf_at kl 3
  have g20 : c.cells[20]? = some (.int .u16 c.inn) := conf_at kl 4
  have g21 : c.cells[21]? = some (.int .i64 c.tries) := conf_at kl 5
  have g22 : c.cells[22]? = some (.int .i64 c.lasts) := conf_at kl 6
  have g23 : c.cells[23]? = some (.int .u16 c.port) := conf_at kl 7
  have g24 : c.cells[24]? = some (.int .u16 c.peer) := conf_at kl 8
  have g25 : c.cells[25]? = some (.int .i64 c.paths) := conf_at kl 9
  have g26 : c.cells[26]? = some (.int .i64 c.mtu) := conf_at kl 10
  have g27 : c.cells[27]? = some (.int .i64 c.buffer) := conf_at kl 11
  have g28 : c.cells[28]? = some (.int .i64 c.init) := conf_at kl 12
  have g29 : c.cells[29]? = some (.int .i64 c.mn) := conf_at kl 13
  have g30 : c.cells[30]? = some (.int .i64 c.mx) := conf_at kl 14
  have g31 : c.cells[31]? = some (.int .i64 c.errors) := conf_at kl 15
  have g32 : c.cells[32]? = some (.int .i64 c.fail) := conf_at kl 16
  have g33 : c.cells[33]? = some (.int .i64 c.pause) := conf_at kl 17
  have g34 : c.cells[34]? = some (.int .i64 c.most) := conf_at kl 18
  have g35 : c.cells[35]? = some (.int .i64 c.delay) := conf_at kl 19
  have g36 : c.cells[36]? = some (.int .i64 c.sched) := conf_at kl 20
  have g37 : c.cells[37]? = some (.int .i64 c.cap) := conf_at kl 21
  have g38 : c.cells[38]? = some (.bool c.split) := conf_at kl 22
  have g39 : c.cells[39]? = some (.bool c.nr) := conf_at kl 23
  have g40 : c.cells[40]? = some (.bool c.couple) := conf_at kl 24
  have wwindow : IntKind.i64.wrap (c.window : Int) = c.window := wrap64 (by omega) (by omega)
  have wout : IntKind.i64.wrap (c.out : Int) = c.out := wrap64 (by omega) (by omega)
  have winn : IntKind.i64.wrap (c.inn : Int) = c.inn := wrap64 (by omega) (by omega)
  have wport : IntKind.i64.wrap (c.port : Int) = c.port := wrap64 (by omega) (by omega)
  have wpeer : IntKind.i64.wrap (c.peer : Int) = c.peer := wrap64 (by omega) (by omega)
  simp [c42, c42_r0]
  refine W_drawsR ?_
  simp [c42_r1, light, g17, g18, g19, g20, g21, g22, g23, g24, g25, g26, g27, g28, g29, g30, g31, g32, g33, g34, g35, g36, g37, g38, g39, g40, wwindow, wout, winn, wport, wpeer]
  refine bit_ref ?_
  simp [g17, g18, g19, g20, g21, g22, g23, g24, g25, g26, g27, g28, g29, g30, g31, g32, g33, g34, g35, g36, g37, g38, g39, g40, wwindow, wout, winn, wport, wpeer]
  refine bit_ref ?_
  simp [g17, g18, g19, g20, g21, g22, g23, g24, g25, g26, g27, g28, g29, g30, g31, g32, g33, g34, g35, g36, g37, g38, g39, g40, wwindow, wout, winn, wport, wpeer]
  refine bit_ref ?_
  simp [g17, g18, g19, g20, g21, g22, g23, g24, g25, g26, g27, g28, g29, g30, g31, g32, g33, g34, g35, g36, g37, g38, g39, g40, wwindow, wout, winn, wport, wpeer]
  exact q _ _ ((((Heap.ext_refl _ _).new _).grow 72).set _ _ (.inr (by omega))) (by omega) (by simp) (by simp [Conf.ints])

def names : List B := [[108, 105, 102, 101], [119, 105, 110, 100, 111, 119], [111, 117, 116], [105, 110], [116, 114, 105, 101, 115], [108, 97, 115, 116, 115], [112, 111, 114, 116], [112, 101, 101, 114], [112, 97, 116, 104, 115], [109, 116, 117], [98, 117, 102, 102, 101, 114], [105, 110, 105, 116], [109, 105, 110], [109, 97, 120], [101, 114, 114, 111, 114, 115], [102, 97, 105, 108], [112, 97, 117, 115, 101], [109, 111, 115, 116], [100, 101, 108, 97, 121], [115, 99, 104, 101, 100], [99, 97, 112], [115, 112, 108, 105, 116], [110, 114], [99, 111, 117, 112, 108, 101]]
theorem names_ref {H : Heap} {Q : AEnd → RS → Heap → Prop} (q : Q (.ret (.slice H.next 0 0 24 24)) .no (H.new (.cells 0 (strs names) true))) : CallOk (E O) 43 [] .no H Q := by
  refine CallOk.go c43 rfl rfl ?_
  simp [c43, c43_r0, c43_r1]
  exact q

theorem call_itoa {n : Int} {H : Heap} {Q : AEnd → RS → Heap → Prop} (h1 : -9223372036854775808 ≤ n) (h2 : n ≤ 9223372036854775807) (q : Q (.ret (.str (Lib.itoa n))) .no H) :
    CallOk (E O) 44 [.int .i64 n] .no H Q :=
  CallOk.known (v := .str (Lib.itoa n)) (H' := H) (by simp [knownV, kItoa, h1, h2]) q

theorem maxInt_le {n : Nat} (h : n ≤ 100000000) : n ≤ maxInt := by unfold maxInt; omega
/-- Words behind a line, each with its number. -/
def rowOf : List (Int × B) → B
  | [] => []
  | (x, n) :: r => 32 :: (n ++ 32 :: (Lib.itoa x ++ rowOf r))

theorem loop15 {k : List K} {D : List ADef} {R : RS} {Q : Ex → St → Prop} {H0 : Heap} {a b : Nat} {all : List (Int × B)} (hall : all.length = 24)
    (hnam : ∀ p ∈ all, p.2.length ≤ 8) (ha : H0.get a = some (.cells 0 (all.map fun p => .int .i64 p.1) true)) (hb : H0.get b = some (.cells 0 (all.map fun p => .str p.2) true)) (han : a < H0.next) (hbn : b < H0.next) : ∀ (rest done : List (Int × B)) (acc : B) (T : List AV) (H : Heap),
    all = done ++ rest → acc.length + 40 * rest.length ≤ 4000 → H0.ext [] H → T.length = 55 → slot T 4 = .str acc → slot T 5 = .slice a 0 0 24 24 → slot T 6 = .slice b 0 0 24 24 → slot T 7 = (.int .i64 done.length) →
    (∀ T' H', T'.length = 55 → H0.ext [] H' → (∀ p ∈ rest, okInt p.1) → slot T' 4 = .str (acc ++ rowOf rest) → W (E O) k (.exit 0) ⟨T', D, R, H'⟩ Q) →
    (∀ T' H', T'.length = 55 → H0.ext [] H' → ¬ (∀ p ∈ rest, okInt p.1) → slot T' 2 = .str [] → slot T' 3 = .int .i64 1 → W (E O) k .ret ⟨T', D, R, H'⟩ Q) →
    W (E O) (.code (.loop c15_l0) :: k) .norm ⟨T, D, R, H⟩ Q
  | [], done, acc, T, H, hd, hacc, he, hT, h4, h5, h6, h7, q, q2 => by
    have hl : done.length = 24 := by rw [hd] at hall; simpa using hall
    have h7' : slot T 7 = .int .i64 24 := by rw [h7, hl]; rfl
    rw [W_loopE]
    simp [c15_l0, c15_r4, h5, h7', hT]
    exact q _ H (by simp [hT]) he (by simp) (by simp [h4, rowOf])
  | (x, n) :: rest, done, acc, T, H, hd, hacc, he, hT, h4, h5, h6, h7, q, q2 => by
    have hl : done.length < 24 := by rw [hd] at hall; simp at hall; omega
    have hl2 : (done.length : Int) < 24 := by omega
    have hdl : done.length < all.length := by omega
    have ga : all[done.length]? = some (x, n) := by rw [hd]; simp
    have ga' : all[done.length]'hdl = (x, n) := by rw [List.getElem?_eq_getElem hdl] at ga; exact Option.some.inj ga
    have ha' := he.2 a han (by simp)
    have hb' := he.2 b hbn (by simp)
    rw [ha] at ha'
    rw [hb] at hb'
    have hw : IntKind.i64.wrap ((done.length : Int) + 1) = (done.length : Int) + 1 := wrap64 (by omega) (by omega)
    rw [W_loopE]
    simp [c15_l0, c15_r4, h5, h6, h7, hT, hl2, hl, c15_r5, ha', hdl, ga']
    refine number_ref ?_
    by_cases hx : okInt x
    · have hx' : 0 ≤ x ∧ x ≤ 1099511627776 := hx
      simp [hx', hT]
      refine W_drawsR ?_
      have hn8 := hnam (x, n) (by rw [hd]; simp)
      simp only at hn8
      have hi : Lib.itoa x = Lib.decDigits x.toNat := by rw [Lib.itoa, if_neg (by omega)]
      have hil : (Lib.itoa x).length ≤ 20 := by rw [hi]; exact decDigits_len (by omega)
      simp only [List.length_cons] at hacc
      have b1 : acc.length + 1 ≤ maxInt := maxInt_le (by omega)
      have b2 : acc.length + (n.length + 1) ≤ maxInt := maxInt_le (by omega)
      have b3 : acc.length + 1 + n.length ≤ maxInt := maxInt_le (by omega)
      have b4 : acc.length + (n.length + 1) + 1 ≤ maxInt := maxInt_le (by omega)
      have b5 : acc.length + (n.length + 1 + 1) + (Lib.itoa x).length ≤ maxInt := maxInt_le (by omega)
      simp [c15_r7, light, hT, h4, h5, h6, h7, ha', hb', hdl, ga', hl, b1, b2, b3, b4]
      refine call_itoa (n := x) (by omega) (by omega) ?_
      simp [light, hT, h4, h5, h6, h7, ha', hb', hdl, ga', hl, b5, c15_r8, hw]
      refine loop15 hall hnam ha hb han hbn rest (done ++ [(x, n)]) (acc ++ 32 :: (n ++ 32 :: Lib.itoa x)) _ _ (by simp [hd]) (by simp; omega) (he.grow 15) ?_ ?_ ?_ ?_ ?_ ?_ ?_
      · simp [hT]
      · simp [hT]
      · simp [h5]
      · simp [h6]
      · simp [hT]
      · intro T' H' a1 a2 a3 a4
        refine q T' H' a1 a2 ?_ (by rw [a4]; simp [rowOf])
        intro p hp
        rcases List.mem_cons.1 hp with rfl | hp
        · exact hx
        · exact a3 p hp
      · intro T' H' a1 a2 a3 a4 a5
        exact q2 T' H' a1 a2 (fun hh => a3 fun p hp => hh p (List.mem_cons_of_mem _ hp)) a4 a5
    · have hx' : ¬ (0 ≤ x ∧ x ≤ 1099511627776) := hx
      simp [hx', hT, c15_r6]
      exact q2 _ H (by simp [hT]) he (fun hh => hx (hh (x, n) (by simp))) (by simp [hT]) (by simp [hT])
end Go.S

namespace Go.S
open Go Go.Ab Go.RowKit Go.Proofs
variable {O : Old}

def ints (l : List Int) : List AV := l.map (.int .i64)
/-- Numbers, each behind a blank. -/
def rowN : List Int → B
  | [] => []
  | x :: l => 32 :: (Lib.itoa x ++ rowN l)

theorem itoa_len {x : Int} (h : okInt x) : (Lib.itoa x).length ≤ 20 := by
  rw [Lib.itoa, if_neg (by unfold okInt at h; omega)]
  exact decDigits_len (by unfold okInt at h; omega)

theorem loop53 {k : List K} {D : List ADef} {Q : Ex → St → Prop} {j : Nat} {all : List Int} (hall : ∀ x ∈ all, okInt x) (hlen : all.length ≤ 100) {H : Heap} (hg : H.get j = some (.cells 0 (ints all) true)) :
    ∀ (rest done : List Int) (acc : B) (T : List AV), all = done ++ rest → acc.length + 30 * rest.length ≤ 10000 → T.length = 21 → slot T 0 = .str acc → slot T 1 = .slice j 0 0 all.length all.length → slot T 5 = .int .i64 done.length →
    (∀ T', T'.length = 21 → slot T' 0 = .str (acc ++ rowN rest) → W (E O) k (.exit 0) ⟨T', D, .no, H⟩ Q) →
    W (E O) (.code (.loop c53_l0) :: k) .norm ⟨T, D, .no, H⟩ Q
  | [], done, acc, T, hd, ha, hT, h0, h1, h5, q => by
    rw [W_loopE]
    simp at hd
    subst hd
    simp [c53_l0, c53_r2, h1, h5, hT]
    exact q _ (by simp [hT]) (by simp [h0, rowN])
  | x :: rest, done, acc, T, hd, ha, hT, h0, h1, h5, q => by
    rw [W_loopE]
    have hl : done.length < all.length := by rw [hd]; simp
    have hx : all[done.length]? = some x := by rw [hd]; simp
    have hx' : (ints all)[done.length]? = some (.int .i64 x) := by simp [ints, hx]
    have hw : IntKind.i64.wrap ((done.length : Int) + 1) = (done.length : Int) + 1 := wrap64 (by omega) (by omega)
    have okx := hall x (by rw [hd]; simp)
    have hil := itoa_len okx
    simp only [List.length_cons] at ha
    have b1 : acc.length + 1 ≤ maxInt := maxInt_le (by omega)
    have b2 : acc.length + 1 + (Lib.itoa x).length ≤ maxInt := maxInt_le (by omega)
    have oki : -9223372036854775808 ≤ x ∧ x ≤ 9223372036854775807 := by unfold okInt at okx; omega
    simp [c53_l0, c53_r2, h1, h5, hT, hl, c53_r3, h0, b1, hg, hx']
    refine call_itoa (n := x) oki.1 oki.2 ?_
    simp [hT, b2, c53_r4, h5, hw]
    refine loop53 hall hlen hg rest (done ++ [x]) (acc ++ 32 :: Lib.itoa x) _ (by simp [hd]) (by simp; omega) (by simp [hT]) (by simp [hT]) (by simp [h1]) (by simp [hT]) ?_
    intro T' a1 a2
    exact q T' a1 (by rw [a2]; simp [rowN])

theorem row_ref {H : Heap} {j m : Nat} {head : B} {l : List Int} (hm : m = l.length) (hg : H.get j = some (.cells 0 (ints l) true)) (hall : ∀ x ∈ l, okInt x) (hlen : l.length ≤ 100) (hh : head.length ≤ 1000) {Q : AEnd → RS → Heap → Prop}
    (q : Q (.ret (.str (head ++ rowN l))) .no H) : CallOk (E O) 53 [.str head, .slice j 0 0 m m] .no H Q := by
  subst hm
  refine CallOk.go c53 rfl rfl ?_
  simp [c53, c53_r0, c53_r1]
  refine loop53 hall hlen hg l [] head _ rfl (by omega) (by simp) (by simp) (by simp) (by simp) ?_
  intro T' a1 a2
  simp [a1, a2, c53_r5]
  exact q

theorem order_ref {u : Bool} {H : Heap} {Q : AEnd → RS → Heap → Prop} (q : Q (.ret (.str (if u then [117] else [111]))) .no H) : CallOk (E O) 54 [.bool u] .no H Q := by
  refine CallOk.go c54 rfl rfl ?_
  cases u <;> simp [c54, c54_r0, c54_r1, c54_r2, c54_r3] <;> exact q

/-- The kind of a name. -/
def kindR (s : B) : List B → Nat → Int
  | [], _ => 0
  | w :: r, k => if w = s then (k + 1 : Nat) else kindR s r (k + 1)
def kindNames : List B := [[111, 112, 101, 110], [115, 101, 110, 100], [114, 101, 99, 101, 105, 118, 101], [115, 104, 117, 116, 100, 111, 119, 110], [97, 98, 111, 114, 116], [116, 105, 99, 107], [99, 108, 111, 99, 107], [100, 101, 108, 105, 118, 101, 114], [100, 114, 111, 112], [116, 119, 105, 99, 101], [115, 112, 111, 105, 108], [102, 111, 114, 103, 101], [100, 111, 119, 110], [117, 112]]
theorem loop36 {k : List K} {Q : AEnd → RS → Heap → Prop} {j : Nat} {s : B} {all : List B} {H : Heap} (hg : H.get j = some (.cells 0 (strs all) true)) (hlen : all.length ≤ 100) :
    ∀ (rest done : List B) (T : List AV), all = done ++ rest → T.length = 20 → slot T 0 = .str s → slot T 3 = .slice j 0 0 all.length all.length → slot T 4 = .int .i64 done.length →
    (∀ T', T'.length = 20 → kindR s rest done.length ≠ 0 → slot T' 2 = .int .i64 (kindR s rest done.length) → W (E O) k .ret ⟨T', [], .no, H⟩ (Fin (E O) [.tmp 2] Q)) →
    (∀ T', T'.length = 20 → kindR s rest done.length = 0 → W (E O) k (.exit 0) ⟨T', [], .no, H⟩ (Fin (E O) [.tmp 2] Q)) →
    W (E O) (.code (.loop c36_l0) :: k) .norm ⟨T, [], .no, H⟩ (Fin (E O) [.tmp 2] Q)
  | [], done, T, hd, hT, h0, h3, h4, q, q0 => by
    rw [W_loopE]
    simp at hd
    subst hd
    simp [c36_l0, c36_r3, h3, h4, hT]
    exact q0 _ (by simp [hT]) rfl
  | w :: rest, done, T, hd, hT, h0, h3, h4, q, q0 => by
    rw [W_loopE]
    have hl : done.length < all.length := by rw [hd]; simp
    have hx0 : (strs all)[done.length]? = some (.str w) := by rw [hd]; simp [strs]
    have hxl : done.length < (strs all).length := by simpa using hl
    have hx : (strs all)[done.length]'hxl = .str w := by rw [List.getElem?_eq_getElem hxl] at hx0; exact Option.some.inj hx0
    have hw : IntKind.i64.wrap ((done.length : Int) + 1) = (done.length : Int) + 1 := wrap64 (by omega) (by omega)
    simp [c36_l0, c36_r3, h3, h4, hT, hl, c36_r4, h0, hg, hx]
    by_cases hs : w = s
    · subst hs
      simp [c36_r5, hT, h4, hw]
      exact q _ (by simp [hT]) (by simp [kindR]; omega) (by simp [hT, kindR])
    · have hb : (w == s) = false := by simpa using hs
      simp [hb, c36_r6, hT, h4, hw]
      refine loop36 (s := s) hg hlen rest (done ++ [w]) _ (by simp [hd]) (by simp [hT]) (by simp [h0]) (by simp [h3]) (by simp [hT]) ?_ ?_
      · intro T' a1 a2 a3
        refine q T' a1 ?_ ?_
        · simpa [kindR, hs] using a2
        · simpa [kindR, hs] using a3
      · intro T' a1 a2
        exact q0 T' a1 (by simpa [kindR, hs] using a2)

theorem kind_ref {s : B} {H : Heap} {Q : AEnd → RS → Heap → Prop} (q : ∀ H', H.ext [] H' → Q (.ret (.int .i64 (kindR s kindNames 0))) .no H') : CallOk (E O) 36 [.str s] .no H Q := by
  refine CallOk.go c36 rfl rfl ?_
  simp [c36, c36_r0, c36_r1, c36_r2, over]
  have e0 : H.ext [] (H.new (.cells 0 (strs kindNames) true)) := (Heap.ext_refl _ _).new _
  refine loop36 (H := H.new (.cells 0 (strs kindNames) true)) (j := H.next) (s := s) (all := kindNames) (by simp) (by decide) kindNames [] _ rfl (by simp) (by simp) (by simp; rfl) (by simp) ?_ ?_
  · intro T' a1 a2 a3
    simp [a3, a1]
    exact q _ e0
  · intro T' a1 a2
    simp [a1, c36_r7]
    have := q _ e0
    rw [show (0 : Nat) = ([] : List B).length from rfl, a2] at this
    exact this
end Go.S

namespace Go.S
open Go Go.Ab Go.RowKit Go.Proofs
variable {O : Old}

/-- A deed whose numbers may be written. -/
structure Deed.Nums (d : Deed) : Prop where
  ends : okInt d.ends
  path : okInt d.path
  i : okInt d.i
  place : okInt d.place
  n : okInt d.n
  bits : d.bits ≤ 255
  stream : d.stream ≤ 65535
  proto : d.proto ≤ 4294967295
  data : d.data.length ≤ 65536
  why : d.why.length ≤ 65536

/-- A deed's line by the reference, whatever the deed; the deed with the fields of its line alone. -/
def textS (d : Deed) : B :=
  if d.kind = 1 then [111, 112, 101, 110] ++ rowN [(d.ends : Int)] else
  if d.kind = 2 then [115, 101, 110, 100] ++ rowN [(d.ends : Int), (d.stream : Int), (d.proto : Int)] ++ 32 :: ((if d.unordered then [117] else [111]) ++ 32 :: hexW d.data) else
  if d.kind = 3 then [114, 101, 99, 101, 105, 118, 101] ++ rowN [(d.ends : Int)] else
  if d.kind = 4 then [115, 104, 117, 116, 100, 111, 119, 110] ++ rowN [(d.ends : Int)] else
  if d.kind = 5 then [97, 98, 111, 114, 116] ++ rowN [(d.ends : Int)] ++ 32 :: hexW d.why else
  if d.kind = 6 then [116, 105, 99, 107] ++ rowN [(d.ends : Int)] else
  if d.kind = 7 then [99, 108, 111, 99, 107] ++ rowN [(d.n : Int)] else
  if d.kind = 8 then [100, 101, 108, 105, 118, 101, 114] ++ rowN [(d.ends : Int), (d.path : Int), (d.i : Int)] else
  if d.kind = 9 then [100, 114, 111, 112] ++ rowN [(d.ends : Int), (d.path : Int), (d.i : Int)] else
  if d.kind = 10 then [116, 119, 105, 99, 101] ++ rowN [(d.ends : Int), (d.path : Int), (d.i : Int)] else
  if d.kind = 11 then [115, 112, 111, 105, 108] ++ rowN [(d.ends : Int), (d.path : Int), (d.i : Int), (d.place : Int), (d.bits : Int)] else
  if d.kind = 12 then [102, 111, 114, 103, 101] ++ rowN [(d.ends : Int), (d.path : Int)] ++ 32 :: hexW d.data else
  if d.kind = 13 then [100, 111, 119, 110] ++ rowN [(d.path : Int)] else
  if d.kind = 14 then [117, 112] ++ rowN [(d.path : Int)] else
  []
def textK (d : Deed) : Deed :=
  if d.kind = 1 then { Deed.zero with kind := 1, ends := d.ends } else
  if d.kind = 2 then { Deed.zero with kind := 2, ends := d.ends, stream := d.stream, proto := d.proto, unordered := d.unordered, data := d.data } else
  if d.kind = 3 then { Deed.zero with kind := 3, ends := d.ends } else
  if d.kind = 4 then { Deed.zero with kind := 4, ends := d.ends } else
  if d.kind = 5 then { Deed.zero with kind := 5, ends := d.ends, why := d.why } else
  if d.kind = 6 then { Deed.zero with kind := 6, ends := d.ends } else
  if d.kind = 7 then { Deed.zero with kind := 7, n := d.n } else
  if d.kind = 8 then { Deed.zero with kind := 8, ends := d.ends, path := d.path, i := d.i } else
  if d.kind = 9 then { Deed.zero with kind := 9, ends := d.ends, path := d.path, i := d.i } else
  if d.kind = 10 then { Deed.zero with kind := 10, ends := d.ends, path := d.path, i := d.i } else
  if d.kind = 11 then { Deed.zero with kind := 11, ends := d.ends, path := d.path, i := d.i, place := d.place, bits := d.bits } else
  if d.kind = 12 then { Deed.zero with kind := 12, ends := d.ends, path := d.path, data := d.data } else
  if d.kind = 13 then { Deed.zero with kind := 13, path := d.path } else
  if d.kind = 14 then { Deed.zero with kind := 14, path := d.path } else
  Deed.zero

theorem cells_int {k : IntKind} {n : Int} : (AV.int k n).cells = [.int k n] := rfl
theorem cells_bool {b : Bool} : (AV.bool b).cells = [.bool b] := rfl
theorem cells_str {s : B} : (AV.str s).cells = [.str s] := rfl
theorem isCell_int {k : IntKind} {n : Int} : (AV.int k n).isCell = true := rfl
theorem isCell_bool {b : Bool} : (AV.bool b).isCell = true := rfl
theorem isCell_str {s : B} : (AV.str s).isCell = true := rfl
theorem rowN_len {l : List Int} (h : ∀ x ∈ l, okInt x) : (rowN l).length ≤ 21 * l.length := by
  induction l with
  | nil => simp [rowN]
  | cons x l ih =>
    have h1 := itoa_len (h x (by simp))
    have h2 := ih fun y hy => h y (by simp [hy])
    simp only [rowN, List.length_cons, List.length_append]
    omega
theorem rowN_all {p : Int → Prop} : ∀ {l : List Int}, (∀ x ∈ l, p x) → ∀ x ∈ l, p x := fun h => h

section
variable {H H1 : Heap} {d : Deed} {v : AV} {b : Nat} {k : List K}
end
set_option maxRecDepth 100000 in
set_option maxHeartbeats 8000000 in
theorem text_ref {H : Heap} {d : Deed} {v : AV} (hn : d.Nums) (hb : Byt O H v d.data) {Q : AEnd → RS → Heap → Prop}
    (q : ∀ H' u, H.ext [] H' → Byt O H' u (textK d).data → Q (.ret (.tuple [.str (textS d), .agg ((textK d).cells u)])) .no H') : CallOk (E O) 31 [.agg (d.cells v)] .no H Q := by
  have hc := cell_of_len hb.bsl.1
  have hlen : (d.cells v).length = 12 := by simp [Deed.cells]
  have hv2 : (d.cells v).all AV.isCell = true := by simp [Deed.cells, AV.isCell]; exact hc.2
  have hz : ([AV.int .i64 0, .int .i64 0, .int .i64 0, .int .i64 0, .int .i64 0, .int .u8 0, .int .i64 0, .int .u16 0, .int .u32 0, .bool false, .nils, .str []] : List AV) = Deed.zero.cells .nils := rfl
  refine CallOk.go c31 rfl rfl ?_
  simp [c31, c31_r0, c31_r1, Deed.cells, over, wr]
  generalize hH1 : Heap.set _ _ _ = H1
  have n1 : H1.next = H.next + 3 := by subst hH1; simp
  have e1 : H.ext [] H1 := by
    subst hH1
    exact ((((Heap.ext_refl _ _).new _).new _).new _).set _ _ (.inr (by omega))
  have g0 : H1.get H.next = some (.cells 0 (d.cells v) true) := by
    subst hH1; simp [Heap.get_set, Heap.get_new, Deed.cells]; repeat (first | rfl | rw [if_neg (by omega)] | rw [if_pos (by omega)])
  have g1 : H1.get (H.next + 1) = some (.cells 0 (Deed.zero.cells .nils) true) := by
    subst hH1; simp [Heap.get_set, Heap.get_new, Deed.cells, Deed.zero]
  have g2 : H1.get (H.next + 1 + 1) = some (.cells 0 (Deed.cells { Deed.zero with kind := d.kind, ends := d.ends } .nils) true) := by
    subst hH1; simp [Heap.get_set, Heap.get_new, Deed.cells, Deed.zero]
  clear hH1
  generalize hbb : H.next = b at *
  simp only [Deed.cells, Deed.zero] at g0 g1 g2
  simp [c31_r2, g0]
  have bb : ¬ (b = b + 1 + 1) := by omega
  have okn : ∀ {n m : Nat}, n ≤ m → m ≤ 1099511627776 → okInt (n : Int) := fun h1 h2 => ⟨by omega, by omega⟩
  have o2 : okInt (d.stream : Int) := okn hn.stream (by omega)
  have o3 : okInt (d.proto : Int) := okn hn.proto (by omega)
  have o4 : okInt (d.bits : Int) := okn hn.bits (by omega)
  have nil_byt : ∀ H', Byt O H' .nils [] := fun H' => ⟨fun s h => (by cases h), fun _ _ => rfl⟩
  have i5 : ∀ x : Nat, x ≤ 4294967295 → IntKind.i64.wrap (x : Int) = x := fun x hx => wrap64 (by omega) (by omega)
  have w2 := i5 d.stream (by have := hn.stream; omega)
  have w3 := i5 d.proto hn.proto
  have w4 := i5 d.bits (by have := hn.bits; omega)
  by_cases hk1 : d.kind = 1
  · simp [hk1, c31_r3, c31_r5, c31_r8, c31_r10, c31_r12, c31_r15, c31_r17, c31_r19, c31_r22, c31_r25, c31_r28, c31_r31, c31_r34, c31_r36]
    refine W_drawsX ?_
    simp [c31_r4, light, g0, g2]
    refine row_ref (l := [d.ends]) rfl (by simp [ints]) (by simp [hn.ends]) (by simp) (by simp) ?_
    generalize hH2 : Heap.set _ (H1.next + _) _ = H2
    have e2 : H1.ext [] H2 := by
      subst hH2
      exact ((Heap.ext_refl _ _).grow _).set _ _ (.inr (by omega))
    have k0 := (e2.2 _ (by omega) (by simp)).trans g0
    have k1 := (e2.2 _ (by omega) (by simp)).trans g1
    have k2 := (e2.2 _ (by omega) (by simp)).trans g2
    clear hH2
    simp [light, k0, k1, k2, wr, over]
    generalize hH4 : Heap.set _ (b + 1) _ = H4
    have e4 : H.ext [] H4 := by subst hH4; exact (e1.trans e2).set _ _ (.inr (by omega))
    have := q H4 .nils e4 (by simp [textK, hk1]; exact nil_byt _)
    simp only [textS, textK, hk1, Deed.cells, Deed.zero] at this
    simpa [hk1] using this
  by_cases hk2 : d.kind = 2
  · simp [hk2, c31_r3, c31_r5, c31_r8, c31_r10, c31_r12, c31_r15, c31_r17, c31_r19, c31_r22, c31_r25, c31_r28, c31_r31, c31_r34, c31_r36]
    refine W_drawsX ?_
    simp [c31_r6, light, g0, g2, hc.1, hc.2, -AV.cells, -AV.isCell, AV.known, cells_int, cells_bool, cells_str, isCell_int, isCell_bool, isCell_str, bb]
    generalize hH2 : Heap.set _ (b + 1 + 1) _ = H2
    have e2 : H1.ext [b + 1 + 1] H2 := by
      subst hH2
      repeat (first | exact (Heap.ext_refl _ _).grow _ | exact Heap.ext_refl _ _ | refine Heap.ext.set ?_ _ _ (.inl (by simp)))
    have k0 := (e2.2 b (by omega) (by simp; omega)).trans g0
    have k1 := (e2.2 (b + 1) (by omega) (by simp)).trans g1
    have k2 : H2.get (b + 1 + 1) = some (.cells 0 (Deed.cells { Deed.zero with kind := d.kind, ends := d.ends, stream := d.stream, proto := d.proto, unordered := d.unordered } (v)) true) := by
      subst hH2; simp [Heap.get_set, Deed.cells, Deed.zero, hk2]
    have n2 : H2.next ≥ b + 3 := by have := e2.1; omega
    clear hH2
    simp only [Deed.cells, Deed.zero] at k2
    refine W_drawsX ?_
    simp [c31_r7, light, k0, k2, w2, w3, w4]
    refine row_ref (l := [d.ends, (d.stream : Int), (d.proto : Int)]) rfl (by simp [ints]) (by simp [hn.ends, okn hn.stream (by omega), okn hn.proto (by omega)]) (by simp) (by simp) ?_
    generalize hH3 : Heap.set _ (H2.next + _) _ = H3
    have e3 : H2.ext [] H3 := by
      subst hH3
      exact ((Heap.ext_refl _ _).grow _).set _ _ (.inr (by omega))
    have n3' : H3.next ≥ H2.next + 8 := by subst hH3; simp
    have j0 := (e3.2 b (by omega) (by simp)).trans k0
    have j1 := (e3.2 (b + 1) (by omega) (by simp)).trans k1
    have j2 := (e3.2 (b + 1 + 1) (by omega) (by simp)).trans k2
    clear hH3
    have e13 : H.ext [] H3 := (e1.trans_new e2 (by simp; omega)).trans e3
    have hr := rowN_len (l := [d.ends, (d.stream : Int), (d.proto : Int)]) (by simp [hn.ends, okn hn.stream (by omega), okn hn.proto (by omega)])
    simp at hr
    generalize hrn : rowN [d.ends, (d.stream : Int), (d.proto : Int)] = rn at hr ⊢
    have m1 : rn.length + 4 + 1 ≤ maxInt := maxInt_le (by omega)
    simp [light, j0, j1, j2, wr, over, m1]
    refine order_ref ?_
    simp [light, j0, j1, j2, wr, over]
    rw [if_pos (maxInt_le (by cases d.unordered <;> simp <;> omega))]
    simp [light, j0, j1, j2, wr, over]
    rw [if_pos (maxInt_le (by cases d.unordered <;> simp <;> omega))]
    simp [light, j0, j1, j2, wr, over]
    have hx := hexW_len hn.data
    refine hex_ref (hb.mono e13).bsl hn.data fun H5 e5 => ?_
    have n3 := e3.1
    have l0 := (e5.2 b (by omega) (by simp)).trans j0
    have l1 := (e5.2 (b + 1) (by omega) (by simp)).trans j1
    have l2 := (e5.2 (b + 1 + 1) (by omega) (by simp)).trans j2
    have e15 := e13.trans e5
    simp [light, l0, l1, l2, wr, over]
    rw [if_pos (maxInt_le (by cases d.unordered <;> simp <;> omega))]
    simp [light, l0, l1, l2, wr, over, hc.2, -AV.isCell, isCell_int, isCell_bool, isCell_str]
    generalize hH6 : Heap.set _ (b + 1) _ = H6
    have e6 : H.ext [] H6 := by subst hH6; exact (e15.set _ _ (.inr (by omega)))
    have := q H6 v e6 (by simp [textK, hk2]; exact hb.mono e6)
    simp only [textS, textK, hk2, Deed.cells, Deed.zero, hrn] at this
    simpa [hk2] using this
  by_cases hk3 : d.kind = 3
  · simp [hk3, c31_r3, c31_r5, c31_r8, c31_r10, c31_r12, c31_r15, c31_r17, c31_r19, c31_r22, c31_r25, c31_r28, c31_r31, c31_r34, c31_r36]
    refine W_drawsX ?_
    simp [c31_r9, light, g0, g2]
    refine row_ref (l := [d.ends]) rfl (by simp [ints]) (by simp [hn.ends]) (by simp) (by simp) ?_
    generalize hH2 : Heap.set _ (H1.next + _) _ = H2
    have e2 : H1.ext [] H2 := by
      subst hH2
      exact ((Heap.ext_refl _ _).grow _).set _ _ (.inr (by omega))
    have k0 := (e2.2 _ (by omega) (by simp)).trans g0
    have k1 := (e2.2 _ (by omega) (by simp)).trans g1
    have k2 := (e2.2 _ (by omega) (by simp)).trans g2
    clear hH2
    simp [light, k0, k1, k2, wr, over]
    generalize hH4 : Heap.set _ (b + 1) _ = H4
    have e4 : H.ext [] H4 := by subst hH4; exact (e1.trans e2).set _ _ (.inr (by omega))
    have := q H4 .nils e4 (by simp [textK, hk3]; exact nil_byt _)
    simp only [textS, textK, hk3, Deed.cells, Deed.zero] at this
    simpa [hk3] using this
  by_cases hk4 : d.kind = 4
  · simp [hk4, c31_r3, c31_r5, c31_r8, c31_r10, c31_r12, c31_r15, c31_r17, c31_r19, c31_r22, c31_r25, c31_r28, c31_r31, c31_r34, c31_r36]
    refine W_drawsX ?_
    simp [c31_r11, light, g0, g2]
    refine row_ref (l := [d.ends]) rfl (by simp [ints]) (by simp [hn.ends]) (by simp) (by simp) ?_
    generalize hH2 : Heap.set _ (H1.next + _) _ = H2
    have e2 : H1.ext [] H2 := by
      subst hH2
      exact ((Heap.ext_refl _ _).grow _).set _ _ (.inr (by omega))
    have k0 := (e2.2 _ (by omega) (by simp)).trans g0
    have k1 := (e2.2 _ (by omega) (by simp)).trans g1
    have k2 := (e2.2 _ (by omega) (by simp)).trans g2
    clear hH2
    simp [light, k0, k1, k2, wr, over]
    generalize hH4 : Heap.set _ (b + 1) _ = H4
    have e4 : H.ext [] H4 := by subst hH4; exact (e1.trans e2).set _ _ (.inr (by omega))
    have := q H4 .nils e4 (by simp [textK, hk4]; exact nil_byt _)
    simp only [textS, textK, hk4, Deed.cells, Deed.zero] at this
    simpa [hk4] using this
  by_cases hk5 : d.kind = 5
  · simp [hk5, c31_r3, c31_r5, c31_r8, c31_r10, c31_r12, c31_r15, c31_r17, c31_r19, c31_r22, c31_r25, c31_r28, c31_r31, c31_r34, c31_r36]
    simp [c31_r13, light, g0, g2, hc.1, hc.2, -AV.cells, -AV.isCell, AV.known, cells_int, cells_bool, cells_str, isCell_int, isCell_bool, isCell_str, bb]
    generalize hH2 : Heap.set _ (b + 1 + 1) _ = H2
    have e2 : H1.ext [b + 1 + 1] H2 := by
      subst hH2
      repeat (first | exact (Heap.ext_refl _ _).grow _ | exact Heap.ext_refl _ _ | refine Heap.ext.set ?_ _ _ (.inl (by simp)))
    have k0 := (e2.2 b (by omega) (by simp; omega)).trans g0
    have k1 := (e2.2 (b + 1) (by omega) (by simp)).trans g1
    have k2 : H2.get (b + 1 + 1) = some (.cells 0 (Deed.cells { Deed.zero with kind := d.kind, ends := d.ends, why := d.why } (.nils)) true) := by
      subst hH2; simp [Heap.get_set, Deed.cells, Deed.zero, hk5]
    have n2 : H2.next ≥ b + 3 := by have := e2.1; omega
    clear hH2
    simp only [Deed.cells, Deed.zero] at k2
    refine W_drawsX ?_
    simp [c31_r14, light, k0, k2, w2, w3, w4]
    refine row_ref (l := [d.ends]) rfl (by simp [ints]) (by simp [hn.ends]) (by simp) (by simp) ?_
    generalize hH3 : Heap.set _ (H2.next + _) _ = H3
    have e3 : H2.ext [] H3 := by
      subst hH3
      exact ((Heap.ext_refl _ _).grow _).set _ _ (.inr (by omega))
    have n3' : H3.next ≥ H2.next + 8 := by subst hH3; simp
    have j0 := (e3.2 b (by omega) (by simp)).trans k0
    have j1 := (e3.2 (b + 1) (by omega) (by simp)).trans k1
    have j2 := (e3.2 (b + 1 + 1) (by omega) (by simp)).trans k2
    clear hH3
    have e13 : H.ext [] H3 := (e1.trans_new e2 (by simp; omega)).trans e3
    have hr := rowN_len (l := [d.ends]) (by simp [hn.ends])
    simp at hr
    generalize hrn : rowN [d.ends] = rn at hr ⊢
    have m1 : rn.length + 5 + 1 ≤ maxInt := maxInt_le (by omega)
    simp [light, j0, j1, j2, wr, over, m1]
    have hx := hexW_len hn.why
    have hu : (List.map (fun b => AV.int IntKind.u8 b.toNat) d.why) = u8s d.why := rfl
    rw [hu]
    have e4 : H2.ext [] (H3.set (H2.next + 7) (.cells 0 (u8s d.why) false)) := e3.set _ _ (.inr (by omega))
    have g4 : (H3.set (H2.next + 7) (.cells 0 (u8s d.why) false)).get (H2.next + 7) = some (.cells 0 (u8s d.why) false) := by simp
    have n4 : (H3.set (H2.next + 7) (.cells 0 (u8s d.why) false)).next = H3.next := rfl
    generalize H3.set (H2.next + 7) (.cells 0 (u8s d.why) false) = H4 at e4 g4 n4 ⊢
    refine hex_ref (xs := d.why) (bslab g4 (by omega)) hn.why fun H5 e5 => ?_
    have e25 := e4.trans e5
    have n5 := e25.1
    have l0 := (e25.2 b (by omega) (by simp)).trans k0
    have l1 := (e25.2 (b + 1) (by omega) (by simp)).trans k1
    have l2 := (e25.2 (b + 1 + 1) (by omega) (by simp)).trans k2
    have e15 : H.ext [] H5 := (e1.trans_new e2 (by simp; omega)).trans e25
    have m2 : rn.length + 5 + 1 + (hexW d.why).length ≤ maxInt := maxInt_le (by omega)
    simp [light, l0, l1, l2, wr, over, m2]
    generalize hH6 : Heap.set _ (b + 1) _ = H6
    have e6 : H.ext [] H6 := by subst hH6; exact (e15.set _ _ (.inr (by omega)))
    have := q H6 .nils e6 (by simp [textK, hk5]; exact nil_byt _)
    simp only [textS, textK, hk5, Deed.cells, Deed.zero, hrn] at this
    simpa [hk5] using this
  by_cases hk6 : d.kind = 6
  · simp [hk6, c31_r3, c31_r5, c31_r8, c31_r10, c31_r12, c31_r15, c31_r17, c31_r19, c31_r22, c31_r25, c31_r28, c31_r31, c31_r34, c31_r36]
    refine W_drawsX ?_
    simp [c31_r16, light, g0, g2]
    refine row_ref (l := [d.ends]) rfl (by simp [ints]) (by simp [hn.ends]) (by simp) (by simp) ?_
    generalize hH2 : Heap.set _ (H1.next + _) _ = H2
    have e2 : H1.ext [] H2 := by
      subst hH2
      exact ((Heap.ext_refl _ _).grow _).set _ _ (.inr (by omega))
    have k0 := (e2.2 _ (by omega) (by simp)).trans g0
    have k1 := (e2.2 _ (by omega) (by simp)).trans g1
    have k2 := (e2.2 _ (by omega) (by simp)).trans g2
    clear hH2
    simp [light, k0, k1, k2, wr, over]
    generalize hH4 : Heap.set _ (b + 1) _ = H4
    have e4 : H.ext [] H4 := by subst hH4; exact (e1.trans e2).set _ _ (.inr (by omega))
    have := q H4 .nils e4 (by simp [textK, hk6]; exact nil_byt _)
    simp only [textS, textK, hk6, Deed.cells, Deed.zero] at this
    simpa [hk6] using this
  by_cases hk7 : d.kind = 7
  · simp [hk7, c31_r3, c31_r5, c31_r8, c31_r10, c31_r12, c31_r15, c31_r17, c31_r19, c31_r22, c31_r25, c31_r28, c31_r31, c31_r34, c31_r36]
    refine W_drawsX ?_
    simp [c31_r18, light, g0, g2]
    refine row_ref (l := [d.n]) rfl (by simp [ints]) (by simp [hn.n]) (by simp) (by simp) ?_
    generalize hH2 : Heap.set _ (H1.next + _) _ = H2
    have e2 : H1.ext [] H2 := by
      subst hH2
      exact ((Heap.ext_refl _ _).grow _).set _ _ (.inr (by omega))
    have k0 := (e2.2 _ (by omega) (by simp)).trans g0
    have k1 := (e2.2 _ (by omega) (by simp)).trans g1
    have k2 := (e2.2 _ (by omega) (by simp)).trans g2
    clear hH2
    simp [light, k0, k1, k2, wr, over]
    generalize hH4 : Heap.set _ (b + 1) _ = H4
    have e4 : H.ext [] H4 := by subst hH4; exact (e1.trans e2).set _ _ (.inr (by omega))
    have := q H4 .nils e4 (by simp [textK, hk7]; exact nil_byt _)
    simp only [textS, textK, hk7, Deed.cells, Deed.zero] at this
    simpa [hk7] using this
  by_cases hk8 : d.kind = 8
  · simp [hk8, c31_r3, c31_r5, c31_r8, c31_r10, c31_r12, c31_r15, c31_r17, c31_r19, c31_r22, c31_r25, c31_r28, c31_r31, c31_r34, c31_r36]
    refine W_drawsX ?_
    simp [c31_r20, light, g0, g2, hc.1, hc.2, -AV.cells, -AV.isCell, AV.known, cells_int, cells_bool, cells_str, isCell_int, isCell_bool, isCell_str, bb]
    generalize hH2 : Heap.set _ (b + 1 + 1) _ = H2
    have e2 : H1.ext [b + 1 + 1] H2 := by
      subst hH2
      repeat (first | exact (Heap.ext_refl _ _).grow _ | exact Heap.ext_refl _ _ | refine Heap.ext.set ?_ _ _ (.inl (by simp)))
    have k0 := (e2.2 b (by omega) (by simp; omega)).trans g0
    have k1 := (e2.2 (b + 1) (by omega) (by simp)).trans g1
    have k2 : H2.get (b + 1 + 1) = some (.cells 0 (Deed.cells { Deed.zero with kind := d.kind, ends := d.ends, path := d.path, i := d.i } (.nils)) true) := by
      subst hH2; simp [Heap.get_set, Deed.cells, Deed.zero, hk8]
    have n2 : H2.next ≥ b + 3 := by have := e2.1; omega
    clear hH2
    simp only [Deed.cells, Deed.zero] at k2
    refine W_drawsX ?_
    simp [c31_r21, light, k0, k2, w2, w3, w4]
    refine row_ref (l := [d.ends, d.path, d.i]) rfl (by simp [ints]) (by simp [hn.ends, hn.path, hn.i]) (by simp) (by simp) ?_
    generalize hH3 : Heap.set _ (H2.next + _) _ = H3
    have e3 : H2.ext [] H3 := by
      subst hH3
      exact ((Heap.ext_refl _ _).grow _).set _ _ (.inr (by omega))
    have n3' : H3.next ≥ H2.next + 8 := by subst hH3; simp
    have j0 := (e3.2 b (by omega) (by simp)).trans k0
    have j1 := (e3.2 (b + 1) (by omega) (by simp)).trans k1
    have j2 := (e3.2 (b + 1 + 1) (by omega) (by simp)).trans k2
    clear hH3
    have e13 : H.ext [] H3 := (e1.trans_new e2 (by simp; omega)).trans e3
    simp [light, j0, j1, j2, wr, over]
    generalize hH4 : Heap.set _ (b + 1) _ = H4
    have e4 : H.ext [] H4 := by subst hH4; exact e13.set _ _ (.inr (by omega))
    have := q H4 .nils e4 (by simp [textK, hk8]; exact nil_byt _)
    simp only [textS, textK, hk8, Deed.cells, Deed.zero] at this
    simpa [hk8] using this
  by_cases hk9 : d.kind = 9
  · simp [hk9, c31_r3, c31_r5, c31_r8, c31_r10, c31_r12, c31_r15, c31_r17, c31_r19, c31_r22, c31_r25, c31_r28, c31_r31, c31_r34, c31_r36]
    refine W_drawsX ?_
    simp [c31_r23, light, g0, g2, hc.1, hc.2, -AV.cells, -AV.isCell, AV.known, cells_int, cells_bool, cells_str, isCell_int, isCell_bool, isCell_str, bb]
    generalize hH2 : Heap.set _ (b + 1 + 1) _ = H2
    have e2 : H1.ext [b + 1 + 1] H2 := by
      subst hH2
      repeat (first | exact (Heap.ext_refl _ _).grow _ | exact Heap.ext_refl _ _ | refine Heap.ext.set ?_ _ _ (.inl (by simp)))
    have k0 := (e2.2 b (by omega) (by simp; omega)).trans g0
    have k1 := (e2.2 (b + 1) (by omega) (by simp)).trans g1
    have k2 : H2.get (b + 1 + 1) = some (.cells 0 (Deed.cells { Deed.zero with kind := d.kind, ends := d.ends, path := d.path, i := d.i } (.nils)) true) := by
      subst hH2; simp [Heap.get_set, Deed.cells, Deed.zero, hk9]
    have n2 : H2.next ≥ b + 3 := by have := e2.1; omega
    clear hH2
    simp only [Deed.cells, Deed.zero] at k2
    refine W_drawsX ?_
    simp [c31_r24, light, k0, k2, w2, w3, w4]
    refine row_ref (l := [d.ends, d.path, d.i]) rfl (by simp [ints]) (by simp [hn.ends, hn.path, hn.i]) (by simp) (by simp) ?_
    generalize hH3 : Heap.set _ (H2.next + _) _ = H3
    have e3 : H2.ext [] H3 := by
      subst hH3
      exact ((Heap.ext_refl _ _).grow _).set _ _ (.inr (by omega))
    have n3' : H3.next ≥ H2.next + 8 := by subst hH3; simp
    have j0 := (e3.2 b (by omega) (by simp)).trans k0
    have j1 := (e3.2 (b + 1) (by omega) (by simp)).trans k1
    have j2 := (e3.2 (b + 1 + 1) (by omega) (by simp)).trans k2
    clear hH3
    have e13 : H.ext [] H3 := (e1.trans_new e2 (by simp; omega)).trans e3
    simp [light, j0, j1, j2, wr, over]
    generalize hH4 : Heap.set _ (b + 1) _ = H4
    have e4 : H.ext [] H4 := by subst hH4; exact e13.set _ _ (.inr (by omega))
    have := q H4 .nils e4 (by simp [textK, hk9]; exact nil_byt _)
    simp only [textS, textK, hk9, Deed.cells, Deed.zero] at this
    simpa [hk9] using this
  by_cases hk10 : d.kind = 10
  · simp [hk10, c31_r3, c31_r5, c31_r8, c31_r10, c31_r12, c31_r15, c31_r17, c31_r19, c31_r22, c31_r25, c31_r28, c31_r31, c31_r34, c31_r36]
    refine W_drawsX ?_
    simp [c31_r26, light, g0, g2, hc.1, hc.2, -AV.cells, -AV.isCell, AV.known, cells_int, cells_bool, cells_str, isCell_int, isCell_bool, isCell_str, bb]
    generalize hH2 : Heap.set _ (b + 1 + 1) _ = H2
    have e2 : H1.ext [b + 1 + 1] H2 := by
      subst hH2
      repeat (first | exact (Heap.ext_refl _ _).grow _ | exact Heap.ext_refl _ _ | refine Heap.ext.set ?_ _ _ (.inl (by simp)))
    have k0 := (e2.2 b (by omega) (by simp; omega)).trans g0
    have k1 := (e2.2 (b + 1) (by omega) (by simp)).trans g1
    have k2 : H2.get (b + 1 + 1) = some (.cells 0 (Deed.cells { Deed.zero with kind := d.kind, ends := d.ends, path := d.path, i := d.i } (.nils)) true) := by
      subst hH2; simp [Heap.get_set, Deed.cells, Deed.zero, hk10]
    have n2 : H2.next ≥ b + 3 := by have := e2.1; omega
    clear hH2
    simp only [Deed.cells, Deed.zero] at k2
    refine W_drawsX ?_
    simp [c31_r27, light, k0, k2, w2, w3, w4]
    refine row_ref (l := [d.ends, d.path, d.i]) rfl (by simp [ints]) (by simp [hn.ends, hn.path, hn.i]) (by simp) (by simp) ?_
    generalize hH3 : Heap.set _ (H2.next + _) _ = H3
    have e3 : H2.ext [] H3 := by
      subst hH3
      exact ((Heap.ext_refl _ _).grow _).set _ _ (.inr (by omega))
    have n3' : H3.next ≥ H2.next + 8 := by subst hH3; simp
    have j0 := (e3.2 b (by omega) (by simp)).trans k0
    have j1 := (e3.2 (b + 1) (by omega) (by simp)).trans k1
    have j2 := (e3.2 (b + 1 + 1) (by omega) (by simp)).trans k2
    clear hH3
    have e13 : H.ext [] H3 := (e1.trans_new e2 (by simp; omega)).trans e3
    simp [light, j0, j1, j2, wr, over]
    generalize hH4 : Heap.set _ (b + 1) _ = H4
    have e4 : H.ext [] H4 := by subst hH4; exact e13.set _ _ (.inr (by omega))
    have := q H4 .nils e4 (by simp [textK, hk10]; exact nil_byt _)
    simp only [textS, textK, hk10, Deed.cells, Deed.zero] at this
    simpa [hk10] using this
  by_cases hk11 : d.kind = 11
  · simp [hk11, c31_r3, c31_r5, c31_r8, c31_r10, c31_r12, c31_r15, c31_r17, c31_r19, c31_r22, c31_r25, c31_r28, c31_r31, c31_r34, c31_r36]
    refine W_drawsX ?_
    simp [c31_r29, light, g0, g2, hc.1, hc.2, -AV.cells, -AV.isCell, AV.known, cells_int, cells_bool, cells_str, isCell_int, isCell_bool, isCell_str, bb]
    generalize hH2 : Heap.set _ (b + 1 + 1) _ = H2
    have e2 : H1.ext [b + 1 + 1] H2 := by
      subst hH2
      repeat (first | exact (Heap.ext_refl _ _).grow _ | exact Heap.ext_refl _ _ | refine Heap.ext.set ?_ _ _ (.inl (by simp)))
    have k0 := (e2.2 b (by omega) (by simp; omega)).trans g0
    have k1 := (e2.2 (b + 1) (by omega) (by simp)).trans g1
    have k2 : H2.get (b + 1 + 1) = some (.cells 0 (Deed.cells { Deed.zero with kind := d.kind, ends := d.ends, path := d.path, i := d.i, place := d.place, bits := d.bits } (.nils)) true) := by
      subst hH2; simp [Heap.get_set, Deed.cells, Deed.zero, hk11]
    have n2 : H2.next ≥ b + 3 := by have := e2.1; omega
    clear hH2
    simp only [Deed.cells, Deed.zero] at k2
    refine W_drawsX ?_
    simp [c31_r30, light, k0, k2, w2, w3, w4]
    refine row_ref (l := [d.ends, d.path, d.i, d.place, (d.bits : Int)]) rfl (by simp [ints]) (by simp [hn.ends, hn.path, hn.i, hn.place, okn hn.bits (by omega)]) (by simp) (by simp) ?_
    generalize hH3 : Heap.set _ (H2.next + _) _ = H3
    have e3 : H2.ext [] H3 := by
      subst hH3
      exact ((Heap.ext_refl _ _).grow _).set _ _ (.inr (by omega))
    have n3' : H3.next ≥ H2.next + 8 := by subst hH3; simp
    have j0 := (e3.2 b (by omega) (by simp)).trans k0
    have j1 := (e3.2 (b + 1) (by omega) (by simp)).trans k1
    have j2 := (e3.2 (b + 1 + 1) (by omega) (by simp)).trans k2
    clear hH3
    have e13 : H.ext [] H3 := (e1.trans_new e2 (by simp; omega)).trans e3
    simp [light, j0, j1, j2, wr, over]
    generalize hH4 : Heap.set _ (b + 1) _ = H4
    have e4 : H.ext [] H4 := by subst hH4; exact e13.set _ _ (.inr (by omega))
    have := q H4 .nils e4 (by simp [textK, hk11]; exact nil_byt _)
    simp only [textS, textK, hk11, Deed.cells, Deed.zero] at this
    simpa [hk11] using this
  by_cases hk12 : d.kind = 12
  · simp [hk12, c31_r3, c31_r5, c31_r8, c31_r10, c31_r12, c31_r15, c31_r17, c31_r19, c31_r22, c31_r25, c31_r28, c31_r31, c31_r34, c31_r36]
    refine W_drawsX ?_
    simp [c31_r32, light, g0, g2, hc.1, hc.2, -AV.cells, -AV.isCell, AV.known, cells_int, cells_bool, cells_str, isCell_int, isCell_bool, isCell_str, bb]
    generalize hH2 : Heap.set _ (b + 1 + 1) _ = H2
    have e2 : H1.ext [b + 1 + 1] H2 := by
      subst hH2
      repeat (first | exact (Heap.ext_refl _ _).grow _ | exact Heap.ext_refl _ _ | refine Heap.ext.set ?_ _ _ (.inl (by simp)))
    have k0 := (e2.2 b (by omega) (by simp; omega)).trans g0
    have k1 := (e2.2 (b + 1) (by omega) (by simp)).trans g1
    have k2 : H2.get (b + 1 + 1) = some (.cells 0 (Deed.cells { Deed.zero with kind := d.kind, ends := d.ends, path := d.path } (v)) true) := by
      subst hH2; simp [Heap.get_set, Deed.cells, Deed.zero, hk12]
    have n2 : H2.next ≥ b + 3 := by have := e2.1; omega
    clear hH2
    simp only [Deed.cells, Deed.zero] at k2
    refine W_drawsX ?_
    simp [c31_r33, light, k0, k2, w2, w3, w4]
    refine row_ref (l := [d.ends, d.path]) rfl (by simp [ints]) (by simp [hn.ends, hn.path]) (by simp) (by simp) ?_
    generalize hH3 : Heap.set _ (H2.next + _) _ = H3
    have e3 : H2.ext [] H3 := by
      subst hH3
      exact ((Heap.ext_refl _ _).grow _).set _ _ (.inr (by omega))
    have n3' : H3.next ≥ H2.next + 8 := by subst hH3; simp
    have j0 := (e3.2 b (by omega) (by simp)).trans k0
    have j1 := (e3.2 (b + 1) (by omega) (by simp)).trans k1
    have j2 := (e3.2 (b + 1 + 1) (by omega) (by simp)).trans k2
    clear hH3
    have e13 : H.ext [] H3 := (e1.trans_new e2 (by simp; omega)).trans e3
    have hr := rowN_len (l := [d.ends, d.path]) (by simp [hn.ends, hn.path])
    simp at hr
    generalize hrn : rowN [d.ends, d.path] = rn at hr ⊢
    have m1 : rn.length + 5 + 1 ≤ maxInt := maxInt_le (by omega)
    simp [light, j0, j1, j2, wr, over, m1]
    have hx := hexW_len hn.data
    refine hex_ref (hb.mono e13).bsl hn.data fun H5 e5 => ?_
    have n3 := e3.1
    have l0 := (e5.2 b (by omega) (by simp)).trans j0
    have l1 := (e5.2 (b + 1) (by omega) (by simp)).trans j1
    have l2 := (e5.2 (b + 1 + 1) (by omega) (by simp)).trans j2
    have e15 := e13.trans e5
    have m2 : rn.length + 5 + 1 + (hexW d.data).length ≤ maxInt := maxInt_le (by omega)
    simp [light, l0, l1, l2, wr, over, m2, hc.2, -AV.isCell, isCell_int, isCell_bool, isCell_str]
    generalize hH6 : Heap.set _ (b + 1) _ = H6
    have e6 : H.ext [] H6 := by subst hH6; exact (e15.set _ _ (.inr (by omega)))
    have := q H6 v e6 (by simp [textK, hk12]; exact hb.mono e6)
    simp only [textS, textK, hk12, Deed.cells, Deed.zero, hrn] at this
    simpa [hk12] using this
  by_cases hk13 : d.kind = 13
  · simp [hk13, c31_r3, c31_r5, c31_r8, c31_r10, c31_r12, c31_r15, c31_r17, c31_r19, c31_r22, c31_r25, c31_r28, c31_r31, c31_r34, c31_r36]
    refine W_drawsX ?_
    simp [c31_r35, light, g0, g2]
    refine row_ref (l := [d.path]) rfl (by simp [ints]) (by simp [hn.path]) (by simp) (by simp) ?_
    generalize hH2 : Heap.set _ (H1.next + _) _ = H2
    have e2 : H1.ext [] H2 := by
      subst hH2
      exact ((Heap.ext_refl _ _).grow _).set _ _ (.inr (by omega))
    have k0 := (e2.2 _ (by omega) (by simp)).trans g0
    have k1 := (e2.2 _ (by omega) (by simp)).trans g1
    have k2 := (e2.2 _ (by omega) (by simp)).trans g2
    clear hH2
    simp [light, k0, k1, k2, wr, over]
    generalize hH4 : Heap.set _ (b + 1) _ = H4
    have e4 : H.ext [] H4 := by subst hH4; exact (e1.trans e2).set _ _ (.inr (by omega))
    have := q H4 .nils e4 (by simp [textK, hk13]; exact nil_byt _)
    simp only [textS, textK, hk13, Deed.cells, Deed.zero] at this
    simpa [hk13] using this
  by_cases hk14 : d.kind = 14
  · simp [hk14, c31_r3, c31_r5, c31_r8, c31_r10, c31_r12, c31_r15, c31_r17, c31_r19, c31_r22, c31_r25, c31_r28, c31_r31, c31_r34, c31_r36]
    refine W_drawsX ?_
    simp [c31_r37, light, g0, g2]
    refine row_ref (l := [d.path]) rfl (by simp [ints]) (by simp [hn.path]) (by simp) (by simp) ?_
    generalize hH2 : Heap.set _ (H1.next + _) _ = H2
    have e2 : H1.ext [] H2 := by
      subst hH2
      exact ((Heap.ext_refl _ _).grow _).set _ _ (.inr (by omega))
    have k0 := (e2.2 _ (by omega) (by simp)).trans g0
    have k1 := (e2.2 _ (by omega) (by simp)).trans g1
    have k2 := (e2.2 _ (by omega) (by simp)).trans g2
    clear hH2
    simp [light, k0, k1, k2, wr, over]
    generalize hH4 : Heap.set _ (b + 1) _ = H4
    have e4 : H.ext [] H4 := by subst hH4; exact (e1.trans e2).set _ _ (.inr (by omega))
    have := q H4 .nils e4 (by simp [textK, hk14]; exact nil_byt _)
    simp only [textS, textK, hk14, Deed.cells, Deed.zero] at this
    simpa [hk14] using this
  have q1 : (d.kind == 1) = false := by simpa using hk1
  have q2 : (d.kind == 2) = false := by simpa using hk2
  have q3 : (d.kind == 3) = false := by simpa using hk3
  have q4 : (d.kind == 4) = false := by simpa using hk4
  have q5 : (d.kind == 5) = false := by simpa using hk5
  have q6 : (d.kind == 6) = false := by simpa using hk6
  have q7 : (d.kind == 7) = false := by simpa using hk7
  have q8 : (d.kind == 8) = false := by simpa using hk8
  have q9 : (d.kind == 9) = false := by simpa using hk9
  have q10 : (d.kind == 10) = false := by simpa using hk10
  have q11 : (d.kind == 11) = false := by simpa using hk11
  have q12 : (d.kind == 12) = false := by simpa using hk12
  have q13 : (d.kind == 13) = false := by simpa using hk13
  have q14 : (d.kind == 14) = false := by simpa using hk14
  simp [q1, q2, q3, q4, q5, q6, q7, q8, q9, q10, q11, q12, q13, q14, hk1, hk2, hk3, hk4, hk5, hk6, hk7, hk8, hk9, hk10, hk11, hk12, hk13, hk14, c31_r3, c31_r5, c31_r8, c31_r10, c31_r12, c31_r15, c31_r17, c31_r19, c31_r22, c31_r25, c31_r28, c31_r31, c31_r34, c31_r36, c31_r38, g1, wr, over]
  generalize hH4 : Heap.set _ (b + 1) _ = H4
  have e4 : H.ext [] H4 := by subst hH4; exact e1.set _ _ (.inr (by omega))
  have := q H4 .nils e4 (by simp [textK, hk1, hk2, hk3, hk4, hk5, hk6, hk7, hk8, hk9, hk10, hk11, hk12, hk13, hk14]; exact nil_byt _)
  simp only [textS, textK, hk1, hk2, hk3, hk4, hk5, hk6, hk7, hk8, hk9, hk10, hk11, hk12, hk13, hk14, if_false, Deed.cells, Deed.zero] at this
  exact this
end Go.S

namespace Go.S
open Go Go.Ab Go.RowKit Go.Proofs
variable {O : Old}

instance (n : Int) : Decidable (okInt n) := by unfold okInt; infer_instance
/-- The reference's checks. -/
def Deed.fine (d : Deed) : Bool :=
  decide (d.data.length ≤ 65536) && (decide (d.why.length ≤ 65536) && (decide (okInt d.ends) && (decide (okInt d.path) && (decide (okInt d.i) && (decide (okInt d.place) && decide (okInt d.n))))))
theorem Deed.nums {d : Deed} (ok : d.Ok) (h : d.fine = true) : d.Nums := by
  simp only [Deed.fine, Bool.and_eq_true, decide_eq_true_eq] at h
  obtain ⟨a, b, c, e, f, g, i⟩ := h
  exact ⟨c, e, f, g, i, ok.bits, ok.stream, ok.proto, a, b⟩
/-- The reference's line of a deed. -/
def refL (d : Deed) : Option B := if d.fine = true then (if textS d ≠ [] ∧ d = textK d then some (textS d) else none) else none
def refLS (d : Deed) : B := (refL d).getD []
def refLE (d : Deed) : Int := if (refL d).isSome then 0 else 1

set_option maxRecDepth 100000 in
set_option maxHeartbeats 4000000 in
theorem Line_ref {H : Heap} {d : Deed} {v : AV} (ok : d.Ok) (hb : Byt O H v d.data) (hm : d.data.length < 2 ^ 62) {Q : AEnd → RS → Heap → Prop}
    (q : ∀ H', H.ext [] H' → Q (.ret (.tuple [.str (refLS d), .int .i64 (refLE d)])) .no H') : CallOk (E O) 9 [.agg (d.cells v)] .no H Q := by
  have hal := hb.bsl.1
  have hc := cell_of_len hal
  have hlen : (d.cells v).length = 12 := by simp [Deed.cells]
  have hv2 : (d.cells v).all AV.isCell = true := by simp [Deed.cells, AV.isCell]; exact hc.2
  have e0 : H.ext [] (H.new (.cells 0 (d.cells v) true)) := (Heap.ext_refl _ _).new _
  have bad : d.fine = false → Q (.ret (.tuple [.str [], .int .i64 1])) .no (H.new (.cells 0 (d.cells v) true)) := fun h => by
    have := q _ e0
    have h2 : refL d = none := by unfold refL; rw [h]; rfl
    rw [refLS, refLE, h2] at this
    exact this
  refine CallOk.go c9 rfl rfl ?_
  simp only [Deed.cells] at bad
  simp [c9, c9_r0, c9_r1, Deed.cells, hal]
  by_cases h1 : d.data.length ≤ 65536
  rotate_left
  · have p : (65536 < (d.data.length : Int)) := by omega
    simp [p, c9_r2]
    exact bad (by simp [Deed.fine, h1])
  have p1 : ¬ (65536 < (d.data.length : Int)) := by omega
  simp [p1]
  by_cases h2 : d.why.length ≤ 65536
  rotate_left
  · have p : (65536 < (d.why.length : Int)) := by omega
    simp [p, c9_r2]
    exact bad (by simp [Deed.fine, h1, h2])
  have p2 : ¬ (65536 < (d.why.length : Int)) := by omega
  simp [p2]
  refine number_ref ?_
  by_cases h3 : okInt d.ends
  rotate_left
  · have p : ¬ (0 ≤ d.ends ∧ d.ends ≤ 1099511627776) := h3
    simp only [p, decide_false]
    simp [c9_r2]
    exact bad (by simp [Deed.fine, h1, h2, h3])
  have p3 : (0 ≤ d.ends ∧ d.ends ≤ 1099511627776) := h3
  simp only [p3, decide_true, and_self]
  simp
  refine number_ref ?_
  by_cases h4 : okInt d.path
  rotate_left
  · have p : ¬ (0 ≤ d.path ∧ d.path ≤ 1099511627776) := h4
    simp only [p, decide_false]
    simp [c9_r2]
    exact bad (by simp [Deed.fine, h1, h2, h3, h4])
  have p4 : (0 ≤ d.path ∧ d.path ≤ 1099511627776) := h4
  simp only [p4, decide_true, and_self]
  simp
  refine number_ref ?_
  by_cases h5 : okInt d.i
  rotate_left
  · have p : ¬ (0 ≤ d.i ∧ d.i ≤ 1099511627776) := h5
    simp only [p, decide_false]
    simp [c9_r2]
    exact bad (by simp [Deed.fine, h1, h2, h3, h4, h5])
  have p5 : (0 ≤ d.i ∧ d.i ≤ 1099511627776) := h5
  simp only [p5, decide_true, and_self]
  simp
  refine number_ref ?_
  by_cases h6 : okInt d.place
  rotate_left
  · have p : ¬ (0 ≤ d.place ∧ d.place ≤ 1099511627776) := h6
    simp only [p, decide_false]
    simp [c9_r2]
    exact bad (by simp [Deed.fine, h1, h2, h3, h4, h5, h6])
  have p6 : (0 ≤ d.place ∧ d.place ≤ 1099511627776) := h6
  simp only [p6, decide_true, and_self]
  simp
  refine number_ref ?_
  by_cases h7 : okInt d.n
  rotate_left
  · have p : ¬ (0 ≤ d.n ∧ d.n ≤ 1099511627776) := h7
    simp only [p, decide_false]
    simp [c9_r2]
    exact bad (by simp [Deed.fine, h1, h2, h3, h4, h5, h6, h7])
  have p7 : (0 ≤ d.n ∧ d.n ≤ 1099511627776) := h7
  simp only [p7, decide_true, and_self]
  simp
  -- tail
  have fn : d.fine = true := by simp [Deed.fine, h1, h2, h3, h4, h5, h6, h7]
  have nums := Deed.nums ok fn
  have eqc : [AV.int .i64 d.kind, .int .i64 d.ends, .int .i64 d.path, .int .i64 d.i, .int .i64 d.place, .int .u8 d.bits, .int .i64 d.n, .int .u16 d.stream, .int .u32 d.proto, .bool d.unordered, v, .str d.why] = d.cells v := rfl
  simp only [eqc] at *
  generalize hH1 : H.new _ = H1 at *
  have g0 : H1.get H.next = some (.cells 0 (d.cells v) true) := by subst hH1; simp
  have n1 : H1.next = H.next + 1 := by subst hH1; simp
  have htk : List.take 12 (d.cells v) = d.cells v := by rw [← hlen, List.take_length]
  simp [c9_r3, g0, htk, hv2, hlen]
  refine text_ref nums (hb.mono e0) fun H2 u e2 b2 => ?_
  have hc2 := cell_of_len b2.bsl.1
  have hlen2 : ((textK d).cells u).length = 12 := by simp [Deed.cells]
  have hv3 : ((textK d).cells u).all AV.isCell = true := by simp [Deed.cells, AV.isCell]; exact hc2.2
  have htk2 : List.take 12 ((textK d).cells u) = (textK d).cells u := by rw [← hlen2, List.take_length]
  have ov : ∀ x : Deed, ∀ u, over (Deed.zero.cells .nils) 0 (x.cells u) = some (x.cells u) := fun x u => by simp [over, Deed.cells]
  have hz : ([AV.int .i64 0, .int .i64 0, .int .i64 0, .int .i64 0, .int .i64 0, .int .u8 0, .int .i64 0, .int .u16 0, .int .u32 0, .bool false, .nils, .str []] : List AV) = Deed.zero.cells .nils := rfl
  simp [hz, hlen2, htk2, hv3, wr, ov]
  generalize hH3 : Heap.set _ H2.next _ = H3
  have e3 : H2.ext [] H3 := by subst hH3; exact ((Heap.ext_refl _ _).new _).set _ _ (.inr (by omega))
  have g3 : H3.get H2.next = some (.cells 0 ((textK d).cells u) true) := by subst hH3; simp
  have k0 : H3.get H.next = _ := ((e2.trans e3).2 _ (by omega) (by simp)).trans g0
  have e13 := e0.trans (e2.trans e3)
  clear hH3
  by_cases ht : textS d = []
  · simp [c9_r4, ht, c9_r5]
    have := q _ e13
    have h2 : refL d = none := by unfold refL; rw [if_pos fn, if_neg (by simp [ht])]
    rw [refLS, refLE, h2] at this
    exact this
  have hte : ((textS d) == []) = false := by simpa using ht
  simp [c9_r4, ht, hte, k0, g3, htk, hv2, htk2, hv3, hlen, hlen2]
  refine sameDeed_ref (hb.mono e13) (b2.mono e3) fun H4 e4 => ?_
  have qq := q _ (e13.trans e4)
  by_cases hk : d = textK d
  · have h2 : refL d = some (textS d) := by unfold refL; rw [if_pos fn, if_pos ⟨ht, hk⟩]
    rw [refLS, refLE, h2] at qq
    rw [decide_eq_true hk]
    simp [c9_r6]
    exact qq
  · have h2 : refL d = none := by unfold refL; rw [if_pos fn, if_neg (by simp [hk])]
    rw [refLS, refLE, h2] at qq
    rw [decide_eq_false hk]
    simp [c9_r5]
    exact qq
end Go.S

namespace Go.S
open Go Go.Ab Go.RowKit Go.Proofs
variable {O : Old}

theorem key_bsl' {H : Heap} {t : Nat} {c : Conf} (hk : c.Ok) (ht : H.get t = some (.cells 0 c.cells true)) (htn : t < H.next) : BSl O H (.slice t 0 0 16 16) c.key := key_bsl hk ht htn

theorem names_short : ∀ p ∈ names, p.length ≤ 8 := by decide
theorem ints_fits {c : Conf} (hk : c.Ok) : (∀ p ∈ c.ints.zip names, okInt p.1) ↔ c.Fits := by
  have hb : ∀ b : Bool, okInt (if b then 1 else 0) := by intro b; cases b <;> (unfold okInt; simp)
  obtain ⟨_, _, k3, k4, k5, k6, k7⟩ := hk
  have c3 : okInt (c.window : Int) := ⟨by omega, by omega⟩
  have c4 : okInt (c.out : Int) := ⟨by omega, by omega⟩
  have c5 : okInt (c.inn : Int) := ⟨by omega, by omega⟩
  have c6 : okInt (c.port : Int) := ⟨by omega, by omega⟩
  have c7 : okInt (c.peer : Int) := ⟨by omega, by omega⟩
  simp only [Conf.ints, names, List.zip, List.zipWith, List.mem_cons, List.not_mem_nil, or_false, forall_eq_or_imp, forall_eq, c3, c4, c5, c6, c7, hb, true_and, and_true, Conf.Fits]

theorem itoa_ok {x : Int} (h : okInt x) : Lib.itoa x = Lib.decDigits x.toNat := by rw [Lib.itoa, if_neg (by unfold okInt at h; omega)]
theorem itoa_nat (n : Nat) : Lib.itoa (n : Int) = Lib.decDigits n := by rw [Lib.itoa, if_neg (by omega)]; simp
theorem itoa_bit (b : Bool) : Lib.itoa (if b then 1 else 0) = bitW b := by
  cases b <;> (simp [Lib.itoa, bitW]; rw [Lib.decDigits]; rfl)
theorem row_line {c : Conf} (hk : c.Ok) (hf : c.Fits) : lineOf c.words = 99 :: 111 :: 110 :: 102 :: 32 :: 115 :: 101 :: 101 :: 100 :: 32 :: (Lib.decDigits c.seed ++ 32 :: 107 :: 101 :: 121 :: 32 :: hexW c.key) ++ rowOf (c.ints.zip names) := by
  obtain ⟨f1, f2, f3, f4, f5, f6, f7, f8, f9, f10, f11, f12, f13, f14, f15, f16⟩ := hf
  simp only [Conf.ints, names, List.zip, List.zipWith, rowOf, itoa_nat, itoa_bit, itoa_ok f1, itoa_ok f2, itoa_ok f3, itoa_ok f4, itoa_ok f5, itoa_ok f6, itoa_ok f7, itoa_ok f8, itoa_ok f9, itoa_ok f10, itoa_ok f11, itoa_ok f12, itoa_ok f13, itoa_ok f14, itoa_ok f15, itoa_ok f16]
  simp only [lineOf, Conf.words, join_cons2, join_one, List.cons_append, List.nil_append, List.append_assoc, List.append_nil]

theorem setting_ref {H : Heap} {c : Conf} (hk : c.Ok) {Q : AEnd → RS → Heap → Prop} (q : ∀ H', H.ext [] H' → Q (.ret (.tuple [.str (setS c), .int .i64 (setE c)])) .no H') :
    CallOk (E O) 15 [.agg c.cells] .no H Q := by
  refine CallOk.go c15 rfl rfl ?_
  have kl := hk.key
  have g16 : c.cells[16]? = some (.int .u64 c.seed) := conf_at kl 0
  have hlen : c.cells.length = 41 := by simp [Conf.cells, Conf.tl, kl]
  have htk : List.take 41 c.cells = c.cells := by rw [← hlen, List.take_length]
  have b1 : (Lib.decDigits c.seed).length ≤ 20 := decDigits_len hk.seed
  have b2 : (hexW c.key).length ≤ 32 := by
    unfold hexW; split
    · simp
    · rw [hexL_length]; omega
  simp [c15, c15_r0, c15_r1, simpleD, light, g16]
  refine call_fmtU (u := c.seed) hk.seed ?_
  simp [simpleD, light]
  rw [if_pos (maxInt_le (by omega))]
  simp [simpleD, light]
  rw [if_pos (maxInt_le (by omega))]
  simp [simpleD, light]
  refine hex_ref (key_bsl hk (by show (H.new _).get H.next = _; simp) (by simp; omega)) (by omega) ?_
  intro H1 e1
  simp [simpleD, light]
  rw [if_pos (maxInt_le (by omega))]
  simp [simpleD, light]
  have e0 : H.ext [] ⟨H.next + 1 + 12, (H.new (.cells 0 c.cells true)).m⟩ := ((Heap.ext_refl _ _).new _).grow 12
  have g1 : H1.get H.next = some (.cells 0 c.cells true) := by
    rw [e1.2 H.next (by simp; omega) (by simp)]
    show (H.new _).get H.next = _
    simp
  simp [c15_r2, g1, hlen, htk]
  refine ints_ref hk ?_
  intro H2 j e2 hj1 hj2 hj3
  simp
  refine names_ref ?_
  simp [c15_r3]
  have e3 : H.ext [] (H2.new (.cells 0 (strs names) true)) := ((e0.trans e1).trans e2).new _
  have m1 : (c.ints.zip names).map (fun p => AV.int .i64 p.1) = c.ints.map (.int .i64) := rfl
  have m2 : (c.ints.zip names).map (fun p => AV.str p.2) = strs names := rfl
  refine loop15 (all := c.ints.zip names) (a := j) (b := H2.next) rfl (fun p hp => names_short _ (List.of_mem_zip hp).2) (by rw [m1, Heap.get_new_ne _ _ (by omega)]; exact hj3) (by rw [m2]; simp) (by simp; omega) (by simp) (c.ints.zip names) [] (99 :: 111 :: 110 :: 102 :: 32 :: 115 :: 101 :: 101 :: 100 :: 32 :: (Lib.decDigits c.seed ++ 32 :: 107 :: 101 :: 121 :: 32 :: hexW c.key)) _ _ rfl ?_ (Heap.ext_refl _ _) (by simp) (by simp) (by simp) (by simp) (by simp) ?_ ?_
  · have : (c.ints.zip names).length = 24 := rfl
    rw [this]; simp; omega
  · intro T' H' hT he hf h4
    have hfit := (ints_fits hk).1 hf
    simp [c15_r9, hT, h4]
    have := q H' (e3.trans he)
    rw [setS, setE, if_pos hfit, if_pos hfit, row_line hk hfit] at this
    simpa using this
  · intro T' H' hT he hf h2 h3
    have hfit : ¬ c.Fits := fun h => hf ((ints_fits hk).2 h)
    simp [h2, h3]
    have := q H' (e3.trans he)
    rw [setS, setE, if_neg hfit, if_neg hfit] at this
    exact this
end Go.S

namespace Go.S
open Go Go.Ab Go.RowKit Go.Proofs
variable {O : Old}

/-- Bytes into a key, as far as it goes. -/
def fillK (key : List UInt8) (i : Nat) : List UInt8 → List UInt8
  | [] => key
  | b :: r => if i < 16 then fillK (key.set i b) (i + 1) r else key
theorem fillK_length : ∀ (k key : List UInt8) (i : Nat), (fillK key i k).length = key.length
  | [], key, i => rfl
  | b :: r, key, i => by
    rw [fillK]; split
    · rw [fillK_length r]; simp
    · rfl

theorem grown_index {H : Heap} {av : AV} {base n : Nat} {cs : List AV} (h : Grown 1 H av base n cs) {j : Nat} {x : AV} (hx : cs[j]? = some x) : ∃ a, aIndexSl 1 av (.int .i64 j) = some a ∧ rd O H a .one = some x := by
  obtain ⟨h1, ⟨rfl, rfl⟩ | ⟨i, v, rfl, b, c, d⟩⟩ := h
  · have : cs = [] := List.length_eq_zero_iff.1 (by simpa using h1)
    subst this; cases hx
  · have hj : j < n := by have := (List.getElem?_eq_some_iff.1 hx).1; omega
    exact ⟨.ptr i v j, by simp [hj], by simp [b, hx]⟩

theorem Grown.below {sz base n t : Nat} {H : Heap} {av : AV} {cs : List AV} (h : Grown sz H av base n cs) (ht : t < base) (o : AObj) : Grown sz (H.set t o) av base n cs := by
  obtain ⟨h1, h2⟩ := h
  refine ⟨h1, ?_⟩
  rcases h2 with h2 | ⟨j, v, a, b, c, d⟩
  · exact .inl h2
  · exact .inr ⟨j, v, a, by rw [Heap.get_set_ne _ _ (by omega)]; exact b, c, by simpa using d⟩

theorem set_u8s (key : List UInt8) (i : Nat) (b : UInt8) : (u8s key).set i (u8 b) = u8s (key.set i b) := by simp [u8s, List.map_set]

theorem loop17_0 {k : List K} {D : List ADef} {R : RS} {Q : Ex → St → Prop} {t base : Nat} {v : AV} {all : List UInt8} {tl : List AV} (htb : t < base) (hal : all.length ≤ 16777216) : ∀ (rest done key : List UInt8) (T : List AV) (H : Heap),
    all = done ++ rest → key.length = 16 → done.length ≤ 16 → base ≤ H.next → Grown 1 H v base all.length (u8s all) → H.get t = some (.cells 0 (u8s key ++ tl) true) → T.length = 188 → slot T 5 = .ptr t 0 0 → slot T 6 = v → slot T 7 = (.int .i64 done.length) →
    (∀ T' H', T'.length = 188 → H.ext [t] H' → H'.get t = some (.cells 0 (u8s (fillK key done.length rest) ++ tl) true) → slot T' 0 = slot T 0 → slot T' 2 = slot T 2 → slot T' 4 = slot T 4 → slot T' 5 = slot T 5 → W (E O) k (.exit 0) ⟨T', D, R, H'⟩ Q) →
    W (E O) (.code (.loop c17_l0) :: k) .norm ⟨T, D, R, H⟩ Q
  | [], done, key, T, H, hd, hk, hn, hb, hg, ht, hT, h5, h6, h7, q => by
    have hl : done.length = all.length := by rw [hd]; simp
    rw [W_loopE]
    simp [c17_l0, c17_r8, h5, h6, h7, hT, hg.len, hl]
    refine q _ H (by simp [hT]) (Heap.ext_refl _ _) (by simpa [fillK] using ht) ?_ ?_ ?_ ?_ <;> simp
  | b :: rest, done, key, T, H, hd, hk, hn, hb, hg, ht, hT, h5, h6, h7, q => by
    have hl : done.length < all.length := by rw [hd]; simp
    rw [W_loopE]
    by_cases h16 : done.length < 16
    · have h16' : (done.length : Int) < 16 := by omega
      obtain ⟨a, ha1, ha2⟩ := grown_index (O := O) hg (j := done.length) (x := u8 b) (by rw [hd]; simp [u8s])
      have hw : IntKind.i64.wrap ((done.length : Int) + 1) = (done.length : Int) + 1 := wrap64 (by omega) (by omega)
      have hlt : done.length < 16 + tl.length := by omega
      have hset : (u8s key ++ tl).set done.length (.int .u8 b.toNat) = u8s (key.set done.length b) ++ tl := by
        rw [List.set_append, if_pos (by simp [hk, h16])]
        rw [show AV.int .u8 (b.toNat : Int) = u8 b from rfl, set_u8s]
      simp [c17_l0, c17_r8, h5, h6, h7, hT, hg.len, hl, h16, h16', c17_r9, ha1, ha2, u8, ht, hk, hlt, hset, c17_r10, hw]
      refine loop17_0 (tl := tl) htb hal rest (done ++ [b]) (key.set done.length b) _ _ (by simp [hd]) (by simp [hk]) (by simp; omega) (by simpa using hb) (hg.below htb _) (by simp) ?_ ?_ ?_ ?_ ?_
      · simp [hT]
      · simp [h5]
      · simp [h6]
      · simp [hT]
      · intro T' H' a1 a2 a3 a4 a5 a6 a7
        refine q T' H' a1 ((((Heap.ext_refl _ _).set _ _ (.inl (by simp)))).trans a2) ?_ ?_ ?_ ?_ ?_
        · rw [a3, fillK, if_pos h16]; simp
        · rw [a4]; simp
        · rw [a5]; simp
        · rw [a6]; simp
        · rw [a7]; simp
    · have h16' : ¬ (done.length : Int) < 16 := by omega
      simp [c17_l0, c17_r8, h5, h6, h7, hT, hg.len, hl, h16']
      refine q _ H (by simp [hT]) (Heap.ext_refl _ _) (by rw [fillK, if_neg h16]; exact ht) ?_ ?_ ?_ ?_ <;> simp [h5]

/-- A number of a word, loosely. -/
def wordV (ws : List B) (i : Nat) : Nat := valueR (ws.getD (6 + 2 * i) []) 20 0 % 4398046511104

/-- Strings that may be read as long as but object j is written. -/
def StrSl (O : Old) (H : Heap) (j : Nat) (v : AV) (ws : List B) : Prop :=
  ∀ (i : Nat) (x : B), ws[i]? = some x → ∃ a, aIndexSl 1 v (.int .i64 i) = some a ∧ ∀ H', H.ext [j] H' → rd O H' a .one = some (.str x)
theorem StrSl.of {H H1 : Heap} {v : AV} {base n j : Nat} {ws : List B} (h : Grown 1 H v base n (strs ws)) (hj : H.next ≤ j) (he : H.ext [] H1) : StrSl O H1 j v ws := by
  intro i x hx
  obtain ⟨h1, ⟨rfl, rfl⟩ | ⟨k, u, rfl, b, c, d⟩⟩ := h
  · have : ws = [] := List.length_eq_zero_iff.1 (by simpa using h1)
    subst this; cases hx
  · have hi : i < n := by have := (List.getElem?_eq_some_iff.1 hx).1; simp at h1; omega
    refine ⟨.ptr k u i, by simp [hi], fun H' h' => ?_⟩
    have hg : H'.get k = some (.cells u (strs ws) false) := by
      rw [h'.2 k (Nat.lt_of_lt_of_le d he.1) (by simp; omega), he.2 k d (by simp)]; exact b
    simp [hg, strs, hx]

theorem loop17_1 {k : List K} {D : List ADef} {R : RS} {Q : Ex → St → Prop} {j : Nat} {v : AV} {ws : List B} {H0 : Heap} (hs : StrSl O H0 j v ws) (hj : j < H0.next) (h53 : ws.length = 53) (hlen : ∀ w ∈ ws, w.length ≤ 16777216) : ∀ (m i : Nat) (T : List AV) (H : Heap) (zs : List AV),
    m + i = 24 → zs.length = m → H0.ext [j] H → H.get j = some (.cells 0 ((List.range i).map (fun q => .int .i64 (wordV ws q)) ++ zs) true) → T.length = 188 → slot T 4 = v → slot T 8 = .slice j 0 0 24 24 → slot T 9 = (.int .i64 i) →
    (∀ T' H', T'.length = 188 → H0.ext [j] H' → H'.get j = some (.cells 0 ((List.range 24).map (fun q => .int .i64 (wordV ws q))) true) → slot T' 0 = slot T 0 → slot T' 2 = slot T 2 → slot T' 5 = slot T 5 → slot T' 8 = slot T 8 → W (E O) k (.exit 2) ⟨T', D, R, H'⟩ Q) →
    W (E O) (.code (.loop c17_l1) :: k) .norm ⟨T, D, R, H⟩ Q
  | 0, i, T, H, zs, hm, hz, he, ht, hT, h4, h8, h9, q => by
    obtain rfl : i = 24 := by omega
    obtain rfl : zs = [] := List.length_eq_zero_iff.1 hz
    have h9' : slot T 9 = .int .i64 24 := h9
    rw [W_loopE]
    simp [c17_l1, c17_r13, h9', hT]
    refine q _ H (by simp [hT]) he (by simpa using ht) ?_ ?_ ?_ ?_ <;> simp
  | m + 1, i, T, H, zs, hm, hz, he, ht, hT, h4, h8, h9, q => by
    have hi : i < 24 := by omega
    have hi' : (i : Int) < 24 := by omega
    rw [W_loopE]
    have w1 : IntKind.i64.wrap (2 * (i : Int)) = 2 * i := wrap64 (by omega) (by omega)
    have w2 : IntKind.i64.wrap (6 + 2 * (i : Int)) = 6 + 2 * i := wrap64 (by omega) (by omega)
    have w3 : IntKind.i64.wrap ((i : Int) + 1) = i + 1 := wrap64 (by omega) (by omega)
    have hin : 6 + 2 * i < ws.length := by omega
    obtain ⟨w, hw⟩ : ∃ w, ws[6 + 2 * i]? = some w := ⟨_, List.getElem?_eq_getElem hin⟩
    have hwv : wordV ws i = valueR w 20 0 % 4398046511104 := by simp [wordV, hw]
    obtain ⟨a, ha1, ha2⟩ := hs (6 + 2 * i) w hw
    have ha1' : aIndexSl 1 v (.int .i64 (6 + 2 * (i : Int))) = some a := by simpa using ha1
    have ha3 := ha2 H he
    have hwl : w.length ≤ 16777216 := hlen _ (List.mem_of_getElem? hw)
    obtain ⟨z, zs', rfl⟩ : ∃ z zs', zs = z :: zs' := by
      cases zs with
      | nil => simp at hz
      | cons z zs' => exact ⟨z, zs', rfl⟩
    simp only [List.length_cons, Nat.add_right_cancel_iff] at hz
    have r1 : ((valueR w 20 0 : Nat) : Int).tmod 4398046511104 = (wordV ws i : Int) := by
      rw [Int.tmod_eq_emod_of_nonneg (by omega), hwv]; omega
    have hv2 : wordV ws i < 4398046511104 := by rw [hwv]; exact Nat.mod_lt _ (by omega)
    have r2 : IntKind.i64.wrap (wordV ws i : Int) = wordV ws i := wrap64 (by omega) (by omega)
    have hset : ((List.range i).map (fun q => AV.int .i64 (wordV ws q)) ++ z :: zs').set i (.int .i64 (wordV ws i)) = (List.range (i + 1)).map (fun q => AV.int .i64 (wordV ws q)) ++ zs' := by
      simp [List.set_append, List.range_succ]
    simp [c17_l1, c17_r13, h9, hT, hi', c17_r14, w1, w2, h4, ha1', ha3]
    refine value_ref hwl ?_
    simp [hT, r1, r2, h8, hi, ht, hset, c17_r15, h9, w3]
    refine loop17_1 hs hj h53 hlen m (i + 1) _ _ zs' (by omega) hz (he.set _ _ (.inl (by simp))) (by simp) ?_ ?_ ?_ ?_ ?_
    · simp [hT]
    · simp [h4]
    · simp [h8]
    · simp [hT]
    · intro T' H' a1 a2 a3 a4 a5 a6 a7
      refine q T' H' a1 a2 a3 ?_ ?_ ?_ ?_
      · rw [a4]; simp
      · rw [a5]; simp
      · rw [a6]; simp
      · rw [a7]; simp
end Go.S

namespace Go.S
open Go Go.Ab Go.RowKit Go.Proofs
variable {O : Old}

def pad (ws : List B) : List B := ws ++ List.replicate (6 - ws.length) []
theorem pad_len (ws : List B) : 6 ≤ (pad ws).length := by simp [pad]; omega
theorem pad_getD (ws : List B) (i : Nat) : (pad ws).getD i [] = ws.getD i [] := by
  unfold pad
  simp only [List.getD_eq_getElem?_getD, List.getElem?_append, List.getElem?_replicate]
  split
  · rfl
  · split <;> simp [List.getElem?_eq_none (Nat.le_of_not_lt (by assumption))]
theorem pad_mem {ws : List B} {n : Nat} (h : ∀ w ∈ ws, w.length ≤ n) : ∀ w ∈ pad ws, w.length ≤ n := by
  intro w hw
  rcases List.mem_append.1 hw with hw | hw
  · exact h w hw
  · rw [(List.mem_replicate.1 hw).2]; simp
theorem pad_less {ws : List B} (h : ws.length < 6) : pad (ws ++ [[]]) = pad ws := by
  unfold pad
  rw [List.append_assoc, List.length_append, List.length_singleton, show 6 - ws.length = (6 - (ws.length + 1)) + 1 by omega, List.replicate_succ]
  rfl
theorem pad_more {ws : List B} (h : 6 ≤ ws.length) : pad ws = ws := by simp [pad, Nat.sub_eq_zero_of_le h]

theorem loop11_0 {k : List K} {D : List ADef} {R : RS} {Q : Ex → St → Prop} {H0 : Heap} : ∀ (m : Nat) (ws : List B) (T : List AV) (H : Heap),
    6 - ws.length ≤ m → ws.length ≤ 20000000 → Beyond H0.next H0 H → T.length = 139 → Grown 1 H (slot T 4) H0.next ws.length (strs ws) →
    (∀ T' H', T'.length = 139 → Beyond H0.next H0 H' → Grown 1 H' (slot T' 4) H0.next (pad ws).length (strs (pad ws)) → slot T' 0 = slot T 0 → slot T' 2 = slot T 2 → slot T' 3 = slot T 3 → W (E O) k (.exit 0) ⟨T', D, R, H'⟩ Q) →
    W (E O) (.code (.loop c11_l0) :: k) .norm ⟨T, D, R, H⟩ Q := by
  intro m
  induction m with
  | zero =>
    intro ws T H hm hl he hT hg q
    rw [W_loopE]
    have h6 : ¬ ((ws.length : Int) < 6) := by omega
    simp [c11_l0, c11_r2, hT, hg.len, h6]
    refine q _ H (by simp [hT]) he ?_ (by simp) (by simp) (by simp)
    rw [pad_more (by omega)]
    simpa [hT] using hg
  | succ m ih =>
    intro ws T H hm hl he hT hg q
    rw [W_loopE]
    by_cases h6 : 6 ≤ ws.length
    · have h6' : ¬ ((ws.length : Int) < 6) := by omega
      simp [c11_l0, c11_r2, hT, hg.len, h6']
      refine q _ H (by simp [hT]) he ?_ (by simp) (by simp) (by simp)
      rw [pad_more h6]
      simpa [hT] using hg
    · have h6' : ((ws.length : Int) < 6) := by omega
      simp [c11_l0, c11_r2, hT, hg.len, h6', c11_r3]
      refine afterAppend (k := 1) (new := [.str []]) hg ((Heap.ext_refl _ _).new _) he.1 (by simp [elems, rdCells]) (by simp) rfl (by simp) (by omega) fun av' H' hg' he' => ?_
      simp [hT]
      refine ih (ws ++ [[]]) _ H' (by simp; omega) (by simp; omega) (he.trans he') (by simp [hT]) (by simpa [hT, strs] using hg') ?_
      intro T' H'' a1 a2 a3 a4 a5 a6
      rw [pad_less (by omega)] at a3
      refine q T' H'' a1 a2 a3 ?_ ?_ ?_
      · rw [a4]; simp
      · rw [a5]; simp
      · rw [a6]; simp

/-- A number of a word, loosely. -/
def wordN (ws : List B) (i : Nat) : Nat := valueR (ws.getD i []) 20 0 % 4398046511104
theorem loop11_1 {k : List K} {D : List ADef} {R : RS} {Q : Ex → St → Prop} {j : Nat} {v : AV} {ws : List B} {H0 : Heap} (hs : StrSl O H0 j v ws) (hj : j < H0.next) (h6 : 6 ≤ ws.length) (hlen : ∀ w ∈ ws, w.length ≤ 16777216) : ∀ (m i : Nat) (T : List AV) (H : Heap) (zs : List AV),
    m + i = 6 → zs.length = m → H0.ext [j] H → H.get j = some (.cells 0 ((List.range i).map (fun q => .int .i64 (wordN ws q)) ++ zs) true) → T.length = 139 → slot T 4 = v → slot T 6 = .slice j 0 0 6 6 → slot T 7 = (.int .i64 i) →
    (∀ T' H', T'.length = 139 → H0.ext [j] H' → H'.get j = some (.cells 0 ((List.range 6).map (fun q => .int .i64 (wordN ws q))) true) → slot T' 0 = slot T 0 → slot T' 2 = slot T 2 → slot T' 3 = slot T 3 → slot T' 4 = slot T 4 → slot T' 5 = slot T 5 → slot T' 6 = slot T 6 → W (E O) k (.exit 2) ⟨T', D, R, H'⟩ Q) →
    W (E O) (.code (.loop c11_l1) :: k) .norm ⟨T, D, R, H⟩ Q
  | 0, i, T, H, zs, hm, hz, he, ht, hT, h4, h6, h7, q => by
    obtain rfl : i = 6 := by omega
    obtain rfl : zs = [] := List.length_eq_zero_iff.1 hz
    have h7' : slot T 7 = .int .i64 6 := h7
    rw [W_loopE]
    simp [c11_l1, c11_r7, h7', hT]
    refine q _ H (by simp [hT]) he (by simpa using ht) ?_ ?_ ?_ ?_ ?_ ?_ <;> simp
  | m + 1, i, T, H, zs, hm, hz, he, ht, hT, h4, h6s, h7, q => by
    have hi : i < 6 := by omega
    have hi' : (i : Int) < 6 := by omega
    rw [W_loopE]
    have w3 : IntKind.i64.wrap ((i : Int) + 1) = i + 1 := wrap64 (by omega) (by omega)
    have hin : i < ws.length := by omega
    obtain ⟨w, hw⟩ : ∃ w, ws[i]? = some w := ⟨_, List.getElem?_eq_getElem hin⟩
    have hwv : wordN ws i = valueR w 20 0 % 4398046511104 := by simp [wordN, hw]
    obtain ⟨a, ha1, ha2⟩ := hs i w hw
    have ha3 := ha2 H he
    have hwl : w.length ≤ 16777216 := hlen _ (List.mem_of_getElem? hw)
    obtain ⟨z, zs', rfl⟩ : ∃ z zs', zs = z :: zs' := by
      cases zs with
      | nil => simp at hz
      | cons z zs' => exact ⟨z, zs', rfl⟩
    simp only [List.length_cons, Nat.add_right_cancel_iff] at hz
    have r1 : ((valueR w 20 0 : Nat) : Int).tmod 4398046511104 = (wordN ws i : Int) := by
      rw [Int.tmod_eq_emod_of_nonneg (by omega), hwv]; omega
    have hv2 : wordN ws i < 4398046511104 := by rw [hwv]; exact Nat.mod_lt _ (by omega)
    have r2 : IntKind.i64.wrap (wordN ws i : Int) = wordN ws i := wrap64 (by omega) (by omega)
    have hset : ((List.range i).map (fun q => AV.int .i64 (wordN ws q)) ++ z :: zs').set i (.int .i64 (wordN ws i)) = (List.range (i + 1)).map (fun q => AV.int .i64 (wordN ws q)) ++ zs' := by
      simp [List.set_append, List.range_succ]
    simp [c11_l1, c11_r7, h7, hT, hi', c11_r8, h4, ha1, ha3]
    refine value_ref hwl ?_
    simp [hT, r1, r2, h6s, hi, ht, hset, c11_r9, h7, w3]
    refine loop11_1 hs hj h6 hlen m (i + 1) _ _ zs' (by omega) hz (he.set _ _ (.inl (by simp))) (by simp) ?_ ?_ ?_ ?_ ?_
    · simp [hT]
    · simp [h4]
    · simp [h6s]
    · simp [hT]
    · intro T' H' a1 a2 a3 a4 a5 a6 a7 a8 a9
      refine q T' H' a1 a2 a3 ?_ ?_ ?_ ?_ ?_ ?_
      · rw [a4]; simp
      · rw [a5]; simp
      · rw [a6]; simp
      · rw [a7]; simp
      · rw [a8]; simp
      · rw [a9]; simp

/-- A deed of words, loosely. -/
def deedK (k : Int) (ws : List B) : Deed :=
  if k = 2 then ⟨k, wordN ws 1, 0, 0, 0, 0, 0, wordN ws 2 % 65536, wordN ws 3 % 4294967296, ws.getD 4 [] == [117], hexR (ws.getD 5 []), []⟩ else
  if k = 5 then ⟨k, wordN ws 1, 0, 0, 0, 0, 0, 0, 0, false, [], hexR (ws.getD 2 [])⟩ else
  if k = 7 then ⟨k, 0, 0, 0, 0, 0, wordN ws 1, 0, 0, false, [], []⟩ else
  if k = 8 ∨ k = 9 ∨ k = 10 then ⟨k, wordN ws 1, wordN ws 2, wordN ws 3, 0, 0, 0, 0, 0, false, [], []⟩ else
  if k = 11 then ⟨k, wordN ws 1, wordN ws 2, wordN ws 3, wordN ws 4, wordN ws 5 % 256, 0, 0, 0, false, [], []⟩ else
  if k = 12 then ⟨k, wordN ws 1, wordN ws 2, 0, 0, 0, 0, 0, 0, false, hexR (ws.getD 3 []), []⟩ else
  if k = 13 ∨ k = 14 then ⟨k, 0, wordN ws 1, 0, 0, 0, 0, 0, 0, false, [], []⟩ else
  ⟨k, wordN ws 1, 0, 0, 0, 0, 0, 0, 0, false, [], []⟩
def deedOf (ws : List B) : Deed := deedK (kindR (ws.getD 0 []) kindNames 0) ws
def refR (s : B) : Option Deed := if refL (deedOf (pad (splitW 32 s))) = some s then some (deedOf (pad (splitW 32 s))) else none
def refRD (s : B) : Deed := (refR s).getD Deed.zero
def refRE (s : B) : Int := if (refR s).isSome then 0 else 250
theorem deedOf_ok (ws : List B) : (deedOf ws).Ok := by
  unfold deedOf deedK
  repeat' split
  all_goals exact ⟨by simp only; omega, by simp only; omega, by simp only; omega⟩

theorem splitW_num (c : UInt8) : ∀ s, (splitW c s).length ≤ s.length + 1
  | [] => by simp [splitW]
  | b :: r => by
    have ih := splitW_num c r
    simp only [splitW]
    split
    · simp; omega
    · split
      · rename_i w ws h; rw [h] at ih; simp at ih ⊢; omega
      · simp

theorem ext_put1 {H X : Heap} {t : Nat} (h : H.ext [t] X) (o : AObj) : H.ext [t] (X.set t o) := h.set _ _ (.inl (by simp))
theorem ext_more1 {H X : Heap} {t : Nat} (h : H.ext [t] X) (n : Nat) (hn : X.next ≤ n) : H.ext [t] ⟨n, X.m⟩ := ⟨Nat.le_trans h.1 hn, h.2⟩
theorem hexR_len : ∀ l : List UInt8, (hexR l).length ≤ l.length
  | [] => by simp [hexR]
  | [_] => by simp [hexR]
  | a :: b :: r => by have := hexR_len r; simp [hexR]; omega
theorem deedOf_data {ws : List B} {n : Nat} (h : ∀ w ∈ ws, w.length ≤ n) : (deedOf ws).data.length ≤ n := by
  have key : ∀ i, (hexR (ws.getD i [])).length ≤ n := fun i => Nat.le_trans (hexR_len _) (by
    by_cases hi : i < ws.length
    · rw [List.getD_eq_getElem?_getD, List.getElem?_eq_getElem hi]; exact h _ (List.getElem_mem hi)
    · rw [List.getD_eq_getElem?_getD, List.getElem?_eq_none (by omega)]; simp)
  unfold deedOf deedK
  repeat' split
  all_goals first | exact key _ | simp
theorem Grown.past {H H' : Heap} {v : AV} {sz base n : Nat} {cs : List AV} (h : Grown sz H v base n cs) (hn : H.next ≤ H'.next) (ho : ∀ i, base ≤ i → i < H.next → H'.get i = H.get i) : Grown sz H' v base n cs := by
  obtain ⟨h1, h2⟩ := h
  refine ⟨h1, ?_⟩
  rcases h2 with h2 | ⟨j, v, a, b, c, d⟩
  · exact .inl h2
  · exact .inr ⟨j, v, a, by rw [ho j c d]; exact b, c, Nat.lt_of_lt_of_le d hn⟩
theorem Grown.byt {H : Heap} {v : AV} {base n : Nat} {bs : List UInt8} (h : Grown 1 H v base n (u8s bs)) : Byt O H v bs := by
  have hl : bs.length = n := by have := h.1; simpa using this
  subst hl
  refine ⟨fun s hs => ?_, fun H' he => (h.mono he).elems⟩
  subst hs
  rcases h.2 with ⟨h, _⟩ | ⟨_, _, h, _⟩ <;> cases h

set_option maxRecDepth 100000 in
set_option maxHeartbeats 4000000 in
theorem tail11 {s : B} {r t : Nat} {T : List AV} {H : Heap} {d : Deed} {u : AV} {Q : AEnd → RS → Heap → Prop} (hT : T.length = 139) (h0 : slot T 0 = .str s) (h2 : slot T 2 = .ptr r 0 0) (h5 : slot T 5 = .ptr t 0 0)
    (ht : H.get t = some (.cells 0 (d.cells u) true)) (hr : H.get r = some (.cells 0 (Deed.zero.cells .nils) true)) (htn : t < H.next) (hrn : r < H.next) (hrt : r ≠ t) (ok : d.Ok) (hb : ∀ H', H.ext [r] H' → Byt O H' u d.data) (hm : d.data.length < 2 ^ 62)
    (q : ∀ H' v, H.ext [r] H' → Byt O H' v (if refL d = some s then d else Deed.zero).data → Q (.ret (.tuple [.agg ((if refL d = some s then d else Deed.zero).cells v), .int .i64 (if refL d = some s then 0 else 250)])) .no H') :
    W (E O) [K.ops c11_r30, K.kill [126, 127, 125, 128, 129], K.code (CCode.seq (CCode.kill [130, 131, 132, 133, 134, 135, 136, 137] (CCode.seq (CCode.kill [130, 131, 132, 133, 134, 135] (CCode.region c11_r31)) (CCode.cond (.t 136) (CCode.seq (CCode.kill [137] (CCode.region c11_r32)) CCode.ret) CCode.skip))) (CCode.seq (CCode.kill [138] (CCode.region c11_r33)) CCode.ret))]
      .norm ⟨T, [], .no, H⟩ (Fin (E O) [.cell 2 (.many 12), .tmp 3] Q) := by
  have hc := cell_of_len (hb _ (Heap.ext_refl _ _)).bsl.1
  have hlen : (d.cells u).length = 12 := by simp [Deed.cells]
  have htk : List.take 12 (d.cells u) = d.cells u := by rw [← hlen, List.take_length]
  have hv2 : (d.cells u).all AV.isCell = true := by simp [Deed.cells, AV.isCell]; exact hc.2
  have ov : ∀ x : Deed, ∀ u, over (Deed.zero.cells .nils) 0 (x.cells u) = some (x.cells u) := fun x u => by simp [over, Deed.cells]
  have hz : ([AV.int .i64 0, .int .i64 0, .int .i64 0, .int .i64 0, .int .i64 0, .int .u8 0, .int .i64 0, .int .u16 0, .int .u32 0, .bool false, .nils, .str []] : List AV) = Deed.zero.cells .nils := rfl
  have hzl : (Deed.zero.cells .nils).length = 12 := rfl
  have hzt : List.take 12 (Deed.zero.cells .nils) = Deed.zero.cells .nils := rfl
  have hza : (Deed.zero.cells .nils).all AV.isCell = true := by decide
  simp [c11_r30, hT, h5, ht, hlen, htk, hv2]
  refine Line_ref ok (hb _ (Heap.ext_refl _ _)) hm fun H1 e1 => ?_
  have n1 := e1.1
  have k1 : H1.get t = _ := (e1.2 _ htn (by simp)).trans ht
  have k2 : H1.get r = _ := (e1.2 _ hrn (by simp)).trans hr
  have bad : refL d ≠ some s → Q (.ret (.tuple [.agg (Deed.zero.cells .nils), .int .i64 250])) .no (H1.set r (.cells 0 (Deed.zero.cells .nils) true)) := fun h => by
    have := q (H1.set r (.cells 0 (Deed.zero.cells .nils) true)) .nils (e1.of_nil.set _ _ (.inl (by simp))) (by rw [if_neg h]; exact ⟨fun s h => (by cases h), fun H' _ => rfl⟩)
    simpa only [if_neg h] using this
  cases hL : refL d with
  | none =>
    have b := bad (by rw [hL]; simp)
    have hE : refLE d = 1 := by rw [refLE, hL]; rfl
    simp [hT, c11_r31, hE]
    simp only [c11_r32, hz]
    simp [hT, h2, k2, hzl, ov, hza, hzt, wr]
    exact b
  | some x =>
    have hE : refLE d = 0 := by rw [refLE, hL]; rfl
    have hS : refLS d = x := by rw [refLS, hL]; rfl
    by_cases hx : x = s
    · subst hx
      have b := q (H1.set r (.cells 0 (d.cells u) true)) u (e1.of_nil.set _ _ (.inl (by simp))) (by
        rw [if_pos hL]
        exact hb _ (e1.of_nil.set _ _ (.inl (by simp))))
      simp only [if_pos hL] at b
      simp [hT, c11_r31, hE, hS, h0]
      simp [c11_r33, hT, h2, h5, k1, k2, hlen, htk, hv2, ov, wr]
      exact b
    · have b := bad (by rw [hL]; simpa using hx)
      have hxb : (x == s) = false := by simpa using hx
      simp [hT, c11_r31, hE, hS, h0, hxb]
      simp only [c11_r32, hz]
      simp [hT, h2, k2, hzl, ov, hza, hzt, wr]
      exact b

set_option maxRecDepth 100000 in
set_option maxHeartbeats 16000000 in
theorem readLine_ref {H : Heap} {s : B} (hs : s.length ≤ 16777216) {Q : AEnd → RS → Heap → Prop}
    (q : ∀ H' v, H.ext [] H' → Byt O H' v (refRD s).data → Q (.ret (.tuple [.agg ((refRD s).cells v), .int .i64 (refRE s)])) .no H') : CallOk (E O) 11 [.str s] .no H Q := by
  have hz : ([AV.int .i64 0, .int .i64 0, .int .i64 0, .int .i64 0, .int .i64 0, .int .u8 0, .int .i64 0, .int .u16 0, .int .u32 0, .bool false, .nils, .str []] : List AV) = Deed.zero.cells .nils := rfl
  refine CallOk.go c11 rfl rfl ?_
  simp only [c11, c11_r0, hz]
  simp [c11_r1]
  have e0 : H.ext [] (H.new (.cells 0 (Deed.zero.cells .nils) true)) := (Heap.ext_refl _ _).new _
  have g0 : (H.new (.cells 0 (Deed.zero.cells .nils) true)).get H.next = some (.cells 0 (Deed.zero.cells .nils) true) := by simp
  have n0 : (H.new (.cells 0 (Deed.zero.cells .nils) true)).next = H.next + 1 := by simp
  generalize H.new (.cells 0 (Deed.zero.cells .nils) true) = H0 at *
  refine words_ref hs ?_
  intro H1 v e1 w1
  simp
  refine loop11_0 (H0 := H0) 6 (splitW 32 s) _ H1 (by omega) (Nat.le_trans (splitW_num 32 s) (by omega)) ⟨e1.1, fun i hi => e1.2 i hi (by simp)⟩ (by simp) ?_ ?_
  · simpa using w1
  intro T2 H2 hT2 e2 w2 s20 s22 s23
  simp at s20 s22 s23
  have e02 : H0.ext [] H2 := e2.ext rfl
  have sw : ∀ H' j, H2.ext [] H' → H2.next ≤ j → StrSl O H' j (slot T2 4) (pad (splitW 32 s)) := fun H' j h hj => StrSl.of w2 hj h
  have lw : ∀ w ∈ pad (splitW 32 s), w.length ≤ 16777216 := pad_mem fun w hw => Nat.le_trans (splitW_len 32 s w hw) hs
  have pl := pad_len (splitW 32 s)
  have rR : refR s = if refL (deedOf (pad (splitW 32 s))) = some s then some (deedOf (pad (splitW 32 s))) else none := rfl
  generalize hws : pad (splitW 32 s) = ws at *
  obtain ⟨x0, hx0⟩ : ∃ x, ws[0]? = some x := ⟨_, List.getElem?_eq_getElem (by omega)⟩
  obtain ⟨a0, ha0, hr0⟩ := sw H2 H2.next (Heap.ext_refl _ _) (Nat.le_refl _) 0 x0 hx0
  replace ha0 : aIndexSl 1 (slot T2 4) (.int .i64 0) = some a0 := ha0
  replace hr0 := hr0 H2 (Heap.ext_refl _ _)
  simp [c11_r4, hT2, ha0, hr0]
  refine kind_ref ?_
  intro H3 e3
  have hkk : kindR x0 kindNames 0 = kindR (ws.getD 0 []) kindNames 0 := by simp [hx0]
  simp [hT2, wr, over]
  generalize hH4 : Heap.set _ H3.next _ = H4
  have e4 : H3.ext [] H4 := by subst hH4; exact ((Heap.ext_refl _ _).new _).set _ _ (.inr (by omega))
  have n4 : H4.next = H3.next + 1 := by subst hH4; simp
  have hp : MkOk 8 6 6 := MkOk.of (by omega) (by omega) (by omega) (by omega)
  have hd0 : ∀ u, (Deed.mk (kindR x0 kindNames 0) 0 0 0 0 0 0 0 0 false [] []).cells u = [AV.int .i64 (kindR x0 kindNames 0), .int .i64 0, .int .i64 0, .int .i64 0, .int .i64 0, .int .u8 0, .int .i64 0, .int .u16 0, .int .u32 0, .bool false, u, .str []] := fun u => rfl
  have g4 : H4.get H3.next = some (.cells 0 [AV.int .i64 (kindR x0 kindNames 0), .int .i64 0, .int .i64 0, .int .i64 0, .int .i64 0, .int .u8 0, .int .i64 0, .int .u16 0, .int .u32 0, .bool false, .nils, .str []] true) := by
    subst hH4; simp
  clear hH4
  simp [c11_r5, hp, c11_r6, hT2]
  have e24 : H2.ext [] H4 := e3.trans e4
  have e45 : H4.ext [] (H4.new (.cells 0 (List.replicate 6 (.int .i64 0)) true)) := (Heap.ext_refl _ _).new _
  have g5j : (H4.new (.cells 0 (List.replicate 6 (.int .i64 0)) true)).get H4.next = some (.cells 0 (List.replicate 6 (.int .i64 0)) true) := by simp
  have g5t : (H4.new (.cells 0 (List.replicate 6 (.int .i64 0)) true)).get H3.next = _ := (e45.2 _ (by omega) (by simp)).trans g4
  have n45 : (H4.new (.cells 0 (List.replicate 6 (.int .i64 0)) true)).next = H4.next + 1 := by simp
  have hr : ([AV.int .i64 0, .int .i64 0, .int .i64 0, .int .i64 0, .int .i64 0, .int .i64 0] : List AV) = List.replicate 6 (.int .i64 0) := rfl
  rw [hr]
  generalize H4.new (.cells 0 (List.replicate 6 (.int .i64 0)) true) = H5 at *
  have sw5 := sw _ H4.next (e24.trans e45) e24.1
  refine loop11_1 (j := H4.next) (v := slot T2 4) (ws := ws) (H0 := H5) sw5 (by omega) pl lw 6 0 _ _ (List.replicate 6 (.int .i64 0)) rfl (by simp) (Heap.ext_refl _ _) (by simpa using g5j) (by simp [hT2]) (by simp) (by simp [hT2]) (by simp [hT2]) ?_
  intro T6 H6 hT6 e6 g6 s60 s62 s63 s64 s65 s66
  simp [s20] at s60
  simp [s22] at s62
  simp [s23] at s63
  simp at s64
  simp [hT2] at s65
  simp [hT2] at s66
  have g6t : H6.get H3.next = _ := (e6.2 _ (by omega) (by simp; omega)).trans g5t
  have htj : H3.next ≠ H4.next := by omega
  have n6 := e6.1
  have sw6 : StrSl O H6 H3.next (slot T2 4) ws := sw _ _ ((e24.trans e45).trans_new e6 (by simp; exact e24.1)) e3.1
  have e06 : H.ext [] H6 := (((e0.trans e02).trans e24).trans e45).trans_new e6 (by simp; have := e0.1; have := e02.1; have := e24.1; omega)
  have g60 : H6.get H.next = some (.cells 0 (Deed.zero.cells .nils) true) := by
    have := e02.1; have := e24.1
    rw [e6.2 _ (by omega) (by simp; omega), e45.2 _ (by omega) (by simp), e24.2 _ (by omega) (by simp), e02.2 _ (by omega) (by simp)]; exact g0
  have htz : H.next ≠ H3.next := by have := e02.1; have := e3.1; omega
  have hrx : (List.range 6).map (fun q => AV.int .i64 (wordN ws q)) = [AV.int .i64 (wordN ws 0), .int .i64 (wordN ws 1), .int .i64 (wordN ws 2), .int .i64 (wordN ws 3), .int .i64 (wordN ws 4), .int .i64 (wordN ws 5)] := rfl
  rw [hrx] at g6
  clear e45 g5j g5t sw5 hr g4
  have n06 := e06.1
  have n02 := e02.1
  have n23 := e3.1
  have tail : ∀ T7 H7 u, T7.length = 139 → slot T7 0 = .str s → slot T7 2 = .ptr H.next 0 0 → slot T7 5 = .ptr H3.next 0 0 → H6.ext [H3.next] H7 → H7.get H3.next = some (.cells 0 ((deedOf ws).cells u) true) → (∀ H', H7.ext [H.next] H' → Byt O H' u (deedOf ws).data) →
      W (E O) [K.ops c11_r30, K.kill [126, 127, 125, 128, 129], K.code (CCode.seq (CCode.kill [130, 131, 132, 133, 134, 135, 136, 137] (CCode.seq (CCode.kill [130, 131, 132, 133, 134, 135] (CCode.region c11_r31)) (CCode.cond (.t 136) (CCode.seq (CCode.kill [137] (CCode.region c11_r32)) CCode.ret) CCode.skip))) (CCode.seq (CCode.kill [138] (CCode.region c11_r33)) CCode.ret))]
        .norm ⟨T7, [], .no, H7⟩ (Fin (E O) [.cell 2 (.many 12), .tmp 3] Q) := by
    intro T7 H7 u a1 a2 a3 a4 a5 a6 a7
    have n7 := a5.1
    refine tail11 a1 a2 a3 a4 a6 ((a5.2 _ (by omega) (by simpa using htz)).trans g60) (by omega) (by omega) htz (deedOf_ok _) a7 (Nat.lt_of_le_of_lt (deedOf_data lw) (by decide)) ?_
    intro H' v e b
    have hrD : refRD s = if refL (deedOf ws) = some s then deedOf ws else Deed.zero := by rw [refRD, rR]; split <;> rfl
    have hrE : refRE s = if refL (deedOf ws) = some s then 0 else 250 := by rw [refRE, rR]; split <;> rfl
    have := q H' v ((e06.trans_new a5 (by simp; omega)).trans_new e (by simp)) (by rw [hrD]; exact b)
    rw [hrD, hrE] at this
    exact this
  have dk : deedOf ws = deedK (kindR x0 kindNames 0) ws := by rw [deedOf, ← hkk]
  simp [c11_r10, c11_r11, hT6, s65, s66, g6, g6t, htj, htj.symm]
  generalize kindR x0 kindNames 0 = kk at *
  have w32 : ∀ n : Nat, IntKind.u32.wrap (n : Int) = ((n % 4294967296 : Nat) : Int) := by intro n; simp [IntKind.wrap, IntKind.signed, IntKind.bits]
  have w16 : ∀ n : Nat, IntKind.u16.wrap (n : Int) = ((n % 65536 : Nat) : Int) := by intro n; simp [IntKind.wrap, IntKind.signed, IntKind.bits]
  have w8 : ∀ n : Nat, IntKind.u8.wrap (n : Int) = ((n % 256 : Nat) : Int) := by intro n; simp [IntKind.wrap, IntKind.signed, IntKind.bits]
  -- kinds
  by_cases hk7 : kk = 7
  · subst hk7
    simp [c11_r12, c11_r14, c11_r16, c11_r18, c11_r19, c11_r20, c11_r21, c11_r23, c11_r25, c11_r27, c11_r28, hT6]
    refine W_drawsX ?_
    simp [c11_r17, c11_r12, c11_r14, c11_r16, c11_r18, c11_r19, c11_r20, c11_r21, c11_r23, c11_r25, c11_r27, c11_r28, light, hT6, s65, s66, g6, g6t, htj, htj.symm, w8, w16, w32]
    generalize hH7 : Heap.set _ H3.next _ = H7
    have e7 : H6.ext [H3.next] H7 := by
      subst hH7
      repeat (first | exact Heap.ext_refl _ _ | refine ext_put1 ?_ _ | refine ext_more1 ?_ _ (by simp only [Heap.next_set]; omega))
    have g7 : H7.get H3.next = some (.cells 0 ((deedOf ws).cells .nils) true) := by subst hH7; rw [dk]; simp [deedK, Deed.cells]
    clear hH7
    exact tail _ H7 .nils (by simp [hT6]) (by simp [s60]) (by simp [s62]) (by simp [s65]) e7 g7 fun H' _ => (by rw [dk]; exact ⟨fun s h => (by cases h), fun H' _ => rfl⟩)
  by_cases hk8 : kk = 8
  · subst hk8
    simp [c11_r12, c11_r14, c11_r16, c11_r18, c11_r19, c11_r20, c11_r21, c11_r23, c11_r25, c11_r27, c11_r28, hT6]
    refine W_drawsX ?_
    simp [c11_r22, c11_r12, c11_r14, c11_r16, c11_r18, c11_r19, c11_r20, c11_r21, c11_r23, c11_r25, c11_r27, c11_r28, light, hT6, s65, s66, g6, g6t, htj, htj.symm, w8, w16, w32]
    generalize hH7 : Heap.set _ H3.next _ = H7
    have e7 : H6.ext [H3.next] H7 := by
      subst hH7
      repeat (first | exact Heap.ext_refl _ _ | refine ext_put1 ?_ _ | refine ext_more1 ?_ _ (by simp only [Heap.next_set]; omega))
    have g7 : H7.get H3.next = some (.cells 0 ((deedOf ws).cells .nils) true) := by subst hH7; rw [dk]; simp [deedK, Deed.cells]
    clear hH7
    exact tail _ H7 .nils (by simp [hT6]) (by simp [s60]) (by simp [s62]) (by simp [s65]) e7 g7 fun H' _ => (by rw [dk]; exact ⟨fun s h => (by cases h), fun H' _ => rfl⟩)
  by_cases hk9 : kk = 9
  · subst hk9
    simp [c11_r12, c11_r14, c11_r16, c11_r18, c11_r19, c11_r20, c11_r21, c11_r23, c11_r25, c11_r27, c11_r28, hT6]
    refine W_drawsX ?_
    simp [c11_r22, c11_r12, c11_r14, c11_r16, c11_r18, c11_r19, c11_r20, c11_r21, c11_r23, c11_r25, c11_r27, c11_r28, light, hT6, s65, s66, g6, g6t, htj, htj.symm, w8, w16, w32]
    generalize hH7 : Heap.set _ H3.next _ = H7
    have e7 : H6.ext [H3.next] H7 := by
      subst hH7
      repeat (first | exact Heap.ext_refl _ _ | refine ext_put1 ?_ _ | refine ext_more1 ?_ _ (by simp only [Heap.next_set]; omega))
    have g7 : H7.get H3.next = some (.cells 0 ((deedOf ws).cells .nils) true) := by subst hH7; rw [dk]; simp [deedK, Deed.cells]
    clear hH7
    exact tail _ H7 .nils (by simp [hT6]) (by simp [s60]) (by simp [s62]) (by simp [s65]) e7 g7 fun H' _ => (by rw [dk]; exact ⟨fun s h => (by cases h), fun H' _ => rfl⟩)
  by_cases hk10 : kk = 10
  · subst hk10
    simp [c11_r12, c11_r14, c11_r16, c11_r18, c11_r19, c11_r20, c11_r21, c11_r23, c11_r25, c11_r27, c11_r28, hT6]
    refine W_drawsX ?_
    simp [c11_r22, c11_r12, c11_r14, c11_r16, c11_r18, c11_r19, c11_r20, c11_r21, c11_r23, c11_r25, c11_r27, c11_r28, light, hT6, s65, s66, g6, g6t, htj, htj.symm, w8, w16, w32]
    generalize hH7 : Heap.set _ H3.next _ = H7
    have e7 : H6.ext [H3.next] H7 := by
      subst hH7
      repeat (first | exact Heap.ext_refl _ _ | refine ext_put1 ?_ _ | refine ext_more1 ?_ _ (by simp only [Heap.next_set]; omega))
    have g7 : H7.get H3.next = some (.cells 0 ((deedOf ws).cells .nils) true) := by subst hH7; rw [dk]; simp [deedK, Deed.cells]
    clear hH7
    exact tail _ H7 .nils (by simp [hT6]) (by simp [s60]) (by simp [s62]) (by simp [s65]) e7 g7 fun H' _ => (by rw [dk]; exact ⟨fun s h => (by cases h), fun H' _ => rfl⟩)
  by_cases hk11 : kk = 11
  · subst hk11
    simp [c11_r12, c11_r14, c11_r16, c11_r18, c11_r19, c11_r20, c11_r21, c11_r23, c11_r25, c11_r27, c11_r28, hT6]
    refine W_drawsX ?_
    simp [c11_r22, c11_r12, c11_r14, c11_r16, c11_r18, c11_r19, c11_r20, c11_r21, c11_r23, c11_r25, c11_r27, c11_r28, light, hT6, s65, s66, g6, g6t, htj, htj.symm, w8, w16, w32]
    refine W_drawsX ?_
    simp [c11_r24, c11_r12, c11_r14, c11_r16, c11_r18, c11_r19, c11_r20, c11_r21, c11_r23, c11_r25, c11_r27, c11_r28, light, hT6, s65, s66, g6, g6t, htj, htj.symm, w8, w16, w32]
    generalize hH7 : Heap.set _ H3.next _ = H7
    have e7 : H6.ext [H3.next] H7 := by
      subst hH7
      repeat (first | exact Heap.ext_refl _ _ | refine ext_put1 ?_ _ | refine ext_more1 ?_ _ (by simp only [Heap.next_set]; omega))
    have g7 : H7.get H3.next = some (.cells 0 ((deedOf ws).cells .nils) true) := by subst hH7; rw [dk]; simp [deedK, Deed.cells]
    clear hH7
    exact tail _ H7 .nils (by simp [hT6]) (by simp [s60]) (by simp [s62]) (by simp [s65]) e7 g7 fun H' _ => (by rw [dk]; exact ⟨fun s h => (by cases h), fun H' _ => rfl⟩)
  by_cases hk13 : kk = 13
  · subst hk13
    simp [c11_r12, c11_r14, c11_r16, c11_r18, c11_r19, c11_r20, c11_r21, c11_r23, c11_r25, c11_r27, c11_r28, hT6]
    refine W_drawsX ?_
    simp [c11_r29, c11_r12, c11_r14, c11_r16, c11_r18, c11_r19, c11_r20, c11_r21, c11_r23, c11_r25, c11_r27, c11_r28, light, hT6, s65, s66, g6, g6t, htj, htj.symm, w8, w16, w32]
    generalize hH7 : Heap.set _ H3.next _ = H7
    have e7 : H6.ext [H3.next] H7 := by
      subst hH7
      repeat (first | exact Heap.ext_refl _ _ | refine ext_put1 ?_ _ | refine ext_more1 ?_ _ (by simp only [Heap.next_set]; omega))
    have g7 : H7.get H3.next = some (.cells 0 ((deedOf ws).cells .nils) true) := by subst hH7; rw [dk]; simp [deedK, Deed.cells]
    clear hH7
    exact tail _ H7 .nils (by simp [hT6]) (by simp [s60]) (by simp [s62]) (by simp [s65]) e7 g7 fun H' _ => (by rw [dk]; exact ⟨fun s h => (by cases h), fun H' _ => rfl⟩)
  by_cases hk14 : kk = 14
  · subst hk14
    simp [c11_r12, c11_r14, c11_r16, c11_r18, c11_r19, c11_r20, c11_r21, c11_r23, c11_r25, c11_r27, c11_r28, hT6]
    refine W_drawsX ?_
    simp [c11_r29, c11_r12, c11_r14, c11_r16, c11_r18, c11_r19, c11_r20, c11_r21, c11_r23, c11_r25, c11_r27, c11_r28, light, hT6, s65, s66, g6, g6t, htj, htj.symm, w8, w16, w32]
    generalize hH7 : Heap.set _ H3.next _ = H7
    have e7 : H6.ext [H3.next] H7 := by
      subst hH7
      repeat (first | exact Heap.ext_refl _ _ | refine ext_put1 ?_ _ | refine ext_more1 ?_ _ (by simp only [Heap.next_set]; omega))
    have g7 : H7.get H3.next = some (.cells 0 ((deedOf ws).cells .nils) true) := by subst hH7; rw [dk]; simp [deedK, Deed.cells]
    clear hH7
    exact tail _ H7 .nils (by simp [hT6]) (by simp [s60]) (by simp [s62]) (by simp [s65]) e7 g7 fun H' _ => (by rw [dk]; exact ⟨fun s h => (by cases h), fun H' _ => rfl⟩)
  by_cases hk5 : kk = 5
  · subst hk5
    obtain ⟨x2, hx2⟩ : ∃ x, ws[2]? = some x := ⟨_, List.getElem?_eq_getElem (by omega)⟩
    obtain ⟨a2, ha2, hr2⟩ := sw6 2 x2 hx2
    replace ha2 : aIndexSl 1 (slot T2 4) (.int .i64 2) = some a2 := ha2
    have hq2 : ∀ o, rd O (H6.set H3.next o) a2 .one = some (.str x2) := fun o => hr2 _ (ext_put1 (Heap.ext_refl _ _) o)
    have hp2 : ∀ o n, H6.next ≤ n → rd O ⟨n, (H6.set H3.next o).m⟩ a2 .one = some (.str x2) := fun o n hn => hr2 _ (ext_more1 (ext_put1 (Heap.ext_refl _ _) o) n (by simpa using hn))
    have hd2 : ws.getD 2 [] = x2 := by simp [hx2]
    have hl2 : x2.length ≤ 16777216 := lw x2 (List.mem_of_getElem? hx2)
    simp [c11_r12, c11_r14, c11_r16, c11_r18, c11_r19, c11_r20, c11_r21, c11_r23, c11_r25, c11_r27, c11_r28, hT6, c11_r15, s64, ha2, hq2]
    refine bytes_ref hl2 ?_
    intro H8 v8 e8 w8
    have n8 := e8.1
    have k8 := e8.2 H3.next (by simp; omega) (by simp)
    simp at k8
    simp [hT6, w8.elems (O := O)]
    rcases w8.2 with ⟨rfl, -⟩ | ⟨j, u, rfl, -⟩ <;> simp [hT6, s65, k8] <;>
      exact tail _ _ .nils (by simp [hT6]) (by simp [s60]) (by simp [s62]) (by simp [s65]) (ext_put1 ((ext_put1 (Heap.ext_refl _ _) _).trans e8.of_nil) _) (by rw [dk]; simp [deedK, Deed.cells, hx2]) fun H' _ => (by rw [dk]; exact ⟨fun s h => (by cases h), fun H' _ => rfl⟩)
  by_cases hk12 : kk = 12
  · subst hk12
    obtain ⟨x3, hx3⟩ : ∃ x, ws[3]? = some x := ⟨_, List.getElem?_eq_getElem (by omega)⟩
    obtain ⟨a3, ha3, hr3⟩ := sw6 3 x3 hx3
    replace ha3 : aIndexSl 1 (slot T2 4) (.int .i64 3) = some a3 := ha3
    have hq3 : ∀ o, rd O (H6.set H3.next o) a3 .one = some (.str x3) := fun o => hr3 _ (ext_put1 (Heap.ext_refl _ _) o)
    have hp3 : ∀ o n, H6.next ≤ n → rd O ⟨n, (H6.set H3.next o).m⟩ a3 .one = some (.str x3) := fun o n hn => hr3 _ (ext_more1 (ext_put1 (Heap.ext_refl _ _) o) n (by simpa using hn))
    have hd3 : ws.getD 3 [] = x3 := by simp [hx3]
    have hl3 : x3.length ≤ 16777216 := lw x3 (List.mem_of_getElem? hx3)
    simp [c11_r12, c11_r14, c11_r16, c11_r18, c11_r19, c11_r20, c11_r21, c11_r23, c11_r25, c11_r27, c11_r28, hT6]
    refine W_drawsX ?_
    simp [c11_r26, light, hT6, s64, s65, s66, g6, g6t, htj, htj.symm, w8, w16, w32, ha3, hq3, hp3]
    refine bytes_ref hl3 ?_
    intro H8 v8 e8 w8'
    have n8 := e8.1
    simp only at n8
    have e68 : H6.ext [H3.next] H8 := (ext_more1 (ext_put1 (Heap.ext_refl _ _) _) _ (by simp)).trans e8.of_nil
    have k8 := e8.2 H3.next (by simp; omega) (by simp)
    simp at k8
    have j8 : H8.get H4.next = _ := (e68.2 _ (by omega) (by simp; omega)).trans g6
    have hb7 : ∀ H7 : Heap, H8.next ≤ H7.next → (∀ i, H6.next ≤ i → i < H8.next → H7.get i = H8.get i) → ∀ H', H7.ext [H.next] H' → Byt O H' v8 (hexR x3) := fun H7 h1 h2 H' he =>
      Grown.byt (w8'.past (by exact Nat.le_trans h1 he.1) fun i b1 b2 => by
        have b3 : H6.next ≤ i := Nat.le_trans (by simp) b1
        rw [he.2 i (Nat.lt_of_lt_of_le b2 h1) (by simp; omega)]
        exact h2 i b3 b2)
    have hs3 := hr3 H8 e68
    have hu3 : ∀ o, rd O (H8.set H3.next o) a3 .one = some (.str x3) := fun o => hr3 _ (ext_put1 e68 o)
    have hv3 : ∀ o o2, rd O ((H8.set H3.next o).set H3.next o2) a3 .one = some (.str x3) := fun o o2 => hr3 _ (ext_put1 (ext_put1 e68 o) o2)
    rcases w8'.2 with ⟨rfl, -⟩ | ⟨j, u, rfl, -⟩
    · simp [hT6, light, s65, k8, j8, htj, htj.symm, hs3, hu3, hv3]
      refine tail _ _ .nils (by simp [hT6]) (by simp [s60]) (by simp [s62]) (by simp [s65]) ?_ ?_ fun H' he => ?_
      · repeat (first | exact e68 | refine ext_put1 ?_ _ | refine ext_more1 ?_ _ (by simp only [Heap.next_set]; omega))
      · rw [dk]; simp [deedK, Deed.cells, hx3]
      · rw [dk]
        have := hb7 _ (by simp) (fun i h1 h2 => by repeat rw [Heap.get_set, if_neg (by omega)]) H' he
        simpa [deedK, hx3] using this
    · simp [hT6, light, s65, k8, j8, htj, htj.symm, hs3, hu3, hv3]
      refine tail _ _ (.slab j u 0 (hexR x3).length (hexR x3).length 1) (by simp [hT6]) (by simp [s60]) (by simp [s62]) (by simp [s65]) ?_ ?_ fun H' he => ?_
      · repeat (first | exact e68 | refine ext_put1 ?_ _ | refine ext_more1 ?_ _ (by simp only [Heap.next_set]; omega))
      · rw [dk]; simp [deedK, Deed.cells, hx3]
      · rw [dk]
        have := hb7 _ (by simp) (fun i h1 h2 => by repeat rw [Heap.get_set, if_neg (by omega)]) H' he
        simpa [deedK, hx3] using this
  by_cases hk2 : kk = 2
  · subst hk2
    obtain ⟨x4, hx4⟩ : ∃ x, ws[4]? = some x := ⟨_, List.getElem?_eq_getElem (by omega)⟩
    obtain ⟨a4, ha4, hr4⟩ := sw6 4 x4 hx4
    replace ha4 : aIndexSl 1 (slot T2 4) (.int .i64 4) = some a4 := ha4
    have hq4 : ∀ o, rd O (H6.set H3.next o) a4 .one = some (.str x4) := fun o => hr4 _ (ext_put1 (Heap.ext_refl _ _) o)
    have hp4 : ∀ o n, H6.next ≤ n → rd O ⟨n, (H6.set H3.next o).m⟩ a4 .one = some (.str x4) := fun o n hn => hr4 _ (ext_more1 (ext_put1 (Heap.ext_refl _ _) o) n (by simpa using hn))
    have hd4 : ws.getD 4 [] = x4 := by simp [hx4]
    have hl4 : x4.length ≤ 16777216 := lw x4 (List.mem_of_getElem? hx4)
    obtain ⟨x5, hx5⟩ : ∃ x, ws[5]? = some x := ⟨_, List.getElem?_eq_getElem (by omega)⟩
    obtain ⟨a5, ha5, hr5⟩ := sw6 5 x5 hx5
    replace ha5 : aIndexSl 1 (slot T2 4) (.int .i64 5) = some a5 := ha5
    have hq5 : ∀ o, rd O (H6.set H3.next o) a5 .one = some (.str x5) := fun o => hr5 _ (ext_put1 (Heap.ext_refl _ _) o)
    have hp5 : ∀ o n, H6.next ≤ n → rd O ⟨n, (H6.set H3.next o).m⟩ a5 .one = some (.str x5) := fun o n hn => hr5 _ (ext_more1 (ext_put1 (Heap.ext_refl _ _) o) n (by simpa using hn))
    have hd5 : ws.getD 5 [] = x5 := by simp [hx5]
    have hl5 : x5.length ≤ 16777216 := lw x5 (List.mem_of_getElem? hx5)
    simp [c11_r12, c11_r14, c11_r16, c11_r18, c11_r19, c11_r20, c11_r21, c11_r23, c11_r25, c11_r27, c11_r28, hT6]
    refine W_drawsX ?_
    simp [c11_r13, light, hT6, s64, s65, s66, g6, g6t, htj, htj.symm, w8, w16, w32, ha4, hq4, hp4, ha5, hq5, hp5]
    refine bytes_ref hl5 ?_
    intro H8 v8 e8 w8'
    have n8 := e8.1
    simp only at n8
    have e68 : H6.ext [H3.next] H8 := (ext_more1 (ext_put1 (Heap.ext_refl _ _) _) _ (by simp)).trans e8.of_nil
    have k8 := e8.2 H3.next (by simp; omega) (by simp)
    simp at k8
    have j8 : H8.get H4.next = _ := (e68.2 _ (by omega) (by simp; omega)).trans g6
    have hb7 : ∀ H7 : Heap, H8.next ≤ H7.next → (∀ i, H6.next ≤ i → i < H8.next → H7.get i = H8.get i) → ∀ H', H7.ext [H.next] H' → Byt O H' v8 (hexR x5) := fun H7 h1 h2 H' he =>
      Grown.byt (w8'.past (by exact Nat.le_trans h1 he.1) fun i b1 b2 => by
        have b3 : H6.next ≤ i := Nat.le_trans (by simp) b1
        rw [he.2 i (Nat.lt_of_lt_of_le b2 h1) (by simp; omega)]
        exact h2 i b3 b2)
    have hs4 := hr4 H8 e68
    have hu4 : ∀ o, rd O (H8.set H3.next o) a4 .one = some (.str x4) := fun o => hr4 _ (ext_put1 e68 o)
    have hv4 : ∀ o o2, rd O ((H8.set H3.next o).set H3.next o2) a4 .one = some (.str x4) := fun o o2 => hr4 _ (ext_put1 (ext_put1 e68 o) o2)
    have hs5 := hr5 H8 e68
    have hu5 : ∀ o, rd O (H8.set H3.next o) a5 .one = some (.str x5) := fun o => hr5 _ (ext_put1 e68 o)
    have hv5 : ∀ o o2, rd O ((H8.set H3.next o).set H3.next o2) a5 .one = some (.str x5) := fun o o2 => hr5 _ (ext_put1 (ext_put1 e68 o) o2)
    rcases w8'.2 with ⟨rfl, -⟩ | ⟨j, u, rfl, -⟩
    · simp [hT6, light, s65, k8, j8, htj, htj.symm, hs4, hu4, hv4, hs5, hu5, hv5]
      refine tail _ _ .nils (by simp [hT6]) (by simp [s60]) (by simp [s62]) (by simp [s65]) ?_ ?_ fun H' he => ?_
      · repeat (first | exact e68 | refine ext_put1 ?_ _ | refine ext_more1 ?_ _ (by simp only [Heap.next_set]; omega))
      · rw [dk]; simp [deedK, Deed.cells, hx4, hx5]
      · rw [dk]
        have := hb7 _ (by simp) (fun i h1 h2 => by repeat rw [Heap.get_set, if_neg (by omega)]) H' he
        simpa [deedK, hx5] using this
    · simp [hT6, light, s65, k8, j8, htj, htj.symm, hs4, hu4, hv4, hs5, hu5, hv5]
      refine tail _ _ (.slab j u 0 (hexR x5).length (hexR x5).length 1) (by simp [hT6]) (by simp [s60]) (by simp [s62]) (by simp [s65]) ?_ ?_ fun H' he => ?_
      · repeat (first | exact e68 | refine ext_put1 ?_ _ | refine ext_more1 ?_ _ (by simp only [Heap.next_set]; omega))
      · rw [dk]; simp [deedK, Deed.cells, hx4, hx5]
      · rw [dk]
        have := hb7 _ (by simp) (fun i h1 h2 => by repeat rw [Heap.get_set, if_neg (by omega)]) H' he
        simpa [deedK, hx5] using this
  have q2 : (kk == 2) = false := by simpa using hk2
  have q5 : (kk == 5) = false := by simpa using hk5
  have q7 : (kk == 7) = false := by simpa using hk7
  have q8 : (kk == 8) = false := by simpa using hk8
  have q9 : (kk == 9) = false := by simpa using hk9
  have q10 : (kk == 10) = false := by simpa using hk10
  have q11 : (kk == 11) = false := by simpa using hk11
  have q12 : (kk == 12) = false := by simpa using hk12
  have q13 : (kk == 13) = false := by simpa using hk13
  have q14 : (kk == 14) = false := by simpa using hk14
  simp [q2, q5, q7, q8, q9, q10, q11, q12, q13, q14, c11_r12, c11_r14, c11_r16, c11_r18, c11_r19, c11_r20, c11_r21, c11_r23, c11_r25, c11_r27, c11_r28, hT6]
  refine tail _ _ .nils (by simp [hT6]) (by simp [s60]) (by simp [s62]) (by simp [s65]) (ext_put1 (Heap.ext_refl _ _) _) ?_ fun H' he => ?_
  · rw [dk]; simp [deedK, Deed.cells, hk2, hk5, hk7, hk8, hk9, hk10, hk11, hk12, hk13, hk14]
  · rw [dk]; simp only [deedK, hk2, hk5, hk7, hk8, hk9, hk10, hk11, hk12, hk13, hk14, if_false, or_self]; exact ⟨fun s h => (by cases h), fun H' _ => rfl⟩
end Go.S

namespace Go.S
open Go Go.Ab Go.RowKit Go.Proofs
variable {O : Old}

/-- The settings that words may be, loosely. -/
def confOf (ws : List B) : Conf := { key := fillK (List.replicate 16 0) 0 (hexR (ws.getD 4 [])), seed := valueR (ws.getD 2 []) 20 0, life := wordV ws 0, window := wordV ws 1 % 4294967296, out := wordV ws 2 % 65536, inn := wordV ws 3 % 65536, tries := wordV ws 4, lasts := wordV ws 5, port := wordV ws 6 % 65536, peer := wordV ws 7 % 65536, paths := wordV ws 8, mtu := wordV ws 9, buffer := wordV ws 10, init := wordV ws 11, mn := wordV ws 12, mx := wordV ws 13, errors := wordV ws 14, fail := wordV ws 15, pause := wordV ws 16, most := wordV ws 17, delay := wordV ws 18, sched := wordV ws 19, cap := wordV ws 20, split := decide (wordV ws 21 = 1), nr := decide (wordV ws 22 = 1), couple := decide (wordV ws 23 = 1) }
theorem valueR_lt : ∀ (s : List UInt8) (m n : Nat), n < 18446744073709551616 → valueR s m n < 18446744073709551616
  | [], _, n, h => by simp [valueR, h]
  | _ :: _, 0, n, h => by simp [valueR, h]
  | b :: r, m + 1, n, h => by rw [valueR]; exact valueR_lt r m _ (Nat.mod_lt _ (by omega))
theorem confOf_ok (ws : List B) : (confOf ws).Ok where
  key := by simp [confOf, fillK_length]
  seed := valueR_lt _ _ _ (by omega)
  window := by simp only [confOf]; omega
  out := by simp only [confOf]; omega
  inn := by simp only [confOf]; omega
  port := by simp only [confOf]; omega
  peer := by simp only [confOf]; omega

/-- The settings of a line, by definition. -/
def readS (s : B) : Option Conf := if (splitW 32 s).length = 53 ∧ setE (confOf (splitW 32 s)) = 0 ∧ setS (confOf (splitW 32 s)) = s then some (confOf (splitW 32 s)) else none
def readSC (s : B) : Conf := (readS s).getD Conf.zero
def readSE (s : B) : Int := if (readS s).isSome then 0 else 250

theorem hexR_le : ∀ s : List UInt8, (hexR s).length ≤ s.length
  | [] => by simp [hexR]
  | [_] => by simp [hexR]
  | a :: b :: r => by have := hexR_le r; simp [hexR]; omega

theorem over_tl {kk : List UInt8} (hk : kk.length = 16) (tl new : List AV) (off : Nat) (ho : 16 ≤ off) : over (u8s kk ++ tl) off new = (over tl (off - 16) new).map (u8s kk ++ ·) := by
  have hl : (u8s kk).length = 16 := by simp [hk]
  unfold over
  by_cases h : off + new.length ≤ 16 + tl.length
  · rw [if_pos (by simp [hk]; omega), if_pos (by omega)]
    simp only [Option.map_some]
    rw [List.take_append, List.drop_append, List.take_of_length_le (by omega), List.drop_eq_nil_of_le (by omega)]
    simp only [hl, List.nil_append, List.append_assoc]
    rw [show off + new.length - 16 = off - 16 + new.length by omega]
  · rw [if_neg (by simp [hk]; omega), if_neg (by omega)]
    rfl
theorem over_def (a : AV) (l xs : List AV) (off : Nat) : over (a :: l) off xs = if off + xs.length ≤ (a :: l).length then some ((a :: l).take off ++ xs ++ (a :: l).drop (off + xs.length)) else none := rfl

theorem ext_set1 {H X : Heap} {t : Nat} (h : H.ext [t] X) (o : AObj) : H.ext [t] (X.set t o) := h.set _ _ (.inl (by simp))
theorem ext_grow1 {H X : Heap} {t : Nat} (h : H.ext [t] X) (n : Nat) (hn : X.next ≤ n) : H.ext [t] ⟨n, X.m⟩ := ⟨Nat.le_trans h.1 hn, h.2⟩
theorem W_abs {E : Env} {k : List K} {ex : Ex} {T : List AV} {D : List ADef} {R : RS} {Q : Ex → St → Prop} {X H : Heap} {t : Nat} {o : AObj} (h : X.get t = some o) (hx : H.ext [t] X) (q : ∀ H7, H7.get t = some o → H.ext [t] H7 → W E k ex ⟨T, D, R, H7⟩ Q) : W E k ex ⟨T, D, R, X⟩ Q := q X h hx

set_option maxRecDepth 100000 in
set_option maxHeartbeats 16000000 in
theorem readSetting_ref {H : Heap} {s : B} (hs : s.length ≤ 16777216) {Q : AEnd → RS → Heap → Prop} (q : ∀ H', H.ext [] H' → Q (.ret (.tuple [.agg (readSC s).cells, .int .i64 (readSE s)])) .no H') :
    CallOk (E O) 17 [.str s] .no H Q := by
  refine CallOk.go c17 rfl rfl ?_
  have hz : [AV.int .u8 0, AV.int .u8 0, AV.int .u8 0, AV.int .u8 0, AV.int .u8 0, AV.int .u8 0, AV.int .u8 0, AV.int .u8 0, AV.int .u8 0, AV.int .u8 0, AV.int .u8 0, AV.int .u8 0, AV.int .u8 0, AV.int .u8 0, AV.int .u8 0, AV.int .u8 0, AV.int .u64 0, AV.int .i64 0, AV.int .u32 0, AV.int .u16 0, AV.int .u16 0, AV.int .i64 0, AV.int .i64 0, AV.int .u16 0, AV.int .u16 0, AV.int .i64 0, AV.int .i64 0, AV.int .i64 0, AV.int .i64 0, AV.int .i64 0, AV.int .i64 0, AV.int .i64 0, AV.int .i64 0, AV.int .i64 0, AV.int .i64 0, AV.int .i64 0, AV.int .i64 0, AV.int .i64 0, AV.bool false, AV.bool false, AV.bool false] = Conf.zero.cells := rfl
  have hzl : Conf.zero.cells.length = 41 := rfl
  have hzt : List.take 41 Conf.zero.cells = Conf.zero.cells := rfl
  have hza : Conf.zero.cells.all AV.isCell = true := by decide
  have hzo : ∀ cs : List AV, cs.length = 41 → over cs 0 Conf.zero.cells = some Conf.zero.cells := by
    intro cs h; unfold over; simp [hzl, h, List.drop_eq_nil_of_le]
  simp only [c17, c17_r0, hz]
  simp [c17_r1]
  have e0 : H.ext [] (H.new (.cells 0 Conf.zero.cells true)) := (Heap.ext_refl _ _).new _
  have g0 : (H.new (.cells 0 Conf.zero.cells true)).get H.next = some (.cells 0 Conf.zero.cells true) := by simp
  have n0 : (H.new (.cells 0 Conf.zero.cells true)).next = H.next + 1 := by simp
  generalize H.new (.cells 0 Conf.zero.cells true) = H0 at *
  refine words_ref hs ?_
  intro H1 v e1 w1
  have g01 := e1.2 H.next (by omega) (by simp)
  rw [g0] at g01
  have n1 := e1.1
  simp [c17_r2, w1.len]
  by_cases h53 : (splitW 32 s).length = 53
  rotate_left
  · have hb : (((splitW 32 s).length : Int) == 53) = false := by simp; omega
    simp only [c17_r3, hz]
    have hr : readS s = none := by rw [readS, if_neg (fun h => h53 h.1)]
    have hq := q (H1.set H.next (.cells 0 Conf.zero.cells true)) ((e0.trans e1).set _ _ (.inr (Nat.le_refl _)))
    rw [readSC, readSE, hr] at hq
    simp [hb, g01, hzl, hzo, hza, hzt, wr]
    exact hq
  have hb : (((splitW 32 s).length : Int) == 53) = true := by simp; omega
  simp only [c17_r4, hz]
  simp [hb, hzl, hzo, hza, wr]
  clear hz
  have lw : ∀ w ∈ splitW 32 s, w.length ≤ 16777216 := fun w hw => Nat.le_trans (splitW_len 32 s w hw) hs
  have e2 : H1.ext [] ((H1.new (.cells 0 Conf.zero.cells true)).set H1.next (.cells 0 Conf.zero.cells true)) := ((Heap.ext_refl _ _).new _).set _ _ (.inr (Nat.le_refl _))
  have g2 : ((H1.new (.cells 0 Conf.zero.cells true)).set H1.next (.cells 0 Conf.zero.cells true)).get H1.next = some (.cells 0 (u8s (List.replicate 16 0) ++ Conf.zero.tl) true) := by simp; rfl
  have n2 : ((H1.new (.cells 0 Conf.zero.cells true)).set H1.next (.cells 0 Conf.zero.cells true)).next = H1.next + 1 := by simp
  generalize (H1.new (.cells 0 Conf.zero.cells true)).set H1.next (.cells 0 Conf.zero.cells true) = H2 at *
  have sw : ∀ H' j, H1.ext [] H' → H1.next ≤ j → StrSl O H' j v (splitW 32 s) := fun H' j h hj => StrSl.of w1 hj h
  obtain ⟨x2, hx2⟩ : ∃ x, (splitW 32 s)[2]? = some x := ⟨_, List.getElem?_eq_getElem (by omega)⟩
  obtain ⟨x4, hx4⟩ : ∃ x, (splitW 32 s)[4]? = some x := ⟨_, List.getElem?_eq_getElem (by omega)⟩
  obtain ⟨a2, ha2, hr2⟩ := sw H2 H1.next e2 (Nat.le_refl _) 2 x2 hx2
  have hr2' := hr2 H2 (Heap.ext_refl _ _)
  obtain ⟨a4, ha4, hr4⟩ := sw H2 H1.next e2 (Nat.le_refl _) 4 x4 hx4
  replace ha2 : aIndexSl 1 v (.int .i64 2) = some a2 := ha2
  replace ha4 : aIndexSl 1 v (.int .i64 4) = some a4 := ha4
  have kl0 : (List.replicate 16 (0 : UInt8)).length = 16 := rfl
  generalize hk0 : List.replicate 16 (0 : UInt8) = k0 at *
  simp [c17_r5, ha2, hr2']
  refine value_ref (lw x2 (List.mem_of_getElem? hx2)) ?_
  simp [g2, kl0, Conf.zero, Conf.tl, List.set_append]
  have e3 : H2.ext [H1.next] (H2.set H1.next (.cells 0 (u8s k0 ++ [AV.int .u64 (valueR x2 20 0), AV.int .i64 0, AV.int .u32 0, AV.int .u16 0, AV.int .u16 0, AV.int .i64 0, AV.int .i64 0, AV.int .u16 0, AV.int .u16 0, AV.int .i64 0, AV.int .i64 0, AV.int .i64 0, AV.int .i64 0, AV.int .i64 0, AV.int .i64 0, AV.int .i64 0, AV.int .i64 0, AV.int .i64 0, AV.int .i64 0, AV.int .i64 0, AV.int .i64 0, AV.int .i64 0, AV.bool false, AV.bool false, AV.bool false]) true)) := (Heap.ext_refl _ _).set _ _ (.inl (by simp))
  have g3 : (H2.set H1.next (.cells 0 (u8s k0 ++ [AV.int .u64 (valueR x2 20 0), AV.int .i64 0, AV.int .u32 0, AV.int .u16 0, AV.int .u16 0, AV.int .i64 0, AV.int .i64 0, AV.int .u16 0, AV.int .u16 0, AV.int .i64 0, AV.int .i64 0, AV.int .i64 0, AV.int .i64 0, AV.int .i64 0, AV.int .i64 0, AV.int .i64 0, AV.int .i64 0, AV.int .i64 0, AV.int .i64 0, AV.int .i64 0, AV.int .i64 0, AV.int .i64 0, AV.bool false, AV.bool false, AV.bool false]) true)).get H1.next = some (.cells 0 (u8s k0 ++ [AV.int .u64 (valueR x2 20 0), AV.int .i64 0, AV.int .u32 0, AV.int .u16 0, AV.int .u16 0, AV.int .i64 0, AV.int .i64 0, AV.int .u16 0, AV.int .u16 0, AV.int .i64 0, AV.int .i64 0, AV.int .i64 0, AV.int .i64 0, AV.int .i64 0, AV.int .i64 0, AV.int .i64 0, AV.int .i64 0, AV.int .i64 0, AV.int .i64 0, AV.int .i64 0, AV.int .i64 0, AV.int .i64 0, AV.bool false, AV.bool false, AV.bool false]) true) := by simp
  generalize H2.set H1.next (.cells 0 (u8s k0 ++ [AV.int .u64 (valueR x2 20 0), AV.int .i64 0, AV.int .u32 0, AV.int .u16 0, AV.int .u16 0, AV.int .i64 0, AV.int .i64 0, AV.int .u16 0, AV.int .u16 0, AV.int .i64 0, AV.int .i64 0, AV.int .i64 0, AV.int .i64 0, AV.int .i64 0, AV.int .i64 0, AV.int .i64 0, AV.int .i64 0, AV.int .i64 0, AV.int .i64 0, AV.int .i64 0, AV.int .i64 0, AV.int .i64 0, AV.bool false, AV.bool false, AV.bool false]) true) = H3 at *
  have hr4' := hr4 H3 e3
  simp [c17_r6, ha4, hr4']
  refine bytes_ref (lw x4 (List.mem_of_getElem? hx4)) ?_
  intro H4 v4 e4 w4
  simp [c17_r7]
  have n3 := e3.1
  have n4 := e4.1
  have g4 := e4.2 H1.next (by omega) (by simp)
  rw [g3] at g4
  refine loop17_0 (t := H1.next) (base := H3.next) (all := hexR x4) (v := v4) (tl := [AV.int .u64 (valueR x2 20 0), AV.int .i64 0, AV.int .u32 0, AV.int .u16 0, AV.int .u16 0, AV.int .i64 0, AV.int .i64 0, AV.int .u16 0, AV.int .u16 0, AV.int .i64 0, AV.int .i64 0, AV.int .i64 0, AV.int .i64 0, AV.int .i64 0, AV.int .i64 0, AV.int .i64 0, AV.int .i64 0, AV.int .i64 0, AV.int .i64 0, AV.int .i64 0, AV.int .i64 0, AV.int .i64 0, AV.bool false, AV.bool false, AV.bool false]) (by omega) (Nat.le_trans (hexR_le x4) (lw x4 (List.mem_of_getElem? hx4))) (hexR x4) [] k0 _ H4 rfl kl0 (by simp) (by omega) w4 g4 (by simp) (by simp) (by simp) (by simp) ?_
  intro T5 H5 hT5 e5 g5 s50 s52 s54 s55
  simp only [List.length_nil] at g5
  have kl1 : (fillK k0 0 (hexR x4)).length = 16 := by rw [fillK_length]; exact kl0
  simp at s50 s52 s54 s55
  have hp : MkOk 8 24 24 := MkOk.of (by omega) (by omega) (by omega) (by omega)
  have n5 := e5.1
  simp [c17_r11, hT5, hp, c17_r12]
  have e15 : H1.ext [] H5 := ((e2.trans_new e3 (by simp)).trans e4).trans_new e5 (by simp)
  have g5j : (H5.new (.cells 0 (List.replicate 24 (.int .i64 0)) true)).get H5.next = some (.cells 0 (List.replicate 24 (.int .i64 0)) true) := by simp
  have g5t : (H5.new (.cells 0 (List.replicate 24 (.int .i64 0)) true)).get H1.next = H5.get H1.next := by rw [Heap.get_new_ne _ _ (by omega)]
  rw [g5] at g5t
  have e56 : H5.ext [] (H5.new (.cells 0 (List.replicate 24 (.int .i64 0)) true)) := (Heap.ext_refl _ _).new _
  have n56 : (H5.new (.cells 0 (List.replicate 24 (.int .i64 0)) true)).next = H5.next + 1 := by simp
  have sw6 := sw _ H5.next (e15.trans e56) e15.1
  refine loop17_1 (j := H5.next) (v := v) (ws := splitW 32 s) (H0 := H5.new (.cells 0 (List.replicate 24 (.int .i64 0)) true)) sw6 (by omega) h53 lw 24 0 _ _ (List.replicate 24 (.int .i64 0)) rfl (by simp) (Heap.ext_refl _ _) (by simpa using g5j) (by simp [hT5]) (by simp [s54]) (by simp [hT5]) (by simp [hT5]) ?_
  intro T6 H6 hT6 e6 g6 s60 s62 s65 s68
  simp [s50] at s60
  simp [s52] at s62
  simp [s55] at s65
  simp [hT5] at s68
  have g6t := e6.2 H1.next (by omega) (by simp; omega)
  rw [g5t] at g6t
  have n6 := e6.1
  have htj : H1.next ≠ H5.next := by omega
  have w32 : ∀ n : Nat, IntKind.u32.wrap (n : Int) = ((n % 4294967296 : Nat) : Int) := by intro n; simp [IntKind.wrap, IntKind.signed, IntKind.bits]
  have w16 : ∀ n : Nat, IntKind.u16.wrap (n : Int) = ((n % 65536 : Nat) : Int) := by intro n; simp [IntKind.wrap, IntKind.signed, IntKind.bits]
  clear g5 g5t g5j g4 g3 hr4' hr4 hr2 hr2' w4 g2 sw6 sw w1
  generalize hkk : fillK k0 0 (hexR x4) = kk at *
  simp
  refine W_drawsR ?_
  simp [c17_r16, light, hT6, s65, s68, g6, g6t, htj, htj.symm, kl1, List.set_append, w32, w16]
  refine W_drawsR ?_
  simp [c17_r17, light, hT6, s65, s68, s60, s62, g6, g6t, htj, htj.symm, kl1, List.set_append, w32, w16]
  refine W_drawsR ?_
  simp [c17_r18, light, hT6, s65, s68, s60, s62, g6, g6t, htj, htj.symm, kl1, List.set_append, w32, w16]
  refine W_drawsR ?_
  simp [c17_r19, light, hT6, s65, s68, s60, s62, g6, g6t, htj, htj.symm, kl1, List.set_append, w32, w16, over_tl kl1, over_def, wr]
  refine W_drawsR ?_
  simp [c17_r20, light, hT6, s65, s68, s60, s62, g6, g6t, htj, htj.symm, kl1, List.set_append, w32, w16, over_tl kl1, over_def, wr]
  refine W_drawsR ?_
  simp [c17_r21, light, hT6, s65, s68, s60, s62, g6, g6t, htj, htj.symm, kl1, List.set_append, w32, w16]
  refine W_drawsR ?_
  simp [c17_r22, light, hT6, s65, s68, s60, s62, g6, g6t, htj, htj.symm, kl1, List.set_append, w32, w16]
  have hfin : (confOf (splitW 32 s)).cells = u8s kk ++ [AV.int .u64 (valueR x2 20 0), .int .i64 (wordV (splitW 32 s) 0), .int .u32 ((wordV (splitW 32 s) 1 : Int) % 4294967296), .int .u16 ((wordV (splitW 32 s) 2 : Int) % 65536), .int .u16 ((wordV (splitW 32 s) 3 : Int) % 65536), .int .i64 (wordV (splitW 32 s) 4), .int .i64 (wordV (splitW 32 s) 5), .int .u16 ((wordV (splitW 32 s) 6 : Int) % 65536), .int .u16 ((wordV (splitW 32 s) 7 : Int) % 65536), .int .i64 (wordV (splitW 32 s) 8), .int .i64 (wordV (splitW 32 s) 9), .int .i64 (wordV (splitW 32 s) 10), .int .i64 (wordV (splitW 32 s) 11), .int .i64 (wordV (splitW 32 s) 12), .int .i64 (wordV (splitW 32 s) 13), .int .i64 (wordV (splitW 32 s) 14), .int .i64 (wordV (splitW 32 s) 15), .int .i64 (wordV (splitW 32 s) 16), .int .i64 (wordV (splitW 32 s) 17), .int .i64 (wordV (splitW 32 s) 18), .int .i64 (wordV (splitW 32 s) 19), .int .i64 (wordV (splitW 32 s) 20), .bool ((wordV (splitW 32 s) 21 : Int) == 1), .bool ((wordV (splitW 32 s) 22 : Int) == 1), .bool ((wordV (splitW 32 s) 23 : Int) == 1)] := by
    have hbq : ∀ n : Nat, ((n : Int) == 1) = decide (n = 1) := by intro n; by_cases h : n = 1 <;> simp [h]; omega
    simp [confOf, Conf.cells, Conf.tl, hx2, hx4, hk0, hkk, hbq]
  refine W_abs (H := H6) (t := H1.next) (o := .cells 0 (confOf (splitW 32 s)).cells true) ?_ ?_ ?_
  · rw [hfin, Heap.get_set, if_pos rfl]
  · repeat (first | exact (Heap.ext_refl _ _).grow 27 | refine ext_set1 ?_ _ | refine ext_grow1 ?_ _ (by simp only [Heap.next_set]; omega))
  intro H7 g7 e7
  have cok := confOf_ok (splitW 32 s)
  have cl : (confOf (splitW 32 s)).cells.length = 41 := by simp [Conf.cells, Conf.tl, cok.key]
  have ct : List.take 41 (confOf (splitW 32 s)).cells = (confOf (splitW 32 s)).cells := by rw [← cl, List.take_length]
  have ca : (confOf (splitW 32 s)).cells.all AV.isCell = true := by simp [Conf.cells, Conf.tl, u8s, u8, AV.isCell]
  have co : over Conf.zero.cells 0 (confOf (splitW 32 s)).cells = some (confOf (splitW 32 s)).cells := by
    unfold over; simp [hzl, cl, List.drop_eq_nil_of_le]
  generalize hcf : confOf (splitW 32 s) = cf at *
  simp [c17_r23, hT6, s65, g7, cl, ct]
  refine setting_ref cok ?_
  intro H8 e8
  have n15 := e15.1
  have n7 := e7.1
  have g80 : H8.get H.next = some (.cells 0 Conf.zero.cells true) := by
    rw [e8.2 _ (by omega) (by simp), e7.2 _ (by omega) (by simp; omega), e6.2 _ (by omega) (by simp; omega), e56.2 _ (by omega) (by simp), e15.2 _ (by omega) (by simp)]; exact g01
  have g81 : H8.get H1.next = some (.cells 0 cf.cells true) := by rw [e8.2 _ (by omega) (by simp)]; exact g7
  have eF : H.ext [] H8 := ((((((e0.trans e1).trans e15).trans e56).trans_new e6 (by simp; omega)).trans_new e7 (by simp; omega)).trans e8)
  have htz : H.next ≠ H1.next := by omega
  by_cases he : setE cf = 0
  · by_cases hss : setS cf = s
    · have hb2 : (setS cf == s) = true := by simp [hss]
      have hr : readS s = some cf := by rw [readS, hcf, if_pos ⟨h53, he, hss⟩]
      have hq := q (H8.set H.next (.cells 0 cf.cells true)) (eF.set _ _ (.inr (Nat.le_refl _)))
      rw [readSC, readSE, hr] at hq
      simp [c17_r24, hT6, s60, s62, s65, he, hss]
      simp [c17_r26, hT6, s60, s62, s65, g80, g81, cl, ct, co, ca, wr]
      exact hq
    · have hb2 : (setS cf == s) = false := by simp [hss]
      have hr : readS s = none := by rw [readS, hcf, if_neg (fun h => hss h.2.2)]
      have hq := q (H8.set H.next (.cells 0 Conf.zero.cells true)) (eF.set _ _ (.inr (Nat.le_refl _)))
      rw [readSC, readSE, hr] at hq
      have hz : [AV.int .u8 0, AV.int .u8 0, AV.int .u8 0, AV.int .u8 0, AV.int .u8 0, AV.int .u8 0, AV.int .u8 0, AV.int .u8 0, AV.int .u8 0, AV.int .u8 0, AV.int .u8 0, AV.int .u8 0, AV.int .u8 0, AV.int .u8 0, AV.int .u8 0, AV.int .u8 0, AV.int .u64 0, AV.int .i64 0, AV.int .u32 0, AV.int .u16 0, AV.int .u16 0, AV.int .i64 0, AV.int .i64 0, AV.int .u16 0, AV.int .u16 0, AV.int .i64 0, AV.int .i64 0, AV.int .i64 0, AV.int .i64 0, AV.int .i64 0, AV.int .i64 0, AV.int .i64 0, AV.int .i64 0, AV.int .i64 0, AV.int .i64 0, AV.int .i64 0, AV.int .i64 0, AV.int .i64 0, AV.bool false, AV.bool false, AV.bool false] = Conf.zero.cells := rfl
      simp [c17_r24, hT6, s60, s62, s65, he, hb2]
      simp only [c17_r25, hz]
      simp [hT6, s60, s62, s65, g80, hzl, hzt, hza, hzo, wr]
      exact hq
  · have hb3 : (setE cf == 0) = false := by simp [he]
    have hr : readS s = none := by rw [readS, hcf, if_neg (fun h => he h.2.1)]
    have hq := q (H8.set H.next (.cells 0 Conf.zero.cells true)) (eF.set _ _ (.inr (Nat.le_refl _)))
    rw [readSC, readSE, hr] at hq
    have hz : [AV.int .u8 0, AV.int .u8 0, AV.int .u8 0, AV.int .u8 0, AV.int .u8 0, AV.int .u8 0, AV.int .u8 0, AV.int .u8 0, AV.int .u8 0, AV.int .u8 0, AV.int .u8 0, AV.int .u8 0, AV.int .u8 0, AV.int .u8 0, AV.int .u8 0, AV.int .u8 0, AV.int .u64 0, AV.int .i64 0, AV.int .u32 0, AV.int .u16 0, AV.int .u16 0, AV.int .i64 0, AV.int .i64 0, AV.int .u16 0, AV.int .u16 0, AV.int .i64 0, AV.int .i64 0, AV.int .i64 0, AV.int .i64 0, AV.int .i64 0, AV.int .i64 0, AV.int .i64 0, AV.int .i64 0, AV.int .i64 0, AV.int .i64 0, AV.int .i64 0, AV.int .i64 0, AV.int .i64 0, AV.bool false, AV.bool false, AV.bool false] = Conf.zero.cells := rfl
    simp [c17_r24, hT6, s60, s62, s65, hb3]
    simp only [c17_r25, hz]
    simp [hT6, s60, s62, s65, g80, hzl, hzt, hza, hzo, wr]
    exact hq
end Go.S

namespace Go.S
open Go Go.Ab Go.RowKit Go.Proofs

theorem decDigits_big {n : Nat} (h : ¬ n < 10) : Lib.decDigits n = Lib.decDigits (n / 10) ++ [UInt8.ofNat (48 + n % 10)] := by
  rw [Lib.decDigits, dif_neg h]
theorem dig_toNat {d : Nat} (h : d < 10) : (UInt8.ofNat (48 + d)).toNat = 48 + d := by simp; omega

theorem parse_dec (M : Nat) (hM : M ≤ 18446744073709551615) : ∀ (k n : Nat) (r : List UInt8), n ≤ k → n ≤ M → Lib.parseUintM M 0 (Lib.decDigits n ++ r) = Lib.parseUintM M n r
  | k, n, r, hk, hn => by
    by_cases h : n < 10
    · rw [Lib.decDigits_one h, List.cons_append, List.nil_append, Lib.parseUintM, dig_toNat h, if_pos (by omega), if_neg (by omega), if_neg (by omega)]
      congr 1; omega
    · cases k with
      | zero => omega
      | succ k =>
        rw [decDigits_big h, List.append_assoc, parse_dec M hM k (n / 10) _ (by omega) (by omega), List.cons_append, List.nil_append, Lib.parseUintM, dig_toNat (by omega), if_pos (by omega), if_neg (by omega), if_neg (by omega)]
        congr 1; omega
theorem decDigits_ne (n : Nat) : Lib.decDigits n ≠ [] := by
  intro h
  have := congrArg List.length h
  rw [Lib.decDigits_length] at this
  unfold Lib.nDigits at this
  split at this <;> simp at this
theorem parse_decDigits {n : Nat} (h : n < 18446744073709551616) : Lib.parseUintB 64 (Lib.decDigits n) = .ok n := by
  rw [Lib.parseUintB, if_neg (decDigits_ne n)]
  have := parse_dec 18446744073709551615 (Nat.le_refl _) n n [] (Nat.le_refl _) (by omega)
  rw [List.append_nil] at this
  rw [show 2 ^ 64 - 1 = 18446744073709551615 from rfl, this]
  rfl

theorem value_dec : ∀ (j n : Nat) (r : List UInt8) (k : Nat), n ≤ j → n < 18446744073709551616 → valueR (Lib.decDigits n ++ r) (Lib.nDigits n + k) 0 = valueR r k n
  | j, n, r, k, hj, hn => by
    have hd : ∀ d, d < 10 → (UInt8.ofNat (48 + d) - 48).toNat = d := by
      intro d h
      have : ∀ x : Fin 10, (UInt8.ofNat (48 + x.val) - 48).toNat = x.val := by decide
      exact this ⟨d, h⟩
    by_cases h : n < 10
    · rw [Lib.decDigits_one h, Lib.nDigits_small h, List.cons_append, List.nil_append, Nat.add_comm 1 k, valueR, hd n h]
      congr 1; omega
    · cases j with
      | zero => omega
      | succ j =>
        rw [decDigits_big h, Lib.nDigits_big h, List.append_assoc, Nat.add_assoc, Nat.add_comm 1 k, value_dec j (n / 10) _ (k + 1) (by omega) (by omega), List.cons_append, List.nil_append, valueR, hd _ (by omega)]
        congr 1; omega
theorem value_decDigits {n : Nat} (h : n < 18446744073709551616) : valueR (Lib.decDigits n) 20 0 = n := by
  have hl := decDigits_len h
  rw [Lib.decDigits_length] at hl
  have := value_dec n n [] (20 - Lib.nDigits n) (Nat.le_refl _) h
  rw [List.append_nil, show Lib.nDigits n + (20 - Lib.nDigits n) = 20 by omega] at this
  rw [this]
  cases 20 - Lib.nDigits n <;> rfl

theorem dec_noblank : ∀ (j n : Nat), n ≤ j → (32 : UInt8) ∉ Lib.decDigits n
  | j, n, hj => by
    have hd : ∀ d, d < 10 → (32 : UInt8) ≠ UInt8.ofNat (48 + d) := by
      intro d h
      have : ∀ x : Fin 10, (32 : UInt8) ≠ UInt8.ofNat (48 + x.val) := by decide
      exact this ⟨d, h⟩
    by_cases h : n < 10
    · rw [Lib.decDigits_one h]; simpa using hd n h
    · cases j with
      | zero => omega
      | succ j =>
        rw [decDigits_big h, List.mem_append]
        rintro (h1 | h1)
        · exact dec_noblank j (n / 10) (by omega) h1
        · exact hd _ (by omega) (List.mem_singleton.1 h1)

theorem worth_hexd {k : Nat} (h : k < 16) : worth (hexd k) = k := by
  have : ∀ x : Fin 16, worth (hexd x.val) = x.val := by decide
  exact this ⟨k, h⟩
theorem hexv_hexd {k : Nat} (h : k < 16) : hexv (hexd k) = some k := by
  have : ∀ x : Fin 16, hexv (hexd x.val) = some x.val := by decide
  exact this ⟨k, h⟩
theorem hexv_some {c : UInt8} {k : Nat} (h : hexv c = some k) : k < 16 ∧ hexd k = c := by
  have : ∀ x : Fin 256, ∀ k, hexv (UInt8.ofNat x.val) = some k → k < 16 ∧ hexd k = UInt8.ofNat x.val := by
    intro x k
    revert k
    have h : ∀ x : Fin 256, (match hexv (UInt8.ofNat x.val) with | some k => decide (k < 16 ∧ hexd k = UInt8.ofNat x.val) | none => true) = true := by decide +kernel
    intro k hk
    have := h x
    rw [hk] at this
    simpa using this
  have := this ⟨c.toNat, c.toNat_lt⟩ k
  simp only [UInt8.ofNat_toNat] at this
  exact this h
theorem byte_join (c : UInt8) : UInt8.ofNat (c.toNat / 16 * 16 + c.toNat % 16) = c := by
  rw [show c.toNat / 16 * 16 + c.toNat % 16 = c.toNat by omega]; simp
theorem hexR_hexL : ∀ l : List UInt8, hexR (hexL l) = l
  | [] => rfl
  | c :: l => by
    have ih := hexR_hexL l
    simp only [hexL, List.flatMap_cons, List.cons_append, List.nil_append, hexR] at ih ⊢
    rw [ih, worth_hexd (by have := c.toNat_lt; omega), worth_hexd (by omega), byte_join]
theorem hexR_hexW (l : List UInt8) : hexR (hexW l) = l := by
  unfold hexW; split
  · rename_i h; subst h; rfl
  · exact hexR_hexL l
theorem unhex_hexL : ∀ l : List UInt8, unhex (hexL l) = some l
  | [] => rfl
  | c :: l => by
    have ih := unhex_hexL l
    simp only [hexL, List.flatMap_cons, List.cons_append, List.nil_append, unhex] at ih ⊢
    rw [hexv_hexd (by have := c.toNat_lt; omega), hexv_hexd (by omega), ih]
    simp only [Option.map_some, byte_join]
theorem unhex_some : ∀ (m : Nat) (w l : List UInt8), w.length ≤ m → w.length % 2 = 0 → unhex w = some l → w = hexL l
  | m, [], l, _, _, h => by simp [unhex] at h; subst h; rfl
  | m, [_], l, _, h2, h => by simp at h2
  | 0, _ :: _ :: _, _, hm, _, _ => by simp at hm
  | m + 1, a :: b :: r, l, hm, h2, h => by
    simp only [unhex] at h
    split at h
    · rename_i x y hx hy
      simp only [Option.map_eq_some_iff] at h
      obtain ⟨l', h3, rfl⟩ := h
      obtain ⟨x1, x2⟩ := hexv_some hx
      obtain ⟨y1, y2⟩ := hexv_some hy
      have ih := unhex_some m r l' (by simp at hm; omega) (by simp at h2; omega) h3
      have ht : (UInt8.ofNat (x * 16 + y)).toNat = x * 16 + y := by simp; omega
      simp only [hexL, List.flatMap_cons, List.cons_append, List.nil_append, ht] at ih ⊢
      rw [← ih, show (x * 16 + y) / 16 = x by omega, show (x * 16 + y) % 16 = y by omega, x2, y2]
    · cases h
end Go.S

namespace Go.S
open Go Go.Ab Go.RowKit Go.Proofs

theorem rdWord_iff {w : B} {ws ws' : List B} : rdWord w ws = some ws' ↔ ws = w :: ws' := by
  cases ws with
  | nil => simp [rdWord]
  | cons x ws => simp only [rdWord, Option.ite_none_right_eq_some, Option.some.injEq, List.cons.injEq]
theorem numOf_iff {most n : Nat} {w : B} (hm : most < 18446744073709551616) : numOf most w = some n ↔ w = Lib.decDigits n ∧ n ≤ most := by
  constructor
  · intro h
    obtain ⟨_, h2, h3⟩ := numOf_some h
    exact ⟨h3.symm, h2⟩
  · rintro ⟨rfl, h⟩
    unfold numOf
    rw [parse_decDigits (by omega)]
    simp [h]
theorem rdNum_iff {most n : Nat} {ws ws' : List B} (hm : most < 18446744073709551616) : rdNum most ws = some (n, ws') ↔ ws = Lib.decDigits n :: ws' ∧ n ≤ most := by
  cases ws with
  | nil => simp [rdNum]
  | cons x ws =>
    simp only [rdNum, Option.map_eq_some_iff, Prod.mk.injEq, List.cons.injEq]
    constructor
    · rintro ⟨a, h, rfl, rfl⟩
      have := (numOf_iff hm).1 h
      exact ⟨⟨this.1, rfl⟩, this.2⟩
    · rintro ⟨⟨h1, rfl⟩, h2⟩
      exact ⟨n, (numOf_iff hm).2 ⟨h1, h2⟩, rfl, rfl⟩
theorem rdInt_iff {m : B} {n : Nat} {ws ws' : List B} : rdInt m ws = some (n, ws') ↔ ws = m :: Lib.decDigits n :: ws' ∧ n ≤ 1099511627776 := by
  simp only [rdInt, Option.bind_eq_some_iff, rdWord_iff]
  constructor
  · rintro ⟨a, rfl, h⟩
    obtain ⟨rfl, h2⟩ := (rdNum_iff (by unfold maxTime; omega)).1 h
    exact ⟨rfl, h2⟩
  · rintro ⟨rfl, h⟩
    exact ⟨_, rfl, (rdNum_iff (by unfold maxTime; omega)).2 ⟨rfl, h⟩⟩
theorem rdChoice_iff {b : Bool} {ws ws' : List B} : rdChoice [48] [49] ws = some (b, ws') ↔ ws = bitW b :: ws' := by
  cases ws with
  | nil => simp [rdChoice]
  | cons x ws =>
    simp only [rdChoice, Option.ite_none_right_eq_some, Option.some.injEq, Prod.mk.injEq, List.cons.injEq]
    constructor
    · rintro ⟨rfl | rfl, rfl, rfl⟩ <;> exact ⟨rfl, rfl⟩
    · rintro ⟨rfl, rfl⟩
      cases b <;> simp [bitW]
theorem rdBytes_iff {l : List UInt8} {ws ws' : List B} : rdBytes ws = some (l, ws') ↔ ws = hexW l :: ws' ∧ l.length ≤ 65536 := by
  cases ws with
  | nil => simp [rdBytes]
  | cons w ws =>
    simp only [rdBytes, List.cons.injEq]
    by_cases h1 : w = [45]
    · subst h1
      simp only [if_true, Option.some.injEq, Prod.mk.injEq]
      constructor
      · rintro ⟨rfl, rfl⟩; exact ⟨⟨rfl, rfl⟩, by simp⟩
      · rintro ⟨⟨h, rfl⟩, _⟩
        refine ⟨?_, rfl⟩
        unfold hexW at h
        split at h
        · rename_i e; exact e.symm
        · have := congrArg List.length h; rw [hexL_length] at this; simp at this; omega
    · rw [if_neg h1]
      constructor
      · intro h
        split at h
        · rename_i hc
          simp only [Option.map_eq_some_iff, Prod.mk.injEq] at h
          obtain ⟨a, h2, rfl, rfl⟩ := h
          have h3 := unhex_some w.length w a (Nat.le_refl _) hc.2.1 h2
          have hne : a ≠ [] := by
            rintro rfl
            exact hc.1 h3
          have hl := hexL_length a
          rw [← h3] at hl
          exact ⟨⟨by rw [hexW, if_neg hne]; exact h3, rfl⟩, by omega⟩
        · cases h
      · rintro ⟨⟨rfl, rfl⟩, h⟩
        have hne : l ≠ [] := by
          rintro rfl
          exact h1 rfl
        have e : hexW l = hexL l := by rw [hexW, if_neg hne]
        have hl := hexL_length l
        have hp : 0 < l.length := List.length_pos_iff.2 hne
        rw [e, if_pos ⟨by intro h0; rw [h0] at hl; simp at hl; omega, by omega, by omega⟩, unhex_hexL]
        rfl

theorem rdWord_self (w : B) (ws : List B) : rdWord w (w :: ws) = some ws := rdWord_iff.2 rfl
theorem rdNum_self {most n : Nat} (ws : List B) (hm : most < 18446744073709551616) (h : n ≤ most) : rdNum most (Lib.decDigits n :: ws) = some (n, ws) := (rdNum_iff hm).2 ⟨rfl, h⟩
theorem rdInt_self (m : B) {x : Int} (ws : List B) (h : okInt x) : rdInt m (m :: Lib.decDigits x.toNat :: ws) = some (x.toNat, ws) := rdInt_iff.2 ⟨rfl, by unfold okInt at h; omega⟩
theorem rdChoice_self (b : Bool) (ws : List B) : rdChoice [48] [49] (bitW b :: ws) = some (b, ws) := rdChoice_iff.2 rfl
theorem rdBytes_self {l : List UInt8} (ws : List B) (h : l.length ≤ 65536) : rdBytes (hexW l :: ws) = some (l, ws) := rdBytes_iff.2 ⟨rfl, h⟩

set_option maxRecDepth 10000 in
theorem settingR_of {c : Conf} (hk : c.Ok) (hf : c.Fits) (ws : List B) : settingR (c.words ++ ws) = some (c, ws) := by
  obtain ⟨f1, f2, f3, f4, f5, f6, f7, f8, f9, f10, f11, f12, f13, f14, f15, f16⟩ := hf
  obtain ⟨k1, k2, k3, k4, k5, k6, k7⟩ := hk
  have n1 := rdNum_self (most := 18446744073709551615) (n := c.seed)
  simp only [Conf.words, List.cons_append, List.nil_append, settingR, rdWord_self, Option.bind_some, rdNum_self _ (show (18446744073709551615 : Nat) < 18446744073709551616 by omega) (show c.seed ≤ 18446744073709551615 by omega),
    rdBytes_self _ (show c.key.length ≤ 65536 by omega), k1, if_true, rdInt_self _ _ f1, rdInt_self _ _ f2, rdInt_self _ _ f3, rdInt_self _ _ f4, rdInt_self _ _ f5, rdInt_self _ _ f6, rdInt_self _ _ f7, rdInt_self _ _ f8, rdInt_self _ _ f9, rdInt_self _ _ f10, rdInt_self _ _ f11, rdInt_self _ _ f12, rdInt_self _ _ f13, rdInt_self _ _ f14, rdInt_self _ _ f15, rdInt_self _ _ f16,
    rdNum_self _ (show (4294967295 : Nat) < 18446744073709551616 by omega) k3, rdNum_self _ (show (65535 : Nat) < 18446744073709551616 by omega) k4, rdNum_self _ (show (65535 : Nat) < 18446744073709551616 by omega) k5, rdNum_self _ (show (65535 : Nat) < 18446744073709551616 by omega) k6, rdNum_self _ (show (65535 : Nat) < 18446744073709551616 by omega) k7, rdChoice_self]
  unfold okInt at *
  simp only [Option.some.injEq, Prod.mk.injEq, and_true]
  cases c
  simp only [Conf.mk.injEq, true_and, and_true] at *
  refine ⟨?_, ?_, ?_, ?_, ?_, ?_, ?_, ?_, ?_, ?_, ?_, ?_, ?_, ?_, ?_, ?_⟩ <;> omega
end Go.S

namespace Go.S
open Go Go.Ab Go.RowKit Go.Proofs

def ordW (u : Bool) : B := if u then [117] else [111]
theorem rdOrder_iff {b : Bool} {ws ws' : List B} : rdChoice [111] [117] ws = some (b, ws') ↔ ws = ordW b :: ws' := by
  cases ws with
  | nil => simp [rdChoice]
  | cons x ws =>
    simp only [rdChoice, Option.ite_none_right_eq_some, Option.some.injEq, Prod.mk.injEq, List.cons.injEq]
    constructor
    · rintro ⟨rfl | rfl, rfl, rfl⟩ <;> exact ⟨rfl, rfl⟩
    · rintro ⟨rfl, rfl⟩
      cases b <;> simp [ordW]

/-- The deeds that have a line, and their words. -/
inductive Sh : Deed → List B → Prop
  | one {k : Int} {nm : B} {e : Nat} (hk : (k, nm) ∈ ([(1, [111, 112, 101, 110]), (3, [114, 101, 99, 101, 105, 118, 101]), (4, [115, 104, 117, 116, 100, 111, 119, 110]), (6, [116, 105, 99, 107])] : List (Int × B))) (he : e ≤ 1099511627776) :
    Sh ⟨k, e, 0, 0, 0, 0, 0, 0, 0, false, [], []⟩ [nm, Lib.decDigits e]
  | send {e st p : Nat} {u : Bool} {l : List UInt8} (he : e ≤ 1099511627776) (hs : st ≤ 65535) (hp : p ≤ 4294967295) (hl : l.length ≤ 65536) :
    Sh ⟨2, e, 0, 0, 0, 0, 0, st, p, u, l, []⟩ [[115, 101, 110, 100], Lib.decDigits e, Lib.decDigits st, Lib.decDigits p, ordW u, hexW l]
  | abort {e : Nat} {l : List UInt8} (he : e ≤ 1099511627776) (hl : l.length ≤ 65536) : Sh ⟨5, e, 0, 0, 0, 0, 0, 0, 0, false, [], l⟩ [[97, 98, 111, 114, 116], Lib.decDigits e, hexW l]
  | clock {n : Nat} (hn : n ≤ 1099511627776) : Sh ⟨7, 0, 0, 0, 0, 0, n, 0, 0, false, [], []⟩ [[99, 108, 111, 99, 107], Lib.decDigits n]
  | three {k : Int} {nm : B} {e p i : Nat} (hk : (k, nm) ∈ ([(8, [100, 101, 108, 105, 118, 101, 114]), (9, [100, 114, 111, 112]), (10, [116, 119, 105, 99, 101])] : List (Int × B))) (he : e ≤ 1099511627776) (hp : p ≤ 1099511627776) (hi : i ≤ 1099511627776) :
    Sh ⟨k, e, p, i, 0, 0, 0, 0, 0, false, [], []⟩ [nm, Lib.decDigits e, Lib.decDigits p, Lib.decDigits i]
  | spoil {e p i pl b : Nat} (he : e ≤ 1099511627776) (hp : p ≤ 1099511627776) (hi : i ≤ 1099511627776) (hpl : pl ≤ 1099511627776) (hb : b ≤ 255) :
    Sh ⟨11, e, p, i, pl, b, 0, 0, 0, false, [], []⟩ [[115, 112, 111, 105, 108], Lib.decDigits e, Lib.decDigits p, Lib.decDigits i, Lib.decDigits pl, Lib.decDigits b]
  | forge {e p : Nat} {l : List UInt8} (he : e ≤ 1099511627776) (hp : p ≤ 1099511627776) (hl : l.length ≤ 65536) : Sh ⟨12, e, p, 0, 0, 0, 0, 0, 0, false, l, []⟩ [[102, 111, 114, 103, 101], Lib.decDigits e, Lib.decDigits p, hexW l]
  | path {k : Int} {nm : B} {p : Nat} (hk : (k, nm) ∈ ([(13, [100, 111, 119, 110]), (14, [117, 112])] : List (Int × B))) (hp : p ≤ 1099511627776) : Sh ⟨k, 0, p, 0, 0, 0, 0, 0, 0, false, [], []⟩ [nm, Lib.decDigits p]

theorem Sh.ok {d : Deed} {ws : List B} (h : Sh d ws) : d.Ok := by
  cases h <;> exact ⟨by simp only; omega, by simp only; omega, by simp only; omega⟩
theorem Sh.blank {d : Deed} {ws : List B} (h : Sh d ws) : ∀ w ∈ ws, (32 : UInt8) ∉ w := by
  have hd : ∀ n, (32 : UInt8) ∉ Lib.decDigits n := fun n => dec_noblank n n (Nat.le_refl _)
  have ho : ∀ b, (32 : UInt8) ∉ ordW b := by intro b; cases b <;> decide
  have hx : ∀ k, k < 16 → hexd k ≠ 32 := by
    intro k h
    have : ∀ x : Fin 16, hexd x.val ≠ 32 := by decide
    exact this ⟨k, h⟩
  have hh : ∀ l, (32 : UInt8) ∉ hexW l := by
    intro l
    unfold hexW; split
    · decide
    · intro hm
      simp only [hexL, List.mem_flatMap, List.mem_cons, List.not_mem_nil, or_false] at hm
      obtain ⟨a, _, h | h⟩ := hm
      · exact hx _ (by have := a.toNat_lt; omega) h.symm
      · exact hx _ (by omega) h.symm
  have hm : ∀ {nm : B} (k : Int) (l : List (Int × B)), (k, nm) ∈ l → (∀ x ∈ l, (32 : UInt8) ∉ x.2) → (32 : UInt8) ∉ nm := fun k l h1 h2 => h2 _ h1
  intro w hw
  cases h
  case one hk he =>
    simp only [List.mem_cons, List.not_mem_nil, or_false] at hw
    rcases hw with rfl | rfl
    · exact hm _ _ hk (by decide)
    · exact hd _
  case three hk he hp hi =>
    simp only [List.mem_cons, List.not_mem_nil, or_false] at hw
    rcases hw with rfl | rfl | rfl | rfl
    · exact hm _ _ hk (by decide)
    all_goals exact hd _
  case path hk hp =>
    simp only [List.mem_cons, List.not_mem_nil, or_false] at hw
    rcases hw with rfl | rfl
    · exact hm _ _ hk (by decide)
    · exact hd _
  all_goals
    simp only [List.mem_cons, List.not_mem_nil, or_false] at hw
    repeat' (rcases hw with rfl | hw)
    all_goals first | exact hd _ | exact ho _ | exact hh _ | (subst hw; first | exact hd _ | exact hh _) | decide
theorem Sh.ne {d : Deed} {ws : List B} (h : Sh d ws) : ws ≠ [] := by cases h <;> simp
theorem Sh.split {d : Deed} {ws : List B} (h : Sh d ws) : splitW 32 (lineOf ws) = ws := splitW_join 32 _ h.ne h.blank
/-- Its line by the reference. -/
theorem Sh.refL {d : Deed} {ws : List B} (h : Sh d ws) : refL d = some (lineOf ws) := by
  have key : d.fine = true ∧ textS d = lineOf ws ∧ d = textK d ∧ lineOf ws ≠ [] := by
    cases h
    case one hk he =>
      simp only [List.mem_cons, Prod.mk.injEq, List.not_mem_nil, or_false] at hk
      rcases hk with ⟨rfl, rfl⟩ | ⟨rfl, rfl⟩ | ⟨rfl, rfl⟩ | ⟨rfl, rfl⟩ <;> refine ⟨?_, ?_, ?_, ?_⟩ <;> simp [Deed.fine, okInt, textS, textK, rowN, itoa_nat, lineOf, join_cons2, join_one, Deed.zero] <;> omega
    case three hk he hp hi =>
      simp only [List.mem_cons, Prod.mk.injEq, List.not_mem_nil, or_false] at hk
      rcases hk with ⟨rfl, rfl⟩ | ⟨rfl, rfl⟩ | ⟨rfl, rfl⟩ <;> refine ⟨?_, ?_, ?_, ?_⟩ <;> simp [Deed.fine, okInt, textS, textK, rowN, itoa_nat, lineOf, join_cons2, join_one, Deed.zero] <;> omega
    case path hk hp =>
      simp only [List.mem_cons, Prod.mk.injEq, List.not_mem_nil, or_false] at hk
      rcases hk with ⟨rfl, rfl⟩ | ⟨rfl, rfl⟩ <;> refine ⟨?_, ?_, ?_, ?_⟩ <;> simp [Deed.fine, okInt, textS, textK, rowN, itoa_nat, lineOf, join_cons2, join_one, Deed.zero] <;> omega
    all_goals
      refine ⟨?_, ?_, ?_, ?_⟩ <;> simp [Deed.fine, okInt, textS, textK, rowN, itoa_nat, lineOf, join_cons2, join_one, Deed.zero, ordW] <;> omega
  obtain ⟨a, b, c, e⟩ := key
  unfold S.refL
  rw [if_pos a, if_pos ⟨b ▸ e, c⟩, b]
theorem Sh.lineR {d : Deed} {ws : List B} (h : Sh d ws) : lineR (lineOf ws) = some d := by
  have hm : ∀ n, n ≤ 1099511627776 → ∀ r, rdNum maxTime (Lib.decDigits n :: r) = some (n, r) := fun n h r => rdNum_self r (by unfold maxTime; omega) (by unfold maxTime; omega)
  have ho : ∀ b r, rdChoice [111] [117] (ordW b :: r) = some (b, r) := fun b r => rdOrder_iff.2 rfl
  have hb : ∀ l : List UInt8, l.length ≤ 65536 → ∀ r, rdBytes (hexW l :: r) = some (l, r) := fun l h r => rdBytes_self r h
  have key : deedR Deed.zero ws = some (d, []) := by
    cases h
    case one hk he =>
      simp only [List.mem_cons, Prod.mk.injEq, List.not_mem_nil, or_false] at hk
      rcases hk with ⟨rfl, rfl⟩ | ⟨rfl, rfl⟩ | ⟨rfl, rfl⟩ | ⟨rfl, rfl⟩ <;> simp [deedR, vtab, prs, pr, hm _ he, Deed.zero]
    case three hk he hp hi =>
      simp only [List.mem_cons, Prod.mk.injEq, List.not_mem_nil, or_false] at hk
      rcases hk with ⟨rfl, rfl⟩ | ⟨rfl, rfl⟩ | ⟨rfl, rfl⟩ <;> simp [deedR, vtab, prs, pr, hm _ he, hm _ hp, hm _ hi, Deed.zero]
    case path hk hp =>
      simp only [List.mem_cons, Prod.mk.injEq, List.not_mem_nil, or_false] at hk
      rcases hk with ⟨rfl, rfl⟩ | ⟨rfl, rfl⟩ <;> simp [deedR, vtab, prs, pr, hm _ hp, Deed.zero]
    case send he hs hp hl =>
      simp [deedR, vtab, prs, pr, hm _ he, rdNum_self _ (by omega : (65535 : Nat) < 18446744073709551616) hs, rdNum_self _ (by omega : (4294967295 : Nat) < 18446744073709551616) hp, ho, hb _ hl, Deed.zero]
    case abort he hl => simp [deedR, vtab, prs, pr, hm _ he, hb _ hl, Deed.zero]
    case clock hn => simp [deedR, vtab, prs, pr, hm _ hn, Deed.zero]
    case spoil he hp hi hpl hb' =>
      simp [deedR, vtab, prs, pr, hm _ he, hm _ hp, hm _ hi, hm _ hpl, rdNum_self _ (by omega : (255 : Nat) < 18446744073709551616) hb', Deed.zero]
    case forge he hp hl => simp [deedR, vtab, prs, pr, hm _ he, hm _ hp, hb _ hl, Deed.zero]
  unfold S.lineR
  rw [h.split, key]
theorem Sh.deedW {d : Deed} {ws : List B} (h : Sh d ws) : deedW d = some ws := by
  have hm : ∀ n : Nat, n ≤ 1099511627776 → numW n = some (Lib.decDigits n) := fun n h => by rw [numW, if_pos (by omega)]; simp
  have hb : ∀ l : List UInt8, l.length ≤ 65536 → bytW l = some (hexW l) := fun l h => by rw [bytW, if_pos h]
  cases h
  case one hk he =>
    simp only [List.mem_cons, Prod.mk.injEq, List.not_mem_nil, or_false] at hk
    rcases hk with ⟨rfl, rfl⟩ | ⟨rfl, rfl⟩ | ⟨rfl, rfl⟩ | ⟨rfl, rfl⟩ <;> simp [S.deedW, vtab, pws, pw, hm _ he]
  case three hk he hp hi =>
    simp only [List.mem_cons, Prod.mk.injEq, List.not_mem_nil, or_false] at hk
    rcases hk with ⟨rfl, rfl⟩ | ⟨rfl, rfl⟩ | ⟨rfl, rfl⟩ <;> simp [S.deedW, vtab, pws, pw, hm _ he, hm _ hp, hm _ hi]
  case path hk hp =>
    simp only [List.mem_cons, Prod.mk.injEq, List.not_mem_nil, or_false] at hk
    rcases hk with ⟨rfl, rfl⟩ | ⟨rfl, rfl⟩ <;> simp [S.deedW, vtab, pws, pw, hm _ hp]
  case send he hs hp hl => simp [S.deedW, vtab, pws, pw, hm _ he, hb _ hl, ordW]
  case abort he hl => simp [S.deedW, vtab, pws, pw, hm _ he, hb _ hl]
  case clock hn => simp [S.deedW, vtab, pws, pw, hm _ hn]
  case spoil he hp hi hpl hb' => simp [S.deedW, vtab, pws, pw, hm _ he, hm _ hp, hm _ hi, hm _ hpl]
  case forge he hp hl => simp [S.deedW, vtab, pws, pw, hm _ he, hm _ hp, hb _ hl]
theorem Sh.deedOf {d : Deed} {ws : List B} (h : Sh d ws) : deedOf (pad ws) = d := by
  have hm : ∀ n : Nat, n ≤ 1099511627776 → valueR (Lib.decDigits n) 20 0 % 4398046511104 = n := fun n h => by rw [value_decDigits (by omega)]; omega
  have ho : ∀ b, (ordW b == [117]) = b := by intro b; cases b <;> rfl
  have e : S.deedOf (pad ws) = S.deedOf ws := by
    unfold S.deedOf deedK wordN
    simp only [pad_getD]
  rw [e]
  cases h
  case one hk he =>
    simp only [List.mem_cons, Prod.mk.injEq, List.not_mem_nil, or_false] at hk
    rcases hk with ⟨rfl, rfl⟩ | ⟨rfl, rfl⟩ | ⟨rfl, rfl⟩ | ⟨rfl, rfl⟩ <;> simp [S.deedOf, deedK, kindR, kindNames, wordN, hm _ he]
  case three hk he hp hi =>
    simp only [List.mem_cons, Prod.mk.injEq, List.not_mem_nil, or_false] at hk
    rcases hk with ⟨rfl, rfl⟩ | ⟨rfl, rfl⟩ | ⟨rfl, rfl⟩ <;> simp [S.deedOf, deedK, kindR, kindNames, wordN, hm _ he, hm _ hp, hm _ hi]
  case path hk hp =>
    simp only [List.mem_cons, Prod.mk.injEq, List.not_mem_nil, or_false] at hk
    rcases hk with ⟨rfl, rfl⟩ | ⟨rfl, rfl⟩ <;> simp [S.deedOf, deedK, kindR, kindNames, wordN, hm _ hp]
  case send he hs hp hl => simp [S.deedOf, deedK, kindR, kindNames, wordN, hm _ he, ho, hexR_hexW, hm _ (Nat.le_trans hs (by omega)), hm _ (Nat.le_trans hp (by omega))]; omega
  case abort he hl => simp [S.deedOf, deedK, kindR, kindNames, wordN, hm _ he, hexR_hexW]
  case clock hn => simp [S.deedOf, deedK, kindR, kindNames, wordN, hm _ hn]
  case spoil he hp hi hpl hb' => simp [S.deedOf, deedK, kindR, kindNames, wordN, hm _ he, hm _ hp, hm _ hi, hm _ hpl, hm _ (Nat.le_trans hb' (by omega))]; omega
  case forge he hp hl => simp [S.deedOf, deedK, kindR, kindNames, wordN, hm _ he, hm _ hp, hexR_hexW]

theorem nat_of {x : Int} (h : okInt x) : ∃ n : Nat, x = n ∧ n ≤ 1099511627776 := ⟨x.toNat, by unfold okInt at h; omega, by unfold okInt at h; omega⟩
/-- A deed with a line by the reference. -/
theorem sh_ref {d : Deed} {s : B} (ok : d.Ok) (h : S.refL d = some s) : ∃ ws, Sh d ws := by
  unfold S.refL at h
  split at h
  rotate_left
  · cases h
  rename_i hf
  have hn := Deed.nums ok hf
  split at h
  rotate_left
  · cases h
  rename_i ht
  obtain ⟨h1, h2⟩ := ht
  obtain ⟨e, he, he'⟩ := nat_of hn.ends
  obtain ⟨p, hp, hp'⟩ := nat_of hn.path
  obtain ⟨i, hi, hi'⟩ := nat_of hn.i
  obtain ⟨pl, hpl, hpl'⟩ := nat_of hn.place
  obtain ⟨n, hnn, hn'⟩ := nat_of hn.n
  have hb := hn.bits
  have hst := hn.stream
  have hpr := hn.proto
  have hd := hn.data
  have hw := hn.why
  clear hf hn ok h
  by_cases k1 : d.kind = 1
  · rw [textK, if_pos k1, he] at h2; rw [h2]; exact ⟨_, .one (k := 1) (nm := [111, 112, 101, 110]) (by decide) he'⟩
  by_cases k2 : d.kind = 2
  · rw [textK, if_neg k1, if_pos k2, he] at h2; rw [h2]; exact ⟨_, .send he' hst hpr hd⟩
  by_cases k3 : d.kind = 3
  · rw [textK, if_neg k1, if_neg k2, if_pos k3, he] at h2; rw [h2]; exact ⟨_, .one (k := 3) (nm := [114, 101, 99, 101, 105, 118, 101]) (by decide) he'⟩
  by_cases k4 : d.kind = 4
  · rw [textK, if_neg k1, if_neg k2, if_neg k3, if_pos k4, he] at h2; rw [h2]; exact ⟨_, .one (k := 4) (nm := [115, 104, 117, 116, 100, 111, 119, 110]) (by decide) he'⟩
  by_cases k5 : d.kind = 5
  · rw [textK, if_neg k1, if_neg k2, if_neg k3, if_neg k4, if_pos k5, he] at h2; rw [h2]; exact ⟨_, .abort he' hw⟩
  by_cases k6 : d.kind = 6
  · rw [textK, if_neg k1, if_neg k2, if_neg k3, if_neg k4, if_neg k5, if_pos k6, he] at h2; rw [h2]; exact ⟨_, .one (k := 6) (nm := [116, 105, 99, 107]) (by decide) he'⟩
  by_cases k7 : d.kind = 7
  · rw [textK, if_neg k1, if_neg k2, if_neg k3, if_neg k4, if_neg k5, if_neg k6, if_pos k7, hnn] at h2; rw [h2]; exact ⟨_, .clock hn'⟩
  by_cases k8 : d.kind = 8
  · rw [textK, if_neg k1, if_neg k2, if_neg k3, if_neg k4, if_neg k5, if_neg k6, if_neg k7, if_pos k8, he, hp, hi] at h2; rw [h2]; exact ⟨_, .three (k := 8) (nm := [100, 101, 108, 105, 118, 101, 114]) (by decide) he' hp' hi'⟩
  by_cases k9 : d.kind = 9
  · rw [textK, if_neg k1, if_neg k2, if_neg k3, if_neg k4, if_neg k5, if_neg k6, if_neg k7, if_neg k8, if_pos k9, he, hp, hi] at h2; rw [h2]; exact ⟨_, .three (k := 9) (nm := [100, 114, 111, 112]) (by decide) he' hp' hi'⟩
  by_cases k10 : d.kind = 10
  · rw [textK, if_neg k1, if_neg k2, if_neg k3, if_neg k4, if_neg k5, if_neg k6, if_neg k7, if_neg k8, if_neg k9, if_pos k10, he, hp, hi] at h2; rw [h2]; exact ⟨_, .three (k := 10) (nm := [116, 119, 105, 99, 101]) (by decide) he' hp' hi'⟩
  by_cases k11 : d.kind = 11
  · rw [textK, if_neg k1, if_neg k2, if_neg k3, if_neg k4, if_neg k5, if_neg k6, if_neg k7, if_neg k8, if_neg k9, if_neg k10, if_pos k11, he, hp, hi, hpl] at h2; rw [h2]; exact ⟨_, .spoil he' hp' hi' hpl' hb⟩
  by_cases k12 : d.kind = 12
  · rw [textK, if_neg k1, if_neg k2, if_neg k3, if_neg k4, if_neg k5, if_neg k6, if_neg k7, if_neg k8, if_neg k9, if_neg k10, if_neg k11, if_pos k12, he, hp] at h2; rw [h2]; exact ⟨_, .forge he' hp' hd⟩
  by_cases k13 : d.kind = 13
  · rw [textK, if_neg k1, if_neg k2, if_neg k3, if_neg k4, if_neg k5, if_neg k6, if_neg k7, if_neg k8, if_neg k9, if_neg k10, if_neg k11, if_neg k12, if_pos k13, hp] at h2; rw [h2]; exact ⟨_, .path (k := 13) (nm := [100, 111, 119, 110]) (by decide) hp'⟩
  by_cases k14 : d.kind = 14
  · rw [textK, if_neg k1, if_neg k2, if_neg k3, if_neg k4, if_neg k5, if_neg k6, if_neg k7, if_neg k8, if_neg k9, if_neg k10, if_neg k11, if_neg k12, if_neg k13, if_pos k14, hp] at h2; rw [h2]; exact ⟨_, .path (k := 14) (nm := [117, 112]) (by decide) hp'⟩
  refine absurd ?_ h1
  rw [textS, if_neg k1, if_neg k2, if_neg k3, if_neg k4, if_neg k5, if_neg k6, if_neg k7, if_neg k8, if_neg k9, if_neg k10, if_neg k11, if_neg k12, if_neg k13, if_neg k14]

theorem prs_cons {f : Nat} {r : List Nat} {d : Deed} {ws : List B} {x : Deed × List B} : prs (f :: r) d ws = some x ↔ ∃ d' ws', pr f d ws = some (d', ws') ∧ prs r d' ws' = some x := by
  simp only [prs]
  cases h : pr f d ws with
  | none => simp
  | some p =>
    obtain ⟨a, b⟩ := p
    simp only [Option.some.injEq, Prod.mk.injEq]
    constructor
    · exact fun h => ⟨a, b, ⟨rfl, rfl⟩, h⟩
    · rintro ⟨_, _, ⟨rfl, rfl⟩, h⟩; exact h
theorem num_map {F : Nat → Deed} {m : Nat} {ws ws' : List B} {d : Deed} (hm : m < 18446744073709551616) (h : (rdNum m ws).map (fun p => (F p.1, p.2)) = some (d, ws')) : ∃ n, n ≤ m ∧ ws = Lib.decDigits n :: ws' ∧ d = F n := by
  simp only [Option.map_eq_some_iff, Prod.mk.injEq] at h
  obtain ⟨⟨n, w⟩, h1, h2, h3⟩ := h
  simp only at h2 h3
  subst h2 h3
  obtain ⟨a, b⟩ := (rdNum_iff hm).1 h1
  exact ⟨n, b, a, rfl⟩
theorem ord_map {F : Bool → Deed} {ws ws' : List B} {d : Deed} (h : (rdChoice [111] [117] ws).map (fun p => (F p.1, p.2)) = some (d, ws')) : ∃ n, ws = ordW n :: ws' ∧ d = F n := by
  simp only [Option.map_eq_some_iff, Prod.mk.injEq] at h
  obtain ⟨⟨n, w⟩, h1, h2, h3⟩ := h
  simp only at h2 h3
  subst h2 h3
  exact ⟨n, rdOrder_iff.1 h1, rfl⟩
theorem byt_map {F : List UInt8 → Deed} {ws ws' : List B} {d : Deed} (h : (rdBytes ws).map (fun p => (F p.1, p.2)) = some (d, ws')) : ∃ n, n.length ≤ 65536 ∧ ws = hexW n :: ws' ∧ d = F n := by
  simp only [Option.map_eq_some_iff, Prod.mk.injEq] at h
  obtain ⟨⟨n, w⟩, h1, h2, h3⟩ := h
  simp only at h2 h3
  subst h2 h3
  obtain ⟨a, b⟩ := rdBytes_iff.1 h1
  exact ⟨n, b, a, rfl⟩
theorem p69 {d d' : Deed} {ws ws' : List B} (h : pr 69 d ws = some (d', ws')) : ∃ n, n ≤ 1099511627776 ∧ ws = Lib.decDigits n :: ws' ∧ d' = { d with ends := n } := num_map (F := fun n => { d with ends := n }) (by decide) h
theorem p70 {d d' : Deed} {ws ws' : List B} (h : pr 70 d ws = some (d', ws')) : ∃ n, n ≤ 1099511627776 ∧ ws = Lib.decDigits n :: ws' ∧ d' = { d with path := n } := num_map (F := fun n => { d with path := n }) (by decide) h
theorem p71 {d d' : Deed} {ws ws' : List B} (h : pr 71 d ws = some (d', ws')) : ∃ n, n ≤ 1099511627776 ∧ ws = Lib.decDigits n :: ws' ∧ d' = { d with i := n } := num_map (F := fun n => { d with i := n }) (by decide) h
theorem p72 {d d' : Deed} {ws ws' : List B} (h : pr 72 d ws = some (d', ws')) : ∃ n, n ≤ 65535 ∧ ws = Lib.decDigits n :: ws' ∧ d' = { d with stream := n } := num_map (F := fun n => { d with stream := n }) (by decide) h
theorem p73 {d d' : Deed} {ws ws' : List B} (h : pr 73 d ws = some (d', ws')) : ∃ n, n ≤ 4294967295 ∧ ws = Lib.decDigits n :: ws' ∧ d' = { d with proto := n } := num_map (F := fun n => { d with proto := n }) (by decide) h
theorem p74 {d d' : Deed} {ws ws' : List B} (h : pr 74 d ws = some (d', ws')) : ∃ n, ws = ordW n :: ws' ∧ d' = { d with unordered := n } := ord_map (F := fun n => { d with unordered := n }) h
theorem p75 {d d' : Deed} {ws ws' : List B} (h : pr 75 d ws = some (d', ws')) : ∃ n, n.length ≤ 65536 ∧ ws = hexW n :: ws' ∧ d' = { d with data := n } := byt_map (F := fun n => { d with data := n }) h
theorem p76 {d d' : Deed} {ws ws' : List B} (h : pr 76 d ws = some (d', ws')) : ∃ n, n.length ≤ 65536 ∧ ws = hexW n :: ws' ∧ d' = { d with why := n } := byt_map (F := fun n => { d with why := n }) h
theorem p77 {d d' : Deed} {ws ws' : List B} (h : pr 77 d ws = some (d', ws')) : ∃ n, n ≤ 1099511627776 ∧ ws = Lib.decDigits n :: ws' ∧ d' = { d with n := n } := num_map (F := fun n => { d with n := n }) (by decide) h
theorem p79 {d d' : Deed} {ws ws' : List B} (h : pr 79 d ws = some (d', ws')) : ∃ n, n ≤ 1099511627776 ∧ ws = Lib.decDigits n :: ws' ∧ d' = { d with place := n } := num_map (F := fun n => { d with place := n }) (by decide) h
theorem p80 {d d' : Deed} {ws ws' : List B} (h : pr 80 d ws = some (d', ws')) : ∃ n, n ≤ 255 ∧ ws = Lib.decDigits n :: ws' ∧ d' = { d with bits := n } := num_map (F := fun n => { d with bits := n }) (by decide) h

/-- A deed that was read. -/
theorem sh_line {d : Deed} {s : B} (h : S.lineR s = some d) : ∃ ws, Sh d ws ∧ s = lineOf ws := by
  have hj : lineOf (splitW 32 s) = s := join_splitW 32 s
  unfold S.lineR at h
  split at h
  rotate_left
  · cases h
  rename_i d' h1
  cases h
  generalize splitW 32 s = ws at *
  refine ⟨ws, ?_, hj.symm⟩
  clear hj
  cases ws with
  | nil => cases h1
  | cons w ws =>
    simp only [deedR] at h1
    split at h1
    rotate_left
    · cases h1
    rename_i e he
    have hm := List.mem_of_find?_eq_some he
    have hw := List.find?_some he
    simp only [beq_iff_eq] at hw
    subst hw
    clear he
    simp only [vtab, List.mem_cons, List.not_mem_nil, or_false] at hm
    rcases hm with rfl | rfl | rfl | rfl | rfl | rfl | rfl | rfl | rfl | rfl | rfl | rfl | rfl | rfl
    · obtain ⟨d0, w0, g0, h1⟩ := prs_cons.1 h1
      obtain ⟨n0, b0, rfl, rfl⟩ := p69 g0
      simp only [prs, Option.some.injEq, Prod.mk.injEq] at h1
      obtain ⟨rfl, rfl⟩ := h1
      exact .one (by decide) b0
    · obtain ⟨d0, w0, g0, h1⟩ := prs_cons.1 h1
      obtain ⟨n0, b0, rfl, rfl⟩ := p69 g0
      obtain ⟨d1, w1, g1, h1⟩ := prs_cons.1 h1
      obtain ⟨n1, b1, rfl, rfl⟩ := p72 g1
      obtain ⟨d2, w2, g2, h1⟩ := prs_cons.1 h1
      obtain ⟨n2, b2, rfl, rfl⟩ := p73 g2
      obtain ⟨d3, w3, g3, h1⟩ := prs_cons.1 h1
      obtain ⟨n3, rfl, rfl⟩ := p74 g3
      obtain ⟨d4, w4, g4, h1⟩ := prs_cons.1 h1
      obtain ⟨n4, b4, rfl, rfl⟩ := p75 g4
      simp only [prs, Option.some.injEq, Prod.mk.injEq] at h1
      obtain ⟨rfl, rfl⟩ := h1
      exact .send b0 b1 b2 b4
    · obtain ⟨d0, w0, g0, h1⟩ := prs_cons.1 h1
      obtain ⟨n0, b0, rfl, rfl⟩ := p69 g0
      simp only [prs, Option.some.injEq, Prod.mk.injEq] at h1
      obtain ⟨rfl, rfl⟩ := h1
      exact .one (by decide) b0
    · obtain ⟨d0, w0, g0, h1⟩ := prs_cons.1 h1
      obtain ⟨n0, b0, rfl, rfl⟩ := p69 g0
      simp only [prs, Option.some.injEq, Prod.mk.injEq] at h1
      obtain ⟨rfl, rfl⟩ := h1
      exact .one (by decide) b0
    · obtain ⟨d0, w0, g0, h1⟩ := prs_cons.1 h1
      obtain ⟨n0, b0, rfl, rfl⟩ := p69 g0
      obtain ⟨d1, w1, g1, h1⟩ := prs_cons.1 h1
      obtain ⟨n1, b1, rfl, rfl⟩ := p76 g1
      simp only [prs, Option.some.injEq, Prod.mk.injEq] at h1
      obtain ⟨rfl, rfl⟩ := h1
      exact .abort b0 b1
    · obtain ⟨d0, w0, g0, h1⟩ := prs_cons.1 h1
      obtain ⟨n0, b0, rfl, rfl⟩ := p69 g0
      simp only [prs, Option.some.injEq, Prod.mk.injEq] at h1
      obtain ⟨rfl, rfl⟩ := h1
      exact .one (by decide) b0
    · obtain ⟨d0, w0, g0, h1⟩ := prs_cons.1 h1
      obtain ⟨n0, b0, rfl, rfl⟩ := p77 g0
      simp only [prs, Option.some.injEq, Prod.mk.injEq] at h1
      obtain ⟨rfl, rfl⟩ := h1
      exact .clock b0
    · obtain ⟨d0, w0, g0, h1⟩ := prs_cons.1 h1
      obtain ⟨n0, b0, rfl, rfl⟩ := p69 g0
      obtain ⟨d1, w1, g1, h1⟩ := prs_cons.1 h1
      obtain ⟨n1, b1, rfl, rfl⟩ := p70 g1
      obtain ⟨d2, w2, g2, h1⟩ := prs_cons.1 h1
      obtain ⟨n2, b2, rfl, rfl⟩ := p71 g2
      simp only [prs, Option.some.injEq, Prod.mk.injEq] at h1
      obtain ⟨rfl, rfl⟩ := h1
      exact .three (by decide) b0 b1 b2
    · obtain ⟨d0, w0, g0, h1⟩ := prs_cons.1 h1
      obtain ⟨n0, b0, rfl, rfl⟩ := p69 g0
      obtain ⟨d1, w1, g1, h1⟩ := prs_cons.1 h1
      obtain ⟨n1, b1, rfl, rfl⟩ := p70 g1
      obtain ⟨d2, w2, g2, h1⟩ := prs_cons.1 h1
      obtain ⟨n2, b2, rfl, rfl⟩ := p71 g2
      simp only [prs, Option.some.injEq, Prod.mk.injEq] at h1
      obtain ⟨rfl, rfl⟩ := h1
      exact .three (by decide) b0 b1 b2
    · obtain ⟨d0, w0, g0, h1⟩ := prs_cons.1 h1
      obtain ⟨n0, b0, rfl, rfl⟩ := p69 g0
      obtain ⟨d1, w1, g1, h1⟩ := prs_cons.1 h1
      obtain ⟨n1, b1, rfl, rfl⟩ := p70 g1
      obtain ⟨d2, w2, g2, h1⟩ := prs_cons.1 h1
      obtain ⟨n2, b2, rfl, rfl⟩ := p71 g2
      simp only [prs, Option.some.injEq, Prod.mk.injEq] at h1
      obtain ⟨rfl, rfl⟩ := h1
      exact .three (by decide) b0 b1 b2
    · obtain ⟨d0, w0, g0, h1⟩ := prs_cons.1 h1
      obtain ⟨n0, b0, rfl, rfl⟩ := p69 g0
      obtain ⟨d1, w1, g1, h1⟩ := prs_cons.1 h1
      obtain ⟨n1, b1, rfl, rfl⟩ := p70 g1
      obtain ⟨d2, w2, g2, h1⟩ := prs_cons.1 h1
      obtain ⟨n2, b2, rfl, rfl⟩ := p71 g2
      obtain ⟨d3, w3, g3, h1⟩ := prs_cons.1 h1
      obtain ⟨n3, b3, rfl, rfl⟩ := p79 g3
      obtain ⟨d4, w4, g4, h1⟩ := prs_cons.1 h1
      obtain ⟨n4, b4, rfl, rfl⟩ := p80 g4
      simp only [prs, Option.some.injEq, Prod.mk.injEq] at h1
      obtain ⟨rfl, rfl⟩ := h1
      exact .spoil b0 b1 b2 b3 b4
    · obtain ⟨d0, w0, g0, h1⟩ := prs_cons.1 h1
      obtain ⟨n0, b0, rfl, rfl⟩ := p69 g0
      obtain ⟨d1, w1, g1, h1⟩ := prs_cons.1 h1
      obtain ⟨n1, b1, rfl, rfl⟩ := p70 g1
      obtain ⟨d2, w2, g2, h1⟩ := prs_cons.1 h1
      obtain ⟨n2, b2, rfl, rfl⟩ := p75 g2
      simp only [prs, Option.some.injEq, Prod.mk.injEq] at h1
      obtain ⟨rfl, rfl⟩ := h1
      exact .forge b0 b1 b2
    · obtain ⟨d0, w0, g0, h1⟩ := prs_cons.1 h1
      obtain ⟨n0, b0, rfl, rfl⟩ := p70 g0
      simp only [prs, Option.some.injEq, Prod.mk.injEq] at h1
      obtain ⟨rfl, rfl⟩ := h1
      exact .path (by decide) b0
    · obtain ⟨d0, w0, g0, h1⟩ := prs_cons.1 h1
      obtain ⟨n0, b0, rfl, rfl⟩ := p70 g0
      simp only [prs, Option.some.injEq, Prod.mk.injEq] at h1
      obtain ⟨rfl, rfl⟩ := h1
      exact .path (by decide) b0

/-- Both read a line alike. -/
theorem readl_same (s : B) : refR s = S.lineR s := by
  cases h : S.lineR s with
  | some d =>
    obtain ⟨ws, hs, rfl⟩ := sh_line h
    unfold refR
    rw [hs.split, hs.deedOf, if_pos hs.refL]
  | none =>
    unfold refR
    rw [if_neg]
    intro h2
    obtain ⟨ws, hs⟩ := sh_ref (deedOf_ok _) h2
    have h3 := hs.refL
    rw [h2, Option.some.injEq] at h3
    rw [h3, hs.lineR] at h
    cases h
/-- Both write a deed alike. -/
theorem writel_same {d : Deed} (ok : d.Ok) : refL d = (match lineW d with | some t => if S.lineR t = some d then some t else none | none => none) := by
  cases h : S.refL d with
  | some s =>
    obtain ⟨ws, hs⟩ := sh_ref ok h
    have h3 := hs.refL
    rw [h, Option.some.injEq] at h3
    rw [lineW, hs.deedW]
    simp only [Option.map_some]
    rw [if_pos hs.lineR, h3]
  | none =>
    cases hw : lineW d with
    | none => rfl
    | some t =>
      simp only
      rw [if_neg]
      intro h2
      obtain ⟨ws, hs, rfl⟩ := sh_line h2
      rw [hs.refL] at h
      cases h
theorem lineS_same {d : Deed} (ok : d.Ok) : refLS d = lineS d := by
  rw [refLS, writel_same ok, lineS]
  cases lineW d with
  | none => rfl
  | some t => simp only; split <;> rfl
theorem lineE_same {d : Deed} (ok : d.Ok) : refLE d = lineE d := by
  rw [refLE, writel_same ok, lineE]
  cases lineW d with
  | none => rfl
  | some t => simp only; split <;> rfl
/-- A line that was written is read back. -/
theorem line_back {d : Deed} (h : lineE d = 0) : S.lineR (lineS d) = some d := by
  unfold lineE at h
  unfold lineS
  split at h
  · split at h
    · rename_i h1 h2
      rw [if_pos h2]; exact h2
    · cases h
  · cases h
end Go.S

namespace Go.S
open Go Go.Ab Go.RowKit Go.Proofs
variable {O : Old}

theorem lineS_len {d : Deed} (ok : d.Ok) : (lineS d).length ≤ 16777216 := by
  unfold lineS
  split
  · split
    · rename_i t ht _
      unfold lineW at ht
      obtain ⟨ws, h1, rfl⟩ := Option.map_eq_some_iff.1 ht
      obtain ⟨l1, l2⟩ := deedW_len ok h1
      have := join_le [32] 131072 ws l2
      have h2 : ws.length * (131072 + 1) ≤ 6 * (131072 + 1) := Nat.mul_le_mul_right _ l1
      simp only [List.length_singleton] at this
      exact Nat.le_trans this (by omega)
    · simp
  · simp
theorem Deed.len (d : Deed) (v : AV) : (d.cells v).length = 12 := by simp [Deed.cells]
theorem Deed.tk (d : Deed) (v : AV) : List.take 12 (d.cells v) = d.cells v := by rw [← d.len v, List.take_length]
theorem Deed.all {H : Heap} (d : Deed) {v : AV} (hb : Byt O H v d.data) : (d.cells v).all AV.isCell = true := by
  have hc := cell_of_len hb.bsl.1
  simp [Deed.cells, AV.isCell]; exact hc.2
theorem Deed.ov (d x : Deed) (u v : AV) : over (d.cells v) 0 (x.cells u) = some (x.cells u) := by simp [over, Deed.cells]

theorem lines_law {H : Heap} {d : Deed} {v : AV} (ok : d.Ok) (hb : Byt O H v d.data) (hm : d.data.length < 2 ^ 62) {s : B} (hs : s.length ≤ 16777216) {Q : AEnd → RS → Heap → Prop} (q : ∀ H', H.ext [] H' → Q (.ret (.bool true)) .no H') : CallOk (E O) 3 [.agg (d.cells v), .str s] .no H Q := by
  have hz : ([AV.int .i64 0, .int .i64 0, .int .i64 0, .int .i64 0, .int .i64 0, .int .u8 0, .int .i64 0, .int .u16 0, .int .u32 0, .bool false, .nils, .str []] : List AV) = Deed.zero.cells .nils := rfl
  have hall := d.all hb
  refine CallOk.go c3 rfl rfl ?_
  simp [c3, c3_r0, c3_r1, d.len, d.tk, -AV.isCell, -List.all_eq_true]
  have e0 : H.ext [] (H.new (.cells 0 (d.cells v) true)) := (Heap.ext_refl _ _).new _
  have g0 : (H.new (.cells 0 (d.cells v) true)).get H.next = some (.cells 0 (d.cells v) true) := by simp
  have n0 : (H.new (.cells 0 (d.cells v) true)).next = H.next + 1 := by simp
  generalize H.new (.cells 0 (d.cells v) true) = H0 at *
  refine Line_ok ok (hb.mono e0) hm fun H1 e1 => ?_
  have n1 := e1.1
  have e01 := e0.trans e1
  have g1 := (e1.2 _ (by omega) (by simp)).trans g0
  simp [c3_r2, g1, d.len, d.tk, -AV.isCell, -List.all_eq_true]
  refine Line_ref ok (hb.mono e01) hm fun H2 e2 => ?_
  have n2 := e2.1
  have e02 := e01.trans e2
  have g2 := (e2.2 _ (by omega) (by simp)).trans g1
  rw [lineS_same ok, lineE_same ok]
  simp [c3_r3]
  refine ReadLine_ok hs fun H3 v3 e3 b3 => ?_
  have n3 := e3.1
  have e03 := e02.trans e3
  have g3 := (e3.2 _ (by omega) (by simp)).trans g2
  simp [-AV.isCell, -List.all_eq_true]
  rw [hz]
  simp [Deed.len, Deed.tk, Deed.all _ b3, Deed.ov, wr, -AV.isCell, -List.all_eq_true]
  generalize hH4 : Heap.set _ H3.next _ = H4
  have e4 : H3.ext [] H4 := by subst hH4; exact ((Heap.ext_refl _ _).new _).set _ _ (.inr (by omega))
  have g4 : H4.get H3.next = some (.cells 0 ((lineRD s).cells v3) true) := by subst hH4; simp
  have n4 : H4.next = H3.next + 1 := by subst hH4; simp
  clear hH4
  have e04 := e03.trans e4
  have g34 := (e4.2 _ (by omega) (by simp)).trans g3
  simp [c3_r4]
  refine readLine_ref hs fun H5 v5 e5 b5 => ?_
  have n5 := e5.1
  have e05 := e04.trans e5
  have g45 := (e5.2 _ (by omega) (by simp)).trans g4
  have g35 := (e5.2 _ (by omega) (by simp)).trans g34
  have same1 : refRD s = lineRD s := by rw [refRD, lineRD, readl_same]
  have same2 : refRE s = lineRE s := by rw [refRE, lineRE, readl_same]
  rw [same1] at b5
  rw [same1, same2]
  simp [-AV.isCell, -List.all_eq_true]
  rw [hz]
  simp [Deed.len, Deed.tk, Deed.all _ b5, Deed.ov, wr, -AV.isCell, -List.all_eq_true]
  generalize hH6 : Heap.set _ H5.next _ = H6
  have e6 : H5.ext [] H6 := by subst hH6; exact ((Heap.ext_refl _ _).new _).set _ _ (.inr (by omega))
  have g6 : H6.get H5.next = some (.cells 0 ((lineRD s).cells v5) true) := by subst hH6; simp
  have n6 : H6.next = H5.next + 1 := by subst hH6; simp
  clear hH6
  have e06 := e05.trans e6
  have g46 := (e6.2 _ (by omega) (by simp)).trans g45
  have g36 := (e6.2 _ (by omega) (by simp)).trans g35
  have e36 := e4.trans (e5.trans e6)
  simp [c3_r5, g46, g6, Deed.len, Deed.tk, Deed.all _ b5, Deed.all _ b3, -AV.isCell, -List.all_eq_true]
  refine sameDeed_ref (b3.mono e36) (b5.mono e6) fun H7 e7 => ?_
  have n7 := e7.1
  have e07 := e06.trans e7
  have g37 := (e7.2 _ (by omega) (by simp)).trans g36
  simp [c3_r7, -AV.isCell, -List.all_eq_true]
  by_cases hE : lineE d = 0
  · simp [hE, c3_r9, -AV.isCell, -List.all_eq_true]
    refine ReadLine_ok (lineS_len ok) fun H8 v8 e8 b8 => ?_
    have n8 := e8.1
    have hbk := line_back hE
    have r1 : lineRD (lineS d) = d := by rw [lineRD, hbk]; rfl
    have r2 : lineRE (lineS d) = 0 := by rw [lineRE, hbk]; rfl
    rw [r1] at b8
    rw [r1, r2]
    have e08 := e07.trans e8
    have g38 := (e8.2 _ (by omega) (by simp)).trans g37
    simp [-AV.isCell, -List.all_eq_true]
    rw [hz]
    simp [Deed.len, Deed.tk, Deed.all _ b8, Deed.ov, wr, -AV.isCell, -List.all_eq_true]
    generalize hH9 : Heap.set _ H8.next _ = H9
    have e9 : H8.ext [] H9 := by subst hH9; exact ((Heap.ext_refl _ _).new _).set _ _ (.inr (by omega))
    have g9 : H9.get H8.next = some (.cells 0 (d.cells v8) true) := by subst hH9; simp
    clear hH9
    have e09 := e08.trans e9
    have g39 := (e9.2 _ (by omega) (by simp)).trans g38
    simp [c3_r10, g9, g39, Deed.len, Deed.tk, Deed.all _ b8, hall, -AV.isCell, -List.all_eq_true]
    refine sameDeed_ref (b8.mono e9) (hb.mono e09) fun H10 e10 => ?_
    simp [-AV.isCell, -List.all_eq_true]
    refine alive_ok fun H11 e11 => ?_
    simp
    exact q _ ((e09.trans e10).trans e11)
  · have hEb : (lineE d == 0) = false := by simp [hE]
    simp [hEb, hE, c3_r8, -AV.isCell, -List.all_eq_true]
    refine alive_ok fun H9 e9 => ?_
    simp
    exact q _ (e07.trans e9)
end Go.S

namespace Go.S
open Go Go.Ab Go.RowKit Go.Proofs

set_option maxRecDepth 10000 in
theorem settingR_some {c : Conf} {ws ws' : List B} (h : settingR ws = some (c, ws')) : ws = c.words ++ ws' ∧ c.Ok ∧ c.Fits := by
  have n64 : ∀ {n : Nat} {ws ws' : List B}, rdNum 18446744073709551615 ws = some (n, ws') ↔ ws = Lib.decDigits n :: ws' ∧ n ≤ 18446744073709551615 := rdNum_iff (by omega)
  have n32 : ∀ {n : Nat} {ws ws' : List B}, rdNum 4294967295 ws = some (n, ws') ↔ ws = Lib.decDigits n :: ws' ∧ n ≤ 4294967295 := rdNum_iff (by omega)
  have n16 : ∀ {n : Nat} {ws ws' : List B}, rdNum 65535 ws = some (n, ws') ↔ ws = Lib.decDigits n :: ws' ∧ n ≤ 65535 := rdNum_iff (by omega)
  simp only [settingR, Option.bind_eq_some_iff, Prod.exists, rdWord_iff, rdBytes_iff, n64] at h
  obtain ⟨_, rfl, _, rfl, vseed, _, ⟨rfl, lseed⟩, _, rfl, vkey, _, ⟨rfl, lkey⟩, h⟩ := h
  split at h
  case isFalse => cases h
  rename_i hk
  simp only [Option.bind_eq_some_iff, Prod.exists, rdWord_iff, rdInt_iff, rdChoice_iff, n32, n16] at h
  obtain ⟨vlife, _, ⟨rfl, llife⟩, _, rfl, vwindow, _, ⟨rfl, lwindow⟩, _, rfl, vout, _, ⟨rfl, lout⟩, _, rfl, vinn, _, ⟨rfl, linn⟩, vtries, _, ⟨rfl, ltries⟩, vlasts, _, ⟨rfl, llasts⟩, _, rfl, vport, _, ⟨rfl, lport⟩, _, rfl, vpeer, _, ⟨rfl, lpeer⟩, vpaths, _, ⟨rfl, lpaths⟩, vmtu, _, ⟨rfl, lmtu⟩, vbuffer, _, ⟨rfl, lbuffer⟩, vinit, _, ⟨rfl, linit⟩, vmn, _, ⟨rfl, lmn⟩, vmx, _, ⟨rfl, lmx⟩, verrors, _, ⟨rfl, lerrors⟩, vfail, _, ⟨rfl, lfail⟩, vpause, _, ⟨rfl, lpause⟩, vmost, _, ⟨rfl, lmost⟩, vdelay, _, ⟨rfl, ldelay⟩, vsched, _, ⟨rfl, lsched⟩, vcap, _, ⟨rfl, lcap⟩, _, rfl, vsplit, _, rfl, _, rfl, vnr, _, rfl, _, rfl, vcouple, _, rfl, h⟩ := h
  simp only [Option.some.injEq, Prod.mk.injEq] at h
  obtain ⟨rfl, rfl⟩ := h
  refine ⟨by simp [Conf.words], ⟨hk, by simp only; omega, lwindow, lout, linn, lport, lpeer⟩, ?_⟩
  refine ⟨?_, ?_, ?_, ?_, ?_, ?_, ?_, ?_, ?_, ?_, ?_, ?_, ?_, ?_, ?_, ?_⟩ <;> exact ⟨by simp only; omega, by simp only; omega⟩

theorem words_noblank (c : Conf) : ∀ w ∈ c.words, (32 : UInt8) ∉ w := by
  have hd : ∀ n, (32 : UInt8) ∉ Lib.decDigits n := fun n => dec_noblank n n (Nat.le_refl _)
  have hb : ∀ b, (32 : UInt8) ∉ bitW b := by intro b; cases b <;> decide
  have hx : ∀ k, k < 16 → hexd k ≠ 32 := by
    intro k h
    have : ∀ x : Fin 16, hexd x.val ≠ 32 := by decide
    exact this ⟨k, h⟩
  have hh : ∀ l, (32 : UInt8) ∉ hexW l := by
    intro l
    unfold hexW; split
    · decide
    · intro hm
      simp only [hexL, List.mem_flatMap, List.mem_cons, List.not_mem_nil, or_false] at hm
      obtain ⟨a, _, h | h⟩ := hm
      · exact hx _ (by have := a.toNat_lt; omega) h.symm
      · exact hx _ (by omega) h.symm
  intro w hw
  simp only [Conf.words, List.mem_cons, List.not_mem_nil, or_false] at hw
  repeat' (rcases hw with rfl | hw)
  all_goals first | exact hd _ | exact hb _ | exact hh _ | decide | (subst hw; exact hb _)

theorem split_line (c : Conf) : splitW 32 (lineOf c.words) = c.words := splitW_join 32 _ (by simp [Conf.words]) (words_noblank c)
theorem setR_iff {s : B} {c : Conf} : setR s = some c ↔ s = lineOf c.words ∧ c.Ok ∧ c.Fits := by
  constructor
  · intro h
    unfold setR at h
    split at h
    · rename_i c' e
      cases h
      obtain ⟨h1, h2, h3⟩ := settingR_some e
      rw [List.append_nil] at h1
      exact ⟨by rw [lineOf, ← h1, join_splitW], h2, h3⟩
    · cases h
  · rintro ⟨rfl, h2, h3⟩
    have := settingR_of h2 h3 []
    rw [List.append_nil] at this
    rw [setR, split_line, this]

end Go.S

namespace Go.S
open Go Go.Ab Go.RowKit Go.Proofs
variable {O : Old}

theorem Conf.ln {c : Conf} (hk : c.Ok) : c.cells.length = 41 := by simp [Conf.cells, Conf.tl, hk.key]
theorem Conf.al {c : Conf} : c.cells.all AV.isCell = true := by simp [Conf.cells, Conf.tl, u8s, u8, AV.isCell]
theorem Conf.zok : Conf.zero.Ok := by constructor <;> decide
theorem Conf.ovr {c c' : Conf} (hk : c.Ok) (hk' : c'.Ok) : over c'.cells 0 c.cells = some c.cells := by
  unfold over; simp [Conf.ln hk, Conf.ln hk', List.drop_eq_nil_of_le]
/-- A slice of deeds. -/
def DeedSl (O : Old) (H : Heap) (v : AV) (ds : List Deed) : Prop :=
  aLen v = some (.int .i64 ds.length) ∧ ∀ (i : Nat) (d : Deed), ds[i]? = some d → ∃ a u, aIndexSl 12 v (.int .i64 i) = some a ∧ ∀ H', H.ext [] H' → rd O H' a (.many 12) = some (.agg (d.cells u)) ∧ Byt O H' u d.data
theorem DeedSl.mono {H H' : Heap} {v : AV} {ds : List Deed} (h : DeedSl O H v ds) (he : H.ext [] H') : DeedSl O H' v ds :=
  ⟨h.1, fun i d hd => by obtain ⟨a, u, h1, h2⟩ := h.2 i d hd; exact ⟨a, u, h1, fun H2 e => h2 H2 (he.trans e)⟩⟩

/-- The deeds' lines; or the first deed that has none. -/
def prD : List Deed → Nat → B → B ⊕ Nat
  | [], _, acc => .inl acc
  | d :: r, i, acc => if lineE d = 0 then prD r (i + 1) (if acc.length ≤ 4194304 then acc ++ lineS d ++ [10] else acc) else .inr i
def prT : B ⊕ Nat → B × Int × Int
  | .inr i => ([], i, 1)
  | .inl acc => if 4194304 < acc.length then ([], -1, 2) else (acc, 0, 0)
/-- A script's text, where it broke, its code. -/
def prR (c0 c1 : Conf) (ds : List Deed) : B × Int × Int :=
  if c0.Fits ∧ c1.Fits then
    if 65536 < ds.length then ([], -1, 3) else
    prT (prD ds 0 (setS c0 ++ [10] ++ setS c1 ++ [10]))
  else ([], -1, 1)

theorem lineE_one {d : Deed} (h : ¬ lineE d = 0) : lineE d = 1 := by
  unfold lineE at h ⊢
  cases hw : lineW d with
  | none => rfl
  | some t =>
    rw [hw] at h
    simp only at h ⊢
    by_cases ht : lineR t = some d
    · rw [if_pos ht] at h; exact absurd rfl h
    · rw [if_neg ht]
theorem lineS_ne {d : Deed} (h : lineE d = 0) : lineS d ≠ [] := by
  intro h2
  have := line_back h
  rw [h2] at this
  have h3 : lineR [] = none := by rfl
  rw [h3] at this
  cases this
theorem setS_ne {c : Conf} (h : c.Fits) : setS c ≠ [] := by
  intro h2
  rw [setS, if_pos h] at h2
  have := split_line c
  rw [h2] at this
  have h3 : (splitW 32 []).length = c.words.length := by rw [this]
  simp [splitW, Conf.words] at h3
theorem setS_len {c : Conf} (hk : c.Ok) : (setS c).length ≤ 2000 := by
  unfold setS
  split
  · rename_i hf
    have hle := join_le [32] 32 c.words (words_len hk hf)
    have hwl : c.words.length = 53 := rfl
    rw [hwl] at hle
    exact Nat.le_trans hle (by simp)
  · simp
theorem u8s_str (s : B) : (s.map fun b => AV.int .u8 b.toNat) = u8s s := rfl

/-- After a string was appended. -/
theorem afterStr {E : Env} {os : List COper} {kk : List K} {T : List AV} {D : List ADef} {R : RS} {d : Option Nat} {Q : Ex → St → Prop} {base : Nat} {H : Heap} {av : AV} {acc s : B}
    (h : Grown 1 H av base acc.length (u8s acc)) (hb : base ≤ H.next) (hs : s ≠ []) (hlen : acc.length + s.length ≤ 1099511627776)
    (q : ∀ av' H', Grown 1 H' av' base (acc ++ s).length (u8s (acc ++ s)) → Beyond base H H' → W E (.ops os :: kk) .norm ⟨put T d av', D, R, H'⟩ Q) :
    afterOp E os kk T D R d Q (match aAppend O H 1 1 av (.str s) with | some (v, H') => some (.val v H') | none => none) := by
  refine afterAppend (k := s.length) (new := u8s s) h (Heap.ext_refl _ _) hb (by simp [elems, u8s_str]) (by simpa using hs) (by simp) (by simp [u8s, u8, AV.isCell]) (by omega) fun av' H' hg he => ?_
  refine q av' H' ?_ he
  rw [List.length_append, u8s_app]
  exact hg
/-- After one byte was appended. -/
theorem afterNl {E : Env} {os : List COper} {kk : List K} {T : List AV} {D : List ADef} {R : RS} {d : Option Nat} {Q : Ex → St → Prop} {base : Nat} {H : Heap} {av : AV} {acc : B}
    (h : Grown 1 H av base acc.length (u8s acc)) (hb : base ≤ H.next) (hlen : acc.length + 1 ≤ 1099511627776)
    (q : ∀ av' H', Grown 1 H' av' base (acc ++ [10]).length (u8s (acc ++ [10])) → Beyond base H H' → W E (.ops os :: kk) .norm ⟨put T d av', D, R, H'⟩ Q) :
    afterOp E os kk T D R d Q (match aAppend O (H.new (.cells 0 [.int .u8 10] true)) 1 1 av (.slice H.next 0 0 1 1) with | some (v, H') => some (.val v H') | none => none) := by
  refine afterAppend (k := 1) (new := [.int .u8 10]) h ((Heap.ext_refl _ _).new _) hb (by simp [elems, rdCells, cut]) (by simp) rfl (by simp [AV.isCell]) (by omega) fun av' H' hg he => ?_
  refine q av' H' ?_ he
  rw [List.length_append, u8s_app]
  exact hg
end Go.S

