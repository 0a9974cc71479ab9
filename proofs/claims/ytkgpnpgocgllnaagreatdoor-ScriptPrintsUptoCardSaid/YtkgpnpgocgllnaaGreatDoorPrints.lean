/- The law ScriptPrints returns true for every script that holds at most 1048576 values and letters (the statement's own bound), and changes nothing that was there. Conditions: the package variables that the row lists hold what the program's text lays; those of the given card. -/
import Derived.Test.YtkgpnpgocgllnaaGreatDoorPrintsP0
import Derived.Test.YtkgpnpgocgllnaaGreatDoorPrintsP1
import Derived.Test.YtkgpnpgocgllnaaGreatDoorPrintsP2
import Derived.Test.YtkgpnpgocgllnaaGreatDoorPrintsP3
import Derived.Test.YtkgpnpgocgllnaaGreatDoorPrintsP4
set_option linter.unusedSimpArgs false
set_option linter.unusedVariables false
set_option linter.unnecessarySimpa false
set_option linter.unusedSectionVars false
set_option linter.constructorNameAsVariable false
namespace Go.S
open Go Go.Ab Go.RowKit Go.Proofs Go.ChangeShapes Go.WideShapes
open Go.Proofs.YtkgpnpgocgllnaaGreatDoor (Rows.uptoBulk Rows.uptoBulkAll)

section
variable {X : Type} {enc : TypeId × Value → X} {W : World} {sp : Nat → Bool} {held : Bool} {fuel : Nat} {cs : List Value} {x : DataW X × List MemPlace}
theorem bulk_mem {d : DataW X} {l : List (DataW X)} (h : d ∈ l) : Rows.uptoBulk d ≤ Rows.uptoBulkAll l := by
  induction l with
  | nil => cases h
  | cons x r ih =>
    simp only [Rows.uptoBulkAll]
    rcases List.mem_cons.1 h with e | e
    · subst e; omega
    · have := ih e; omega

set_option maxRecDepth 10000 in
/-- Deeds that are read, told. -/
theorem deeds_of (h : DataW.trod enc Tryz.prog W 0 sp held fuel 59 cs = some x) : ∃ v ds, cs = [v] ∧ (∀ H, DeedSl (oldOf W) H (absV v) ds) ∧ (∀ d ∈ ds, d.Ok ∧ d.data.length + d.why.length ≤ Rows.uptoBulk x.1) := by
  rcases DataW.trod_slice Tryz.underlying59 h with ⟨rfl, rfl⟩ | ⟨a, len, cap, elems, rest, n, rfl, rfl, rfl, hb, hl, hm, hlen, hel, -, -⟩
  · exact ⟨_, [], rfl, fun H => ⟨rfl, fun i d hd => (by cases hd)⟩, fun d hd => (by cases hd)⟩
  have c27 : Tryz.prog.cellsOf 27 = 12 := by kernel_rfl
  rw [c27] at hel
  have each : ∀ i, ∃ d : Deed, i < len → ∃ u cells, W.cells? 0 (a.add (i * 12)) 12 = some cells ∧ d.Ok ∧ cells.map absV = d.cells u ∧ (∀ H, Byt (oldOf W) H u d.data) ∧ d.data.length + d.why.length ≤ Rows.uptoBulkAll (elems.map (·.1)) := by
    intro i
    by_cases hi : i < len
    · have h1 := hel i hi
      rw [List.getElem?_eq_getElem (by omega)] at h1
      obtain ⟨cells, h2, h3⟩ := Option.bind_eq_some_iff.1 h1
      obtain ⟨d, u, k1, k2, k3, k4⟩ := deed_of h3
      refine ⟨d, fun _ => ⟨u, cells, h2, k1, k2, k3, Nat.le_trans k4 (bulk_mem (List.mem_map.2 ⟨_, List.getElem_mem (by omega), rfl⟩))⟩⟩
    · exact ⟨Deed.zero, fun h => absurd h hi⟩
  have spot0 : 0 < len → a.spot = none := fun hp => by
    obtain ⟨u, cells, h1, -⟩ := Classical.choose_spec (each 0) hp
    have h2 := (World.cells?_some h1).2
    have h3 := h2.2 0 (by omega)
    rw [List.getElem?_eq_getElem (by omega)] at h3
    simpa [Addr.add] using World.cell?_spot h3
  refine ⟨_, (List.range len).map fun i => Classical.choose (each i), rfl, fun H => ⟨?_, fun i d hd => ?_⟩, fun d hd => ?_⟩
  · cases len with
    | zero => rfl
    | succ m =>
      obtain ⟨b, off, spot⟩ := a
      obtain rfl : spot = none := spot0 (by omega)
      simp [absV, aLen]
  · have hi : i < len := by have := (List.getElem?_eq_some_iff.1 hd).1; simpa using this
    rw [List.getElem?_map, List.getElem?_range hi, Option.map_some, Option.some.injEq] at hd
    subst hd
    obtain ⟨u, cells, h1, k1, k2, k3, k4⟩ := Classical.choose_spec (each i) hi
    generalize Classical.choose (each i) = d at *
    obtain ⟨_, hcl, h2⟩ := World.cells?_some h1
    obtain ⟨b, off, spot⟩ := a
    have h3 := h2 0 (by omega)
    rw [List.getElem?_eq_getElem (by omega)] at h3
    obtain rfl : spot = none := spot0 (by omega)
    cases len with
    | zero => omega
    | succ m =>
      refine ⟨.optr b (off + i * 12), u, ?_, fun H' _ => ⟨?_, k3 H'⟩⟩
      · simp [absV, aIndexSl, asN, hi]
      · simp only [add_plain] at h2 h3
        unfold World.cell? at h2 h3
        simp only [Option.isSome_none, Bool.false_eq_true, if_false] at h2 h3
        cases hh : W.heap[b]? with
        | none => rw [hh] at h3; cases h3
        | some o =>
          cases o with
          | cells c t fr =>
            simp only [hh] at h2
            have hO : oldOf W b = some (c.toList.map absV) := by unfold oldOf; rw [hh]
            have hsz : off + i * 12 + 12 ≤ c.size := by
              have h4 := h2 11 (by omega)
              rw [List.getElem?_eq_getElem (by omega)] at h4
              have := (Array.getElem?_eq_some_iff.1 h4).1
              omega
            have hcut : cut (c.toList.map absV) (off + i * 12) 12 = some (d.cells u) := by
              unfold cut
              rw [if_pos (by simp; omega), ← k2]
              congr 1
              apply List.ext_getElem?
              intro j
              by_cases hj : j < 12
              · rw [List.getElem?_take_of_lt hj, List.getElem?_drop, List.getElem?_map, Array.getElem?_toList, h2 j hj, List.getElem?_map]
              · rw [List.getElem?_eq_none (by simp; omega), List.getElem?_eq_none (by simp; omega)]
            simp only [rd, rdCells, hO, hcut]
          | _ => rw [hh] at h3; cases h3
  · obtain ⟨i, hi, rfl⟩ := List.mem_map.1 hd
    rw [List.mem_range] at hi
    obtain ⟨u, cells, h1, k1, k2, k3, k4⟩ := Classical.choose_spec (each i) hi
    refine ⟨k1, Nat.le_trans k4 ?_⟩
    simp only [Rows.uptoBulk]
    omega

set_option maxRecDepth 100000 in
/-- A script that is read, told. -/
theorem script_of {base : Nat} {v : Value} {d : DataW X} {p : List MemPlace} (hv : Value.okWide Tryz.prog W .any base 61 v) (h : DataW.Trod enc Tryz.prog W 0 sp held 61 v d p) :
    ∃ (cs : Array Value) (c0 c1 : Conf) (w : AV) (ds : List Deed), v = .agg cs ∧ c0.Ok ∧ c1.Ok ∧ cs.toList.map absV = c0.cells ++ c1.cells ++ [w] ∧ (∀ H, DeedSl (oldOf W) H w ds) ∧ (∀ e ∈ ds, e.Ok ∧ e.data.length + e.why.length ≤ Rows.uptoBulk d) := by
  unfold Value.okWide at hv
  rw [Tryz.underlying61] at hv
  obtain ⟨cs, rfl, hsz, ts, hts, _, hrow⟩ := hv
  have htt : Tryz.prog.cellTypes Tryz.prog.depth 61 = some (confTs ++ confTs ++ [59]) := by kernel_rfl
  obtain rfl := Option.some.inj (htt.symm.trans hts)
  have h83 : cs.toList.length = 83 := by rw [Array.length_toList, hsz]; kernel_rfl
  have hm : (confTs ++ confTs ++ [59]).length = 83 := rfl
  have hrow' : ∀ (i : Nat) (x : Value), cs.toList[i]? = some x → ∃ u, (confTs ++ confTs ++ [59])[i]? = some u ∧ Cell.okWide Tryz.prog W .any base u x := fun i x hi => by
    have hlt : i < 83 := by rw [← h83]; exact (List.getElem?_eq_some_iff.1 hi).1
    obtain ⟨u, hu, hok⟩ := hrow i x (by simpa using hi)
    rw [hm, Nat.mod_eq_of_lt hlt] at hu
    exact ⟨u, hu, hok⟩
  have hcl : confTs.length = 41 := rfl
  obtain ⟨c0, hk0, hc0⟩ := conf_of (W := W) (base := base) (l := cs.toList.take 41) (by simp [h83]) (fun i x hi => by
    have hlt : i < 41 := by have := (List.getElem?_eq_some_iff.1 hi).1; simp at this; omega
    rw [List.getElem?_take_of_lt hlt] at hi
    obtain ⟨u, hu, hok⟩ := hrow' i x hi
    rw [List.append_assoc, List.getElem?_append_left (by omega)] at hu
    exact ⟨u, hu, hok⟩)
  obtain ⟨c1, hk1, hc1⟩ := conf_of (W := W) (base := base) (l := (cs.toList.drop 41).take 41) (by simp; rw [← Array.length_toList, h83]; omega) (fun i x hi => by
    have hlt : i < 41 := by have := (List.getElem?_eq_some_iff.1 hi).1; simp at this; omega
    rw [List.getElem?_take_of_lt hlt, List.getElem?_drop] at hi
    obtain ⟨u, hu, hok⟩ := hrow' _ x hi
    rw [List.append_assoc, List.getElem?_append_right (by omega), List.getElem?_append_left (by omega)] at hu
    rw [hcl, Nat.add_sub_cancel_left] at hu
    exact ⟨u, hu, hok⟩)
  obtain ⟨f, hf⟩ := h
  obtain ⟨xs, m, rfl, hx, hlen, hxs, hel⟩ := DataW.trod_struct Tryz.underlying61 hf
  have hcs : (Value.agg cs).cells.toList = cs.toList := rfl
  rw [hcs] at hel
  have e1 : DataW.trod enc Tryz.prog W 0 sp held m 59 ((cs.toList.drop 82).take (Tryz.prog.cellsOf 59)) = xs[1]? := hel 1 _ rfl
  rw [show Tryz.prog.cellsOf 59 = 1 by kernel_rfl] at e1
  have x2 : xs.length = 2 := hxs
  rw [List.getElem?_eq_getElem (by omega)] at e1
  obtain ⟨w, ds, hw, hds, hok⟩ := deeds_of e1
  refine ⟨cs, c0, c1, absV w, ds, rfl, hk0, hk1, ?_, hds, fun e he => ?_⟩
  · have hsplit : cs.toList = cs.toList.take 41 ++ ((cs.toList.drop 41).take 41 ++ (cs.toList.drop 82).take 1) := by
      have a1 : cs.toList.drop 82 = (cs.toList.drop 41).drop 41 := by rw [List.drop_drop]
      have a2 : (cs.toList.drop 82).take 1 = cs.toList.drop 82 := List.take_of_length_le (by simp; rw [← Array.length_toList, h83]; omega)
      rw [a2, a1, List.take_append_drop, List.take_append_drop]
    rw [hsplit, List.map_append, List.map_append, hc0, hc1, hw, List.append_assoc]
    rfl
  · obtain ⟨h1, h2⟩ := hok e he
    refine ⟨h1, Nat.le_trans h2 ?_⟩
    simp only [Prod.mk.injEq] at hx
    rw [hx.1]
    have := bulk_mem (d := xs[1].1) (l := xs.map (·.1)) (List.mem_map.2 ⟨_, List.getElem_mem (by omega), rfl⟩)
    simp only [Rows.uptoBulk]
    omega
end
end Go.S

namespace Go.S
open Go Go.Ab Go.RowKit Go.Proofs
variable {O : Old}

set_option maxHeartbeats 2000000 in
theorem loop18_1 {k : List K} {Q : AEnd → RS → Heap → Prop} {H0 : Heap} {ds : List Deed} {v : AV} (hs : DeedSl O H0 v ds) (hok : ∀ d ∈ ds, d.Ok ∧ d.data.length < 2 ^ 62) (hn : ds.length ≤ 65536) : ∀ (rest done : List Deed) (acc : B) (T : List AV) (H : Heap),
    ds = done ++ rest → acc.length ≤ 30000000 → Beyond H0.next H0 H → T.length = 68 → slot T 38 = v → slot T 39 = .int .i64 ds.length → slot T 40 = .int .i64 done.length → Grown 1 H (slot T 5) H0.next acc.length (u8s acc) →
    (∀ T' H' acc', prD rest done.length acc = .inl acc' → T'.length = 68 → Beyond H0.next H0 H' → Grown 1 H' (slot T' 5) H0.next acc'.length (u8s acc') → acc'.length ≤ 30000000 → W (E O) k (.exit 2) ⟨T', [], .no, H'⟩ (Fin (E O) [.tmp 2, .tmp 3, .tmp 4] Q)) →
    (∀ T' H' i, prD rest done.length acc = .inr i → T'.length = 68 → Beyond H0.next H0 H' → slot T' 2 = .str [] → slot T' 3 = .int .i64 i → slot T' 4 = .int .i64 1 → W (E O) k .ret ⟨T', [], .no, H'⟩ (Fin (E O) [.tmp 2, .tmp 3, .tmp 4] Q)) →
    W (E O) (.code (.loop c18_l1) :: k) .norm ⟨T, [], .no, H⟩ (Fin (E O) [.tmp 2, .tmp 3, .tmp 4] Q)
  | [], done, acc, T, H, hd, ha, he, hT, h38, h39, h40, hg, q, qp => by
    rw [W_loopE]
    simp at hd
    subst hd
    simp [c18_l1, c18_r13, h39, h40, hT]
    exact q _ H acc rfl (by simp [hT]) he (by simpa [hT] using hg) ha
  | d :: rest, done, acc, T, H, hd, ha, he, hT, h38, h39, h40, hg, q, qp => by
    rw [W_loopE]
    have hl : done.length < ds.length := by rw [hd]; simp
    have hdd : ds[done.length]? = some d := by rw [hd]; simp
    obtain ⟨a, u, ha1, ha2⟩ := hs.2 done.length d hdd
    obtain ⟨ok, hm⟩ := hok d (by rw [hd]; simp)
    have e0 : H0.ext [] H := he.ext rfl
    obtain ⟨hr, hb⟩ := ha2 H e0
    have hall := d.all hb
    have hz : ([AV.int .i64 0, .int .i64 0, .int .i64 0, .int .i64 0, .int .i64 0, .int .u8 0, .int .i64 0, .int .u16 0, .int .u32 0, .bool false, .nils, .str []] : List AV) = Deed.zero.cells .nils := rfl
    have hw : IntKind.i64.wrap ((done.length : Int) + 1) = (done.length : Int) + 1 := wrap64 (by omega) (by omega)
    simp [c18_l1, c18_r13, h39, h40, hT, hl, -AV.isCell, -List.all_eq_true]
    rw [c18_r14, hz]
    simp [h38, h39, h40, hT, ha1, hr, d.len, d.tk, Deed.ov, hall, wr, -AV.isCell, -List.all_eq_true]
    generalize hH1 : Heap.set _ H.next _ = H1
    have e1 : H.ext [] H1 := by subst hH1; exact ((Heap.ext_refl _ _).new _).set _ _ (.inr (by omega))
    have g1 : H1.get H.next = some (.cells 0 (d.cells u) true) := by subst hH1; simp
    have n1 : H1.next = H.next + 1 := by subst hH1; simp
    clear hH1
    simp [c18_r15, hT, g1, d.len, d.tk, -AV.isCell, -List.all_eq_true]
    refine Line_ok ok (hb.mono e1) hm fun H2 e2 => ?_
    have e12 := e1.trans e2
    have n2 := e2.1
    have b2 : Beyond H0.next H0 H2 := he.trans (Beyond.of_ext (S := []) e12 he.1 (fun _ hi => by cases hi))
    simp [c18_r16, hT, -AV.isCell, -List.all_eq_true]
    by_cases hE : lineE d = 0
    · have hg2 := hg.mono e12
      have hll := lineS_len ok
      simp [hE, c18_r18, hT, hg2.len, -AV.isCell, -List.all_eq_true]
      have hpr : prD (d :: rest) done.length acc = prD rest (done.length + 1) (if acc.length ≤ 4194304 then acc ++ lineS d ++ [10] else acc) := by rw [prD, if_pos hE]
      by_cases hc : acc.length ≤ 4194304
      · have hc' : ((acc.length : Int) ≤ 4194304) := by omega
        rw [if_pos hc] at hpr
        simp [hc', c18_r19, hT, -AV.isCell, -List.all_eq_true]
        refine afterStr hg2 (Nat.le_trans he.1 (Nat.le_trans e12.1 (Nat.le_refl _))) (lineS_ne hE) (by omega) fun av3 H3 hg3 he3 => ?_
        simp [hT, -AV.isCell, -List.all_eq_true]
        refine afterNl hg3 (Nat.le_trans b2.1 he3.1) (by simp; omega) fun av4 H4 hg4 he4 => ?_
        simp [hT, c18_r20, h40, hw, -AV.isCell, -List.all_eq_true]
        refine loop18_1 hs hok hn rest (done ++ [d]) (acc ++ lineS d ++ [10]) _ H4 (by simp [hd]) (by simp; omega) (b2.trans (he3.trans he4)) (by simp [hT]) (by simp [h38]) (by simp [h39]) (by simp [hT]) (by simpa [hT] using hg4) ?_ ?_
        · intro T' H' acc' a1
          exact q T' H' acc' (by rw [hpr]; simpa using a1)
        · intro T' H' i a1
          exact qp T' H' i (by rw [hpr]; simpa using a1)
      · have hc' : ¬ ((acc.length : Int) ≤ 4194304) := by omega
        rw [if_neg hc] at hpr
        simp [hc', c18_r20, h40, hT, hw, -AV.isCell, -List.all_eq_true]
        refine loop18_1 hs hok hn rest (done ++ [d]) acc _ H2 (by simp [hd]) ha b2 (by simp [hT]) (by simp [h38]) (by simp [h39]) (by simp [hT]) (by simpa [hT] using hg2) ?_ ?_
        · intro T' H' acc' a1
          exact q T' H' acc' (by rw [hpr]; simpa using a1)
        · intro T' H' i a1
          exact qp T' H' i (by rw [hpr]; simpa using a1)
    · have hE1 : lineE d = 1 := lineE_one hE
      simp [hE1, c18_r17, hT, -AV.isCell, -List.all_eq_true]
      exact qp _ H2 done.length (by rw [prD, if_neg hE]) (by simp [hT]) b2 (by simp [hT]) (by simp [hT]) (by simp [hT])

set_option maxHeartbeats 4000000 in
theorem step18_0 {k : List K} {Q : AEnd → RS → Heap → Prop} {H0 H : Heap} {c : Conf} {cc : List AV} {i : Nat} {acc : B} {T : List AV} (hi : i < 2) (hk : c.Ok) (hcl : cc.length = 82) (hcc : List.take 41 (List.drop (i * 41) cc) = c.cells) (ha : acc.length ≤ 10000)
    (he : Beyond H0.next H0 H) (hT : T.length = 68) (h15 : slot T 15 = .agg cc) (h16 : slot T 16 = .int .i64 i) (hg : Grown 1 H (slot T 5) H0.next acc.length (u8s acc))
    (q : c.Fits → ∀ T' H', T'.length = 68 → Beyond H0.next H0 H' → slot T' 1 = slot T 1 → slot T' 15 = slot T 15 → slot T' 16 = .int .i64 (i + 1 : Nat) → Grown 1 H' (slot T' 5) H0.next (acc ++ setS c ++ [10]).length (u8s (acc ++ setS c ++ [10])) →
      W (E O) (.code (.loop c18_l0) :: k) .norm ⟨T', [], .no, H'⟩ (Fin (E O) [.tmp 2, .tmp 3, .tmp 4] Q))
    (qp : ¬ c.Fits → ∀ T' H', T'.length = 68 → Beyond H0.next H0 H' → slot T' 2 = .str [] → slot T' 3 = .int .i64 (-1) → slot T' 4 = .int .i64 1 → W (E O) k .ret ⟨T', [], .no, H'⟩ (Fin (E O) [.tmp 2, .tmp 3, .tmp 4] Q)) :
    W (E O) (.code (.loop c18_l0) :: k) .norm ⟨T, [], .no, H⟩ (Fin (E O) [.tmp 2, .tmp 3, .tmp 4] Q) := by
  have hz : [AV.int .u8 0, AV.int .u8 0, AV.int .u8 0, AV.int .u8 0, AV.int .u8 0, AV.int .u8 0, AV.int .u8 0, AV.int .u8 0, AV.int .u8 0, AV.int .u8 0, AV.int .u8 0, AV.int .u8 0, AV.int .u8 0, AV.int .u8 0, AV.int .u8 0, AV.int .u8 0, AV.int .u64 0, AV.int .i64 0, AV.int .u32 0, AV.int .u16 0, AV.int .u16 0, AV.int .i64 0, AV.int .i64 0, AV.int .u16 0, AV.int .u16 0, AV.int .i64 0, AV.int .i64 0, AV.int .i64 0, AV.int .i64 0, AV.int .i64 0, AV.int .i64 0, AV.int .i64 0, AV.int .i64 0, AV.int .i64 0, AV.int .i64 0, AV.int .i64 0, AV.int .i64 0, AV.int .i64 0, AV.bool false, AV.bool false, AV.bool false] = Conf.zero.cells := rfl
  have l := Conf.ln hk
  have t : List.take 41 c.cells = c.cells := by rw [← l, List.take_length]
  have hi' : (i : Int) < 2 := by omega
  have hw : IntKind.i64.wrap ((i : Int) + 1) = (i : Int) + 1 := wrap64 (by omega) (by omega)
  rw [W_loopE]
  simp [c18_l0, c18_r3, h16, hT, hi', -AV.isCell, -List.all_eq_true]
  rw [c18_r4, hz]
  simp [h15, h16, hT, hi, hcl, hcc, l, t, Conf.al, Conf.ovr hk Conf.zok, wr, -AV.isCell, -List.all_eq_true]
  generalize hH1 : Heap.set _ H.next _ = H1
  have e1 : H.ext [] H1 := by subst hH1; exact ((Heap.ext_refl _ _).new _).set _ _ (.inr (by omega))
  have g1 : H1.get H.next = some (.cells 0 c.cells true) := by subst hH1; simp
  clear hH1
  simp [c18_r5, hT, g1, l, t, -AV.isCell, -List.all_eq_true]
  refine Setting_ok hk fun H2 e2 => ?_
  have e12 := e1.trans e2
  have b2 : Beyond H0.next H0 H2 := he.trans (Beyond.of_ext (S := []) e12 he.1 (fun _ hi => by cases hi))
  by_cases hf : c.Fits
  · have hE : setE c = 0 := by simp [setE, hf]
    have hsl := setS_len hk
    simp [c18_r6, c18_r8, hT, hE, -AV.isCell, -List.all_eq_true]
    refine afterStr (hg.mono e12) (Nat.le_trans he.1 e12.1) (setS_ne hf) (by omega) fun av3 H3 hg3 he3 => ?_
    simp [hT, -AV.isCell, -List.all_eq_true]
    refine afterNl hg3 (Nat.le_trans b2.1 he3.1) (by simp; omega) fun av4 H4 hg4 he4 => ?_
    simp [hT, c18_r9, h16, hw, -AV.isCell, -List.all_eq_true]
    exact q hf _ H4 (by simp [hT]) (b2.trans (he3.trans he4)) (by simp) (by simp) (by simp [hT]) (by simpa [hT] using hg4)
  · have hE : setE c = 1 := by simp [setE, hf]
    simp [c18_r6, c18_r7, hT, hE, -AV.isCell, -List.all_eq_true]
    exact qp hf _ H2 (by simp [hT]) b2 (by simp [hT]) (by simp [hT]) (by simp [hT])

set_option maxHeartbeats 4000000 in
theorem Print_ok {H : Heap} {c0 c1 : Conf} {v : AV} {ds : List Deed} (hk0 : c0.Ok) (hk1 : c1.Ok) (hs : DeedSl O H v ds) (hok : ∀ d ∈ ds, d.Ok ∧ d.data.length < 2 ^ 62) {Q : AEnd → RS → Heap → Prop}
    (q : ∀ H', H.ext [] H' → Q (.ret (.tuple [.str (prR c0 c1 ds).1, .int .i64 (prR c0 c1 ds).2.1, .int .i64 (prR c0 c1 ds).2.2])) .no H') : CallOk (E O) 18 [.agg (c0.cells ++ c1.cells ++ [v])] .no H Q := by
  have l0 := Conf.ln hk0
  have l1 := Conf.ln hk1
  have hz : [AV.int .u8 0, AV.int .u8 0, AV.int .u8 0, AV.int .u8 0, AV.int .u8 0, AV.int .u8 0, AV.int .u8 0, AV.int .u8 0, AV.int .u8 0, AV.int .u8 0, AV.int .u8 0, AV.int .u8 0, AV.int .u8 0, AV.int .u8 0, AV.int .u8 0, AV.int .u8 0, AV.int .u64 0, AV.int .i64 0, AV.int .u32 0, AV.int .u16 0, AV.int .u16 0, AV.int .i64 0, AV.int .i64 0, AV.int .u16 0, AV.int .u16 0, AV.int .i64 0, AV.int .i64 0, AV.int .i64 0, AV.int .i64 0, AV.int .i64 0, AV.int .i64 0, AV.int .i64 0, AV.int .i64 0, AV.int .i64 0, AV.int .i64 0, AV.int .i64 0, AV.int .i64 0, AV.int .i64 0, AV.bool false, AV.bool false, AV.bool false] = Conf.zero.cells := rfl
  have t0 : List.take 41 c0.cells = c0.cells := by rw [← l0, List.take_length]
  have t1 : List.take 41 c1.cells = c1.cells := by rw [← l1, List.take_length]
  have t82 : List.take 82 (c0.cells ++ (c1.cells ++ [v])) = c0.cells ++ c1.cells := by
    rw [← List.append_assoc, List.take_left' (by simp [l0, l1])]
  have i0 : List.take 41 (c0.cells ++ c1.cells) = c0.cells := List.take_left' l0
  have i1 : List.drop 41 (c0.cells ++ c1.cells) = c1.cells := List.drop_left' l0
  have g82 : (c0.cells ++ (c1.cells ++ [v]))[82]? = some v := by
    rw [← List.append_assoc, List.getElem?_append_right (by simp [l0, l1])]; simp [l0, l1]
  refine CallOk.go c18 rfl rfl ?_
  simp [c18, c18_r0, c18_r1, c18_r2, t82, l0, l1, -AV.isCell, -List.all_eq_true]
  have e0 : H.ext [] (H.new (.cells 0 (c0.cells ++ (c1.cells ++ [v])) true)) := (Heap.ext_refl _ _).new _
  have g0 : (H.new (.cells 0 (c0.cells ++ (c1.cells ++ [v])) true)).get H.next = some (.cells 0 (c0.cells ++ (c1.cells ++ [v])) true) := by simp
  have n0 : (H.new (.cells 0 (c0.cells ++ (c1.cells ++ [v])) true)).next = H.next + 1 := by simp
  generalize H.new (.cells 0 (c0.cells ++ (c1.cells ++ [v])) true) = H0 at *
  have fin : ∀ T' H', Beyond H0.next H0 H' → T'.length = 68 → slot T' 2 = .str [] → slot T' 3 = .int .i64 (-1) → slot T' 4 = .int .i64 1 → ¬ (c0.Fits ∧ c1.Fits) → Q (.ret (.tuple [slot T' 2, slot T' 3, slot T' 4])) .no H' := fun T' H' b hT h2 h3 h4 hn => by
    rw [h2, h3, h4]
    have := q H' (e0.trans (b.ext rfl))
    rw [prR, if_neg hn] at this
    exact this
  refine step18_0 (i := 0) (c := c0) (cc := c0.cells ++ c1.cells) (acc := []) (by omega) hk0 (by simp [l0, l1]) (by simpa using i0) (by simp) (Beyond.refl _ _) (by simp) (by simp) (by simp) (by simpa [u8s] using Grown.nil) ?_ ?_
  rotate_left
  · intro hf T' H' a1 a2 a3 a4 a5
    simp [a1]
    have := fin T' H' a2 a1 a3 a4 a5 (fun h => hf h.1)
    simpa [a3, a4, a5] using this
  intro hf0 T1 H1 a1 a2 a3 a4 a5 a6
  simp at a3 a4
  refine step18_0 (i := 1) (c := c1) (cc := c0.cells ++ c1.cells) (acc := [] ++ setS c0 ++ [10]) (by omega) hk1 (by simp [l0, l1]) (by rw [Nat.one_mul, i1]; exact t1) (by have := setS_len hk0; simp; omega) a2 a1 (by simpa using a4) a5 a6 ?_ ?_
  rotate_left
  · intro hf T' H' a1 a2 a3 a4 a5
    simp [a1]
    have := fin T' H' a2 a1 a3 a4 a5 (fun h => hf h.2)
    simpa [a3, a4, a5] using this
  intro hf1 T2 H2 b1 b2 b3 b4 b5 b6
  rw [a3] at b3
  rw [List.nil_append] at b6
  have e2 : H0.ext [] H2 := b2.ext rfl
  have g2 := (e2.2 _ (by omega) (by simp)).trans g0
  have hs2 := hs.mono (e0.trans e2)
  have b5' : slot T2 16 = .int .i64 2 := b5
  rw [W_loopE]
  simp [c18_l0, c18_r3, b5', b1, c18_r10, b3, g2, g82, hs2.1, -AV.isCell, -List.all_eq_true]
  by_cases hm : 65536 < ds.length
  · have hm' : (65536 < (ds.length : Int)) := by omega
    simp [hm, hm', c18_r11, b1, -AV.isCell, -List.all_eq_true]
    have := q H2 (e0.trans e2)
    rw [prR, if_pos ⟨hf0, hf1⟩, if_pos hm] at this
    exact this
  have hm' : ¬ (65536 < (ds.length : Int)) := by omega
  simp [hm, hm', c18_r12, b1, b3, g2, g82, hs2.1, -AV.isCell, -List.all_eq_true]
  have hpr : prR c0 c1 ds = prT (prD ds 0 (setS c0 ++ [10] ++ setS c1 ++ [10])) := by rw [prR, if_pos ⟨hf0, hf1⟩, if_neg hm]
  have hl0 := setS_len hk0
  have hl1 := setS_len hk1
  refine loop18_1 (H0 := H0) (hs.mono e0) hok (by omega) ds [] (setS c0 ++ [10] ++ setS c1 ++ [10]) _ H2 rfl (by simp; omega) b2 (by simp [b1]) (by simp [b1]) (by simp [b1]) (by simp [b1]) (by simpa [b1] using b6) ?_ ?_
  rotate_left
  · intro T' H' i d0 d1 d2 d3 d4 d5
    simp [d1, d3, d4, d5]
    have := q H' (e0.trans (d2.ext rfl))
    simp only [List.length_nil] at d0
    rw [hpr, d0] at this
    exact this
  intro T3 H3 acc d0 d1 d2 d3 d4
  simp only [List.length_nil] at d0
  rw [d0, prT] at hpr
  simp [c18_r21, d1, d3.len, -AV.isCell, -List.all_eq_true]
  by_cases hx : 4194304 < acc.length
  · have hx' : (4194304 < (acc.length : Int)) := by omega
    simp [hx, hx', c18_r22, d1, -AV.isCell, -List.all_eq_true]
    have := q H3 (e0.trans (d2.ext rfl))
    rw [hpr, if_pos hx] at this
    exact this
  have hx' : ¬ (4194304 < (acc.length : Int)) := by omega
  have hel := d3.elems (O := O)
  simp [hx, hx', c18_r23, d1, hel, -AV.isCell, -List.all_eq_true]
  have := q H3 (e0.trans (d2.ext rfl))
  rw [hpr, if_neg hx] at this
  rcases d3.2 with ⟨h, -⟩ | ⟨j, u, h, -⟩ <;> simp [h, d1] <;> exact this
end Go.S

namespace Go.S
open Go Go.Ab Go.RowKit Go.Proofs
variable {O : Old}

set_option maxHeartbeats 2000000 in
theorem loop19_1 {k : List K} {Q : AEnd → RS → Heap → Prop} {H0 : Heap} {ds : List Deed} {v : AV} {r : Nat} {cs : List AV} (hr0 : H0.get r = some (.cells 0 cs true)) (hrn : r < H0.next) (h82 : cs[82]? = some v) (hs : DeedSl O H0 v ds) (hok : ∀ d ∈ ds, d.Ok ∧ d.data.length < 2 ^ 62) (hn : ds.length ≤ 65536) : ∀ (rest done : List Deed) (acc : B) (T : List AV) (H : Heap),
    ds = done ++ rest → acc.length ≤ 30000000 → Beyond H0.next H0 H → T.length = 65 → slot T 1 = .ptr r 0 0 → slot T 9 = .int .i64 done.length → Grown 1 H (slot T 5) H0.next acc.length (u8s acc) →
    (∀ T' H' acc', prD rest done.length acc = .inl acc' → T'.length = 65 → Beyond H0.next H0 H' → Grown 1 H' (slot T' 5) H0.next acc'.length (u8s acc') → acc'.length ≤ 30000000 → W (E O) k (.exit 2) ⟨T', [], .no, H'⟩ (Fin (E O) [.tmp 2, .tmp 3, .tmp 4] Q)) →
    (∀ T' H' i, prD rest done.length acc = .inr i → T'.length = 65 → Beyond H0.next H0 H' → slot T' 2 = .str [] → slot T' 3 = .int .i64 i → slot T' 4 = .int .i64 1 → W (E O) k .ret ⟨T', [], .no, H'⟩ (Fin (E O) [.tmp 2, .tmp 3, .tmp 4] Q)) →
    W (E O) (.code (.loop c19_l1) :: k) .norm ⟨T, [], .no, H⟩ (Fin (E O) [.tmp 2, .tmp 3, .tmp 4] Q)
  | [], done, acc, T, H, hd, ha, he, hT, h1, h9, hg, q, qp => by
    rw [W_loopE]
    simp at hd
    subst hd
    have gr := (he.2 r hrn).trans hr0
    simp [c19_l1, c19_r12, h1, h9, hT, gr, h82, hs.1]
    exact q _ H acc rfl (by simp [hT]) he (by simpa [hT] using hg) ha
  | d :: rest, done, acc, T, H, hd, ha, he, hT, h1, h9, hg, q, qp => by
    rw [W_loopE]
    have hl : done.length < ds.length := by rw [hd]; simp
    have hdd : ds[done.length]? = some d := by rw [hd]; simp
    obtain ⟨a, u, ha1, ha2⟩ := hs.2 done.length d hdd
    obtain ⟨ok, hm⟩ := hok d (by rw [hd]; simp)
    have e0 : H0.ext [] H := he.ext rfl
    obtain ⟨hr, hb⟩ := ha2 H e0
    have gr := (he.2 r hrn).trans hr0
    have hw : IntKind.i64.wrap ((done.length : Int) + 1) = (done.length : Int) + 1 := wrap64 (by omega) (by omega)
    simp [c19_l1, c19_r12, h1, h9, hT, gr, h82, hs.1, hl, c19_r13, ha1, hr, -AV.isCell, -List.all_eq_true]
    refine Line_ref ok hb hm fun H2 e2 => ?_
    rw [lineS_same ok, lineE_same ok]
    have b2 : Beyond H0.next H0 H2 := he.trans (Beyond.of_ext (S := []) e2 he.1 (fun _ hi => by cases hi))
    simp [c19_r14, hT, -AV.isCell, -List.all_eq_true]
    by_cases hE : lineE d = 0
    · have hg2 := hg.mono e2
      have hll := lineS_len ok
      have hmx : (lineS d).length + 1 ≤ maxInt := maxInt_le (by omega)
      simp [hE, c19_r16, hT, hg2.len, -AV.isCell, -List.all_eq_true]
      have hpr : prD (d :: rest) done.length acc = prD rest (done.length + 1) (if acc.length ≤ 4194304 then acc ++ lineS d ++ [10] else acc) := by rw [prD, if_pos hE]
      by_cases hc : acc.length ≤ 4194304
      · have hc' : ((acc.length : Int) ≤ 4194304) := by omega
        rw [if_pos hc] at hpr
        simp [hc', c19_r17, hT, hmx, -AV.isCell, -List.all_eq_true]
        refine afterStr (s := lineS d ++ [10]) hg2 b2.1 (by simp) (by simp; omega) fun av3 H3 hg3 he3 => ?_
        rw [← List.append_assoc] at hg3
        simp [hT, c19_r18, h9, hw, -AV.isCell, -List.all_eq_true]
        refine loop19_1 hr0 hrn h82 hs hok hn rest (done ++ [d]) (acc ++ lineS d ++ [10]) _ H3 (by simp [hd]) (by simp; omega) (b2.trans he3) (by simp [hT]) (by simp [h1]) (by simp [hT]) (by simpa [hT] using hg3) ?_ ?_
        · intro T' H' acc' a1
          exact q T' H' acc' (by rw [hpr]; simpa using a1)
        · intro T' H' i a1
          exact qp T' H' i (by rw [hpr]; simpa using a1)
      · have hc' : ¬ ((acc.length : Int) ≤ 4194304) := by omega
        rw [if_neg hc] at hpr
        simp [hc', c19_r18, h9, hT, hw, -AV.isCell, -List.all_eq_true]
        refine loop19_1 hr0 hrn h82 hs hok hn rest (done ++ [d]) acc _ H2 (by simp [hd]) ha b2 (by simp [hT]) (by simp [h1]) (by simp [hT]) (by simpa [hT] using hg2) ?_ ?_
        · intro T' H' acc' a1
          exact q T' H' acc' (by rw [hpr]; simpa using a1)
        · intro T' H' i a1
          exact qp T' H' i (by rw [hpr]; simpa using a1)
    · have hE1 : lineE d = 1 := lineE_one hE
      simp [hE1, c19_r15, h9, hT, -AV.isCell, -List.all_eq_true]
      exact qp _ H2 done.length (by rw [prD, if_neg hE]) (by simp [hT]) b2 (by simp [hT]) (by simp [hT]) (by simp [hT])

set_option maxHeartbeats 4000000 in
theorem step19_0 {k : List K} {Q : AEnd → RS → Heap → Prop} {H0 H : Heap} {c : Conf} {cs : List AV} {i r : Nat} {acc : B} {T : List AV} (hr0 : H0.get r = some (.cells 0 cs true)) (hrn : r < H0.next) (hi : i < 2) (hk : c.Ok) (hcc : List.take 41 (List.drop (i * 41) cs) = c.cells) (ha : acc.length ≤ 10000)
    (he : Beyond H0.next H0 H) (hT : T.length = 65) (h1 : slot T 1 = .ptr r 0 0) (h6 : slot T 6 = .int .i64 i) (hg : Grown 1 H (slot T 5) H0.next acc.length (u8s acc))
    (q : c.Fits → ∀ T' H', T'.length = 65 → Beyond H0.next H0 H' → slot T' 1 = slot T 1 → slot T' 6 = .int .i64 (i + 1 : Nat) → Grown 1 H' (slot T' 5) H0.next (acc ++ setS c ++ [10]).length (u8s (acc ++ setS c ++ [10])) →
      W (E O) (.code (.loop c19_l0) :: k) .norm ⟨T', [], .no, H'⟩ (Fin (E O) [.tmp 2, .tmp 3, .tmp 4] Q))
    (qp : ¬ c.Fits → ∀ T' H', T'.length = 65 → Beyond H0.next H0 H' → slot T' 2 = .str [] → slot T' 3 = .int .i64 (-1) → slot T' 4 = .int .i64 1 → W (E O) k .ret ⟨T', [], .no, H'⟩ (Fin (E O) [.tmp 2, .tmp 3, .tmp 4] Q)) :
    W (E O) (.code (.loop c19_l0) :: k) .norm ⟨T, [], .no, H⟩ (Fin (E O) [.tmp 2, .tmp 3, .tmp 4] Q) := by
  have l := Conf.ln hk
  have hi' : (i : Int) < 2 := by omega
  have hw : IntKind.i64.wrap ((i : Int) + 1) = (i : Int) + 1 := wrap64 (by omega) (by omega)
  have gr := (he.2 r hrn).trans hr0
  rw [W_loopE]
  simp [c19_l0, c19_r3, h6, hT, hi', c19_r4, h1, hi, gr, hcc, l, -AV.isCell, -List.all_eq_true]
  refine setting_ref hk fun H2 e2 => ?_
  have b2 : Beyond H0.next H0 H2 := he.trans (Beyond.of_ext (S := []) e2 he.1 (fun _ hi => by cases hi))
  by_cases hf : c.Fits
  · have hE : setE c = 0 := by simp [setE, hf]
    have hsl := setS_len hk
    have hmx : (setS c).length + 1 ≤ maxInt := maxInt_le (by omega)
    simp [c19_r5, c19_r7, hT, hE, hmx, -AV.isCell, -List.all_eq_true]
    refine afterStr (s := setS c ++ [10]) (hg.mono e2) b2.1 (by simp) (by simp; omega) fun av3 H3 hg3 he3 => ?_
    rw [← List.append_assoc] at hg3
    simp [hT, c19_r8, h6, hw, -AV.isCell, -List.all_eq_true]
    exact q hf _ H3 (by simp [hT]) (b2.trans he3) (by simp) (by simp [hT]) (by simpa [hT] using hg3)
  · have hE : setE c = 1 := by simp [setE, hf]
    simp [c19_r5, c19_r6, hT, hE, -AV.isCell, -List.all_eq_true]
    exact qp hf _ H2 (by simp [hT]) b2 (by simp [hT]) (by simp [hT]) (by simp [hT])

set_option maxHeartbeats 4000000 in
theorem print_ref {H : Heap} {c0 c1 : Conf} {v : AV} {ds : List Deed} (hk0 : c0.Ok) (hk1 : c1.Ok) (hs : DeedSl O H v ds) (hok : ∀ d ∈ ds, d.Ok ∧ d.data.length < 2 ^ 62) {Q : AEnd → RS → Heap → Prop}
    (q : ∀ H', H.ext [] H' → Q (.ret (.tuple [.str (prR c0 c1 ds).1, .int .i64 (prR c0 c1 ds).2.1, .int .i64 (prR c0 c1 ds).2.2])) .no H') : CallOk (E O) 19 [.agg (c0.cells ++ c1.cells ++ [v])] .no H Q := by
  have l0 := Conf.ln hk0
  have l1 := Conf.ln hk1
  have i0 : List.take 41 (c0.cells ++ (c1.cells ++ [v])) = c0.cells := List.take_left' l0
  have i1 : List.take 41 (List.drop 41 (c0.cells ++ (c1.cells ++ [v]))) = c1.cells := by rw [List.drop_left' l0, List.take_left' l1]
  have g82 : (c0.cells ++ (c1.cells ++ [v]))[82]? = some v := by
    rw [← List.append_assoc, List.getElem?_append_right (by simp [l0, l1])]; simp [l0, l1]
  refine CallOk.go c19 rfl rfl ?_
  simp [c19, c19_r0, c19_r1, c19_r2, l0, l1, -AV.isCell, -List.all_eq_true]
  have e0 : H.ext [] (H.new (.cells 0 (c0.cells ++ (c1.cells ++ [v])) true)) := (Heap.ext_refl _ _).new _
  have g0 : (H.new (.cells 0 (c0.cells ++ (c1.cells ++ [v])) true)).get H.next = some (.cells 0 (c0.cells ++ (c1.cells ++ [v])) true) := by simp
  have n0 : (H.new (.cells 0 (c0.cells ++ (c1.cells ++ [v])) true)).next = H.next + 1 := by simp
  generalize H.new (.cells 0 (c0.cells ++ (c1.cells ++ [v])) true) = H0 at *
  have fin : ∀ T' H', Beyond H0.next H0 H' → T'.length = 65 → slot T' 2 = .str [] → slot T' 3 = .int .i64 (-1) → slot T' 4 = .int .i64 1 → ¬ (c0.Fits ∧ c1.Fits) → Q (.ret (.tuple [slot T' 2, slot T' 3, slot T' 4])) .no H' := fun T' H' b hT h2 h3 h4 hn => by
    rw [h2, h3, h4]
    have := q H' (e0.trans (b.ext rfl))
    rw [prR, if_neg hn] at this
    exact this
  refine step19_0 (i := 0) (c := c0) (acc := []) g0 (by omega) (by omega) hk0 (by simpa using i0) (by simp) (Beyond.refl _ _) (by simp) (by simp) (by simp) (by simpa [u8s] using Grown.nil) ?_ ?_
  rotate_left
  · intro hf T' H' a1 a2 a3 a4 a5
    simp [a1]
    have := fin T' H' a2 a1 a3 a4 a5 (fun h => hf h.1)
    simpa [a3, a4, a5] using this
  intro hf0 T1 H1 a1 a2 a3 a5 a6
  simp at a3
  refine step19_0 (i := 1) (c := c1) (acc := [] ++ setS c0 ++ [10]) g0 (by omega) (by omega) hk1 (by rw [Nat.one_mul]; exact i1) (by have := setS_len hk0; simp; omega) a2 a1 a3 a5 a6 ?_ ?_
  rotate_left
  · intro hf T' H' a1 a2 a3 a4 a5
    simp [a1]
    have := fin T' H' a2 a1 a3 a4 a5 (fun h => hf h.2)
    simpa [a3, a4, a5] using this
  intro hf1 T2 H2 b1 b2 b3 b5 b6
  rw [a3] at b3
  rw [List.nil_append] at b6
  have e2 : H0.ext [] H2 := b2.ext rfl
  have g2 := (e2.2 _ (by omega) (by simp)).trans g0
  have hs2 := hs.mono (e0.trans e2)
  have b5' : slot T2 6 = .int .i64 2 := b5
  rw [W_loopE]
  simp [c19_l0, c19_r3, b5', b1, c19_r9, b3, g2, g82, hs2.1, -AV.isCell, -List.all_eq_true]
  by_cases hm : 65536 < ds.length
  · have hm' : (65536 < (ds.length : Int)) := by omega
    simp [hm, hm', c19_r10, b1, -AV.isCell, -List.all_eq_true]
    have := q H2 (e0.trans e2)
    rw [prR, if_pos ⟨hf0, hf1⟩, if_pos hm] at this
    exact this
  have hm' : ¬ (65536 < (ds.length : Int)) := by omega
  simp [hm, hm', c19_r11, b1, -AV.isCell, -List.all_eq_true]
  have hpr : prR c0 c1 ds = prT (prD ds 0 (setS c0 ++ [10] ++ setS c1 ++ [10])) := by rw [prR, if_pos ⟨hf0, hf1⟩, if_neg hm]
  have hl0 := setS_len hk0
  have hl1 := setS_len hk1
  refine loop19_1 (H0 := H0) g0 (by omega) g82 (hs.mono e0) hok (by omega) ds [] (setS c0 ++ [10] ++ setS c1 ++ [10]) _ H2 rfl (by simp; omega) b2 (by simp [b1]) (by simp [b3]) (by simp [b1]) (by simpa [b1] using b6) ?_ ?_
  rotate_left
  · intro T' H' i d0 d1 d2 d3 d4 d5
    simp [d1, d3, d4, d5]
    have := q H' (e0.trans (d2.ext rfl))
    simp only [List.length_nil] at d0
    rw [hpr, d0] at this
    exact this
  intro T3 H3 acc d0 d1 d2 d3 d4
  simp only [List.length_nil] at d0
  rw [d0, prT] at hpr
  simp [c19_r19, d1, d3.len, -AV.isCell, -List.all_eq_true]
  by_cases hx : 4194304 < acc.length
  · have hx' : (4194304 < (acc.length : Int)) := by omega
    simp [hx, hx', c19_r20, d1, -AV.isCell, -List.all_eq_true]
    have := q H3 (e0.trans (d2.ext rfl))
    rw [hpr, if_pos hx] at this
    exact this
  have hx' : ¬ (4194304 < (acc.length : Int)) := by omega
  have hel := d3.elems (O := O)
  simp [hx, hx', c19_r21, d1, hel, -AV.isCell, -List.all_eq_true]
  have := q H3 (e0.trans (d2.ext rfl))
  rw [hpr, if_neg hx] at this
  rcases d3.2 with ⟨h, -⟩ | ⟨j, u, h, -⟩ <;> simp [h, d1] <;> exact this
end Go.S

namespace Go.S
open Go Go.Ab Go.RowKit Go.Proofs
variable {O : Old}

theorem prints_law {H : Heap} {c0 c1 : Conf} {v : AV} {ds : List Deed} (hk0 : c0.Ok) (hk1 : c1.Ok) (hs : DeedSl O H v ds) (hok : ∀ d ∈ ds, d.Ok ∧ d.data.length < 2 ^ 62) {Q : AEnd → RS → Heap → Prop}
    (q : ∀ H', H.ext [] H' → Q (.ret (.bool true)) .no H') : CallOk (E O) 5 [.agg (c0.cells ++ c1.cells ++ [v])] .no H Q := by
  have l0 := Conf.ln hk0
  have l1 := Conf.ln hk1
  have hl : (c0.cells ++ c1.cells ++ [v]).length = 83 := by simp [l0, l1]
  have ht : List.take 83 (c0.cells ++ c1.cells ++ [v]) = c0.cells ++ c1.cells ++ [v] := by rw [← hl, List.take_length]
  generalize hcs : c0.cells ++ c1.cells ++ [v] = cs at hl ht
  refine CallOk.go c5 rfl rfl ?_
  simp [c5, c5_r0, c5_r1, hl, ht, -AV.isCell, -List.all_eq_true]
  have e0 : H.ext [] (H.new (.cells 0 cs true)) := (Heap.ext_refl _ _).new _
  have g0 : (H.new (.cells 0 cs true)).get H.next = some (.cells 0 cs true) := by simp
  have n0 : (H.new (.cells 0 cs true)).next = H.next + 1 := by simp
  generalize H.new (.cells 0 cs true) = H0 at *
  subst hcs
  refine Print_ok hk0 hk1 (hs.mono e0) hok fun H1 e1 => ?_
  have e01 := e0.trans e1
  have n1 := e1.1
  have g1 := (e1.2 _ (by omega) (by simp)).trans g0
  simp only [List.append_assoc] at g1 hl ht
  simp [c5_r2, g1, hl, ht, -AV.isCell, -List.all_eq_true]
  rw [← List.append_assoc]
  refine print_ref hk0 hk1 (hs.mono e01) hok fun H2 e2 => ?_
  simp [c5_r3, -AV.isCell, -List.all_eq_true]
  refine alive_ok fun H3 e3 => ?_
  simp
  exact q _ ((e01.trans e2).trans e3)
end Go.S

namespace Go.Proofs.YtkgpnpgocgllnaaGreatDoor.prints
open Go Go.Ab Go.S Go.RowKit Go.Proofs Go.ChangeShapes Go.WideShapes
open Go.ChangeMaps (open_string shut_string)

theorem bulk_le {H : Type} {d : DataW H} {l : List (DataW H)} (h : d ∈ l) : Rows.uptoBulk d ≤ Rows.uptoBulkAll l := by
  induction l with
  | nil => cases h
  | cons x r ih =>
    simp only [Rows.uptoBulkAll]
    rcases List.mem_cons.1 h with e | e
    · subst e; omega
    · have := ih e; omega

theorem params_ok : ∀ t ∈ Tryz.f5.params.toList, Tryz.prog.readableRec t = true ∧ t < Tryz.prog.types.size := by
  rw [Tryz.params5]
  intro t ht
  simp only [List.mem_cons, List.not_mem_nil, or_false] at ht
  subst ht
  exact ⟨by kernel_rfl, of_decide_eq_true (by kernel_rfl)⟩

set_option maxRecDepth 100000 in
theorem contract (H : Type) (enc : TypeId × Value → H) (W : World) (base : Nat) (args : Array Value) (ds gs : List (DataW H)) (before : List MemPlace)
    (hval : ∀ (j : Nat) t v, Tryz.f5.params[j]? = some t → args[j]? = some v → Value.okWide Tryz.prog W .any base t v)
    (hW : DataW.Whole enc Tryz.prog Tryz.f5.params.toList Rows.scriptPrintsSpec.vars false W args.toList ds gs before)
    (hcond : Rows.uptoSmall H (ds ++ gs) = true) (hL : laidMetH Tryz.prog Rows.scriptPrintsUptoRow.laid W) (hsh : W.ShapedOpen Tryz.prog) :
    Calls Tryz.prog 5 args W fun e W' => ∃ v, e = .returned v ∧ Rows.scriptPrintsSpec.post enc Tryz.prog Tryz.f5 false true false false W args v W' := by
  have hW' := hW
  obtain ⟨p, q, hA0, hV, rfl, hfz, hnd⟩ := hW
  have hA : DataW.TrodAll enc Tryz.prog W 0 (fun _ => true) true Tryz.f5.params.toList args.toList ds p := hA0
  rw [Tryz.params5] at hA hval
  obtain ⟨v0, vs0, d0, ds0, p0, q0, hargs, rfl, rfl, h0, r0⟩ := trodAll_cons hA
  obtain ⟨rfl, rfl, rfl⟩ := trodAll_nil r0
  obtain rfl : args = #[v0] := by cases args; simp_all
  obtain ⟨rfl, rfl⟩ := trodVars_none hV
  obtain ⟨cs, c0, c1, w, sds, rfl, hk0, hk1, hc, hds, hok⟩ := script_of (hval 0 61 v0 rfl rfl) h0
  have hb : Rows.uptoBulkAll ([d0] ++ []) ≤ 1048576 := of_decide_eq_true hcond
  have hb0 : Rows.uptoBulk d0 ≤ 1048576 := Nat.le_trans (bulk_le (d := d0) (l := [d0] ++ []) (by simp)) hb
  have hst := startOf hL hsh
  have hrel : RelL (fun _ _ => none) [.agg (c0.cells ++ c1.cells ++ [w])] (#[Value.agg cs] : Array Value).toList := by
    refine .cons ?_ .nil
    rw [← hc]
    exact .agg (absL_rel _ _)
  have hcall := calls_of hst (f := 5) (cf := c5) rfl rfl hrel (v := .bool true) (x := .bool true) (fun ρ y hy => by cases hy; rfl)
    (prints_law hk0 hk1 (hds _) (fun e he => ⟨(hok e he).1, by have := (hok e he).2; omega⟩) (fun H' _ => rfl))
  refine hcall.mono fun e W' ⟨he, hb⟩ => ⟨.bool true, he, ?_⟩
  exact law_post params_ok rfl (by kernel_rfl) hW' hb rfl

/-- A script for the witness. -/
def confZ : List Value := List.replicate 16 (Value.int .u8 0) ++ ([.int .u64 0, .int .i64 0, .int .u32 0, .int .u16 0, .int .u16 0, .int .i64 0, .int .i64 0, .int .u16 0, .int .u16 0] : List Value) ++ List.replicate 13 (Value.int .i64 0) ++ ([.bool false, .bool false, .bool false] : List Value)
def argsZ : Array Value := #[.agg (confZ ++ confZ ++ [Value.slice none 0 0]).toArray]

set_option maxRecDepth 100000 in
theorem witness (os : Os) {H : Type} (enc : TypeId × Value → H) :
    (Rows.OpenSpec.upto Rows.scriptPrintsSpec).preRow enc Tryz.prog Tryz.f5 Rows.scriptPrintsUptoRow.domain false Rows.scriptPrintsUptoRow.laid ((laidWorld os).forCall (fun _ _ => 0) ⟨#[], argsZ, []⟩).memory argsZ := by
  have hw : (DataW.whole enc Tryz.prog ((laidWorld os).forCall (fun _ _ => 0) ⟨#[], argsZ, []⟩).memory Tryz.f5.params.toList Rows.scriptPrintsSpec.vars false argsZ.toList 8).map (fun x => Rows.uptoSmall H (x.1 ++ x.2.1)) = some true := by kernel_rfl
  obtain ⟨⟨x1, x2, x3⟩, hx, hx1⟩ := Option.map_eq_some_iff.1 hw
  exact OpenSpec.preRow_of_cond 8 hx rfl (fun k hk => by cases hk; exact hx1) (by kernel_rfl) (laid_met os _)

set_option maxRecDepth 100000 in
theorem lifted (os : Os) (started : os.Started) (H : Type) (enc : TypeId × Value → H) (F : Stop.Interp) :
    ReturnsInHanded {} Tryz.checked os 5 .any ((Rows.OpenSpec.upto Rows.scriptPrintsSpec).preRow enc Tryz.prog Tryz.f5 Rows.scriptPrintsUptoRow.domain false Rows.scriptPrintsUptoRow.laid) (((Rows.OpenSpec.upto Rows.scriptPrintsSpec).at F).post enc Tryz.prog Tryz.f5 false true false false) := by
  refine returnsInHanded_of_row (C := Tryz.checked) (s := Rows.OpenSpec.upto Rows.scriptPrintsSpec) own started (by kernel_rfl) Tryz.func5
    (witness_row_atRef (enc := enc) (C := Tryz.checked) false (laidWorld os) argsZ rfl (by kernel_rfl) (by kernel_rfl) (by kernel_rfl) (witness os enc)) ?_
  intro W base args ds gs before hval hW _ hcond _ hL hsh _
  exact contract H enc W base args ds gs before hval hW (hcond _ rfl) hL hsh

theorem said : Rows.ScriptPrintsUptoSaid :=
  OpenClaim.holds_of_cond 5 Tryz.f5 rfl rfl rfl rfl rfl rfl rfl ⟨rfl, rfl, rfl, rfl, rfl⟩ rfl rfl rfl rfl rfl (by kernel_rfl) Tryz.func5 (by kernel_rfl)
    (of_decide_eq_true (by kernel_rfl)) (by unfold Func.isWrapper; first | (rw [if_pos (by decide +kernel)]; kernel_rfl) | (rw [if_neg (by decide +kernel)]; exact ⟨rfl, rfl⟩))
    (fun os started H enc _ F => by rw [OpenClaim.pre_eq_preRow]; exact lifted os started H enc F)

theorem plain (f : FuncId) (fn : Func) (hf : Tryz.pinned.checked.prog.funcNamed "ropewalk/ropewalklaw25.ScriptPrints" = some f) (hfn : Tryz.pinned.checked.prog.funcs[f]? = some fn) :
    true = Tryz.pinned.checked.prog.looks [] ∧ ∀ (j : Nat) t, fn.params[j]? = some t → Tryz.pinned.checked.prog.wantsStandIn t = false := by
  obtain rfl : f = 5 := Option.some.inj ((show Tryz.prog.funcNamed "ropewalk/ropewalklaw25.ScriptPrints" = some 5 by kernel_rfl).symm.trans hf) |>.symm
  obtain rfl : fn = Tryz.f5 := (Option.some.inj (Tryz.func5.symm.trans hfn)).symm
  refine ⟨by kernel_rfl, fun j t ht => ?_⟩
  rw [Tryz.params5] at ht
  have hm := Array.mem_of_getElem? ht
  simp only [List.mem_toArray, List.mem_cons, List.not_mem_nil, or_false] at hm
  subst hm
  exact (show Tryz.prog.wantsStandIn 61 = false by kernel_rfl)
end Go.Proofs.YtkgpnpgocgllnaaGreatDoor.prints
namespace Go.Proofs.YtkgpnpgocgllnaaGreatDoor
open Go
/-- The card. -/
theorem scriptPrints_upto : Rows.ScriptPrintsUptoCardSaid :=
  Claim7.holds_tied_plain_at .later [] _ _ _ _ prints.said (fun _ h => by cases h) (by kernel_rfl) (fun _ h => by cases h) scriptPrintsUpto_row_tie rfl ⟨rfl, rfl⟩ (by kernel_rfl) rfl prints.plain (by kernel_rfl)
end Go.Proofs.YtkgpnpgocgllnaaGreatDoor
#print axioms Go.Proofs.YtkgpnpgocgllnaaGreatDoor.scriptPrints_upto

