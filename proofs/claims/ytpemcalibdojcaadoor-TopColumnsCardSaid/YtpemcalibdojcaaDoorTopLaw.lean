/- 'neonwrighttop.TopColumns' returns true for every input, and leaves its arguments as they were; the listed variables stand as the program's text lays them. -/
import Derived.Test.YtpemcalibdojcaaDoorTie
import Derived.Test.YtpemcalibdojcaaDoorCards
import Derived.ProofKit
import Derived.LaidMore
import Derived.Lay
import Derived.OpenShut
import Derived.Stop.Joined
import Derived.Carry
import Derived.SevenTiedAt
import Derived.Test.YtpemcalibdojcaaDoorTopOra
import Derived.Test.YtpemcalibdojcaaDoorTopW7
import Derived.Test.YtpemcalibdojcaaDoorHLStart2
namespace Go.Proofs.YtpemcalibdojcaaDoor
open Go Go.ChangeShapes Go.WideShapes Go.ChangeAt Go.RowKit Go.HL
set_option maxRecDepth 100000
set_option linter.unusedVariables false

theorem own : ownKnob Tryd.prog.godebug = none := by kernel_rfl
theorem laidOut : laidOutB Tryd.prog = true := by kernel_rfl
theorem gTurns : Tryd.prog.globalNamed "neonwright/bend.turns" = some 0 := by kernel_rfl
theorem tTurns : (Tryd.prog.globals[0]?).map (·.type) = some 80 := by kernel_rfl
theorem nGlobals : Tryd.prog.globals.size = 4 := by kernel_rfl
theorem cells3 : Tryd.prog.cellsOf 3 = 1 := by kernel_rfl
theorem cells24 : Tryd.prog.cellsOf 24 = 1 := by kernel_rfl

/-! ### The witness -/
noncomputable def W0 (os : Os) : World := (World.doorLaid Tryd.prog 400 os).layVars Tryd.prog [("unicode/utf8.first", Rows.laid_unicode_utf8_first)]
theorem door_met (os : Os) (args : Array Value) : laidMetH Tryd.prog Rows.topColumnsRow.laid ((W0 os).forCall (fun _ _ => 0) ⟨#[], args, []⟩).memory :=
  laidMetH_of_parts3 (fuel := 8) (laidMet_of_run' 8 (by kernel_rfl) (by kernel_rfl)) (by kernel_rfl) (by kernel_rfl)

/-! ### The table of turns in the world -/
theorem entry {W : World} {n : Nat} {x : MapEntry} {b : UInt8} {r : List UInt8} {k : Int} {f0 : FuncId}
    (h : WideElems.rd Tryd.prog 5 (WideElems.elemAt (funcToken Tryd.prog) Tryd.prog W 0 (fun _ => true) true n 79) x = some (.int .u8 k, .held (b :: r)))
    (hone : ((List.range Tryd.prog.funcs.size).filter fun f => (Tryd.prog.funcs[f]?).any (·.name.toUTF8.data.toList == b :: r)) = [f0]) :
    x.key = .int .u8 k ∧ x.val = .func (.func f0) #[] #[] := by
  have h1 := WideElems.rd_key h
  obtain ⟨z, h2, h3⟩ := WideElems.rd_val h
  constructor
  · simp only [keyOf, mapKey, Tryd.underlying5] at h1
    generalize x.key = key at h1
    cases key <;> simp at h1
    obtain ⟨⟨rfl, _⟩, rfl⟩ := h1
    rfl
  · unfold WideElems.elemAt at h2
    split at h2
    · rename_i hf
      obtain ⟨d, q⟩ := z
      simp only at h3
      subst h3
      generalize x.val = v at hf h2
      cases v <;> first
        | exact func_of_trod Tryd.underlying79 hone h2
        | (simp [Value.formed, Tryd.underlying79] at hf; done)
    · cases h2

theorem perm3 {α : Type} {a b c : α} (hab : a ≠ b) (hac : a ≠ c) (hbc : b ≠ c) {l : List α} (h : l.Perm [a, b, c]) : l = [a, b, c] ∨ l = [a, c, b] ∨ l = [b, a, c] ∨ l = [b, c, a] ∨ l = [c, a, b] ∨ l = [c, b, a] := by
  have hl := h.length_eq
  have hn : l.Nodup := h.nodup_iff.2 (by simp [hab, hac, hbc])
  have hm : ∀ x ∈ l, x = a ∨ x = b ∨ x = c := fun x hx => by simpa using h.mem_iff.1 hx
  match l, hl with
  | [x, y, z], _ =>
    simp only [List.nodup_cons, List.mem_cons, List.not_mem_nil, or_false, not_or, List.nodup_nil, and_true] at hn
    obtain ⟨⟨n1, n2⟩, n3, _⟩ := hn
    rcases hm x (by simp) with rfl | rfl | rfl <;> rcases hm y (by simp) with rfl | rfl | rfl <;> rcases hm z (by simp) with rfl | rfl | rfl <;> simp_all

theorem of_laid {W : World} (h : laidMetH Tryd.prog Rows.topColumnsRow.laid W) : ∃ (gm : Nat) (es : Array MapEntry) (clock : Nat) (c : Array Value) (t : TypeId) (fr : Nat × Nat) (el : List (C × HV)),
    W.heap[0]? = some (.cells c t fr) ∧ c[0]? = some (.map (some gm)) ∧ W.heap[gm]? = some (.map es clock) ∧ (∀ φ w, All2 (ER φ w) el es.toList) ∧
    (el = [Top.eL, Top.eR, Top.eS] ∨ el = [Top.eL, Top.eS, Top.eR] ∨ el = [Top.eR, Top.eL, Top.eS] ∨ el = [Top.eR, Top.eS, Top.eL] ∨ el = [Top.eS, Top.eL, Top.eR] ∨ el = [Top.eS, Top.eR, Top.eL]) := by
  obtain ⟨g, t, cs, fuel, p, hg, ht, hv, hd⟩ := h.funcs (List.Mem.tail _ (List.Mem.head _))
  obtain rfl := Option.some.inj (gTurns.symm.trans hg)
  obtain rfl := Option.some.inj (tTurns.symm.trans ht)
  rcases WideElems.open_map Tryd.underlying80 hd with ⟨_, hx⟩ | ⟨gm, es, clock, n, rfl, hcs, hb, _, F, hx⟩
  · simp [DataW.funcsOut] at hx
  simp only [Prod.mk.injEq] at hx
  have hcell : W.cell? ⟨0, 0, none⟩ = some (.map (some gm)) := by
    have := World.var?_cell hg hv 0
    rw [Array.eq_one_of_toList hcs] at this
    simpa using this
  obtain ⟨c, t, fr, h1, h2⟩ := cell_heap hcell
  refine ⟨gm, es, clock, c, t, fr, ?_⟩
  have hp := (WideShapes.sorted_perm (es.toList.map (WideElems.rg Tryd.prog 5 (WideElems.elemAt (funcToken Tryd.prog) Tryd.prog W 0 (fun _ => true) true n 79))))
  have hout : (DataW.map [(.int .u8 76, .held [110, 101, 111, 110, 119, 114, 105, 103, 104, 116, 47, 98, 101, 110, 100, 46, 116, 117, 114, 110, 115, 36, 50]), (.int .u8 82, .held [110, 101, 111, 110, 119, 114, 105, 103, 104, 116, 47, 98, 101, 110, 100, 46, 116, 117, 114, 110, 115, 36, 51]), (.int .u8 83, .held [110, 101, 111, 110, 119, 114, 105, 103, 104, 116, 47, 98, 101, 110, 100, 46, 116, 117, 114, 110, 115, 36, 49])] : DataW (List UInt8)) = _ := (by kernel_rfl : _ = _).trans hx.1
  have hmap := DataW.map.inj hout
  rw [← hmap] at hp
  have hget : ∀ x ∈ es.toList, ∀ y, WideElems.rg Tryd.prog 5 (WideElems.elemAt (funcToken Tryd.prog) Tryd.prog W 0 (fun _ => true) true n 79) x = y → WideElems.rd Tryd.prog 5 (WideElems.elemAt (funcToken Tryd.prog) Tryd.prog W 0 (fun _ => true) true n 79) x = some y := fun x hx y hy => by
    obtain ⟨y', h'⟩ := F.reads x hx
    rw [WideElems.rg_of h'] at hy
    rw [h', hy]
  have kL : ∀ x ∈ es.toList, WideElems.rg Tryd.prog 5 (WideElems.elemAt (funcToken Tryd.prog) Tryd.prog W 0 (fun _ => true) true n 79) x = (.int .u8 76, .held [110, 101, 111, 110, 119, 114, 105, 103, 104, 116, 47, 98, 101, 110, 100, 46, 116, 117, 114, 110, 115, 36, 50]) → ∀ φ w, ER φ w Top.eL x := fun x hx hy φ w => by
    obtain ⟨q1, q2⟩ := entry (f0 := 115) (hget x hx _ hy) (by kernel_rfl)
    exact ⟨q1, [], [], trivial, trivial, q2⟩
  have kR : ∀ x ∈ es.toList, WideElems.rg Tryd.prog 5 (WideElems.elemAt (funcToken Tryd.prog) Tryd.prog W 0 (fun _ => true) true n 79) x = (.int .u8 82, .held [110, 101, 111, 110, 119, 114, 105, 103, 104, 116, 47, 98, 101, 110, 100, 46, 116, 117, 114, 110, 115, 36, 51]) → ∀ φ w, ER φ w Top.eR x := fun x hx hy φ w => by
    obtain ⟨q1, q2⟩ := entry (f0 := 116) (hget x hx _ hy) (by kernel_rfl)
    exact ⟨q1, [], [], trivial, trivial, q2⟩
  have kS : ∀ x ∈ es.toList, WideElems.rg Tryd.prog 5 (WideElems.elemAt (funcToken Tryd.prog) Tryd.prog W 0 (fun _ => true) true n 79) x = (.int .u8 83, .held [110, 101, 111, 110, 119, 114, 105, 103, 104, 116, 47, 98, 101, 110, 100, 46, 116, 117, 114, 110, 115, 36, 49]) → ∀ φ w, ER φ w Top.eS x := fun x hx hy φ w => by
    obtain ⟨q1, q2⟩ := entry (f0 := 114) (hget x hx _ hy) (by kernel_rfl)
    exact ⟨q1, [], [], trivial, trivial, q2⟩
  have hall := perm3 (by simp) (by simp) (by simp) hp.symm
  generalize es.toList = ms at hall kL kR kS
  match ms, hall with
  | [], hall => simp at hall
  | [_], hall => simp at hall
  | [_, _], hall => simp at hall
  | _ :: _ :: _ :: _ :: _, hall => simp at hall
  | [x, y, z], hall =>
    simp only [List.map_cons, List.map_nil, List.cons.injEq, and_true] at hall
    rcases hall with ⟨a1, a2, a3⟩ | ⟨a1, a2, a3⟩ | ⟨a1, a2, a3⟩ | ⟨a1, a2, a3⟩ | ⟨a1, a2, a3⟩ | ⟨a1, a2, a3⟩
    · exact ⟨[Top.eL, Top.eR, Top.eS], h1, h2, hb, fun φ w => ⟨kL x (by simp) a1 φ w, kR y (by simp) a2 φ w, kS z (by simp) a3 φ w, trivial⟩, by simp⟩
    · exact ⟨[Top.eL, Top.eS, Top.eR], h1, h2, hb, fun φ w => ⟨kL x (by simp) a1 φ w, kS y (by simp) a2 φ w, kR z (by simp) a3 φ w, trivial⟩, by simp⟩
    · exact ⟨[Top.eR, Top.eL, Top.eS], h1, h2, hb, fun φ w => ⟨kR x (by simp) a1 φ w, kL y (by simp) a2 φ w, kS z (by simp) a3 φ w, trivial⟩, by simp⟩
    · exact ⟨[Top.eR, Top.eS, Top.eL], h1, h2, hb, fun φ w => ⟨kR x (by simp) a1 φ w, kS y (by simp) a2 φ w, kL z (by simp) a3 φ w, trivial⟩, by simp⟩
    · exact ⟨[Top.eS, Top.eL, Top.eR], h1, h2, hb, fun φ w => ⟨kS x (by simp) a1 φ w, kL y (by simp) a2 φ w, kR z (by simp) a3 φ w, trivial⟩, by simp⟩
    · exact ⟨[Top.eS, Top.eR, Top.eL], h1, h2, hb, fun φ w => ⟨kS x (by simp) a1 φ w, kR y (by simp) a2 φ w, kL z (by simp) a3 φ w, trivial⟩, by simp⟩

/-- The abstract heap at the start. -/
theorem start_of_laid {W : World} (h : laidMetH Tryd.prog Rows.topColumnsRow.laid W) : ∃ φ el, HL.Start φ W 4 11 (Top.H0 el) ∧ Top.Laid (Top.H0 el) := by
  obtain ⟨gm, es, clock, c, t, fr, el, h1, h2, h3, h4, h5⟩ := of_laid h
  refine ⟨fun j => if j < 4 then some (j, 0) else if j = 10 then some (gm, 0) else none, el, ⟨⟨fun j o hj => ?_, fun j j' o o' g b b' hq q1 q2 _ _ => ?_⟩, fun j o hj => ?_, fun g hg => ?_, fun j hj => ?_⟩, ⟨el, ?_, ?_, h5⟩⟩
  · rcases Top.H0_get hj with ⟨rfl, rfl⟩ | ⟨rfl, rfl⟩
    · refine ⟨0, 0, by simp, c, t, fr, h1, fun h => by simp at h, fun i x hx => ?_⟩
      cases i with
      | zero =>
        simp at hx
        subst hx
        exact ⟨_, by simpa using h2, gm, by simp, rfl⟩
      | succ i => simp at hx
    · exact ⟨gm, 0, by simp, es, clock, h3, rfl, fun h => by simp at h, h4 _ _⟩
  · rcases Top.H0_get q1 with ⟨_, rfl⟩ | ⟨_, rfl⟩ <;> rcases Top.H0_get q2 with ⟨_, rfl⟩ | ⟨_, rfl⟩ <;> simp [HO.rw] at hq
  · rcases Top.H0_get hj with ⟨_, rfl⟩ | ⟨_, rfl⟩ <;> rfl
  · simp [hg]
  · show (if j < 4 then some (j, 0) else if j = 10 then some (gm, 0) else none) = none
    rw [if_neg (by omega), if_neg (by omega)]
  · unfold Top.H0; rw [Hp.get_set_ne _ _ _ _ (by omega), Hp.get_set_same]
  · unfold Top.H0; rw [Hp.get_set_same]

theorem law (W : World) (hL : laidMetH Tryd.prog Rows.topColumnsRow.laid W) {H : Type} {enc : TypeId × Value → H} {n : Int} {v : Value} {d : DataW H} {ps : List MemPlace} (hd : DataW.Trod enc Tryd.prog W 0 (fun _ => true) true 22 v d ps) (hv : ∃ a l c, v = .slice a l c) :
    Calls Tryd.prog 3 #[.int .i64 n, v] W fun e W' => e = .returned (.bool true) ∧ Below W.heap.size W W' := by
  obtain ⟨a0, l0, c0, rfl⟩ := hv
  obtain ⟨φ, el, hs, hlaid⟩ := start_of_laid hL
  obtain ⟨fuel, hf⟩ := hd
  have hf' : DataW.trod enc Tryd.prog W 0 (fun _ => true) true fuel 22 [.slice a0 l0 c0] = some (d, ps) := hf
  obtain ⟨φ', n', H', y, rows, e1, l1, s1, a1, r1, q1, q2, q3⟩ := hs.rows Tryd.underlying22 Tryd.underlying24 Tryd.underlying3 cells3 cells24 hf'
  have hw := Top.law_wp (n := n) (rows := rows) (d := y) (N := n') (nx := n') (H := H') q1 (Nat.le_refl _) (hlaid.frame a1 (by omega)) l1
  have hG : Top.Y.G = 4 := nGlobals
  refine (hw.calls Top.yok (φ := φ') (W := W) (vs := [.int .i64 n, .slice a0 l0 c0]) (by rw [hG]; exact s1) ⟨rfl, r1, trivial⟩).mono fun e W' ⟨r, H2, n2, v, φ2, k1, k2, k3, k4⟩ => ?_
  subst k1
  obtain rfl : v = .bool true := k3
  exact ⟨k2, k4.os, k4.tape, k4.output, k4.size, s1.keeps k4⟩

theorem lifted (os : Os) (started : os.Started) (H : Type) (enc : TypeId × Value → H) :
    ReturnsInHanded {} Tryd.checked os 3 .any (fun w args => (Rows.topColumnsSpec.pre enc Tryd.prog Tryd.f3 [] false w args ∧ laidMetH Tryd.prog Rows.topColumnsRow.laid w) ∧ sizedMet enc Tryd.prog Tryd.f3 (OpenSpec.ofChange Rows.topColumnsSpec) false w args)
      (Rows.topColumnsSpec.post enc Tryd.prog Tryd.f3 false true false false) := by
  refine returnsInHanded_of_change_and (C := Tryd.checked) (X := fun w _ => laidMetH Tryd.prog Rows.topColumnsRow.laid w) (fun _ _ _ hh h => h.of_heap hh) own started (by kernel_rfl) Tryd.func3
    (ChangeSpec.witness_shaped (enc := enc) (C := Tryd.checked) (os := os) (X := fun w _ => laidMetH Tryd.prog Rows.topColumnsRow.laid w) false (W0 os) #[.int .i64 0, .slice none 0 0] 8 (World.layVars_os _ _ _) (World.shaped_of_ZipB (by kernel_rfl) (by kernel_rfl)) (by kernel_rfl) (by kernel_rfl) (by kernel_rfl) (door_met os _)) ?_
  intro W base args ds gs before hval0 hW _ _ hL _
  have hval : ∀ (j : Nat) t v, Tryd.f3.params[j]? = some t → args[j]? = some v → Value.okWide Tryd.prog W .any base t v := hval0
  have hW' := hW
  obtain ⟨p, q, hA0, hV, rfl, hfz, hnd⟩ := hW
  have hA : DataW.TrodAll enc Tryd.prog W 0 (fun _ => true) true Tryd.f3.params.toList args.toList ds p := hA0
  rw [Tryd.params3] at hA hval
  obtain ⟨v0, v1, d0, d1, p0, p1, rfl, rfl, rfl, h0, h1⟩ := trodAll_two hA
  obtain ⟨rfl, rfl⟩ := trodVars_none hV
  obtain ⟨x, rfl, rfl, rfl, wx⟩ := open_int Tryd.underlying3 (hval 0 3 v0 rfl rfl) h0
  have hs := okWide_slice Tryd.underlying22 (hval 1 22 v1 rfl rfl)
  clear hA0 hval0
  simp only [List.append_nil] at hW'
  have hlt : ∀ y ∈ p1, y.block < W.heap.size := fun y hy => by simpa using hW'.lt y (by simpa using hy)
  have hargs : ∀ (W' : World), Below W.heap.size W W' → DataW.Trod enc Tryd.prog W' 0 (fun b => decide (b < W.heap.size)) true 22 v1 d1 p1 :=
    fun W' hn => Below.trod laidOut (by kernel_rfl) (of_decide_eq_true (by kernel_rfl)) h1 hn hlt
  refine (law W hL (n := x) h1 hs).mono fun e W' ⟨he, hb⟩ => ?_
  subst he
  exact ⟨_, rfl, _, _, _, [], _, [], hW', trodAll_mk1 (shut_bool Tryd.underlying4 _), trodAll_mk2 (shut_int Tryd.underlying3 wx) (hargs _ hb), rfl, hb.frame _, fun h => by cases h⟩

theorem topColumns_holds : Rows.TopColumnsSaid :=
  OpenClaim.holds_of_wide 3 Tryd.f3 rfl rfl rfl rfl rfl rfl rfl ⟨rfl, rfl, rfl, rfl, rfl⟩ rfl rfl rfl rfl rfl (by kernel_rfl) Tryd.func3 (by kernel_rfl)
    (of_decide_eq_true (by kernel_rfl)) (by unfold Func.isWrapper; first | (rw [if_pos (by decide +kernel)]; kernel_rfl) | (rw [if_neg (by decide +kernel)]; exact ⟨rfl, rfl⟩))
    (fun os started H enc _ => lifted os started H enc)
theorem topColumns_card : Rows.TopColumnsCardSaid :=
  Claim7.holds_tied_plain_at .later [] [.data, .funcs, .pinned] true (true, "88895b357261ad12d8f15bf9ad1080ccfcb0dba6d15f56d9ff67a1651e8ecec4") false
    topColumns_holds (fun _ h => by cases h) (by kernel_rfl) (fun _ h => by cases h) topColumns_row_tie rfl ⟨rfl, rfl⟩ (by kernel_rfl) rfl
    (fun f fn hf hfn => by
      obtain rfl : f = 3 := Option.some.inj ((show Tryd.prog.funcNamed "neonwright/neonwrighttop.TopColumns" = some 3 by kernel_rfl).symm.trans hf) |>.symm
      obtain rfl : fn = Tryd.f3 := (Option.some.inj (Tryd.func3.symm.trans hfn)).symm
      exact ⟨by kernel_rfl, fun j t ht => by
        rw [Tryd.params3] at ht
        have hm : t ∈ [3, 22] := by simpa using Array.mem_of_getElem? ht
        have hall : ([3, 22].all fun u => !Tryd.prog.wantsStandIn u) = true := by kernel_rfl
        exact (show Tryd.prog.wantsStandIn t = false by simpa using List.all_eq_true.1 hall t hm)⟩)
    (by kernel_rfl)
#print axioms topColumns_card
end Go.Proofs.YtpemcalibdojcaaDoor
