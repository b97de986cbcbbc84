/- Soundness of the abstract operations, part 6: the operations together. Own work; no condition. -/
import Derived.Test.YtpemcalibdojcaaDoorHLHop
set_option linter.unusedVariables false
set_option linter.unusedSimpArgs false
namespace Go.HL

section
variable {P : Program} {T : Tab} {φ φ' : Phi} {w w' : World} {G N : Nat} {H H0 H' : Hp}

theorem alloc_good (h : HR φ w N H) (hN : N ≤ w.heap.size) {id : Nat} (hf : φ id = none) {s : Sem Value} {t : TypeId} {l : List C} {vs : List Value} (hs : s.run P w = .ok (.pointer (some ⟨w.heap.size, 0, none⟩)) (w.alloc (.cells vs.toArray t))) (hv : All2 (CR φ w) l vs) :
    Good P φ w N H id (do pure (.value (← s))) (.v (.c (.p id 0))) (H.set id (.cells true l)) := by
  obtain ⟨s1, s2⟩ := alloc_cells h hf hN t l vs (all2_at hv)
  exact ⟨.value (.pointer (some ⟨w.heap.size, 0, none⟩)), _, _, by simp [hs], .inl ⟨_, rfl, w.heap.size, 0, by simp [Phi.add], by simp⟩, s1, s2⟩

theorem hlen_good (hT : Tok P T) (h : HR φ w N H) {ts : Array TypeId} {ty : TypeId} {t : Nat} {x : C} {v : Value} (hv : CR φ w x v) {id : Nat} {r : HT} {cs : Array Bool}
    (hr : hbuiltin T .len [t] [.v (.c x)] H id = some (r, H')) : Good P φ w N H id (builtin .len #[t] ty cs #[v]) r H' := by
  have key : ∀ n : Nat, (Builtin.len_ #[t] ty #[v]).run P w = .ok (.int .i64 n) w → r = .v (.c (.i .i64 n)) → H' = H → Good P φ w N H id (builtin .len #[t] ty cs #[v]) r H' := by
    rintro n hrun rfl rfl
    exact good_value h (s := Builtin.len_ #[t] ty #[v]) hrun rfl
  simp only [hbuiltin] at hr
  unfold dOf at hr
  cases hti : T t with
  | none => simp [hti] at hr
  | some ti =>
    obtain ⟨i, d, z, hi, hd, _, _, _, _, hfit, _⟩ := hT _ _ hti
    simp only [hti] at hr
    split at hr
    · rename_i e j off len cap sz hdd
      injection hdd with hdd
      rw [hdd] at hfit
      cases d <;> first | (exact hfit.elim; done) | skip
      cases hr
      obtain ⟨g, o, o', cap', _, rfl, _⟩ := hv
      exact key len (by simp [Builtin.len_, run_underlying hd, goInt]) rfl rfl
    · rename_i e hdd
      injection hdd with hdd
      rw [hdd] at hfit
      cases d <;> first | (exact hfit.elim; done) | skip
      cases hr
      obtain rfl := hv
      exact key 0 (by simp [Builtin.len_, run_underlying hd, goInt]) rfl rfl
    · rename_i e hdd
      injection hdd with hdd
      rw [hdd] at hfit
      cases d <;> first | (exact hfit.elim; done) | skip
      cases hr
      obtain ⟨a, rfl⟩ := hv
      exact key 0 (by simp [Builtin.len_, run_underlying hd, goInt]) rfl rfl
    · rename_i s hdd
      injection hdd with hdd
      rw [hdd] at hfit
      cases d <;> first | (exact hfit.elim; done) | skip
      cases hr
      obtain rfl := hv
      exact key s.size (by simp [Builtin.len_, run_underlying hd, goInt]) rfl rfl
    · rename_i k e hdd
      injection hdd with hdd
      rw [hdd] at hfit
      cases d <;> first | (exact hfit.elim; done) | skip
      cases hr
      obtain rfl := hv
      exact key 0 (by simp [Builtin.len_, run_underlying hd, goInt]) rfl rfl
    · rename_i k e j hdd
      injection hdd with hdd
      rw [hdd] at hfit
      cases d <;> first | (exact hfit.elim; done) | skip
      split at hr
      · rename_i rw_ es ho
        cases hr
        obtain ⟨g, es', clock, hp, rfl, hg, _, hall⟩ := map_obj h ho hv
        have := hall.length
        exact key es.length (by simp [Builtin.len_, run_underlying hd, goInt, getObj_map hg, this]) rfl rfl
      · cases hr
    · cases hr

theorem hmax_good (h : HR φ w N H) {xs : List HT} {vs : List Value} (hv : All2 (TR φ w) xs vs) {id : Nat} {r : C} (hr : hmax xs = some r) (ts : Array TypeId) (ty : TypeId) (cs : Array Bool) : Good P φ w N H id (builtin .max ts ty cs vs.toArray) (.v (.c r)) H := by
  unfold hmax at hr
  split at hr
  · rename_i k a k' b
    cases hr
    match vs, hv with
    | [u, v], ⟨hu, hv', _⟩ =>
      obtain rfl : u = .int k a := hu
      obtain rfl : v = .int k' b := hv'
      exact good_value h (s := Builtin.max_ ts ty #[.int k a, .int k' b]) (run_max_int2 (P := P) w ts ty k k' a b) rfl
  · cases hr
theorem hmin_good (h : HR φ w N H) {xs : List HT} {vs : List Value} (hv : All2 (TR φ w) xs vs) {id : Nat} {r : C} (hr : hmin xs = some r) (ts : Array TypeId) (ty : TypeId) (cs : Array Bool) : Good P φ w N H id (builtin .min ts ty cs vs.toArray) (.v (.c r)) H := by
  unfold hmin at hr
  split at hr
  · rename_i k a k' b
    cases hr
    match vs, hv with
    | [u, v], ⟨hu, hv', _⟩ =>
      obtain rfl : u = .int k a := hu
      obtain rfl : v = .int k' b := hv'
      exact good_value h (s := Builtin.min_ ts ty #[.int k a, .int k' b]) (run_min_int2 (P := P) w ts ty k k' a b) rfl
  · cases hr

theorem zero_vals {t : Nat} {ti : TI} (hok : TIok P t ti) : ∃ (i : TypeInfo) (z : Value), P.info? t = some i ∧ i.zero = some z ∧ i.size = ti.size ∧ i.bytes = ti.bytes ∧ All2 kv ti.zero z.cells.toList := by
  obtain ⟨i, d, z, hi, hd, hs, hb, hz, hzz, _⟩ := hok
  exact ⟨i, z, hi, hz, hs, hb, hzz⟩

theorem happend_good (hT : Tok P T) (h : HR φ w N H) (hN : N ≤ w.heap.size) {id : Nat} (hf : φ id = none) {t t2 : Nat} {s x : C} {u v : Value} (hu : CR φ w s u) (hv : CR φ w x v) {r : HT} {ty : TypeId} {cs : Array Bool}
    (hr : hbuiltin T .append [t, t2] [.v (.c s), .v (.c x)] H id = some (r, H')) : Good P φ w N H id (builtin .append #[t, t2] ty cs #[u, v]) r H' := by
  simp only [hbuiltin] at hr
  unfold dOf at hr
  cases hti : T t with
  | none => simp [hti] at hr
  | some ti =>
    cases hti2 : T t2 with
    | none => simp [hti, hti2] at hr
    | some ti2 =>
      obtain ⟨i, d, z, hi, hd, _, _, _, _, hfit, _⟩ := hT _ _ hti
      obtain ⟨i2, d2, z2, hi2, hd2, _, _, _, _, hfit2, _⟩ := hT _ _ hti2
      simp only [hti, hti2] at hr
      split at hr
      · rename_i e e2 he he2
        injection he with he
        injection he2 with he2
        rw [he] at hfit
        rw [he2] at hfit2
        cases d <;> first | (exact hfit.elim; done) | skip
        cases d2 <;> first | (exact hfit2.elim; done) | skip
        obtain rfl := hfit
        cases hte : T e with
        | none => simp [hte] at hr
        | some te =>
          obtain ⟨ie, ze, hie, hze, hsz, hby, hzz⟩ := zero_vals (hT _ _ hte)
          simp only [hte] at hr
          split at hr
          · rename_i hpos
            split at hr
            · rename_i m news hrow'
              cases ha : happend H id te.size te.bytes s m news with
              | none => simp [ha] at hr
              | some rr =>
                simp only [ha, Option.map_some, Option.some.injEq, Prod.mk.injEq] at hr
                obtain ⟨rfl, rfl⟩ := hr
                obtain ⟨q, w', φ', k1, k2, k3, k4⟩ := happend_sound (P := P) (ty := ty) h hN hf hd hd2 hie hze (by have := hzz.length; rw [hsz, ← hpos.2]; simpa using this.symm) (by omega) (by rw [hsz]; exact hrow') (by rw [hsz, hby]; exact ha) hu hv
                exact ⟨.value q, w', φ', by simp [builtin, k1], .inl ⟨q, rfl, k2⟩, k3, k4⟩
            · cases hr
          · cases hr
      · cases hr

theorem clear_good (hT : Tok P T) (h : HR φ w N H) {id : Nat} {t : Nat} {x : C} {u : Value} (hu : CR φ w x u) {r : HT} {ty : TypeId} {cs : Array Bool}
    (hr : hbuiltin T .clear [t] [.v (.c x)] H id = some (r, H')) : Good P φ w N H id (builtin .clear #[t] ty cs #[u]) r H' := by
  simp only [hbuiltin] at hr
  unfold dOf at hr
  cases hti : T t with
  | none => simp [hti] at hr
  | some ti =>
    obtain ⟨i, d, z, hi, hd, _, _, _, _, hfit, _⟩ := hT _ _ hti
    simp only [hti] at hr
    split at hr
    · rename_i e j off len cap sz' he
      injection he with he
      rw [he] at hfit
      cases d <;> first | (exact hfit.elim; done) | skip
      obtain rfl := hfit
      split at hr
      · rename_i te l hte ho
        split at hr
        · rename_i hc
          cases hr
          obtain ⟨ie, ze, hie, hze, hsz, hby, hzz⟩ := zero_vals (hT _ _ hte)
          obtain ⟨g, o, o', cap', hp, rfl, b1, b2, b3, b4⟩ := hu
          by_cases hl0 : len = 0
          · subst hl0
            rw [if_pos rfl]
            exact ⟨.value (.tuple #[]), w, φ, by simp [builtin, Builtin.clear_, run_underlying hd], .inl ⟨_, rfl, trivial⟩, h, St.refl _ _ _ _ _⟩
          · rw [if_neg hl0]
            have hoo : o' = o + off := by rcases b3 with b3 | b3 <;> omega
            subst hoo
            have hzr := rep_all2 (hzz.mono fun _ _ hh => kv.cr (φ := φ) (w := w) hh) len
            have hzl := hzr.length
            have hzl2 := hzz.length
            have hzl3 : (rep len te.zero).length = len * ze.cells.size := by rw [hzl, rep'_length]; simp
            have hzs : ze.cells.size = te.size := by rw [← hc.2.1]; simpa using hzl2.symm
            have hle : off + (rep len te.zero).length ≤ l.length := by rw [hzl3, hzs]; exact hc.2.2
            obtain ⟨w', k1, k2, k3⟩ := stores_step (P := P) (rep len te.zero) (repV len ze.cells.toList) w H l off 0 j g o h ho hp hle hzr ⟨g, o + off, none⟩ (by rw [add_add]; rfl) (fun q => by rw [add_add]; simp)
            refine ⟨.value (.tuple #[]), w', φ, ?_, .inl ⟨_, rfl, trivial⟩, k2, k3 _ _⟩
            have hzq : (Builtin.zeroCells ze.cells len).toList = repV len ze.cells.toList := zeros_eq ze.cells len
            cases len with
            | zero => exact absurd rfl hl0
            | succ n => simp [builtin, Builtin.clear_, run_underlying hd, zeroValue_run hie hze, hzq, k1]
        · cases hr
      · cases hr
    · rename_i e he
      injection he with he
      rw [he] at hfit
      cases d <;> first | (exact hfit.elim; done) | skip
      cases hr
      obtain rfl := hu
      exact ⟨.value (.tuple #[]), w, φ, by simp [builtin, Builtin.clear_, run_underlying hd], .inl ⟨_, rfl, trivial⟩, h, St.refl _ _ _ _ _⟩
    · cases hr

theorem copy_good (hT : Tok P T) (h : HR φ w N H) {id : Nat} {t t2 : Nat} {s x : C} {u v : Value} (hu : CR φ w s u) (hv : CR φ w x v) {r : HT} {ty : TypeId} {cs : Array Bool}
    (hr : hbuiltin T .copy [t, t2] [.v (.c s), .v (.c x)] H id = some (r, H')) : Good P φ w N H id (builtin .copy #[t, t2] ty cs #[u, v]) r H' := by
  simp only [hbuiltin] at hr
  unfold dOf at hr
  cases hti : T t with
  | none => simp [hti] at hr
  | some ti =>
    cases hti2 : T t2 with
    | none => simp [hti, hti2] at hr
    | some ti2 =>
      obtain ⟨i, d, z, hi, hd, _, _, _, _, hfit, _⟩ := hT _ _ hti
      simp only [hti, hti2] at hr
      split at hr
      · rename_i e e2 he he2
        injection he with he
        rw [he] at hfit
        cases d <;> first | (exact hfit.elim; done) | skip
        obtain rfl := hfit
        split at hr
        · rename_i te j off len cap sz' hte
          obtain ⟨ie, ze, hie, hze, hsz, hby, hzz⟩ := zero_vals (hT _ _ hte)
          split at hr
          · rename_i m news l hrow' ho
            split at hr
            · rename_i hc
              cases hr
              obtain ⟨A, c, us, rfl, e1, e2', e3⟩ := hrow_sound (P := P) h hrow' hv
              obtain ⟨g, o, o', cap', hp, rfl, b1, b2, b3, b4⟩ := hu
              have hmin : min m len * te.size ≤ len * te.size := Nat.mul_le_mul_right _ (Nat.min_le_right _ _)
              have hul : us.length = m * te.size := by rw [← e1.length]; exact e2'
              have hmin2 : min m len * te.size ≤ m * te.size := Nat.mul_le_mul_right _ (Nat.min_le_left _ _)
              by_cases hl0 : cap' = 0
              · have hlen0 : len = 0 := by omega
                subst hlen0
                have h0 := e3 0 (Nat.zero_le _)
                have he : ∀ q, (H.set j (.cells true (splice l off (news.take (min m 0 * te.size))))).get q = H.get q := fun q => by
                  rw [Hp.get_set]; split
                  · rename_i e; subst e; simp [splice, ho]
                  · rfl
                refine ⟨.value (.int .i64 ((min m 0 : Nat) : Int)), w, φ, ?_, .inl ⟨_, rfl, rfl⟩, h.congr he, ⟨Ext.refl _, fun _ _ => rfl, rfl, rfl, rfl, Nat.le_refl _, Keeps.refl _, fun _ _ _ => rfl, fun _ g _ hg => hg.congr fun q => (he q).symm⟩⟩
                simp [builtin, Builtin.copy_, run_underlying hd, Builtin.lenOf, sizeOf_run hie, hsz, h0, goInt, storeCells]
              · have hoo : o' = o + off := by rcases b3 with b3 | b3 <;> omega
                subst hoo
                have h0 := e3 (min m len) (Nat.min_le_left _ _)
                obtain ⟨w', k1, k2, k3⟩ := stores_step (P := P) (news.take (min m len * te.size)) (us.take (min m len * te.size)) w H l off 0 j g o h ho hp (by simp; omega) (e1.take _) ⟨g, o + off, none⟩ (by rw [add_add]; rfl) (fun q => by rw [add_add]; simp)
                refine ⟨.value (.int .i64 ((min m len : Nat) : Int)), w', φ, ?_, .inl ⟨_, rfl, rfl⟩, k2, k3 _ _⟩
                have hnm : Nat.min m len = min m len := rfl
                simp [builtin, Builtin.copy_, run_underlying hd, Builtin.lenOf, sizeOf_run hie, hsz, hnm, h0, goInt, k1]
            · cases hr
          · cases hr
        · rename_i te hte
          obtain ⟨ie, ze, hie, hze, hsz, hby, hzz⟩ := zero_vals (hT _ _ hte)
          split at hr
          · rename_i mm hrow'
            cases hr
            obtain ⟨A, c, us, rfl, e1, e2', e3⟩ := hrow_sound (P := P) h (m := mm.1) (news := mm.2) hrow' hv
            obtain rfl := hu
            have h0 := e3 0 (Nat.zero_le _)
            have hnm : Nat.min mm.1 0 = 0 := Nat.min_zero _
            exact ⟨.value (.int .i64 0), w, φ, by simp [builtin, Builtin.copy_, run_underlying hd, Builtin.lenOf, sizeOf_run hie, hsz, h0, goInt, hnm], .inl ⟨_, rfl, rfl⟩, h, St.refl _ _ _ _ _⟩
          · cases hr
        · cases hr
      · cases hr

theorem builtin_good (hT : Tok P T) (h : HR φ w N H) (hN : N ≤ w.heap.size) {id : Nat} (hf : φ id = none) {b : Builtin} {ts : Array Nat} {xs : List HT} {vs : List Value} (hv : All2 (TR φ w) xs vs) {r : HT} {ty : TypeId} {cs : Array Bool}
    (hr : hbuiltin T b ts.toList xs H id = some (r, H')) : Good P φ w N H id (builtin b ts ty cs vs.toArray) r H' := by
  obtain ⟨ts⟩ := ts
  cases b <;> try (simp [hbuiltin] at hr; done)
  case max =>
    simp only [hbuiltin] at hr
    cases hm : hmax xs with
    | none => simp [hm] at hr
    | some c =>
      simp only [hm, Option.map_some, Option.some.injEq, Prod.mk.injEq] at hr
      obtain ⟨rfl, rfl⟩ := hr
      exact hmax_good h hv hm _ _ _
  case min =>
    simp only [hbuiltin] at hr
    cases hm : hmin xs with
    | none => simp [hm] at hr
    | some c =>
      simp only [hm, Option.map_some, Option.some.injEq, Prod.mk.injEq] at hr
      obtain ⟨rfl, rfl⟩ := hr
      exact hmin_good h hv hm _ _ _
  case len =>
    have hr' := hr
    simp only [hbuiltin] at hr
    split at hr
    · rename_i t x _
      match vs, hv with
      | [v], ⟨hv', _⟩ => exact hlen_good (ts := #[]) hT h hv' hr'
    all_goals (first | (cases hr; done) | (simp_all; done))
  case append =>
    rcases ts with _ | ⟨t, _ | ⟨t2, _ | ⟨t3, ts⟩⟩⟩ <;> try (simp [hbuiltin] at hr; done)
    rcases xs with _ | ⟨_ | _ | ⟨s | l⟩ | l, _ | ⟨_ | _ | ⟨x | l2⟩ | l2, _ | ⟨y, xs⟩⟩⟩ <;> try (simp [hbuiltin] at hr; done)
    match vs, hv with
    | [u, v], ⟨hu', hv', _⟩ => exact happend_good hT h hN hf hu' hv' hr
  case copy =>
    rcases ts with _ | ⟨t, _ | ⟨t2, _ | ⟨t3, ts⟩⟩⟩ <;> try (simp [hbuiltin] at hr; done)
    rcases xs with _ | ⟨_ | _ | ⟨s | l⟩ | l, _ | ⟨_ | _ | ⟨x | l2⟩ | l2, _ | ⟨y, xs⟩⟩⟩ <;> try (simp [hbuiltin] at hr; done)
    match vs, hv with
    | [u, v], ⟨hu', hv', _⟩ => exact copy_good hT h hu' hv' hr
  case clear =>
    rcases ts with _ | ⟨t, _ | ⟨t2, ts⟩⟩ <;> try (simp [hbuiltin] at hr; done)
    rcases xs with _ | ⟨_ | _ | ⟨s | l⟩ | l, _ | ⟨y, xs⟩⟩ <;> try (simp [hbuiltin] at hr; done)
    match vs, hv with
    | [u], ⟨hu', _⟩ => exact clear_good hT h hu' hr

/-! ### All -/
theorem places_run (hT : Tok P T) : ∀ (fs : List Field), (∀ f ∈ fs, ∃ ti, T f.type = some ti) → ∃ places : List (Nat × Nat), fs.mapM (fun f => (P.info? f.type).map fun i => (f.offset, i.size)) = some places ∧
    ∀ i, places[i]? = fieldPlaces T (fs.map fun f => (f.offset, f.type)) i
  | [], _ => ⟨[], by simp, fun i => by simp [fieldPlaces]⟩
  | f :: fs, h => by
    obtain ⟨ps, h1, h2⟩ := places_run hT fs fun g hg => h g (List.mem_cons_of_mem _ hg)
    obtain ⟨ti, hti⟩ := h f (List.mem_cons_self ..)
    obtain ⟨i, d, z, hi, hd, hs, _⟩ := hT _ _ hti
    refine ⟨(f.offset, i.size) :: ps, by simp [hi, h1], fun j => ?_⟩
    cases j with
    | zero => simp [fieldPlaces, hti, hs]
    | succ j => simpa [fieldPlaces] using h2 j

theorem run_buildSlice' {P : Program} {w : World} {t e len : Nat} {parts : Array (Nat × Value)} {cells : Array Value} {ie : TypeInfo} {z : Value} (hd : P.underlying t = some (.slice e)) (hie : P.info? e = some ie) (hze : ie.zero = some z) (hle : len * ie.size ≤ 16777216)
    (h : Instr.fill (fun i => some (i * ie.size, ie.size)) ((Array.range (len * ie.size)).map (z.cells[· % z.cells.size]!)) parts.toList = some cells) :
    (Instr.buildSlice t len parts).run P w = .ok (.slice (some ⟨w.heap.size, 0, none⟩) len len) (w.alloc (.cells cells e)) := by
  have hn : ¬ (16777216 < len * ie.size) := by omega
  by_cases h0 : len * ie.size = 0
  · rw [h0] at h
    have h1 : Instr.fill (fun i => some (i * ie.size, ie.size)) #[] parts.toList = some cells := by simpa [Array.range_zero'] using h
    simp [Instr.buildSlice, run_underlying hd, sizeOf_run hie, h0, h1, newRow, Array.range_zero']
  · simp [Instr.buildSlice, run_underlying hd, sizeOf_run hie, h0, hn, zeroValue_run hie hze, h, newRow]
theorem lookup_hit {t kt e : TypeId} (hd : P.underlying t = some (.map kt e)) {x k : Value} {ms : Array MapEntry} (hx : (x = .map none ∧ ms = #[]) ∨ ∃ g clock, x = .map (some g) ∧ w.heap[g]? = some (.map ms clock))
    (hc : (Instr.checkKey ms.isEmpty 10000 kt k).run P w = .ok () w) {j : Nat} {v : Value} (hfd : (Instr.findKey kt k ms.toList).run P w = .ok (some (j, v)) w) (ok : Bool) :
    (Instr.lookup t x k ok).run P w = .ok (if ok then .tuple #[v, .bool true] else v) w := by
  rcases hx with ⟨rfl, rfl⟩ | ⟨g, clock, rfl, hg⟩
  · cases ok <;> simp only [Instr.lookup, Sem.run_bind, run_underlying hd, Result.andThen_ok, Sem.run_pure, hc, hfd] <;> rfl
  · cases ok <;> simp only [Instr.lookup, Sem.run_bind, run_underlying hd, Result.andThen_ok, Sem.run_pure, getObj_map hg, hc, hfd] <;> rfl
theorem lookup_miss {t kt e : TypeId} (hd : P.underlying t = some (.map kt e)) {x k : Value} {ms : Array MapEntry} (hx : (x = .map none ∧ ms = #[]) ∨ ∃ g clock, x = .map (some g) ∧ w.heap[g]? = some (.map ms clock))
    (hc : (Instr.checkKey ms.isEmpty 10000 kt k).run P w = .ok () w) (hfd : (Instr.findKey kt k ms.toList).run P w = .ok none w) {z : Value} (hz : (zeroValue e).run P w = .ok z w) (ok : Bool) :
    (Instr.lookup t x k ok).run P w = .ok (if ok then .tuple #[z, .bool false] else z) w := by
  rcases hx with ⟨rfl, rfl⟩ | ⟨g, clock, rfl, hg⟩
  · cases ok <;> simp only [Instr.lookup, Sem.run_bind, run_underlying hd, Result.andThen_ok, Sem.run_pure, hc, hfd, hz] <;> rfl
  · cases ok <;> simp only [Instr.lookup, Sem.run_bind, run_underlying hd, Result.andThen_ok, Sem.run_pure, getObj_map hg, hc, hfd, hz] <;> rfl
theorem fits_struct {fs : List (Nat × Nat)} {d : TypeDesc} (h : fits (.struct fs) d) : ∃ fields : Array Field, d = .struct fields ∧ fs = fields.toList.map fun f => (f.offset, f.type) := by
  cases d <;> first | (exact h.elim; done) | exact ⟨_, rfl, h⟩
theorem fits_slice {e : Nat} {d : TypeDesc} (h : fits (.slice e) d) : d = .slice e := by
  cases d <;> first | (exact h.elim; done) | (have h : e = _ := h; rw [h])
theorem fits_array {n e : Nat} {d : TypeDesc} (h : fits (.array n e) d) : d = .array n e := by
  cases d <;> first | (exact h.elim; done) | (obtain ⟨h1, h2⟩ := h; rw [h1, h2])
theorem fits_map {k e : Nat} {d : TypeDesc} (h : fits (.map k e) d) : d = .map k e := by
  cases d <;> first | (exact h.elim; done) | (obtain ⟨h1, h2⟩ := h; rw [h1, h2])
theorem fits_int {k : IntKind} {d : TypeDesc} (h : fits (.int k) d) : d = .int k := by
  cases d <;> first | (exact h.elim; done) | (have h : k = _ := h; rw [h])
theorem fits_str {d : TypeDesc} (h : fits .str d) : d = .string := by
  cases d <;> first | (exact h.elim; done) | rfl

theorem ev_opt {env : Env} {a : Act} (hG : Gok φ G) (he : EnvR φ w env a.tmps) (x : Option Operand) : ∀ v, (x.map a.eval) = some v → (x.isSome = (x.bind (ev G env)).isSome) → ∃ y, x.bind (ev G env) = some y ∧ TR φ w y v := by
  intro v hv hs
  cases x with
  | none => simp at hv
  | some x =>
    simp only [Option.map_some, Option.some.injEq] at hv
    subst hv
    simp only [Option.bind_some, Option.isSome_some] at hs ⊢
    cases h1 : ev G env x with
    | none => rw [h1] at hs; cases hs
    | some y => exact ⟨y, rfl, ev_sound hG he h1⟩

theorem bind_ite {α β : Type} {c : Prop} [Decidable c] {x : Option α} {f : α → β} {r : β} (h : (x.bind fun y => if c then some (f y) else none) = some r) : c ∧ ∃ y, x = some y ∧ f y = r := by
  cases x with
  | none => cases h
  | some y =>
    simp only [Option.bind_some] at h
    split at h
    · rename_i hc; cases h; exact ⟨hc, y, rfl, rfl⟩
    · cases h

set_option maxHeartbeats 1000000 in
/-- Whatever operation the abstract side carries out, the model carries out, and the two ends go together. -/
theorem hop_sound (hT : Tok P T) (hG : Gok φ G) (h : HR φ w N H) (hN : N ≤ w.heap.size) {id : Nat} (hf : φ id = none) {env : Env} {a : Act} (he : EnvR φ w env a.tmps) {o : Oper} {r : HT} (hr : hop T G env H id o.op = some (r, H')) :
    Good P φ w N H id (execOp a.eval o) r H' := by
  obtain ⟨dst, op, type, pos, after, guard⟩ := o
  have pureCase : ∀ (x : Operand), ev G env x = some r → H' = H → Good P φ w N H id (pure (.value (a.eval x))) r H' := fun x hx hH => by
    subst hH
    exact ⟨.value (a.eval x), w, φ, rfl, .inl ⟨_, rfl, ev_sound hG he hx⟩, h, St.refl _ _ _ _ _⟩
  cases op <;> simp only [hop] at hr <;> try (cases hr; done)
  case move x =>
    cases hx : ev G env x with
    | none => simp [hx] at hr
    | some y => simp [hx] at hr; obtain ⟨rfl, rfl⟩ := hr; exact pureCase x hx rfl
  case assign x =>
    cases hx : ev G env x with
    | none => simp [hx] at hr
    | some y => simp [hx] at hr; obtain ⟨rfl, rfl⟩ := hr; exact pureCase x hx rfl
  case pick c x y =>
    split at hr
    · rename_i t hc
      have hcv := ev_c hG he hc
      have hcv' : a.eval c = .bool t := hcv
      cases t with
      | true =>
        cases hx : ev G env x with
        | none => simp [hx] at hr
        | some z =>
          simp [hx] at hr; obtain ⟨rfl, rfl⟩ := hr
          exact ⟨.value (a.eval x), w, φ, by simp [execOp, hcv', asBool], .inl ⟨_, rfl, ev_sound hG he hx⟩, h, St.refl _ _ _ _ _⟩
      | false =>
        cases hx : ev G env y with
        | none => simp [hx] at hr
        | some z =>
          simp [hx] at hr; obtain ⟨rfl, rfl⟩ := hr
          exact ⟨.value (a.eval y), w, φ, by simp [execOp, hcv', asBool], .inl ⟨_, rfl, ev_sound hG he hx⟩, h, St.refl _ _ _ _ _⟩
    · cases hr
  case alloc e =>
    cases hte : T e with
    | none => simp [hte] at hr
    | some te =>
      simp [hte] at hr; obtain ⟨rfl, rfl⟩ := hr
      obtain ⟨ie, ze, hie, hze, hsz, hby, hzz⟩ := zero_vals (hT _ _ hte)
      exact alloc_good (t := e) (vs := ze.cells.toList) h hN hf (s := Instr.alloc e true (.tuple #[])) (by simp [Instr.alloc, zeroValue_run hie hze, newVar, newRow]) (hzz.mono fun _ _ => kv.cr)
  case box e x =>
    split at hr
    · rename_i y hx
      cases hr
      have hv := ev_v hG he hx
      exact alloc_good (t := e) (vs := (a.eval x).cells.toList) h hN hf (s := Instr.box e (a.eval x)) (by simp [Instr.box, newVar, newRow]) hv.cells
    · cases hr
  case build t ps =>
    split at hr
    · rename_i ti xs hti hps
      obtain ⟨i, d, z, hi, hd, hs, hby, hz, hzz, hfit, _⟩ := hT _ _ hti
      have hparts := evParts_sound hG he ps.toList xs hps
      have hmap : (ps.map fun (i, x) => (i, a.eval x)).toList = ps.toList.map fun (i, x) => (i, a.eval x) := by simp
      split at hr
      · rename_i fs hdd
        rw [hdd] at hfit
        obtain ⟨fields, rfl, rfl⟩ := fits_struct hfit
        split at hr
        · rename_i hall
          obtain ⟨places, p1, p2⟩ := places_run hT fields.toList (fun f hf' => by
            have := List.all_eq_true.1 hall (f.offset, f.type) (List.mem_map.2 ⟨f, hf', rfl⟩)
            exact Option.isSome_iff_exists.1 this)
          cases hfl : hfill (fieldPlaces T (fields.toList.map fun f => (f.offset, f.type))) ti.zero xs with
          | none => simp [hfl] at hr
          | some l =>
            simp [hfl] at hr; obtain ⟨rfl, rfl⟩ := hr
            obtain ⟨rs, q1, q2⟩ := fill_sound (φ := φ) (w := w) _ xs _ ti.zero z.cells l hparts (hzz.mono fun _ _ => kv.cr) hfl
            have hb : P.built t (ps.map fun (i, x) => (i, a.eval x)).toList = some rs := by
              unfold Program.built
              simp only [hi, hd, hz, p1]
              rw [hmap, ← q1]
              congr 1
              funext j
              rw [← p2 j]
              simp
            have hvr : VR φ w (.ag l) (.agg rs) := ⟨rs.toList, q2, by simp⟩
            exact good_value h (r := .v (.ag l)) (s := Instr.build t (ps.map fun (i, x) => (i, a.eval x))) (run_build (P := P) w t _ rs hb) hvr
        · cases hr
      · rename_i n e hdd
        rw [hdd] at hfit
        obtain rfl := fits_array hfit
        cases hte : T e with
        | none => simp [hte] at hr
        | some te =>
          obtain ⟨ie, ze, hie, hze, hsz, hbye, hzze⟩ := zero_vals (hT _ _ hte)
          simp only [hte] at hr
          cases hfl : hfill (fun i => some (i * te.size, te.size)) ti.zero xs with
          | none => simp [hfl] at hr
          | some l =>
            simp [hfl] at hr; obtain ⟨rfl, rfl⟩ := hr
            obtain ⟨rs, q1, q2⟩ := fill_sound (φ := φ) (w := w) _ xs _ ti.zero z.cells l hparts (hzz.mono fun _ _ => kv.cr) hfl
            have hb : P.built t (ps.map fun (i, x) => (i, a.eval x)).toList = some rs := by
              unfold Program.built
              simp only [hi, hd, hz, hie, hsz]
              rw [hmap]; exact q1
            have hvr : VR φ w (.ag l) (.agg rs) := ⟨rs.toList, q2, by simp⟩
            exact good_value h (r := .v (.ag l)) (s := Instr.build t (ps.map fun (i, x) => (i, a.eval x))) (run_build (P := P) w t _ rs hb) hvr
      · cases hr
    · cases hr
  case buildSlice t len ps =>
    split at hr
    · rename_i ti xs hti hps
      obtain ⟨i, d, z, hi, hd, hs, hby, hz, hzz, hfit, _⟩ := hT _ _ hti
      have hparts := evParts_sound hG he ps.toList xs hps
      split at hr
      · rename_i e hdd
        rw [hdd] at hfit
        obtain rfl := fits_slice hfit
        cases hte : T e with
        | none => simp [hte] at hr
        | some te =>
          obtain ⟨ie, ze, hie, hze, hsz, hbye, hzze⟩ := zero_vals (hT _ _ hte)
          simp only [hte] at hr
          split at hr
          · rename_i hc
            cases hfl : hfill (fun i => some (i * te.size, te.size)) (rep len te.zero) xs with
            | none => simp [hfl] at hr
            | some l =>
              simp [hfl] at hr; obtain ⟨rfl, rfl⟩ := hr
              have hzs : ze.cells.size = te.size := by rw [← hc.2]; simpa using hzze.length.symm
              have hrep : All2 (CR φ w) (rep len te.zero) ((Array.range (len * te.size)).map (ze.cells[· % ze.cells.size]!)).toList := by
                rw [← hzs, zeros_eq]
                exact rep_all2 (hzze.mono fun _ _ => kv.cr) len
              obtain ⟨rs, q1, q2⟩ := fill_sound (φ := φ) (w := w) _ xs _ _ _ l hparts hrep hfl
              have hrl : rs.size = len * te.size := by
                have h1 := q2.length
                have h2 := hrep.length
                have h3 : l.length = (rep len te.zero).length := by
                  clear hrep h1 h2 q1 q2
                  revert hfl
                  generalize rep len te.zero = l0
                  clear hps hparts
                  induction xs generalizing l0 with
                  | nil => intro hfl; simp only [hfill, Option.some.injEq] at hfl; rw [hfl]
                  | cons x xs ih =>
                    intro hfl
                    obtain ⟨j, x⟩ := x
                    simp only [hfill] at hfl
                    split at hfl
                    · rw [ih _ hfl, splice_length]
                    · cases hfl
                simp at h1 h2
                omega
              obtain ⟨s1, s2⟩ := alloc_cells h hf hN e l rs.toList (all2_at q2)
              have hrun : (Instr.buildSlice t len (ps.map fun (i, x) => (i, a.eval x))).run P w = .ok (.slice (some ⟨w.heap.size, 0, none⟩) len len) (w.alloc (.cells rs e)) :=
                run_buildSlice' hd hie hze (by rw [hsz]; exact hc.1) (by rw [hsz]; simpa using q1)
              refine ⟨.value (.slice (some ⟨w.heap.size, 0, none⟩) len len), _, _, by simp only [execOp, Sem.run_bind, hrun, Result.andThen_ok, Sem.run_pure], .inl ⟨_, rfl, w.heap.size, 0, 0, len, by simp [Phi.add], rfl, Nat.le_refl _, Nat.le_refl _, .inr rfl, _, _, _, heap_alloc_new w _, ?_⟩, s1, s2⟩
              rw [hrl]; omega
          · cases hr
      · cases hr
    · cases hr
  case load t x =>
    split at hr
    · rename_i j off hx
      split at hr
      · rename_i rw_ l ho
        cases hp : hpart T t l off with
        | none => simp [hp] at hr
        | some y =>
          simp [hp] at hr; obtain ⟨rfl, rfl⟩ := hr
          obtain ⟨u, h1, h2⟩ := load_sound (P := P) hT h ho hp (ev_c hG he hx)
          exact good_value h (s := Instr.loadAt t (a.eval x)) h1 h2
      · cases hr
    · cases hr
  case store t x y =>
    split at hr
    · rename_i j off z ti hx hy hti
      split at hr
      · rename_i l ho
        split at hr
        · rename_i hc
          cases hr
          obtain ⟨w', h1, h2, h3⟩ := storeAt_sound (P := P) hT h ho hti hc.1 hc.2 (ev_c hG he hx) (ev_v hG he hy)
          exact ⟨.skip, w', φ, by simp [execOp, h1], .inr ⟨rfl, rfl⟩, h2, h3 _ _⟩
        · cases hr
      · cases hr
    · cases hr
  case nilCheck x =>
    split at hr
    · rename_i j off hx
      cases hr
      have hv := ev_c hG he hx
      obtain ⟨g, b, hp, hv'⟩ := hv
      exact ⟨.value (a.eval x), w, φ, by simp [execOp, hv'], .inl ⟨_, rfl, g, b, hp, hv'⟩, h, St.refl _ _ _ _ _⟩
    · rename_i f fs cs hx
      cases hr
      have hv := ev_c hG he hx
      obtain ⟨us, vs, h1, h2, hv'⟩ := hv
      exact ⟨.value (a.eval x), w, φ, by simp [execOp, hv'], .inl ⟨_, rfl, us, vs, h1, h2, hv'⟩, h, St.refl _ _ _ _ _⟩
    · cases hr
  case binOp op t x y yt =>
    split at hr
    · rename_i p q hx hy
      cases hb : hbin T op t p q with
      | none => simp [hb] at hr
      | some c =>
        simp [hb] at hr; obtain ⟨rfl, rfl⟩ := hr
        obtain ⟨z, h1, h2⟩ := hbin_sound (P := P) (φ := φ) (w := w) hT hb (ev_v hG he hx) (ev_v hG he hy) x y
        exact good_value h (s := do eqGuard op t x y (a.eval x) (a.eval y); binOp op t (a.eval x) (a.eval y)) h1 h2
    · cases hr
  case unOp op t x =>
    split at hr
    · rename_i p hx
      cases hb : hun op p with
      | none => simp [hb] at hr
      | some c =>
        simp [hb] at hr; obtain ⟨rfl, rfl⟩ := hr
        obtain ⟨z, h1, h2⟩ := hun_sound (P := P) (φ := φ) (w := w) hb (ev_c hG he hx)
        exact good_value h (s := Op.unary op (a.eval x)) h1 h2
    · cases hr
  case convert src dst x =>
    split at hr
    · rename_i tsrc ti k n htsrc hti hx
      obtain ⟨i, d, z, hi, hd, hs, hby, hz, hzz, hfit, _⟩ := hT _ _ hti
      obtain ⟨_, ds, _, _, hsrc, _⟩ := hT _ _ htsrc
      have hv : a.eval x = .int k n := ev_c hG he hx
      split at hr
      · rename_i k' hdd
        rw [hdd] at hfit
        obtain rfl := fits_int hfit
        cases hr
        refine good_value h (s := convert src dst (a.eval x)) (v := .int k' (k'.wrap n)) ?_ rfl
        rw [hv]
        simp only [convert, Sem.run_bind, run_underlying hsrc, run_underlying hd, Result.andThen_ok]
        cases ds <;> rfl
      · cases hr
    · cases hr
  case makeFunc fn first cap =>
    cases fn <;> simp only [hop] at hr <;> try (cases hr; done)
    rename_i f
    split at hr
    · rename_i xs ys h1 h2
      cases hr
      have g1 := hptrs_sound hG he _ _ h1
      have g2 := hptrs_sound hG he _ _ h2
      exact good_value h (r := .v (.c (.fn f xs ys))) (s := Instr.makeFunc (.func f) (first.map a.eval) (cap.map a.eval)) (v := .func (.func f) (first.map a.eval) (cap.map a.eval)) rfl ⟨_, _, g1, g2, by rw [← Array.toList_map, ← Array.toList_map, Array.toArray_toList, Array.toArray_toList]⟩
    · cases hr
  case makeMap t rs =>
    cases rs <;> simp only [hop] at hr <;> try (cases hr; done)
    cases hr
    obtain ⟨s1, s2⟩ := alloc_step h hf hN (.map #[] 0) (.map true []) ⟨#[], 0, heap_alloc_new w _, rfl, fun _ => hN, trivial⟩
    exact ⟨.value (.map (some w.heap.size)), _, _, by simp [execOp, Instr.makeMap], .inl ⟨_, rfl, w.heap.size, by simp [Phi.add], rfl⟩, s1, s2⟩
  case makeSlice t x y =>
    split at hr
    · rename_i ti k1 l k2 c hti hx hy
      obtain ⟨i, d, z, hi, hd, hs, hby, hz, hzz, hfit, _⟩ := hT _ _ hti
      have hv1 : a.eval x = .int k1 l := ev_c hG he hx
      have hv2 : a.eval y = .int k2 c := ev_c hG he hy
      split at hr
      · rename_i e hdd
        rw [hdd] at hfit
        obtain rfl := fits_slice hfit
        cases hte : T e with
        | none => simp [hte] at hr
        | some te =>
          obtain ⟨ie, ze, hie, hze, hsz, hbye, hzze⟩ := zero_vals (hT _ _ hte)
          simp only [hte] at hr
          split at hr
          · rename_i hc
            obtain ⟨c1, c2, c3, c4, c5⟩ := hc
            cases hr
            have hzs : ze.cells.size = te.size := by rw [← c5]; simpa using hzze.length.symm
            have hrun := run_make (P := P) w t e ie ze hd hie hze k1 k2 l c c1 c2 (by rw [hbye, Int.mul_comm]; omega) (by omega)
            have hml : (madeCells ze.cells (c.toNat * ie.size)).toList = repV c.toNat ze.cells.toList := by
              rw [hsz, ← hzs]; exact zeros_eq ze.cells c.toNat
            have hrep : All2 (CR φ w) (rep c.toNat te.zero) (madeCells ze.cells (c.toNat * ie.size)).toList := by
              rw [hml]; exact rep_all2 (hzze.mono fun _ _ => kv.cr) _
            obtain ⟨s1, s2⟩ := alloc_cells h hf hN e (rep c.toNat te.zero) (madeCells ze.cells (c.toNat * ie.size)).toList (all2_at hrep)
            rw [Array.toArray_toList] at s1 s2
            refine ⟨.value (.slice (some ⟨w.heap.size, 0, none⟩) l.toNat c.toNat), _, _, by simp only [execOp, hv1, hv2, Sem.run_bind, hrun, Result.andThen_ok, Sem.run_pure], .inl ⟨_, rfl, w.heap.size, 0, 0, c.toNat, by simp [Phi.add], rfl, by omega, Nat.le_refl _, .inr rfl, _, _, _, heap_alloc_new w _, ?_⟩, s1, s2⟩
            rw [size_madeCells, hsz]; omega
          · cases hr
      · cases hr
    · cases hr
  case slice t x lo hi mx =>
    split at hr
    · rename_i ti y hti hx
      obtain ⟨i, d, z, hi', hd, hs, hby, hz, hzz, hfit, _⟩ := hT _ _ hti
      have hv := ev_c hG he hx
      split at hr
      · rename_i e hdd
        rw [hdd] at hfit
        obtain rfl := fits_slice hfit
        cases hte : T e with
        | none => simp [hte] at hr
        | some te =>
          obtain ⟨ie, ze, hie, hze, hsz, hbye, hzze⟩ := zero_vals (hT _ _ hte)
          simp only [hte] at hr
          obtain ⟨⟨c1, c2, c3, c4⟩, q, hq, hqr⟩ := bind_ite hr
          simp only [Prod.mk.injEq] at hqr
          obtain ⟨rfl, rfl⟩ := hqr
          obtain ⟨u, h1, h2⟩ := hcut_sound (P := P) h hq hv hd hie hsz (lo' := lo.map a.eval) (hi'' := hi.map a.eval) (mx' := mx.map a.eval) (fun v hv' => ev_opt hG he lo v hv' c1) (by simpa using c1) (fun v hv' => ev_opt hG he hi v hv' c2) (by simpa using c2) (fun v hv' => ev_opt hG he mx v hv' c3) (by simpa using c3) (by simpa using c4)
          exact good_value h (s := Instr.sliceAt t (a.eval x) (lo.map a.eval) (hi.map a.eval) (mx.map a.eval)) h1 h2
      · rename_i hdd
        rw [hdd] at hfit
        obtain rfl := fits_str hfit
        split at hr
        · rename_i s
          have hv' : a.eval x = .string s := hv
          obtain ⟨⟨c1, c2⟩, q, hq, hqr⟩ := bind_ite hr
          simp only [Prod.mk.injEq] at hqr
          obtain ⟨rfl, rfl⟩ := hqr
          obtain ⟨u, h1, h2⟩ := hcutS_sound (P := P) (φ := φ) (w := w) hq hd (lo' := lo.map a.eval) (hi'' := hi.map a.eval) (fun v hv' => ev_opt hG he lo v hv' c1) (by simpa using c1) (fun v hv' => ev_opt hG he hi v hv' c2) (by simpa using c2)
          exact good_value h (s := Instr.sliceAt t (a.eval x) (lo.map a.eval) (hi.map a.eval) none) (by rw [hv']; exact h1) h2
        · cases hr
      · cases hr
    · cases hr
  case fieldAddr s x f =>
    split at hr
    · rename_i ti j off hti hx
      obtain ⟨i, d, z, hi, hd, hs, hby, hz, hzz, hfit, _⟩ := hT _ _ hti
      obtain ⟨g, b, hp, hv⟩ := ev_c hG he hx
      split at hr
      · rename_i fs hdd
        rw [hdd] at hfit
        obtain ⟨fields, rfl, rfl⟩ := fits_struct hfit
        split at hr
        · rename_i o sz hfp
          split at hr
          · rename_i hpos
            cases hr
            unfold fieldPlaces at hfp
            split at hfp
            · rename_i off' ft hfs
              cases htf : T ft with
              | none => simp [htf] at hfp
              | some tf =>
                simp [htf] at hfp
                obtain ⟨rfl, rfl⟩ := hfp
                obtain ⟨_, _, hif, _, hszf, _⟩ := zero_vals (hT _ _ htf)
                simp only [List.getElem?_map, Option.map_eq_some_iff, Prod.mk.injEq] at hfs
                obtain ⟨fld, hfl, rfl, rfl⟩ := hfs
                have hfl' : fields[f]? = some fld := by simpa using hfl
                refine good_value h (s := Instr.fieldAt s (a.eval x) f) (v := .pointer (some ⟨g, b + (off + fld.offset), none⟩)) ?_ ⟨g, b, hp, rfl⟩
                rw [hv]
                have hne : ¬ tf.size = 0 := by omega
                simp only [Instr.fieldAt, Sem.run_bind, run_underlying hd, Result.andThen_ok, hfl', Instr.sureAddr, Sem.run_pure, fieldPlace, sizeOf_run hif, hszf]
                rw [if_neg hne]
                simp only [Sem.run_pure, Result.andThen_ok, add_add, Nat.add_assoc]
            · cases hfp
          · cases hr
        · cases hr
      · cases hr
    · cases hr
  case field t x f =>
    split at hr
    · rename_i ti l hti hx
      obtain ⟨i, d, z, hi, hd, hs, hby, hz, hzz, hfit, _⟩ := hT _ _ hti
      obtain ⟨vs, hvs, hv⟩ := ev_v hG he hx
      split at hr
      · rename_i fs hdd
        rw [hdd] at hfit
        obtain ⟨fields, rfl, rfl⟩ := fits_struct hfit
        split at hr
        · rename_i o ft hfs
          cases hp : hpart T ft l o with
          | none => simp [hp] at hr
          | some y =>
            simp [hp] at hr; obtain ⟨rfl, rfl⟩ := hr
            simp only [List.getElem?_map, Option.map_eq_some_iff, Prod.mk.injEq] at hfs
            obtain ⟨fld, hfl, rfl, rfl⟩ := hfs
            have hfl' : fields[f]? = some fld := by simpa using hfl
            obtain ⟨u, h1, h2⟩ := part_sound (P := P) hT hp (vs := vs.toArray) (by simpa using hvs)
            refine good_value h (s := Instr.field t (a.eval x) f) (v := u) ?_ h2
            rw [hv]
            simp only [Instr.field, Sem.run_bind, run_underlying hd, Result.andThen_ok, hfl', asAgg, Sem.run_pure, h1]
        · cases hr
      · cases hr
    · cases hr
  case indexAddr t x y =>
    split at hr
    · rename_i ti c k n hti hx hy
      obtain ⟨i, d, z, hi, hd, hs, hby, hz, hzz, hfit, _⟩ := hT _ _ hti
      have hv := ev_c hG he hx
      have hn : a.eval y = .int k n := ev_c hG he hy
      split at hr
      · rename_i e j off len cap sz hdd
        rw [hdd] at hfit
        obtain rfl := fits_slice hfit
        cases hte : T e with
        | none => simp [hte] at hr
        | some te =>
          obtain ⟨ie, ze, hie, hze, hsz, hbye, hzze⟩ := zero_vals (hT _ _ hte)
          simp only [hte] at hr
          split at hr
          · rename_i hc
            obtain ⟨rfl, c1, c2⟩ := hc
            cases hr
            obtain ⟨g, o, o', cap', hp, hve, b1, b2, b3, b4⟩ := hv
            have hoo : o' = o + off := by rcases b3 with b3 | b3 <;> omega
            subst hoo
            refine good_value h (s := Instr.indexAt t (a.eval x) (a.eval y)) (v := .pointer (some ⟨g, o + (off + n.toNat * te.size), none⟩)) ?_ ⟨g, o, hp, rfl⟩
            rw [hve, hn]
            simp [Instr.indexAt, asIntOf, run_underlying hd, c1, c2, sizeOf_run hie, hsz, add_add, Nat.add_assoc]
          · cases hr
      · rename_i len e j off hdd
        rw [hdd] at hfit
        obtain rfl := fits_array hfit
        cases hte : T e with
        | none => simp [hte] at hr
        | some te =>
          obtain ⟨ie, ze, hie, hze, hsz, hbye, hzze⟩ := zero_vals (hT _ _ hte)
          simp only [hte] at hr
          split at hr
          · rename_i hc
            obtain ⟨c1, c2⟩ := hc
            cases hr
            obtain ⟨g, o, hp, hve⟩ := hv
            refine good_value h (s := Instr.indexAt t (a.eval x) (a.eval y)) (v := .pointer (some ⟨g, o + (off + n.toNat * te.size), none⟩)) ?_ ⟨g, o, hp, rfl⟩
            rw [hve, hn]
            simp [Instr.indexAt, Instr.sureAddr, asIntOf, run_underlying hd, c1, c2, sizeOf_run hie, hsz, add_add, Nat.add_assoc]
          · cases hr
      · cases hr
    · cases hr
  case index t x y =>
    split at hr
    · rename_i ti c k n hti hx hy
      obtain ⟨i, d, z, hi, hd, hs, hby, hz, hzz, hfit, _⟩ := hT _ _ hti
      have hv := ev_v hG he hx
      have hn : a.eval y = .int k n := ev_c hG he hy
      split at hr
      · rename_i len e l hdd
        rw [hdd] at hfit
        obtain rfl := fits_array hfit
        obtain ⟨vs, hvs, hve⟩ := hv
        cases hte : T e with
        | none => simp [hte] at hr
        | some te =>
          obtain ⟨ie, ze, hie, hze, hsz, hbye, hzze⟩ := zero_vals (hT _ _ hte)
          simp only [hte] at hr
          split at hr
          · rename_i hc
            obtain ⟨c1, c2⟩ := hc
            cases hp : hpart T e l (n.toNat * te.size) with
            | none => simp [hp] at hr
            | some q =>
              simp [hp] at hr; obtain ⟨rfl, rfl⟩ := hr
              obtain ⟨u, h1, h2⟩ := part_sound (P := P) hT hp (vs := vs.toArray) (by simpa using hvs)
              refine good_value h (s := Instr.index t (a.eval x) (a.eval y)) (v := u) ?_ h2
              rw [hve, hn]
              simp [Instr.index, asIntOf, run_underlying hd, c1, c2, sizeOf_run hie, hsz, h1]
          · cases hr
      · rename_i s hdd
        rw [hdd] at hfit
        obtain rfl := fits_str hfit
        have hve : a.eval x = .string s := hv
        split at hr
        · rename_i h0
          cases hb : s[n.toNat]? with
          | none => simp [hb] at hr
          | some bb =>
            simp [hb] at hr; obtain ⟨rfl, rfl⟩ := hr
            refine good_value h (s := Instr.index t (a.eval x) (a.eval y)) (v := .int .u8 bb.toNat) ?_ rfl
            rw [hve, hn]
            simp [Instr.index, asIntOf, run_underlying hd, h0, hb]
        · cases hr
      · cases hr
    · cases hr
  case extract x n =>
    split at hr
    · rename_i l hx
      obtain ⟨vs, hvs, hv⟩ : TR φ w (.tu l) (a.eval x) := ev_sound hG he hx
      cases hq : l[n]? with
      | none => simp [hq] at hr
      | some q =>
        simp [hq] at hr; obtain ⟨rfl, rfl⟩ := hr
        obtain ⟨u, h1, h2⟩ := All2.get n hvs hq
        refine good_value h (s := Instr.extract (a.eval x) n) (v := u) ?_ h2
        rw [hv]
        simp [Instr.extract, h1]
    · cases hr
  case call c =>
    obtain ⟨callee, args, ats⟩ := c
    cases callee <;> try (cases hr; done)
    rename_i b
    change (match evs G env args.toList with | some xs => hbuiltin T b ats.toList xs H id | none => none) = some (r, H') at hr
    split at hr
    · rename_i xs hxs
      have hvs := evs_sound hG he _ _ hxs
      have := builtin_good (P := P) (ty := type) (cs := args.map fun | .const _ => true | _ => false) hT h hN hf hvs hr
      have e1 : (args.toList.map a.eval).toArray = args.map a.eval := by rw [← Array.toList_map, Array.toArray_toList]
      rw [e1] at this
      exact this
    · cases hr
  case lookup t m k ok =>
    split at hr
    · rename_i ti y kk hti hm hk
      obtain ⟨i, d, z, hi, hd, hs, hby, hz, hzz, hfit, _⟩ := hT _ _ hti
      have hvm := ev_c hG he hm
      have hvk := ev_c hG he hk
      split at hr
      · rename_i kt e hdd
        rw [hdd] at hfit
        obtain rfl := fits_map hfit
        split at hr
        · rename_i tk te htk hte
          obtain ⟨ik, dk, zk, hik, hdk, _, _, _, _, hfk, _⟩ := hT _ _ htk
          obtain ⟨ie, de, ze, hie, hde, hse, hbe, hze, hzze, hfe, hag, hag1, hag2, _⟩ := hT _ _ hte
          -- the entries
          have hes : ∀ es, (match y with | .mn => some [] | .m j => (match H.get j with | some (.map _ es) => some es | _ => none) | _ => none : Option (List (C × HV))) = some es →
              ∃ ms : Array MapEntry, All2 (ER φ w) es ms.toList ∧ ((a.eval m = .map none ∧ ms = #[]) ∨ ∃ g clock, a.eval m = .map (some g) ∧ w.heap[g]? = some (.map ms clock)) := by
            intro es hy
            split at hy
            · cases hy
              exact ⟨#[], trivial, .inl ⟨hvm, rfl⟩⟩
            · rename_i j
              split at hy
              · rename_i rw_ es' ho
                cases hy
                obtain ⟨g, es', clock, hp, hve, hg, _, hall⟩ := map_obj h ho hvm
                exact ⟨es', hall, .inr ⟨g, clock, hve, hg⟩⟩
              · cases hy
            · cases hy
          split at hr
          · rename_i es hes'
            obtain ⟨ms, hall, hrun⟩ := hes es hes'
            split at hr
            · rename_i hc
              split at hr
              · rename_i j v hfnd
                cases hr
                obtain ⟨r', q1, q2⟩ := hfind_sound hfk hc.1 hvk es ms.toList 0 _ hall hfnd
                cases r' with
                | none => exact q2.elim
                | some p' =>
                  obtain ⟨_, q3, _⟩ := q2
                  refine good_value h (s := Instr.lookup t (a.eval m) (a.eval k) ok) (v := if ok then .tuple #[p'.2, .bool true] else p'.2) ?_ ?_
                  · exact lookup_hit hd hrun (checkKey_run hdk hfk hc.1 hvk _ 9999) (findKey_run hdk q1) ok
                  · cases ok with
                    | true => exact ⟨[p'.2, .bool true], ⟨q3, rfl, trivial⟩, rfl⟩
                    | false => exact q3
              · rename_i hfnd
                cases hr
                obtain ⟨r', q1, q2⟩ := hfind_sound hfk hc.1 hvk es ms.toList 0 _ hall hfnd
                cases r' with
                | some _ => exact q2.elim
                | none =>
                  have hzv : VR φ w (if te.agg then .ag te.zero else .c (te.zero.getD 0 .pn)) ze := by
                    cases hta : te.agg with
                    | true =>
                      obtain ⟨cs, rfl⟩ := hag1 hta
                      exact ⟨cs.toList, hzze.mono fun _ _ => kv.cr, by simp⟩
                    | false =>
                      have h1 := hag2 hta
                      rw [h1] at hzze
                      cases hz0 : te.zero with
                      | nil => rw [hz0] at hzze; exact hzze.elim
                      | cons c0 rest => rw [hz0] at hzze; exact kv.cr hzze.1
                  refine good_value h (s := Instr.lookup t (a.eval m) (a.eval k) ok) (v := if ok then .tuple #[ze, .bool false] else ze) ?_ ?_
                  · exact lookup_miss hd hrun (checkKey_run hdk hfk hc.1 hvk _ 9999) (findKey_run hdk q1) (zeroValue_run hie hze) ok
                  · cases ok with
                    | true => exact ⟨[ze, .bool false], ⟨hzv, rfl, trivial⟩, rfl⟩
                    | false => exact hzv
              · cases hr
            · cases hr
          · cases hr
        · cases hr
      · cases hr
    · cases hr
  case mapUpdate t m k x =>
    split at hr
    · rename_i ti j kk v hti hm hk hx
      obtain ⟨i, d, z, hi, hd, hs, hby, hz, hzz, hfit, _⟩ := hT _ _ hti
      have hvm := ev_c hG he hm
      have hvk := ev_c hG he hk
      have hvx := ev_v hG he hx
      split at hr
      · rename_i kt e es hdd ho
        rw [hdd] at hfit
        obtain rfl := fits_map hfit
        split at hr
        · rename_i tk htk
          obtain ⟨ik, dk, zk, hik, hdk, _, _, _, _, hfk, _⟩ := hT _ _ htk
          split at hr
          · rename_i hc
            obtain ⟨g, ms, clock, hp, hve, hg, _, hall⟩ := map_obj h ho hvm
            have hck := checkKey_run (P := P) (w := w) hdk hfk hc hvk false 9999
            split at hr
            · rename_i j' v0 hfnd
              cases hr
              obtain ⟨r', q1, q2⟩ := hfind_sound hfk hc hvk es ms.toList 0 _ hall hfnd
              cases r' with
              | none => exact q2.elim
              | some p' =>
                obtain ⟨q3, q4, _, e0, m0, q5, q6, q7⟩ := q2
                simp only [Nat.sub_zero] at q5 q6
                obtain ⟨jj, vv⟩ := p'
                simp only at q3
                subst q3
                have hm0 : ms[j']? = some m0 := by simpa using q6
                obtain ⟨y0, q8, q9⟩ := All2.get j' hall q5
                rw [q6] at q8
                cases q8
                have hsame : Instr.sameBits 10000 m0.key (a.eval k) = true := keyEq_same q7 q9.1 hvk
                have hm1 : ms.modify j' (fun e => { e with key := a.eval k, val := a.eval x }) = ms.setIfInBounds j' { m0 with key := a.eval k, val := a.eval x } := by
                  apply Array.ext
                  · simp
                  · intro n1 h1 h2
                    rw [Array.getElem_modify]
                    rw [Array.getElem_setIfInBounds]
                    · split
                      · rename_i e; subst e
                        obtain ⟨_, hm0'⟩ := Array.getElem?_eq_some_iff.1 hm0
                        simp [hm0']
                      · rfl
                obtain ⟨s1, s2, s3⟩ := map_step (P := P) (es2 := es.set j' (kk, v)) (es2' := ms.modify j' (fun e => { e with key := a.eval k, val := a.eval x })) (clock2 := clock) h ho hp hg (by
                  rw [hm1, Array.toList_setIfInBounds]
                  exact All2.set hall j' ⟨hvk, hvx⟩)
                refine ⟨.skip, _, φ, ?_, .inr ⟨rfl, rfl⟩, s2, s3 _ _⟩
                simp only [execOp, Sem.run_bind, hve, Instr.mapUpdate, run_underlying hd, Result.andThen_ok, getObj_map hg, hck, findKey_run hdk q1, hm0, Option.map_some, Option.getD_some, Instr.keyThatStays, hsame, if_true, s1, Sem.run_pure]
            · rename_i hfnd
              cases hr
              obtain ⟨r', q1, q2⟩ := hfind_sound hfk hc hvk es ms.toList 0 _ hall hfnd
              cases r' with
              | some _ => exact q2.elim
              | none =>
                obtain ⟨s1, s2, s3⟩ := map_step (P := P) (es2 := es ++ [(kk, v)]) (es2' := ms.push { key := a.eval k, val := a.eval x, born := clock }) (clock2 := clock + 1) h ho hp hg (by
                  rw [Array.toList_push]
                  exact All2.append hall ⟨⟨hvk, hvx⟩, trivial⟩)
                refine ⟨.skip, _, φ, ?_, .inr ⟨rfl, rfl⟩, s2, s3 _ _⟩
                simp only [execOp, Sem.run_bind, hve, Instr.mapUpdate, run_underlying hd, Result.andThen_ok, getObj_map hg, hck, findKey_run hdk q1, s1, Sem.run_pure]
            · cases hr
          · cases hr
        · cases hr
      · cases hr
    · cases hr
end
end Go.HL
