/- The canonical machine for closed runs: the built-in functions. -/
import Derived.Test.YtcjjhebocgbbdaaGreatCl
set_option linter.unusedSectionVars false
set_option linter.unusedVariables false
set_option linter.unusedSimpArgs false
namespace Go.Ce
open Go.RowKit (Below)

section
variable {P : Program} {w0 : World} {ρ : Ren} {W : CW} {w : World} {o : Oper} {e e' : Operand → Value} {outs : List (CNext × CW)}

/-- Every value of a slice in relation: where it lies. -/
theorem VRel.slice_inv {a : Option Addr} {n c : Nat} {v : Value} (h : VRel ρ (.slice a n c) v) : ∃ a' c', v = .slice a' n c' ∧ ((a = none ∧ a' = none ∧ c' = c) ∨ ∃ b b', a = some b ∧ a' = some b' ∧
    ((ARel ρ b b' ∧ CapRel ρ b c c') ∨ (n = 0 ∧ c = 0 ∧ b.spot = none ∧ ∃ x, ρ b.block = some x ∧ b'.block = x.b ∧ b'.spot = none ∧ (c' = 0 ∨ (0 < x.sz ∧ b'.off + c' * x.sz = x.n'))) ∨ (n = 0 ∧ c = 0 ∧ c' = 0 ∧ b.spot = some 0))) := by
  cases h with
  | snil => exact ⟨_, _, rfl, .inl ⟨rfl, rfl, rfl⟩⟩
  | slice _ ha hc => exact ⟨_, _, rfl, .inr ⟨_, _, rfl, rfl, .inl ⟨ha, hc⟩⟩⟩
  | slice0 h0 h1 h2 h3 h4 => exact ⟨_, _, rfl, .inr ⟨_, _, rfl, rfl, .inr (.inl ⟨rfl, rfl, h0, _, h1, h2, h3, h4⟩)⟩⟩
  | slice00 h0 => exact ⟨_, _, rfl, .inr ⟨_, _, rfl, rfl, .inr (.inr ⟨rfl, rfl, rfl, h0⟩)⟩⟩

theorem run_loadCells0 (a : Addr) (w : World) : (loadCells a 0).run P w = .ok #[] w := by simp [loadCells, loadCellsFrom]

/-- The first cells of a slice, on both sides. -/
theorem firstN_sound (hw : WRel P w0 ρ W w) {b : Option Addr} {n c k size : Nat} {v : Value} {l : List Value} (hv : VRel ρ (.slice b n c) v) (hk : k ≤ n) (h : firstN b (k * size) W = some l) :
    ∃ l' : Array Value, (∀ d, (Builtin.firstCells size k v).run P { w with drawn := d } = .ok l' { w with drawn := d }) ∧ LRel ρ l l'.toList := by
  obtain ⟨a', c', rfl, hcase⟩ := hv.slice_inv
  rcases hcase with ⟨rfl, rfl, _⟩ | ⟨b, b', rfl, rfl, hcase⟩
  · cases h
    exact ⟨#[], fun _ => rfl, .nil _⟩
  · simp only [firstN, cond_eq_ite] at h
    split at h
    · rename_i h0
      have h0 := Nat.eq_of_beq_eq_true h0
      cases h
      refine ⟨#[], ?_, .nil _⟩
      intro d
      simp only [Builtin.firstCells, h0]
      exact run_loadCells0 _ _
    rename_i h0
    have h0 : k * size ≠ 0 := fun hh => h0 (by rw [hh]; rfl)
    have hk0 : k ≠ 0 := fun hh => h0 (by rw [hh]; omega)
    have ha : ARel ρ b b' := by
      rcases hcase with ⟨ha, _⟩ | ⟨h1, _⟩ | ⟨h1, _⟩
      · exact ha
      · omega
      · omega
    split at h
    · rename_i cc kk zz ee hobj
      split at h
      · rename_i hle
        have hle := Nat.le_of_ble_eq_true hle
        cases h
        obtain ⟨x, c2, fr, hx, rfl, hb, _, _, hn, hs, hoo, _, hc⟩ := hw.cells ha hobj
        refine ⟨(readFrom c2 (k * size) (b.off + x.o)).toArray, ?_, by simpa using read_rel hc (k * size) b.off hle⟩
        intro d
        simp only [Builtin.firstCells]
        exact run_loadCells (w := { w with drawn := d }) hb _ _ (by omega)
      · cases h
    · rename_i ff kk ee hobj
      split at h
      · rename_i hle
        have hle := Nat.le_of_ble_eq_true hle
        cases h
        obtain ⟨x, c2, _, fr, hx, rfl, hb, hn, hs, hoo, _, hc⟩ := hw.fixed ha hobj
        refine ⟨(readFrom c2 (k * size) (b.off + x.o)).toArray, ?_, by simpa using readFix_rel hc (k * size) b.off hle⟩
        intro d
        simp only [Builtin.firstCells]
        exact run_loadCells (w := { w with drawn := d }) hb _ _ (by omega)
      · cases h
    · cases h

/-- What is appended or copied, on both sides. -/
theorem src_sound (hw : WRel P w0 ρ W w) {x x' : Value} {n k size : Nat} {l : List Value} (hx : VRel ρ x x') (hn : srcN x = some n) (hk : k ≤ n) (h : srcCells x k size W = some l) :
    ∃ l' : Array Value, (∀ d, (Builtin.firstCells size k x').run P { w with drawn := d } = .ok l' { w with drawn := d }) ∧ LRel ρ l l'.toList ∧ ∀ w : World, (Builtin.lenOf x').run P w = .ok n w := by
  unfold srcN at hn
  split at hn
  · rename_i b m c
    cases hn
    simp only [srcCells] at h
    obtain ⟨l', h1, h2⟩ := firstN_sound hw hx hk h
    obtain ⟨b', c', rfl, _⟩ := hx.slice_inv
    exact ⟨l', h1, h2, fun _ => rfl⟩
  · rename_i s
    cases hn
    cases hx
    simp only [srcCells, cond_eq_ite] at h
    split at h
    · cases h
      refine ⟨(s.extract 0 k).data.map fun b => .int .u8 b.toNat, fun d => rfl, ?_, fun _ => rfl⟩
      have : ((s.extract 0 k).data.map fun b => Value.int .u8 b.toNat).toList = byteCells ((sb s).take k) := by
        simp [byteCells, sb, ByteArray.data_extract]
      rw [this]
      exact LRel.map (ρ := ρ) _ (fun b : UInt8 => Value.int .u8 b.toNat) (fun b : UInt8 => Value.int .u8 b.toNat) (fun _ _ => .int _ _)
    · cases h
  · cases hn

theorem LRel.allOne : ∀ {xs ys : List Value}, LRel ρ xs ys → xs.all oneCell = true → ys.all oneCell = true
  | [], [], _, _ => rfl
  | x :: xs, y :: ys, h, hx => by
    simp only [List.all_cons, Bool.and_eq_true] at hx ⊢
    exact ⟨by rw [h.head.one]; exact hx.1, LRel.allOne h.tail hx.2⟩
  | [], _ :: _, h, _ => by have := h.1; simp at this
  | _ :: _, [], h, _ => by have := h.1; simp at this

/-- A block is given up. -/
theorem WRel.kill (h : WRel P w0 ρ W w) {i : Nat} {o : CObj} (ho : W.obj i = some o) : WRel P w0 ρ (W.upd i .dead) w := by
  have get : ∀ j v, (W.upd i .dead).h.get j = some v → v ≠ .dead → W.h.get j = some v ∧ j ≠ i := fun j v hv hvd => by
    simp only [CW.upd, Tr.get_set] at hv
    split at hv
    · cases hv; exact (hvd rfl).elim
    · rename_i e; exact ⟨hv, e⟩
  refine ⟨h.dom, ?_, ?_, ?_, h.below⟩
  · intro j v hv
    simp only [CW.upd, Tr.get_set] at hv
    split at hv
    · rename_i e; subst e; exact h.top j o ho
    · exact h.top j v hv
  · intro j v y hv hvd hy
    exact h.live j v y (get j v hv hvd).1 hvd hy
  · intro j k u v y z hu hud hv hvd hy hz hyz
    exact h.inj j k u v y z (get j u hu (CObj.mut_ne hud)).1 hud (get k v hv (CObj.mut_ne hvd)).1 hvd hy hz hyz

/-- A block goes on under a new name. -/
theorem WRel.rename (h : WRel P w0 ρ W w) {i : Nat} {o u : CObj} {u' : Obj} {x y : Info} (ho : W.obj i = some o) (hd : o.mut = true) (hx : ρ i = some x) (hb : y.b = x.b)
    (hr : ORel P (fun i => if i = W.sz then some y else ρ i) y u u') (hm : u.mut = true := by rfl) :
    Grow W ρ ((W.upd i .dead).new u) (fun i => if i = W.sz then some y else ρ i) ∧ WRel P w0 (fun i => if i = W.sz then some y else ρ i) ((W.upd i .dead).new u) { w with heap := w.heap.setIfInBounds x.b u' } := by
  obtain ⟨o', ho', _, hfr, _⟩ := h.live i o x ho (CObj.mut_ne hd) hx
  have hfr := hfr hd
  have hlt := (Array.getElem?_eq_some_iff.1 ho').1
  have hi := h.top i o ho
  have hext : Ext ρ (fun i => if i = W.sz then some y else ρ i) := fun j z hz => by
    have := h.dom j z hz
    show (if j = W.sz then some y else ρ j) = some z
    rw [if_neg (by omega)]; exact hz
  have get : ∀ j v, ((W.upd i .dead).new u).h.get j = some v → v ≠ .dead → (j = W.sz ∧ v = u) ∨ (j ≠ W.sz ∧ j ≠ i ∧ W.h.get j = some v) := fun j v hv hvd => by
    simp only [CW.new, CW.upd, Tr.get_set] at hv
    split at hv
    · rename_i e; cases hv; exact .inl ⟨e, rfl⟩
    · rename_i e
      split at hv
      · cases hv; exact (hvd rfl).elim
      · rename_i e2; exact .inr ⟨e, e2, hv⟩
  refine ⟨⟨hext, fun j hj => by show (if j = W.sz then some y else ρ j) = ρ j; rw [if_neg (by omega)], Nat.le_succ _⟩, ?_, ?_, ?_, ?_, ?_⟩
  · intro j z hz
    show j < W.sz + 1
    by_cases e : j = W.sz
    · omega
    · have : ρ j = some z := by simpa [e] using hz
      have := h.dom j z this; omega
  · intro j v hv
    show j < W.sz + 1
    simp only [CW.new, CW.upd, Tr.get_set] at hv
    split at hv
    · rename_i e; have e : j = W.sz := e; omega
    · split at hv
      · omega
      · have := h.top j v hv; omega
  · intro j v z hv hvd hz
    rcases get j v hv hvd with ⟨rfl, rfl⟩ | ⟨e1, e2, hg⟩
    · have hz : some y = some z := by simpa using hz
      cases hz
      refine ⟨u', ?_, hr, fun _ => by rw [hb]; exact hfr, fun hf => by rw [hm] at hf; cases hf⟩
      show (w.heap.setIfInBounds x.b u')[y.b]? = _
      rw [hb]; simp [hlt]
    · have hz : ρ j = some z := by simpa [e1] using hz
      obtain ⟨v', hv', hrv, hfv⟩ := h.live j v z hg hvd hz
      refine ⟨v', ?_, hrv.mono hext, hfv⟩
      have hne : x.b ≠ z.b := fun hb2 => by
        cases hvm : v.mut with
        | true => exact e2 (h.inj j i v o z x hg hvm ho hd hz hx hb2.symm)
        | false => have := hfv.2 hvm; omega
      show (w.heap.setIfInBounds x.b u')[z.b]? = _
      rw [Array.getElem?_setIfInBounds_ne hne]; exact hv'
  · intro j k v v' z z' hv hvd hv' hvd' hz hz' hzz
    rcases get j v hv (CObj.mut_ne hvd) with ⟨rfl, rfl⟩ | ⟨e1, e2, hg⟩ <;> rcases get k v' hv' (CObj.mut_ne hvd') with ⟨rfl, rfl⟩ | ⟨f1, f2, hg'⟩
    · rfl
    · simp only [if_true, Option.some.injEq] at hz
      simp only [if_neg f1] at hz'
      subst hz
      exact (f2 (h.inj k i v' o z' x hg' hvd' ho hd hz' hx (by rw [← hzz, hb]))).elim
    · simp only [if_true, Option.some.injEq] at hz'
      simp only [if_neg e1] at hz
      subst hz'
      exact (e2 (h.inj j i v o z x hg hvd ho hd hz hx (by rw [hzz, hb]))).elim
    · simp only [if_neg e1] at hz
      simp only [if_neg f1] at hz'
      exact h.inj j k v v' z z' hg hvd hg' hvd' hz hz' hzz
  · exact ⟨h.below.os, h.below.tape, h.below.output, by show w0.heap.size ≤ (w.heap.setIfInBounds x.b u').size; rw [Array.size_setIfInBounds]; exact h.below.size, fun k hk => by
      show (w.heap.setIfInBounds x.b u')[k]? = _
      rw [Array.getElem?_setIfInBounds_ne (by omega)]; exact h.below.block k hk⟩

theorem growBy_le (m : Nat) : ∀ (r c : Nat), c ≤ m + m / 4 + 200 → Builtin.growBy m r c ≤ m + m / 4 + 200
  | 0, c, h => h
  | r + 1, c, h => by
    rw [Builtin.growBy]
    split
    · exact h
    · exact growBy_le m r _ (by omega)

theorem nextslicecap_le (m c : Nat) (h : c < m) : Builtin.nextslicecap m c ≤ 2 * m + 200 := by
  unfold Builtin.nextslicecap
  split
  · omega
  · split
    · omega
    · have := growBy_le m 4 c (by omega)
      omega

/-- What the machine asks of an append, and what the model does. -/
theorem append_run (w : World) {ts : Array TypeId} {t u ty : TypeId} {elem : TypeId} {size : Nat} {z : Value} {info : TypeInfo} {base : Option Addr} {sLen sCap n : Nat} {x : Value} {news : Array Value}
    (h0 : ts[0]? = some t) (h1 : ts[1]? = some u) (hu : noInt P u = true) (ht : P.underlying t = some (.slice elem)) (hs : siz P elem = some size) (hz : zer P elem = some z)
    (hi : P.info? elem = some info) (hb : info.bytes ≤ 1024) (hn : sLen + n ≤ 1000000)
    (hnews : ∀ d, (Builtin.firstCells size n x).run P { w with drawn := d } = .ok news { w with drawn := d }) (hlen : ∀ w : World, (Builtin.lenOf x).run P w = .ok n w) :
    (sLen + n ≤ sCap → (Builtin.append_ ts ty #[.slice base sLen sCap, x]).run P w =
      (do if let some a := base then storeCells (a.add (sLen * size)) news.toList
          pure (.slice base (sLen + n) sCap) : Sem Value).run P w) ∧
    (sCap < sLen + n → ∀ old : Array Value, (∀ d, (Builtin.firstCells size sLen (.slice base sLen sCap)).run P { w with drawn := d } = .ok old { w with drawn := d }) →
      ∃ nc d, sLen + n ≤ nc ∧ (Builtin.append_ ts ty #[.slice base sLen sCap, x]).run P w =
        .ok (.slice (some ⟨w.heap.size, 0, none⟩) (sLen + n) nc) { w with drawn := d, heap := w.heap.push (.cells (old ++ news ++ Builtin.zeroCells z.cells (nc - (sLen + n))) elem) }) := by
  refine ⟨fun hle => ?_, fun hlt old hold => ?_⟩
  · cases hd : P.underlying u with
    | none => simp [noInt, hd] at hu
    | some d =>
      cases d <;> first | (simp [noInt, hd] at hu; done) | skip
      all_goals
        simp only [Builtin.append_, h0, h1, List.getElem?_toArray, List.getElem?_cons_zero, List.getElem?_cons_succ, Sem.run_bind, run_underlying' ht, run_underlying' hd, Result.andThen_ok, run_sizeOf' hs, Sem.run_pure, Bool.false_eq_true, if_false, hlen, if_pos hle, Bool.not_false, if_true, hnews w.drawn]
        cases base <;> rfl
  · have hnc : Builtin.nextslicecap (sLen + n) sCap * info.bytes ≤ 2 ^ 48 := by
      have h2 := nextslicecap_le (sLen + n) sCap hlt
      calc Builtin.nextslicecap (sLen + n) sCap * info.bytes ≤ 2000200 * 1024 := Nat.mul_le_mul (by omega) hb
        _ ≤ 2 ^ 48 := by decide
    refine ⟨sLen + n + (w.tape w.drawn (.appendCap (sLen + n) sCap elem)) % (2 ^ 63 - (sLen + n)), w.drawn + 1, by omega, ?_⟩
    have hbig : ¬ ((sLen + n : Nat) : Int) > IntKind.i64.max := by
      have : IntKind.i64.max = 9223372036854775807 := by decide
      omega
    have hcap : ¬ Builtin.nextslicecap (sLen + n) sCap * info.bytes > 2 ^ 48 := by omega
    cases hd : P.underlying u with
    | none => simp [noInt, hd] at hu
    | some d =>
      cases d <;> first | (simp [noInt, hd] at hu; done) | skip
      all_goals
        simp only [Builtin.append_, h0, h1, List.getElem?_toArray, List.getElem?_cons_zero, List.getElem?_cons_succ, Sem.run_bind, run_underlying' ht, run_underlying' hd, Result.andThen_ok, run_sizeOf' hs, Sem.run_pure, Bool.false_eq_true, if_false, hlen, if_neg (Nat.not_le.2 hlt), Bool.not_false, if_true, run_typeInfo' hi, hbig, false_and, hcap, run_choose, Question.forced, run_askRoom, Question.cut, run_zeroValue' hz]
        have e1 := hold (w.drawn + 1)
        have e2 := hnews (w.drawn + 1)
        simp only [e1, e2, Result.andThen_ok, run_zeroValue' hz, newRow, Sem.run_bind, run_newObj, Sem.run_pure]

theorem content_new {old news : List Value} {old' news' rest : Array Value} (h1 : LRel ρ old old'.toList) (h2 : LRel ρ news news'.toList) (k : Nat) (hk : k < old.length + news.length) :
    VRel ρ (cellAt (Tr.nil.putFrom 0 (old ++ news)) #[] k) ((old' ++ news' ++ rest).getD (k + 0) undef) := by
  rw [cellAt_list _ _ _ (by simpa using hk)]
  have h := (h1.append h2).2 k (by simpa using hk)
  have hl := (h1.append h2).1
  have hk' : k < (old'.toList ++ news'.toList).length := by rw [← hl]; simpa using hk
  rw [List.getD_eq_getElem?_getD (l := old'.toList ++ news'.toList)] at h
  have e : (old' ++ news' ++ rest).getD (k + 0) undef = ((old'.toList ++ news'.toList)[k]?).getD undef := by
    rw [Array.getD_eq_getD_getElem?, ← Array.getElem?_toList]
    simp only [Array.toList_append, Nat.add_zero]
    rw [List.getElem?_append_left hk']
  rw [e]; exact h

theorem zeroCells_size (z : Array Value) (n : Nat) : (Builtin.zeroCells z n).size = n * z.size := by simp [Builtin.zeroCells]

theorem cappend_sound (hw : WRel P w0 ρ W w) {ts : Array TypeId} {t u ty : TypeId} {s s' x x' v : Value} {W1 : CW} (h0 : ts[0]? = some t) (h1 : ts[1]? = some u) (hu : noInt P u = true)
    (h : cappend P t s x W = some (v, W1)) (hs : VRel ρ s s') (hx : VRel ρ x x') :
    ∃ v' w' ρ', Grow W ρ W1 ρ' ∧ (Builtin.append_ ts ty #[s', x']).run P w = .ok v' w' ∧ VRel ρ' v v' ∧ WRel P w0 ρ' W1 w' := by
  unfold cappend at h
  split at h
  · rename_i elem base sLen sCap n ht hsn
    obtain ⟨size, hsz, h'⟩ := optB_some h
    clear h
    obtain ⟨z, hzz, h⟩ := optB_some h'
    clear h'
    obtain ⟨news, hnews, h'⟩ := optB_some h
    clear h
    have h := h'
    clear h'
    rw [cond_eq_ite] at h
    split at h
    rotate_left
    · cases h
    rename_i hcond
    simp only [Bool.and_eq_true] at hcond
    obtain ⟨⟨⟨⟨⟨c1, c2⟩, c3⟩, c4⟩, c5⟩, c6⟩ := hcond
    have c2 := Nat.eq_of_beq_eq_true c2
    have c3 : 0 < size := by have := Nat.le_of_ble_eq_true c3; omega
    have c4 := Nat.eq_of_beq_eq_true c4
    have c5 := Nat.le_of_ble_eq_true c5
    have c6 := Nat.le_of_ble_eq_true c6
    obtain ⟨info, hinfo⟩ : ∃ i, P.info? elem = some i := by
      unfold siz at hsz
      cases hi : P.info? elem with
      | none => simp [hi] at hsz
      | some i => exact ⟨i, rfl⟩
    have hb : info.bytes ≤ 1024 := by simpa [hinfo] using c6
    have hel : (P.info? elem).map (·.size) = some size := hsz
    obtain ⟨news', hn', hrel, hlenx⟩ := src_sound hw hx hsn (Nat.le_refl n) hnews
    have hsr := hs
    obtain ⟨base', sCap', rfl, hcase⟩ := hs.slice_inv
    obtain ⟨R1, R2⟩ := append_run (P := P) (ty := ty) (base := base') (sLen := sLen) (sCap := sCap') w h0 h1 hu ht hsz hzz hinfo hb c5 hn' hlenx
    have hlen' : news'.size = n * size := by have := hrel.1; simp at this; omega
    have hcap : sCap ≤ sCap' := by
      rcases hcase with ⟨_, _, h⟩ | ⟨b, b', _, _, ⟨_, h⟩ | ⟨_, h, _⟩ | ⟨_, h, _⟩⟩
      · omega
      · rcases h with h | ⟨_, _, _, _, _, h⟩ <;> omega
      · omega
      · omega
    rw [cond_eq_ite] at h
    split at h
    · rename_i hle
      have hle := Nat.le_of_ble_eq_true hle
      have R1 := R1 (by omega)
      rw [cond_eq_ite] at h
      split at h
      · rename_i hn0
        have hn0 : n = 0 := Nat.eq_of_beq_eq_true hn0
        subst hn0
        simp only [Option.some.injEq, Prod.mk.injEq] at h
        obtain ⟨rfl, rfl⟩ := h
        refine ⟨.slice base' sLen sCap', w, ρ, .refl _, ?_, hsr, hw⟩
        rw [R1]
        have : news'.toList = [] := by
          have : news'.size = 0 := by omega
          simpa using this
        rw [this]
        cases base' <;> simp [storeCells]
      · rename_i hn0
        have hn0 : n ≠ 0 := fun h => hn0 (by rw [h]; rfl)
        rcases hcase with ⟨rfl, rfl, rfl⟩ | ⟨b, b', rfl, rfl, hcase⟩
        · simp only [Option.some.injEq, Prod.mk.injEq] at h
          obtain ⟨rfl, rfl⟩ := h
          exact ⟨.slice none (sLen + n) sCap', w, ρ, .refl _, by rw [R1]; simp, .snil _ _, hw⟩
        · rcases hcase with ⟨ha, hc⟩ | ⟨_, h0', _⟩ | ⟨_, h0', _⟩
          · simp only at h
            split at h
            · rename_i c m zz e hobj
              rw [cond_eq_ite] at h
              split at h
              · rename_i hle2
                have hle2 := Nat.le_of_ble_eq_true hle2
                simp only [Option.some.injEq, Prod.mk.injEq] at h
                obtain ⟨rfl, rfl⟩ := h
                obtain ⟨x, c2', fr, hx2, rfl, hbk, hnf, hr, hn, hsz2, hoo, _, hcc⟩ := hw.cells ha hobj
                have hw2 := hw.upd hobj rfl hx2 (hr.write (vs := news) (vs' := news'.toList) hrel (k := b.off + sLen * size) (by omega))
                refine ⟨_, _, ρ, .refl _, ?_, .slice _ ha hc, hw2⟩
                rw [R1]
                simp only [Sem.run_bind, add_of]
                rw [run_storeCells (P := P) (b.off + x.o + sLen * size) news'.toList 0 w c2' hbk hnf (by simp; omega) (hrel.allOne c1)]
                simp only [Result.andThen_ok, Sem.run_pure, Nat.add_zero]
                have : b.off + x.o + sLen * size = b.off + sLen * size + x.o := by omega
                rw [this]
              · cases h
            · cases h
          · omega
          · omega
    · rename_i hle
      have hle : sCap < sLen + n := by
        have : ¬ sLen + n ≤ sCap := fun hh => hle (Nat.ble_eq_true_of_le hh)
        omega
      have newCase : sLen = 0 → (∀ d, (Builtin.firstCells size sLen (.slice base' sLen sCap')).run P { w with drawn := d } = .ok #[] { w with drawn := d }) → sCap' < sLen + n →
          v = .slice (some ⟨W.sz, 0, none⟩) (sLen + n) (sLen + n) → W1 = W.new (.cells (Tr.nil.putFrom 0 news) ((sLen + n) * size) #[] elem) →
          ∃ v' w' ρ', Grow W ρ W1 ρ' ∧ (Builtin.append_ ts ty #[.slice base' sLen sCap', x']).run P w = .ok v' w' ∧ VRel ρ' v v' ∧ WRel P w0 ρ' W1 w' := by
        intro hs0 hold hlt hv hW
        subst hv hW hs0
        obtain ⟨nc, d, hnc, hrun⟩ := R2 hlt #[] hold
        have hw1 := hw.drew d
        have hsz3 : ((#[] : Array Value) ++ news' ++ Builtin.zeroCells z.cells (nc - (0 + n))).size = nc * size := by
          simp only [Array.size_append, zeroCells_size, hlen', c4, List.size_toArray, List.length_nil]
          obtain ⟨k, rfl⟩ : ∃ k, nc = 0 + n + k := ⟨nc - (0 + n), by omega⟩
          have : 0 + n + k - (0 + n) = k := by omega
          rw [this, Nat.add_mul, Nat.zero_add n]; omega
        have hext : Ext ρ (fun i => if i = W.sz then some ⟨w.heap.size, 0, size, (0 + n) * size, nc * size⟩ else ρ i) := fun i y hy => by
          have := hw.dom i y hy
          show (if i = W.sz then _ else ρ i) = some y
          rw [if_neg (by omega)]; exact hy
        obtain ⟨hg, hw2⟩ := hw1.new (o := .cells (Tr.nil.putFrom 0 news) ((0 + n) * size) #[] elem) (o' := .cells (#[] ++ news' ++ Builtin.zeroCells z.cells (nc - (0 + n))) elem (0, 0))
          ⟨w.heap.size, 0, size, (0 + n) * size, nc * size⟩ rfl (by
            refine .cells hel hsz3 ?_ (fun k hk => ?_) ⟨NF.zero _, fun h => (h rfl).elim⟩
            · simp only [Nat.zero_add]; exact Nat.mul_le_mul_right _ (by omega)
            · have := content_new (ρ := ρ) (old := []) (old' := #[]) (rest := Builtin.zeroCells z.cells (nc - (0 + n))) (.nil _) hrel k (by simp [c2]; simpa using hk)
              exact this.mono hext)
        refine ⟨_, _, _, hg, hrun, ?_, hw2⟩
        refine .slice _ ⟨rfl, ⟨w.heap.size, 0, size, (0 + n) * size, nc * size⟩, by simp, by simp⟩ (.inr ⟨⟨w.heap.size, 0, size, (0 + n) * size, nc * size⟩, by simp, c3, by simp, by simp, hnc⟩)
      rcases hcase with ⟨rfl, rfl, rfl⟩ | ⟨b, b', rfl, rfl, hcase⟩
      · simp only [cond_eq_ite] at h
        split at h
        · rename_i hs0
          have hs0 := Nat.eq_of_beq_eq_true hs0
          simp only [Option.some.injEq, Prod.mk.injEq] at h
          obtain ⟨hv, hW⟩ := h
          exact newCase hs0 (fun _ => rfl) (by omega) hv.symm hW.symm
        · cases h
      · simp only [cond_eq_ite] at h
        split at h
        · rename_i hsp
          split at h
          · rename_i hs0
            simp only [Bool.and_eq_true] at hs0
            have hs1 := Nat.eq_of_beq_eq_true hs0.1
            have hs2 := Nat.eq_of_beq_eq_true hs0.2
            simp only [Option.some.injEq, Prod.mk.injEq] at h
            obtain ⟨hv, hW⟩ := h
            have hc0 : sCap' = 0 := by
              rcases hcase with ⟨ha, _⟩ | ⟨_, _, hq, _⟩ | ⟨_, _, h1, _⟩
              · rw [ha.1] at hsp; cases hsp
              · rw [hq] at hsp; cases hsp
              · exact h1
            refine newCase hs1 (fun d => ?_) (by omega) hv.symm hW.symm
            rw [hs1]
            simp only [Builtin.firstCells, Nat.zero_mul]
            exact run_loadCells0 _ _
          · cases h
        rename_i hsp
        have hcase : (ARel ρ b b' ∧ CapRel ρ b sCap sCap') ∨ (sLen = 0 ∧ sCap = 0 ∧ ∃ x, ρ b.block = some x ∧ b'.block = x.b ∧ b'.spot = none ∧ (sCap' = 0 ∨ (0 < x.sz ∧ b'.off + sCap' * x.sz = x.n'))) := by
          rcases hcase with h1 | ⟨h1, h2, _, h3⟩ | ⟨_, _, _, h1⟩
          · exact .inl h1
          · exact .inr ⟨h1, h2, h3⟩
          · rw [h1] at hsp; exact (hsp rfl).elim
        clear newCase
        split at h
        rotate_left
        · cases h
        rename_i c m zz e hobj
        split at h
        rotate_left
        · cases h
        rename_i hcond
        simp only [Bool.and_eq_true] at hcond
        have hle2 := Nat.le_of_ble_eq_true hcond.1
        have hee := Nat.eq_of_beq_eq_true hcond.2
        subst hee
        simp only [Option.some.injEq, Prod.mk.injEq] at h
        obtain ⟨rfl, rfl⟩ := h
        -- where the slice lies in the model
        obtain ⟨x, c2', q, fr, hx2, hq, hbk, hnf, hr, hsz2, hoff, hcells⟩ : ∃ x c2' q fr, ρ b.block = some x ∧ b' = ⟨x.b, q, none⟩ ∧ w.heap[x.b]? = some (.cells c2' e fr) ∧ NF fr c2'.size ∧ ORel P ρ x (.cells c m zz e) (.cells c2' e fr) ∧ c2'.size = x.n' ∧
            (sCap' = sCap ∨ (x.sz = size ∧ q + sCap' * size = x.n')) ∧ (∀ k, k < sLen * size → VRel ρ (cellAt c zz (b.off + k)) (c2'.getD (q + k) undef)) := by
          rcases hcase with ⟨ha, hc⟩ | ⟨hs0, hc0, x, hx2, hb1, hb2, hc⟩
          · obtain ⟨x, c2', fr, hx2, rfl, hbk, hnf, hr, hn, hsz2, hoo, he, hcc⟩ := hw.cells ha hobj
            refine ⟨x, c2', b.off + x.o, fr, hx2, rfl, hbk, hnf, hr, hsz2, ?_, fun k hk => ?_⟩
            · rcases hc with hc | ⟨y, hy, _, _, h2, _⟩
              · exact .inl hc
              · rw [hx2] at hy; cases hy
                have := siz_eq hsz he
                rw [this] at h2
                exact .inr ⟨this, h2⟩
            · have := hcc (b.off + k) (by omega)
              have e1 : b.off + k + x.o = b.off + x.o + k := by omega
              rwa [e1] at this
          · obtain ⟨o', ho', hr⟩ := hw.obj hobj (by simp) hx2 rfl
            cases hr with
            | cells he hs2 hoo hcc hq =>
              refine ⟨x, _, b'.off, _, hx2, ?_, ho', hq.1, .cells he hs2 hoo hcc hq, hs2, ?_, fun k hk => ?_⟩
              · cases b'; simp_all
              · rcases hc with hc | ⟨_, hc⟩
                · left; omega
                · have := siz_eq hsz he
                  rw [this] at hc
                  exact .inr ⟨this, hc⟩
              · rw [hs0] at hk; omega
        subst hq
        by_cases hin : sLen + n ≤ sCap'
        · have hoff := hoff.resolve_left (by omega)
          have R1 := R1 hin
          have hroom : q + (sLen + n) * size ≤ x.n' := by
            have := Nat.mul_le_mul_right size hin
            omega
          have hmul : (sLen + n) * size = sLen * size + n * size := Nat.add_mul _ _ _
          have hll : news.length = news'.toList.length := hrel.1
          have hext : Ext ρ (fun i => if i = W.sz then some ⟨x.b, q, size, (sLen + n) * size, x.n'⟩ else ρ i) := fun i y hy => by
            have := hw.dom i y hy
            show (if i = W.sz then _ else ρ i) = some y
            rw [if_neg (by omega)]; exact hy
          obtain ⟨hg, hw2⟩ := hw.rename (u := .cells (Tr.nil.putFrom 0 (readCells c zz (sLen * size) b.off ++ news)) ((sLen + n) * size) #[] e) (u' := .cells (writeTo c2' (q + sLen * size) news'.toList) e fr)
            (y := ⟨x.b, q, size, (sLen + n) * size, x.n'⟩) hobj rfl hx2 rfl (by
              refine .cells hel (by rw [writeTo_size]; exact hsz2) hroom (fun k hk => ?_) ⟨by rw [writeTo_size]; exact hnf, fun h => (h rfl).elim⟩
              have hk : k < (sLen + n) * size := hk
              refine VRel.mono (ρ := ρ) ?_ hext
              rw [cellAt_list _ _ _ (by simp [readCells_length, c2]; omega), writeTo_get _ _ _ _ (by rw [← hll]; omega)]
              rw [← hll]
              show VRel ρ _ (if q + sLen * size ≤ k + q ∧ k + q < q + sLen * size + news.length then news'.toList.getD (k + q - (q + sLen * size)) undef else c2'.getD (k + q) undef)
              by_cases hk2 : k < sLen * size
              · rw [if_neg (by omega)]
                rw [List.getD_eq_getElem?_getD, List.getElem?_append_left (by rw [readCells_length]; exact hk2), ← List.getD_eq_getElem?_getD, readCells_get _ _ _ _ _ hk2, Nat.add_comm k q]
                exact hcells k hk2
              · rw [if_pos (by omega)]
                rw [List.getD_eq_getElem?_getD, List.getElem?_append_right (by rw [readCells_length]; omega), ← List.getD_eq_getElem?_getD, readCells_length]
                have e1 : k + q - (q + sLen * size) = k - sLen * size := by omega
                rw [e1]
                exact hrel.2 _ (by omega))
          refine ⟨.slice (some ⟨x.b, q, none⟩) (sLen + n) sCap', _, _, hg, ?_, ?_, hw2⟩
          · rw [R1]
            simp only [Sem.run_bind, add_of]
            rw [run_storeCells (P := P) (q + sLen * size) news'.toList 0 w c2' hbk hnf (by rw [← hll]; omega) (hrel.allOne c1)]
            simp only [Result.andThen_ok, Sem.run_pure, Nat.add_zero]
          · refine .slice _ ⟨rfl, ⟨x.b, q, size, (sLen + n) * size, x.n'⟩, by simp, by simp⟩ (.inr ⟨⟨x.b, q, size, (sLen + n) * size, x.n'⟩, by simp, c3, by simp, ?_, hin⟩)
            show 0 + q + sCap' * size = x.n'
            omega
        · have hN : firstN (some b) (sLen * size) W = some (readCells c zz (sLen * size) b.off) := by
            simp only [firstN, hobj, cond_eq_ite]
            rw [if_pos (Nat.ble_eq_true_of_le hle2)]
            split
            · rename_i h0
              rw [Nat.eq_of_beq_eq_true h0]; rfl
            · rfl
          obtain ⟨old', ho', hor⟩ := firstN_sound hw hsr (Nat.le_refl sLen) hN
          obtain ⟨nc, d, hnc, hrun⟩ := R2 (by omega) old' ho'
          have hw1 := (hw.kill hobj).drew d
          have hol : old'.size = sLen * size := by have := hor.1; rw [readCells_length] at this; simpa using this.symm
          have hsz3 : (old' ++ news' ++ Builtin.zeroCells z.cells (nc - (sLen + n))).size = nc * size := by
            simp only [Array.size_append, zeroCells_size, hlen', c4, hol]
            obtain ⟨k, rfl⟩ : ∃ k, nc = sLen + n + k := ⟨nc - (sLen + n), by omega⟩
            have : sLen + n + k - (sLen + n) = k := by omega
            rw [this, Nat.add_mul, Nat.add_mul]
          have hext : Ext ρ (fun i => if i = W.sz then some ⟨w.heap.size, 0, size, (sLen + n) * size, nc * size⟩ else ρ i) := fun i y hy => by
            have := hw.dom i y hy
            show (if i = W.sz then _ else ρ i) = some y
            rw [if_neg (by omega)]; exact hy
          obtain ⟨hg, hw2⟩ := hw1.new (o := .cells (Tr.nil.putFrom 0 (readCells c zz (sLen * size) b.off ++ news)) ((sLen + n) * size) #[] e) (o' := .cells (old' ++ news' ++ Builtin.zeroCells z.cells (nc - (sLen + n))) e (0, 0))
            ⟨w.heap.size, 0, size, (sLen + n) * size, nc * size⟩ rfl (by
              refine .cells hel hsz3 ?_ (fun k hk => ?_) ⟨NF.zero _, fun h => (h rfl).elim⟩
              · simp only [Nat.zero_add]; exact Nat.mul_le_mul_right _ (by omega)
              · have hk : k < (sLen + n) * size := hk
                rw [Nat.add_mul] at hk
                exact (content_new (ρ := ρ) hor hrel k (by rw [readCells_length]; omega)).mono hext)
          refine ⟨_, _, _, hg, hrun, ?_, hw2⟩
          refine .slice _ ⟨rfl, ⟨w.heap.size, 0, size, (sLen + n) * size, nc * size⟩, ?_, by simp⟩ (.inr ⟨⟨w.heap.size, 0, size, (sLen + n) * size, nc * size⟩, ?_, c3, by simp, by simp, hnc⟩)
          · show (if W.sz = W.sz then _ else _) = _; rw [if_pos rfl]
          · show (if W.sz = W.sz then _ else _) = _; rw [if_pos rfl]
  · cases h
end
end Go.Ce
