/- The canonical machine for closed runs: the other built-in functions; every operation. -/
import Derived.Test.YtcjjhebocgbbdaaGreatCm
import Derived.Laws.BytesArg
import Derived.Laws.IdiomStrings
set_option linter.unusedSectionVars false
set_option linter.unusedVariables false
set_option linter.unusedSimpArgs false
namespace Go.Ce
open Go.RowKit (Below)

section
variable {P : Program} {w0 : World} {ρ : Ren} {W : CW} {w : World} {o : Oper} {e e' : Operand → Value} {outs : List (CNext × CW)}

theorem cextern_sound (hz : ZP P) {f : FuncId} {as : List Value} {as' : Array Value} {v : Value} {W1 : CW} (h : cextern P f as W = some (v, W1)) (hw : WRel P w0 ρ W w) (ha : LRel ρ as as'.toList) :
    ∃ v' w' ρ', (callFunc f as').run P w = .ok (.value v') w' ∧ Grow W ρ W1 ρ' ∧ VRel ρ' v v' ∧ WRel P w0 ρ' W1 w' := by
  unfold cextern at h
  split at h
  rotate_left
  · cases h
  rename_i fn hfn
  rw [cond_eq_ite] at h
  split at h
  rotate_left
  · cases h
  rename_i hb
  rw [cond_eq_ite] at h
  split at h
  rotate_left
  · cases h
  rename_i hn
  split at h
  rotate_left
  · cases h
  rename_i t r
  split at h
  rotate_left
  · cases h
  rename_i es clk hobj
  cases h
  obtain ⟨y, hy, hv⟩ := ha.get (i := 0) (x := .iface t (.map (some r))) rfl
  have hl : as' = #[y] := by
    have h1 := ha.1
    apply Array.ext'
    cases hq : as'.toList with
    | nil => rw [hq] at h1; cases h1
    | cons z l =>
      rw [hq] at h1 hy
      have : l = [] := by simpa using h1.symm
      subst this
      simpa using hy
  subst hl
  cases hv with
  | iface _ hv =>
    cases hv with
    | @map _ r' hb' =>
      obtain ⟨x, hx, rfl⟩ := hb'
      obtain ⟨o', ho', hr⟩ := hw.obj hobj (by simp) hx rfl
      cases hr with
      | @map _ es' _ h1 h2 =>
        have hext : Ext ρ (fun i => if i = W.sz then some ⟨w.heap.size, 0, 0, 0, 0⟩ else ρ i) := fun i y hy => by
          have := hw.dom i y hy
          show (if i = W.sz then _ else ρ i) = some y
          rw [if_neg (by omega)]; exact hy
        obtain ⟨hg, hw'⟩ := hw.new (o := .map es clk) (o' := .map es' clk) ⟨w.heap.size, 0, 0, 0, 0⟩ rfl (.map rfl (h2.mono hext))
        have hrun : (Extern.MapsClone.clone #[.iface t (.map (some x.b))]).run P w = .ok (.iface t (.map (some w.heap.size))) { w with heap := w.heap.push (.map es' clk) } := by
          have e1 : Extern.MapsClone.clone #[.iface t (.map (some x.b))] = (getObj x.b >>= fun o => match o with
              | .map entries clock => (newObj (.map entries clock) >>= fun n => pure (.iface t (.map (some n))))
              | _ => stuck "maps.clone: a map expected") := rfl
          have hgo : (getObj x.b).run P w = .ok (.map es' clk) w := run_getObj' ho' (by simp)
          rw [e1]
          simp only [Sem.run_bind, hgo, Result.andThen_ok, run_newObj, Sem.run_pure]
        exact ⟨_, _, _, hz.2 f fn hfn hb hn _ _ _ _ hrun, hg, .iface _ (.map ⟨⟨w.heap.size, 0, 0, 0, 0⟩, by simp, rfl⟩), hw'⟩

theorem op_callValue (hz : ZP P) {c : Call} {f : Operand} (ho : o.op = .call c) (hf : c.callee = .value f) (h : cop P o e W = some outs) (hw : WRel P w0 ρ W w) (hx : VRel ρ (e f) (e' f))
    (ha : ∀ x, x ∈ c.args.toList → VRel ρ (e x) (e' x)) : OpSound P w0 ρ W ((execOp e' o).run P w) outs := by
  simp only [cop, ho, hf] at h
  have hargs : LRel ρ (c.args.toList.map e) (c.args.map e').toList := by simpa using LRel.map (ρ := ρ) c.args.toList e e' ha
  generalize hn : ccall (e f) (c.args.toList.map e) = n at h
  unfold ccall at hn
  split at hn
  · rename_i fn first cap hc
    rw [hc] at hx
    generalize hcx : e' f = vx' at hx
    cases hx with
    | @func _ f' _ x' _ y' hfn h1 h2 h3 h4 =>
      cases hfn
      have hA : LRel ρ (first.toList ++ c.args.toList.map e ++ cap.toList) (x' ++ c.args.map e' ++ y').toList := by
        have e1 := LRel.arr.2 ⟨h1, h2⟩
        have e2 := LRel.arr.2 ⟨h3, h4⟩
        simpa using (e1.append hargs).append e2
      have hE : (execOp e' o).run P w = (callFunc fn (x' ++ c.args.map e' ++ y')).run P w := by
        simp only [execOp, ho, resolve, hf, hcx, Deferred.ofValue, Sem.run_bind, Sem.run_pure, Result.andThen_ok, invoke]
      subst hn
      simp only at h
      split at h
      · rename_i v W1 hext
        cases h
        obtain ⟨v', w', ρ', hrun, hg, hv, hw'⟩ := cextern_sound hz hext hw hA
        exact ⟨_, _, ρ', List.mem_singleton.2 rfl, hg, .value (w := w') (by rw [hE, hrun]) hv hw'⟩
      · cases h
        exact ⟨_, _, ρ, List.mem_singleton.2 rfl, .refl _, .enter (args' := x' ++ c.args.map e' ++ y') (w := w) hE hA hw⟩
  · rename_i l first cap hc
    subst hn
    cases h
    rw [hc] at hx
    generalize hcx : e' f = vx' at hx
    cases hx with
    | @func _ f' _ x' _ y' hfn h1 h2 h3 h4 =>
      cases hfn with
      | yield hb =>
        refine ⟨_, _, ρ, List.mem_singleton.2 rfl, .refl _, .round (args' := x' ++ c.args.map e') (w := w) ?_ hb ?_ hw⟩
        · simp only [execOp, ho, resolve, hf, hcx, Deferred.ofValue, Sem.run_bind, Sem.run_pure, Result.andThen_ok, invoke]
        · have e1 := LRel.arr.2 ⟨h1, h2⟩
          simpa using e1.append hargs
  · subst hn
    cases h

theorem cellBytes_len : ∀ {l : List Value} {m : List UInt8}, cellBytes l = some m → m.length = l.length ∧ ∀ l', LRel ρ l l' → ∃ ns : List Int, l' = ns.map (Value.int .u8) ∧ m = ns.map fun n => UInt8.ofNat n.toNat
  | [], m, h => by cases h; exact ⟨rfl, fun l' hl => ⟨[], List.length_eq_zero_iff.1 hl.1.symm, rfl⟩⟩
  | v :: l, m, h => by
    unfold cellBytes at h
    split at h
    · cases ‹_ :: _ = []›
    · rename_i n l2 heq
      cases heq
      split at h
      · rename_i m2 hm
        cases h
        obtain ⟨h1, h2⟩ := cellBytes_len hm
        refine ⟨by simp [h1], fun l' hl => ?_⟩
        cases l' with
        | nil => have := hl.1; simp at this
        | cons y l' =>
          obtain ⟨ns, e1, e2⟩ := h2 l' hl.tail
          have hv := hl.head
          cases hv
          exact ⟨n :: ns, by rw [e1]; rfl, by rw [e2]; rfl⟩
      · cases h
    · cases h

theorem cbts_sound (hw : WRel P w0 ρ W w) {s d el : TypeId} {x x' v : Value} (hs : P.underlying s = some (.slice el)) (hd : P.underlying d = some .string) (h : cbts P el x W = some v) (hx : VRel ρ x x') :
    (convert s d x').run P w = .ok v w ∧ VRel ρ v v := by
  unfold cbts at h
  split at h
  rotate_left
  · cases h
  rename_i b n c hel
  obtain ⟨l, hl, h⟩ := optB_some h
  obtain ⟨m, hm, h⟩ := optB_some h
  cases h
  refine ⟨?_, .string _⟩
  obtain ⟨b', c', rfl, hcase⟩ := hx.slice_inv
  rw [run_convert_bytes_string w s d el b' n c' hs hel hd]
  have hl' : firstN b (n * 1) W = some l := by rw [Nat.mul_one]; exact hl
  obtain ⟨l', hr, hrel⟩ := firstN_sound hw hx (Nat.le_refl n) hl'
  obtain ⟨_, hb⟩ := cellBytes_len (ρ := ρ) hm
  obtain ⟨ns, e1, e2⟩ := hb _ hrel
  rcases hcase with ⟨rfl, rfl, _⟩ | ⟨a, a', rfl, rfl, _⟩
  · have hnil : l = [] := by cases hl; rfl
    subst hnil
    cases hm
    simp [Conv.bytesToString]
    rfl
  · have hr := hr w.drawn
    simp only [Builtin.firstCells, Nat.mul_one] at hr
    have e3 : l' = (ns.map (Value.int .u8)).toArray := by apply Array.ext'; rw [e1]
    rw [e3] at hr
    rw [run_bytesToString w a' n c' ns hr, foldl_push_bytes, e2]
    simp

theorem cstb_sound (hw : WRel P w0 ρ W w) {s d el : TypeId} {b : ByteArray} {v : Value} {W1 : CW} (hs : P.underlying s = some .string) (hd : P.underlying d = some (.slice el)) (h : cstb P el b W = some (v, W1)) :
    ∃ v' w' ρ', (convert s d (.string b)).run P w = .ok v' w' ∧ Grow W ρ W1 ρ' ∧ VRel ρ' v v' ∧ WRel P w0 ρ' W1 w' := by
  unfold cstb at h
  split at h
  rotate_left
  · cases h
  rename_i hel hsz
  cases h
  let cap := grownCap w b.size 0 el
  have hcapge : b.size ≤ cap := by
    show b.size ≤ grownCap w b.size 0 el
    simp only [grownCap, Question.cut]; omega
  have hw1 := hw.drew (w.drawn + 1)
  have hext : Ext ρ (fun i => if i = W.sz then some ⟨w.heap.size, 0, 1, b.size, cap⟩ else ρ i) := fun i y hy => by
    have := hw.dom i y hy
    show (if i = W.sz then _ else ρ i) = some y
    rw [if_neg (by omega)]; exact hy
  have hbs : b.data.size = b.size := rfl
  have hcs : (bytesRow b cap).size = cap := by
    simp [bytesRow, hbs]; omega
  obtain ⟨hg, hw2⟩ := hw1.new (o := .cells (Tr.nil.putFrom 0 (byteCells (sb b))) b.size #[] el) (o' := .cells (bytesRow b cap) el ((bytesRow b cap).size, (bytesRow b cap).size + 1)) ⟨w.heap.size, 0, 1, b.size, cap⟩ rfl (by
    refine .cells hsz hcs (by show 0 + b.size ≤ cap; omega) (fun k hk => ?_) ⟨fun k hk => by simp; omega, fun h => (h rfl).elim⟩
    have hk : k < b.size := hk
    have hk2 : k < b.data.size := hk
    have hlen : (byteCells (sb b)).length = b.size := by simp [byteCells, sb, hbs]
    rw [cellAt_list _ _ _ (by omega)]
    have e1 : (bytesRow b cap).getD (k + 0) undef = .int .u8 b.data[k].toNat := by
      rw [Array.getD_eq_getD_getElem?, Nat.add_zero, bytesRow, Array.getElem?_append_left (by simpa using hk2)]
      simp [Array.getElem?_eq_getElem hk2]
    have e2 : (byteCells (sb b)).getD k undef = .int .u8 b.data[k].toNat := by
      simp [byteCells, sb, List.getD_eq_getElem?_getD, Array.getElem?_eq_getElem hk2]
    rw [e1, e2]
    exact .int _ _)
  refine ⟨.slice (some ⟨w.heap.size, 0, none⟩) b.size cap, _, _, ?_, hg, .slice _ ⟨rfl, ⟨w.heap.size, 0, 1, b.size, cap⟩, by simp, by simp⟩ (.inr ⟨⟨w.heap.size, 0, 1, b.size, cap⟩, by simp, by show 0 < 1; omega, by simp, by simp, hcapge⟩), hw2⟩
  exact run_bytes_of_string w s d el b hs hd hel

theorem op_convert {s d : TypeId} {x : Operand} (ho : o.op = .convert s d x) (h : cop P o e W = some outs) (hw : WRel P w0 ρ W w) (hx : VRel ρ (e x) (e' x)) :
    OpSound P w0 ρ W ((execOp e' o).run P w) outs := by
  simp only [cop, ho] at h
  split at h
  · rename_i ud k k0 n hs hd hc
    cases h
    rw [hc] at hx
    generalize hcc : e' x = vx' at hx
    cases hx
    refine .value hw ?_ (.int _ _)
    simp only [execOp, ho, hcc]
    refine exec_v ?_
    simp only [convert, Sem.run_bind, run_underlying' hs, run_underlying' hd, Result.andThen_ok, Conv.intToInt, Sem.run_pure]
  · rename_i ud s0 hs hd hc
    cases h
    rw [hc] at hx
    generalize hcc : e' x = vx' at hx
    cases hx
    refine .value hw ?_ (.string _)
    simp only [execOp, ho, hcc]
    refine exec_v ?_
    cases ud <;> simp [convert, run_underlying' hs, run_underlying' hd]
  · rename_i el s0 hs hd hc
    obtain ⟨v, W1, hv, rfl⟩ := vwmatch h
    rw [hc] at hx
    generalize hcc : e' x = vx' at hx
    cases hx
    obtain ⟨v', w', ρ', hr, hg, hvv, hw'⟩ := cstb_sound hw hs hd hv
    refine ⟨_, _, ρ', List.mem_singleton.2 rfl, hg, .value (w := w') ?_ hvv hw'⟩
    simp only [execOp, ho, hcc]
    exact exec_v hr
  · rename_i el _ hs hd _
    obtain ⟨v, hv, rfl⟩ := vmatch h
    obtain ⟨hr, hvv⟩ := cbts_sound hw hs hd hv hx
    refine .value hw ?_ hvv
    simp only [execOp, ho]
    exact exec_v hr
  · cases h

theorem ccopy_sound (hw : WRel P w0 ρ W w) {ts : Array TypeId} {t ty : TypeId} {d d' s s' v : Value} {W1 : CW} (h0 : ts[0]? = some t)
    (h : ccopy P t d s W = some (v, W1)) (hd : VRel ρ d d') (hs : VRel ρ s s') : ∃ v' w', (Builtin.copy_ ts ty #[d', s']).run P w = .ok v' w' ∧ VRel ρ v v' ∧ WRel P w0 ρ W1 w' := by
  unfold ccopy at h
  split at h
  · rename_i elem base dLen dCap sLen ht hsn
    obtain ⟨size, hsz, h2⟩ := optB_some h
    clear h
    obtain ⟨news, hnews, h⟩ := optB_some h2
    clear h2
    have hmin : Nat.min sLen dLen ≤ sLen := Nat.min_le_left _ _
    obtain ⟨news', hn', hrel, hl⟩ := src_sound hw hs hsn hmin hnews
    obtain ⟨base', dCap', rfl, hcase⟩ := hd.slice_inv
    have hrun : (Builtin.copy_ ts ty #[.slice base' dLen dCap', s']).run P w = (do if let some a := base' then storeCells a news'.toList
                                                                                                        pure (goInt (Nat.min sLen dLen)) : Sem Value).run P w := by
      simp only [Builtin.copy_, h0, List.getElem?_toArray, List.getElem?_cons_zero, List.getElem?_cons_succ, Sem.run_bind, run_underlying' ht, Result.andThen_ok, hl, run_sizeOf' hsz, hn' w.drawn]
      cases base' <;> rfl
    rw [cond_eq_ite] at h
    split at h
    · rename_i hn0
      have hn0 := Nat.eq_of_beq_eq_true hn0
      simp only [Option.some.injEq, Prod.mk.injEq] at h
      obtain ⟨rfl, rfl⟩ := h
      refine ⟨_, w, ?_, .int _ _, hw⟩
      rw [hrun]
      have hnil : news'.toList = [] := by
        have hlen := hrel.1
        have : news = [] := by
          rw [hn0] at hnews
          unfold srcCells at hnews
          split at hnews
          · rw [Nat.zero_mul] at hnews
            unfold firstN at hnews
            split at hnews
            · cases hnews; rfl
            · cases hnews; rfl
          · rw [cond_eq_ite] at hnews
            split at hnews
            · cases hnews; rfl
            · cases hnews
          · cases hnews
        rw [this] at hlen
        exact List.length_eq_zero_iff.1 hlen.symm
      rw [hnil]
      cases base' <;> simp [storeCells, goInt]
    · rename_i hn0
      rcases hcase with ⟨rfl, _, _⟩ | ⟨b, b', rfl, rfl, hcase⟩
      · cases h
      · simp only at h
        split at h
        · rename_i c m zz ee hobj
          rw [cond_eq_ite] at h
          split at h
          · rename_i hcond
            simp only [Bool.and_eq_true] at hcond
            have hle := Nat.le_of_ble_eq_true hcond.2
            simp only [Option.some.injEq, Prod.mk.injEq] at h
            obtain ⟨rfl, rfl⟩ := h
            rcases hcase with ⟨ha, _⟩ | ⟨hd0, _, _⟩ | ⟨hd0, _, _⟩
            · obtain ⟨x, c2', fr, hx2, rfl, hbk, hnf, hr, hn, hsz2, hoo, _, hcc⟩ := hw.cells ha hobj
              have hw2 := hw.upd hobj rfl hx2 (hr.write (vs := news) (vs' := news'.toList) hrel (k := b.off) (by omega))
              refine ⟨_, _, ?_, .int _ _, hw2⟩
              rw [hrun]
              simp only [Sem.run_bind]
              rw [run_storeCells (P := P) (b.off + x.o) news'.toList 0 w c2' hbk hnf (by have := hrel.1; omega) (hrel.allOne hcond.1)]
              simp only [Result.andThen_ok, Sem.run_pure, Nat.add_zero]
              rfl
            · exact (hn0 (by rw [hd0]; simp)).elim
            · exact (hn0 (by rw [hd0]; simp)).elim
          · cases h
        · cases h
  · cases h

theorem clen_sound (hw : WRel P w0 ρ W w) {ts : Array TypeId} {t ty : TypeId} {x x' v : Value} (h0 : ts[0]? = some t) (h : clen P t x W = some v) (hx : VRel ρ x x') :
    ∃ v', (Builtin.len_ ts ty #[x']).run P w = .ok v' w ∧ VRel ρ v v' := by
  unfold clen at h
  split at h
  · rename_i s ht
    cases h; cases hx
    exact ⟨_, by simp [Builtin.len_, h0, run_underlying' ht, goInt], .int _ _⟩
  · rename_i el a0 n c ht
    cases h
    obtain ⟨a', c', rfl, _⟩ := hx.slice_inv
    exact ⟨_, by simp [Builtin.len_, h0, run_underlying' ht, goInt], .int _ _⟩
  · rename_i kt el ht
    cases h; cases hx
    exact ⟨_, by simp [Builtin.len_, h0, run_underlying' ht, goInt], .int _ _⟩
  · rename_i kt el r ht
    cases hx with
    | map hb =>
      split at h
      · rename_i es clk hobj
        cases h
        obtain ⟨y, es', hy, rfl, _, hh, hrel⟩ := hw.mapAt hb hobj
        have hl := hrel.length
        refine ⟨.int .i64 es'.size, by simp [Builtin.len_, h0, run_underlying' ht, goInt, run_getObj' hh (by simp)], ?_⟩
        rw [hl]
        simpa using VRel.int .i64 _
      · cases h
  · cases h

theorem ccap_sound (hw : WRel P w0 ρ W w) {ts : Array TypeId} {t ty : TypeId} {x x' v : Value} (h0 : ts[0]? = some t) (h : ccap P t x W = some v) (hx : VRel ρ x x') :
    ∃ v', (Builtin.cap_ ts ty #[x']).run P w = .ok v' w ∧ VRel ρ v v' := by
  unfold ccap at h
  split at h
  · rename_i el n c ht
    cases h
    cases hx
    refine ⟨_, ?_, .int _ _⟩
    simp [Builtin.cap_, h0, run_underlying' ht, goInt]
  · rename_i el a n c ht
    split at h
    · rename_i cc m z e hobj
      rw [cond_eq_ite] at h
      split at h
      · cases h
      · rename_i hz
        simp only [Bool.or_eq_true, Nat.beq_eq, not_or] at hz
        cases h
        cases hx with
        | @slice _ a' _ _ c' ha hc =>
          have : c' = c := by
            rcases hc with hc | ⟨x, hx, hp, h1, h2, _⟩
            · exact hc
            · obtain ⟨_, y, hy, rfl⟩ := ha
              rw [hx] at hy; cases hy
              obtain ⟨o', ho', hr⟩ := hw.obj hobj (by simp) hx rfl
              cases hr with
              | cells _ _ _ _ hq =>
                obtain ⟨e1, e2⟩ := hq.2 hz.1
                have : c * x.sz = c' * x.sz := by omega
                exact (Nat.eq_of_mul_eq_mul_right hp this).symm
          subst this
          refine ⟨_, ?_, .int _ _⟩
          simp [Builtin.cap_, h0, run_underlying' ht, goInt]
        | slice0 => exact (hz.2 rfl).elim
        | slice00 => exact (hz.2 rfl).elim
    · cases h
  · cases h

theorem cdelete_sound (hw : WRel P w0 ρ W w) {ts : Array TypeId} {t ty : TypeId} {m m' k k' : Value} {W1 : CW} (h0 : ts[0]? = some t) (h : cdelete P t m k W = some W1) (hm : VRel ρ m m') (hk : VRel ρ k k') :
    ∃ w', (Builtin.delete_ ts ty #[m', k']).run P w = .ok (.tuple #[]) w' ∧ WRel P w0 ρ W1 w' := by
  unfold cdelete at h
  split at h
  · rename_i kt el r ht
    cases hm with
    | @map _ r' hb =>
      split at h
      · rename_i es clk hobj
        obtain ⟨f, hf, h2⟩ := optB_some h
        clear h
        have h := h2
        obtain ⟨y, es', hy, rfl, hy0, hh, hrel⟩ := hw.mapAt hb hobj
        obtain ⟨r', hck, hfind, hcase⟩ := cfind_sound hf hk hrel
        rcases hcase with ⟨rfl, rfl⟩ | ⟨j, x1, x1', en, rfl, rfl, hxx, hen, hsame⟩
        · cases h
          refine ⟨{ w with heap := w.heap.setIfInBounds y.b (.map es' clk) }, ?_, hw.upd hobj rfl hy (.map hy0 hrel)⟩
          simp [Builtin.delete_, h0, run_underlying' ht, run_getObj' hh (by simp), hck, hfind, run_setObj' hh (by simp)]
        · cases h
          refine ⟨{ w with heap := w.heap.setIfInBounds y.b (.map (es'.eraseIdxIfInBounds j) clk) }, ?_, hw.upd hobj rfl hy (.map hy0 ?_)⟩
          · simp [Builtin.delete_, h0, run_underlying' ht, run_getObj' hh (by simp), hck, hfind, run_setObj' hh (by simp)]
          · have := hrel.dropAt j
            have e1 : (es'.eraseIdxIfInBounds j).toList = es'.toList.eraseIdx j := by simp
            rw [e1]; exact this
      · cases h
  · cases h

theorem cclear_sound (hz : ZP P) (hw : WRel P w0 ρ W w) {ts : Array TypeId} {t ty : TypeId} {x x' : Value} {W1 : CW} (h0 : ts[0]? = some t) (h : cclear P t x W = some W1) (hx : VRel ρ x x') :
    ∃ w', (Builtin.clear_ ts ty #[x']).run P w = .ok (.tuple #[]) w' ∧ WRel P w0 ρ W1 w' := by
  unfold cclear at h
  split at h
  · rename_i kt el r ht
    split at h
    · rename_i es clk hobj
      cases h
      cases hx with
      | @map _ r' hb =>
        obtain ⟨y, es', hy, rfl, hy0, hh, hrel⟩ := hw.mapAt hb hobj
        refine ⟨{ w with heap := w.heap.setIfInBounds y.b (.map #[] clk) }, ?_, hw.upd hobj rfl hy (.map hy0 trivial)⟩
        simp [Builtin.clear_, h0, run_underlying' ht, run_getObj' hh (by simp), run_setObj' hh (by simp)]
    · cases h
  · rename_i kt el ht
    cases h; cases hx
    exact ⟨w, by simp [Builtin.clear_, h0, run_underlying' ht], hw⟩
  · rename_i el a n c ht
    obtain ⟨size, hsz, h2⟩ := optB_some h
    clear h
    obtain ⟨z0, hzz, h⟩ := optB_some h2
    clear h2
    obtain ⟨a', c', rfl, hcase⟩ := hx.slice_inv
    rw [cond_eq_ite] at h
    split at h
    · rename_i hn0
      have hn0 := Nat.eq_of_beq_eq_true hn0
      subst hn0
      cases h
      refine ⟨w, ?_, hw⟩
      cases a' <;> simp [Builtin.clear_, h0, run_underlying' ht]
    · rename_i hn0
      have hn0 : n ≠ 0 := fun h => hn0 (by rw [h]; rfl)
      split at h
      · rename_i cc m zz ee hobj
        rw [cond_eq_ite] at h
        split at h
        · rename_i hcond
          simp only [Bool.and_eq_true] at hcond
          have hle := Nat.le_of_ble_eq_true hcond.1
          cases h
          rcases hcase with ⟨h1, _⟩ | ⟨b, b', hb1, rfl, hcase⟩
          · cases h1
          · cases hb1
            rcases hcase with ⟨ha, _⟩ | ⟨h1, _⟩ | ⟨h1, _⟩
            · obtain ⟨x, c2', fr, hx2, rfl, hbk, hnf, hr, hn, hsz2, hoo, _, hcc⟩ := hw.cells ha hobj
              have hzl : LRel ρ (readCells .nil z0.cells (n * z0.cells.size) 0) (Builtin.zeroCells z0.cells n).toList := by
                refine ⟨by simp [readCells_length, Builtin.zeroCells], fun i hi => ?_⟩
                rw [readCells_length] at hi
                rw [readCells_get _ _ _ _ _ hi, Nat.zero_add]
                have h1 := zeros_rel (ρ := ρ) hz hzz (n * z0.cells.size) (by
                  rcases Nat.eq_zero_or_pos z0.cells.size with h0 | h0
                  · left; rw [h0]; rfl
                  · exact .inr h0) i hi
                simp only [Builtin.zeroCells]
                rw [Array.getD_eq_getD_getElem?, ← Array.getElem?_toList] at h1
                rw [List.getD_eq_getElem?_getD]; exact h1
              have hall : (Builtin.zeroCells z0.cells n).toList.all oneCell = true := by
                rw [List.all_eq_true]
                intro y hy
                simp only [Builtin.zeroCells, Array.toList_map, List.mem_map, Array.toList_range, List.mem_range] at hy
                obtain ⟨i, hi, rfl⟩ := hy
                have hpos : 0 < z0.cells.size := by
                  rcases Nat.eq_zero_or_pos z0.cells.size with h0 | h0
                  · rw [h0] at hi; omega
                  · exact h0
                have hlt : i % z0.cells.size < z0.cells.size := Nat.mod_lt _ hpos
                have := List.all_eq_true.1 hcond.2 (z0.cells[i % z0.cells.size]) (by simp)
                simpa [hlt] using this
              have hw2 := hw.upd hobj rfl hx2 (hr.write (vs := readCells .nil z0.cells (n * z0.cells.size) 0) hzl (k := a.off) (by rw [readCells_length]; omega))
              refine ⟨_, ?_, hw2⟩
              have hst := run_storeCells (P := P) (a.off + x.o) (Builtin.zeroCells z0.cells n).toList 0 w c2' hbk hnf (by simp [Builtin.zeroCells]; omega) hall
              obtain ⟨n, rfl⟩ : ∃ k, n = k + 1 := ⟨n - 1, by omega⟩
              simp only [Builtin.clear_, h0, List.getElem?_toArray, List.getElem?_cons_zero, Sem.run_bind, run_underlying' ht, Result.andThen_ok, run_zeroValue' hzz, hst, Sem.run_pure, Nat.add_zero]
            · exact (hn0 h1).elim
            · exact (hn0 h1).elim
        · cases h
      · cases h
  · rename_i el n c ht
    cases h
    obtain ⟨a', c', rfl, hcase⟩ := hx.slice_inv
    have : a' = none := by
      rcases hcase with ⟨_, h, _⟩ | ⟨b, b', h, _⟩
      · exact h
      · cases h
    subst this
    refine ⟨w, ?_, hw⟩
    cases n <;> simp [Builtin.clear_, h0, run_underlying' ht]
  · cases h

theorem ccopy_sz {t : TypeId} {d s v : Value} {W1 : CW} (h : ccopy P t d s W = some (v, W1)) : W.sz ≤ W1.sz := by
  unfold ccopy at h
  split at h
  · obtain ⟨_, _, h⟩ := optB_some h
    obtain ⟨_, _, h⟩ := optB_some h
    repeat' (first | (cases h; done) | (cases h; exact Nat.le_refl _) | (rw [cond_eq_ite] at h) | split at h)
  · cases h
theorem cdelete_sz {t : TypeId} {d s : Value} {W1 : CW} (h : cdelete P t d s W = some W1) : W.sz ≤ W1.sz := by
  unfold cdelete at h
  split at h
  · split at h
    · obtain ⟨_, _, h⟩ := optB_some h
      repeat' (first | (cases h; done) | (cases h; exact Nat.le_refl _) | (rw [cond_eq_ite] at h) | split at h)
    · cases h
  · cases h
theorem cclear_sz {t : TypeId} {d : Value} {W1 : CW} (h : cclear P t d W = some W1) : W.sz ≤ W1.sz := by
  unfold cclear at h
  split at h
  · repeat' (first | (cases h; done) | (cases h; exact Nat.le_refl _) | (rw [cond_eq_ite] at h) | split at h)
  · cases h; exact Nat.le_refl _
  · obtain ⟨_, _, h⟩ := optB_some h
    obtain ⟨_, _, h⟩ := optB_some h
    repeat' (first | (cases h; done) | (cases h; exact Nat.le_refl _) | (rw [cond_eq_ite] at h) | split at h)
  · cases h; exact Nat.le_refl _
  · cases h

theorem exec_builtin {c : Call} {b : Builtin} (ho : o.op = .call c) (hf : c.callee = .builtin b) (w : World) :
    (execOp e' o).run P w = (builtin b c.argTypes o.type (c.args.map fun | .const _ => true | _ => false) (c.args.map e')).run P w := by
  simp only [execOp, ho, resolve, hf, Sem.run_bind, Sem.run_pure, Result.andThen_ok, invoke]
  rfl

theorem list1 {α : Type} {a : Array α} {x : α} {l : List α} (h : a.toList = x :: l) : a[0]? = some x := by rw [← Array.getElem?_toList, h]; rfl
theorem list2 {α : Type} {a : Array α} {x y : α} {l : List α} (h : a.toList = x :: y :: l) : a[1]? = some y := by rw [← Array.getElem?_toList, h]; rfl
theorem ofList {α : Type} {a : Array α} {l : List α} (h : a.toList = l) : a = l.toArray := by rw [← h]

theorem op_builtin (hz : ZP P) {c : Call} {b : Builtin} (ho : o.op = .call c) (hf : c.callee = .builtin b) (h : cop P o e W = some outs) (hw : WRel P w0 ρ W w)
    (ha : ∀ x, x ∈ c.args.toList → VRel ρ (e x) (e' x)) : OpSound P w0 ρ W ((execOp e' o).run P w) outs := by
  rw [exec_builtin ho hf]
  simp only [cop, ho, hf] at h
  split at h
  rotate_left
  · cases h
  rename_i r hr
  cases h
  generalize hB : c.args.map e' = B
  have hargs : LRel ρ (c.args.toList.map e) B.toList := by rw [← hB]; simpa using LRel.map (ρ := ρ) c.args.toList e e' ha
  clear hB
  generalize c.args.toList.map e = A at hr hargs
  unfold cbuiltin at hr
  have one : ∀ {x : Value}, LRel ρ [x] B.toList → ∃ x', B = #[x'] ∧ VRel ρ x x' := by
    intro x hl
    cases hB : B.toList with
    | nil => rw [hB] at hl; have := hl.1; simp at this
    | cons y ys =>
      rw [hB] at hl
      have : ys = [] := by have := hl.1; simp at this; first | exact this | exact this.symm | exact List.length_eq_zero_iff.1 this.symm
      subst this
      exact ⟨y, ofList hB, hl.head⟩
  have two : ∀ {x y : Value}, LRel ρ [x, y] B.toList → ∃ x' y', B = #[x', y'] ∧ VRel ρ x x' ∧ VRel ρ y y' := by
    intro x y hl
    cases hB : B.toList with
    | nil => rw [hB] at hl; have := hl.1; simp at this
    | cons x' ys =>
      rw [hB] at hl
      have h1 := hl.head
      have hl := hl.tail
      cases ys with
      | nil => have := hl.1; simp at this
      | cons y' ys =>
        have : ys = [] := by have := hl.1; simp at this; first | exact this | exact this.symm | exact List.length_eq_zero_iff.1 this.symm
        subst this
        exact ⟨x', y', ofList hB, h1, hl.head⟩
  split at hr
  · rename_i t ts x hts
    obtain ⟨x', rfl, hx⟩ := one hargs
    rw [Option.map_eq_some_iff] at hr
    obtain ⟨v, hv, rfl⟩ := hr
    obtain ⟨v', hr', hv'⟩ := clen_sound (ty := o.type) hw (list1 hts) hv hx
    exact .value hw (exec_v hr') hv'
  · rename_i t ts x hts
    obtain ⟨x', rfl, hx⟩ := one hargs
    rw [Option.map_eq_some_iff] at hr
    obtain ⟨v, hv, rfl⟩ := hr
    obtain ⟨v', hr', hv'⟩ := ccap_sound (ty := o.type) hw (list1 hts) hv hx
    exact .value hw (exec_v hr') hv'
  · rename_i t u ts s x hts
    obtain ⟨s', x', rfl, hs, hx⟩ := two hargs
    rw [cond_eq_ite] at hr
    split at hr
    · rename_i hu
      rw [Option.map_eq_some_iff] at hr
      obtain ⟨⟨v, W1⟩, hv, rfl⟩ := hr
      obtain ⟨v', w', ρ', hext, hr', hv', hw'⟩ := cappend_sound (ty := o.type) hw (list1 hts) (list2 hts) hu hv hs hx
      exact ⟨_, _, ρ', List.mem_singleton.2 rfl, hext, .value (exec_v hr') hv' hw'⟩
    · cases hr
  · rename_i t ts d s hts
    obtain ⟨d', s', rfl, hd, hs⟩ := two hargs
    rw [Option.map_eq_some_iff] at hr
    obtain ⟨⟨v, W1⟩, hv, rfl⟩ := hr
    obtain ⟨v', w', hr', hv', hw'⟩ := ccopy_sound (ty := o.type) hw (list1 hts) hv hd hs
    exact ⟨_, _, ρ, List.mem_singleton.2 rfl, .refl _ (ccopy_sz hv), .value (exec_v hr') hv' hw'⟩
  · rename_i t ts x hts
    obtain ⟨x', rfl, hx⟩ := one hargs
    rw [Option.map_eq_some_iff] at hr
    obtain ⟨W1, hv, rfl⟩ := hr
    obtain ⟨w', hr', hw'⟩ := cclear_sound (ty := o.type) hz hw (list1 hts) hv hx
    exact ⟨_, _, ρ, List.mem_singleton.2 rfl, .refl _ (cclear_sz hv), .value (exec_v hr') (.tuple' (.nil _)) hw'⟩
  · rename_i t ts m k hts
    obtain ⟨m', k', rfl, hm, hk⟩ := two hargs
    rw [Option.map_eq_some_iff] at hr
    obtain ⟨W1, hv, rfl⟩ := hr
    obtain ⟨w', hr', hw'⟩ := cdelete_sound (ty := o.type) hw (list1 hts) hv hm hk
    exact ⟨_, _, ρ, List.mem_singleton.2 rfl, .refl _ (cdelete_sz hv), .value (exec_v hr') (.tuple' (.nil _)) hw'⟩
  · rename_i k a k2 b2
    obtain ⟨x', y', rfl, hx, hy⟩ := two hargs
    cases hx; cases hy; cases hr
    refine .value hw (exec_v (s := Builtin.max_ c.argTypes o.type #[.int k a, .int k2 b2]) (by simp [Builtin.max_, Builtin.max2]; rfl)) ?_
    simp only [cond_eq_ite, decide_eq_true_eq]
    exact .int _ _
  · rename_i k a k2 b2
    obtain ⟨x', y', rfl, hx, hy⟩ := two hargs
    cases hx; cases hy; cases hr
    refine .value hw (exec_v (s := Builtin.min_ c.argTypes o.type #[.int k a, .int k2 b2]) (by simp [Builtin.min_, Builtin.min2]; rfl)) ?_
    simp only [cond_eq_ite, decide_eq_true_eq]
    exact .int _ _
  · cases hr
    exact ⟨_, _, ρ, List.mem_singleton.2 rfl, .refl _, .recover rfl hw⟩
  · cases hr

theorem op_sound (hz : ZP P) (hok : okOp o = true) (hge : ∀ g, e (.global g) = .complex .f32 0 0) (he : ∀ x, x ∈ o.op.operands → okOperand x = true → VRel ρ (e x) (e' x)) (hw : WRel P w0 ρ W w) (h : cop P o e W = some outs) : OpSound P w0 ρ W ((execOp e' o).run P w) outs := by
  have al : ∀ l : List Operand, (∀ x, x ∈ l → x ∈ o.op.operands) → l.all okOperand = true → ∀ x, x ∈ l → VRel ρ (e x) (e' x) := fun l hm hl x hx => he x (hm x hx) (List.all_eq_true.1 hl x hx)
  have al2 : ∀ l : List (Nat × Operand), (∀ x, x ∈ l → x.2 ∈ o.op.operands) → (l.all fun p => okOperand p.2) = true → ∀ p, p ∈ l → VRel ρ (e p.2) (e' p.2) := fun l hm hl x hx => he x.2 (hm x hx) (List.all_eq_true.1 hl x hx)
  have op : ∀ m : Option Operand, (∀ x, m = some x → x ∈ o.op.operands) → m.all okOperand = true → ∀ x, m = some x → VRel ρ (e x) (e' x) := fun m hm2 hm x hx => he x (hm2 x hx) (by subst hx; simpa using hm)
  unfold okOp at hok
  split at hok <;> (try simp only [Bool.and_eq_true] at hok)
  case h_1 ho => exact op_move (.inl ho) h hw (he _ (by rw [ho]; simp [Op.operands]) hok)
  case h_2 ho => exact op_move (.inr ho) h hw (he _ (by rw [ho]; simp [Op.operands]) hok)
  case h_3 ho => exact op_nilCheck ho h hw (he _ (by rw [ho]; simp [Op.operands]) hok)
  case h_4 ho => exact op_unOp ho h hw (he _ (by rw [ho]; simp [Op.operands]) hok)
  case h_5 ho => exact op_convert ho h hw (he _ (by rw [ho]; simp [Op.operands]) hok)
  case h_6 ho => exact op_makeInterface ho h hw (he _ (by rw [ho]; simp [Op.operands]) hok)
  case h_7 ho => exact op_field ho h hw (he _ (by rw [ho]; simp [Op.operands]) hok)
  case h_8 ho => exact op_fieldAddr ho h hw (he _ (by rw [ho]; simp [Op.operands]) hok)
  case h_9 ho => exact op_range ho h hw (he _ (by rw [ho]; simp [Op.operands]) hok)
  case h_10 ho => exact op_next ho h hw (he _ (by rw [ho]; simp [Op.operands]) hok)
  case h_11 ho => exact op_entry ho h hw (he _ (by rw [ho]; simp [Op.operands]) hok)
  case h_12 ho => exact op_typeAssert hz ho h hw (he _ (by rw [ho]; simp [Op.operands]) hok)
  case h_13 ho => exact op_extract ho h hw (he _ (by rw [ho]; simp [Op.operands]) hok)
  case h_14 ho => exact op_panic ho h hw (he _ (by rw [ho]; simp [Op.operands]) hok)
  case h_15 ho => exact op_box ho h hw (he _ (by rw [ho]; simp [Op.operands]) hok)
  case h_16 t x ho =>
    rw [Bool.or_eq_true] at hok
    rcases hok with hok | hok
    · exact op_load ho h hw (he _ (by rw [ho]; simp [Op.operands]) hok)
    · split at hok
      · simp only [cop, ho, hge] at h
        cases h
      · cases hok
  case h_17 ho => exact op_pick ho h hw (he _ (by rw [ho]; simp [Op.operands]) hok.1.1) (he _ (by rw [ho]; simp [Op.operands]) hok.1.2) (he _ (by rw [ho]; simp [Op.operands]) hok.2)
  case h_18 ho => exact op_alloc hz ho h hw
  case h_19 ho => exact op_makeMap ho h hw
  case h_20 ho => exact op_build hz ho h hw (al2 _ (fun x hx => by rw [ho]; simp [Op.operands]; exact ⟨x.1, by simpa using hx⟩) hok)
  case h_21 ho => exact op_buildSlice hz ho h hw (al2 _ (fun x hx => by rw [ho]; simp [Op.operands]; exact ⟨x.1, by simpa using hx⟩) hok)
  case h_22 ho => exact op_store ho h hw (he _ (by rw [ho]; simp [Op.operands]) hok.1) (he _ (by rw [ho]; simp [Op.operands]) hok.2)
  case h_23 ho => exact op_binOp ho h hw (he _ (by rw [ho]; simp [Op.operands]) hok.1) (he _ (by rw [ho]; simp [Op.operands]) hok.2)
  case h_24 ho => exact op_makeSlice hz ho h hw (he _ (by rw [ho]; simp [Op.operands]) hok.1) (he _ (by rw [ho]; simp [Op.operands]) hok.2)
  case h_25 ho => exact op_indexAddr ho h hw (he _ (by rw [ho]; simp [Op.operands]) hok.1) (he _ (by rw [ho]; simp [Op.operands]) hok.2)
  case h_26 ho => exact op_index ho h hw (he _ (by rw [ho]; simp [Op.operands]) hok.1) (he _ (by rw [ho]; simp [Op.operands]) hok.2)
  case h_27 ho => exact op_lookup hz ho h hw (he _ (by rw [ho]; simp [Op.operands]) hok.1) (he _ (by rw [ho]; simp [Op.operands]) hok.2)
  case h_28 ho => exact op_makeFunc ho h hw (al _ (fun x hx => by rw [ho]; simp [Op.operands]; first | exact .inl hx | exact .inr hx | exact .inl (by simpa using hx) | exact .inr (by simpa using hx)) hok.1) (al _ (fun x hx => by rw [ho]; simp [Op.operands]; first | exact .inl hx | exact .inr hx | exact .inl (by simpa using hx) | exact .inr (by simpa using hx)) hok.2)
  case h_29 ho => exact op_slice ho h hw (he _ (by rw [ho]; simp [Op.operands]) hok.1.1.1) (op _ (fun x hx => by rw [ho]; simp [Op.operands, hx]) hok.1.1.2) (op _ (fun x hx => by rw [ho]; simp [Op.operands, hx]) hok.1.2) (op _ (fun x hx => by rw [ho]; simp [Op.operands, hx]) hok.2)
  case h_30 ho => exact op_mapUpdate (.inl ho) h hw (he _ (by rw [ho]; simp [Op.operands]) hok.1.1) (he _ (by rw [ho]; simp [Op.operands]) hok.1.2) (he _ (by rw [ho]; simp [Op.operands]) hok.2)
  case h_31 ho => exact op_mapUpdate (.inr ho) h hw (he _ (by rw [ho]; simp [Op.operands]) hok.1.1) (he _ (by rw [ho]; simp [Op.operands]) hok.1.2) (he _ (by rw [ho]; simp [Op.operands]) hok.2)
  case h_32 c ho =>
    obtain ⟨h1, h2⟩ := hok
    split at h2
    · rename_i f hf; exact op_callValue hz ho hf h hw (he _ (by rw [ho]; simp [Op.operands, Call.operands, hf]) h2) (al _ (fun x hx => by rw [ho]; simp [Op.operands, Call.operands, hf]; exact .inr (by simpa using hx)) h1)
    · rename_i b hf; exact op_builtin hz ho hf h hw (al _ (fun x hx => by rw [ho]; simp [Op.operands, Call.operands, hf]; simpa using hx) h1)
    · cases h2
  case h_33 c ho =>
    obtain ⟨h1, h2⟩ := hok
    split at h2
    · rename_i f hf; exact op_defer ho hf h hw (he _ (by rw [ho]; simp [Op.operands, Call.operands, hf]) h2) (al _ (fun x hx => by rw [ho]; simp [Op.operands, Call.operands, hf]; exact .inr (by simpa using hx)) h1)
    · cases h2
  case h_34 => cases hok
end
end Go.Ce
