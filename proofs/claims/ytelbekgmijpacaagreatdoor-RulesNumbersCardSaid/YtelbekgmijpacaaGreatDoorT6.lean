/- The theory of abstract runs, part 6: what a contract says, and that the executor keeps it. Of no program. -/
import Derived.Test.YtelbekgmijpacaaGreatDoorT5
import Derived.Maps.RangeRun
namespace Go.Abs
section
variable {E : XE} {s : XSt}
theorem anileq_int {P : Program} {t : TypeId} {k : IntKind} {a : Int} {u : AVal} : anileq P t (.int k a) u = none := by
  unfold anileq
  generalize P.underlying t = d
  cases d with
  | none => cases u <;> rfl
  | some d => cases d <;> cases u <;> rfl
theorem anileq_str {P : Program} {t : TypeId} {a : List UInt8} {u : AVal} : anileq P t (.str a) u = none := by
  unfold anileq
  generalize P.underlying t = d
  cases d with
  | none => cases u <;> rfl
  | some d => cases d <;> cases u <;> rfl
theorem zBin_ok (hE : EOk E) {o : Oper} {op : BinOp} {t t' : TypeId} {x y : Operand} {r : TVal} (ho : o.op = .binOp op t x y t') (h : zBin op t x y E s = some r) : AVK E.P E.G o (fun r' _ => r' = r) s.st := by
  have q : ∀ {r}, qbin E.P E.T op t (s.ev x) (s.ev y) = some r → AVK E.P E.G o (fun r' _ => r' = r) s.st := fun h => qbin_ok hE.T ho h
  have h' : zBin2 E op t (s.ev x) (s.ev y) = some r := h
  unfold zBin2 at h'
  split at h'
  · rename_i v u hx hy
    unfold zBinV at h'
    split at h'
    · rename_i k a
      obtain ⟨r', hr, rfl⟩ := Option.map_eq_some_iff.1 h'
      unfold zBinI at hr
      split at hr
      · rename_i k' b
        refine q ?_
        rw [hx, hy]
        simp only [qbin, anileq_int, xbin, zbinInt_eq hr, Option.map_some]
      · cases hr
    · rename_i a
      obtain ⟨r', hr, rfl⟩ := Option.map_eq_some_iff.1 h'
      unfold zBinS at hr
      split at hr
      · rename_i b
        have hr' : xbinStr op a b = some r' := by
          unfold zStrB at hr
          split at hr
          · simp only [xbinStr, ← zbeq_eq]; exact hr
          · simp only [xbinStr, ← zbeq_eq]; exact hr
          · exact hr
        refine q ?_
        rw [hx, hy]
        simp only [qbin, anileq_str, xbin, hr', Option.map_some]
      · cases hr
    · rename_i b k
      unfold zBinP at h'
      have key : ∀ r, zEqP E t b k u = some r → r = true ∧ u = .ptr b k ∧ ∃ te j, E.P.underlying t = some (.pointer te) ∧ E.P.info? te = some j := fun r hr => by
        unfold zEqP at hr
        split at hr
        · rename_i b' k'
          cases hb : (Nat.beq b b' && Nat.beq k k') with
          | false => rw [hb] at hr; cases hr
          | true =>
            rw [hb, cond_true] at hr
            simp only [Bool.and_eq_true] at hb
            have e1 := Nat.eq_of_beq_eq_true hb.1
            have e2 := Nat.eq_of_beq_eq_true hb.2
            subst e1; subst e2
            split at hr
            · rename_i te hte
              split at hr
              · rename_i j hj
                cases hr
                exact ⟨rfl, rfl, te, j, hte, hj⟩
              · cases hr
            · cases hr
        · cases hr
      split at h'
      · rename_i r0 hr0
        cases h'
        obtain ⟨rfl, rfl, te, j, h1, h2⟩ := key _ hr0
        exact AVK.ptrEq ho (by rw [s.ev_eq]; exact hx) (by rw [s.ev_eq]; exact hy) h1 h2 (.inl ⟨rfl, rfl⟩)
      · rename_i r0 hr0
        cases h'
        obtain ⟨rfl, rfl, te, j, h1, h2⟩ := key _ hr0
        exact AVK.ptrEq ho (by rw [s.ev_eq]; exact hx) (by rw [s.ev_eq]; exact hy) h1 h2 (.inr ⟨rfl, rfl⟩)
      · refine q ?_
        rw [hx, hy]
        exact h'
    · refine q ?_
      rw [hx, hy]
      exact h'
  · cases h'
theorem AVK.toTextB {P : Program} {G : Nat → Option (List AVal)} {st : St} {o : Oper} {a d e t : TypeId} {x : Operand} {K : TVal → St → Prop} {b n : Nat} {c : Cap} {l : List UInt8} (ho : o.op = .convert a d x) (ha : P.underlying a = some (.slice e)) (he : P.underlying e = some (.int .u8)) (hd : P.underlying d = some .string)
    (hx : st.ev x = .v (.sl b 0 n c)) (hb : st.heap.get b = some (.buf t l)) (hn : n ≤ l.length) (hK : K (.v (.str (l.take n))) st) : AVK P G o K st := by
  refine AVK.value hK fun σ lam w act hr => ?_
  have hv := ev_rel hr x
  rw [hx] at hv
  have hv' : VR σ st.heap.next (.sl b 0 n c) (act.eval x) := hv
  obtain ⟨cs, fr, g1, g2, g3, g4, g5, g6⟩ := hr.heap.blk b _ hb
  let xs : List Int := (l.take n).map fun c => (c.toNat : Int)
  have hlen : xs.length = n := by simp [xs]; omega
  have hcells : ∀ i, i < n → w.cell? ⟨(σ b).g, (σ b).off + 0 + i, none⟩ = some (.int .u8 (xs.getD i 0)) := fun i hi => by
    have hil : i < l.length := by omega
    rw [cell?_of g1, g3, Nat.zero_add, g6 i l[i] (by simp [hil])]
    simp [xs, hi, hil]
  have key : ∃ C, act.eval x = .slice (some ⟨(σ b).g, (σ b).off + 0, none⟩) n C := by
    generalize act.eval x = X at hv'
    cases hv' with
    | slx _ _ _ m _ _ => exact ⟨_, rfl⟩
    | slr _ _ _ k _ _ => exact ⟨_, rfl⟩
  obtain ⟨C, hX⟩ := key
  refine ⟨.string (strOfNums xs), ?_, ?_, fun k o he => by cases he⟩
  · have := run_convert_bytes_arg (P := P) w a e ha he (σ b).g ((σ b).off + 0) n C xs hlen hcells d hd
    simp only [execOp, ho, hX, Sem.run_bind, this, Result.andThen_ok, Sem.run_pure]
  · have e1 : strOfNums xs = ⟨(l.take n).toArray⟩ := by
      unfold strOfNums
      congr 2
      simp only [xs, List.map_map]
      have : ((fun n : Int => UInt8.ofNat n.toNat) ∘ fun c : UInt8 => (c.toNat : Int)) = id := by
        funext c
        simp
      rw [this, List.map_id]
    show VR σ st.heap.next (.str (l.take n)) _
    rw [e1]
    exact .str _
theorem zConv_ok (hE : EOk E) {o : Oper} {a d : TypeId} {x : Operand} {r : TVal} (ho : o.op = .convert a d x) (h : zConv a d x E s = some r) : AVK E.P E.G o (fun r' _ => r' = r) s.st := by
  have h2 : zTextB E a d (s.ev x) s = some r ∨ zConvP E a d (s.ev x) s = some r := by
    have h3 : zConv2 E a d (s.ev x) s = some r := h
    unfold zConv2 at h3
    split at h3
    · unfold zConvT at h3
      split at h3
      · rename_i r' hr; rw [← h3]; exact .inl hr
      · exact .inr h3
    · exact .inr h3
  rcases h2 with h2 | h'
  · unfold zTextB at h2
    split at h2
    · rename_i b n c hx
      split at h2
      · rename_i t l hb
        split at h2
        · rename_i e ha hd
          split at h2
          · rename_i he
            cases hn : Nat.ble n l.length with
            | false => rw [hn] at h2; cases h2
            | true =>
              rw [hn] at h2
              cases h2
              exact AVK.toTextB ho (xds_ok hE.T ha) (xds_ok hE.T he) (xds_ok hE.T hd) (by rw [s.ev_eq]; exact hx) hb (Nat.le_of_ble_eq_true hn) rfl
          · cases h2
        · cases h2
      · cases h2
    · cases h2
  unfold zConvP at h'
  split at h'
  · rename_i t ha hd
    unfold zToUnsafe at h'
    split at h'
    · rename_i b k hx
      split at h'
      · rename_i i l k' hi hat
        cases hb : (not (Nat.beq i.size 0) && (Nat.beq k' k && Nat.blt k l.length)) with
        | false => rw [hb] at h'; cases h'
        | true =>
          rw [hb, cond_true] at h'
          cases h'
          simp only [Bool.and_eq_true, blt_iff, decide_eq_true_eq, Bool.not_eq_true'] at hb
          have e1 := Nat.eq_of_beq_eq_true hb.2.1
          subst e1
          refine AVK.toUnsafe ho (xds_ok hE.T ha) (xds_ok hE.T hd) ?_ (by rw [s.ev_eq]; exact hx) (by rw [s.at_eq]; exact hat) hb.2.2 rfl
          rw [hi]
          have := Nat.ne_of_beq_eq_false hb.1
          simp [this]
      · cases h'
    · cases h'
  · rename_i u ha hd
    unfold zFromUnsafe at h'
    split at h'
    · rename_i b hx
      split at h'
      · rename_i j u' l hj hb'
        cases hb : (Nat.beq u u' && (Nat.beq l.length (E.P.cellsOf u) && Nat.blt 0 l.length)) with
        | false => rw [hb] at h'; cases h'
        | true =>
          rw [hb, cond_true] at h'
          cases h'
          simp only [Bool.and_eq_true, blt_iff, decide_eq_true_eq] at hb
          have e1 := Nat.eq_of_beq_eq_true hb.1
          subst e1
          exact AVK.fromUnsafe ho (xds_ok hE.T ha) (xds_ok hE.T hd) hj (by rw [s.ev_eq]; exact hx) hb' (Nat.eq_of_beq_eq_true hb.2.1) hb.2.2 rfl
      · cases h'
    · cases h'
  · rename_i d0 k ha hd
    refine qconv_ok hE.T ho ?_
    unfold zConvI at h'
    split at h'
    · rename_i n hx
      cases h'
      rw [hx]
      unfold qconv
      split
      · rename_i hd' _; rw [hd] at hd'; cases hd'
      · simp only [xconv, ha, hd]; rfl
    · cases h'
  · exact qconv_ok hE.T ho h'
theorem zLen_ok (hE : EOk E) {o : Oper} {t : TypeId} {ts : Array TypeId} {x : Operand} {r : TVal} (ho : o.op = .call { callee := .builtin .len, args := #[x], argTypes := ts }) (hts : ts[0]? = some t) (h : zLen t x E s = some r) : AVK E.P E.G o (fun r' _ => r' = r) s.st := by
  have h' : zLenV E t (s.ev x) s = some r := h
  unfold zLenV at h'
  split at h'
  · rename_i hd
    split at h'
    · rename_i l hx
      cases h'
      refine qlen_ok (s := s) hE.T ho hts ?_
      rw [hx]
      unfold qlen
      split
      · rename_i hd' _; rw [hd] at hd'; cases hd'
      · simp only [xlen, hd]; rfl
    · cases h'
  · exact qlen_ok hE.T ho hts h'
theorem zdecB_q (hE : EOk E) {o : Oper} {b : Builtin} {args : Array Operand} {ts : Array TypeId} {f : ZQ} {r : TVal} (ho : o.op = .call { callee := .builtin b, args := args, argTypes := ts }) (h : zdecB b args.toList ts.toList = .q f) (hf : f E s = some r) : AVK E.P E.G o (fun r' _ => r' = r) s.st := by
  unfold zdecB at h
  split at h
  · rename_i x t l hx ht
    cases h
    rw [arr1 hx] at ho
    exact zLen_ok hE ho (by rw [← Array.getElem?_toList, ht]; rfl) hf
  · rename_i x t l hx ht
    cases h
    rw [arr1 hx] at ho
    exact qcap_ok hE.T ho (by rw [← Array.getElem?_toList, ht]; rfl) hf
  · rename_i x y hx
    cases h
    rw [arr2 hx] at ho
    exact xq_avk hE.T (by rw [ho]; exact hf)
  · rename_i x y hx
    cases h
    rw [arr2 hx] at ho
    exact xq_avk hE.T (by rw [ho]; exact hf)
  · rename_i x hx
    cases h
    rw [arr1 hx] at ho
    have hf' : zSliceData2 (s.ev x) = some r := hf
    unfold zSliceData2 at hf'
    split at hf'
    · rename_i b o' n c hx'
      cases hb : Nat.blt 0 n with
      | false => rw [hb] at hf'; cases hf'
      | true =>
        rw [hb, cond_true] at hf'
        cases hf'
        rw [blt_iff] at hb
        exact AVK.sliceData ho (by rw [s.ev_eq]; exact hx') (by simpa using hb) rfl
    · rename_i hx'
      cases hf'
      exact AVK.sliceDataNil ho (by rw [s.ev_eq]; exact hx') rfl
    · cases hf'
  all_goals cases h
theorem zq_ok (hE : EOk E) {o : Oper} {f : ZQ} {r : TVal} (h : zdec E.T o.op = .q f) (hf : f E s = some r) : AVK E.P E.G o (fun r' _ => r' = r) s.st := by
  unfold zdec at h
  split at h
  all_goals first
    | (cases h; done)
    | (rename_i ho; cases h; exact xq_avk hE.T (by rw [ho]; exact hf); done)
    | skip
  · rename_i op t x y t' ho
    cases h
    exact zBin_ok hE ho hf
  · rename_i t x lo hi mx ho
    unfold zdecS at h
    split at h
    · cases h
      exact xq_avk hE.T (by rw [ho]; exact hf)
    · rename_i m
      cases h
      have hf' : (aslice3 E.P t (s.ev x) (lo.map s.ev) (hi.map s.ev) (s.ev m)).map .v = some r := hf
      obtain ⟨v, hv, rfl⟩ := Option.map_eq_some_iff.1 hf'
      have he : s.st.ev = s.ev := funext fun x => s.ev_eq x
      exact AVK.slice3 ho (by rw [he]; exact hv) rfl
  · rename_i t x k ok ho
    cases h
    exact qlookup_ok ho hf
  · rename_i a d x ho
    unfold zdecV at h
    split at h
    · cases h
    · cases h
      exact zConv_ok hE ho hf
  · rename_i t parts ho
    generalize zconsts parts.toList = b at h
    cases b with
    | false => cases h
    | true =>
      cases h
      obtain ⟨v, hv, rfl⟩ := Option.map_eq_some_iff.1 hf
      exact AVK.build ho (by rw [xparts_eq]; exact xbuild_ok hE.T hv rfl)
  · rename_i x str ho
    cases str <;> cases h
  · rename_i c ho
    obtain ⟨callee, args, ts⟩ := c
    unfold zdecC at h
    simp only at h
    split at h
    · cases h
    · exact zdecB_q hE ho h hf
    · cases h
theorem zAlloc_ok (hE : EOk E) {call : XCaller} {o : Oper} {t : TypeId} (ho : o.op = .alloc t) : XOk E.P E.G o s (zAlloc t E call o.type s) := by
  unfold zAlloc
  split
  · rename_i i hi
    split
    · rename_i z hz
      unfold zAlloc2
      cases E.TT t with
      | true =>
        rw [cond_true]
        split
        · rename_i l hl
          refine XOk.of (fun t' s' h K Kx hK => ?_) (fun v s' h => (xnew_no h).elim)
          obtain ⟨rfl, h2⟩ := xnew_ok h
          rw [h2] at hK
          exact AO.allocT ho (xif_ok hE.T hi) hz hl hK
        · exact trivial
      | false =>
        rw [cond_false]
        refine XOk.of (fun t' s' h K Kx hK => ?_) (fun v s' h => (xbox_no h).elim)
        refine AO.alloc ho ?_
        unfold aalloc
        rw [xif_ok hE.T hi]
        simp only [Option.bind_some, hz]
        exact xbox_ok h hK
    · exact trivial
  · exact trivial
theorem zStore2_ok (hE : EOk E) {o : Oper} {t : TypeId} {x y : Operand} (ho : o.op = .store t x y) : XOk E.P E.G o s (zStore2 E t (s.ev x) (s.ev y) s) := by
  have old : XOk E.P E.G o s (xstore E.T t (s.ev x) (s.ev y) s) := by
    refine XOk.of (fun t' s' h K Kx hK => ?_) (fun v s' h => (xstore_no h).elim)
    exact AO.store ho (by rw [s.ev_eq, s.ev_eq]; exact xstore_ok hE.T h hK)
  unfold zStore2
  split
  · rename_i b o' hx
    unfold zStoreT
    split
    · rename_i T l hb
      split
      · rename_i i vs hi hvs
        cases hc : (Nat.beq vs.length i.size && Nat.ble (Nat.add o' vs.length) l.length) with
        | false => exact trivial
        | true =>
          rw [cond_true]
          split
          · rename_i s' hs'
            simp only [Bool.and_eq_true] at hc
            have h2 : o' + vs.length ≤ l.length := Nat.le_of_ble_eq_true hc.2
            intro K Kx hK
            rw [XSt.setBlk_eq hs', lput_eq h2] at hK
            exact AO.storeT ho (xif_ok hE.T hi) (by rw [s.ev_eq]; exact hvs) (Nat.eq_of_beq_eq_true hc.1) (by rw [s.ev_eq]; exact hx) hb h2 hK
          · exact trivial
      · exact trivial
    · rw [hx] at old; exact old
  · exact old
theorem asrc_str (H : AHeap) (l : List UInt8) : asrc H 1 (.str l) = some (l.length, ofBytes l) := by simp [asrc, ofBytes]
theorem zSrcB_ok {y : AVal} {t : List UInt8} (h : zSrcB y s = some t) : asrc s.st.heap 1 y = some (t.length, ofBytes t) := by
  unfold zSrcB at h
  split at h
  · cases h; exact asrc_str _ _
  · rename_i b o n c
    split at h
    · rename_i m cs hs
      have e := zbytes_ok _ h
      have hl := asrc_len hs
      rw [e] at hs hl
      have : (ofBytes t).length = t.length := by simp [ofBytes]
      rw [this, Nat.mul_one] at hl
      rw [hl]
      exact hs
    · cases h
  · cases h
theorem zAppend_ok (hE : EOk E) {o : Oper} {t0 t1 : TypeId} {x y : Operand} (ho : o.op = .call { callee := .builtin .append, args := #[x, y], argTypes := #[t0, t1] }) : XOk E.P E.G o s (zAppend4 E t0 t1 (s.ev x) (s.ev y) s) := by
  unfold zAppend4
  split
  · rename_i r hr
    unfold zAppend3 at hr
    split at hr
    · rename_i e vx vy h0 hx hy
      unfold zAppend2 at hr
      split at hr
      · rename_i de d1 i t len hde h1 hi hsrc hlen
        split at hr
        · rename_i z hz
          cases hc : ((isU8 de && notInt d1) && ((Nat.beq i.size 1 && Nat.beq z.cells.size i.size) && (Nat.blt 0 i.bytes && Nat.ble (Nat.mul (Nat.add len t.length) i.bytes) 140737488355328))) with
          | false => rw [hc] at hr; cases hr
          | true =>
            rw [hc, cond_true] at hr
            simp only [Bool.and_eq_true, blt_iff, decide_eq_true_eq] at hc
            obtain ⟨⟨_, hn⟩, ⟨hs1, hzs⟩, hb, hfit⟩ := hc
            have fin : ∀ {v : AVal} {H' : AHeap}, AppB e s.st.heap vx t v H' → ∀ (K : TVal → St → Prop) (Kx : AVal → St → Prop), K (.v v) { s.st with heap := H' } → AO E.P E.G o K Kx s.st := fun hA K Kx hK =>
              AO.appendB ho (xds_ok hE.T h0) (xds_ok hE.T h1) hn (xif_ok hE.T hi) hz hb (Nat.eq_of_beq_eq_true hs1) (Nat.eq_of_beq_eq_true hzs) (by rw [s.ev_eq]; exact hx) (by rw [s.ev_eq]; exact hy) (zSrcB_ok hsrc) hlen (Nat.le_of_ble_eq_true hfit) hA hK
            unfold zAppB at hr
            split at hr
            · cases hl : (Nat.beq t.length 0 || not (isStr vy)) with
              | true => rw [hl] at hr; cases hr
              | false =>
                rw [hl, cond_false] at hr
                cases hr
                refine XOk.of (fun t' s' h K Kx hK => ?_) (fun v s' h => (xnew_no h).elim)
                obtain ⟨rfl, h2⟩ := xnew_ok h
                rw [h2] at hK
                simp only [Bool.or_eq_false_iff] at hl
                exact fin (.nil t (Nat.pos_of_ne_zero (Nat.ne_of_beq_eq_false hl.1))) K Kx hK
            · rename_i b n
              split at hr
              · rename_i e' l hbk
                cases hl : (Nat.beq e e' && Nat.beq n l.length) with
                | false => rw [hl] at hr; cases hr
                | true =>
                  rw [hl, cond_true] at hr
                  simp only [Bool.and_eq_true] at hl
                  have e1 := Nat.eq_of_beq_eq_true hl.1
                  have e2 := Nat.eq_of_beq_eq_true hl.2
                  subst e1; subst e2
                  split at hr
                  · rename_i s1 hs1'
                    cases hr
                    refine XOk.of (fun t' s' h K Kx hK => ?_) (fun v s' h => (xnew_no h).elim)
                    obtain ⟨rfl, h2⟩ := xnew_ok h
                    rw [XSt.kill_eq hs1'] at h2
                    rw [h2, XSt.kill_next hs1'] at hK
                    exact fin (.app b l t hbk) K Kx hK
                  · cases hr
              · cases hr
            · cases hr
        · cases hr
      · cases hr
    · cases hr
  · refine XOk.of (fun t' s' h K Kx hK => ?_) (fun v s' h => (xappend_no h).elim)
    exact AO.append ho (by rw [s.ev_eq, s.ev_eq]; exact xappend_ok hE.T h hK)
theorem zUnsafeStr_ok (hE : EOk E) {o : Oper} {pt it : TypeId} {x y : Operand} (ho : o.op = .call { callee := .builtin .unsafeString, args := #[x, y], argTypes := #[pt, it] }) : XOk E.P E.G o s (zUnsafeStr2 E pt (s.ev x) (s.ev y) s) := by
  unfold zUnsafeStr2
  split
  · rename_i hx hy
    intro K Kx hK
    exact AVK.ao (AVK.unsafeStringNone ho (by rw [s.ev_eq]; exact hx) (by rw [s.ev_eq]; exact hy) hK)
  · rename_i b n hx hy
    split
    · rename_i e e' l hp hb
      cases hc : ((Nat.beq e e' && Nat.beq n l.length) && (Nat.beq (E.P.cellsOf e) 1 && (Nat.blt 0 n && Nat.ble n 9223372036854775807))) with
      | false => exact trivial
      | true =>
        rw [cond_true]
        simp only [Bool.and_eq_true, blt_iff, decide_eq_true_eq] at hc
        obtain ⟨⟨h1, h2⟩, h3, h4, h5⟩ := hc
        have e1 := Nat.eq_of_beq_eq_true h1
        have e2 := Nat.eq_of_beq_eq_true h2
        subst e1; subst e2
        split
        · rename_i s' hs'
          intro K Kx hK
          rw [XSt.setBlk_eq hs'] at hK
          exact AO.unsafeString ho hp (Nat.eq_of_beq_eq_true h3) (by rw [s.ev_eq]; exact hx) (by rw [s.ev_eq]; exact hy) hb h4 (Nat.le_of_ble_eq_true h5) hK
        · exact trivial
    · exact trivial
  · exact trivial
theorem zCall_ok (hE : EOk E) {call : XCaller} (hc : CallOk E.P E.G call) {o : Oper} {f : Operand} {args : Array Operand} {ts : Array TypeId} (ho : o.op = .call { callee := .value f, args := args, argTypes := ts }) (s : XSt) :
    XOk E.P E.G o s (zCall2 E call o.type (s.ev f) (xvals s args.toList) s) := by
  unfold zCall2
  split
  · rename_i r hr
    unfold zExt at hr
    split at hr
    · rename_i g l hf hl
      obtain ⟨fn, e, h1, h2, h3, h4, h5, h6⟩ := hE.X _ _ _ hr
      intro K Kx hK
      exact AVK.ao (AVK.extern ho (by rw [s.ev_eq]; exact hf) h1 h2 h3 h4 h5 (by rw [xvals_eq]; exact hl) h6 hK)
    · cases hr
  · refine XOk.of (fun t' s' h K Kx hK => ?_) (fun v s' h K Kx hK => ?_)
    · exact AO.call ho (by rw [s.ev_eq, xvals_eq]; exact xcallv_ok hE.T hc (.inl ⟨t', s', h, hK⟩))
    · exact AO.call ho (by rw [s.ev_eq, xvals_eq]; exact xcallv_ok hE.T hc (.inr ⟨v, s', h, hK⟩))
theorem zDel_ok {E : XE} {s : XSt} (hE : EOk E) {o : Oper} {t t' : TypeId} {m k : Operand} (ho : o.op = .call { callee := .builtin .delete, args := #[m, k], argTypes := #[t, t'] }) : XOk E.P E.G o s (zDel2 E t (s.ev m) (s.ev k) s) := by
  unfold zDel2
  split
  · rename_i r hr
    unfold zDelMs at hr
    split at hr
    · rename_i kt et b k' hd hm hk
      unfold zDelMs2 at hr
      split at hr
      · rename_i l hb
        cases hkb : zkeyB E.T kt k' with
        | false => rw [hkb] at hr; cases hr
        | true =>
          rw [hkb, cond_true] at hr
          unfold zDelMs3 at hr
          split at hr
          · rename_i l2 hl2
            cases hr
            refine oblk_ok fun b' nb hb' K Kx hK => ?_
            cases hb'
            exact AO.deleteMs ho (xds_ok hE.T hd) (by rw [s.ev_eq]; exact hm) (by rw [s.ev_eq]; exact hk) (by exact hb) (zkey_check hE.T hkb) (fun k' r h => zkcmp_ok hE.T h) hl2 hK
          · cases hr
      · cases hr
    · cases hr
  · exact odel_ok ho
theorem zx_ok (hE : EOk E) {call : XCaller} (hc : CallOk E.P E.G call) {o : Oper} {f : ZX} (h : zdec E.T o.op = .x f) : XOk E.P E.G o s (f E call o.type s) := by
  unfold zdec at h
  split at h
  all_goals first
    | (cases h; done)
    | skip
  · rename_i t x lo hi mx ho
    cases mx <;> cases h
  · rename_i a d x ho
    unfold zdecV at h
    split at h
    · cases h; exact otoBytes_ok hE.T ho
    · cases h
  · rename_i t ho; cases h; exact zAlloc_ok hE ho
  · rename_i t x ho
    cases h
    refine xpre_ok fun s => XOk.of (fun t' s' h K Kx hK => ?_) (fun v s' h => (xbox_no h).elim)
    exact AO.box ho (by rw [s.ev_eq]; exact xbox_ok h hK)
  · rename_i t parts ho
    generalize zconsts parts.toList = b at h
    cases b with
    | true => cases h
    | false =>
    cases h
    refine xpre_ok fun s => ?_
    unfold xval
    split
    · rename_i v hv
      intro K Kx hK
      exact AVK.ao (AVK.build ho (by rw [xparts_eq]; exact xbuild_ok hE.T hv hK))
    · exact trivial
  · rename_i t len parts ho
    cases h
    refine xpre_ok fun s => XOk.of (fun t' s' h K Kx hK => ?_) (fun v s' h => (xbuildSlice_no h).elim)
    exact AO.buildSlice ho (by rw [xparts_eq]; exact xbuildSlice_ok hE.T h hK)
  · rename_i t x y ho
    cases h
    exact xpre_ok fun s => zStore2_ok hE ho
  · rename_i fn fs cs ho
    cases h
    refine xpre_ok fun s => ?_
    unfold xval
    split
    · rename_i v hv
      intro K Kx hK
      refine AVK.ao (AVK.makeFunc ho ?_)
      rw [xvals_eq, xvals_eq]
      unfold xmakeFunc at hv
      split at hv
      · rename_i f c hf hc'
        cases hv
        rw [hf, hc']
        exact hK
      · cases hv
    · exact trivial
  · rename_i t l c ho
    cases h
    refine XOk.of (fun t' s' h K Kx hK => ?_) (fun v s' h => (xmakeSlice_no h).elim)
    exact AO.makeSlice ho (by rw [s.ev_eq, s.ev_eq]; exact xmakeSlice_ok hE.T h hK)
  · rename_i t r ho; cases h; exact omakeMap_ok hE.T ho
  · rename_i t m k v ho; cases h; exact xpre_ok fun s1 => oupd_ok (.inl ho)
  · rename_i t m k v ho; cases h; exact xpre_ok fun s1 => oupd_ok (.inr ho)
  · rename_i t m k ho; cases h; exact xpre_ok fun s1 => oentry_ok ho
  · rename_i t m k v ho; cases h; exact xpre_ok fun s1 => oentryStore_ok ho
  · rename_i t x ho; cases h; exact orange_ok hE.T ho
  · rename_i x str ho
    cases str with
    | true => cases h; exact onext_ok ho
    | false => cases h; exact trivial
  · rename_i x ho
    cases h
    show XOk E.P E.G o s (zPanic2 (s.ev x) s)
    unfold zPanic2
    split
    · rename_i t v hx
      intro K Kx hK
      exact AO.panic ho (by rw [s.ev_eq, hx]; exact hK)
    · exact trivial
  · rename_i c ho
    obtain ⟨callee, args, ts⟩ := c
    unfold zdecC at h
    simp only at h
    split at h
    · cases h
      exact xpre_ok fun s => zCall_ok hE hc ho s
    · rename_i b
      unfold zdecB at h
      split at h
      all_goals first
        | (cases h; done)
        | skip
      · rename_i x y t0 t1 hx ht
        cases h
        rw [arr2 hx, arr2 ht] at ho
        exact zAppend_ok hE ho
      · rename_i m k t t' hx ht
        cases h
        rw [arr2 hx, arr2 ht] at ho
        exact zDel_ok hE ho
      · rename_i x y t t' hx ht
        cases h
        rw [arr2 hx, arr2 ht] at ho
        exact ocopy_ok hE.T ho
      · rename_i x y pt it hx ht
        cases h
        rw [arr2 hx, arr2 ht] at ho
        exact zUnsafeStr_ok hE ho
      · cases h; exact trivial
    · cases h; exact trivial
  · cases h; exact trivial
end
end Go.Abs
namespace Go.Abs
abbrev ZK := XCaller → XSt → XR
noncomputable def zput1 (o : Option XSt) (bad : Nat) (k : ZK) (c : XCaller) : XR := match o with
  | some s => k c s
  | none => .bad bad
noncomputable def zq1 (o : Option TVal) (d : Option Tmp) (bad : Nat) (k : ZK) (c : XCaller) (s : XSt) : XR := match o with
  | some t => zput1 (zput d t s) bad k c
  | none => .bad bad
noncomputable def zx1 (o : XO) (d : Option Tmp) (bad : Nat) (k : ZK) (c : XCaller) : XR := match o with
  | .val t s => zput1 (zput d t s) bad k c
  | .exn v s => .ok (.panic v) s
  | .bad n => .bad (cond (Nat.beq n 0) bad n)
noncomputable def zgo (E : XE) (i : ZI) (ty : TypeId) (d : Option Tmp) (bad : Nat) (k : ZK) : ZK := match i with
  | .q f => fun c s => zq1 (f E s) d bad k c s
  | .x f => fun c s => zx1 (f E c ty s) d bad k c
noncomputable def zskip (d : Option Tmp) (bad : Nat) (k : ZK) : ZK := fun c s => zput1 (zput d (.v (.tup [])) s) bad k c
noncomputable def zgd2 (b : TVal) (want : Bool) (run skip : ZK) (bad : Nat) (c : XCaller) (s : XSt) : XR := match b with
  | .v (.bool b) => cond b (cond want (run c s) (skip c s)) (cond want (skip c s) (run c s))
  | .v (.tup []) => skip c s
  | _ => .bad bad
noncomputable def zgd1 (g : Option Tmp) (want : Bool) (run skip : ZK) (bad : Nat) : ZK := match g with
  | none => fun _ _ => .bad bad
  | some d => fun c s => zgd2 (s.ev (.tmp d)) want run skip bad c s
noncomputable def zguard (ops : Array Oper) (g : Option (Nat × Bool)) (run skip : ZK) (bad : Nat) : ZK := match g with
  | none => run
  | some (j, want) => zgd1 ((ops[j]?).bind (·.dst)) want run skip bad
noncomputable def zstep (E : XE) (ops : Array Oper) (bad : Nat) (o : Oper) (k : ZK) : ZK := zguard ops o.guard (zgo E (zdec E.T o.op) o.type o.dst bad k) (zskip o.dst bad k) bad
noncomputable def zops (E : XE) (ops : Array Oper) (id : Nat) (l : List Oper) : ZK :=
  List.rec (motive := fun _ => ZK) (fun _ s => .ok .normal s) (fun o r ih => zstep E ops (Nat.add (Nat.mul id 1000) r.length) o ih) l
theorem AVK.mono' {P : Program} {G : Nat → Option (List AVal)} {st : St} {o : Oper} {K K' : TVal → St → Prop} (h : AVK P G o K st) (hk : ∀ t, K t st → K' t st) : AVK P G o K' st :=
  let ⟨t, h1, h2⟩ := h
  ⟨t, hk t h1, h2⟩
section
variable {E : XE}
theorem zops_ok (hE : EOk E) {c : XCaller} (hc : CallOk E.P E.G c) {ops : Array Oper} {id : Nat} : ∀ (l : List Oper) (k : Nat) {s : XSt} {x : AExit} {s' : XSt}, (∀ j, l[j]? = ops[k + j]?) → zops E ops id l c s = .ok x s' →
    AOps E.P E.G ops (IsEnd x s') (List.range' k l.length) s.st
  | [], k, s, x, s', _, h => by
    have h' : (XR.ok .normal s) = .ok x s' := h
    cases h'; exact AOps.nil ⟨rfl, rfl⟩
  | o :: r, k, s, x, s', hl, h => by
    have h0 : ops[k]? = some o := by simpa using (hl 0).symm
    have hl' : ∀ j, r[j]? = ops[k + 1 + j]? := fun j => by have := hl (j + 1); simpa [Nat.add_assoc, Nat.add_comm 1 j] using this
    let bad := Nat.add (Nat.mul id 1000) r.length
    have run : (∀ σ lam w a, Rel E.G σ lam s.st w a → Region.wanted o (yielded ops a.tmps) = true) → zgo E (zdec E.T o.op) o.type o.dst bad (zops E ops id r) c s = .ok x s' → AOps E.P E.G ops (IsEnd x s') (k :: List.range' (k + 1) r.length) s.st := fun hw h => by
      cases hf : zdec E.T o.op with
      | q f =>
        rw [hf] at h
        simp only [zgo, zq1] at h
        split at h
        · rename_i t ht
          simp only [zput1, zput_eq] at h
          split at h
          · rename_i s2 hs2
            refine AOps.step h0 hw (AVK.ao (AVK.mono' (zq_ok hE hf ht) ?_))
            intro t' he
            subst he
            rw [← XSt.put_eq hs2]
            exact zops_ok hE hc r (k + 1) hl' h
          · cases h
        · cases h
      | x f =>
        rw [hf] at h
        have hx := zx_ok (s := s) hE hc hf
        simp only [zgo, zx1] at h
        split at h
        · rename_i t s1 hr
          rw [hr] at hx
          simp only [zput1, zput_eq] at h
          split at h
          · rename_i s2 hs2
            refine AOps.step h0 hw (hx _ _ ?_)
            rw [← XSt.put_eq hs2]
            exact zops_ok hE hc r (k + 1) hl' h
          · cases h
        · rename_i v s1 hr
          rw [hr] at hx
          cases h
          exact AOps.step h0 hw (hx _ _ ⟨rfl, rfl⟩)
        · cases h
    have skip : (∀ σ lam w a, Rel E.G σ lam s.st w a → Region.wanted o (yielded ops a.tmps) = false) → zskip o.dst bad (zops E ops id r) c s = .ok x s' → AOps E.P E.G ops (IsEnd x s') (k :: List.range' (k + 1) r.length) s.st := fun hw h => by
      simp only [zskip, zput1, zput_eq] at h
      split at h
      · rename_i s2 hs2
        refine AOps.pass h0 hw ?_
        rw [← XSt.put_eq hs2]
        exact zops_ok hE hc r (k + 1) hl' h
      · cases h
    simp only [List.length_cons, List.range'_succ]
    have h' : zguard ops o.guard (zgo E (zdec E.T o.op) o.type o.dst bad (zops E ops id r)) (zskip o.dst bad (zops E ops id r)) bad c s = .ok x s' := h
    cases hg : o.guard with
    | none =>
      rw [hg] at h'
      exact run (fun σ lam w a hr => wanted_none hg _) h'
    | some jw =>
      obtain ⟨j, want⟩ := jw
      rw [hg] at h'
      simp only [zguard] at h'
      cases hd : (ops[j]?).bind (·.dst) with
      | none =>
        rw [hd] at h'
        have h2 : (XR.bad bad) = .ok x s' := h'
        cases h2
      | some d =>
        rw [hd] at h'
        simp only [zgd1] at h'
        have hy : ayielded ops s.st j = some (s.ev (.tmp d)) := by simp [ayielded, hd, s.ev_eq]
        unfold zgd2 at h'
        split at h'
        · rename_i b hb
          rw [hb] at hy
          cases b <;> cases want <;> simp only [cond_true, cond_false] at h'
          · exact run (fun σ lam w a hr => by simp [Region.wanted, hg, yielded_bool hr hy]) h'
          · exact skip (fun σ lam w a hr => by simp [Region.wanted, hg, yielded_bool hr hy]) h'
          · exact skip (fun σ lam w a hr => by simp [Region.wanted, hg, yielded_bool hr hy]) h'
          · exact run (fun σ lam w a hr => by simp [Region.wanted, hg, yielded_bool hr hy]) h'
        · rename_i hb
          rw [hb] at hy
          exact skip (fun σ lam w a hr => by simp [Region.wanted, hg, yielded_skip hr hy]) h'
        · cases h'
end
/-! Code. -/
noncomputable def zseq3 (x : AExit) (s : XSt) (b : ZK) (c : XCaller) : XR := match x with
  | .normal => b c s
  | x => .ok x s
noncomputable def zseq2 (r : XR) (b : ZK) (c : XCaller) : XR := match r with
  | .ok x s => zseq3 x s b c
  | .bad n => .bad n
noncomputable def zcond2 (t : TVal) (a b : ZK) (c : XCaller) (s : XSt) : XR := match t with
  | .v (.bool t) => cond t (a c s) (b c s)
  | _ => .bad 5
noncomputable def zblock3 (id : Nat) (x : AExit) (s : XSt) : XR := match x with
  | .exit i => cond (Nat.beq i id) (.ok .normal s) (.ok (.exit i) s)
  | x => .ok x s
noncomputable def zblock2 (id : Nat) (r : XR) : XR := match r with
  | .ok x s => zblock3 id x s
  | .bad n => .bad n
noncomputable def zloop (a : ZK) (c : XCaller) (n : Nat) : XSt → XR :=
  Nat.rec (motive := fun _ => XSt → XR) (fun _ => .bad 7) (fun _ ih s => zseq2 (a c s) (fun _ s => ih s) c) n
noncomputable def zcode (E : XE) (dr : Nat → Array Oper → ZK) (rounds : Nat) (c : Code) : ZK :=
  Code.rec (motive := fun _ => ZK)
    (fun _ s => .ok .normal s)
    (fun id ops draw => cond draw (dr id ops) (zops E ops id ops.toList))
    (fun _ _ a b c s => zseq2 (a c s) b c)
    (fun t _ _ a b c s => zcond2 (s.ev t) a b c s)
    (fun id _ a c s => zblock2 id (a c s))
    (fun _ a c s => zloop a c rounds s)
    (fun _ _ _ _ _ _ _ _ => .bad 1)
    (fun id _ s => .ok (.exit id) s)
    (fun _ _ _ _ => .bad 2)
    (fun _ _ s => .ok .normal s)
    (fun l _ s => .ok (.goto l) s)
    (fun _ s => .ok .ret s)
    (fun _ _ _ => .bad 3) c
def ZDrOk (E : XE) (dr : Nat → Array Oper → ZK) : Prop := ∀ c, CallOk E.P E.G c → ∀ id ops s x s', dr id ops c s = .ok x s' → AW E.P E.G (.region id ops true) (IsEnd x s') s.st
section
variable {E : XE}
theorem zseq_case {r : XR} {b : ZK} {c : XCaller} {x : AExit} {s' : XSt} (h : zseq2 r b c = .ok x s') : (∃ s1, r = .ok .normal s1 ∧ b c s1 = .ok x s') ∨ (r = .ok x s' ∧ x ≠ .normal) := by
  cases r with
  | bad n => cases h
  | ok y s1 =>
    have h' : zseq3 y s1 b c = .ok x s' := h
    cases y <;> first
      | exact .inl ⟨s1, rfl, h'⟩
      | (cases h'; exact .inr ⟨rfl, fun e => by cases e⟩)
theorem zloop_ok {a : ZK} {c : XCaller} {code : Code} (hb : ∀ {s : XSt} {x : AExit} {s' : XSt}, a c s = .ok x s' → AW E.P E.G code (IsEnd x s') s.st) : ∀ (n : Nat) {s : XSt} {x : AExit} {s' : XSt}, zloop a c n s = .ok x s' → AL E.P E.G code (IsEnd x s') s.st
  | 0, s, x, s', h => by
    have h' : (XR.bad 7) = .ok x s' := h
    cases h'
  | n + 1, s, x, s', h => by
    have h' : zseq2 (a c s) (fun _ s => zloop a c n s) c = .ok x s' := h
    refine AL.round ?_
    rcases zseq_case h' with ⟨s1, h1, h2⟩ | ⟨h1, hne⟩
    · refine AW.mono (hb h1) ?_
      rintro y t ⟨rfl, rfl⟩
      exact zloop_ok hb n h2
    · refine AW.mono (hb h1) ?_
      rintro y t ⟨rfl, rfl⟩
      cases y with
      | normal => exact absurd rfl hne
      | _ => exact ⟨rfl, rfl⟩
theorem zcode_ok (hE : EOk E) {dr : Nat → Array Oper → ZK} (hdr : ZDrOk E dr) {rounds : Nat} {c : XCaller} (hc : CallOk E.P E.G c) : ∀ (code : Code) {s : XSt} {x : AExit} {s' : XSt}, zcode E dr rounds code c s = .ok x s' → AW E.P E.G code (IsEnd x s') s.st
  | .skip, s, x, s', h => by
    have h' : (XR.ok .normal s) = .ok x s' := h
    cases h'; exact AW.skip ⟨rfl, rfl⟩
  | .region id ops draw, s, x, s', h => by
    cases draw with
    | true => exact hdr c hc id ops s x s' h
    | false =>
      have h' : zops E ops id ops.toList c s = .ok x s' := h
      refine AW.region ?_
      have := zops_ok hE hc ops.toList 0 (by simp) h'
      rw [List.range_eq_range']
      simpa using this
  | .seq a b, s, x, s', h => by
    have h' : zseq2 (zcode E dr rounds a c s) (zcode E dr rounds b) c = .ok x s' := h
    refine AW.seq ?_
    rcases zseq_case h' with ⟨s1, h1, h2⟩ | ⟨h1, hne⟩
    · refine AW.mono (zcode_ok hE hdr hc a h1) ?_
      rintro y t ⟨rfl, rfl⟩
      exact zcode_ok hE hdr hc b h2
    · refine AW.mono (zcode_ok hE hdr hc a h1) ?_
      rintro y t ⟨rfl, rfl⟩
      cases y with
      | normal => exact absurd rfl hne
      | _ => exact ⟨rfl, rfl⟩
  | .cond t a b, s, x, s', h => by
    have h' : zcond2 (s.ev t) (zcode E dr rounds a) (zcode E dr rounds b) c s = .ok x s' := h
    unfold zcond2 at h'
    split at h'
    · rename_i v hv
      refine AW.cond (t := v) (by rw [s.ev_eq]; exact hv) ?_
      cases v with
      | true => exact zcode_ok hE hdr hc a h'
      | false => exact zcode_ok hE hdr hc b h'
    · cases h'
  | .block id code, s, x, s', h => by
    have h' : zblock2 id (zcode E dr rounds code c s) = .ok x s' := h
    refine AW.block ?_
    cases hr : zcode E dr rounds code c s with
    | bad n => rw [hr] at h'; cases h'
    | ok y s1 =>
      rw [hr] at h'
      refine AW.mono (zcode_ok hE hdr hc code hr) ?_
      rintro y' t ⟨rfl, rfl⟩
      have h2 : zblock3 id y' s1 = .ok x s' := h'
      cases y' with
      | exit i =>
        show if i = id then _ else _
        have h3 : cond (Nat.beq i id) (XR.ok .normal s1) (XR.ok (.exit i) s1) = .ok x s' := h2
        cases hb : Nat.beq i id with
        | true =>
          rw [hb] at h3
          cases h3
          rw [if_pos (Nat.eq_of_beq_eq_true hb)]
          exact ⟨rfl, rfl⟩
        | false =>
          rw [hb] at h3
          cases h3
          rw [if_neg (Nat.ne_of_beq_eq_false hb)]
          exact ⟨rfl, rfl⟩
      | _ => cases h2; exact ⟨rfl, rfl⟩
  | .loop code, s, x, s', h => AW.loop (zloop_ok (fun h => zcode_ok hE hdr hc code h) rounds h)
  | .rangeFunc _ _ _ _, s, x, s', h => by
    have h' : (XR.bad 1) = .ok x s' := h
    cases h'
  | .exit id, s, x, s', h => by
    have h' : (XR.ok (.exit id) s) = .ok x s' := h
    cases h'; exact AW.exit ⟨rfl, rfl⟩
  | .scope _, s, x, s', h => by
    have h' : (XR.bad 2) = .ok x s' := h
    cases h'
  | .label l, s, x, s', h => by
    have h' : (XR.ok .normal s) = .ok x s' := h
    cases h'; exact AW.label ⟨rfl, rfl⟩
  | .goto l, s, x, s', h => by
    have h' : (XR.ok (.goto l) s) = .ok x s' := h
    cases h'; exact AW.goto ⟨rfl, rfl⟩
  | .ret, s, x, s', h => by
    have h' : (XR.ok .ret s) = .ok x s' := h
    cases h'; exact AW.ret ⟨rfl, rfl⟩
  | .refuse _, s, x, s', h => by
    have h' : (XR.bad 3) = .ok x s' := h
    cases h'
end
/-! Functions. -/
noncomputable def zret (E : XE) (f : FuncId) (rs : List ResultVar) (s : XSt) : XC := match xresults E.T E.G s rs with
  | some l => .ret (oneOf l) s.next s.heap
  | none => .bad (f * 1000000000 + 8)
noncomputable def zend3 (E : XE) (f : FuncId) (rs : List ResultVar) (x : AExit) (s : XSt) : XC := match x with
  | .normal => zret E f rs s
  | .ret => zret E f rs s
  | .panic v => .exn v s.next s.heap
  | _ => .bad (f * 1000000000 + 9)
noncomputable def zend (E : XE) (f : FuncId) (rs : List ResultVar) (r : XR) : XC := match r with
  | .ok x s => zend3 E f rs x s
  | .bad n => .bad (cond (Nat.blt n 1000000000) (f * 1000000000 + n) n)
noncomputable def zbody (E : XE) (dr : Nat → Array Oper → ZK) (rounds : Nat) (f : FuncId) (fn : Func) (c : XCaller) (args : List AVal) (next : Nat) (heap : Tr ABlk) : XC := match fn.body with
  | none => .bad (f * 1000000000)
  | some code => cond (Nat.ble args.length fn.ntmps && Nat.blt fn.ntmps 16777214) (zend E f fn.results.toList (zcode E dr rounds code c (xstart args fn.ntmps next heap))) (.bad 10)
abbrev ZKnown := Tr (List AVal → Nat → Tr ABlk → XC)
noncomputable def zelse (r : XC) (d : XC) : XC := match r with
  | .bad _ => d
  | r => r
noncomputable def zcall2 (E : XE) (dr : Nat → Array Oper → ZK) (rounds : Nat) (f : FuncId) (fn : Option Func) (c : XCaller) (args : List AVal) (next : Nat) (heap : Tr ABlk) : XC := match fn with
  | some fn => zbody E dr rounds f fn c args next heap
  | none => .bad (f * 1000000000 + 4)
noncomputable def zcall1 (k : Option (List AVal → Nat → Tr ABlk → XC)) (E : XE) (dr : Nat → Array Oper → ZK) (rounds : Nat) (f : FuncId) (fn : Option Func) (c : XCaller) (args : List AVal) (next : Nat) (heap : Tr ABlk) : XC := match k with
  | some k => zelse (k args next heap) (zcall2 E dr rounds f fn c args next heap)
  | none => zcall2 E dr rounds f fn c args next heap
noncomputable def zrun (E : XE) (F : Tr Func) (dr : Nat → Array Oper → ZK) (known : ZKnown) (rounds : Nat) (depth : Nat) : XCaller :=
  Nat.rec (motive := fun _ => XCaller) (fun _ _ _ _ => .bad 11) (fun _ ih f args next heap => zcall1 (known.get f) E dr rounds f (F.get f) ih args next heap) depth
def ZKnownOk (E : XE) (known : ZKnown) : Prop := ∀ f k, known.get f = some k → ∀ args n h,
  (∀ v n' h', k args n h = .ret v n' h' → plainFn E.P f = true ∧ ACalls E.P E.G f args { next := n, get := h.get } (fun e H' => e = .ret v ∧ H' = { next := n', get := h'.get })) ∧
  (∀ v n' h', k args n h = .exn v n' h' → plainFn E.P f = true ∧ ACalls E.P E.G f args { next := n, get := h.get } (fun e H' => e = .panic v ∧ H' = { next := n', get := h'.get }))
section
variable {E : XE}
theorem zbody_ok (hE : EOk E) {dr : Nat → Array Oper → ZK} (hdr : ZDrOk E dr) {rounds : Nat} {c : XCaller} (hc : CallOk E.P E.G c) {f : FuncId} {fn : Func} (hf : E.P.funcs[f]? = some fn) {args : List AVal} {n : Nat} {hp : Tr ABlk} :
    (∀ v n' h', zbody E dr rounds f fn c args n hp = .ret v n' h' → ACalls E.P E.G f args { next := n, get := hp.get } (fun e H' => e = .ret v ∧ H' = { next := n', get := h'.get })) ∧
    (∀ v n' h', zbody E dr rounds f fn c args n hp = .exn v n' h' → ACalls E.P E.G f args { next := n, get := hp.get } (fun e H' => e = .panic v ∧ H' = { next := n', get := h'.get })) := by
  have key : ∀ (code : Code), fn.body = some code → (Nat.ble args.length fn.ntmps && Nat.blt fn.ntmps 16777214) = true → ∀ x s', zcode E dr rounds code c (xstart args fn.ntmps n hp) = .ok x s' → ∀ R, (bodyK E.P E.G fn.results.toList R x s'.st) → ACalls E.P E.G f args { next := n, get := hp.get } R := fun code hcd hb x s' hx R hR => by
    simp only [Bool.and_eq_true, blt_iff, decide_eq_true_eq] at hb
    have h1 := Nat.le_of_ble_eq_true hb.1
    refine ACalls.bodyU hf hcd ?_
    rw [← xstart_eq h1 hb.2]
    refine AW.mono (zcode_ok hE hdr hc code hx) ?_
    rintro y t ⟨rfl, rfl⟩
    exact hR
  have res : ∀ s' l R, xresults E.T E.G s' fn.results.toList = some l → R (.ret (oneOf l)) s'.st.heap → bodyK E.P E.G fn.results.toList R .normal s'.st ∧ bodyK E.P E.G fn.results.toList R .ret s'.st := fun s' l R hl hR => by
    have := xresults_ok (P := E.P) hE.T _ hl
    simp only [bodyK, this]
    exact ⟨hR, hR⟩
  have split : ∀ r, zbody E dr rounds f fn c args n hp = r → (∃ m, r = .bad m) ∨ ∃ code x s', fn.body = some code ∧ (Nat.ble args.length fn.ntmps && Nat.blt fn.ntmps 16777214) = true ∧ zcode E dr rounds code c (xstart args fn.ntmps n hp) = .ok x s' ∧ zend3 E f fn.results.toList x s' = r := fun r h => by
    unfold zbody at h
    split at h
    · exact .inl ⟨_, h.symm⟩
    · rename_i code hcd
      cases hb : (Nat.ble args.length fn.ntmps && Nat.blt fn.ntmps 16777214) with
      | false => rw [hb] at h; exact .inl ⟨_, h.symm⟩
      | true =>
        rw [hb, cond_true] at h
        unfold zend at h
        split at h
        · rename_i x s' hs'
          exact .inr ⟨code, x, s', hcd, rfl, hs', h⟩
        · exact .inl ⟨_, h.symm⟩
  constructor
  · intro v n' h' h
    rcases split _ h with ⟨m, hm⟩ | ⟨code, x, s', hcd, hb, hx, hr⟩
    · cases hm
    · unfold zend3 at hr
      split at hr
      · unfold zret at hr
        split at hr
        · rename_i l hl
          cases hr
          exact key code hcd hb _ _ hx _ (res s' l _ hl ⟨rfl, rfl⟩).1
        · cases hr
      · unfold zret at hr
        split at hr
        · rename_i l hl
          cases hr
          exact key code hcd hb _ _ hx _ (res s' l _ hl ⟨rfl, rfl⟩).2
        · cases hr
      · cases hr
      · cases hr
  · intro v n' h' h
    rcases split _ h with ⟨m, hm⟩ | ⟨code, x, s', hcd, hb, hx, hr⟩
    · cases hm
    · unfold zend3 at hr
      split at hr
      · unfold zret at hr
        split at hr <;> cases hr
      · unfold zret at hr
        split at hr <;> cases hr
      · cases hr
        exact key code hcd hb _ _ hx _ ⟨rfl, rfl⟩
      · cases hr
theorem zrun_ok (hE : EOk E) {F : Tr Func} (hF : FOk E.P F) {dr : Nat → Array Oper → ZK} (hdr : ZDrOk E dr) {known : ZKnown} (hk : ZKnownOk E known) (rounds : Nat) : ∀ depth : Nat, CallOk E.P E.G (zrun E F dr known rounds depth)
  | 0 => fun g args n h => by
    have e : zrun E F dr known rounds 0 g args n h = .bad 11 := rfl
    exact ⟨fun v n' h' e' => (by rw [e] at e'; cases e'), fun v n' h' e' => (by rw [e] at e'; cases e')⟩
  | d + 1 => fun g args n h => by
    have ih := zrun_ok hE hF hdr hk rounds d
    have e : zrun E F dr known rounds (d + 1) g args n h = zcall1 (known.get g) E dr rounds g (F.get g) (zrun E F dr known rounds d) args n h := rfl
    have two : (∀ v n' h', zcall2 E dr rounds g (F.get g) (zrun E F dr known rounds d) args n h = .ret v n' h' → plainFn E.P g = true ∧ ACalls E.P E.G g args { next := n, get := h.get } (fun e H' => e = .ret v ∧ H' = { next := n', get := h'.get })) ∧
        (∀ v n' h', zcall2 E dr rounds g (F.get g) (zrun E F dr known rounds d) args n h = .exn v n' h' → plainFn E.P g = true ∧ ACalls E.P E.G g args { next := n, get := h.get } (fun e H' => e = .panic v ∧ H' = { next := n', get := h'.get })) := by
      cases hf : F.get g with
      | none => exact ⟨fun v n' h' e' => (by cases e'), fun v n' h' e' => (by cases e')⟩
      | some fn =>
        obtain ⟨h1, h2⟩ := hF _ _ hf
        have hb := zbody_ok hE hdr (rounds := rounds) ih h1 (args := args) (n := n) (hp := h)
        exact ⟨fun v n' h' e' => ⟨h2, hb.1 v n' h' e'⟩, fun v n' h' e' => ⟨h2, hb.2 v n' h' e'⟩⟩
    rw [e]
    unfold zcall1
    split
    · rename_i k hkg
      have hkk := hk g k hkg args n h
      unfold zelse
      split
      · exact two
      · exact hkk
    · exact two
end
end Go.Abs
namespace Go.Abs
section
variable {P : Program} {G : Nat → Option (List AVal)} {st : St}
theorem NO.makeMap {o : Oper} {t kt et : TypeId} {r : Option Operand} (ho : o.op = .makeMap t r) (hd : P.underlying t = some (.map kt et)) (hr0 : ∀ x, r = some x → ∃ k n, st.ev x = .v (.int k n)) : NO P G o .map (.mp [] [] 0) st := fun σ lam w a hr => by
  refine ⟨.map #[] 0, .map (some w.heap.size), 0, ?_, rfl, BlkR.mp_nil _ _ _ _ (heap_alloc_at _ _)⟩
  cases r with
  | none => simp [execOp, ho, Instr.makeMap, newObj]; rfl
  | some x =>
    obtain ⟨k, n, hx⟩ := hr0 x rfl
    have hv := ev_rel hr x
    rw [hx] at hv
    have hv' : VR σ st.heap.next (.int k n) (a.eval x) := hv
    generalize he : a.eval x = X at hv'
    cases hv'
    simp [execOp, ho, Instr.makeMap, run_underlying hd, he, asInt, asIntOf, newObj]
    rfl
theorem NO.makeSlice {o : Oper} {t e : TypeId} {l c : Operand} {ie : TypeInfo} {z : Value} {k k' : IntKind} {n m : Nat} (ho : o.op = .makeSlice t l c) (hu : P.underlying t = some (.slice e)) (hie : P.info? e = some ie) (hz : ie.zero = some z)
    (hl : st.ev l = .v (.int k n)) (hc : st.ev c = .v (.int k' m)) (hnm : n ≤ m) (h2 : m ≤ 9223372036854775807) (h3 : ie.bytes * m ≤ 281474976710656) : NO P G o (.sl n) (.cells ie.size (zeroRow z (n * ie.size)) true) st := fun σ lam w a hr => by
  have hw1 := wrap_id (n : Int) (by omega) (by omega)
  have hw2 := wrap_id (m : Int) (by omega) (by omega)
  have hmul : n * ie.size ≤ m * ie.size := Nat.mul_le_mul_right _ hnm
  refine ⟨.cells ((Array.range (m * ie.size)).map (z.cells[· % z.cells.size]!)) e, .slice (some ⟨w.heap.size, 0, none⟩) n m, m, ?_, ⟨rfl, hnm, rfl⟩, BlkR.row (fun i v hv => by
      have hi : i < n * ie.size := by simpa [zeroRow] using (List.getElem?_eq_some_iff.1 hv).1
      have hi2 : i < m * ie.size := by omega
      refine ⟨z.cells[i % z.cells.size]!, by simp [hi2], ?_⟩
      simp [zeroRow, hi] at hv
      subst hv
      exact ofZero1_rel _ _ _) (by simp [zeroRow]; omega) (by simp)⟩
  have hroom : ∀ (k : Nat) (w : World), (askRoom k).run P w = .ok () w := fun k w => by
    unfold askRoom
    split <;> simp [mark, Sem.run]
  have h3' : (ie.bytes : Int) * (m : Int) ≤ 281474976710656 := by
    have h4 : ((ie.bytes * m : Nat) : Int) ≤ ((281474976710656 : Nat) : Int) := Int.ofNat_le.2 h3
    rw [Int.natCast_mul] at h4
    exact h4
  have hbig : ¬ ((ie.bytes : Int) * (m : Int) > 2 ^ 48) := by omega
  have hm0 : ¬ ((m : Int) < 0) := by omega
  have hn0 : ¬ ((n : Int) < 0) := by omega
  have hnm' : ¬ ((n : Int) > (m : Int)) := by omega
  simp only [execOp, ho, Instr.makeSlice, Sem.run_bind, run_underlying hu, Result.andThen_ok, asInt, asIntOf, eval_int hr hl, eval_int hr hc, Sem.run_pure, run_info hie, hw1, hw2]
  simp only [hbig, hm0, hn0, hnm', decide_false, Bool.false_or, Bool.or_false, Bool.false_eq_true, if_false, Sem.run_bind, hroom, Result.andThen_ok, run_size hie, Int.toNat_natCast]
  by_cases hz0 : m * ie.size = 0
  · have hrow : ∀ (f g : Nat → Value), (Array.range (m * ie.size)).map f = (Array.range (m * ie.size)).map g := fun f g => by simp [hz0]
    simp only [if_pos hz0, Sem.run_pure, Result.andThen_ok, Sem.run_bind]
    rw [hrow _ (fun x => z.cells[x % z.cells.size]!)]
    rfl
  · simp only [if_neg hz0, Sem.run_bind, run_zero hie hz, Sem.run_pure, Result.andThen_ok]
    rfl
end
end Go.Abs
namespace Go.Abs
/-! Are two values the same? -/
def cbeq : Cap → Cap → Bool
  | .exact n, .exact m => Nat.beq n m
  | .rest n, .rest m => Nat.beq n m
  | _, _ => false
mutual
def abeq : AVal → AVal → Bool
  | .undef, .undef => true
  | .bool a, .bool b => cond a b (not b)
  | .int k a, .int k' b => Nat.beq (kidx k) (kidx k') && zeq a b
  | .str a, .str b => zbeq a b
  | .ptr a b, .ptr c d => Nat.beq a c && Nat.beq b d
  | .nilptr, .nilptr => true
  | .gptr a b, .gptr c d => Nat.beq a c && Nat.beq b d
  | .sl a b n c, .sl a' b' n' c' => (Nat.beq a a' && Nat.beq b b') && (Nat.beq n n' && cbeq c c')
  | .esl, .esl => true
  | .nilsl, .nilsl => true
  | .map a, .map b => Nat.beq a b
  | .nilmap, .nilmap => true
  | .nilfunc, .nilfunc => true
  | .iface t v, .iface t' v' => Nat.beq t t' && abeq v v'
  | .nilif, .nilif => true
  | .agg l, .agg l' => abeqs l l'
  | .tup l, .tup l' => abeqs l l'
  | _, _ => false
def abeqs : List AVal → List AVal → Bool
  | [], [] => true
  | v :: l, v' :: l' => abeq v v' && abeqs l l'
  | _, _ => false
end
theorem cbeq_ok {a b : Cap} (h : cbeq a b = true) : a = b := by
  cases a <;> cases b <;> simp only [cbeq] at h <;> first
    | (cases h; done)
    | (rw [Nat.eq_of_beq_eq_true h])
mutual
theorem abeq_ok : ∀ (a b : AVal), abeq a b = true → a = b
  | .undef, b, h => by cases b <;> first | rfl | (simp [abeq] at h)
  | .bool x, b, h => by
    cases b <;> first
      | (rename_i y; cases x <;> cases y <;> first | rfl | (simp [abeq] at h))
      | (simp [abeq] at h)
  | .int k x, b, h => by
    cases b <;> first
      | (simp only [abeq, Bool.and_eq_true, zeq_eq, beq_iff_eq] at h
         rw [kidx_inj h.1, h.2])
      | (simp [abeq] at h)
  | .str x, b, h => by
    cases b <;> first
      | (simp only [abeq, zbeq_eq, beq_iff_eq] at h
         rw [h])
      | (simp [abeq] at h)
  | .ptr x y, b, h => by
    cases b <;> first
      | (simp only [abeq, Bool.and_eq_true] at h
         rw [Nat.eq_of_beq_eq_true h.1, Nat.eq_of_beq_eq_true h.2])
      | (simp [abeq] at h)
  | .nilptr, b, h => by cases b <;> first | rfl | (simp [abeq] at h)
  | .gptr x y, b, h => by
    cases b <;> first
      | (simp only [abeq, Bool.and_eq_true] at h
         rw [Nat.eq_of_beq_eq_true h.1, Nat.eq_of_beq_eq_true h.2])
      | (simp [abeq] at h)
  | .sl x y n c, b, h => by
    cases b <;> first
      | (simp only [abeq, Bool.and_eq_true] at h
         rw [Nat.eq_of_beq_eq_true h.1.1, Nat.eq_of_beq_eq_true h.1.2, Nat.eq_of_beq_eq_true h.2.1, cbeq_ok h.2.2])
      | (simp [abeq] at h)
  | .esl, b, h => by cases b <;> first | rfl | (simp [abeq] at h)
  | .nilsl, b, h => by cases b <;> first | rfl | (simp [abeq] at h)
  | .map x, b, h => by
    cases b <;> first
      | (simp only [abeq] at h
         rw [Nat.eq_of_beq_eq_true h])
      | (simp [abeq] at h)
  | .nilmap, b, h => by cases b <;> first | rfl | (simp [abeq] at h)
  | .func _ _ _, b, h => by cases b <;> simp [abeq] at h
  | .nilfunc, b, h => by cases b <;> first | rfl | (simp [abeq] at h)
  | .iface t v, b, h => by
    cases b <;> first
      | (simp only [abeq, Bool.and_eq_true] at h
         rw [Nat.eq_of_beq_eq_true h.1, abeq_ok _ _ h.2])
      | (simp [abeq] at h)
  | .nilif, b, h => by cases b <;> first | rfl | (simp [abeq] at h)
  | .agg l, b, h => by
    cases b <;> first
      | (simp only [abeq] at h
         rw [abeqs_ok _ _ h])
      | (simp [abeq] at h)
  | .tup l, b, h => by
    cases b <;> first
      | (simp only [abeq] at h
         rw [abeqs_ok _ _ h])
      | (simp [abeq] at h)
theorem abeqs_ok : ∀ (a b : List AVal), abeqs a b = true → a = b
  | [], [], _ => rfl
  | [], _ :: _, h => by simp [abeqs] at h
  | _ :: _, [], h => by simp [abeqs] at h
  | v :: l, v' :: l', h => by
    simp only [abeqs, Bool.and_eq_true] at h
    rw [abeq_ok _ _ h.1, abeqs_ok _ _ h.2]
end
def tbeq : TVal → TVal → Bool
  | .v a, .v b => abeq a b
  | .lp a b, .lp c d => Nat.beq a c && Nat.beq b d
  | _, _ => false
theorem tbeq_ok {a b : TVal} (h : tbeq a b = true) : a = b := by
  cases a <;> cases b <;> simp only [tbeq, Bool.and_eq_true] at h <;> first
    | (rw [abeq_ok _ _ h])
    | (rw [Nat.eq_of_beq_eq_true h.1, Nat.eq_of_beq_eq_true h.2])
    | (cases h; done)
/-! What stands ahead of what in a region. -/
def zbinds (e : Edge) : Bool := match e.ground with
  | .textOnly _ => false
  | .gcOnly _ => false
  | _ => true
theorem zbinds_eq (e : Edge) : zbinds e = Region.binds .any e := by
  unfold zbinds Region.binds
  cases e.ground <;> rfl
def zbit (m j : Nat) : Bool := Nat.beq (Nat.mod (Nat.shiftRight m j) 2) 1
theorem zbit_eq (m j : Nat) : zbit m j = Nat.testBit m j := by
  rw [Bool.eq_iff_iff, Nat.testBit_eq_decide_div_mod_eq]
  simp only [zbit, Nat.beq_eq, decide_eq_true_eq]
  show (m >>> j) % 2 = 1 ↔ _
  rw [Nat.shiftRight_eq_div_pow]
def zam (acc : List Nat) : List Edge → Nat → Nat
  | [], s => s
  | e :: r, s => zam acc r (cond (zbinds e) (Nat.lor s (Nat.lor (Nat.pow 2 e.on) (acc.getD e.on 0))) s)
theorem zam_bit (acc : List Nat) (j : Nat) : ∀ (l : List Edge) (s : Nat), Nat.testBit (zam acc l s) j = true → Nat.testBit s j = true ∨ ∃ e ∈ l, zbinds e = true ∧ (j = e.on ∨ Nat.testBit (acc.getD e.on 0) j = true)
  | [], s, h => .inl h
  | e :: r, s, h => by
    rcases zam_bit acc j r _ h with h1 | ⟨e', he, h2⟩
    · cases hb : zbinds e with
      | false => rw [hb] at h1; exact .inl h1
      | true =>
        rw [hb, cond_true] at h1
        have h3 : Nat.testBit (s ||| (2 ^ e.on ||| acc.getD e.on 0)) j = true := h1
        rw [Nat.testBit_or, Nat.testBit_or, Bool.or_eq_true, Bool.or_eq_true, Nat.testBit_two_pow] at h3
        rcases h3 with h3 | h3 | h3
        · exact .inl h3
        · exact .inr ⟨e, by simp, hb, .inl (by simpa using (of_decide_eq_true h3).symm)⟩
        · exact .inr ⟨e, by simp, hb, .inr h3⟩
    · exact .inr ⟨e', by simp [he], h2⟩
def zanc : List Oper → List Nat → List Nat
  | [], acc => acc
  | o :: r, acc => zanc r (acc ++ [zam acc o.after.toList 0])
def zenum {α : Type} : List α → Nat → List (Nat × α)
  | [], _ => []
  | o :: r, i => (i, o) :: zenum r (Nat.add i 1)
theorem zenum_mem {α : Type} : ∀ (l : List α) (k i : Nat) (o : α), l[i]? = some o → (k + i, o) ∈ zenum l k
  | [], k, i, o, h => by simp at h
  | x :: r, k, 0, o, h => by
    simp at h
    subst h
    simp [zenum]
  | x :: r, k, i + 1, o, h => by
    have := zenum_mem r (k + 1) i o (by simpa using h)
    have e : k + (i + 1) = k + 1 + i := by omega
    rw [e]
    exact List.mem_cons_of_mem _ this
def zall {α : Type} (f : α → Bool) : List α → Bool
  | [] => true
  | x :: r => cond (f x) (zall f r) false
theorem zall_ok {α : Type} {f : α → Bool} : ∀ {l : List α}, zall f l = true → ∀ x ∈ l, f x = true
  | [], _, x, hx => by cases hx
  | y :: r, h, x, hx => by
    simp only [zall] at h
    cases hy : f y with
    | false => rw [hy] at h; cases h
    | true =>
      rw [hy] at h
      rcases List.mem_cons.1 hx with rfl | hx
      · exact hy
      · exact zall_ok h x hx
def zhas : List Nat → Nat → Bool
  | [], _ => false
  | x :: r, t => cond (Nat.beq x t) true (zhas r t)
theorem zhas_ok : ∀ {l : List Nat} {t : Nat}, t ∈ l → zhas l t = true
  | x :: r, t, h => by
    simp only [zhas]
    rcases List.mem_cons.1 h with rfl | h
    · simp
    · rw [zhas_ok h]
      cases Nat.beq x t <;> rfl
def zis (d : Option Tmp) (t : Nat) : Bool := match d with
  | some d => Nat.beq d t
  | none => false
/-- One operation and those ahead of it. -/
def zanc1 (A : List Nat) (p : Nat × Oper) : Bool := Nat.beq (A.getD p.1 0) (zam A p.2.after.toList 0) && zall (fun e => cond (zbinds e) (Nat.blt e.on p.1) true) p.2.after.toList
def zslot2 (A : List Nat) (i : Nat) (lk : List Nat) (d : Option Tmp) (j : Nat) (dj : Option Tmp) : Bool := match dj with
  | none => true
  | some t => cond (zhas lk t || zis d t) (cond (Nat.blt j i) (zbit (A.getD i 0) j) true && cond (Nat.blt i j) (zbit (A.getD j 0) i) true) true
def zslot1 (A : List Nat) (ops : Array Oper) (L : List (Nat × Oper)) (p : Nat × Oper) : Bool := zall (fun q => zslot2 A p.1 (p.2.looksAt ops) p.2.dst q.1 q.2.dst) L
def zbig (ops : Array Oper) (p : Nat × Oper) : Bool := zall (fun t => Nat.blt t 16777214) (p.2.looksAt ops)
def zstatic (A : List Nat) (ops : Array Oper) (L : List (Nat × Oper)) : Bool := zall (zanc1 A) L && (zall (zslot1 A ops L) L && zall (zbig ops) L)
theorem zstatic_ok {A : List Nat} {ops : Array Oper} (h : zstatic A ops (zenum ops.toList 0) = true) :
    (∀ i o, ops[i]? = some o → ∀ e ∈ o.after, Region.binds .any e = true → e.on < i) ∧
    (∀ i j, i < ops.size → Nat.testBit (A.getD i 0) j = true → ∃ o, ops[i]? = some o ∧ ∃ e ∈ o.after, Region.binds .any e = true ∧ (j = e.on ∨ Nat.testBit (A.getD e.on 0) j = true)) ∧
    (∀ (i : Nat) (o : Oper) (t : Nat), ops[i]? = some o → (t ∈ o.looksAt ops ∨ o.dst = some t) → ∀ (j : Nat) (o' : Oper), ops[j]? = some o' → o'.dst = some t → (j < i → Nat.testBit (A.getD i 0) j = true) ∧ (i < j → Nat.testBit (A.getD j 0) i = true)) ∧
    (∀ (i : Nat) (o : Oper), ops[i]? = some o → ∀ t ∈ o.looksAt ops, t < 16777214) := by
  simp only [zstatic, Bool.and_eq_true] at h
  obtain ⟨h1, h2, h3⟩ := h
  have mem : ∀ i o, ops[i]? = some o → (i, o) ∈ zenum ops.toList 0 := fun i o ho => by
    have := zenum_mem ops.toList 0 i o (by rw [Array.getElem?_toList]; exact ho)
    simpa using this
  refine ⟨fun i o ho e he hb => ?_, fun i j hi hb => ?_, fun i o t ho ht j o' ho' hd => ?_, fun i o ho t ht => ?_⟩
  · have := zall_ok h1 _ (mem i o ho)
    simp only [zanc1, Bool.and_eq_true] at this
    have h4 := zall_ok this.2 e (by simpa using he)
    rw [zbinds_eq, hb, cond_true, blt_iff] at h4
    simpa using h4
  · have ho : ops[i]? = some ops[i] := by simp [hi]
    have := zall_ok h1 _ (mem i _ ho)
    simp only [zanc1, Bool.and_eq_true] at this
    have h4 := Nat.eq_of_beq_eq_true this.1
    rw [h4] at hb
    rcases zam_bit A j _ _ hb with h5 | ⟨e, he, h6, h7⟩
    · simp at h5
    · exact ⟨_, ho, e, by simpa using he, by rw [← zbinds_eq]; exact h6, h7⟩
  · have := zall_ok h2 _ (mem i o ho)
    have h4 := zall_ok this _ (mem j o' ho')
    simp only [zslot2, hd] at h4
    have h5 : (zhas (o.looksAt ops) t || zis o.dst t) = true := by
      rcases ht with ht | ht
      · rw [zhas_ok ht]; rfl
      · rw [ht]; simp [zis]
    rw [h5, cond_true, Bool.and_eq_true, blt_iff, blt_iff, zbit_eq, zbit_eq] at h4
    exact ⟨fun h => by simpa [h] using h4.1, fun h => by simpa [h] using h4.2⟩
  · have := zall_ok h3 _ (mem i o ho)
    have h4 := zall_ok this t ht
    rw [blt_iff] at h4
    simpa using h4
end Go.Abs
namespace Go.Abs
section
variable {P : Program} {G : Nat → Option (List AVal)} {st : St}
/-- A map is about to be gone through. -/
theorem AO.rangeMap {o : Oper} {t kt et : TypeId} {x : Operand} {K : TVal → St → Prop} {Kx : AVal → St → Prop} {b : Nat} {l : List (AVal × AVal)} {bs : List Nat} {c : Nat} (ho : o.op = .range t x) (hd : P.underlying t = some (.map kt et)) (hx : st.ev x = .v (.map b))
    (hb : st.heap.get b = some (.mp l bs c)) (hK : K (.lp st.loc.length 0) { st with loc := st.loc ++ [.mit b c [] c] }) : AO P G o K Kx st := by
  refine AO.valueW hK fun σ lam w a hr => ?_
  have hv := ev_rel hr x
  rw [hx] at hv
  have hX : a.eval x = .map (some (σ b).g) ∧ b < st.heap.next := by
    have hv' : VR σ st.heap.next (.map b) (a.eval x) := hv
    generalize a.eval x = X at hv'
    cases hv'; exact ⟨rfl, by assumption⟩
  obtain ⟨es, h1, h2⟩ := hr.heap.blk b _ hb
  have hlt : (σ b).g < w.heap.size := (Array.getElem?_eq_some_iff.1 h1).1
  obtain ⟨lam', h3⟩ : ∃ lam', OR G σ lam st w a (.lp st.loc.length 0) { st with loc := st.loc ++ [.mit b c [] c] } (.pointer (some ⟨w.heap.size, 0, none⟩)) (w.alloc (.mapIter (some (σ b).g) c #[] c)) σ lam' :=
    ⟨_, OR.newLoc hr (.mit b c [] c) (.mapIter (some (σ b).g) c #[] c) ⟨hX.2, heap_alloc_at _ _⟩ rfl⟩
  refine ⟨_, _, σ, lam', ?_, h3⟩
  have hrun : (Instr.range t (a.eval x)).run P w = .ok (.pointer (some ⟨w.heap.size, 0, none⟩)) (w.alloc (.mapIter (some (σ b).g) c #[] c)) := by
    rw [hX.1]
    simp [Instr.range, run_underlying hd, MapKept.run_getObj_map h1, newObj]
    rfl
  simp only [execOp, ho, Sem.run_bind, hrun, Result.andThen_ok, Sem.run_pure]
theorem setBlock_eq (w : World) (g : Nat) (o : Obj) : Go.ChangeMaps.setBlock w g o = setBlk w g o := by
  simp only [Go.ChangeMaps.setBlock, setBlk]
/-- The next entry: any that is left. -/
theorem AO.nextMap {o : Oper} {x : Operand} {K : TVal → St → Prop} {Kx : AVal → St → Prop} {i b since c0 : Nat} {seen : List Nat} {l : List (AVal × AVal)} {bs : List Nat} {c : Nat} (ho : o.op = .next x false) (hx : st.ev x = .lp i 0) (hl : st.loc[i]? = some (.mit b since seen c0))
    (hb : st.heap.get b = some (.mp l bs c)) (hold : ∀ x ∈ bs, x < since) (hsc : since ≤ c0)
    (h0 : (∀ x ∈ bs, x ∈ seen) → K (.v (.tup [.bool false])) st)
    (h1 : ∀ (j : Nat) (k v : AVal) (n : Nat), l[j]? = some (k, v) → bs[j]? = some n → n ∉ seen → K (.v (.tup [.bool true, k, v])) { st with loc := st.loc.set i (.mit b since (seen ++ [n]) c) }) : AO P G o K Kx st := fun σ lam w a hr next Q hn hxx => by
  have hv := ev_rel hr x
  rw [hx] at hv
  have hX : a.eval x = .pointer (some ⟨lam i, 0, none⟩) := hv
  obtain ⟨hbn, hw⟩ := hr.loc.blk i _ hl
  have hlt := hr.loc.lt i _ hl rfl
  obtain ⟨es, g1, g2, g3, g4⟩ := mp_ents (hr.heap.blk b _ hb)
  have hborn : ∀ e ∈ es.toList, e.born ∈ bs := fun e he => by rw [← g3]; exact List.mem_map_of_mem he
  unfold Oper.wp
  simp only [execOp, ho, Sem.run_bind, hX]
  rcases run_next_at (P := P) w o.type (lam i) (σ b).g since c0 seen.toArray es c hw g1 (fun e he => hold _ (hborn e he)) hsc with ⟨e1, e2⟩ | ⟨e, he, w1, hw1, hrun⟩
  · rw [e2]
    simp only [Result.andThen_ok, Sem.run_pure]
    refine hn _ st _ w σ lam (h0 fun y hy => ?_) ⟨.refl .normal hr, ?_, fun k o he => by cases he⟩
    · rw [← g3] at hy
      obtain ⟨e, he, rfl⟩ := List.mem_map.1 hy
      have h3 : leftOf es seen.toArray = #[] := Array.eq_empty_of_size_eq_zero e1
      unfold leftOf at h3
      rw [Array.filter_eq_empty_iff] at h3
      have := h3 e (by simpa using he)
      simpa using this
    · refine .tup _ _ rfl fun j u U hu hU => ?_
      rcases j with _ | j
      · simp at hu hU; subst hu; subst hU; exact .bool _
      · simp at hu
  · rw [hrun, setBlock_eq]
    simp only [Result.andThen_ok, Sem.run_pure]
    have hem : e ∈ es.toList ∧ e.born ∉ seen := by
      unfold leftOf at he
      simpa using he
    obtain ⟨j, hj, hje⟩ := List.mem_iff_getElem.1 hem.1
    have hej : es.toList[j]? = some e := by rw [List.getElem?_eq_getElem hj, hje]
    have hjl : j < l.length := by rw [← g2.1]; exact hj
    have hlj : l[j]? = some (l[j].1, l[j].2) := by simp [hjl]
    have hbj : bs[j]? = some e.born := by rw [← g3, List.getElem?_map, hej]; rfl
    have hent := g2.2 j _ _ hlj hej
    have q : AQ1 G σ lam st w .normal { st with loc := st.loc.set i (.mit b since (seen ++ [e.born]) c) } .normal a (setBlk w1 (lam i) (.mapIter (some (σ b).g) since (seen.toArray.push e.born) c)) σ lam := by
      have q0 : AQ1 G σ lam st w .normal st .normal a w1 σ lam := by
        rcases hw1 with rfl | rfl
        · exact .refl .normal hr
        · exact AQ1.drew hr
      have hlt1 : lam i < w1.heap.size := Nat.lt_of_lt_of_le hlt q0.evo.size
      exact q0.trans (AQ1.setLoc q0.rel hl rfl _ ⟨hbn, by rw [setBlk_at _ _ _ hlt1]; simp⟩ rfl)
    refine hn _ _ _ _ σ lam (h1 j _ _ _ hlj hbj hem.2) ⟨q, ?_, fun k o he => by cases he⟩
    refine .tup _ _ rfl fun m u U hu hU => ?_
    rcases m with _ | _ | _ | m
    · cases hu; cases hU; exact .bool _
    · cases hu; cases hU; exact hent.1
    · cases hu; cases hU; exact hent.2
    · cases hu
theorem AVK.entry {o : Oper} {x : Operand} {K : TVal → St → Prop} {i b since : Nat} {seen : List Nat} {l : List (AVal × AVal)} {bs : List Nat} {c j n : Nat} {k v : AVal} (ho : o.op = .entry x) (hx : st.ev x = .lp i 0) (hl : st.loc[i]? = some (.mit b since (seen ++ [n]) c))
    (hb : st.heap.get b = some (.mp l bs c)) (hj : l[j]? = some (k, v)) (hbj : bs[j]? = some n) (hK : K (.v (.tup [k, v])) st) : AVK P G o K st :=
  AVK.value hK fun σ lam w a hr => by
    have hv := ev_rel hr x
    rw [hx] at hv
    have hX : a.eval x = .pointer (some ⟨lam i, 0, none⟩) := hv
    obtain ⟨hbn, hw⟩ := hr.loc.blk i _ hl
    obtain ⟨es, g1, g2, g3, g4, g5⟩ := mp_ents (hr.heap.blk b _ hb)
    have hjs : j < es.toList.length := by rw [g2.1]; exact (List.getElem?_eq_some_iff.1 hj).1
    have hej : es.toList[j]? = some es.toList[j] := by simp [hjs]
    have hbe : es.toList[j].born = n := by
      rw [← g3, List.getElem?_map, hej] at hbj
      simpa using hbj
    have hrun := run_entry_at (P := P) w (lam i) (σ b).g since seen.toArray es c es.toList[j] (by rw [hbe]; simpa using hw) g1 (List.getElem_mem _) (by rw [g3]; exact g5)
    refine ⟨.tuple #[es.toList[j].key, es.toList[j].val], ?_, ?_, fun k o he => by cases he⟩
    · simp only [execOp, ho, Sem.run_bind, hX, hrun, Result.andThen_ok, Sem.run_pure]
    · have hent := g2.2 j _ _ hj hej
      exact pair_rel hent.1 hent.2
/-- Which key is in none of the entries. -/
def afresh (P : Program) (kt : TypeId) (k : AVal) (l : List (AVal × AVal)) : Prop := ∀ p ∈ l, aeqS P 10000 kt k p.1 = some false
theorem afind_fresh {kt : TypeId} {k : AVal} : ∀ (l : List (AVal × AVal)) (i : Nat), afresh P kt k l → afind P kt k l i = some none
  | [], i, h => rfl
  | (k', u) :: r, i, h => by
    have h1 := h (k', u) (by simp)
    simp only [afind, h1]
    exact afind_fresh r (i + 1) fun p hp => h p (by simp [hp])
theorem InsO.insert {o : Oper} {t kt et : TypeId} {mx kx vx : Operand} {d : Tmp} {k v : AVal} {l : List (AVal × AVal)} (ho : o.op = .mapUpdate t mx kx vx ∨ o.op = .insert t mx kx vx) (hd : P.underlying t = some (.map kt et)) (hmx : mx = .tmp d) (hdl : d < st.env.length)
    (hkx : st.ev kx = .v k) (hvx : st.ev vx = .v v) (hck : acheck P 10000 kt k = true) (hf : afresh P kt k l) {l2 : List (AVal × AVal)} (hp2 : l2.Perm (l ++ [(k, v)])) : InsO P G o (some d) .map (.ms l) (.ms l2) st := fun σ lam w a hr p hdp hbl => by
  subst hmx
  obtain ⟨l', bs, c, hp, hm⟩ := hbl
  obtain ⟨es, h1, he, hbs, h4, h5⟩ := mp_ents hm
  have hk := ev_rel hr kx
  have hv := ev_rel hr vx
  rw [hkx] at hk
  rw [hvx] at hv
  have hk' : VR σ st.heap.next k (a.eval kx) := hk
  have hv' : VR σ st.heap.next v (a.eval vx) := hv
  have hsz : d < a.tmps.size := by rw [hr.env.1]; exact hdl
  have hM : a.eval (.tmp d) = .map (some p.g) := by
    have h6 : a.tmps[d]? = some a.tmps[d] := by simp [hsz]
    have h7 : a.tmps[d] = .map (some p.g) := hdp d rfl _ h6
    show a.tmps.getD d _ = _
    simp [Array.getD, hsz, h7]
  have hex : (execOp a.eval o).run P w = (do Instr.mapUpdate t (a.eval (.tmp d)) (a.eval kx) (a.eval vx); pure Next.skip : Sem Next).run P w := by
    rcases ho with ho | ho <;> simp only [execOp, ho]
  have hck' := acheck_ok (P := P) (σ := σ) (N := st.heap.next) false w 10000 kt k (a.eval kx) hck hk'
  have hff := afind_fresh (P := P) l' 0 (fun q hq => hf q (hp.mem_iff.1 hq))
  have hlt : p.g < w.heap.size := (Array.getElem?_eq_some_iff.1 h1).1
  cases hkd : P.underlying kt with
  | none => simp [acheck, hkd] at hck
  | some kd =>
    have hfk := run_findKey' (P := P) hkd hk' w he hff
    refine ⟨.map (es.push { key := a.eval kx, val := a.eval vx, born := c }) (c + 1), ?_, ?_⟩
    · rw [hex, hM]
      simp only [Instr.mapUpdate, Sem.run_bind, run_underlying hd, Result.andThen_ok, MapKept.run_getObj_map h1, hck', hfk, found, MapKept.run_setObj_map _ h1, Sem.run_pure]
      rfl
    · exact ⟨l' ++ [(k, v)], bs ++ [c], c + 1, (hp.append_right _).trans hp2.symm, mp_push (w := w) he hbs h4 h5 hk' hv' (setBlk_at _ _ _ hlt)⟩
end
end Go.Abs
namespace Go.Abs
/-! ### Drawing regions, run in their lexical order; what every order asks is checked. -/
inductive EK where
  | skip
  | val
  | eff
  | pan
  | new (nv : NV) (blk : ABlk)
  | ins (m : Nat) (kt : TypeId) (k v : AVal)
structure ZEnt where
  t : TVal
  k : EK
  s : XSt
  a : XSt
def EK.isEff : EK → Bool
  | .eff => true
  | .pan => true
  | _ => false
def EK.nv : EK → Option NV
  | .new nv _ => some nv
  | _ => none
def EK.im : EK → Option Nat
  | .ins m _ _ _ => some m
  | _ => none
def EK.blk : EK → ABlk
  | .new _ b => b
  | _ => .mp [] [] 0
noncomputable def zmaskT (env : Tr TVal) : List Nat → Tr TVal → Tr TVal
  | [], acc => acc
  | t :: r, acc => zmaskT env r (match env.get t with
    | some v => acc.set 24 t (some v)
    | none => acc)
theorem zmaskT_get (env : Tr TVal) (i : Nat) : ∀ (l : List Nat) (acc : Tr TVal), (∀ t ∈ l, t < 16777214) → (zmaskT env l acc).get i = if l.contains i = true ∧ env.get i ≠ none then env.get i else acc.get i
  | [], acc, _ => by simp [zmaskT]
  | t :: r, acc, h => by
    simp only [zmaskT]
    rw [zmaskT_get env i r _ fun t ht => h t (by simp [ht])]
    have ht := h t (by simp)
    by_cases hi : i = t
    · subst hi
      cases he : env.get i with
      | none => simp [he]
      | some v =>
        simp only [he]
        rw [Tr.get_set _ _ _ _ (by omega)]
        simp
    · have h1 : (t :: r).contains i = r.contains i := by simp [hi]
      rw [h1]
      congr 1
      split
      · rw [Tr.get_set _ _ _ _ (by omega), if_neg hi]
      · rfl
noncomputable def zmsk (looks : List Nat) (s : XSt) : XSt := XSt.casesOn (motive := fun _ => XSt) s fun n env lc loc next heap => .mk n (zmaskT env looks .nil) lc loc next heap
noncomputable def zback (s m : XSt) : XSt := XSt.casesOn (motive := fun _ => XSt) s fun n env _ _ _ _ => XSt.casesOn (motive := fun _ => XSt) m fun _ _ lc loc next heap => .mk n env lc loc next heap
noncomputable def mm (s : XSt) : Loc × AHeap := (s.st.loc, s.st.heap)
theorem zmsk_st {looks : List Nat} {s : XSt} (h : ∀ t ∈ looks, t < 16777214) : (zmsk looks s).st = ⟨mask looks s.st.env, s.st.loc, s.st.heap⟩ := by
  obtain ⟨n, env, lc, loc, next, heap⟩ := s
  show St.mk (tl n (zmaskT env looks .nil) (.v .undef)) _ _ = St.mk (mask looks (tl n env (.v .undef))) _ _
  congr 1
  apply List.ext_getElem?
  intro i
  rw [tl_get, mask_get, tl_get, zmaskT_get env i looks _ h, Tr.get_nil]
  by_cases hi : i < n
  · rw [if_pos hi, if_pos hi]
    simp only [Option.map_some]
    by_cases hc : looks.contains i = true
    · simp only [hc, true_and, if_true]
      cases env.get i <;> simp
    · simp only [hc]
      simp
  · rw [if_neg hi, if_neg hi]; rfl
theorem zback_st (s m : XSt) : (zback s m).st = ⟨s.st.env, m.st.loc, m.st.heap⟩ := rfl
inductive ZW where
  | done (tr : List ZEnt) (s : XSt)
  | exn (tr : List ZEnt) (v : AVal) (m : XSt)
  | bad (n : Nat)
abbrev ZWK := XCaller → XSt → ZW
noncomputable def zw1 (e : ZEnt) (w : ZW) : ZW := match w with
  | .done tr s => .done (e :: tr) s
  | .exn tr v m => .exn (e :: tr) v m
  | .bad n => .bad n
noncomputable def zwput (o : Option XSt) (e : ZEnt) (bad : Nat) (k : ZWK) (c : XCaller) : ZW := match o with
  | some s => zw1 e (k c s)
  | none => .bad bad
noncomputable def zwq1 (r : Option TVal) (d : Option Tmp) (bad : Nat) (k : ZWK) (c : XCaller) (s : XSt) : ZW := match r with
  | some t => zwput (zput d t s) ⟨t, .val, s, s⟩ bad k c
  | none => .bad bad
noncomputable def zwx1 (r : XO) (d : Option Tmp) (bad : Nat) (k : ZWK) (c : XCaller) (s : XSt) : ZW := match r with
  | .val t m => zwput (zput d t (zback s m)) ⟨t, .eff, s, m⟩ bad k c
  | .exn v m => .exn [⟨.v .undef, .pan, s, m⟩] v m
  | .bad n => .bad (cond (Nat.beq n 0) bad n)
noncomputable def zwn1 (r : Option (NV × ABlk)) (d : Option Tmp) (bad : Nat) (k : ZWK) (c : XCaller) (s : XSt) : ZW := match r with
  | some (nv, blk) => zwput (zput d (.v .undef) s) ⟨.v .undef, .new nv blk, s, s⟩ bad k c
  | none => .bad bad
abbrev ZN := XE → XSt → Option (NV × ABlk)
/-- An entry put into such a map. -/
abbrev ZNI := XE → XSt → Option (TypeId × AVal × AVal)
noncomputable def zwi1 (m : Nat) (r : Option (TypeId × AVal × AVal)) (d : Option Tmp) (bad : Nat) (k : ZWK) (c : XCaller) (s : XSt) : ZW := match r with
  | some (kt, key, v) => zwput (zput d (.v .undef) s) ⟨.v .undef, .ins m kt key v, s, s⟩ bad k c
  | none => .bad bad
noncomputable def zkne (T : Tr TI) (kt : TypeId) (k k' : AVal) : Bool := match xds T kt, k, k' with
  | some (.int _), .int a x, .int b y => Nat.beq (kidx a) (kidx b) && not (zeq x y)
  | some .string, .str x, .str y => not (zbeq x y)
  | _, _, _ => false
noncomputable def zIns (t : TypeId) (d : Tmp) (kx vx : Operand) : ZNI := fun E s => match xds E.T t, s.ev kx, s.ev vx with
  | some (.map kt _), .v k, .v v => cond (Nat.blt d s.n && zkeyB E.T kt k) (some (kt, k, v)) none
  | _, _, _ => none
def isMk (op : Op) : Bool := match op with
  | .makeMap _ _ => true
  | _ => false
def isIns (op : Op) : Bool := match op with
  | .mapUpdate _ _ _ _ => true
  | .insert _ _ _ _ => true
  | _ => false
def zmk (d : Tmp) : List Oper → Nat → Option Nat
  | [], _ => none
  | o :: r, i => cond (zis o.dst d && isMk o.op) (some i) (zmk d r (Nat.add i 1))
theorem zmk_ok {d : Tmp} : ∀ (l : List Oper) (i : Nat) {j : Nat}, zmk d l i = some j → i ≤ j ∧ ∃ o, l[j - i]? = some o ∧ o.dst = some d
  | [], i, j, h => by cases h
  | o :: r, i, j, h => by
    simp only [zmk] at h
    cases hb : (zis o.dst d && isMk o.op) with
    | true =>
      rw [hb] at h
      cases h
      refine ⟨Nat.le_refl _, o, by simp, ?_⟩
      simp only [Bool.and_eq_true] at hb
      have := hb.1
      unfold zis at this
      split at this
      · rename_i d' hd
        rw [hd, Nat.eq_of_beq_eq_true this]
      · cases this
    | false =>
      rw [hb] at h
      obtain ⟨h1, o', h2, h3⟩ := zmk_ok r (i + 1) h
      refine ⟨by omega, o', ?_, h3⟩
      have e : j - i = (j - (i + 1)) + 1 := by omega
      rw [e]
      simpa using h2
noncomputable def zins1 (ops : Array Oper) (t : TypeId) (m k v : Operand) : Option (Nat × ZNI) := match m with
  | .tmp d => (match zmk d ops.toList 0 with
    | some i => some (i, zIns t d k v)
    | none => none)
  | _ => none
noncomputable def zins (ops : Array Oper) (op : Op) : Option (Nat × ZNI) := match op with
  | .mapUpdate t m k v => zins1 ops t m k v
  | .insert t m k v => zins1 ops t m k v
  | _ => none
def zhasIns : List Oper → Bool
  | [] => false
  | o :: r => cond (isIns o.op) true (zhasIns r)
noncomputable def zNewMap (hi : Bool) (t : TypeId) (r : Option Operand) : ZN := fun E s => match xds E.T t, r.map s.ev with
  | some (.map _ _), none => some (.map, cond hi (.ms []) (.mp [] [] 0))
  | some (.map _ _), some (.v (.int _ _)) => some (.map, cond hi (.ms []) (.mp [] [] 0))
  | _, _ => none
noncomputable def zNewSlice (t : TypeId) (l c : Operand) : ZN := fun E s => match xds E.T t, s.ev l, s.ev c with
  | some (.slice e), .v (.int _ (.ofNat n)), .v (.int _ (.ofNat m)) => (match xif E.T e with
    | some ie => (match ie.zero with
      | some z => cond (Nat.ble n m && (Nat.ble m 9223372036854775807 && Nat.ble (Nat.mul ie.bytes m) 281474976710656)) (some (.sl n, .cells ie.size (zeroRow z (Nat.mul n ie.size)) true)) none
      | none => none)
    | none => none)
  | _, _, _ => none
noncomputable def znew (hi : Bool) (op : Op) : Option ZN := match op with
  | .makeMap t r => some (zNewMap hi t r)
  | .makeSlice t l c => some (zNewSlice t l c)
  | _ => none
noncomputable def zwi (E : XE) (inf : Option (Nat × ZNI)) (f : ZX) (ty : TypeId) (looks : List Nat) (d : Option Tmp) (bad : Nat) (k : ZWK) : ZWK := match inf with
  | some (m, g) => fun c s => zwi1 m (g E (zmsk looks s)) d bad k c s
  | none => fun c s => zwx1 (f E c ty (zmsk looks s)) d bad k c s
noncomputable def zwx (E : XE) (nf : Option ZN) (inf : Option (Nat × ZNI)) (f : ZX) (ty : TypeId) (looks : List Nat) (d : Option Tmp) (bad : Nat) (k : ZWK) : ZWK := match nf with
  | some nf => fun c s => zwn1 (nf E (zmsk looks s)) d bad k c s
  | none => zwi E inf f ty looks d bad k
noncomputable def zwop (E : XE) (i : ZI) (nf : Option ZN) (inf : Option (Nat × ZNI)) (ty : TypeId) (looks : List Nat) (d : Option Tmp) (bad : Nat) (k : ZWK) : ZWK := match i with
  | .q f => fun c s => zwq1 (f E (zmsk looks s)) d bad k c s
  | .x f => zwx E nf inf f ty looks d bad k
noncomputable def zwskip (d : Option Tmp) (bad : Nat) (k : ZWK) : ZWK := fun c s => zwput (zput d (.v (.tup [])) s) ⟨.v (.tup []), .skip, s, s⟩ bad k c
noncomputable def zwgd2 (b : TVal) (want : Bool) (run skip : ZWK) (bad : Nat) (c : XCaller) (s : XSt) : ZW := match b with
  | .v (.bool b) => cond b (cond want (run c s) (skip c s)) (cond want (skip c s) (run c s))
  | .v (.tup []) => skip c s
  | _ => .bad bad
noncomputable def zwgd1 (g : Option Tmp) (want : Bool) (run skip : ZWK) (bad : Nat) : ZWK := match g with
  | none => fun _ _ => .bad bad
  | some d => fun c s => zwgd2 (s.ev (.tmp d)) want run skip bad c s
noncomputable def zwguard (ops : Array Oper) (g : Option (Nat × Bool)) (run skip : ZWK) (bad : Nat) : ZWK := match g with
  | none => run
  | some (j, want) => zwgd1 ((ops[j]?).bind (·.dst)) want run skip bad
noncomputable def zwstep (E : XE) (ops : Array Oper) (useN : Bool) (bad : Nat) (o : Oper) (k : ZWK) : ZWK :=
  zwguard ops o.guard (zwop E (zdec E.T o.op) (cond useN (znew (zhasIns ops.toList) o.op) none) (cond useN (zins ops o.op) none) o.type (o.looksAt ops) o.dst bad k) (zwskip o.dst bad k) bad
noncomputable def zwalk (E : XE) (ops : Array Oper) (useN : Bool) (id : Nat) (l : List Oper) : ZWK :=
  List.rec (motive := fun _ => ZWK) (fun _ s => .done [] s) (fun o r ih => zwstep E ops useN (Nat.add (Nat.mul id 1000) r.length) o ih) l
/-! What a walk shows. -/
inductive Stp (E : XE) (ops : Array Oper) : Oper → ZEnt → XSt → Prop where
  | skip (o : Oper) (s s' : XSt) (hg : guardIs ops s.st o false) (hp : s.put o.dst (.v (.tup [])) = some s') : Stp E ops o ⟨.v (.tup []), .skip, s, s⟩ s'
  | val (o : Oper) (s s' : XSt) (t : TVal) (f : ZQ) (hg : guardIs ops s.st o true) (hf : zdec E.T o.op = .q f) (h : f E (zmsk (o.looksAt ops) s) = some t) (hp : s.put o.dst t = some s') : Stp E ops o ⟨t, .val, s, s⟩ s'
  | eff (o : Oper) (s s' : XSt) (t : TVal) (m : XSt) (hg : guardIs ops s.st o true) (h : XOk E.P E.G o (zmsk (o.looksAt ops) s) (.val t m)) (hp : (zback s m).put o.dst t = some s') : Stp E ops o ⟨t, .eff, s, m⟩ s'
  | new (o : Oper) (s s' : XSt) (nv : NV) (blk : ABlk) (hg : guardIs ops s.st o true) (h : ∀ m, NO E.P E.G o nv blk (zback (zmsk (o.looksAt ops) s) m).st) (hms : ∀ l, blk = .ms l → ABlk.ms [] = .ms l) (hp : s.put o.dst (.v .undef) = some s') : Stp E ops o ⟨.v .undef, .new nv blk, s, s⟩ s'
  | ins (o : Oper) (s s' : XSt) (m : Nat) (t kt et : TypeId) (d : Tmp) (kx vx : Operand) (k v : AVal) (hg : guardIs ops s.st o true) (ho : o.op = .mapUpdate t (.tmp d) kx vx ∨ o.op = .insert t (.tmp d) kx vx) (hd : E.P.underlying t = some (.map kt et)) (hm : dstOf ops m = some d) (hdl : d < s.n)
      (hkb : zkeyB E.T kt k = true) (hk : (zmsk (o.looksAt ops) s).ev kx = .v k) (hv : (zmsk (o.looksAt ops) s).ev vx = .v v) (hp : s.put o.dst (.v .undef) = some s') : Stp E ops o ⟨.v .undef, .ins m kt k v, s, s⟩ s'
inductive Trc (E : XE) (ops : Array Oper) : List Oper → XSt → ZW → Prop where
  | nil (s : XSt) : Trc E ops [] s (.done [] s)
  | cons (o : Oper) (r : List Oper) (s s' : XSt) (e : ZEnt) (w : ZW) (hs : e.s = s) (h : Stp E ops o e s') (ht : Trc E ops r s' w) : Trc E ops (o :: r) s (zw1 e w)
  | exn (o : Oper) (r : List Oper) (s m : XSt) (v : AVal) (hg : guardIs ops s.st o true) (h : XOk E.P E.G o (zmsk (o.looksAt ops) s) (.exn v m)) : Trc E ops (o :: r) s (.exn [⟨.v .undef, .pan, s, m⟩] v m)
  | bad (l : List Oper) (s : XSt) (n : Nat) : Trc E ops l s (.bad n)
section
variable {E : XE}
theorem NO.weak {P : Program} {G : Nat → Option (List AVal)} {st : St} {o : Oper} {nv : NV} {hi : Bool} (h : NO P G o nv (.mp [] [] 0) st) : NO P G o nv (cond hi (.ms []) (.mp [] [] 0)) st := by
  cases hi with
  | false => exact h
  | true =>
    intro σ lam w a hr
    obtain ⟨obj, V, cap, h1, h2, h3⟩ := h σ lam w a hr
    exact ⟨obj, V, cap, h1, h2, [], [], 0, .refl _, h3⟩
theorem zins_ok (hE : EOk E) {ops : Array Oper} {o : Oper} {m : Nat} {g : ZNI} {s s0 : XSt} {kt : TypeId} {k v : AVal} (hn : s.n = s0.n) (h : zins ops o.op = some (m, g)) (hg : g E s = some (kt, k, v)) :
    ∃ t et d kx vx, (o.op = .mapUpdate t (.tmp d) kx vx ∨ o.op = .insert t (.tmp d) kx vx) ∧ E.P.underlying t = some (.map kt et) ∧ dstOf ops m = some d ∧ d < s0.n ∧ zkeyB E.T kt k = true ∧ s.ev kx = .v k ∧ s.ev vx = .v v := by
  have main : ∀ t mx kx vx, zins1 ops t mx kx vx = some (m, g) → ∃ et d, mx = .tmp d ∧ E.P.underlying t = some (.map kt et) ∧ dstOf ops m = some d ∧ d < s0.n ∧ zkeyB E.T kt k = true ∧ s.ev kx = .v k ∧ s.ev vx = .v v := fun t mx kx vx h => by
    unfold zins1 at h
    split at h
    · rename_i d
      split at h
      · rename_i i hi
        cases h
        obtain ⟨_, o', h1, h2⟩ := zmk_ok _ _ hi
        unfold zIns at hg
        split at hg
        · rename_i kt' et k' v' hd hk hv
          cases hb : (Nat.blt d s.n && zkeyB E.T kt' k') with
          | false => rw [hb] at hg; cases hg
          | true =>
            rw [hb] at hg
            cases hg
            simp only [Bool.and_eq_true, blt_iff, decide_eq_true_eq] at hb
            refine ⟨et, d, rfl, xds_ok hE.T hd, ?_, by rw [← hn]; exact hb.1, hb.2, hk, hv⟩
            have h1' : ops[m]? = some o' := by rw [← Array.getElem?_toList]; simpa using h1
            simp [dstOf, h1', h2]
        · cases hg
      · cases h
    · cases h
  unfold zins at h
  split at h
  · rename_i t mx kx vx ho
    obtain ⟨et, d, rfl, h1⟩ := main _ _ _ _ h
    exact ⟨t, et, d, kx, vx, .inl ho, h1⟩
  · rename_i t mx kx vx ho
    obtain ⟨et, d, rfl, h1⟩ := main _ _ _ _ h
    exact ⟨t, et, d, kx, vx, .inr ho, h1⟩
  · cases h
theorem znew_ok (hE : EOk E) {hi : Bool} {o : Oper} {nf : ZN} {s : XSt} {nv : NV} {blk : ABlk} (h : znew hi o.op = some nf) (hf : nf E s = some (nv, blk)) (m : XSt) : NO E.P E.G o nv blk (zback s m).st := by
  have hev : ∀ x, (zback s m).st.ev x = s.ev x := fun x => by rw [XSt.ev_eq]; cases x <;> rfl
  unfold znew at h
  split at h
  · rename_i t r ho
    cases h
    unfold zNewMap at hf
    split at hf
    · rename_i kt et hd hr
      cases hf
      have hr' : r = none := by cases r <;> simp_all
      exact NO.weak (NO.makeMap ho (xds_ok hE.T hd) (fun x hx => by rw [hr'] at hx; cases hx))
    · rename_i kt et k n hd hr
      cases hf
      refine NO.weak (NO.makeMap ho (xds_ok hE.T hd) (fun x hx => ⟨k, n, ?_⟩))
      subst hx
      rw [hev]
      simpa using hr
    · cases hf
  · rename_i t l c ho
    cases h
    unfold zNewSlice at hf
    split at hf
    · rename_i e k n k' m' hd hl hc
      split at hf
      · rename_i ie hie
        split at hf
        · rename_i z hz
          cases hb : (Nat.ble n m' && (Nat.ble m' 9223372036854775807 && Nat.ble (Nat.mul ie.bytes m') 281474976710656)) with
          | false => rw [hb] at hf; cases hf
          | true =>
            rw [hb, cond_true] at hf
            simp only [Bool.and_eq_true] at hb
            cases hf
            exact NO.makeSlice ho (xds_ok hE.T hd) (xif_ok hE.T hie) hz (by rw [hev]; exact hl) (by rw [hev]; exact hc) (Nat.le_of_ble_eq_true hb.1) (Nat.le_of_ble_eq_true hb.2.1) (Nat.le_of_ble_eq_true hb.2.2)
        · cases hf
      · cases hf
    · cases hf
  · cases h
theorem znew_ms {hi : Bool} {op : Op} {nf : ZN} {s : XSt} {nv : NV} {blk : ABlk} (h : znew hi op = some nf) (hf : nf E s = some (nv, blk)) : ∀ l, blk = .ms l → ABlk.ms [] = .ms l := fun l hl => by
  subst hl
  unfold znew at h
  split at h
  · cases h
    unfold zNewMap at hf
    split at hf
    · cases hi <;> cases hf <;> rfl
    · cases hi <;> cases hf <;> rfl
    · cases hf
  · cases h
    unfold zNewSlice at hf
    split at hf
    · rename_i e k n k' m' hd hl hc
      split at hf
      · rename_i ie hie
        split at hf
        · rename_i z hz
          cases hb : (Nat.ble n m' && (Nat.ble m' 9223372036854775807 && Nat.ble (Nat.mul ie.bytes m') 281474976710656)) <;> rw [hb] at hf <;> cases hf
        · cases hf
      · cases hf
    · cases hf
  · cases h
theorem zwalk_ok (hE : EOk E) {c : XCaller} (hc : CallOk E.P E.G c) {ops : Array Oper} {useN : Bool} {id : Nat} : ∀ (l : List Oper) (s : XSt), Trc E ops l s (zwalk E ops useN id l c s)
  | [], s => .nil s
  | o :: r, s => by
    let bad := Nat.add (Nat.mul id 1000) r.length
    have run : guardIs ops s.st o true → Trc E ops (o :: r) s (zwop E (zdec E.T o.op) (cond useN (znew (zhasIns ops.toList) o.op) none) (cond useN (zins ops o.op) none) o.type (o.looksAt ops) o.dst bad (zwalk E ops useN id r) c s) := fun hg => by
      cases hi : zdec E.T o.op with
      | q f =>
        simp only [zwop, zwq1]
        cases ht : f E (zmsk (o.looksAt ops) s) with
        | none => exact .bad _ _ _
        | some t =>
          simp only [zwput, zput_eq]
          cases hp : s.put o.dst t with
          | none => exact .bad _ _ _
          | some s' => exact .cons o r s s' _ _ rfl (.val o s s' t f hg hi ht hp) (zwalk_ok hE hc r s')
      | x f =>
        simp only [zwop, zwx]
        cases hn : cond useN (znew (zhasIns ops.toList) o.op) none with
        | some nf =>
          simp only [zwn1]
          cases ht : nf E (zmsk (o.looksAt ops) s) with
          | none => exact .bad _ _ _
          | some nb =>
            obtain ⟨nv, blk⟩ := nb
            have hn' : znew (zhasIns ops.toList) o.op = some nf := by cases useN <;> first | exact hn | cases hn
            simp only [zwput, zput_eq]
            cases hp : s.put o.dst (.v .undef) with
            | none => exact .bad _ _ _
            | some s' => exact .cons o r s s' _ _ rfl (.new o s s' nv blk hg (znew_ok hE hn' ht) (znew_ms hn' ht) hp) (zwalk_ok hE hc r s')
        | none =>
         simp only [zwi]
         cases hin : cond useN (zins ops o.op) none with
         | some mg =>
          obtain ⟨m, g⟩ := mg
          have hn' : zins ops o.op = some (m, g) := by cases useN <;> first | exact hin | cases hin
          simp only [zwi1]
          cases ht : g E (zmsk (o.looksAt ops) s) with
          | none => exact .bad _ _ _
          | some q =>
            obtain ⟨kt, k, v⟩ := q
            obtain ⟨t, et, d, kx, vx, h1, h2, h3, h4, h5, h6, h7⟩ := zins_ok (s := zmsk (o.looksAt ops) s) (s0 := s) hE rfl hn' ht
            simp only [zwput, zput_eq]
            cases hp : s.put o.dst (.v .undef) with
            | none => exact .bad _ _ _
            | some s' => exact .cons o r s s' _ _ rfl (.ins o s s' m t kt et d kx vx k v hg h1 h2 h3 h4 h5 h6 h7 hp) (zwalk_ok hE hc r s')
         | none =>
          have hx := zx_ok (s := zmsk (o.looksAt ops) s) hE hc hi
          simp only [zwx1]
          cases hr : f E c o.type (zmsk (o.looksAt ops) s) with
          | bad n => exact .bad _ _ _
          | exn v m => rw [hr] at hx; exact .exn o r s m v hg hx
          | val t m =>
            rw [hr] at hx
            simp only [zwput, zput_eq]
            cases hp : (zback s m).put o.dst t with
            | none => exact .bad _ _ _
            | some s' => exact .cons o r s s' _ _ rfl (.eff o s s' t m hg hx hp) (zwalk_ok hE hc r s')
    have skip : guardIs ops s.st o false → Trc E ops (o :: r) s (zwskip o.dst bad (zwalk E ops useN id r) c s) := fun hg => by
      simp only [zwskip, zwput, zput_eq]
      cases hp : s.put o.dst (.v (.tup [])) with
      | none => exact .bad _ _ _
      | some s' => exact .cons o r s s' _ _ rfl (.skip o s s' hg hp) (zwalk_ok hE hc r s')
    show Trc E ops (o :: r) s (zwguard ops o.guard (zwop E (zdec E.T o.op) (cond useN (znew (zhasIns ops.toList) o.op) none) (cond useN (zins ops o.op) none) o.type (o.looksAt ops) o.dst bad (zwalk E ops useN id r)) (zwskip o.dst bad (zwalk E ops useN id r)) bad c s)
    cases hg : o.guard with
    | none => exact run (by simp [guardIs, hg])
    | some jw =>
      obtain ⟨j, want⟩ := jw
      simp only [zwguard]
      cases hd : (ops[j]?).bind (·.dst) with
      | none => exact .bad _ _ _
      | some d =>
        have hy : ayielded ops s.st j = some (s.ev (.tmp d)) := by simp [ayielded, hd, s.ev_eq]
        simp only [zwgd1]
        unfold zwgd2
        split
        · rename_i b hb
          rw [hb] at hy
          have hgi : ∀ b', b' = (b == want) → guardIs ops s.st o b' := fun b' e => by
            simp only [guardIs, hg]
            exact .inl ⟨b, hy, e⟩
          cases b <;> cases want <;> simp only [cond_true, cond_false]
          · exact run (hgi _ rfl)
          · exact skip (hgi _ rfl)
          · exact skip (hgi _ rfl)
          · exact run (hgi _ rfl)
        · rename_i hb
          rw [hb] at hy
          exact skip (by simp only [guardIs, hg]; exact .inr ⟨hy, by trivial⟩)
        · exact .bad _ _ _
end
end Go.Abs
namespace Go.Abs
noncomputable def memAt : List ZEnt → XSt → Nat → XSt
  | [], cur, _ => cur
  | e :: tr, cur, k => cond e.k.isEff (match k with
    | 0 => cur
    | k + 1 => memAt tr e.a k) (memAt tr cur k)
theorem memAt_congr : ∀ (tr : List ZEnt) {x y : XSt} (k : Nat), mm x = mm y → mm (memAt tr x k) = mm (memAt tr y k)
  | [], x, y, k, h => h
  | e :: tr, x, y, k, h => by
    simp only [memAt]
    cases e.k.isEff with
    | true =>
      simp only [cond_true]
      cases k with
      | zero => exact h
      | succ k => rfl
    | false => exact memAt_congr tr k h
theorem memAt_zero : ∀ (tr : List ZEnt) (x : XSt), memAt tr x 0 = x
  | [], x => rfl
  | e :: tr, x => by
    simp only [memAt]
    cases e.k.isEff with
    | true => rfl
    | false => exact memAt_zero tr x
def entE (tr : List ZEnt) (j : Nat) : Bool := match tr[j]? with
  | some e => e.k.isEff
  | none => false
def insOf : List ZEnt → Nat → (Nat → Bool) → Nat → List (AVal × AVal)
  | [], _, _, _ => []
  | e :: r, m, S, i => match e.k with
    | .ins m' _ k v => cond (Nat.beq m' m && S i) ((k, v) :: insOf r m S (Nat.add i 1)) (insOf r m S (Nat.add i 1))
    | _ => insOf r m S (Nat.add i 1)
def zcont (blk : ABlk) (tr : List ZEnt) (m : Nat) (S : Nat → Bool) : ABlk := match blk with
  | .ms _ => .ms (insOf tr m S 0)
  | b => b
theorem insOf_congr (m : Nat) {S S' : Nat → Bool} : ∀ (tr : List ZEnt) (i : Nat), (∀ j e, tr[j]? = some e → e.k.im = some m → S (i + j) = S' (i + j)) → insOf tr m S i = insOf tr m S' i
  | [], i, h => rfl
  | e :: r, i, h => by
    have ih := insOf_congr m (S := S) (S' := S') r (i + 1) fun j e' hj hm => by
      have := h (j + 1) e' (by simpa using hj) hm
      have e1 : i + (j + 1) = i + 1 + j := by omega
      rwa [e1] at this
    simp only [insOf]
    split
    · rename_i m' kt k v hk
      have ih' : insOf r m S (Nat.add i 1) = insOf r m S' (Nat.add i 1) := ih
      rw [ih']
      by_cases hm : m' = m
      · have := h 0 e rfl (by rw [hk, hm]; rfl)
        rw [Nat.add_zero] at this
        rw [this]
      · have : Nat.beq m' m = false := by
          rw [Bool.eq_false_iff]
          intro h; exact hm (Nat.eq_of_beq_eq_true h)
        rw [this]; rfl
    · exact ih
theorem zcont_congr {blk : ABlk} {tr : List ZEnt} {m : Nat} {S S' : Nat → Bool} (h : ∀ j e, tr[j]? = some e → e.k.im = some m → S j = S' j) : zcont blk tr m S = zcont blk tr m S' := by
  have h1 := insOf_congr m (S := S) (S' := S') tr 0 fun j e hj hm => (by rw [Nat.zero_add]; exact h j e hj hm)
  unfold zcont
  split
  · exact congrArg ABlk.ms h1
  · rfl
theorem insOf_none (m : Nat) {S : Nat → Bool} : ∀ (tr : List ZEnt) (i : Nat), (∀ j e, tr[j]? = some e → e.k.im = some m → S (i + j) = false) → insOf tr m S i = []
  | [], i, h => rfl
  | e :: r, i, h => by
    have ih := insOf_none m (S := S) r (i + 1) fun j e' hj hm => by
      have := h (j + 1) e' (by simpa using hj) hm
      have e1 : i + (j + 1) = i + 1 + j := by omega
      rwa [e1] at this
    simp only [insOf]
    split
    · rename_i m' kt k v hk
      have hb : (Nat.beq m' m && S i) = false := by
        by_cases hm : m' = m
        · have := h 0 e rfl (by rw [hk, hm]; rfl)
          rw [Nat.add_zero] at this
          rw [this, Bool.and_false]
        · have : Nat.beq m' m = false := by
            rw [Bool.eq_false_iff]
            intro h; exact hm (Nat.eq_of_beq_eq_true h)
          rw [this, Bool.false_and]
      rw [hb]
      exact ih
    · exact ih
/-- One entry more. -/
theorem insOf_perm {m : Nat} {S : Nat → Bool} {kt : TypeId} {k v : AVal} : ∀ (tr : List ZEnt) (i j : Nat) {e : ZEnt}, tr[j]? = some e → e.k = .ins m kt k v → S (i + j) = false → (insOf tr m (fun x => S x || x == i + j) i).Perm (insOf tr m S i ++ [(k, v)])
  | [], i, j, e, h, _, _ => by simp at h
  | e0 :: r, i, 0, e, h, hk, hS => by
    simp at h
    subst h
    rw [Nat.add_zero] at hS ⊢
    have hrest : insOf r m (fun x => S x || x == i) (Nat.add i 1) = insOf r m S (Nat.add i 1) := insOf_congr m r _ fun j' e' _ _ => by
      have : (Nat.add i 1 + j' == i) = false := by
        have : ¬ i + 1 + j' = i := by omega
        simpa using this
      rw [this, Bool.or_false]
    simp only [insOf, hk, hrest, hS, Nat.beq_refl, Bool.true_and, beq_self_eq_true, Bool.or_true, cond_true, cond_false]
    exact (List.perm_append_comm (l₁ := [(k, v)]))
  | e0 :: r, i, j + 1, e, h, hk, hS => by
    have e1 : i + (j + 1) = Nat.add i 1 + j := by show _ = i + 1 + j; omega
    rw [e1] at hS ⊢
    have ih := insOf_perm r (Nat.add i 1) j (e := e) (by simpa using h) hk hS
    have hne : (i == Nat.add i 1 + j) = false := by
      have : ¬ i = i + 1 + j := by omega
      simpa using this
    simp only [insOf]
    split
    · rename_i m' kt' k' v' hk'
      simp only [hne, Bool.or_false]
      cases hb : (Nat.beq m' m && S i) with
      | true =>
        simp only [cond_true]
        exact ih.cons _
      | false => exact ih
    · exact ih
theorem insOf_mem {m : Nat} {S : Nat → Bool} {p : AVal × AVal} : ∀ (tr : List ZEnt) (i : Nat), p ∈ insOf tr m S i → ∃ j e kt, tr[j]? = some e ∧ e.k = .ins m kt p.1 p.2 ∧ S (i + j) = true
  | [], i, h => by cases h
  | e :: r, i, h => by
    have up : p ∈ insOf r m S (Nat.add i 1) → ∃ j e' kt, (e :: r)[j]? = some e' ∧ e'.k = .ins m kt p.1 p.2 ∧ S (i + j) = true := fun h => by
      obtain ⟨j, e', kt, h1, h2, h3⟩ := insOf_mem r (Nat.add i 1) h
      refine ⟨j + 1, e', kt, by simpa using h1, h2, ?_⟩
      have e1 : i + (j + 1) = Nat.add i 1 + j := by show _ = i + 1 + j; omega
      rw [e1]; exact h3
    simp only [insOf] at h
    split at h
    · rename_i m' kt k v hk
      cases hb : (Nat.beq m' m && S i) with
      | true =>
        rw [hb, cond_true] at h
        simp only [Bool.and_eq_true] at hb
        rcases List.mem_cons.1 h with rfl | h
        · exact ⟨0, e, kt, rfl, by rw [hk, Nat.eq_of_beq_eq_true hb.1], hb.2⟩
        · exact up h
      | false =>
        rw [hb] at h
        exact up h
    · exact up h
noncomputable def zplan (A : List Nat) (h : Nat) (tr : List ZEnt) (s0 : XSt) (pan : Option Nat) : Plan where
  anc i j := Nat.testBit (A.getD i 0) j
  E j := entE tr j
  D j := match tr[j]? with
    | some e => e.t
    | none => .v .undef
  M k := mm (memAt tr s0 k)
  pan := pan
  h := h
  N j := match tr[j]? with
    | some e => e.k.nv
    | none => none
  I j := match tr[j]? with
    | some e => e.k.im
    | none => none
  cont j S := match tr[j]? with
    | some e => zcont e.k.blk tr j S
    | none => .mp [] [] 0
/-! The checks. -/
def zrng : Nat → Nat → List Nat
  | _, 0 => []
  | k, m + 1 => k :: zrng (Nat.add k 1) m
theorem zrng_mem : ∀ (m k i : Nat), k ≤ i → i < k + m → i ∈ zrng k m
  | 0, k, i, h1, h2 => by omega
  | m + 1, k, i, h1, h2 => by
    by_cases hi : i = k
    · subst hi; simp [zrng]
    · exact List.mem_cons_of_mem _ (zrng_mem m (k + 1) i (by omega) (by omega))
def effIdx : List ZEnt → Nat → List Nat
  | [], _ => []
  | e :: r, i => cond e.k.isEff (i :: effIdx r (Nat.add i 1)) (effIdx r (Nat.add i 1))
theorem effIdx_mem : ∀ (tr : List ZEnt) (k j : Nat), entE tr j = true → k + j ∈ effIdx tr k
  | [], k, j, h => by simp [entE] at h
  | e :: r, k, 0, h => by
    have h' : e.k.isEff = true := h
    simp [effIdx, h']
  | e :: r, k, j + 1, h => by
    have h' : entE r j = true := by simpa [entE] using h
    have := effIdx_mem r (k + 1) j h'
    have e1 : k + (j + 1) = k + 1 + j := by omega
    rw [e1]
    simp only [effIdx]
    cases e.k.isEff with
    | true => exact List.mem_cons_of_mem _ this
    | false => exact this
def zchainB (A : List Nat) : List Nat → Bool
  | [] => true
  | i :: r => cond (zall (fun j => zbit (A.getD j 0) i) r) (zchainB A r) false
theorem zchain_ok (A : List Nat) : ∀ (tr : List ZEnt) (k : Nat), zchainB A (effIdx tr k) = true → ∀ i j, i < j → entE tr i = true → entE tr j = true → Nat.testBit (A.getD (k + j) 0) (k + i) = true
  | [], k, _, i, j, _, hi, _ => by simp [entE] at hi
  | e :: r, k, h, i, j, hij, hi, hj => by
    obtain ⟨j, rfl⟩ : ∃ j', j = j' + 1 := ⟨j - 1, by omega⟩
    have hj' : entE r j = true := by simpa [entE] using hj
    have e1 : k + (j + 1) = k + 1 + j := by omega
    rw [e1]
    cases i with
    | zero =>
      have hi' : e.k.isEff = true := hi
      simp only [effIdx, hi', cond_true, zchainB] at h
      cases hz : zall (fun j => zbit (A.getD j 0) k) (effIdx r (Nat.add k 1)) with
      | false => rw [hz] at h; cases h
      | true =>
        have := zall_ok hz _ (effIdx_mem r (k + 1) j hj')
        rw [zbit_eq] at this
        exact this
    | succ i =>
      have hi' : entE r i = true := by simpa [entE] using hi
      have h' : zchainB A (effIdx r (k + 1)) = true := by
        simp only [effIdx] at h
        cases he : e.k.isEff with
        | false => rw [he] at h; exact h
        | true =>
          rw [he, cond_true] at h
          simp only [zchainB] at h
          cases hz : zall (fun j => zbit (A.getD j 0) k) (effIdx r (Nat.add k 1)) with
          | false => rw [hz] at h; cases h
          | true => rw [hz] at h; exact h
      have := zchain_ok A r (k + 1) h' i j (by omega) hi' hj'
      have e2 : k + (i + 1) = k + 1 + i := by omega
      rw [e2]
      exact this
def ztailB (A : List Nat) (h n : Nat) : Bool := zall (fun t => Nat.beq (A.getD t 0) (Nat.sub (Nat.pow 2 t) 1)) (zrng h (Nat.sub n h))
theorem ztail_ok {A : List Nat} {h n : Nat} (hb : ztailB A h n = true) (t j : Nat) (h1 : h ≤ t) (h2 : t < n) (h3 : j < t) : Nat.testBit (A.getD t 0) j = true := by
  have h4 : A.getD t 0 = 2 ^ t - 1 := Nat.eq_of_beq_eq_true (zall_ok hb t (zrng_mem _ _ _ h1 (by show t < h + (n - h); omega)))
  rw [h4, Nat.testBit_two_pow_sub_one]
  simpa using h3
def zip3 : List Oper → List ZEnt → Nat → List (Nat × Oper × ZEnt)
  | o :: r, e :: tr, i => (i, o, e) :: zip3 r tr (Nat.add i 1)
  | _, _, _ => []
theorem zip3_mem : ∀ (l : List Oper) (tr : List ZEnt) (k i : Nat) (o : Oper) (e : ZEnt), l[i]? = some o → tr[i]? = some e → (k + i, o, e) ∈ zip3 l tr k
  | [], _, k, i, o, e, h, _ => by simp at h
  | _ :: _, [], k, i, o, e, _, h => by simp at h
  | o' :: r, e' :: tr, k, 0, o, e, h, h' => by
    simp at h h'
    subst h; subst h'
    simp [zip3]
  | o' :: r, e' :: tr, k, i + 1, o, e, h, h' => by
    have := zip3_mem r tr (k + 1) i o e (by simpa using h) (by simpa using h')
    have e1 : k + (i + 1) = k + 1 + i := by omega
    rw [e1]
    exact List.mem_cons_of_mem _ this
def znew2 (L : List (Nat × Oper)) (i : Nat) (d : Option Tmp) : Bool := match d with
  | none => true
  | some d => zall (fun q => cond (Nat.beq q.1 i) true (not (zis q.2.dst d))) L
def znew1 (L : List (Nat × Oper)) (x : Nat × Oper × ZEnt) : Bool := match x.2.2.k with
  | .new _ _ => znew2 L x.1 x.2.1.dst
  | _ => true
noncomputable def zvk2 (o : Option TVal) (t : TVal) : Bool := match o with
  | some t' => tbeq t' t
  | none => false
noncomputable def zvk1 (i : ZI) (E : XE) (s : XSt) (t : TVal) : Bool := match i with
  | .q f => zvk2 (f E s) t
  | .x _ => false
def zfree (op : Op) : Bool := match op with
  | .move _ => true
  | .assign _ => true
  | .pick _ _ _ => true
  | .nilCheck _ => true
  | .binOp _ _ _ _ _ => true
  | .unOp _ _ _ => true
  | .makeInterface _ _ => true
  | .slice _ _ _ _ _ => true
  | .fieldAddr _ _ _ => true
  | .field _ _ _ => true
  | .indexAddr _ _ _ => true
  | .index _ _ _ => true
  | .extract _ _ => true
  | _ => false
theorem zfree_ok {E : XE} {op : Op} {f : ZQ} (h : zfree op = true) (hf : zdec E.T op = .q f) (s m : XSt) : f E (zback s m) = f E s := by
  have he : (zback s m).ev = s.ev := funext fun x => by cases x <;> rfl
  unfold zfree at h
  split at h
  all_goals first
    | (cases h; done)
    | (cases hf; simp only [zMove, zPick, zNil, zBin, zUn, zIface, zFieldAddr, zField, zIndexAddr, zIndex, zExtract, he]; done)
    | skip
  · rename_i t x lo hi mx
    cases mx <;> cases hf <;> simp only [zSlice, zSlice3, he]
noncomputable def zval2 (E : XE) (ops : Array Oper) (A : List Nat) (tr : List ZEnt) (s0 : XSt) (n : Nat) (pan : Option Nat) (x : Nat × Oper × ZEnt) : Bool :=
  cond (zfree x.2.1.op) true (zall (fun k => zvk1 (zdec E.T x.2.1.op) E (zback (zmsk (x.2.1.looksAt ops) x.2.2.s) (memAt tr s0 k)) x.2.2.t)
    (zrng (cnt (fun j => zbit (A.getD x.1 0) j && entE tr j) n) (Nat.sub (Nat.add (cnt (fun j => (!(j == x.1) && !(zbit (A.getD j 0) x.1)) && (entE tr j && !(pan == some j))) n) 1) (cnt (fun j => zbit (A.getD x.1 0) j && entE tr j) n))))
noncomputable def zapart (T : Tr TI) (j m : Nat) (kt : TypeId) (k : AVal) (q : Nat × ZEnt) : Bool := match q.2.k with
  | .ins m' _ k' _ => cond (Nat.beq m' m && not (Nat.beq q.1 j)) (zkne T kt k k') true
  | _ => true
def zmsNew (o : Option ZEnt) : Bool := match o with
  | some e => (match e.k with
    | .new .map (.ms _) => true
    | _ => false)
  | none => false
noncomputable def zval1 (E : XE) (ops : Array Oper) (A : List Nat) (tr : List ZEnt) (s0 : XSt) (n : Nat) (pan : Option Nat) (x : Nat × Oper × ZEnt) : Bool := match x.2.2.k with
  | .val => zval2 E ops A tr s0 n pan x
  | .ins m kt k _ => (zbit (A.getD x.1 0) m && zmsNew tr[m]?) && zall (zapart E.T x.1 m kt k) (zenum tr 0)
  | _ => true
noncomputable def zchk (E : XE) (ops : Array Oper) (A : List Nat) (hd : List Oper) (h n : Nat) (tr : List ZEnt) (s0 : XSt) (pan : Option Nat) : Bool :=
  (Nat.ble h n && ztailB A h n) && (zchainB A (effIdx tr 0) && (zall (znew1 (zenum hd 0)) (zip3 hd tr 0) && zall (zval1 E ops A tr s0 n pan) (zip3 hd tr 0)))
inductive TrD (E : XE) (ops : Array Oper) : List Oper → XSt → List ZEnt → XSt → Prop where
  | nil (s : XSt) : TrD E ops [] s [] s
  | cons (o : Oper) (r : List Oper) (s s' sf : XSt) (e : ZEnt) (tr : List ZEnt) (hs : e.s = s) (h : Stp E ops o e s') (ht : TrD E ops r s' tr sf) : TrD E ops (o :: r) s (e :: tr) sf
inductive TrX (E : XE) (ops : Array Oper) : List Oper → XSt → List ZEnt → AVal → XSt → Prop where
  | here (o : Oper) (r : List Oper) (s m : XSt) (v : AVal) (hg : guardIs ops s.st o true) (h : XOk E.P E.G o (zmsk (o.looksAt ops) s) (.exn v m)) : TrX E ops (o :: r) s [⟨.v .undef, .pan, s, m⟩] v m
  | cons (o : Oper) (r : List Oper) (s s' m : XSt) (v : AVal) (e : ZEnt) (tr : List ZEnt) (hs : e.s = s) (h : Stp E ops o e s') (ht : TrX E ops r s' tr v m) : TrX E ops (o :: r) s (e :: tr) v m
section
variable {E : XE} {ops : Array Oper}
theorem Trc.done {l : List Oper} {s : XSt} {w : ZW} (h : Trc E ops l s w) : ∀ {tr : List ZEnt} {sf : XSt}, w = .done tr sf → TrD E ops l s tr sf := by
  induction h with
  | nil s => intro tr sf e; cases e; exact .nil s
  | cons o r s s' e w hs h ht ih =>
    intro tr sf hw
    cases w with
    | done tr' sf' => cases hw; exact .cons o r s s' _ e tr' hs h (ih rfl)
    | exn tr' v m => cases hw
    | bad n => cases hw
  | exn o r s m v hg h => intro tr sf e; cases e
  | bad l s n => intro tr sf e; cases e
theorem Trc.exnd {l : List Oper} {s : XSt} {w : ZW} (h : Trc E ops l s w) : ∀ {tr : List ZEnt} {v : AVal} {m : XSt}, w = .exn tr v m → TrX E ops l s tr v m := by
  induction h with
  | nil s => intro tr v m e; cases e
  | cons o r s s' e w hs h ht ih =>
    intro tr v m hw
    cases w with
    | done tr' sf' => cases hw
    | exn tr' v' m' => cases hw; exact .cons o r s s' _ _ e tr' hs h (ih rfl)
    | bad n => cases hw
  | exn o r s m v hg h => intro tr v' m' e; cases e; exact .here o r s m v hg h
  | bad l s n => intro tr v m e; cases e
theorem TrD.len {l : List Oper} {s sf : XSt} {tr : List ZEnt} (h : TrD E ops l s tr sf) : tr.length = l.length := by
  induction h with
  | nil s => rfl
  | cons o r s s' sf e tr hs h ht ih => simp [ih]
theorem XOk.val_ao {o : Oper} {s m : XSt} {t : TVal} (h : XOk E.P E.G o s (.val t m)) : AO E.P E.G o (fun t' s' => t' = t ∧ s'.loc = m.st.loc ∧ s'.heap = m.st.heap) (fun _ _ => False) s.st := h _ _ ⟨rfl, rfl, rfl⟩
theorem XOk.exn_ao {o : Oper} {s m : XSt} {v : AVal} (h : XOk E.P E.G o s (.exn v m)) : AO E.P E.G o (fun _ _ => False) (fun v' s' => v' = v ∧ s'.loc = m.st.loc ∧ s'.heap = m.st.heap) s.st := h _ _ ⟨rfl, rfl, rfl⟩
theorem zback_eq_st {s m : XSt} : (zback s m).st = ⟨s.st.env, (mm m).1, (mm m).2⟩ := rfl
/-- One step of a walk, in the plan. -/
theorem zkne_ok (hE : EOk E) {kt : TypeId} {k k' : AVal} (h : zkne E.T kt k k' = true) : aeqS E.P 10000 kt k k' = some false := by
  unfold zkne at h
  show aeqS E.P (9999 + 1) kt k k' = some false
  split at h
  · rename_i hd
    simp only [Bool.and_eq_true, Bool.not_eq_true', zeq_eq] at h
    simp only [aeqS, xds_ok hE.T hd, kidx_inj h.1, if_true, h.2]
  · rename_i hd
    simp only [Bool.not_eq_true', zbeq_eq] at h
    simp only [aeqS, xds_ok hE.T hd, h]
  · cases h
theorem stp_sem (hE : EOk E) {A : List Nat} {h n : Nat} {tr0 tr : List ZEnt} {s0 s s' : XSt} {pan : Option Nat} {e : ZEnt} {o : Oper} {i : Nat} {e0 : List TVal} {pv : AVal} {Mp : Loc × AHeap} (ho : ops[i]? = some o) (hn : n = ops.size) (he : tr0[i]? = some e) (hst : Stp E ops o e s') (hs : e.s = s)
    (hpan : pan ≠ some i) (henv : s.st.env = (zplan A h tr0 s0 pan).env ops e0 i) (hM : ∀ k, mm (memAt tr0 s0 ((zplan A h tr0 s0 pan).ord ops i + k)) = mm (memAt (e :: tr) s k)) (hlk : ∀ t ∈ o.looksAt ops, t < 16777214) (hv : zval1 E ops A tr0 s0 n pan (i, o, e) = true) :
    (zplan A h tr0 s0 pan).Sem E.P E.G ops e0 pv Mp i o ∧ s'.st.env = (zplan A h tr0 s0 pan).env ops e0 (i + 1) ∧ ∀ k, mm (memAt tr0 s0 ((zplan A h tr0 s0 pan).ord ops (i + 1) + k)) = mm (memAt tr s' k) := by
  subst hs
  have hi : i < ops.size := (Array.getElem?_eq_some_iff.1 ho).1
  have hg : ∀ b, guardIs ops e.s.st o b → guardIs ops ⟨(zplan A h tr0 s0 pan).env ops e0 i, [], { next := 0, get := fun _ => none }⟩ o b := fun b hb => guardIs_congr hb fun t ht => by rw [← henv]
  have hD : (zplan A h tr0 s0 pan).D i = e.t := by simp only [zplan, he]
  have hEi : (zplan A h tr0 s0 pan).E i = e.k.isEff := by simp only [zplan, entE, he]
  have hN : (zplan A h tr0 s0 pan).N i = e.k.nv := by simp only [zplan, he]
  have hI : (zplan A h tr0 s0 pan).I i = e.k.im := by simp only [zplan, he]
  have hmask : ∀ m : XSt, (zback (zmsk (o.looksAt ops) e.s) m).st = ⟨mask (o.looksAt ops) ((zplan A h tr0 s0 pan).env ops e0 i), (mm m).1, (mm m).2⟩ := fun m => by
    rw [zback_eq_st, zmsk_st hlk, henv]
  have hmask0 : (zmsk (o.looksAt ops) e.s).st = ⟨mask (o.looksAt ops) ((zplan A h tr0 s0 pan).env ops e0 i), (mm e.s).1, (mm e.s).2⟩ := by
    rw [zmsk_st hlk, henv]; rfl
  have hsucc : (zplan A h tr0 s0 pan).env ops e0 (i + 1) = putE ops ((zplan A h tr0 s0 pan).env ops e0 i) i e.t := by
    rw [← hD]
    unfold Plan.env
    rw [← envN_add (lis := fun j => decide (j < i)) (by simp) hi (fun j d h1 _ h3 => by simp at h3; omega)]
    refine envN_congr fun j hj => ?_
    rw [Bool.eq_iff_iff]
    simp only [decide_eq_true_eq, Bool.or_eq_true, beq_iff_eq]
    omega
  have hput : ∀ {x x' : XSt} {t : TVal}, x.st.env = (zplan A h tr0 s0 pan).env ops e0 i → t = e.t → x.put o.dst t = some x' → x'.st.env = (zplan A h tr0 s0 pan).env ops e0 (i + 1) := fun {x x' t} hx ht hp => by
    rw [XSt.put_eq hp, hsucc, ht]
    unfold putE
    rw [ho, Option.bind_some]
    cases o.dst with
    | none => exact hx
    | some d => simp only [St.put, hx]
  have hmput : ∀ {x x' : XSt} {t : TVal}, x.put o.dst t = some x' → mm x' = mm x := fun {x x' t} hp => by
    unfold mm
    rw [XSt.put_eq hp, St.put_loc, St.put_heap]
  have hord : (zplan A h tr0 s0 pan).ord ops (i + 1) = (zplan A h tr0 s0 pan).ord ops i + (if e.k.isEff then 1 else 0) := by
    unfold Plan.ord
    cases hk : e.k.isEff with
    | false =>
      refine cnt_congr fun j hj => ?_
      by_cases hji : j = i
      · subst hji; rw [hEi, hk]; simp
      · have : decide (j < i + 1) = decide (j < i) := by
          rw [Bool.eq_iff_iff]; simp only [decide_eq_true_eq]; omega
        rw [this]
    | true =>
      rw [if_pos rfl, ← cnt_add (p := fun j => decide (j < i) && (zplan A h tr0 s0 pan).E j) (i := i) (by simp) hi]
      refine cnt_congr fun j hj => ?_
      by_cases hji : j = i
      · subst hji; rw [hEi, hk]; simp
      · have : decide (j < i + 1) = decide (j < i) := by
          rw [Bool.eq_iff_iff]; simp only [decide_eq_true_eq]; omega
        have h2 : (j == i) = false := by simpa using hji
        rw [this, h2, Bool.or_false]
  have hM0 : mm (memAt tr0 s0 ((zplan A h tr0 s0 pan).ord ops i)) = mm e.s := by
    have := hM 0
    rw [Nat.add_zero, memAt_zero] at this
    exact this
  have hnext : e.k.isEff = false → mm s' = mm e.s → ∀ k, mm (memAt tr0 s0 ((zplan A h tr0 s0 pan).ord ops (i + 1) + k)) = mm (memAt tr s' k) := fun hk hs' k => by
    rw [hord, hk]
    simp only [Bool.false_eq_true, if_false, Nat.add_zero]
    rw [hM k]
    simp only [memAt, hk, cond_false]
    exact memAt_congr tr k hs'.symm
  cases hst with
  | skip s1 _ hgf hp =>
    exact ⟨.skip (hg _ hgf) hEi hN hI hD, hput henv rfl hp, hnext rfl (hmput hp)⟩
  | val s1 _ t f hgt hf hft hp =>
    refine ⟨.val (hg _ hgt) hEi hN hI fun k hk1 hk2 => ?_, hput henv rfl hp, hnext rfl (hmput hp)⟩
    have hfk : f E (zback (zmsk (o.looksAt ops) s1) (memAt tr0 s0 k)) = some t := by
      simp only [zval1, zval2] at hv
      cases hfr : zfree o.op with
      | true => rw [zfree_ok hfr hf]; exact hft
      | false =>
        rw [hfr, cond_false] at hv
        have e1 : cnt (fun j => zbit (A.getD i 0) j && entE tr0 j) n = (zplan A h tr0 s0 pan).kmin ops i := by
          rw [hn]
          exact cnt_congr fun j hj => by rw [zbit_eq]; rfl
        have e2 : cnt (fun j => (!(j == i) && !(zbit (A.getD j 0) i)) && (entE tr0 j && !(pan == some j))) n = (zplan A h tr0 s0 pan).kmax ops i := by
          rw [hn]
          exact cnt_congr fun j hj => by rw [zbit_eq]; rfl
        have := zall_ok hv k (zrng_mem _ _ _ (by rw [e1]; exact hk1) (by
          show k < _ + (_ + 1 - _)
          rw [e1, e2]
          omega))
        rw [hf] at this
        simp only [zvk1] at this
        unfold zvk2 at this
        split at this
        · rename_i t' ht'
          rw [ht', tbeq_ok this]
        · cases this
    have hao := zq_ok (s := zback (zmsk (o.looksAt ops) s1) (memAt tr0 s0 k)) hE hf hfk
    have hao2 : AO E.P E.G o (fun t' s' => t' = t ∧ s'.loc = (mm (memAt tr0 s0 k)).1 ∧ s'.heap = (mm (memAt tr0 s0 k)).2) (fun _ _ => False) (zback (zmsk (o.looksAt ops) s1) (memAt tr0 s0 k)).st := by
      obtain ⟨t', rfl, h'⟩ := hao
      exact AV.ao h' ⟨rfl, rfl, rfl⟩
    rw [hmask] at hao2
    rw [hD]
    exact hao2
  | eff s1 _ t m hgt hx hp =>
    have hao := XOk.val_ao hx
    have hmm : mm (memAt tr0 s0 ((zplan A h tr0 s0 pan).ord ops i + 1)) = mm m := by
      rw [hM 1]
      simp only [memAt, EK.isEff, cond_true, memAt_zero]
    refine ⟨.eff (hg _ hgt) hEi hpan hN hI ?_, hput (x := zback s1 m) henv rfl hp, fun k => ?_⟩
    · have h1 : (zplan A h tr0 s0 pan).M ((zplan A h tr0 s0 pan).ord ops i + 1) = mm m := hmm
      have h2 : (zplan A h tr0 s0 pan).M ((zplan A h tr0 s0 pan).ord ops i) = mm s1 := hM0
      unfold AOm
      rw [hD, h1, h2]
      rw [hmask0] at hao
      exact hao
    · rw [hord]
      simp only [EK.isEff, if_true]
      rw [Nat.add_assoc, Nat.add_comm 1 k, hM (k + 1)]
      simp only [memAt, EK.isEff, cond_true]
      refine memAt_congr tr k ?_
      rw [hmput hp]
      rfl
  | new s1 _ nv blk hgt hno hms hp =>
    refine ⟨.new nv (hg _ hgt) hN fun k hk1 hk2 S hS => ?_, hput henv rfl hp, hnext rfl (hmput hp)⟩
    have hc : (zplan A h tr0 s0 pan).cont i S = blk := by
      have h1 : (zplan A h tr0 s0 pan).cont i S = zcont blk tr0 i S := by simp only [zplan, he]; rfl
      rw [h1]
      unfold zcont
      split
      · rename_i l
        have h2 : insOf tr0 i S 0 = [] := insOf_none i tr0 0 fun j e' hj hm => by
          rw [Nat.zero_add]
          refine hS j ?_
          simp only [zplan, hj, hm]
        rw [h2]
        exact hms l rfl
      · rfl
    rw [hc]
    have := hno (memAt tr0 s0 k)
    rw [hmask] at this
    exact this
  | ins s1 _ m t kt et d kx vx k v hgt ho' hd hm hdl hkb hk hvx hp =>
    simp only [zval1, Bool.and_eq_true] at hv
    obtain ⟨⟨hb, hms⟩, hap⟩ := hv
    obtain ⟨em, hem, l0, hmk⟩ : ∃ em, tr0[m]? = some em ∧ ∃ l0, em.k = .new .map (.ms l0) := by
      unfold zmsNew at hms
      split at hms
      · rename_i em hem
        split at hms
        · rename_i l0 hk0
          exact ⟨em, hem, l0, hk0⟩
        · cases hms
      · cases hms
    have hcont : ∀ S, (zplan A h tr0 s0 pan).cont m S = .ms (insOf tr0 m S 0) := fun S => by
      simp only [zplan, hem, hmk, EK.blk, zcont]
    refine ⟨.ins m .map (hg _ hgt) hI (by simp only [zplan, hem, hmk]; rfl) fun j hj1 hj2 S hS => ?_, hput henv rfl hp, hnext rfl (hmput hp)⟩
    rw [hcont, hcont, hm]
    show InsO E.P E.G o (some d) .map _ _ ⟨_, (mm (memAt tr0 s0 j)).1, (mm (memAt tr0 s0 j)).2⟩
    rw [← hmask (memAt tr0 s0 j)]
    have hev : ∀ x, (zback (zmsk (o.looksAt ops) s1) (memAt tr0 s0 j)).st.ev x = (zmsk (o.looksAt ops) s1).ev x := fun x => by rw [XSt.ev_eq]; cases x <;> rfl
    refine InsO.insert ho' hd rfl ?_ (by rw [hev]; exact hk) (by rw [hev]; exact hvx) (zkey_check hE.T hkb) (fun q hq => ?_) ?_
    · have : (zback (zmsk (o.looksAt ops) s1) (memAt tr0 s0 j)).st.env.length = s1.n := tl_length _ _ _
      rw [this]; exact hdl
    · obtain ⟨j', e', kt', h1, h2, h3⟩ := insOf_mem _ _ hq
      rw [Nat.zero_add] at h3
      have hne : j' ≠ i := fun e => by rw [e, hS] at h3; cases h3
      have h4 := zall_ok hap _ (by simpa using zenum_mem tr0 0 j' e' h1)
      simp only [zapart, h2, Nat.beq_refl, Bool.true_and] at h4
      have h5 : Nat.beq j' i = false := by
        rw [Bool.eq_false_iff]
        intro h; exact hne (Nat.eq_of_beq_eq_true h)
      rw [h5] at h4
      exact zkne_ok hE h4
    · have := insOf_perm (S := S) tr0 0 i he rfl (by rw [Nat.zero_add]; exact hS)
      rw [Nat.zero_add] at this
      exact this
end
end Go.Abs
