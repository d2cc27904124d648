/- The theory of abstract runs, part 2: what a contract says, and that the executor keeps it. Of no program. -/
import Derived.Test.YtelbekgmijpacaaGreatDoorT1
import Derived.Laws.AppendOwn
import Derived.IntWalk
import Derived.MapKept
namespace Go.Abs
inductive AEnd where
  | ret (v : AVal)
  | panic (v : AVal)
inductive ER (σ : Nat → Pl) (N : Nat) : AEnd → Ending → Prop where
  | ret (v : AVal) (V : Value) (h : VR σ N v V) : ER σ N (.ret v) (.returned V)
  | panic (v : AVal) (V : Value) (h : VR σ N v V) : ER σ N (.panic v) (.panicked [{ v := V, recovered := false }])
/-- What is promised of a call: an abstract contract. -/
structure CQ (G : Nat → Option (List AVal)) (σ : Nat → Pl) (H : AHeap) (w : World) (ae : AEnd) (H' : AHeap) (e : Ending) (w' : World) (σ' : Nat → Pl) : Prop where
  er : ER σ' H'.next ae e
  heap : HeapRel G σ' H' w'
  agree : ∀ b, b < H.next → σ' b = σ b
  next : H.next ≤ H'.next
  evo : Evo (Foot σ H) (Own σ H) (Foot σ' H') (Own σ' H') w w'
def ACalls (P : Program) (G : Nat → Option (List AVal)) (f : FuncId) (args : List AVal) (H : AHeap) (R : AEnd → AHeap → Prop) : Prop :=
  ∀ σ w (Args : Array Value), HeapRel G σ H w → VRs σ H.next args Args → Calls P f Args w fun e w' => ∃ σ' ae H', R ae H' ∧ CQ G σ H w ae H' e w' σ'
section
variable {P : Program} {G : Nat → Option (List AVal)} {st : St}
theorem ACalls.mono {f : FuncId} {args : List AVal} {H : AHeap} {R R' : AEnd → AHeap → Prop} (h : ACalls P G f args H R) (hR : ∀ e H', R e H' → R' e H') : ACalls P G f args H R' := fun σ w Args hh ha =>
  (h σ w Args hh ha).mono fun e w' ⟨σ', ae, H', hr, q⟩ => ⟨σ', ae, H', hR _ _ hr, q⟩
/-- Behind a call the state of the caller, its heap being the callee's. -/
theorem AQ1.call {σ σ' : Nat → Pl} {lam : Nat → Nat} {w w' : World} {a : Act} {H' : AHeap} (hr : Rel G σ lam st w a) (hh : HeapRel G σ' H' w') (ha : ∀ b, b < st.heap.next → σ' b = σ b) (hn : st.heap.next ≤ H'.next)
    (he : Evo (Foot σ st.heap) (Own σ st.heap) (Foot σ' H') (Own σ' H') w w') : AQ1 G σ lam st w .normal { st with heap := H' } .normal a w' σ' lam := by
  have hkeep : ∀ (i : Nat) (b : LBlk), st.loc[i]? = some b → b.live = true → w'.heap[lam i]? = w.heap[lam i]? := fun i b hb hl =>
    he.keep _ (hr.loc.lt i b hb hl) fun ho => hr.loc.far i b hb hl ho.foot
  refine ⟨.normal, ⟨hh, ⟨fun i b hb => ?_, fun i b hb hl hf => ?_, hr.loc.inj, hr.loc.glob, fun i b hb hl => Nat.lt_of_lt_of_le (hr.loc.lt i b hb hl) he.size⟩, hr.env.mono hn ha (Nat.le_refl _) (fun _ _ => rfl), hr.defers⟩, ha, hn, Nat.le_refl _, fun _ _ => rfl, ⟨he.os, he.tape, he.output, he.size, fun g hg ho => he.keep g hg fun h => ho (.inl h), ?_, ?_⟩⟩
  · exact (hr.loc.blk i b hb).mono hn ha (hkeep i b hb)
  · rcases he.foot _ hf with h | h
    · exact hr.loc.far i b hb hl h
    · have := hr.loc.lt i b hb hl; omega
  · rintro g (hg | hg)
    · rcases he.own g hg with h | h
      · exact .inl (.inl h)
      · exact .inr h
    · exact .inl (.inr hg)
  · rintro g (hg | hg)
    · rcases he.foot g hg with h | h
      · exact .inl (.inl h)
      · exact .inr h
    · exact .inl (.inr hg)
/-- Plain values of operands. -/
def vals (st : St) : List Operand → Option (List AVal)
  | [] => some []
  | x :: r => match st.ev x, vals st r with
    | .v v, some l => some (v :: l)
    | _, _ => none
theorem vals_rel {σ : Nat → Pl} {lam : Nat → Nat} {w : World} {a : Act} (hr : Rel G σ lam st w a) : ∀ (xs : List Operand) (l : List AVal), vals st xs = some l → VRs σ st.heap.next l (xs.map a.eval).toArray
  | [], l, h => by simp [vals] at h; subst h; exact ⟨rfl, fun i v V hv => by simp at hv⟩
  | x :: r, l, h => by
    simp only [vals] at h
    split at h
    · rename_i v l' hv hl
      cases h
      have h1 := ev_rel hr x
      rw [hv] at h1
      have ih := vals_rel hr r l' hl
      refine ⟨by simpa using ih.1, fun i u U hu hU => ?_⟩
      rcases i with _ | i
      · simp at hu hU
        subst hu; subst hU; exact h1
      · simp at hu hU
        exact ih.2 i u U hu (by simpa using hU)
    · cases h
theorem VRs.append {σ : Nat → Pl} {N : Nat} {l l' : List AVal} {cs cs' : Array Value} (h : VRs σ N l cs) (h' : VRs σ N l' cs') : VRs σ N (l ++ l') (cs ++ cs') := by
  refine ⟨by simp [h.1, h'.1], fun i v V hv hV => ?_⟩
  rcases Nat.lt_or_ge i l.length with hi | hi
  · rw [List.getElem?_append_left hi] at hv
    rw [Array.getElem?_append_left (by rw [h.1]; exact hi)] at hV
    exact h.2 i v V hv hV
  · rw [List.getElem?_append_right hi] at hv
    rw [Array.getElem?_append_right (by rw [h.1]; exact hi), h.1] at hV
    exact h'.2 _ v V hv hV
/-- Behind a call. -/
def After (z : Value) (K : AVal → Prop) (Kx : AVal → Prop) (e : AEnd) : Prop := match e with
  | .ret v => Ex3 z fun u => v = u ∧ K u
  | .panic p => Kx p
def plainFn (P : Program) (f : FuncId) : Bool := match P.funcs[f]? with
  | some fn => fn.body.isSome && !(fn.name == "runtime.NumGoroutine")
  | none => false
def acall (P : Program) (G : Nat → Option (List AVal)) (t : TypeId) (f : TVal) (args : Option (List AVal)) (K : TVal → St → Prop) (Kx : AVal → St → Prop) (st : St) : Prop := match f, args, P.info? t with
  | .v (.func (.func g) fs cs), some l, some i =>
    if plainFn P g then
      match i.zero with
      | some z => ACalls P G g (fs ++ l ++ cs) st.heap fun e H' => After z (fun u => K (.v u) { st with heap := H' }) (fun p => Kx p { st with heap := H' }) e
      | none => False
    else False
  | _, _, _ => False
theorem AO.call {o : Oper} {f : Operand} {args : Array Operand} {ts : Array TypeId} {K : TVal → St → Prop} {Kx : AVal → St → Prop} (ho : o.op = .call { callee := .value f, args := args, argTypes := ts })
    (h : acall P G o.type (st.ev f) (vals st args.toList) K Kx st) : AO P G o K Kx st := by
  unfold acall at h
  split at h
  · rename_i g fs cs l i hf hl hi
    split at h
    · rename_i hp
      split at h
      · rename_i z hz
        intro σ lam w a hr next Q hn hx
        have h1 := ev_rel hr f
        rw [hf] at h1
        have h2 := vals_rel hr _ _ hl
        unfold plainFn at hp
        split at hp
        · rename_i fn hfn
          simp only [Bool.and_eq_true, Bool.not_eq_true'] at hp
          have hF : ∃ Fs Cs, a.eval f = .func (.func g) Fs Cs ∧ VRs σ st.heap.next fs Fs ∧ VRs σ st.heap.next cs Cs := by
            generalize a.eval f = V at h1
            cases h1 with
            | func _ _ _ Fs Cs h3 h4 h5 h6 => exact ⟨Fs, Cs, rfl, ⟨h3, h5⟩, ⟨h4, h6⟩⟩
          obtain ⟨Fs, Cs, hF, hFs, hCs⟩ := hF
          have hrun : (execOp a.eval o).run P w = .ok (.enter g (Fs ++ args.map a.eval ++ Cs)) w := by
            have hnone : fn.body.isNone = false := by
              cases hb : fn.body with
              | none => rw [hb] at hp; simp at hp
              | some _ => rfl
            simp only [execOp, ho, resolve, Deferred.ofValue, hF, Sem.run_bind, Sem.run_pure, Result.andThen_ok, invoke, callFunc]
            show (Sem.run P (match P.funcs[g]? with | none => _ | some fn => _) w) = _
            rw [hfn]
            simp only [hp.2, hnone, Bool.false_eq_true, if_false]
            rfl
          have hArgs : VRs σ st.heap.next (fs ++ l ++ cs) (Fs ++ args.map a.eval ++ Cs) := by
            have e : args.map a.eval = (args.toList.map a.eval).toArray := by
              apply Array.toList_inj.1
              simp
            rw [e]
            exact (hFs.append h2).append hCs
          unfold Oper.wp
          rw [hrun, Oper.upon_enter]
          refine (h σ w _ hr.heap hArgs).mono fun e w' ⟨σ', ae, H', hR, q⟩ => ?_
          have q1 := AQ1.call hr q.heap q.agree q.next q.evo
          obtain ⟨er, _, _, _, _⟩ := q
          cases er with
          | ret v V hv =>
            obtain ⟨u, rfl, hK⟩ := Ex3.some_ (f := fun u => v = u ∧ K (.v u) { st with heap := H' }) hR
            exact hn (.v v) _ V w' σ' lam hK ⟨q1, hv, fun k o' he => by cases he⟩
          | panic v V hv => exact hx v _ V w' σ' lam hR hv q1
        · cases hp
      · exact h.elim
    · exact h.elim
  · exact h.elim
/-- A local block is handed over to the heap. -/
def pubT (i n : Nat) : TVal → TVal
  | .lp j o => if j = i then .v (.ptr n o) else .lp j o
  | t => t
def St.pub (st : St) (i : Nat) : St := match st.loc[i]? with
  | some (.cells l) => { env := st.env.map (pubT i st.heap.next), loc := st.loc.set i .dead, heap := st.heap.alloc (.cells 1 l true) }
  | _ => st
theorem AQ1.pub {σ : Nat → Pl} {lam : Nat → Nat} {w : World} {a : Act} (hr : Rel G σ lam st w a) (i : Nat) : ∃ σ', AQ1 G σ lam st w .normal (st.pub i) .normal a w σ' lam := by
  unfold St.pub
  split
  · rename_i l hl
    have hi : i < st.loc.length := (List.getElem?_eq_some_iff.1 hl).1
    obtain ⟨cs, t, h1, h2⟩ := hr.loc.blk i _ hl
    have hσ : ∀ b, b < st.heap.next → upd σ st.heap.next ⟨lam i, 0, l.length⟩ b = σ b := fun b hb => upd_lt _ _ _ hb
    have hget : ∀ (j : Nat) (c : ABlk), (st.heap.alloc (.cells 1 l true)).get j = some c → (j = st.heap.next ∧ c = .cells 1 l true) ∨ (j < st.heap.next ∧ st.heap.get j = some c) := fun j c h => by
      rw [AHeap.get_alloc] at h
      by_cases hij : j = st.heap.next
      · rw [if_pos hij] at h
        exact .inl ⟨hij, (Option.some.inj h).symm⟩
      · rw [if_neg hij] at h
        exact .inr ⟨hr.heap.lt j c h, h⟩
    have hlget : ∀ (j : Nat) (c : LBlk), (st.loc.set i .dead)[j]? = some c → c.live = true → j ≠ i ∧ st.loc[j]? = some c := fun j c h hc => by
      rw [List.getElem?_set] at h
      by_cases hij : i = j
      · subst hij
        rw [if_pos rfl, if_pos hi] at h
        cases h; cases hc
      · rw [if_neg hij] at h
        exact ⟨fun e => hij e.symm, h⟩
    have hne : ∀ (j : Nat) (c : ABlk), st.heap.get j = some c → (σ j).g ≠ lam i := fun j c h e => hr.loc.far i _ hl rfl ⟨j, c, h, e⟩
    refine ⟨upd σ st.heap.next ⟨lam i, 0, l.length⟩, .normal, ⟨⟨fun j c h => ?_, fun j c h => ?_, fun j k c c' h h' hjk hc => ?_, hr.heap.glob, fun j c g l' h hc hg => ?_⟩, ⟨fun j c h => ?_, fun j c h hc hf => ?_, fun j k c c' h h' hc hc' hjk => ?_, fun j c g l' h hc hg => ?_, fun j c h hc => ?_⟩, ⟨?_, ?_, ?_⟩, hr.defers⟩, hσ, Nat.le_succ _, by simp, fun _ _ => rfl, ⟨rfl, rfl, rfl, Nat.le_refl _, fun _ _ _ => rfl, ?_, ?_⟩⟩
    · rcases hget j c h with ⟨rfl, rfl⟩ | ⟨hj, h⟩
      · exact Nat.lt_succ_self _
      · exact Nat.lt_succ_of_lt hj
    · rcases hget j c h with ⟨rfl, rfl⟩ | ⟨hj, h⟩
      · rw [upd_at]
        refine ⟨cs, t, (0, 0), h1, by simp, by simp, by simp [h2.1], fun k v hv => ?_⟩
        have hk : k < cs.size := by rw [h2.1]; exact (List.getElem?_eq_some_iff.1 hv).1
        exact ⟨cs[k], by simp [hk], (h2.2 k v _ hv (by simp [hk])).mono (Nat.le_succ _) hσ⟩
      · rw [hσ j hj]
        exact (hr.heap.blk j c h).mono (Nat.le_succ _) hσ (Nat.le_refl _) rfl
    · rcases hget j c h with ⟨hj, h3⟩ | ⟨hj, h3⟩ <;> rcases hget k c' h' with ⟨hk, h4⟩ | ⟨hk, h4⟩
      · exact absurd (hj.trans hk.symm) hjk
      · rw [hj, upd_at, hσ k hk]
        exact (hne k c' h4).symm
      · rw [hk, upd_at, hσ j hj]
        exact hne j c h3
      · rw [hσ j hj, hσ k hk]
        exact hr.heap.sep j k c c' h3 h4 hjk hc
    · rcases hget j c h with ⟨rfl, rfl⟩ | ⟨hj, h⟩
      · rw [upd_at]
        exact hr.loc.glob i _ g l' hl rfl hg
      · rw [hσ j hj]
        exact hr.heap.globFar j c g l' h hc hg
    · cases hcl : c.live with
      | false => cases c <;> simp [LBlk.live] at hcl; trivial
      | true =>
        obtain ⟨hj, h3⟩ := hlget j c h hcl
        exact (hr.loc.blk j c h3).mono (Nat.le_succ _) hσ (fun _ => rfl)
    · obtain ⟨hj, h3⟩ := hlget j c h hc
      obtain ⟨k, c', h4, h5⟩ := hf
      rcases hget k c' h4 with ⟨rfl, rfl⟩ | ⟨hk, h6⟩
      · rw [upd_at] at h5
        exact hr.loc.inj i j _ _ hl h3 rfl hc (fun e => hj e.symm) h5
      · rw [hσ k hk] at h5
        exact hr.loc.far j c h3 hc ⟨k, c', h6, h5⟩
    · exact hr.loc.inj j k c c' (hlget j c h hc).2 (hlget k c' h' hc').2 hc hc' hjk
    · exact hr.loc.glob j c g l' (hlget j c h hc).2 hc hg
    · exact hr.loc.lt j c (hlget j c h hc).2 hc
    · simpa using hr.env.1
    · intro j t' V ht hV
      rw [List.getElem?_map] at ht
      cases hj : st.env[j]? with
      | none => rw [hj] at ht; cases ht
      | some t0 =>
        rw [hj] at ht
        cases ht
        have h3 := hr.env.2.1 j t0 V hj hV
        cases t0 with
        | v x => exact VR.mono (Nat.le_succ _) hσ h3
        | lp k o =>
          simp only [pubT]
          split
          · rename_i hk
            subst hk
            simp only [TR] at h3 ⊢
            rw [h3]
            have := VR.ptr (σ := upd σ st.heap.next ⟨lam k, 0, l.length⟩) (N := st.heap.next + 1) st.heap.next o (Nat.lt_succ_self _)
            rw [upd_at, Nat.zero_add] at this
            exact this
          · exact h3
    · intro j k o ht
      rw [List.getElem?_map] at ht
      cases hj : st.env[j]? with
      | none => rw [hj] at ht; cases ht
      | some t0 =>
        rw [hj] at ht
        cases t0 with
        | v x => cases ht
        | lp k' o' =>
          simp only [Option.map_some, pubT] at ht
          split at ht
          · cases ht
          · cases ht
            simpa using hr.env.2.2 j _ _ hj
    · rintro g (⟨j, c, h, hc, e⟩ | ⟨j, c, h, hc, e⟩)
      · rcases hget j c h with ⟨rfl, rfl⟩ | ⟨hj, h⟩
        · rw [upd_at] at e
          exact .inl (.inr ⟨i, _, hl, rfl, e⟩)
        · rw [hσ j hj] at e
          exact .inl (.inl ⟨j, c, h, hc, e⟩)
      · exact .inl (.inr ⟨j, c, (hlget j c h hc).2, hc, e⟩)
    · rintro g (⟨j, c, h, e⟩ | ⟨j, c, h, hc, e⟩)
      · rcases hget j c h with ⟨rfl, rfl⟩ | ⟨hj, h⟩
        · rw [upd_at] at e
          exact .inl (.inr ⟨i, _, hl, rfl, e⟩)
        · rw [hσ j hj] at e
          exact .inl (.inl ⟨j, c, h, e⟩)
      · exact .inl (.inr ⟨j, c, (hlget j c h hc).2, hc, e⟩)
  · exact ⟨σ, .refl .normal hr⟩
theorem AO.pub {o : Oper} {K : TVal → St → Prop} {Kx : AVal → St → Prop} (i : Nat) (h : AO P G o K Kx (st.pub i)) : AO P G o K Kx st := fun σ lam w a hr next Q hn hx => by
  obtain ⟨σ', q⟩ := AQ1.pub hr i
  refine h σ' lam w a q.rel next Q (fun t st' V w' σ2 lam2 hK hor => ?_) (fun v st' V w' σ2 lam2 hK hv q2 => ?_)
  · exact hn t st' V w' σ2 lam2 hK ⟨q.trans hor.q, hor.tr, hor.lp⟩
  · exact hx v st' V w' σ2 lam2 hK hv (q.trans q2)
/-- The local blocks that are named. -/
def lps (st : St) : List Operand → List Nat
  | [] => []
  | x :: r => match st.ev x with
    | .lp i _ => i :: lps st r
    | _ => lps st r
def St.pubs (st : St) : List Nat → St
  | [] => st
  | i :: r => (st.pub i).pubs r
theorem AO.pubs {o : Oper} {K : TVal → St → Prop} {Kx : AVal → St → Prop} : ∀ (l : List Nat) {st : St}, AO P G o K Kx (st.pubs l) → AO P G o K Kx st
  | [], _, h => h
  | i :: r, _, h => AO.pub i (AO.pubs r h)
end
end Go.Abs
namespace Go.Abs
section
variable {P : Program} {G : Nat → Option (List AVal)} {st : St}
def notInt : TypeDesc → Bool
  | .int _ => false
  | _ => true
/-- What append comes to, where there is room. -/
theorem run_append_in {t0 t1 ty e : TypeId} {d1 : TypeDesc} {i : TypeInfo} (h0 : P.underlying t0 = some (.slice e)) (h1 : P.underlying t1 = some d1) (hd : notInt d1 = true) (hi : P.info? e = some i) {w : World}
    {g o sLen sCap n : Nat} {Y : Value} {news : Array Value} (hY : (Builtin.lenOf Y).run P w = .ok n w) (hn : (Builtin.firstCells i.size n Y).run P w = .ok news w) (hc : sLen + n ≤ sCap)
    {cs : Array Value} {t : TypeId} {fr : Nat × Nat} (hg : w.heap[g]? = some (.cells cs t fr)) (hone : ∀ u ∈ news.toList, one u = true) (hfit : o + sLen * i.size + news.size ≤ cs.size) (hf : ∀ i, i < cs.size → ¬ (fr.1 ≤ i ∧ i < fr.2)) :
    (Builtin.append_ #[t0, t1] ty #[.slice (some ⟨g, o, none⟩) sLen sCap, Y]).run P w = .ok (.slice (some ⟨g, o, none⟩) (sLen + n) sCap) (setBlk w g (.cells (wr cs (o + sLen * i.size) news.toList) t fr)) := by
  have hst := run_storeCells (P := P) news.toList w cs (o + sLen * i.size) 0 hg hone (by simpa using hfit) hf
  simp only [Builtin.append_, List.getElem?_toArray, List.getElem?_cons_zero, List.getElem?_cons_succ, Sem.run_bind, run_underlying h0, run_underlying h1, Result.andThen_ok, run_size hi]
  simp only [Sem.run_pure, Result.andThen_ok]
  cases d1 <;> first
    | (simp [notInt] at hd; done)
    | (simp only [Bool.false_eq_true, if_false, hY, Result.andThen_ok, if_pos hc, Bool.not_false, if_true, Sem.run_bind, hn, add_none]
       simp only [Nat.add_zero] at hst
       rw [hst]
       rfl)
theorem run_append_out {t0 t1 ty e : TypeId} {d1 : TypeDesc} {i : TypeInfo} {z : Value} (h0 : P.underlying t0 = some (.slice e)) (h1 : P.underlying t1 = some d1) (hd : notInt d1 = true) (hi : P.info? e = some i) (hz : i.zero = some z) (hb : 0 < i.bytes) {w : World}
    {base : Option Addr} {sLen sCap n : Nat} {Y : Value} {old news : Array Value} (hY : (Builtin.lenOf Y).run P w = .ok n w) (hn : (Builtin.firstCells i.size n Y).run P w.drew = .ok news w.drew) (hc : sCap < sLen + n)
    (hold : (Builtin.firstCells i.size sLen (.slice base sLen sCap)).run P w.drew = .ok old w.drew) (hfit : (sLen + n) * i.bytes ≤ 140737488355328) :
    (Builtin.append_ #[t0, t1] ty #[.slice base sLen sCap, Y]).run P w = .ok (.slice (some ⟨w.heap.size, 0, none⟩) (sLen + n) (grownCap w (sLen + n) sCap e))
      (w.drew.alloc (.cells (old ++ news ++ Builtin.zeroCells z.cells (grownCap w (sLen + n) sCap e - (sLen + n))) e)) := by
  have hg := growslice_fits (bytes := i.bytes) hc hfit
  have hcap : (choose (.appendCap (sLen + n) sCap e)).run P w = .ok (grownCap w (sLen + n) sCap e) w.drew := by
    rfl
  have hroom : ∀ (k : Nat) (w : World), (askRoom k).run P w = .ok () w := fun k w => by
    unfold askRoom
    split <;> simp [mark, Sem.run]
  simp only [Builtin.append_, List.getElem?_toArray, List.getElem?_cons_zero, List.getElem?_cons_succ, Sem.run_bind, run_underlying h0, run_underlying h1, Result.andThen_ok, run_size hi]
  simp only [Sem.run_pure, Result.andThen_ok]
  have hn0 : ¬ (sLen + n ≤ sCap) := by omega
  have hg' : ¬ (Builtin.nextslicecap (sLen + n) sCap * i.bytes > 2 ^ 48) := by omega
  have hb0 : ¬ (i.bytes = 0) := by omega
  cases d1 <;> first
    | (simp [notInt] at hd; done)
    | (simp only [Bool.false_eq_true, if_false, hY, Result.andThen_ok, if_neg hn0, Bool.not_false, if_true, Sem.run_bind, run_info hi, false_or, hb0, and_false, Sem.run_pure, hg', hcap, hroom, hold, hn, run_zero hi hz, newRow, newObj]
       rfl)
end
end Go.Abs
namespace Go.Abs
section
variable {P : Program} {G : Nat → Option (List AVal)} {st : St}
theorem AHeap.alloc_set (H : AHeap) (X Y : ABlk) : (H.alloc X).set H.next Y = H.alloc Y := by
  simp only [AHeap.alloc, AHeap.set]
  congr 1
  funext i
  split <;> simp_all
/-- A block gets another number. -/
theorem AQ1.rename {σ : Nat → Pl} {lam : Nat → Nat} {w : World} {a : Act} (hr : Rel G σ lam st w a) {b : Nat} {blk nb : ABlk} (hb : st.heap.get b = some blk) (hl : blk.rw = true) (hnl : nb.rw = true) (p : Pl) (hp : p.g = (σ b).g)
    (hn : BlkR (upd σ st.heap.next p) (st.heap.next + 1) p w nb) :
    AQ1 G σ lam st w .normal { st with heap := (st.heap.kill b).alloc nb } .normal a w (upd σ st.heap.next p) lam := by
  have hσ : ∀ b, b < st.heap.next → upd σ st.heap.next p b = σ b := fun b hb => upd_lt _ _ _ hb
  have hget : ∀ (j : Nat) (c : ABlk), ((st.heap.kill b).alloc nb).get j = some c → (j = st.heap.next ∧ c = nb) ∨ (j < st.heap.next ∧ j ≠ b ∧ st.heap.get j = some c) := fun j c h => by
    rw [AHeap.get_alloc, AHeap.get_kill] at h
    by_cases hij : j = st.heap.next
    · rw [if_pos (show j = (st.heap.kill b).next from hij)] at h
      exact .inl ⟨hij, (Option.some.inj h).symm⟩
    · rw [if_neg (show ¬ j = (st.heap.kill b).next from hij)] at h
      split at h
      · cases h
      · rename_i hjb
        exact .inr ⟨hr.heap.lt j c h, hjb, h⟩
  have hfoot : ∀ g, Foot (upd σ st.heap.next p) ((st.heap.kill b).alloc nb) g → Foot σ st.heap g := fun g ⟨j, c, h, e⟩ => by
    rcases hget j c h with ⟨rfl, rfl⟩ | ⟨hj, _, h⟩
    · rw [upd_at, hp] at e; exact ⟨b, blk, hb, e⟩
    · rw [hσ j hj] at e; exact ⟨j, c, h, e⟩
  refine ⟨.normal, ⟨⟨fun j c h => ?_, fun j c h => ?_, fun j k c c' h h' hjk hc => ?_, hr.heap.glob, fun j c g l h hc hg => ?_⟩, ⟨fun j c h => ?_, fun j c h hc hf => hr.loc.far j c h hc (hfoot _ hf), hr.loc.inj, hr.loc.glob, hr.loc.lt⟩, hr.env.mono (Nat.le_succ _) hσ (Nat.le_refl _) (fun _ _ => rfl), hr.defers⟩, hσ, Nat.le_succ _, Nat.le_refl _, fun _ _ => rfl, ⟨rfl, rfl, rfl, Nat.le_refl _, fun _ _ _ => rfl, ?_, ?_⟩⟩
  · rcases hget j c h with ⟨rfl, rfl⟩ | ⟨hj, _, h⟩
    · exact Nat.lt_succ_self _
    · exact Nat.lt_succ_of_lt hj
  · rcases hget j c h with ⟨rfl, rfl⟩ | ⟨hj, _, h⟩
    · rw [upd_at]; exact hn
    · rw [hσ j hj]
      exact (hr.heap.blk j c h).mono (Nat.le_succ _) hσ (Nat.le_refl _) rfl
  · rcases hget j c h with ⟨hj, h1⟩ | ⟨hj, hjb, h1⟩ <;> rcases hget k c' h' with ⟨hk, h2⟩ | ⟨hk, hkb, h2⟩
    · exact absurd (hj.trans hk.symm) hjk
    · rw [hj, upd_at, hσ k hk, hp]
      exact hr.heap.sep b k blk c' hb h2 (fun e => hkb e.symm) hl
    · rw [hk, upd_at, hσ j hj, hp]
      exact hr.heap.sep j b c blk h1 hb hjb hc
    · rw [hσ j hj, hσ k hk]
      exact hr.heap.sep j k c c' h1 h2 hjk hc
  · rcases hget j c h with ⟨rfl, rfl⟩ | ⟨hj, _, h⟩
    · rw [upd_at, hp]
      exact hr.heap.globFar b blk g l hb hl hg
    · rw [hσ j hj]
      exact hr.heap.globFar j c g l h hc hg
  · exact (hr.loc.blk j c h).mono (Nat.le_succ _) hσ fun _ => rfl
  · rintro g (⟨j, c, h, hc, e⟩ | hg)
    · rcases hget j c h with ⟨rfl, rfl⟩ | ⟨hj, _, h⟩
      · rw [upd_at, hp] at e; exact .inl (.inl ⟨b, blk, hb, hl, e⟩)
      · rw [hσ j hj] at e; exact .inl (.inl ⟨j, c, h, hc, e⟩)
    · exact .inl (.inr hg)
  · rintro g (hg | hg)
    · exact .inl (.inl (hfoot g hg))
    · exact .inl (.inr hg)
/-- A block is let go. -/
theorem AQ1.kill {σ : Nat → Pl} {lam : Nat → Nat} {w : World} {a : Act} (hr : Rel G σ lam st w a) (b : Nat) :
    AQ1 G σ lam st w .normal { st with heap := st.heap.kill b } .normal a w σ lam := by
  have hget : ∀ (j : Nat) (c : ABlk), (st.heap.kill b).get j = some c → st.heap.get j = some c := fun j c h => by
    rw [AHeap.get_kill] at h
    split at h
    · cases h
    · exact h
  have hfoot : ∀ g, Foot σ (st.heap.kill b) g → Foot σ st.heap g := fun g ⟨j, c, h, e⟩ => ⟨j, c, hget j c h, e⟩
  exact ⟨.normal, ⟨⟨fun j c h => hr.heap.lt j c (hget j c h), fun j c h => hr.heap.blk j c (hget j c h), fun j k c c' h h' => hr.heap.sep j k c c' (hget j c h) (hget k c' h'), hr.heap.glob, fun j c g l h => hr.heap.globFar j c g l (hget j c h)⟩,
    ⟨hr.loc.blk, fun j c h hc hf => hr.loc.far j c h hc (hfoot _ hf), hr.loc.inj, hr.loc.glob, hr.loc.lt⟩, hr.env, hr.defers⟩, fun _ _ => rfl, Nat.le_refl _, Nat.le_refl _, fun _ _ => rfl, ⟨rfl, rfl, rfl, Nat.le_refl _, fun _ _ _ => rfl,
    fun g hg => .inl (hg.imp (fun ⟨j, c, h, hc, e⟩ => ⟨j, c, hget j c h, hc, e⟩) id), fun g hg => .inl (hg.imp (hfoot g) id)⟩⟩
/-- A draw. -/
theorem AQ1.drew {σ : Nat → Pl} {lam : Nat → Nat} {w : World} {a : Act} (hr : Rel G σ lam st w a) : AQ1 G σ lam st w .normal st .normal a w.drew σ lam :=
  ⟨.normal, ⟨hr.heap.world (Nat.le_refl _) (fun _ _ => rfl) (fun _ _ _ => rfl), hr.loc.world (Nat.le_refl _) (fun _ _ _ _ => rfl), hr.env, hr.defers⟩, fun _ _ => rfl, Nat.le_refl _, Nat.le_refl _, fun _ _ => rfl, ⟨rfl, rfl, rfl, Nat.le_refl _, fun _ _ _ => rfl, fun _ h => .inl h, fun _ h => .inl h⟩⟩
/-- What is appended: how many elements, their cells. -/
def asrc (H : AHeap) (es : Nat) : AVal → Option (Nat × List AVal)
  | .str s => if es = 1 then some (s.length, s.map fun c => .int .u8 c.toNat) else none
  | .sl b o n _ => (match H.get b with
    | some (.cells es' l _) => if es' = es ∧ o + n * es ≤ l.length then some (n, (l.drop o).take (n * es)) else none
    | _ => none)
  | .esl => some (0, [])
  | .nilsl => some (0, [])
  | _ => none
theorem run_firstCells_slice {σ : Nat → Pl} {lam : Nat → Nat} {w w' : World} {a : Act} (hr : Rel G σ lam st w a) (hw : w'.heap = w.heap) {b o n es C : Nat} {l : List AVal} {es' : Nat} {rw : Bool} (hb : st.heap.get b = some (.cells es' l rw)) (hl : o + n * es ≤ l.length) :
    ∃ news, (Builtin.firstCells es n (.slice (some ⟨(σ b).g, (σ b).off + o, none⟩) n C)).run P w' = .ok news w' ∧ VRs σ st.heap.next ((l.drop o).take (n * es)) news ∧ ∀ j, j < n * es → news[j]? = w.cell? ⟨(σ b).g, (σ b).off + o + j, none⟩ := by
  have hcell : ∀ j, w'.cell? j = w.cell? j := fun j => by unfold World.cell?; rw [hw]
  have hA : st.at G (.v (.ptr b o)) = some (l, o) := by simp [St.at, hb]
  have hlt := hr.heap.lt b _ hb
  obtain ⟨g, off, h1, h2⟩ := at_rel hr (t := .v (.ptr b o)) (V := .pointer (some ⟨(σ b).g, (σ b).off + o, none⟩)) (.ptr b o hlt) hA
  cases h1
  have hex : ∀ j, j < n * es → ∃ V, w'.cell? ⟨(σ b).g, (σ b).off + o + j, none⟩ = some V := fun j hj => by
    obtain ⟨U, hU, _⟩ := h2 j (l[o + j]'(by omega)) (List.getElem?_eq_getElem (by omega))
    exact ⟨U, by rw [hcell]; exact hU⟩
  obtain ⟨r, h3, h4, h5⟩ := run_loadCells (P := P) hex
  refine ⟨r, h3, ⟨by simp [h4]; omega, fun j v V hv hV => ?_⟩, fun j hj => by rw [h5 j hj, hcell]⟩
  have hj : j < n * es := by rw [← h4]; exact (Array.getElem?_eq_some_iff.1 hV).1
  rw [List.getElem?_take, if_pos hj, List.getElem?_drop] at hv
  obtain ⟨U, hU, hR⟩ := h2 j v hv
  rw [h5 j hj, hcell, hU] at hV
  cases hV
  exact hR
theorem asrc_rel {σ : Nat → Pl} {lam : Nat → Nat} {w : World} {a : Act} (hr : Rel G σ lam st w a) {es n : Nat} {y : AVal} {Y : Value} {cs : List AVal} (hy : VR σ st.heap.next y Y) (h : asrc st.heap es y = some (n, cs)) :
    (Builtin.lenOf Y).run P w = .ok n w ∧ ∃ news, VRs σ st.heap.next cs news ∧ ∀ w' : World, w'.heap = w.heap → (Builtin.firstCells es n Y).run P w' = .ok news w' := by
  cases hy with
  | str s =>
    simp only [asrc] at h
    split at h
    · rename_i he
      cases h
      subst he
      refine ⟨by simp [Builtin.lenOf, mk_size], s.toArray.map fun b => .int .u8 b.toNat, ⟨by simp, fun i v V hv hV => ?_⟩, fun w' hw => ?_⟩
      · simp only [List.getElem?_map] at hv
        simp only [Array.getElem?_map, List.getElem?_toArray] at hV
        cases hs : s[i]? with
        | none => rw [hs] at hv; cases hv
        | some c =>
          rw [hs] at hv hV
          cases hv; cases hV
          exact .int _ _
      · simp [Builtin.firstCells, mk_extract]
    · cases h
  | slx b o len k hb hl =>
    simp only [asrc] at h
    split at h
    · rename_i es' l rw hg
      split at h
      · rename_i hc
        cases h
        refine ⟨rfl, ?_⟩
        obtain ⟨news, h1, h2, h3⟩ := run_firstCells_slice (P := P) (C := k) hr rfl hg hc.2
        refine ⟨news, h2, fun w' hw => ?_⟩
        obtain ⟨news', h1', h2', h3'⟩ := run_firstCells_slice (P := P) (C := k) hr hw hg hc.2
        rw [h1']
        have : news' = news := by
          apply Array.ext_getElem?
          intro j
          rcases Nat.lt_or_ge j (n * es) with hj | hj
          · rw [h3 j hj, h3' j hj]
          · have e1 := h2.1
            have e2 := h2'.1
            simp at e1 e2
            rw [Array.getElem?_eq_none (by omega), Array.getElem?_eq_none (by omega)]
        rw [this]
      · cases h
    · cases h
  | slr b o len k hb hl =>
    simp only [asrc] at h
    split at h
    · rename_i es' l rw hg
      split at h
      · rename_i hc
        cases h
        refine ⟨rfl, ?_⟩
        obtain ⟨news, h1, h2, h3⟩ := run_firstCells_slice (P := P) (C := (σ b).cap - k) hr rfl hg hc.2
        refine ⟨news, h2, fun w' hw => ?_⟩
        obtain ⟨news', h1', h2', h3'⟩ := run_firstCells_slice (P := P) (C := (σ b).cap - k) hr hw hg hc.2
        rw [h1']
        have : news' = news := by
          apply Array.ext_getElem?
          intro j
          rcases Nat.lt_or_ge j (n * es) with hj | hj
          · rw [h3 j hj, h3' j hj]
          · have e1 := h2.1
            have e2 := h2'.1
            simp at e1 e2
            rw [Array.getElem?_eq_none (by omega), Array.getElem?_eq_none (by omega)]
        rw [this]
      · cases h
    · cases h
  | esl A C =>
    cases h
    refine ⟨rfl, #[], ⟨rfl, fun i v V hv => by simp at hv⟩, fun w' _ => ?_⟩
    cases A <;> simp [Builtin.firstCells, loadCells, loadCellsFrom]
  | nilsl =>
    cases h
    exact ⟨rfl, #[], ⟨rfl, fun i v V hv => by simp at hv⟩, fun w' _ => rfl⟩
  | _ => cases h
/-- What append comes to. -/
inductive AppR (es : Nat) (H : AHeap) : AVal → Nat → List AVal → AVal → AHeap → Prop where
  | nil0 (cs : List AVal) : AppR es H .nilsl 0 cs .nilsl H
  | nil (n : Nat) (cs : List AVal) (h : 0 < n) : AppR es H .nilsl n cs (.sl H.next 0 n (.rest 0)) (H.alloc (.cells es cs true))
  | esl (cs : List AVal) : AppR es H .esl 0 cs .esl H
  | none_ (b o len : Nat) (c : Cap) (cs : List AVal) : AppR es H (.sl b o len c) 0 cs (.sl b o len c) H
  | rest (b o len k n : Nat) (l cs : List AVal) (hb : H.get b = some (.cells es l true)) (hl : o + len * es ≤ l.length) (ho : o = k * es) :
      AppR es H (.sl b o len (.rest k)) n cs (.sl H.next 0 (len + n) (.rest 0)) ((H.kill b).alloc (.cells es ((l.drop o).take (len * es) ++ cs) true))
  | exact (b o len m n : Nat) (l cs : List AVal) (rw : Bool) (hb : H.get b = some (.cells es l rw)) (hl : o + len * es ≤ l.length) (hm : m < len + n) :
      AppR es H (.sl b o len (.exact m)) n cs (.sl H.next 0 (len + n) (.rest 0)) (H.alloc (.cells es ((l.drop o).take (len * es) ++ cs) true))
end
end Go.Abs
namespace Go.Abs
section
variable {P : Program} {G : Nat → Option (List AVal)} {st : St}
def aappend (P : Program) (t0 t1 : TypeId) (x y : TVal) (K : TVal → St → Prop) (st : St) : Prop := match P.underlying t0, P.underlying t1, x, y with
  | some (.slice e), some d1, .v vx, .v vy => (match P.info? e with
    | some i => (match i.zero with
      | some z => if notInt d1 && decide (0 < i.bytes) && decide (z.cells.size = i.size) then
          ∃ n cs len r H', asrc st.heap i.size vy = some (n, cs) ∧ slen vx = some len ∧ (len + n) * i.bytes ≤ 140737488355328 ∧ (∀ v ∈ cs, okCell v = true) ∧ AppR i.size st.heap vx n cs r H' ∧ K (.v r) { st with heap := H' }
        else False
      | none => False)
    | none => False)
  | _, _, _, _ => False
theorem BlkR.row {σ : Nat → Pl} {N cap es : Nat} {w : World} {l : List AVal} {cs : Array Value} {e : TypeId} (h : ∀ (i : Nat) (v : AVal), l[i]? = some v → ∃ V, cs[i]? = some V ∧ VR σ N v V) (h1 : l.length ≤ cap * es) (h2 : cap * es ≤ cs.size) :
    BlkR σ N ⟨w.heap.size, 0, cap⟩ (w.alloc (.cells cs e)) (.cells es l true) :=
  ⟨cs, e, (0, 0), heap_alloc_at w _, by simp, h1, by simpa using h2, fun i v hv => by simpa using h i v hv⟩
theorem AQ1.newRow {σ : Nat → Pl} {lam : Nat → Nat} {w : World} {a : Act} (hr : Rel G σ lam st w a) {es cap : Nat} {l : List AVal} {cs rest : Array Value} {e : TypeId} (h : VRs σ st.heap.next l cs) (h1 : l.length ≤ cap * es) (h2 : cap * es ≤ (cs ++ rest).size) :
    AQ1 G σ lam st w .normal { st with heap := st.heap.alloc (.cells es l true) } .normal a (w.alloc (.cells (cs ++ rest) e)) (upd σ st.heap.next ⟨w.heap.size, 0, cap⟩) lam :=
  AQ1.newHeap hr _ _ cap (BlkR.row (fun i v hv => by
    have hi : i < cs.size := by rw [h.1]; exact (List.getElem?_eq_some_iff.1 hv).1
    exact ⟨cs[i], by rw [Array.getElem?_append_left hi]; simp [hi], (h.2 i v _ hv (by simp [hi])).mono (Nat.le_succ _) (fun b hb => upd_lt _ _ _ hb)⟩) h1 h2)
theorem slr_new {σ : Nat → Pl} {N cap n g off : Nat} (h : n ≤ cap) : VR (upd σ N ⟨g, off, cap⟩) (N + 1) (.sl N 0 n (.rest 0)) (.slice (some ⟨g, off, none⟩) n cap) := by
  have := VR.slr (σ := upd σ N ⟨g, off, cap⟩) (N := N + 1) N 0 n 0 (Nat.lt_succ_self _) (by rw [upd_at]; simpa using h)
  rw [upd_at] at this
  simpa using this
theorem zero_size (z : Value) (n : Nat) : (Builtin.zeroCells z.cells n).size = n * z.cells.size := by simp [Builtin.zeroCells]
/-- The new row of an append that makes one. -/
theorem app_out {σ : Nat → Pl} {lam : Nat → Nat} {w : World} {a : Act} {t0 t1 ty e : TypeId} {d1 : TypeDesc} {i : TypeInfo} {z : Value} (hr : Rel G σ lam st w a) (h0 : P.underlying t0 = some (.slice e)) (h1 : P.underlying t1 = some d1) (hd : notInt d1 = true) (hi : P.info? e = some i)
    (hz : i.zero = some z) (hb : 0 < i.bytes) (hzs : z.cells.size = i.size) {base : Option Addr} {len cap n : Nat} {Y : Value} {old cs : List AVal} {Old News : Array Value}
    (hY : (Builtin.lenOf Y).run P w = .ok n w) (hn : (Builtin.firstCells i.size n Y).run P w.drew = .ok News w.drew) (hc : cap < len + n) (hold : (Builtin.firstCells i.size len (.slice base len cap)).run P w.drew = .ok Old w.drew)
    (ho : VRs σ st.heap.next old Old) (hnn : VRs σ st.heap.next cs News) (hol : old.length = len * i.size) (hcl : cs.length = n * i.size) (hfit : (len + n) * i.bytes ≤ 140737488355328) :
    ∃ V w' σ', (Builtin.append_ #[t0, t1] ty #[.slice base len cap, Y]).run P w = .ok V w' ∧ OR G σ lam st w a (.v (.sl st.heap.next 0 (len + n) (.rest 0))) { st with heap := st.heap.alloc (.cells i.size (old ++ cs) true) } V w' σ' lam := by
  have hrun := run_append_out (P := P) (ty := ty) h0 h1 hd hi hz hb hY hn hc hold hfit
  have hge := grownCap_ge w (len + n) cap e
  have q := AQ1.drew hr
  have q2 := AQ1.newRow (es := i.size) (cap := grownCap w (len + n) cap e) (l := old ++ cs) (cs := Old ++ News) (rest := Builtin.zeroCells z.cells (grownCap w (len + n) cap e - (len + n))) (e := e) q.rel (ho.append hnn)
    (by rw [List.length_append, hol, hcl, ← Nat.add_mul]; exact Nat.mul_le_mul_right _ hge)
    (by
      have e1 := ho.1
      have e2 := hnn.1
      simp only [Array.size_append, zero_size, hzs, e1, e2, hol, hcl, ← Nat.add_mul]
      exact Nat.mul_le_mul_right _ (by omega))
  exact ⟨_, _, _, hrun, ⟨q.trans q2, slr_new hge, fun k o he => by cases he⟩⟩
theorem asrc_len {H : AHeap} {es n : Nat} {y : AVal} {cs : List AVal} (h : asrc H es y = some (n, cs)) : cs.length = n * es := by
  cases y <;> simp only [asrc] at h
  case str s =>
    split at h
    · rename_i he
      cases h
      simp [he]
    · cases h
  case sl b o m c =>
    split at h
    · split at h
      · cases h
        simp; omega
      · cases h
    · cases h
  case esl => cases h; simp
  case nilsl => cases h; simp
  all_goals cases h
theorem AO.append {o : Oper} {t0 t1 : TypeId} {x y : Operand} {K : TVal → St → Prop} {Kx : AVal → St → Prop} (ho : o.op = .call { callee := .builtin .append, args := #[x, y], argTypes := #[t0, t1] })
    (h : aappend P t0 t1 (st.ev x) (st.ev y) K st) : AO P G o K Kx st := by
  unfold aappend at h
  split at h
  · rename_i e d1 vx vy h0 h1 hx hy
    split at h
    · rename_i i hi
      split at h
      · rename_i z hz
        split at h
        · rename_i hc
          simp only [Bool.and_eq_true, decide_eq_true_eq] at hc
          obtain ⟨⟨hd, hb⟩, hzs⟩ := hc
          obtain ⟨n, cs, len, r, H', hsrc, hlen, hfit, hok, hA, hK⟩ := h
          refine AO.valueW hK fun σ lam w a hr => ?_
          have hX := ev_rel hr x
          rw [hx] at hX
          have hY := ev_rel hr y
          rw [hy] at hY
          obtain ⟨hl, News, hN, hrunN⟩ := asrc_rel (P := P) hr hY hsrc
          have hcl := asrc_len hsrc
          have hop : ∀ V w', (Builtin.append_ #[t0, t1] o.type #[a.eval x, a.eval y]).run P w = .ok V w' → (execOp a.eval o).run P w = .ok (.value V) w' := fun V w' h => by
            simp [execOp, ho, resolve, invoke, builtin, h]
          cases hA with
          | nil0 =>
            have hcs : cs = [] := List.eq_nil_of_length_eq_zero (by simpa using hcl)
            have hX' : a.eval x = .slice none 0 0 := by
              generalize a.eval x = V at hX
              cases hX; rfl
            refine ⟨.slice none 0 0, w, σ, lam, hop _ _ ?_, ⟨.refl .normal hr, .nilsl, fun k o he => by cases he⟩⟩
            have hNe : News = #[] := by
              have := hN.1
              rw [hcs] at this
              simpa using this
            rw [hX']
            have hrn := hrunN w rfl
            rw [hNe] at hrn
            simp only [Builtin.append_, List.getElem?_toArray, List.getElem?_cons_zero, List.getElem?_cons_succ, Sem.run_bind, run_underlying h0, run_underlying h1, Result.andThen_ok, run_size hi]
            cases d1 <;> first
              | (simp [notInt] at hd; done)
              | (simp only [Sem.run_pure, Result.andThen_ok, Bool.false_eq_true, if_false, hl, Nat.add_zero, Nat.le_refl, if_true, Bool.not_false, Sem.run_bind, hrn])
          | nil _ _ hn =>
            have hX' : a.eval x = .slice none 0 0 := by
              generalize a.eval x = V at hX
              cases hX; rfl
            simp only [slen, Option.some.injEq] at hlen
            subst hlen
            obtain ⟨V, w', σ', h2, h3⟩ := app_out (P := P) (ty := o.type) (base := none) (len := 0) (cap := 0) (old := []) (Old := #[]) hr h0 h1 hd hi hz hb hzs hl (hrunN w.drew rfl) (by omega) rfl ⟨rfl, fun i v V hv => by simp at hv⟩ hN (by simp) hcl hfit
            refine ⟨V, w', σ', lam, hop _ _ (by rw [hX']; exact h2), ?_⟩
            simpa using h3
          | esl =>
            have hcs : cs = [] := List.eq_nil_of_length_eq_zero (by simpa using hcl)
            have hX' : ∃ A C, a.eval x = .slice A 0 C := by
              generalize a.eval x = V at hX
              cases hX; exact ⟨_, _, rfl⟩
            obtain ⟨A, C, hX'⟩ := hX'
            have hNe : News = #[] := by
              have := hN.1
              rw [hcs] at this
              simpa using this
            have hrn := hrunN w rfl
            rw [hNe] at hrn
            refine ⟨.slice A 0 C, w, σ, lam, hop _ _ ?_, ⟨.refl .normal hr, .esl _ _, fun k o he => by cases he⟩⟩
            rw [hX']
            simp only [Builtin.append_, List.getElem?_toArray, List.getElem?_cons_zero, List.getElem?_cons_succ, Sem.run_bind, run_underlying h0, run_underlying h1, Result.andThen_ok, run_size hi]
            cases d1 <;> first
              | (simp [notInt] at hd; done)
              | (simp only [Sem.run_pure, Result.andThen_ok, Bool.false_eq_true, if_false, hl, Nat.add_zero, Nat.zero_le, if_true, Bool.not_false, Sem.run_bind, hrn]
                 cases A <;> simp [storeCells])
          | none_ b o' len0 c0 =>
            have hcs : cs = [] := List.eq_nil_of_length_eq_zero (by simpa using hcl)
            have hX' : ∃ A C, a.eval x = .slice A len0 C ∧ len0 ≤ C := by
              generalize a.eval x = V at hX
              cases hX with
              | slx _ _ _ m _ hm => exact ⟨_, _, rfl, hm⟩
              | slr _ _ _ k _ hk => exact ⟨_, _, rfl, by omega⟩
            obtain ⟨A, C, hX', hlC⟩ := hX'
            have hNe : News = #[] := by
              have := hN.1
              rw [hcs] at this
              simpa using this
            have hrn := hrunN w rfl
            rw [hNe] at hrn
            rw [hX'] at hX
            refine ⟨.slice A len0 C, w, σ, lam, hop _ _ ?_, ⟨.refl .normal hr, hX, fun k o he => by cases he⟩⟩
            rw [hX']
            simp only [Builtin.append_, List.getElem?_toArray, List.getElem?_cons_zero, List.getElem?_cons_succ, Sem.run_bind, run_underlying h0, run_underlying h1, Result.andThen_ok, run_size hi]
            cases d1 <;> first
              | (simp [notInt] at hd; done)
              | (simp only [Sem.run_pure, Result.andThen_ok, Bool.false_eq_true, if_false, hl, Nat.add_zero, hlC, if_true, Bool.not_false, Sem.run_bind, hrn]
                 cases A <;> simp [storeCells])
          | exact b o' _ m _ l _ rw hbk hbl hm =>
            simp only [slen, Option.some.injEq] at hlen
            subst hlen
            rename_i len
            have hX' : a.eval x = .slice (some ⟨(σ b).g, (σ b).off + o', none⟩) len m := by
              generalize a.eval x = V at hX
              cases hX; rfl
            obtain ⟨Old, h4, h5, _⟩ := run_firstCells_slice (P := P) (w' := w.drew) (C := m) hr rfl hbk hbl
            obtain ⟨V, w', σ', h2, h3⟩ := app_out (P := P) (ty := o.type) hr h0 h1 hd hi hz hb hzs hl (hrunN w.drew rfl) hm h4 h5 hN (by simp; omega) hcl hfit
            exact ⟨V, w', σ', lam, hop _ _ (by rw [hX']; exact h2), h3⟩
          | rest b o' _ k _ l _ hbk hbl hok' =>
            simp only [slen, Option.some.injEq] at hlen
            subst hlen
            rename_i len
            have hX' : a.eval x = .slice (some ⟨(σ b).g, (σ b).off + o', none⟩) len ((σ b).cap - k) ∧ len + k ≤ (σ b).cap := by
              generalize a.eval x = V at hX
              cases hX; exact ⟨rfl, by assumption⟩
            obtain ⟨hX', hlk⟩ := hX'
            obtain ⟨cells, ty, fr, g1, g2, g3, g4, g5⟩ := hr.heap.blk b _ hbk
            by_cases hroom : len + n ≤ (σ b).cap - k
            · -- there is room
              have hmul : (k + len + n) * i.size ≤ (σ b).cap * i.size := Nat.mul_le_mul_right _ (by omega)
              have hex : (k + len + n) * i.size = k * i.size + len * i.size + n * i.size := by rw [Nat.add_mul, Nat.add_mul]
              have hone : ∀ u ∈ News.toList, one u = true := fun u hu => by
                obtain ⟨j, hj, rfl⟩ := List.mem_iff_getElem.1 hu
                have hj' : j < cs.length := by rw [← hN.1]; simpa using hj
                exact okCell.one (hN.2 j cs[j] News.toList[j] (by simp [hj']) (by rw [← Array.getElem?_toList]; simp [hj])) (hok _ (List.getElem_mem hj'))
              have hNs : News.size = n * i.size := by rw [hN.1, hcl]
              have hrun := run_append_in (P := P) (ty := o.type) h0 h1 hd hi (o := (σ b).off + o') hl (hrunN w rfl) hroom g1 hone (by rw [hNs]; subst hok'; omega) g2
              let p : Pl := ⟨(σ b).g, (σ b).off + o', (σ b).cap - k⟩
              have hsub : ((σ b).cap - k) * i.size = (σ b).cap * i.size - k * i.size := Nat.sub_mul _ _ _
              have hck : k * i.size ≤ (σ b).cap * i.size := Nat.mul_le_mul_right _ (by omega)
              have hll : len * i.size ≤ ((σ b).cap - k) * i.size := Nat.mul_le_mul_right _ (by omega)
              have hren := AQ1.rename hr hbk rfl (nb := .cells i.size ((l.drop o').take (len * i.size)) true) rfl p rfl ⟨cells, ty, fr, g1, g2, by simp only [List.length_take, List.length_drop, p]; omega, by simp only [p]; subst hok'; omega, fun j v hv => by
                have hj : j < len * i.size := by
                  have := (List.getElem?_eq_some_iff.1 hv).1
                  simp at this; omega
                rw [List.getElem?_take, if_pos hj, List.getElem?_drop] at hv
                obtain ⟨U, hU, hR⟩ := g5 _ v hv
                exact ⟨U, by simp only [p]; rw [Nat.add_assoc]; exact hU, hR.mono (Nat.le_succ _) (fun c hc => upd_lt _ _ _ hc)⟩⟩
              have hold : ((st.heap.kill b).alloc (.cells i.size ((l.drop o').take (len * i.size)) true)).get st.heap.next = some (.cells i.size ((l.drop o').take (len * i.size)) true) := by
                rw [AHeap.get_alloc, if_pos (show st.heap.next = (st.heap.kill b).next from rfl)]
              have hset := AQ1.setHeap hren.rel (b := st.heap.next) hold rfl (nb := .cells i.size ((l.drop o').take (len * i.size) ++ cs) true) (.cells (wr cells ((σ b).off + o' + len * i.size) News.toList) ty fr)
                (by
                  rw [upd_at]
                  refine ⟨_, ty, fr, setBlk_at _ _ _ (Array.getElem?_eq_some_iff.1 g1).1, by simpa [wr_size] using g2, ?_, ?_, fun j v hv => ?_⟩
                  · simp only [List.length_append, List.length_take, List.length_drop, p, hcl]
                    have : (len + n) * i.size ≤ ((σ b).cap - k) * i.size := Nat.mul_le_mul_right _ hroom
                    rw [Nat.add_mul] at this
                    omega
                  · rw [wr_size]; simp only [p]; subst hok'; omega
                  · have hLl : ((l.drop o').take (len * i.size)).length = len * i.size := by simp; omega
                    have hNl : News.toList.length = n * i.size := by simpa using hNs
                    simp only [p]
                    rw [wr_get _ _ _ (by rw [hNl]; subst hok'; omega)]
                    rcases Nat.lt_or_ge j (len * i.size) with hj | hj
                    · rw [List.getElem?_append_left (by omega), List.getElem?_take, if_pos hj, List.getElem?_drop] at hv
                      obtain ⟨U, hU, hR⟩ := g5 _ v hv
                      rw [if_neg (by omega)]
                      exact ⟨U, by rw [Nat.add_assoc]; exact hU, hR.mono (Nat.le_succ _) (fun c hc => upd_lt _ _ _ hc)⟩
                    · rw [List.getElem?_append_right (by omega), hLl] at hv
                      have hjn : j - len * i.size < cs.length := (List.getElem?_eq_some_iff.1 hv).1
                      rw [if_pos (by rw [hNl]; omega)]
                      have e1 : (σ b).off + o' + j - ((σ b).off + o' + len * i.size) = j - len * i.size := by omega
                      rw [e1]
                      have hjN : j - len * i.size < News.size := by omega
                      refine ⟨News[j - len * i.size], by simp [hjN], (hN.2 _ v _ hv (by simp [hjN])).mono (Nat.le_succ _) (fun c hc => upd_lt _ _ _ hc)⟩) rfl
              refine ⟨_, _, upd σ st.heap.next p, lam, hop _ _ (by rw [hX']; exact hrun), ⟨?_, slr_new (by omega), fun k o he => by cases he⟩⟩
              have hq := hren.trans hset
              rw [upd_at] at hq
              simp only [AHeap.alloc_set, show st.heap.next = (st.heap.kill b).next from rfl] at hq ⊢
              exact hq
            · -- a new row
              have hkill := AQ1.kill hr b
              obtain ⟨Old, h4, h5, _⟩ := run_firstCells_slice (P := P) (w' := w.drew) (C := (σ b).cap - k) hr rfl hbk hbl
              obtain ⟨V, w', σ', h2, h3⟩ := app_out (P := P) (ty := o.type) (st := { st with heap := st.heap.kill b }) hkill.rel h0 h1 hd hi hz hb hzs hl (hrunN w.drew rfl) (by omega) h4 h5 hN (by simp; omega) hcl hfit
              exact ⟨V, w', σ', lam, hop _ _ (by rw [hX']; exact h2), ⟨hkill.trans h3.q, h3.tr, h3.lp⟩⟩
        · exact h.elim
      · exact h.elim
    · exact h.elim
  · exact h.elim
end
end Go.Abs
namespace Go.Abs
section
variable {P : Program} {G : Nat → Option (List AVal)} {st : St}
theorem foldl_wr : ∀ (l : List Value) (cs : Array Value) (off k : Nat), (l.zipIdx k).foldl (fun cs (p : Value × Nat) => cs.setIfInBounds (off + p.2) p.1) cs = wr cs (off + k) l
  | [], cs, off, k => rfl
  | v :: r, cs, off, k => by
    simp only [List.zipIdx_cons, List.foldl_cons, wr]
    rw [foldl_wr r _ off (k + 1)]
    rfl
theorem fill_step (v : Value) (cs : Array Value) (off : Nat) : v.cells.zipIdx.foldl (fun cs (c, j) => cs.setIfInBounds (off + j) c) cs = wr cs off v.cells.toList := by
  have := foldl_wr v.cells.toList cs off 0
  rw [Nat.add_zero] at this
  rw [← this, ← Array.foldl_toList]
  simp [Array.toList_zipIdx]
/-- The parts of an aggregate. -/
def partVals (st : St) : List (Nat × Operand) → Option (List (Nat × List AVal))
  | [] => some []
  | (i, x) :: r => match storeVals' (st.ev x), partVals st r with
    | some vs, some l => some ((i, vs) :: l)
    | _, _ => none
where storeVals' : TVal → Option (List AVal)
  | .v v => acells v
  | _ => none
def afill (place : Nat → Option (Nat × Nat)) (cells : List AVal) : List (Nat × List AVal) → Option (List AVal)
  | [] => some cells
  | (i, vs) :: r => match place i with
    | some (off, size) => if vs.length = size ∧ off + vs.length ≤ cells.length then afill place (lset cells off vs) r else none
    | none => none
theorem afill_rel {σ : Nat → Pl} {lam : Nat → Nat} {w : World} {a : Act} (hr : Rel G σ lam st w a) (place : Nat → Option (Nat × Nat)) : ∀ (parts : List (Nat × Operand)) (pv : List (Nat × List AVal)) (cells out : List AVal) (Cells : Array Value),
    partVals st parts = some pv → afill place cells pv = some out → VRs σ st.heap.next cells Cells → ∃ Out, Instr.fill place Cells (parts.map fun p => (p.1, a.eval p.2)) = some Out ∧ VRs σ st.heap.next out Out
  | [], pv, cells, out, Cells, hp, hf, hc => by
    simp [partVals] at hp
    subst hp
    simp [afill] at hf
    subst hf
    exact ⟨Cells, rfl, hc⟩
  | (i, x) :: r, pv, cells, out, Cells, hp, hf, hc => by
    simp only [partVals] at hp
    split at hp
    · rename_i vs l hv hl
      cases hp
      simp only [afill] at hf
      split at hf
      · rename_i off size hpl
        split at hf
        · rename_i hcond
          have hV : VRs σ st.heap.next vs (a.eval x).cells := by
            have h1 := ev_rel hr x
            cases hx : st.ev x with
            | v u =>
              rw [hx] at h1 hv
              exact acells_rel h1 hv
            | lp k o => rw [hx] at hv; cases hv
          have hnew : VRs σ st.heap.next (lset cells off vs) (wr Cells off (a.eval x).cells.toList) := by
            refine ⟨by rw [wr_size, lset_length]; exact hc.1, fun j v V hj hJ => ?_⟩
            have := wr_rel (σ := σ) (N := st.heap.next) (l := cells) (cs := Cells) (off := 0) (o := off) (fun j v hj => ⟨Cells[j]'(by rw [hc.1]; exact (List.getElem?_eq_some_iff.1 hj).1), by simp, hc.2 j v _ hj (by simp)⟩) hV hcond.2 (by rw [hc.1]; omega) j v hj
            simp only [Nat.zero_add] at this
            obtain ⟨V', h5, h6⟩ := this
            rw [hJ] at h5
            cases h5
            exact h6
          obtain ⟨Out, h2, h3⟩ := afill_rel hr place r l _ out _ hl hf hnew
          refine ⟨Out, ?_, h3⟩
          simp only [List.map_cons, Instr.fill, hpl]
          rw [if_neg (by rw [hV.1, hc.1, hcond.1]; have := hcond.2; rw [hcond.1] at this; simp; omega), fill_step]
          exact h2
        · cases hf
      · cases hf
    · cases hp
theorem zero_rel (σ : Nat → Pl) (N : Nat) (z : Value) : VRs σ N (z.cells.toList.map ofZero1) z.cells := by
  refine ⟨by simp, fun i v V hv hV => ?_⟩
  simp only [List.getElem?_map, Array.getElem?_toList, hV, Option.map_some, Option.some.injEq] at hv
  subst hv
  exact ofZero1_rel _ _ _
def fieldPl (P : Program) (fs : Array Field) (i : Nat) : Option (Nat × Nat) := match fs[i]? with
  | some f => (P.info? f.type).map fun i => (f.offset, i.size)
  | none => none
def abuild (P : Program) (t : TypeId) (parts : Option (List (Nat × List AVal))) (K : AVal → Prop) : Prop := match (P.info? t).bind (·.zero), parts, P.underlying t with
  | some z, some pv, some (.struct fs) => if fs.toList.all (fun f => (P.info? f.type).isSome) then (match afill (fieldPl P fs) (z.cells.toList.map ofZero1) pv with
    | some l => K (.agg l)
    | none => False) else False
  | some z, some pv, some (.array _ e) => (match P.info? e with
    | some ie => (match afill (fun i => some (i * ie.size, ie.size)) (z.cells.toList.map ofZero1) pv with
      | some l => K (.agg l)
      | none => False)
    | none => False)
  | _, _, _ => False
theorem run_places {fs : Array Field} (h : fs.toList.all (fun f => (P.info? f.type).isSome) = true) (w : World) :
    (fs.mapM fun f => do pure (f.offset, ← sizeOf f.type) : Sem (Array (Nat × Nat))).run P w = .ok (fs.map fun f => (f.offset, P.cellsOf f.type)) w := by
  obtain ⟨l⟩ := fs
  simp only [List.mapM_toArray, Sem.run_map]
  have : ∀ (l : List Field), l.all (fun f => (P.info? f.type).isSome) = true → (l.mapM fun f => do pure (f.offset, ← sizeOf f.type) : Sem (List (Nat × Nat))).run P w = .ok (l.map fun f => (f.offset, P.cellsOf f.type)) w := by
    intro l
    induction l with
    | nil => intro _; rfl
    | cons f r ih =>
      intro hl
      simp only [List.all_cons, Bool.and_eq_true] at hl
      obtain ⟨i, hi⟩ := Option.isSome_iff_exists.1 hl.1
      simp only [List.mapM_cons, Sem.run_bind, run_size hi, Result.andThen_ok, Sem.run_pure, ih hl.2, List.map_cons]
      simp [Program.cellsOf, hi]
  rw [this l (by simpa using h)]
  simp
theorem AVK.build {o : Oper} {t : TypeId} {parts : Array (Nat × Operand)} {K : TVal → St → Prop} (ho : o.op = .build t parts)
    (h : abuild P t (partVals st parts.toList) (fun v => K (.v v) st)) : AVK P G o K st := by
  have hparts : ∀ a : Act, ((parts.map fun (i, x) => (i, a.eval x)).toList) = parts.toList.map fun p => (p.1, a.eval p.2) := fun a => by simp
  unfold abuild at h
  split at h
  · rename_i z pv fs hz hp hu
    obtain ⟨i, hi, hz⟩ := Option.bind_eq_some_iff.1 hz
    split at h
    · rename_i hall
      split at h
      · rename_i l hl
        refine AVK.value h fun σ lam w a hr => ?_
        obtain ⟨Out, h1, h2⟩ := afill_rel hr _ _ _ _ _ _ hp hl (zero_rel _ _ z)
        refine ⟨.agg Out, ?_, .agg _ _ h2.1 h2.2, fun k o he => by cases he⟩
        have hpl : (fun x => (fs.map fun f => (f.offset, P.cellsOf f.type))[x]?) = fieldPl P fs := by
          funext k
          simp only [Array.getElem?_map, fieldPl]
          cases hk : fs[k]? with
          | none => rfl
          | some f =>
            have hf : f ∈ fs.toList := by
              have := Array.getElem?_eq_some_iff.1 hk
              obtain ⟨hlt, he⟩ := this
              rw [← he]; simp
            obtain ⟨j, hj⟩ := Option.isSome_iff_exists.1 (List.all_eq_true.1 hall f hf)
            simp [hj, Program.cellsOf]
        simp only [execOp, ho, Instr.build, Sem.run_bind, run_zero hi hz, Result.andThen_ok, run_underlying hu, run_places hall]
        rw [hparts, hpl, h1]
        rfl
      · exact h.elim
    · exact h.elim
  · rename_i z pv n e hz hp hu
    obtain ⟨i, hi, hz⟩ := Option.bind_eq_some_iff.1 hz
    split at h
    · rename_i ie hie
      split at h
      · rename_i l hl
        refine AVK.value h fun σ lam w a hr => ?_
        obtain ⟨Out, h1, h2⟩ := afill_rel hr _ _ _ _ _ _ hp hl (zero_rel _ _ z)
        refine ⟨.agg Out, ?_, .agg _ _ h2.1 h2.2, fun k o he => by cases he⟩
        simp only [execOp, ho, Instr.build, Sem.run_bind, run_zero hi hz, Result.andThen_ok, run_underlying hu, run_size hie]
        rw [hparts, h1]
        rfl
      · exact h.elim
    · exact h.elim
  · exact h.elim
/-- A new slice that is written out, and `make`. -/
def zeroRow (z : Value) (n : Nat) : List AVal := (List.range n).map fun i => ofZero1 (z.cells[i % z.cells.size]!)
def abuildSlice (P : Program) (t : TypeId) (len : Nat) (parts : Option (List (Nat × List AVal))) (K : AVal → St → Prop) (st : St) : Prop := match P.underlying t, parts with
  | some (.slice e), some pv => (match P.info? e with
    | some ie => (match ie.zero with
      | some z => if decide (len * ie.size ≤ 16777216) then (match afill (fun i => some (i * ie.size, ie.size)) (zeroRow z (len * ie.size)) pv with
        | some l => K (.sl st.heap.next 0 len (.rest 0)) { st with heap := st.heap.alloc (.cells ie.size l true) }
        | none => False) else False
      | none => False)
    | none => False)
  | _, _ => False
theorem zeroRow_rel (σ : Nat → Pl) (N : Nat) (z : Value) (n : Nat) : VRs σ N (zeroRow z n) ((Array.range n).map (z.cells[· % z.cells.size]!)) := by
  refine ⟨by simp [zeroRow], fun i v V hv hV => ?_⟩
  have hi : i < n := by
    have := (List.getElem?_eq_some_iff.1 hv).1
    simpa [zeroRow] using this
  simp [zeroRow, hi] at hv hV
  subst hv; subst hV
  exact ofZero1_rel _ _ _
theorem afill_len (place : Nat → Option (Nat × Nat)) : ∀ (pv : List (Nat × List AVal)) (cells out : List AVal), afill place cells pv = some out → out.length = cells.length
  | [], cells, out, h => by simp [afill] at h; rw [h]
  | (i, vs) :: r, cells, out, h => by
    simp only [afill] at h
    split at h
    · split at h
      · rw [afill_len place r _ _ h, lset_length]
      · cases h
    · cases h
theorem AO.buildSlice {o : Oper} {t : TypeId} {len : Nat} {parts : Array (Nat × Operand)} {K : TVal → St → Prop} {Kx : AVal → St → Prop} (ho : o.op = .buildSlice t len parts)
    (h : abuildSlice P t len (partVals st parts.toList) (fun v s => K (.v v) s) st) : AO P G o K Kx st := by
  have hparts : ∀ a : Act, ((parts.map fun (i, x) => (i, a.eval x)).toList) = parts.toList.map fun p => (p.1, a.eval p.2) := fun a => by simp
  unfold abuildSlice at h
  split at h
  · rename_i e pv hu hp
    split at h
    · rename_i ie hie
      split at h
      · rename_i z hz
        split at h
        · rename_i hsz
          split at h
          · rename_i l hl
            refine AO.valueW h fun σ lam w a hr => ?_
            obtain ⟨Out, h1, h2⟩ := afill_rel hr _ _ _ _ _ _ hp hl (zeroRow_rel _ _ z _)
            have hll : l.length = len * ie.size := by rw [afill_len _ _ _ _ hl]; simp [zeroRow]
            have q := AQ1.newRow (es := ie.size) (cap := len) (l := l) (cs := Out) (rest := #[]) (e := e) hr h2 (by omega) (by simp [h2.1, hll])
            simp only [Array.append_empty] at q
            refine ⟨_, _, _, lam, ?_, ⟨q, slr_new (Nat.le_refl _), fun k o he => by cases he⟩⟩
            have hbig : ¬ (len * ie.size > 2 ^ 24) := by
              have := of_decide_eq_true hsz
              omega
            simp only [execOp, ho, Instr.buildSlice, Sem.run_bind, run_underlying hu, Result.andThen_ok, run_size hie, if_neg hbig]
            by_cases h0 : len * ie.size = 0
            · have hrow : ∀ (f g : Nat → Value), (Array.range (len * ie.size)).map f = (Array.range (len * ie.size)).map g := fun f g => by simp [h0]
              rw [hrow _ (fun x => (#[] : Array Value)[x % (#[] : Array Value).size]!)] at h1
              simp only [if_pos h0, Sem.run_pure, Result.andThen_ok, hparts, h1, Sem.run_bind]
              rfl
            · simp only [if_neg h0, Sem.run_bind, run_zero hie hz, Sem.run_pure, Result.andThen_ok, hparts, h1]
              rfl
          · exact h.elim
        · exact h.elim
      · exact h.elim
    · exact h.elim
  · exact h.elim
end
end Go.Abs
namespace Go.Abs
section
variable {P : Program} {G : Nat → Option (List AVal)} {st : St}
theorem eval_int {σ : Nat → Pl} {lam : Nat → Nat} {w : World} {a : Act} (hr : Rel G σ lam st w a) {c : Operand} {k : IntKind} {n : Int} (h : st.ev c = .v (.int k n)) : a.eval c = .int k n := by
  have := ev_rel hr c
  rw [h] at this
  generalize a.eval c = V at this
  cases this; rfl
/-- `make` of a slice. -/
def amakeSlice (P : Program) (t : TypeId) (l c : TVal) (K : AVal → St → Prop) (st : St) : Prop := match P.underlying t, l, c with
  | some (.slice e), .v (.int _ n), .v (.int _ m) => (match P.info? e with
    | some ie => (match ie.zero with
      | some z => 0 ≤ n ∧ n ≤ m ∧ m ≤ 9223372036854775807 ∧ (ie.bytes : Int) * m ≤ 281474976710656 ∧ K (.sl st.heap.next 0 n.toNat (.rest 0)) { st with heap := st.heap.alloc (.cells ie.size (zeroRow z (n.toNat * ie.size)) true) }
      | none => False)
    | none => False)
  | _, _, _ => False
theorem wrap_id (m : Int) (h0 : 0 ≤ m) (h1 : m ≤ 9223372036854775807) : IntKind.i64.wrap m = m := IntWalk.i64_in _ (by omega)
theorem AO.makeSlice {o : Oper} {t : TypeId} {l c : Operand} {K : TVal → St → Prop} {Kx : AVal → St → Prop} (ho : o.op = .makeSlice t l c) (h : amakeSlice P t (st.ev l) (st.ev c) (fun v s => K (.v v) s) st) : AO P G o K Kx st := by
  unfold amakeSlice at h
  split at h
  · rename_i e k n k' m hu hl hc
    split at h
    · rename_i ie hie
      split at h
      · rename_i z hz
        obtain ⟨h0, h1, h2, h3, hK⟩ := h
        refine AO.valueW hK fun σ lam w a hr => ?_
        obtain ⟨n, rfl⟩ := Int.eq_ofNat_of_zero_le h0
        obtain ⟨m, rfl⟩ := Int.eq_ofNat_of_zero_le (Int.le_trans h0 h1)
        have hnm : n ≤ m := by omega
        have hw1 := wrap_id (n : Int) h0 (by omega)
        have hw2 := wrap_id (m : Int) (by omega) h2
        have hmul : n * ie.size ≤ m * ie.size := Nat.mul_le_mul_right _ hnm
        have q := AQ1.newHeap hr (.cells ie.size (zeroRow z (n * ie.size)) true) (.cells ((Array.range (m * ie.size)).map (z.cells[· % z.cells.size]!)) e) m
          (BlkR.row (fun i v hv => by
            have hi : i < n * ie.size := by simpa [zeroRow] using (List.getElem?_eq_some_iff.1 hv).1
            have hi2 : i < m * ie.size := by omega
            refine ⟨z.cells[i % z.cells.size]!, by simp [hi2], ?_⟩
            simp [zeroRow, hi] at hv
            subst hv
            exact ofZero1_rel _ _ _) (by simp [zeroRow]; omega) (by simp))
        refine ⟨.slice (some ⟨w.heap.size, 0, none⟩) n m, _, _, lam, ?_, ⟨q, slr_new hnm, fun k o he => by cases he⟩⟩
        have hroom : ∀ (k : Nat) (w : World), (askRoom k).run P w = .ok () w := fun k w => by
          unfold askRoom
          split <;> simp [mark, Sem.run]
        have hbig : ¬ ((ie.bytes : Int) * (m : Int) > 2 ^ 48) := by omega
        have hm0 : ¬ ((m : Int) < 0) := by omega
        have hn0 : ¬ ((n : Int) < 0) := by omega
        have hnm' : ¬ ((n : Int) > (m : Int)) := by omega
        simp only [execOp, ho, Instr.makeSlice, Sem.run_bind, run_underlying hu, Result.andThen_ok, asInt, asIntOf, eval_int hr hl, eval_int hr hc, Sem.run_pure, run_info hie, hw1, hw2]
        simp only [hbig, hm0, hn0, hnm', decide_false, Bool.false_or, Bool.or_false, Bool.false_eq_true, if_false, Sem.run_bind, hroom, Result.andThen_ok, run_size hie, Int.toNat_natCast]
        by_cases hz0 : m * ie.size = 0
        · have hrow : ∀ (f g : Nat → Value), (Array.range (m * ie.size)).map f = (Array.range (m * ie.size)).map g := fun f g => by simp [hz0]
          simp only [if_pos hz0, Sem.run_pure, Result.andThen_ok, Sem.run_bind]
          rw [hrow _ (fun x => z.cells[x % z.cells.size]!)]
          rfl
        · simp only [if_neg hz0, Sem.run_bind, run_zero hie hz, Sem.run_pure, Result.andThen_ok]
          rfl
      · exact h.elim
    · exact h.elim
  · exact h.elim
/-- Behind an interface. -/
def amakeIface (P : Program) (t : TypeId) (x : TVal) (K : AVal → Prop) : Prop := match P.underlying t, x with
  | some (.interface _), _ => False
  | some _, .v v => K (.iface t v)
  | _, _ => False
theorem AVK.makeIface {o : Oper} {t : TypeId} {x : Operand} {K : TVal → St → Prop} (ho : o.op = .makeInterface t x) (h : amakeIface P t (st.ev x) (fun v => K (.v v) st)) : AVK P G o K st := by
  unfold amakeIface at h
  split at h
  · exact h.elim
  · rename_i d v hne hu hx
    refine AVK.pure1 hx h fun σ N a w V hV h1 => ⟨.iface t V, ?_, .iface _ _ _ h1⟩
    simp only [execOp, ho, Instr.makeInterface, Sem.run_bind, run_underlying hu, Result.andThen_ok, hV]
    cases d <;> first | rfl | (exact absurd hu (fun e => hne _ e))
  · exact h.elim
/-- A function value. -/
def amakeFunc (fn : Fn) (fs cs : Option (List AVal)) (K : AVal → Prop) : Prop := match fs, cs with
  | some f, some c => K (.func fn f c)
  | _, _ => False
theorem AVK.makeFunc {o : Oper} {fn : Fn} {fs cs : Array Operand} {K : TVal → St → Prop} (ho : o.op = .makeFunc fn fs cs) (h : amakeFunc fn (vals st fs.toList) (vals st cs.toList) (fun v => K (.v v) st)) : AVK P G o K st := by
  unfold amakeFunc at h
  split at h
  · rename_i f c hf hc
    refine AVK.value h fun σ lam w a hr => ?_
    have h1 := vals_rel hr _ _ hf
    have h2 := vals_rel hr _ _ hc
    refine ⟨.func fn (fs.map a.eval) (cs.map a.eval), ?_, ?_, fun k o he => by cases he⟩
    · simp [execOp, ho, Instr.makeFunc]
    · have e1 : fs.map a.eval = (fs.toList.map a.eval).toArray := by apply Array.toList_inj.1; simp
      have e2 : cs.map a.eval = (cs.toList.map a.eval).toArray := by apply Array.toList_inj.1; simp
      rw [e1, e2]
      exact .func _ _ _ _ _ h1.1 h2.1 h1.2 h2.2
  · exact h.elim
/-- `panic`. -/
def apanic (x : TVal) (Kx : AVal → Prop) : Prop := match x with
  | .v (.iface t v) => Kx (.iface t v)
  | _ => False
theorem AO.panic {o : Oper} {x : Operand} {K : TVal → St → Prop} {Kx : AVal → St → Prop} (ho : o.op = .panic x) (h : apanic (st.ev x) (fun v => Kx v st)) : AO P G o K Kx st := by
  unfold apanic at h
  split at h
  · rename_i t v hx
    intro σ lam w a hr next Q hn hQ
    have hv := ev_rel hr x
    rw [hx] at hv
    have hV : ∃ V, a.eval x = .iface t V ∧ VR σ st.heap.next (.iface t v) (.iface t V) := by
      generalize a.eval x = V at hv
      cases hv with
      | iface _ _ V h => exact ⟨V, rfl, .iface _ _ _ h⟩
    obtain ⟨V, hV, hR⟩ := hV
    have : (execOp a.eval o).run P w = .halt (.panic (.iface t V)) w := by
      simp [execOp, ho, Instr.panic, hV, goPanic]
    unfold Oper.wp
    rw [this]
    exact hQ _ st _ w σ lam h hR (.refl .normal hr)
  · exact h.elim
/-- `min`, `max` of two whole numbers. -/
def aminmax (mx : Bool) (x y : TVal) (K : AVal → Prop) : Prop := match x, y with
  | .v (.int k a), .v (.int _ b) => K (.int k (if mx then (if b > a then b else a) else (if b < a then b else a)))
  | _, _ => False
theorem AVK.minmax {o : Oper} {bt : Builtin} {mx : Bool} {x y : Operand} {ts : Array TypeId} {K : TVal → St → Prop} (hb : (bt = .max ∧ mx = true) ∨ (bt = .min ∧ mx = false)) (ho : o.op = .call { callee := .builtin bt, args := #[x, y], argTypes := ts })
    (h : aminmax mx (st.ev x) (st.ev y) (fun v => K (.v v) st)) : AVK P G o K st := by
  unfold aminmax at h
  split at h
  · rename_i k a k' b hx hy
    refine AVK.pure2 hx hy h fun σ N a' w V U hV hU h1 h2 => ⟨_, ?_, .int _ _⟩
    cases h1; cases h2
    rcases hb with ⟨rfl, rfl⟩ | ⟨rfl, rfl⟩
    · simp [execOp, ho, resolve, invoke, builtin, Builtin.max_, Builtin.max2, hV, hU, List.foldlM]
    · simp [execOp, ho, resolve, invoke, builtin, Builtin.min_, Builtin.min2, hV, hU, List.foldlM]
  · exact h.elim
end
end Go.Abs
namespace Go.Abs
section
variable {P : Program} {G : Nat → Option (List AVal)} {st : St}
/-- A builtin. -/
def abuiltin (P : Program) (b : Builtin) (xs : List Operand) (ts : List TypeId) (K : TVal → St → Prop) (st : St) : Prop := match b, xs, ts with
  | .len, [x], t :: _ => alen P t (st.ev x) (fun v => K (.v v) st)
  | .append, [x, y], [t0, t1] => aappend P t0 t1 (st.ev x) (st.ev y) K st
  | .max, [x, y], _ => aminmax true (st.ev x) (st.ev y) (fun v => K (.v v) st)
  | .min, [x, y], _ => aminmax false (st.ev x) (st.ev y) (fun v => K (.v v) st)
  | _, _, _ => False
/-- One operation, computed. -/
def aop (P : Program) (G : Nat → Option (List AVal)) (op : Op) (ty : TypeId) (K : TVal → St → Prop) (Kx : AVal → St → Prop) (st : St) : Prop := match op with
  | .move x => K (st.ev x) st
  | .assign x => K (st.ev x) st
  | .pick c a b => apick (st.ev c) (st.ev a) (st.ev b) (fun t => K t st)
  | .alloc t => aalloc P t K st
  | .box t x => (fun s : St => abox (s.ev x) K s) (st.pubs (lps st [x]))
  | .build t parts => (fun s : St => abuild P t (partVals s parts.toList) (fun v => K (.v v) s)) (st.pubs (lps st (parts.toList.map (·.2))))
  | .buildSlice t len parts => (fun s : St => abuildSlice P t len (partVals s parts.toList) (fun v s => K (.v v) s) s) (st.pubs (lps st (parts.toList.map (·.2))))
  | .load t x => aload P G t (st.ev x) (fun t => K t st) st
  | .store t x y => (fun s : St => astore P t (s.ev x) (s.ev y) (K (.v (.tup []))) s) (st.pubs (lps st [y]))
  | .nilCheck x => anil (st.ev x) (fun t => K t st)
  | .binOp op t x y _ => (match st.ev x, st.ev y with
    | .v (.agg v), .v (.agg u) => abinAgg op P t (.agg v) (.agg u) (fun r => K (.v r) st)
    | .v v, .v u => abin op P t v u (fun r => K (.v r) st)
    | _, _ => False)
  | .unOp op _ x => aunary op (st.ev x) (fun v => K (.v v) st)
  | .convert s d x => aconv P s d (st.ev x) (fun v => K (.v v) st)
  | .makeInterface t x => amakeIface P t (st.ev x) (fun v => K (.v v) st)
  | .makeFunc fn fs cs => (fun s : St => amakeFunc fn (vals s fs.toList) (vals s cs.toList) (fun v => K (.v v) s)) (st.pubs (lps st (fs.toList ++ cs.toList)))
  | .makeSlice t l c => amakeSlice P t (st.ev l) (st.ev c) (fun v s => K (.v v) s) st
  | .slice t x lo hi mx => aslice P t (st.ev x) (lo.map st.ev) (hi.map st.ev) (mx.map st.ev) (fun v => K (.v v) st)
  | .fieldAddr s x f => afieldAddr P s f (st.ev x) (fun t => K t st)
  | .field s x f => afield P s f (st.ev x) (fun v => K (.v v) st)
  | .indexAddr t x i => aindexAddr P t (st.ev x) (st.ev i) (fun t => K t st)
  | .index t x i => aindex P t (st.ev x) (st.ev i) (fun v => K (.v v) st)
  | .extract x i => aextract (st.ev x) i (fun v => K (.v v) st)
  | .panic x => apanic (st.ev x) (fun v => Kx v st)
  | .call c => (match c.callee with
    | .value f => (fun s : St => acall P G ty (s.ev f) (vals s c.args.toList) K Kx s) (st.pubs (lps st c.args.toList))
    | .builtin b => abuiltin P b c.args.toList c.argTypes.toList K st
    | _ => False)
  | _ => False
theorem arr1 {α : Type} {a : Array α} {x : α} (h : a.toList = [x]) : a = #[x] := Array.toList_inj.1 h
theorem arr2 {α : Type} {a : Array α} {x y : α} (h : a.toList = [x, y]) : a = #[x, y] := Array.toList_inj.1 h
theorem aop_ok {o : Oper} {K : TVal → St → Prop} {Kx : AVal → St → Prop} (h : aop P G o.op o.type K Kx st) : AO P G o K Kx st := by
  unfold aop at h
  split at h
  · rename_i x ho; exact AVK.ao (AVK.move (.inl ho) h)
  · rename_i x ho; exact AVK.ao (AVK.move (.inr ho) h)
  · rename_i c a b ho; exact AVK.ao (AVK.pick ho h)
  · rename_i t ho; exact AO.alloc ho h
  · rename_i t x ho; exact AO.pubs _ (AO.box ho h)
  · rename_i t parts ho; exact AO.pubs _ (AVK.ao (AVK.build ho h))
  · rename_i t len parts ho; exact AO.pubs _ (AO.buildSlice ho h)
  · rename_i t x ho; exact AVK.ao (AVK.load ho h)
  · rename_i t x y ho; exact AO.pubs _ (AO.store ho h)
  · rename_i x ho; exact AVK.ao (AVK.nilCheck ho h)
  · rename_i op t x y t' ho
    split at h
    · rename_i v u hx hy; exact AVK.ao (AVK.binAgg ho hx hy h)
    · rename_i v u hne hx hy; exact AVK.ao (AVK.binOp ho hx hy h)
    · exact h.elim
  · rename_i op t x ho; exact AVK.ao (AVK.unary ho h)
  · rename_i s d x ho; exact AVK.ao (AVK.conv ho h)
  · rename_i t x ho; exact AVK.ao (AVK.makeIface ho h)
  · rename_i fn fs cs ho; exact AO.pubs _ (AVK.ao (AVK.makeFunc ho h))
  · rename_i t l c ho; exact AO.makeSlice ho h
  · rename_i t x lo hi mx ho; exact AVK.ao (AVK.slice ho h)
  · rename_i s x f ho; exact AVK.ao (AVK.fieldAddr ho h)
  · rename_i s x f ho; exact AVK.ao (AVK.field ho h)
  · rename_i t x i ho; exact AVK.ao (AVK.indexAddr ho h)
  · rename_i t x i ho; exact AVK.ao (AVK.index ho h)
  · rename_i x i ho; exact AVK.ao (AVK.extract ho h)
  · rename_i x ho; exact AO.panic ho h
  · rename_i c ho
    obtain ⟨callee, args, ts⟩ := c
    split at h
    · rename_i f hf
      simp only at hf
      subst hf
      exact AO.pubs _ (AO.call ho h)
    · rename_i b hb
      simp only at hb
      subst hb
      unfold abuiltin at h
      split at h
      · rename_i x t r hx ht
        simp only at hx ht
        rw [arr1 hx] at ho
        refine AVK.ao (AVK.len ho (t := t) ?_ h)
        rw [← Array.getElem?_toList, ht]; rfl
      · rename_i x y t0 t1 hx ht
        simp only at hx ht
        rw [arr2 hx, arr2 ht] at ho
        exact AO.append ho h
      · rename_i x y hx
        simp only at hx
        rw [arr2 hx] at ho
        exact AVK.ao (AVK.minmax (.inl ⟨rfl, rfl⟩) ho h)
      · rename_i x y hx
        simp only at hx
        rw [arr2 hx] at ho
        exact AVK.ao (AVK.minmax (.inr ⟨rfl, rfl⟩) ho h)
      · exact h.elim
    · exact h.elim
  · exact h.elim
/-- The slots' list, written out. -/
def forceL : List TVal → (List TVal → Prop) → Prop
  | [], k => k []
  | x :: r, k => forceL r fun r' => k (x :: r')
theorem forceL_eq : ∀ (l : List TVal) (k : List TVal → Prop), forceL l k = k l
  | [], k => rfl
  | x :: r, k => by simp only [forceL]; rw [forceL_eq r]
def forceT (t : TVal) (k : TVal → Prop) : Prop := match t with
  | .v x => k (.v x)
  | .lp i o => k (.lp i o)
theorem forceT_eq (t : TVal) (k : TVal → Prop) : forceT t k = k t := by cases t <;> rfl
def putK (s : St) (d : Option Tmp) (t : TVal) (k : St → Prop) : Prop := match d with
  | some i => forceT t fun t' => forceL (s.env.set i t') fun e => k { env := e, loc := s.loc, heap := s.heap }
  | none => k s
theorem putK_eq (s : St) (d : Option Tmp) (t : TVal) (k : St → Prop) : putK s d t k = k (s.put d t) := by
  cases d with
  | none => rfl
  | some i => simp only [putK, forceT_eq, forceL_eq]; rfl
/-- The operations of a region. -/
def aops (P : Program) (G : Nat → Option (List AVal)) (ops : Array Oper) (K : AExit → St → Prop) : List Oper → St → Prop
  | [], st => K .normal st
  | o :: r, st => match o.guard with
    | none => aop P G o.op o.type (fun t s => putK s o.dst t (aops P G ops K r)) (fun v s => K (.panic v) s) st
    | some (j, want) => match ((ops[j]?).bind (·.dst)) with
      | none => False
      | some d => match st.ev (.tmp d) with
        | .v (.bool b) => BCase b
            (if want then aop P G o.op o.type (fun t s => putK s o.dst t (aops P G ops K r)) (fun v s => K (.panic v) s) (st.put (some d) (.v (.bool true)))
              else putK (st.put (some d) (.v (.bool true))) o.dst (.v (.tup [])) (aops P G ops K r))
            (if want then putK (st.put (some d) (.v (.bool false))) o.dst (.v (.tup [])) (aops P G ops K r)
              else aop P G o.op o.type (fun t s => putK s o.dst t (aops P G ops K r)) (fun v s => K (.panic v) s) (st.put (some d) (.v (.bool false))))
        | .v (.tup []) => putK st o.dst (.v (.tup [])) (aops P G ops K r)
        | _ => False
theorem put_same {d : Nat} {t : TVal} (h : st.ev (.tmp d) = t) (ht : t ≠ .v .undef) : st.put (some d) t = st := by
  obtain ⟨env, loc, heap⟩ := st
  simp only [St.ev] at h
  simp only [St.put]
  congr 1
  rcases Nat.lt_or_ge d env.length with hd | hd
  · simp [hd] at h
    rw [← h]
    simp
  · rw [List.set_eq_of_length_le hd]
theorem aops_ok {ops : Array Oper} {K : AExit → St → Prop} : ∀ (l : List Oper) (k : Nat) {st : St}, (∀ j, l[j]? = ops[k + j]?) → aops P G ops K l st → AOps P G ops K (List.range' k l.length) st
  | [], k, st, _, h => AOps.nil h
  | o :: r, k, st, hl, h => by
    have h0 : ops[k]? = some o := by simpa using (hl 0).symm
    have hl' : ∀ j, r[j]? = ops[k + 1 + j]? := fun j => by have := hl (j + 1); simpa [Nat.add_assoc, Nat.add_comm 1 j] using this
    have run : ∀ st' : St, (∀ σ lam w a, Rel G σ lam st' w a → Region.wanted o (yielded ops a.tmps) = true) → aop P G o.op o.type (fun t s => putK s o.dst t (aops P G ops K r)) (fun v s => K (.panic v) s) st' → AOps P G ops K (k :: List.range' (k + 1) r.length) st' := fun st' hw ha =>
      AOps.step h0 hw (fun σ lam w a hr next Q hn hx => aop_ok ha σ lam w a hr next Q (fun t s V w' σ' lam' hK => hn t s V w' σ' lam' (aops_ok r (k + 1) hl' (by simpa only [putK_eq] using hK))) hx)
    have skip : ∀ st' : St, (∀ σ lam w a, Rel G σ lam st' w a → Region.wanted o (yielded ops a.tmps) = false) → putK st' o.dst (.v (.tup [])) (aops P G ops K r) → AOps P G ops K (k :: List.range' (k + 1) r.length) st' := fun st' hw ha =>
      AOps.pass h0 hw (aops_ok r (k + 1) hl' (by simpa only [putK_eq] using ha))
    simp only [List.length_cons, List.range'_succ]
    simp only [aops] at h
    split at h
    · rename_i hg
      exact run st (fun σ lam w a hr => wanted_none hg _) h
    · rename_i j want hg
      split at h
      · exact h.elim
      · rename_i d hd
        have hy : ayielded ops st j = some (st.ev (.tmp d)) := by simp [ayielded, hd]
        split at h
        · rename_i b hb
          cases b with
          | true =>
            have hs := put_same hb (by simp)
            simp only [BCase_true, hs] at h
            split at h
            · rename_i hw
              exact run st (fun σ lam w a hr => by simp [Region.wanted, hg, yielded_bool hr (hb ▸ hy), hw]) h
            · rename_i hw
              exact skip st (fun σ lam w a hr => by simp [Region.wanted, hg, yielded_bool hr (hb ▸ hy), hw]) h
          | false =>
            have hs := put_same hb (by simp)
            simp only [BCase_false, hs] at h
            split at h
            · rename_i hw
              exact skip st (fun σ lam w a hr => by simp [Region.wanted, hg, yielded_bool hr (hb ▸ hy), hw]) h
            · rename_i hw
              exact run st (fun σ lam w a hr => by simp [Region.wanted, hg, yielded_bool hr (hb ▸ hy), hw]) h
        · rename_i hb
          exact skip st (fun σ lam w a hr => by simp [Region.wanted, hg, yielded_skip hr (hb ▸ hy)]) h
        · exact h.elim
theorem aops_region {id : Nat} {ops : Array Oper} {K : AExit → St → Prop} (h : aops P G ops K ops.toList st) : AW P G (.region id ops false) K st := by
  refine AW.region ?_
  have := aops_ok ops.toList 0 (K := K) (ops := ops) (by simp) h
  rw [List.range_eq_range']
  simpa using this
/-- What a slot of a test is known to be, written down. -/
def St.know (st : St) (c : Operand) (b : Bool) : St := match c with
  | .tmp d => st.put (some d) (.v (.bool b))
  | _ => st
/-- The computed transformer. -/
def acode (P : Program) (G : Nat → Option (List AVal)) (D : Nat → List Nat) : Code → (AExit → St → Prop) → St → Prop
  | .skip, K, st => K .normal st
  | .region id ops draw, K, st => (match draw with
    | true => False
    | false => aops P G ops (fun x s => K x (s.forget (D id))) ops.toList st)
  | .seq a b, K, st => acode P G D a (fun x s => match x with
    | .normal => acode P G D b K s
    | x => K x s) st
  | .cond c a b, K, st => (match st.ev c with
    | .v (.bool t) => BCase t (acode P G D a K (st.know c true)) (acode P G D b K (st.know c false))
    | _ => False)
  | .block id c, K, st => acode P G D c (fun x s => match x with
    | .exit i => if i = id then K .normal s else K (.exit i) s
    | x => K x s) st
  | .loop c, K, st => AL P G c K st
  | .exit id, K, st => K (.exit id) st
  | .label _, K, st => K .normal st
  | .goto l, K, st => K (.goto l) st
  | .ret, K, st => K .ret st
  | _, _, _ => False
theorem know_same {c : Operand} {b : Bool} (h : st.ev c = .v (.bool b)) : st.know c b = st := by
  cases c with
  | tmp d => exact put_same h (by simp)
  | _ => rfl
theorem acode_ok {D : Nat → List Nat} : ∀ (c : Code) {K : AExit → St → Prop} {st : St}, acode P G D c K st → AW P G c K st
  | .skip, K, st, h => AW.skip h
  | .region id ops draw, K, st, h => by
    cases draw with
    | true => exact h.elim
    | false => exact AW.forget (D id) (aops_region h)
  | .seq a b, K, st, h => AW.seq (AW.mono (acode_ok a h) fun x s hx => by
      cases x with
      | normal => exact acode_ok b hx
      | _ => exact hx)
  | .cond c a b, K, st, h => by
    simp only [acode] at h
    split at h
    · rename_i t ht
      cases t with
      | true =>
        rw [know_same ht, BCase_true] at h
        exact AW.cond ht (acode_ok a h)
      | false =>
        rw [know_same ht, BCase_false] at h
        exact AW.cond ht (acode_ok b h)
    · exact h.elim
  | .block id c, K, st, h => AW.block (AW.mono (acode_ok c h) fun x s hx => by
      cases x <;> exact hx)
  | .loop c, K, st, h => AW.loop h
  | .exit id, K, st, h => AW.exit h
  | .label l, K, st, h => AW.label h
  | .goto l, K, st, h => AW.goto h
  | .ret, K, st, h => AW.ret h
  | .rangeFunc _ _ _ _, K, st, h => h.elim
  | .scope _, K, st, h => h.elim
  | .refuse _, K, st, h => h.elim
/-- A round of a loop, computed. -/
theorem AL.go (D : Nat → List Nat) {c : Code} {K : AExit → St → Prop} (h : acode P G D c (fun x s => match x with
    | .normal => AL P G c K s
    | x => K x s) st) : AL P G c K st :=
  AL.round (AW.mono (acode_ok c h) fun x s hx => by cases x <;> exact hx)
/-- A result. -/
def aresult (P : Program) (G : Nat → Option (List AVal)) (st : St) : ResultVar → Option AVal
  | .tmp t => (match st.ev (.tmp t) with
    | .v v => some v
    | _ => none)
  | .cell a t => (match P.underlying t, P.info? t with
    | some d, some i => if isAggD d then (st.rds G (st.ev (.tmp a)) i.size).map .agg else st.rd G (st.ev (.tmp a))
    | _, _ => none)
def aresults (P : Program) (G : Nat → Option (List AVal)) (st : St) : List ResultVar → Option (List AVal)
  | [] => some []
  | r :: l => (match aresult P G st r, aresults P G st l with
    | some v, some vs => some (v :: vs)
    | _, _ => none)
def oneOf : List AVal → AVal
  | [v] => v
  | l => .tup l
def bodyK (P : Program) (G : Nat → Option (List AVal)) (res : List ResultVar) (R : AEnd → AHeap → Prop) : AExit → St → Prop
  | .normal, st => (match aresults P G st res with
    | some l => R (.ret (oneOf l)) st.heap
    | none => False)
  | .ret, st => (match aresults P G st res with
    | some l => R (.ret (oneOf l)) st.heap
    | none => False)
  | .panic v, st => R (.panic v) st.heap
  | _, _ => False
def start (args : List AVal) (n : Nat) (H : AHeap) : St := { env := args.map .v ++ List.replicate (n - args.length) (.v (.tup [])), loc := [], heap := H }
theorem aresult_ok {σ : Nat → Pl} {lam : Nat → Nat} {w : World} {a : Act} (hr : Rel G σ lam st w a) {r : ResultVar} {v : AVal} (h : aresult P G st r = some v) :
    ∃ V, (match r with
      | .tmp t => pure (a.tmps.getD t undef)
      | .cell x t => do loadVar t (← asAddr (a.tmps.getD x undef)) : Sem Value).run P w = .ok V w ∧ VR σ st.heap.next v V := by
  cases r with
  | tmp t =>
    simp only [aresult] at h
    have h1 := ev_rel hr (.tmp t)
    split at h
    · rename_i u hu
      cases h
      rw [hu] at h1
      exact ⟨_, rfl, h1⟩
    · cases h
  | cell x t =>
    simp only [aresult] at h
    split at h
    · rename_i d i hd hi
      split at h
      · rename_i ha
        obtain ⟨l, hl, rfl⟩ := Option.map_eq_some_iff.1 h
        obtain ⟨V, h2, h3⟩ := load_agg (P := P) hr hd hi ha hl
        obtain ⟨⟨l', o⟩, h4, _⟩ := Option.bind_eq_some_iff.1 hl
        obtain ⟨g, off, h5, _⟩ := at_rel hr (ev_rel hr (.tmp x)) h4
        refine ⟨V, ?_, h3⟩
        have h5' : a.tmps.getD x undef = .pointer (some ⟨g, off, none⟩) := h5
        simp only [Instr.loadAt, h5, Instr.sureAddr, Sem.run_bind, Sem.run_pure, Result.andThen_ok] at h2
        simp only [h5', asAddr, Sem.run_bind, Sem.run_pure, Result.andThen_ok]
        exact h2
      · rename_i ha
        obtain ⟨V, h2, h3⟩ := load_one (P := P) hr hd (by simpa using ha) h
        obtain ⟨⟨l', o⟩, h4, _⟩ := Option.bind_eq_some_iff.1 h
        obtain ⟨g, off, h5, _⟩ := at_rel hr (ev_rel hr (.tmp x)) h4
        refine ⟨V, ?_, h3⟩
        have h5' : a.tmps.getD x undef = .pointer (some ⟨g, off, none⟩) := h5
        simp only [Instr.loadAt, h5, Instr.sureAddr, Sem.run_bind, Sem.run_pure, Result.andThen_ok] at h2
        simp only [h5', asAddr, Sem.run_bind, Sem.run_pure, Result.andThen_ok]
        exact h2
    · cases h
theorem aresults_ok {σ : Nat → Pl} {lam : Nat → Nat} {w : World} {a : Act} (hr : Rel G σ lam st w a) : ∀ (rs : List ResultVar) (l : List AVal), aresults P G st rs = some l →
    ∃ Vs : List Value, (rs.mapM fun
      | .tmp t => pure (a.tmps.getD t undef)
      | .cell x t => do loadVar t (← asAddr (a.tmps.getD x undef)) : Sem (List Value)).run P w = .ok Vs w ∧ VRs σ st.heap.next l Vs.toArray
  | [], l, h => by
    simp [aresults] at h
    subst h
    exact ⟨[], rfl, rfl, fun i v V hv => by simp at hv⟩
  | r :: rs, l, h => by
    simp only [aresults] at h
    split at h
    · rename_i v vs h1 h2
      cases h
      obtain ⟨V, h3, h4⟩ := aresult_ok (P := P) hr h1
      obtain ⟨Vs, h5, h6⟩ := aresults_ok hr rs vs h2
      refine ⟨V :: Vs, ?_, by simpa using h6.1, fun i u U hu hU => ?_⟩
      · rw [List.mapM_cons]
        simp only [Sem.run_bind, h3, Result.andThen_ok, h5, Sem.run_pure]
      · rcases i with _ | i
        · simp at hu hU
          subst hu; subst hU; exact h4
        · simp at hu hU
          exact h6.2 i u U hu (by simpa using hU)
    · cases h
theorem results_ok {σ : Nat → Pl} {lam : Nat → Nat} {w : World} {a : Act} (hr : Rel G σ lam st w a) {fn : Func} {l : List AVal} (h : aresults P G st fn.results.toList = some l) :
    ∃ V, (results fn a.tmps).run P w = .ok V w ∧ VR σ st.heap.next (oneOf l) V := by
  obtain ⟨Vs, h1, h2⟩ := aresults_ok (P := P) hr _ _ h
  have hm : (fn.results.mapM fun
      | .tmp t => pure (a.tmps.getD t undef)
      | .cell x t => do loadVar t (← asAddr (a.tmps.getD x undef)) : Sem (Array Value)).run P w = .ok Vs.toArray w := by
    rw [Array.mapM_eq_mapM_toList]
    simp only [Sem.run_map, h1, Result.andThen_ok]
  refine ⟨if h : Vs.toArray.size = 1 then Vs.toArray[0] else .tuple Vs.toArray, ?_, ?_⟩
  · unfold results
    rw [Sem.run_bind]
    exact Eq.trans (congrArg (fun r => Result.andThen r _) hm) rfl
  · have hlen : Vs.length = l.length := by simpa using h2.1
    rcases l with _ | ⟨v, _ | ⟨u, l⟩⟩
    · rw [dif_neg (by simp [hlen])]
      exact .tup _ _ h2.1 h2.2
    · rw [dif_pos (by simp [hlen])]
      exact h2.2 0 v _ rfl (by simp [hlen])
    · rw [dif_neg (by simp [hlen])]
      exact .tup _ _ h2.1 h2.2
theorem ACalls.bodyW {f : FuncId} {fn : Func} {c : Code} {args : List AVal} {H : AHeap} {R : AEnd → AHeap → Prop} (hf : P.funcs[f]? = some fn) (hb : fn.body = some c)
    (h : AW P G c (bodyK P G fn.results.toList R) (start args fn.ntmps H)) : ACalls P G f args H R := fun σ w Args hh ha => by
  refine calls_of_wp hf hb ?_
  have hrel : Rel G σ (fun _ => 0) (start args fn.ntmps H) w { tmps := Args ++ Array.replicate (fn.ntmps - Args.size) undef, defers := [] } := by
    refine ⟨hh, ⟨fun i b hb => by simp [start] at hb, fun i b hb => by simp [start] at hb, fun i j b b' hb => by simp [start] at hb, fun i b g l hb => by simp [start] at hb, fun i b hb => by simp [start] at hb⟩, ⟨by simp [start, ha.1], fun i t V ht hV => ?_, fun i k o hi => ?_⟩, rfl⟩
    · simp only [start] at ht
      rcases Nat.lt_or_ge i args.length with hi | hi
      · rw [List.getElem?_append_left (by simpa using hi), List.getElem?_map] at ht
        rw [Array.getElem?_append_left (by rw [ha.1]; exact hi)] at hV
        cases hx : args[i]? with
        | none => rw [hx] at ht; cases ht
        | some x =>
          rw [hx] at ht
          cases ht
          exact ha.2 i x V hx hV
      · rw [List.getElem?_append_right (by simpa using hi)] at ht
        rw [Array.getElem?_append_right (by rw [ha.1]; exact hi)] at hV
        have ht' := List.getElem?_replicate (a := TVal.v (.tup [])) (n := fn.ntmps - args.length) (i := i - (args.map TVal.v).length)
        rw [ht'] at ht
        split at ht
        · cases ht
          have := Array.getElem?_eq_some_iff.1 hV
          obtain ⟨_, hV⟩ := this
          simp at hV
          subst hV
          exact .tup _ _ rfl (by simp)
        · cases ht
    · simp only [start] at hi
      rcases Nat.lt_or_ge i args.length with hi' | hi'
      · rw [List.getElem?_append_left (by simpa using hi'), List.getElem?_map] at hi
        cases hx : args[i]? with
        | none => rw [hx] at hi; cases hi
        | some x => rw [hx] at hi; cases hi
      · rw [List.getElem?_append_right (by simpa using hi')] at hi
        rw [List.getElem?_replicate] at hi
        split at hi <;> cases hi
  refine wp_mono (h σ _ w _ hrel) fun e a' w' ⟨σ', lam', x, s, hK, q⟩ => ?_
  have hev : Evo (Foot σ H) (Own σ H) (Foot σ' s.heap) (Own σ' s.heap) w w' := by
    refine ⟨q.evo.os, q.evo.tape, q.evo.output, q.evo.size, fun g hg ho => q.evo.keep g hg ?_, fun g hg => ?_, fun g hg => ?_⟩
    · rintro (h | ⟨i, b, hb, _⟩)
      · exact ho h
      · simp [start] at hb
    · rcases q.evo.own g (.inl hg) with (h | ⟨i, b, hb, _⟩) | h
      · exact .inl h
      · simp [start] at hb
      · exact .inr h
    · rcases q.evo.foot g (.inl hg) with (h | ⟨i, b, hb, _⟩) | h
      · exact .inl h
      · simp [start] at hb
      · exact .inr h
  have hres : (match aresults P G s fn.results.toList with
      | some l => R (.ret (oneOf l)) s.heap
      | none => False) → a'.defers = [] ∧ ∃ v, (results fn a'.tmps).run P w' = .ok v w' ∧ ∃ σ' ae H', R ae H' ∧ CQ G σ H w ae H' (.returned v) w' σ' := fun hK => by
    split at hK
    · rename_i l hl
      obtain ⟨V, h1, h2⟩ := results_ok (P := P) q.rel hl
      exact ⟨q.rel.defers, V, h1, σ', _, _, hK, ⟨.ret _ _ h2, q.rel.heap, q.agree, q.next, hev⟩⟩
    · exact hK.elim
  have hx := q.ex
  cases x with
  | normal => cases hx; exact hres hK
  | exit id => exact hK.elim
  | goto l => exact hK.elim
  | ret => cases hx; exact hres hK
  | panic v =>
    cases hx with
    | panic _ V hv => exact ⟨q.rel.defers, σ', _, _, hK, ⟨.panic _ _ hv, q.rel.heap, q.agree, q.next, hev⟩⟩
theorem ACalls.body {f : FuncId} {fn : Func} {c : Code} {args : List AVal} {H : AHeap} {R : AEnd → AHeap → Prop} (D : Nat → List Nat) (hf : P.funcs[f]? = some fn) (hb : fn.body = some c)
    (h : acode P G D c (bodyK P G fn.results.toList R) (start args fn.ntmps H)) : ACalls P G f args H R := ACalls.bodyW hf hb (acode_ok c h)
end
end Go.Abs
namespace Go.Abs
/-- The numbers of blocks that a value names lie below N. -/
inductive Bel (N : Nat) : AVal → Prop where
  | undef : Bel N .undef
  | bool (b : Bool) : Bel N (.bool b)
  | int (k : IntKind) (n : Int) : Bel N (.int k n)
  | str (s : List UInt8) : Bel N (.str s)
  | ptr (b o : Nat) (h : b < N) : Bel N (.ptr b o)
  | nilptr : Bel N .nilptr
  | gptr (g o : Nat) : Bel N (.gptr g o)
  | sl (b o len : Nat) (c : Cap) (h : b < N) : Bel N (.sl b o len c)
  | esl : Bel N .esl
  | nilsl : Bel N .nilsl
  | map (b : Nat) (h : b < N) : Bel N (.map b)
  | nilmap : Bel N .nilmap
  | func (fn : Fn) (fs cs : List AVal) (h1 : ∀ v ∈ fs, Bel N v) (h2 : ∀ v ∈ cs, Bel N v) : Bel N (.func fn fs cs)
  | nilfunc : Bel N .nilfunc
  | iface (t : TypeId) (v : AVal) (h : Bel N v) : Bel N (.iface t v)
  | nilif : Bel N .nilif
  | agg (l : List AVal) (h : ∀ v ∈ l, Bel N v) : Bel N (.agg l)
  | tup (l : List AVal) (h : ∀ v ∈ l, Bel N v) : Bel N (.tup l)
theorem mem_at {l : List AVal} {v : AVal} (h : v ∈ l) {cs : Array Value} (hs : cs.size = l.length) : ∃ (i : Nat) (V : Value), l[i]? = some v ∧ cs[i]? = some V := by
  obtain ⟨i, hi, rfl⟩ := List.mem_iff_getElem.1 h
  exact ⟨i, cs[i]'(by omega), by simp [hi], by simp⟩
theorem VR.bel {σ : Nat → Pl} {N : Nat} {v : AVal} {V : Value} (h : VR σ N v V) : Bel N v := by
  induction h with
  | undef V => exact .undef
  | bool b => exact .bool b
  | int k n => exact .int k n
  | str s => exact .str s
  | ptr b o h => exact .ptr b o h
  | nilptr => exact .nilptr
  | gptr g o => exact .gptr g o
  | slx b o len n h hl => exact .sl _ _ _ _ h
  | slr b o len k h hl => exact .sl _ _ _ _ h
  | esl A C => exact .esl
  | nilsl => exact .nilsl
  | map b h => exact .map b h
  | nilmap => exact .nilmap
  | func fn fs cs Fs Cs hf hc h1 h2 ih1 ih2 =>
    refine .func _ _ _ (fun v hv => ?_) (fun v hv => ?_)
    · obtain ⟨i, V, a, b⟩ := mem_at hv hf; exact ih1 i v V a b
    · obtain ⟨i, V, a, b⟩ := mem_at hv hc; exact ih2 i v V a b
  | nilfunc => exact .nilfunc
  | iface t v V h ih => exact .iface _ _ ih
  | nilif => exact .nilif
  | agg l cs hs h ih => exact .agg _ fun v hv => by obtain ⟨i, V, a, b⟩ := mem_at hv hs; exact ih i v V a b
  | tup l cs hs h ih => exact .tup _ fun v hv => by obtain ⟨i, V, a, b⟩ := mem_at hv hs; exact ih i v V a b
theorem VR.lower {σ : Nat → Pl} {N M : Nat} {v : AVal} {V : Value} (h : VR σ N v V) (hb : Bel M v) : VR σ M v V := by
  induction h with
  | undef V => exact .undef V
  | bool b => exact .bool b
  | int k n => exact .int k n
  | str s => exact .str s
  | ptr b o h => cases hb with | ptr _ _ h => exact .ptr b o h
  | nilptr => exact .nilptr
  | gptr g o => exact .gptr g o
  | slx b o len n h hl => cases hb with | sl _ _ _ _ h => exact .slx _ _ _ _ h hl
  | slr b o len k h hl => cases hb with | sl _ _ _ _ h => exact .slr _ _ _ _ h hl
  | esl A C => exact .esl _ _
  | nilsl => exact .nilsl
  | map b h => cases hb with | map _ h => exact .map b h
  | nilmap => exact .nilmap
  | func fn fs cs Fs Cs hf hc h1 h2 ih1 ih2 =>
    cases hb with
    | func _ _ _ g1 g2 => exact .func _ _ _ _ _ hf hc (fun i v V a b => ih1 i v V a b (g1 v (List.mem_of_getElem? a))) (fun i v V a b => ih2 i v V a b (g2 v (List.mem_of_getElem? a)))
  | nilfunc => exact .nilfunc
  | iface t v V h ih => cases hb with | iface _ _ g => exact .iface _ _ _ (ih g)
  | nilif => exact .nilif
  | agg l cs hs h ih => cases hb with | agg _ g => exact .agg _ _ hs fun i v V a b => ih i v V a b (g v (List.mem_of_getElem? a))
  | tup l cs hs h ih => cases hb with | tup _ g => exact .tup _ _ hs fun i v V a b => ih i v V a b (g v (List.mem_of_getElem? a))
theorem Bel.mono {N M : Nat} (hN : N ≤ M) {v : AVal} (h : Bel N v) : Bel M v := by
  induction h with
  | undef => exact .undef
  | bool b => exact .bool b
  | int k n => exact .int k n
  | str s => exact .str s
  | ptr b o h => exact .ptr b o (by omega)
  | nilptr => exact .nilptr
  | gptr g o => exact .gptr g o
  | sl b o len c h => exact .sl _ _ _ _ (by omega)
  | esl => exact .esl
  | nilsl => exact .nilsl
  | map b h => exact .map b (by omega)
  | nilmap => exact .nilmap
  | func fn fs cs h1 h2 ih1 ih2 => exact .func _ _ _ ih1 ih2
  | nilfunc => exact .nilfunc
  | iface t v h ih => exact .iface _ _ ih
  | nilif => exact .nilif
  | agg l h ih => exact .agg _ ih
  | tup l h ih => exact .tup _ ih
def BelB (N : Nat) : ABlk → Prop
  | .cells _ l _ => ∀ v ∈ l, Bel N v
  | .mp l _ _ => ∀ p ∈ l, Bel N p.1 ∧ Bel N p.2
  | .buf _ _ => True
  | .tcells _ l => ∀ v ∈ l, Bel N v
  | .ms l => ∀ p ∈ l, Bel N p.1 ∧ Bel N p.2
def BelE (N : Nat) : AEnd → Prop
  | .ret v => Bel N v
  | .panic v => Bel N v
theorem BlkR.bel {σ : Nat → Pl} {N : Nat} {p : Pl} {w : World} {blk : ABlk} (h : BlkR σ N p w blk) : BelB N blk := by
  cases blk with
  | cells es l r =>
    intro v hv
    obtain ⟨i, hi, rfl⟩ := List.mem_iff_getElem.1 hv
    cases r with
    | false =>
      obtain ⟨V, _, h2⟩ := h.2 i l[i] (by simp [hi])
      exact h2.bel
    | true =>
      obtain ⟨cs, t, fr, _, _, _, _, h5⟩ := h
      obtain ⟨V, _, h2⟩ := h5 i l[i] (by simp [hi])
      exact h2.bel
  | mp l bs c =>
    intro p hp
    obtain ⟨es, _, h2, h3, _⟩ := h
    obtain ⟨i, hi, rfl⟩ := List.mem_iff_getElem.1 hp
    have := h3 i l[i] (es[i]'(by omega)) (by simp [hi]) (by simp)
    exact ⟨this.1.bel, this.2.bel⟩
  | buf t l => trivial
  | tcells t l =>
    intro v hv
    obtain ⟨i, hi, rfl⟩ := List.mem_iff_getElem.1 hv
    obtain ⟨cs, fr, _, _, _, _, h5⟩ := h
    obtain ⟨V, _, h2⟩ := h5 i l[i] (by simp [hi])
    exact h2.bel
  | ms l =>
    intro p hp
    obtain ⟨l', bs, c, hpm, es, _, h2, h3, _⟩ := h
    obtain ⟨i, hi, rfl⟩ := List.mem_iff_getElem.1 (hpm.mem_iff.2 hp)
    have := h3 i l'[i] (es[i]'(by omega)) (by simp [hi]) (by simp)
    exact ⟨this.1.bel, this.2.bel⟩
theorem BlkR.lower {σ : Nat → Pl} {N M : Nat} {p : Pl} {w : World} {blk : ABlk} (h : BlkR σ N p w blk) (hb : BelB M blk) : BlkR σ M p w blk := by
  cases blk with
  | cells es l r =>
    cases r with
    | false =>
      refine ⟨h.1, fun i v hv => ?_⟩
      obtain ⟨V, h1, h2⟩ := h.2 i v hv
      exact ⟨V, h1, h2.lower (hb v (List.mem_of_getElem? hv))⟩
    | true =>
      obtain ⟨cs, t, fr, h1, h2, h3, h4, h5⟩ := h
      refine ⟨cs, t, fr, h1, h2, h3, h4, fun i v hv => ?_⟩
      obtain ⟨V, a, b⟩ := h5 i v hv
      exact ⟨V, a, b.lower (hb v (List.mem_of_getElem? hv))⟩
  | mp l bs c =>
    obtain ⟨es, h1, h2, h3, h4⟩ := h
    refine ⟨es, h1, h2, fun i p e hp he => ?_, h4⟩
    have hm := hb p (List.mem_of_getElem? hp)
    exact ⟨(h3 i p e hp he).1.lower hm.1, (h3 i p e hp he).2.lower hm.2⟩
  | buf t l => exact h
  | tcells t l =>
    obtain ⟨cs, fr, h1, h2, h3, h4, h5⟩ := h
    refine ⟨cs, fr, h1, h2, h3, h4, fun i v hv => ?_⟩
    obtain ⟨V, a, b⟩ := h5 i v hv
    exact ⟨V, a, b.lower (hb v (List.mem_of_getElem? hv))⟩
  | ms l =>
    obtain ⟨l', bs, c, hpm, es, h1, h2, h3, h4⟩ := h
    refine ⟨l', bs, c, hpm, es, h1, h2, fun i p e hp he => ?_, h4⟩
    have hm := hb p (hpm.mem_iff.1 (List.mem_of_getElem? hp))
    exact ⟨(h3 i p e hp he).1.lower hm.1, (h3 i p e hp he).2.lower hm.2⟩
section
variable {P : Program} {G : Nat → Option (List AVal)} {st : St}
/-- What is not wanted any more of a heap is let go. -/
theorem ACalls.shrink {f : FuncId} {args : List AVal} {H : AHeap} {R R' : AEnd → AHeap → Prop} (h : ACalls P G f args H R)
    (hs : ∀ e H1, R e H1 → H.next ≤ H1.next → ∃ H2, R' e H2 ∧ H.next ≤ H2.next ∧ H2.next ≤ H1.next ∧ (∀ b blk, H2.get b = some blk → H1.get b = some blk ∧ b < H2.next ∧ (H.get b = some blk ∨ BelB H2.next blk)) ∧ BelE H2.next e) : ACalls P G f args H R' := fun σ w Args hh ha =>
  (h σ w Args hh ha).mono fun e w' ⟨σ', ae, H1, hR, q⟩ => by
    obtain ⟨H2, hR', hn, hn1, hsub, hbe⟩ := hs ae H1 hR q.next
    refine ⟨σ', ae, H2, hR', ⟨?_, ⟨fun b blk hb => (hsub b blk hb).2.1, fun b blk hb => ?_, fun b b' blk blk' hb hb' => q.heap.sep b b' blk blk' (hsub b blk hb).1 (hsub b' blk' hb').1, q.heap.glob, fun b blk g l hb => q.heap.globFar b blk g l (hsub b blk hb).1⟩, q.agree, hn, ⟨q.evo.os, q.evo.tape, q.evo.output, q.evo.size, q.evo.keep, fun g ⟨b, blk, hb, hr, e⟩ => q.evo.own g ⟨b, blk, (hsub b blk hb).1, hr, e⟩, fun g ⟨b, blk, hb, e⟩ => q.evo.foot g ⟨b, blk, (hsub b blk hb).1, e⟩⟩⟩⟩
    · have hr := q.er
      cases hr with
      | ret v V hv => exact .ret _ _ (hv.lower hbe)
      | panic v V hv => exact .panic _ _ (hv.lower hbe)
    · obtain ⟨h1, h2, h3⟩ := hsub b blk hb
      refine (q.heap.blk b blk h1).lower ?_
      rcases h3 with h3 | h3
      · have := (hh.blk b blk h3).bel
        cases blk with
        | cells es l r => exact fun v hv => (this v hv).mono hn
        | mp l bs c => exact fun p hp => ⟨(this p hp).1.mono hn, (this p hp).2.mono hn⟩
        | buf t l => trivial
        | tcells t l => exact fun v hv => (this v hv).mono hn
        | ms l => exact fun p hp => ⟨(this p hp).1.mono hn, (this p hp).2.mono hn⟩
      · exact h3
/-- All of a heap's blocks are another's, too. -/
def Sub (H H' : AHeap) : Prop := ∀ b blk, H.get b = some blk → H'.get b = some blk
theorem Sub.refl (H : AHeap) : Sub H H := fun _ _ h => h
theorem Sub.trans {H H' H'' : AHeap} (h : Sub H H') (k : Sub H' H'') : Sub H H'' := fun b blk hb => k b blk (h b blk hb)
/-- A call that only reckons: the heap is as it was. -/
theorem ACalls.tidy {f : FuncId} {args : List AVal} {H : AHeap} {Q : AEnd → Prop} (h : ACalls P G f args H fun e H' => Q e ∧ Sub H H') (hQ : ∀ e, Q e → BelE H.next e) : ACalls P G f args H fun e H' => Q e ∧ H' = H := fun σ w Args hh ha =>
  ACalls.shrink h (fun e H1 ⟨hq, hs⟩ hn => ⟨H, ⟨hq, rfl⟩, Nat.le_refl _, hn, fun b blk hb => ⟨hs b blk hb, hh.lt b blk hb, .inl hb⟩, hQ e hq⟩) σ w Args hh ha
/-- What is known of the heap at a call, for its proof. -/
theorem ACalls.lt {f : FuncId} {args : List AVal} {H : AHeap} {R : AEnd → AHeap → Prop} (h : (∀ b blk, H.get b = some blk → b < H.next) → ACalls P G f args H R) : ACalls P G f args H R := fun σ w Args hh ha => h hh.lt σ w Args hh ha
/-- A loop: what the rounds leave is told by a shape over the state at its head. -/
theorem AL.shape {α : Type} {c : Code} {K : AExit → St → Prop} (L : List Nat) (sh : α → St → St) (inv : Nat → α → Prop) (n0 : Nat) (p0 : α) (h0 : inv n0 p0) (hst : st.forget L = sh p0 (st.forget L))
    (round : ∀ n p, inv n p → acode P G (fun _ => []) c (fun x s => match x with
      | .normal => ∃ m p', m < n ∧ inv m p' ∧ s.forget L = sh p' (st.forget L)
      | x => K x s) (sh p (st.forget L))) : AL P G c K st := by
  have forgetL : ∀ {s : St} {Q : AExit → St → Prop}, AL P G c Q (s.forget L) → AL P G c Q s := fun {s Q} h σ lam w a hr =>
    (h σ lam w a ⟨hr.heap, hr.loc, hr.env.forget L, hr.defers⟩).mono fun e a' w' ⟨σ', lam', x, s', hK, q⟩ => ⟨σ', lam', x, s', hK, ⟨q.ex, q.rel, q.agree, q.next, q.len, q.same, q.evo⟩⟩
  have key : ∀ n p, inv n p → AL P G c K (sh p (st.forget L)) := by
    intro n
    induction n using Nat.strongRecOn with
    | _ n ih =>
      intro p hp
      refine AL.round (AW.mono (acode_ok c (round n p hp)) fun x s hx => ?_)
      cases x with
      | normal =>
        obtain ⟨m, p', hm, hi, he⟩ := hx
        refine forgetL ?_
        rw [he]
        exact ih m hm p' hi
      | _ => exact hx
  exact forgetL (by rw [hst]; exact key n0 p0 h0)
end
end Go.Abs
namespace Go.Abs
section
variable {P : Program} {G : Nat → Option (List AVal)} {st : St}
theorem VR.anywhere {σ σ' : Nat → Pl} {N N' : Nat} {v : AVal} {V : Value} (hb : Bel 0 v) (h : VR σ N v V) : VR σ' N' v V :=
  (h.lower hb).mono (Nat.zero_le _) (fun b hb => absurd hb (Nat.not_lt_zero _))
/-- A part of a heap. -/
def AHeap.only (H : AHeap) (S : Nat → Bool) : AHeap := { next := H.next, get := fun i => if S i then H.get i else none }
/-- A heap in place of the part S of another one. -/
def AHeap.with_ (H : AHeap) (S : Nat → Bool) (H' : AHeap) : AHeap := { next := H'.next, get := fun i => if i < H.next ∧ S i = false then H.get i else H'.get i }
theorem HeapRel.only {σ : Nat → Pl} {H : AHeap} {w : World} (h : HeapRel G σ H w) (S : Nat → Bool) : HeapRel G σ (H.only S) w := by
  have hs : ∀ b blk, (H.only S).get b = some blk → H.get b = some blk := fun b blk hb => by
    simp only [AHeap.only] at hb
    split at hb
    · exact hb
    · cases hb
  exact ⟨fun b blk hb => h.lt b blk (hs b blk hb), fun b blk hb => h.blk b blk (hs b blk hb), fun b b' blk blk' hb hb' => h.sep b b' blk blk' (hs _ _ hb) (hs _ _ hb'), h.glob, fun b blk g l hb => h.globFar b blk g l (hs _ _ hb)⟩
/-- **THE FRAME**: a call that is promised over a part of the heap leaves the rest as it is. -/
theorem ACalls.frame (S : Nat → Bool) {f : FuncId} {args : List AVal} {H : AHeap} {R : AEnd → AHeap → Prop} (h : ACalls P G f args (H.only S) R) :
    ACalls P G f args H fun e H2 => ∃ H', R e H' ∧ H2 = H.with_ S H' := fun σ w Args hh ha => by
  have ho : ∀ b blk, (H.only S).get b = some blk → H.get b = some blk ∧ S b = true := fun b blk hb => by
    simp only [AHeap.only] at hb
    split at hb
    · rename_i hS; exact ⟨hb, hS⟩
    · cases hb
  refine (h σ w Args (hh.only S) ha).mono fun e w' ⟨σ', ae, H', hR, q⟩ => ?_
  have hn : H.next ≤ H'.next := q.next
  have hag : ∀ b, b < H.next → σ' b = σ b := q.agree
  have split2 : ∀ b blk, (H.with_ S H').get b = some blk → (b < H.next ∧ S b = false ∧ H.get b = some blk) ∨ H'.get b = some blk := fun b blk hb => by
    simp only [AHeap.with_] at hb
    split at hb
    · rename_i hc; exact .inl ⟨hc.1, hc.2, hb⟩
    · exact .inr hb
  have far : ∀ b blk, S b = false → H.get b = some blk → ∀ g, (σ b).g = g → g < w.heap.size ∧ (blk.rw = true → ¬ Foot σ (H.only S) g) ∧ ¬ Own σ (H.only S) g := fun b blk hS hb g hg => by
    refine ⟨hg ▸ Foot.lt hh ⟨b, blk, hb, rfl⟩, fun hr ⟨b', blk', hb', e⟩ => ?_, fun ⟨b', blk', hb', hr, e⟩ => ?_⟩
    · obtain ⟨h1, h2⟩ := ho _ _ hb'
      exact hh.sep b b' blk blk' hb h1 (fun e => by subst e; rw [hS] at h2; cases h2) hr (hg.trans e.symm)
    · obtain ⟨h1, h2⟩ := ho _ _ hb'
      exact hh.sep b' b blk' blk h1 hb (fun e => by subst e; rw [hS] at h2; cases h2) hr (e.trans hg.symm)
  have up : ∀ g, Own σ (H.only S) g → Own σ H g := fun g ⟨b, blk, hb, hr, e⟩ => ⟨b, blk, (ho _ _ hb).1, hr, e⟩
  have upF : ∀ g, Foot σ (H.only S) g → Foot σ H g := fun g ⟨b, blk, hb, e⟩ => ⟨b, blk, (ho _ _ hb).1, e⟩
  refine ⟨σ', ae, H.with_ S H', ⟨H', hR, rfl⟩, ⟨q.er, ⟨fun b blk hb => ?_, fun b blk hb => ?_, fun b b' blk blk' hb hb' hne hr => ?_, q.heap.glob, fun b blk g l hb hr hg => ?_⟩, hag, hn, ⟨q.evo.os, q.evo.tape, q.evo.output, q.evo.size, fun g hg hno => q.evo.keep g hg (fun h => hno (up g h)), fun g hg => ?_, fun g hg => ?_⟩⟩⟩
  · rcases split2 b blk hb with ⟨h1, _, h3⟩ | h1
    · exact Nat.lt_of_lt_of_le h1 hn
    · exact q.heap.lt b blk h1
  · rcases split2 b blk hb with ⟨h1, h2, h3⟩ | h1
    · have hf := far b blk h2 h3 _ rfl
      have := (hh.blk b blk h3).mono hn hag q.evo.size (q.evo.keep _ hf.1 hf.2.2)
      rwa [hag b h1]
    · exact q.heap.blk b blk h1
  · rcases split2 b blk hb with ⟨h1, h2, h3⟩ | h1
    · rcases split2 b' blk' hb' with ⟨k1, k2, k3⟩ | k1
      · rw [hag b h1, hag b' k1]; exact hh.sep b b' blk blk' h3 k3 hne hr
      · intro e
        have hf := far b blk h2 h3 _ rfl
        rcases q.evo.foot ((σ' b').g) ⟨b', blk', k1, rfl⟩ with hF | hF
        · rw [← e, hag b h1] at hF; exact hf.2.1 hr hF
        · rw [← e, hag b h1] at hF; exact absurd hF (Nat.not_le.2 hf.1)
    · rcases split2 b' blk' hb' with ⟨k1, k2, k3⟩ | k1
      · intro e
        have hf := far b' blk' k2 k3 _ rfl
        rcases q.evo.own ((σ' b).g) ⟨b, blk, h1, hr, rfl⟩ with hF | hF
        · rw [e, hag b' k1] at hF; exact hf.2.2 hF
        · rw [e, hag b' k1] at hF; exact absurd hF (Nat.not_le.2 hf.1)
      · exact q.heap.sep b b' blk blk' h1 k1 hne hr
  · rcases split2 b blk hb with ⟨h1, h2, h3⟩ | h1
    · rw [hag b h1]; exact hh.globFar b blk g l h3 hr hg
    · exact q.heap.globFar b blk g l h1 hr hg
  · obtain ⟨b, blk, hb, hr, e⟩ := hg
    rcases split2 b blk hb with ⟨h1, h2, h3⟩ | h1
    · exact .inl ⟨b, blk, h3, hr, by rw [← hag b h1]; exact e⟩
    · rcases q.evo.own g ⟨b, blk, h1, hr, e⟩ with h | h
      · exact .inl (up g h)
      · exact .inr h
  · obtain ⟨b, blk, hb, e⟩ := hg
    rcases split2 b blk hb with ⟨h1, h2, h3⟩ | h1
    · exact .inl ⟨b, blk, h3, by rw [← hag b h1]; exact e⟩
    · rcases q.evo.foot g ⟨b, blk, h1, e⟩ with h | h
      · exact .inl (upF g h)
      · exact .inr h
/-- A call that is handed no memory and hands back none: what it comes to over the empty heap it comes to over every heap, and leaves that as it was. -/
theorem ACalls.alone {f : FuncId} {args : List AVal} {Q : AEnd → Prop} (ha : ∀ v ∈ args, Bel 0 v) (h : ACalls P G f args { next := 0, get := fun _ => none } (fun e _ => Q e)) (hQ : ∀ e, Q e → BelE 0 e) (H : AHeap) :
    ACalls P G f args H fun e H' => Q e ∧ H' = H := fun σ w Args hh hv => by
  have h0 : HeapRel G σ { next := 0, get := fun _ => none } w := ⟨fun b blk hb => (by cases hb), fun b blk hb => (by cases hb), fun b b' blk blk' hb => (by cases hb), hh.glob, fun b blk g l hb => (by cases hb)⟩
  refine (h σ w Args h0 ⟨hv.1, fun i v V hi hV => (hv.2 i v V hi hV).lower (ha v (List.mem_of_getElem? hi))⟩).mono fun e w' ⟨σ', ae, H', hR, q⟩ => ?_
  have hno : ∀ g, ¬ Own σ { next := 0, get := fun _ => none } g := fun g ⟨b, blk, hb, _⟩ => (by cases hb)
  have hk : ∀ g, g < w.heap.size → w'.heap[g]? = w.heap[g]? := fun g hg => q.evo.keep g hg (hno g)
  refine ⟨σ, ae, H, ⟨hR, rfl⟩, ⟨?_, ⟨hh.lt, fun b blk hb => ?_, hh.sep, q.heap.glob, hh.globFar⟩, fun _ _ => rfl, Nat.le_refl _, ⟨q.evo.os, q.evo.tape, q.evo.output, q.evo.size, fun g hg _ => hk g hg, fun g hg => .inl hg, fun g hg => .inl hg⟩⟩⟩
  · have hr := q.er
    have hb := hQ _ hR
    cases hr with
    | ret v V hv => exact .ret _ _ (VR.anywhere hb hv)
    | panic v V hv => exact .panic _ _ (VR.anywhere hb hv)
  · exact (hh.blk b blk hb).mono (Nat.le_refl _) (fun _ _ => rfl) q.evo.size (hk _ (Foot.lt hh ⟨b, blk, hb, rfl⟩))
end
end Go.Abs
namespace Go.Abs
section
variable {P : Program} {G : Nat → Option (List AVal)} {st : St}
/-- A key among the entries: its place and what lies there. -/
def afind (P : Program) (kt : TypeId) (k : AVal) : List (AVal × AVal) → Nat → Option (Option (Nat × AVal))
  | [], _ => some none
  | (k', v) :: r, i => (match aeqS P 10000 kt k k' with
    | some true => some (some (i, v))
    | some false => afind P kt k r (i + 1)
    | none => none)
theorem bytes_same (a b : List UInt8) : ((⟨a.toArray⟩ : ByteArray) == ⟨b.toArray⟩) = (a == b) := by
  rw [Bool.eq_iff_iff, MapKept.bytes_beq]
  constructor
  · intro h
    have : a.toArray = b.toArray := congrArg ByteArray.data h
    have : a = b := by simpa using this
    simp [this]
  · intro h
    have : a = b := by simpa using h
    rw [this]
theorem sameNow_aeq {σ : Nat → Pl} {N : Nat} {kt : TypeId} {d : TypeDesc} {k k' : AVal} {K K' : Value} {r b : Bool} (hd : P.underlying kt = some d) (hk : VR σ N k K) (hk' : VR σ N k' K') {D : Nat} (h : aeqS P D kt k k' = some r)
    (hs : Instr.sameNow d K K' = some b) : b = r := by
  cases D with
  | zero => cases h
  | succ D =>
  simp only [aeqS, hd] at h
  split at h
  · rename_i hd'
    cases hd'
    cases hk; cases hk'
    simp [Instr.sameNow] at hs
    cases h
    exact hs.symm
  · rename_i hd'
    cases hd'
    split at h
    · rename_i he
      subst he
      cases hk; cases hk'
      simp [Instr.sameNow] at hs
      cases h
      exact hs.symm
    · cases h
  · rename_i hd'
    cases hd'
    cases hk; cases hk'
    simp only [Instr.sameNow, bytes_same] at hs
    cases h; cases hs
    rfl
  · rename_i hd'
    cases hd'
    simp [Instr.sameNow] at hs
  · cases h
/-- Entries of the machine's and what is told of them. -/
def EntsR (σ : Nat → Pl) (N : Nat) (l : List (AVal × AVal)) (es : List MapEntry) : Prop := es.length = l.length ∧ ∀ (i : Nat) (p : AVal × AVal) (e : MapEntry), l[i]? = some p → es[i]? = some e → EntR σ N p e
theorem EntsR.tail {σ : Nat → Pl} {N : Nat} {p : AVal × AVal} {l : List (AVal × AVal)} {e : MapEntry} {es : List MapEntry} (h : EntsR σ N (p :: l) (e :: es)) : EntR σ N p e ∧ EntsR σ N l es :=
  ⟨h.2 0 p e rfl rfl, by have := h.1; simpa using this, fun i q f hq hf => h.2 (i + 1) q f (by simpa using hq) (by simpa using hf)⟩
/-- What is found, of the machine's. -/
def found (es : List MapEntry) (i : Nat) : Option (Nat × AVal) → Option (Nat × Value)
  | none => none
  | some (j, _) => (es[j - i]?).map fun e => (j, e.val)
theorem afind_ge {kt : TypeId} {k : AVal} : ∀ (l : List (AVal × AVal)) (i : Nat) {j : Nat} {v : AVal}, afind P kt k l i = some (some (j, v)) → i ≤ j ∧ ∃ k', l[j - i]? = some (k', v) ∧ aeqS P 10000 kt k k' = some true
  | [], i, j, v, h => by cases h
  | (k', u) :: r, i, j, v, h => by
    simp only [afind] at h
    split at h
    · rename_i he
      cases h
      exact ⟨Nat.le_refl _, k', by simp, he⟩
    · obtain ⟨h1, k2, h2, h3⟩ := afind_ge r (i + 1) h
      refine ⟨by omega, k2, ?_, h3⟩
      have : j - i = (j - (i + 1)) + 1 := by omega
      rw [this]
      simpa using h2
    · cases h
theorem run_findAsking {σ : Nat → Pl} {N : Nat} {kt : TypeId} {k : AVal} {K : Value} (hk : VR σ N k K) (w : World) : ∀ (l : List (AVal × AVal)) (es : List MapEntry) (i : Nat) {r : Option (Nat × AVal)}, EntsR σ N l es → afind P kt k l i = some r →
    (Instr.findAsking kt K es i).run P w = .ok (found es i r) w
  | [], es, i, r, he, h => by
    have : es = [] := List.length_eq_zero_iff.1 he.1
    subst this
    cases h
    rfl
  | p :: l, [], i, r, he, h => by have := he.1; simp at this
  | (k', v) :: l, e :: es, i, r, he, h => by
    obtain ⟨h1, h2⟩ := he.tail
    simp only [afind] at h
    split at h
    · rename_i hq
      cases h
      have := aeqS_ok (P := P) (σ := σ) (N := N) w 10000 kt k k' true hq K e.key hk h1.1
      simp only [Instr.findAsking, Op.equal, Op.maxDepth, Sem.run_bind, this, Result.andThen]
      simp [found]
    · rename_i hq
      have := aeqS_ok (P := P) (σ := σ) (N := N) w 10000 kt k k' false hq K e.key hk h1.1
      have ih := run_findAsking hk w l es (i + 1) h2 h
      simp only [Instr.findAsking, Op.equal, Op.maxDepth, Sem.run_bind, this, Result.andThen, Bool.false_eq_true, if_false]
      rw [ih]
      cases r with
      | none => rfl
      | some q =>
        obtain ⟨j, u⟩ := q
        have := (afind_ge l (i + 1) h).1
        simp only [found]
        have e : j - i = (j - (i + 1)) + 1 := by omega
        rw [e, List.getElem?_cons_succ]
    · cases h
theorem findNow_or {σ : Nat → Pl} {N : Nat} {kt : TypeId} {d : TypeDesc} {k : AVal} {K : Value} (hd : P.underlying kt = some d) (hk : VR σ N k K) : ∀ (l : List (AVal × AVal)) (es : List MapEntry) (i : Nat) {r : Option (Nat × AVal)}, EntsR σ N l es → afind P kt k l i = some r →
    Instr.findNow d K es i = none ∨ Instr.findNow d K es i = some (found es i r)
  | [], es, i, r, he, h => by
    have : es = [] := List.length_eq_zero_iff.1 he.1
    subst this
    cases h
    exact .inr rfl
  | p :: l, [], i, r, he, h => by have := he.1; simp at this
  | (k', v) :: l, e :: es, i, r, he, h => by
    obtain ⟨h1, h2⟩ := he.tail
    simp only [afind] at h
    cases hs : Instr.sameNow d K e.key with
    | none => exact .inl (by simp [Instr.findNow, hs])
    | some b =>
      split at h
      · rename_i hq
        cases h
        have := sameNow_aeq hd hk h1.1 hq hs
        subst this
        exact .inr (by simp [Instr.findNow, hs, found])
      · rename_i hq
        have := sameNow_aeq hd hk h1.1 hq hs
        subst this
        rcases findNow_or hd hk l es (i + 1) h2 h with h3 | h3
        · exact .inl (by simp [Instr.findNow, hs, h3])
        · refine .inr ?_
          simp only [Instr.findNow, hs, h3]
          cases r with
          | none => rfl
          | some q =>
            obtain ⟨j, u⟩ := q
            have := (afind_ge l (i + 1) h).1
            simp only [found]
            have e : j - i = (j - (i + 1)) + 1 := by omega
            rw [e, List.getElem?_cons_succ]
      · cases h
theorem run_findKey' {σ : Nat → Pl} {N : Nat} {kt : TypeId} {d : TypeDesc} {k : AVal} {K : Value} (hd : P.underlying kt = some d) (hk : VR σ N k K) (w : World) {l : List (AVal × AVal)} {es : List MapEntry} {r : Option (Nat × AVal)} (he : EntsR σ N l es) (h : afind P kt k l 0 = some r) :
    (Instr.findKey kt K es).run P w = .ok (found es 0 r) w := by
  rcases findNow_or hd hk l es 0 he h with h1 | h1
  · simp only [Instr.findKey, Sem.run_bind, run_underlying hd, Result.andThen, h1]
    exact run_findAsking hk w l es 0 he h
  · simp only [Instr.findKey, Sem.run_bind, run_underlying hd, Result.andThen, h1]
    rfl
end
end Go.Abs
namespace Go.Abs
section
variable {P : Program} {G : Nat → Option (List AVal)} {st : St}
/-- May it be a key? -/
def acheck (P : Program) : Nat → TypeId → AVal → Bool
  | 0, _, _ => false
  | n + 1, t, v => match P.underlying t with
    | some (.interface _) => false
    | some (.array _ _) => false
    | some (.struct fs) => (match v with
      | .agg xs => fs.toList.all fun f => f.name == "_" || (match apart P f.type xs f.offset with
        | some u => acheck P n f.type u
        | none => false)
      | _ => false)
    | some _ => true
    | none => false
theorem acheck_ok {σ : Nat → Pl} {N : Nat} (em : Bool) (w : World) : ∀ (n : Nat) (t : TypeId) (v : AVal) (V : Value), acheck P n t v = true → VR σ N v V → (Instr.checkKey em n t V).run P w = .ok () w
  | 0, t, v, V, h, hv => by simp [acheck] at h
  | n + 1, t, v, V, h, hv => by
    simp only [acheck] at h
    split at h
    · cases h
    · cases h
    · rename_i fs hd
      split at h
      · rename_i xs
        cases hv with
        | agg _ Xs hs hx =>
          rw [Instr.checkKey]
          simp only [Sem.run_bind, run_underlying hd, Result.andThen_ok]
          rw [← Array.forIn_toList]
          have hall := List.all_eq_true.1 h
          clear h
          generalize fs.toList = L at hall
          induction L with
          | nil => simp
          | cons f L ih =>
            have hf := hall f (by simp)
            have ih' := ih (fun y hy => hall y (by simp [hy]))
            by_cases hn : f.name = "_"
            · simp only [List.forIn_cons, Sem.run_bind, hn, ne_eq, not_true, if_false, Result.andThen_ok, Sem.run_pure]
              exact ih'
            · have hne : (f.name == "_") = false := by simpa using hn
              rw [hne, Bool.false_or] at hf
              split at hf
              · rename_i u hu
                obtain ⟨U, h1, h2⟩ := apart_rel ⟨hs, hx⟩ hu w
                have h3 := acheck_ok em w n f.type u U hf h2
                simp only [List.forIn_cons, Sem.run_bind, hn, ne_eq, not_false_eq_true, if_true, Result.andThen_ok, h1, h3, Sem.run_pure]
                exact ih'
              · cases hf
      · cases h
    · rename_i d h1 h2 h3 hd
      rw [Instr.checkKey]
      simp only [Sem.run_bind, run_underlying hd, Result.andThen_ok]
      cases d with
      | interface ms => first | exact (h1 _ rfl).elim | exact (h1 _ hd).elim
      | array a b => first | exact (h2 _ _ rfl).elim | exact (h2 _ _ hd).elim
      | struct fs => first | exact (h3 _ rfl).elim | exact (h3 _ hd).elim
      | _ => cases V <;> rfl
    · cases h
end
end Go.Abs
namespace Go.Abs
section
variable {P : Program} {G : Nat → Option (List AVal)} {st : St}
def amap (st : St) (m : AVal) : Option (List (AVal × AVal)) := match m with
  | .nilmap => some []
  | .map b => (match st.heap.get b with
    | some (.mp l _ _) => some l
    | _ => none)
  | _ => none
theorem pair_rel {σ : Nat → Pl} {N : Nat} {v u : AVal} {V U : Value} (hv : VR σ N v V) (hu : VR σ N u U) : VR σ N (.tup [v, u]) (.tuple #[V, U]) := by
  refine .tup _ _ rfl fun i x X hx hX => ?_
  rcases i with _ | _ | i
  · simp at hx hX; subst hx; subst hX; exact hv
  · simp at hx hX; subst hx; subst hX; exact hu
  · simp at hx
theorem found_some {σ : Nat → Pl} {N : Nat} {kt : TypeId} {k : AVal} {l : List (AVal × AVal)} {es : List MapEntry} {j : Nat} {v : AVal} (he : EntsR σ N l es) (h : afind P kt k l 0 = some (some (j, v))) :
    ∃ e k', es[j]? = some e ∧ found es 0 (some (j, v)) = some (j, e.val) ∧ VR σ N v e.val ∧ VR σ N k' e.key ∧ aeqS P 10000 kt k k' = some true ∧ l[j]? = some (k', v) := by
  obtain ⟨_, k', h1, h2⟩ := afind_ge l 0 h
  rw [Nat.sub_zero] at h1
  have hj : j < es.length := by rw [he.1]; exact (List.getElem?_eq_some_iff.1 h1).1
  have hej : es[j]? = some es[j] := by simp [hj]
  have hr := he.2 j _ _ h1 hej
  exact ⟨es[j], k', hej, by simp [found, hj], hr.2, hr.1, h2, h1⟩
/-- What a map object holds. -/
theorem mp_ents {σ : Nat → Pl} {N : Nat} {p : Pl} {w : World} {l : List (AVal × AVal)} {bs : List Nat} {c : Nat} (h : BlkR σ N p w (.mp l bs c)) : ∃ es, w.heap[p.g]? = some (.map es c) ∧ EntsR σ N l es.toList ∧ es.toList.map (·.born) = bs ∧ (∀ x ∈ bs, x < c) ∧ bs.Nodup := by
  obtain ⟨es, h1, h2, h3, h4⟩ := h
  exact ⟨es, h1, ⟨by simpa using h2, fun i q e hq he => h3 i q e hq (by simpa using he)⟩, h4⟩
def alookup (P : Program) (t : TypeId) (m k : AVal) (ok : Bool) (st : St) : Option AVal := match P.underlying t, amap st m with
  | some (.map kt et), some l => if acheck P 10000 kt k then (match P.info? et, afind P kt k l 0 with
    | some _, some (some (_, v)) => some (if ok then .tup [v, .bool true] else v)
    | some ie, some none => (match ie.zero with
      | some z => some (if ok then .tup [ofZero z, .bool false] else ofZero z)
      | none => none)
    | _, _ => none) else none
  | _, _ => none
/-- Where a map's entries lie. -/
def AtMap (M : Value) (es : Array MapEntry) (w : World) : Prop := (M = .map none ∧ es = #[]) ∨ ∃ r c, M = .map (some r) ∧ w.heap[r]? = some (.map es c)
theorem amap_rel {σ : Nat → Pl} {lam : Nat → Nat} {w : World} {a : Act} (hr : Rel G σ lam st w a) {m : AVal} {M : Value} (hm : VR σ st.heap.next m M) {l : List (AVal × AVal)} (hl : amap st m = some l) :
    ∃ es : Array MapEntry, AtMap M es w ∧ EntsR σ st.heap.next l es.toList := by
  unfold amap at hl
  split at hl
  · cases hl
    cases hm
    exact ⟨#[], .inl ⟨rfl, rfl⟩, ⟨rfl, fun i p e hp => by simp at hp⟩⟩
  · rename_i b
    split at hl
    · rename_i l' bs c hb
      cases hl
      cases hm
      obtain ⟨es, h1, h2, _⟩ := mp_ents (hr.heap.blk b _ hb)
      exact ⟨es, .inr ⟨_, c, rfl, h1⟩, h2⟩
    · cases hl
  · cases hl
theorem run_lookup_some {t kt et : TypeId} {M X : Value} {es : Array MapEntry} {w : World} (hd : P.underlying t = some (.map kt et)) (hm : AtMap M es w) (hck : (Instr.checkKey es.isEmpty 10000 kt X).run P w = .ok () w) {j : Nat} {V : Value}
    (hf : (Instr.findKey kt X es.toList).run P w = .ok (some (j, V)) w) (ok : Bool) : (Instr.lookup t M X ok).run P w = .ok (if ok then .tuple #[V, .bool true] else V) w := by
  rcases hm with ⟨rfl, rfl⟩ | ⟨r, c, rfl, hb⟩
  · simp only [Instr.lookup, Sem.run_bind, run_underlying hd, Result.andThen_ok, Sem.run_pure]
    simp only [hck, hf, Result.andThen_ok, Sem.run_pure, Sem.run_bind]
  · simp only [Instr.lookup, Sem.run_bind, run_underlying hd, Result.andThen_ok, Sem.run_pure, MapKept.run_getObj_map hb]
    simp only [hck, hf, Result.andThen_ok, Sem.run_pure, Sem.run_bind]
theorem run_lookup_none {t kt et : TypeId} {M X : Value} {es : Array MapEntry} {w : World} (hd : P.underlying t = some (.map kt et)) (hm : AtMap M es w) (hck : (Instr.checkKey es.isEmpty 10000 kt X).run P w = .ok () w) {z : Value}
    (hf : (Instr.findKey kt X es.toList).run P w = .ok none w) (hz : (zeroValue et).run P w = .ok z w) (ok : Bool) : (Instr.lookup t M X ok).run P w = .ok (if ok then .tuple #[z, .bool false] else z) w := by
  rcases hm with ⟨rfl, rfl⟩ | ⟨r, c, rfl, hb⟩
  · simp only [Instr.lookup, Sem.run_bind, run_underlying hd, Result.andThen_ok, Sem.run_pure]
    simp only [hck, hf, hz, Result.andThen_ok, Sem.run_pure, Sem.run_bind]
  · simp only [Instr.lookup, Sem.run_bind, run_underlying hd, Result.andThen_ok, Sem.run_pure, MapKept.run_getObj_map hb]
    simp only [hck, hf, hz, Result.andThen_ok, Sem.run_pure, Sem.run_bind]
theorem AVK.lookup {o : Oper} {t : TypeId} {x kx : Operand} {ok : Bool} {K : TVal → St → Prop} {m k r : AVal} (ho : o.op = .lookup t x kx ok) (hx : st.ev x = .v m) (hkx : st.ev kx = .v k)
    (h : alookup P t m k ok st = some r) (hK : K (.v r) st) : AVK P G o K st :=
  AVK.value hK fun σ lam w a hr => by
    have hm := ev_rel hr x
    have hk := ev_rel hr kx
    rw [hx] at hm
    rw [hkx] at hk
    unfold alookup at h
    split at h
    · rename_i kt et l hd hl
      split at h
      · rename_i hc
        obtain ⟨es, hat, he⟩ := amap_rel hr hm hl
        have hck := acheck_ok (P := P) (σ := σ) (N := st.heap.next) es.isEmpty w 10000 kt k (a.eval kx) hc hk
        cases hkd : P.underlying kt with
        | none => simp [acheck, hkd] at hc
        | some kd =>
          split at h
          · rename_i ie j v hie hf
            have hfk := run_findKey' (P := P) hkd hk w he hf
            obtain ⟨e, k', h1, h2, h3, h4, h5, h6⟩ := found_some he hf
            rw [h2] at hfk
            refine ⟨if ok then .tuple #[e.val, .bool true] else e.val, ?_, ?_, fun k o he => by cases he⟩
            · simp only [execOp, ho, Sem.run_bind, run_lookup_some hd hat hck hfk ok, Result.andThen_ok, Sem.run_pure]
            · cases h
              show VR _ _ _ _
              cases ok
              · exact h3
              · exact pair_rel h3 (.bool _)
          · rename_i ie hie hf
            have hfk := run_findKey' (P := P) hkd hk w he hf
            split at h
            · rename_i z hz
              refine ⟨if ok then .tuple #[z, .bool false] else z, ?_, ?_, fun k o he => by cases he⟩
              · simp only [execOp, ho, Sem.run_bind, run_lookup_none hd hat hck hfk (run_zero hie hz w) ok, Result.andThen_ok, Sem.run_pure]
              · cases h
                show VR _ _ _ _
                cases ok
                · exact ofZero_rel _ _ _
                · exact pair_rel (ofZero_rel _ _ _) (.bool _)
            · cases h
          · cases h
      · cases h
    · cases h
/-- How many entries. -/
theorem AVK.lenMap {o : Oper} {t : TypeId} {ts : Array TypeId} {x : Operand} {K : TVal → St → Prop} {m : AVal} {l : List (AVal × AVal)} {kt et : TypeId} (ho : o.op = .call { callee := .builtin .len, args := #[x], argTypes := ts }) (hts : ts[0]? = some t)
    (hd : P.underlying t = some (.map kt et)) (hx : st.ev x = .v m) (hl : amap st m = some l) (hK : K (.v (.int .i64 l.length)) st) : AVK P G o K st :=
  AVK.value hK fun σ lam w a hr => by
    have hm := ev_rel hr x
    rw [hx] at hm
    obtain ⟨es, hat, he⟩ := amap_rel hr hm hl
    refine ⟨.int .i64 l.length, ?_, .int _ _, fun k o he => by cases he⟩
    have hlen : es.size = l.length := by have := he.1; simpa using this
    rcases hat with ⟨hM, rfl⟩ | ⟨r, c, hM, hb⟩
    · have h0 : l.length = 0 := by rw [← hlen]; rfl
      simp [execOp, ho, resolve, invoke, builtin, Builtin.len_, hts, run_underlying hd, hM, h0, goInt]
    · simp [execOp, ho, resolve, invoke, builtin, Builtin.len_, hts, run_underlying hd, hM, MapKept.run_getObj_map hb, hlen, goInt]
end
end Go.Abs
