import Derived.Test.YtelbekgmijpacaaGreatDoorS1
namespace Go.Abs
def lMix : List (AVal × AVal) := [105, 109, 112, 111, 116, 99, 115, 98, 119, 108].map fun n => (.int .u8 (.ofNat n), .int .i64 (.ofNat 0))
theorem stMix_ms (s : List UInt8) : (stMix s).heap.get 0 = some (.ms lMix) := by kernel_rfl
theorem stMix_e4 (s : List UInt8) : (stMix s).env.get 4 = some (.v (.map 0)) := by kernel_rfl
theorem body60 : Go.Proofs.Tryz.f60.body = some (codeOf Go.Proofs.Tryz.f60) := by kernel_rfl
theorem func60 : E0.P.funcs[60]? = some Go.Proofs.Tryz.f60 := by kernel_rfl
theorem und176 : E0.P.underlying 176 = some (.map 5 174) := by kernel_rfl
theorem lMix_zero : ∀ p ∈ lMix, p.2 = .int .i64 0 := by
  intro p hp
  unfold lMix at hp
  obtain ⟨n, _, rfl⟩ := List.mem_map.1 hp
  rfl
theorem ACalls.code {P : Program} {G : Nat → Option (List AVal)} {f : FuncId} {fn : Func} {c : Code} {args : List AVal} {n next : Nat} {hp : Tr ABlk} {R : AEnd → AHeap → Prop} (hf : P.funcs[f]? = some fn) (hb : fn.body = some c) (hn : fn.ntmps = n) (h1 : args.length ≤ n) (h2 : n < 16777214)
    (h : AW P G c (bodyK P G fn.results.toList R) (xstart args n next hp).st) : ACalls P G f args { next := next, get := hp.get } R := by
  refine ACalls.bodyU hf hb ?_
  rw [hn, ← xstart_eq h1 h2]
  exact h
theorem bodyK_ret {P : Program} {G : Nat → Option (List AVal)} {res : List ResultVar} {R : AEnd → AHeap → Prop} {st : St} {l : List AVal} (h : aresults P G st res = some l) (hR : R (.ret (oneOf l)) st.heap) : bodyK P G res R .ret st := by
  unfold bodyK
  simp only [h]
  exact hR
theorem st_len (x : XSt) : x.st.env.length = x.n := tl_length _ _ _
theorem st_get (x : XSt) (i : Nat) : x.st.env[i]? = if i < x.n then some ((x.env.get i).getD (.v .undef)) else none := tl_get _ _ _ i
theorem st_heap (x : XSt) (b : Nat) : x.st.heap.get b = x.heap.get b := rfl
set_option maxRecDepth 100000 in
theorem mixed_zero (s : List UInt8) : ACalls E0.P E0.G 60 [decl1 s] { next := 0, get := (Tr.nil : Tr ABlk).get } (fun e _ => e = .ret (.bool false)) := by
  refine ACalls.code func60 body60 (n := 85) rfl (by simp) (by decide) ?_
  refine zpre_ok E0_ok dr0_ok c0_ok 4 _ (preMix_eq s) ?_
  have he : (stMix s).st.env.length = 85 := by rw [st_len, stMix_n]
  have h4 : (stMix s).st.env[4]? = some (.v (.map 0)) := by
    rw [st_get, stMix_n, stMix_e4]
    rfl
  have hm : (stMix s).st.heap.get 0 = some (.ms lMix) := by rw [st_heap, stMix_ms]
  generalize (stMix s).st = st at h4 he hm ⊢
  show AW E0.P E0.G (.seq (.seq _ (.block 2 (.loop _))) _) _ _
  refine AW.seq (AW.seq (AW.openMs hm fun l' bs n hp hl hlt hnd => ?_))
  have hz : ∀ p ∈ l', p.2 = .int .i64 0 := fun p h => lMix_zero p (hp.mem_iff.1 h)
  refine AW.region ?_
  refine AOps.one rfl rfl (AVK.ao (AVK.move (.inl rfl) ?_))
  have hev : St.ev ⟨st.env, st.loc, st.heap.set 0 (.mp l' bs n)⟩ (.tmp 4) = .v (.map 0) := ev_tmp h4
  rw [hev]
  refine AOps.one rfl rfl (AO.rangeMap (P := E0.P) (G := E0.G) (t := 176) (kt := 5) (et := 174) (x := .tmp 77) (b := 0) (l := l') (bs := bs) (c := n) rfl und176 ?ra ?rb ?rc)
  case ra => exact ev_tmp (by show (st.env.set 77 _)[77]? = _; simp [he])
  case rb => show (st.heap.set 0 _).get 0 = _; simp [AHeap.set]
  refine AOps.nil ?_
  refine AW.block (AW.loop (AL.mono (AL.zeros (n := 0) (L := st.loc.length) (b := 0) (c := n) (l := l') (bs := bs) ⟨rfl, rfl, rfl⟩ ⟨rfl, rfl, rfl⟩ ⟨rfl, rfl, rfl⟩ ⟨rfl, rfl, rfl⟩ ⟨rfl, rfl, rfl⟩ ⟨rfl, rfl, rfl⟩ ⟨rfl, rfl, rfl⟩ hz hl hlt hnd (bs.length) [] _ ?_ ?_ ?_ ?_ ?_) ?_))
  · exact List.length_filter_le _ _
  · show ((st.env.set 77 _).set 78 _).length = 85
    simp [he]
  · show ((st.env.set 77 _).set 78 _)[78]? = _
    simp [he]
    rfl
  · show (st.loc ++ [_])[st.loc.length]? = _
    simp
  · show (st.heap.set 0 _).get 0 = _
    simp [AHeap.set]
  · rintro x s' ⟨rfl, hs'⟩
    simp only [InBlock, if_true]
    show AW E0.P E0.G (.seq (.region 13 _ _) .ret) _ _
    refine AW.seq (AW.region (AOps.one rfl rfl (AVK.ao (AVK.move (.inr rfl) (AOps.nil ?_)))))
    refine AW.ret ?_
    refine bodyK_ret (l := [.bool false]) ?_ rfl
    show aresults E0.P E0.G (s'.put (some 2) (.v (.bool false))) [.tmp 2] = some [.bool false]
    have h3 : (s'.put (some 2) (.v (.bool false))).ev (.tmp 2) = .v (.bool false) := ev_tmp (by rw [put_env]; simp [hs'])
    simp only [aresults, aresult, h3]
end Go.Abs
