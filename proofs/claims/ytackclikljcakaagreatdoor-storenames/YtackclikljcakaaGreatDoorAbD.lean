/- The abstract evaluator against the model: statements, functions, and regions whose order Go leaves open. For every program and every world; no condition. -/
import Derived.Test.YtackclikljcakaaGreatDoorAbC
/- The abstract run against the model: statements and functions, the drawn regions taken as said. -/
namespace Go.Ab
open Go
variable {P : Program} [Idx P] {φ : Phi} {W : World}

/-- The two functions without a text that are known. -/
structure FitExt (P : Program) : Prop where
  clone : ∀ (f : Nat) (fn : Func), P.funcs[f]? = some fn → fn.body = none → fn.name = "maps.clone" → ∀ args W, (callFunc f args).run P W = (do pure (Next.value (← Extern.MapsClone.clone args)) : Sem Next).run P W
  compare : ∀ (f : Nat) (fn : Func), P.funcs[f]? = some fn → fn.body = none → fn.name = "internal/bytealg.abigen_runtime_cmpstring" → ∀ (a b : ByteArray) W, (callFunc f #[.string a, .string b]).run P W = .ok (.value (goInt (Extern.BytealgCompare.cmp a b))) W

/-- Drawn regions, as they are to be shown. -/
def DrawnOk (P : Program) [Idx P] : Prop := ∀ (r : Fns), FnsOk P r → ∀ (id : Nat) (ops : Array Oper) (rnd : Option Nat) (a : A) (E : Env) (s : St) (N G : Nat) (φ : Phi) (act : Act) (W : World) (Fc : Fence),
  codeOk G N (.region id ops true) = true → Globs φ G → RAct φ N a act → Inv P φ (s.look E) s.next W → RRnd φ rnd Fc → regionA P r ops true rnd a E s ≠ .bad →
    (Code.region id ops true).wpIn Fc 0 P (ToC P E N φ s W (regionA P r ops true rnd a E s)) act W

omit [Idx P] in
theorem ToC.one {E : Env} {N : Nat} {s : St} {x : Ex} {a : A} {act : Act} (i : Inv P φ (s.look E) s.next W) (hr : RAct φ N a act) : ToC P E N φ s W (.ok (x, a) s) (exitOf x) act W :=
  ⟨x, a, s, φ, List.mem_singleton.2 rfl, rfl, hr, .refl i⟩

/-! ### loops and scopes -/
section
variable {F : Fence} {Q : Exit → Act → World → Prop} {a : Act} {w : World}
omit [Idx P] in
theorem wpIn_loop_step {c : Code} (h : c.wpIn F 0 P (Exit.then (fun a w => ∀ (b : Frame) (k : List Item) (cs : List Frame), b.roundOf = F.round → F.fn b.fn → F.room (cs.length + 1 + 0) →
      ∃ e a' w', Q e a' w' ∧ ArrivesIn (Machine.fenced P F) P (lone (b.atR a (.inLoop c :: k)) cs w) b k cs e a' w') Q) a w) :
    ∀ (b : Frame) (k : List Item) (cs : List Frame), b.roundOf = F.round → F.fn b.fn → F.room (cs.length + 1 + 0) →
      ∃ e a' w', Q e a' w' ∧ ArrivesIn (Machine.fenced P F) P (lone (b.atR a (.code c :: .inLoop c :: k)) cs w) b k cs e a' w' := by
  intro b k cs hro hb hr
  obtain ⟨e, a₁, w₁, hq, harr⟩ := h b (.inLoop c :: k) cs hro hb hr
  cases e with
  | normal =>
    obtain ⟨e₂, a₂, w₂, hq₂, harr₂⟩ := hq b k cs hro hb hr
    exact ⟨e₂, a₂, w₂, hq₂, .of_steps harr harr₂⟩
  | exit id => exact ⟨_, a₁, w₁, hq, .pass (x := .inLoop c) rfl (fun _ _ => .inl (by simp)) harr⟩
  | goto l => exact ⟨_, a₁, w₁, hq, .pass (x := .inLoop c) rfl (fun _ _ => .inl (by simp)) harr⟩
  | ret => exact ⟨_, a₁, w₁, hq, .pass (x := .inLoop c) rfl (fun _ _ => .inl (by simp)) harr⟩
  | panic ch => exact ⟨_, a₁, w₁, hq, .pass (x := .inLoop c) rfl (fun _ _ => .inl (by simp)) harr⟩
  | outgrown => exact ⟨_, a₁, w₁, hq, .pass (x := .inLoop c) rfl (fun _ _ => .inl (by simp)) harr⟩
omit [Idx P] in
theorem stepR_scope {b : Frame} {k : List Item} {cs : List Frame} {c : Code} : step P (lone (b.atR a (.code (.scope c) :: k)) cs w) = .next (lone (b.atR a (.code c :: .inScope c :: k)) cs w) :=
  step_lone_go (by simp [stepG, stepG.exec, Frame.atR])
omit [Idx P] in
theorem stepR_inScope {b : Frame} {k : List Item} {cs : List Frame} {c : Code} : step P (lone (b.atR a (.inScope c :: k)) cs w) = .next (lone (b.atR a k) cs w) :=
  step_lone_go (by simp [stepG, stepG.exec, Frame.atR])
/-- No goto leads out. -/
def noGoto (Q : Exit → Act → World → Prop) : Exit → Act → World → Prop
  | .goto _, _, _ => False
  | e, a, w => Q e a w
omit [Idx P] in
theorem wpIn_scope_straight {c : Code} (h : c.wpIn F 0 P (noGoto Q) a w) : (Code.scope c).wpIn F 0 P Q a w := by
  intro b k cs hro hb hr
  have h0 : (lone (b.atR a (.code (.scope c) :: k)) cs w).fenced P F := fenced_calm hb hr rfl
  obtain ⟨e, a₁, w₁, hq, harr⟩ := h b (.inScope c :: k) cs hro hb hr
  cases e with
  | normal => exact ⟨.normal, a₁, w₁, hq, .head h0 stepR_scope (StepsIn.trans harr (.one (fenced_calm hb hr rfl) stepR_inScope))⟩
  | exit id =>
    have hx : exitTo id (.inScope c :: k) = exitTo id k := by simp [exitTo]
    exact ⟨.exit id, a₁, w₁, hq, fun k' hk => .head h0 stepR_scope (harr.1 k' (by rw [hx]; exact hk)),
      fun hr' hk => let ⟨k₁, h1, h2⟩ := harr.2 hr' (by rw [hx]; exact hk); ⟨k₁, h1, .head h0 stepR_scope h2⟩⟩
  | goto l => exact hq.elim
  | ret => exact ⟨_, a₁, w₁, hq, .of_steps (.one h0 stepR_scope) harr⟩
  | panic ch => exact ⟨_, a₁, w₁, hq, .of_steps (.one h0 stepR_scope) harr⟩
  | outgrown => exact ⟨_, a₁, w₁, hq, .of_steps (.one h0 stepR_scope) harr⟩
end

omit [Idx P] in
/-- A function of the program's own text is entered. -/
theorem run_enter {f : FuncId} {fn : Func} {c : Code} (hf : P.funcs[f]? = some fn) (hb : fn.body = some c) (hn : (fn.name == "runtime.NumGoroutine") = false) (args : Array Value) (W : World) : (callFunc f args).run P W = .ok (.enter f args) W := by
  unfold callFunc
  simp only [Sem.run_bind, run_program, Result.andThen_ok, hf, hn, hb, Bool.false_eq_true, if_false, Option.isNone_some]
  rfl

section
variable {r : Fns} (R : FnsOk P r) (F : Fit P)
include R F

omit [Idx P] in
omit R F in
theorem enter_ok {rnd : Option Nat} {a : A} {E : Env} {s : St} {N : Nat} {φ : Phi} {act : Act} {W : World} {Fc : Fence} (hr : RAct φ N a act) (i : Inv P φ (s.look E) s.next W) (hF : RRnd φ rnd Fc)
    {defers : Nat} {mark : List Deferred} {s1 : St} (e : enterA rnd E s = some (defers, mark, s1)) :
    ∃ (φ1 : Phi) (defers' : Nat) (mark' : List Deferred) (W1 : World), To P φ (s.look E) s.next W φ1 (s1.look E) s1.next W1 ∧ RB φ1 defers defers' ∧ RDs φ1 (mark ++ a.defers) (mark' ++ act.defers) ∧
      ∀ fn ps assign body, (Instr.enterLoop fn act.tmps ps assign body Fc.round).run P W = .ok (W1.heap.size, mark') (W1.alloc (.loop { state := .ready, pending := none, fn, tmps := act.tmps, params := ps, assign, body, defers := defers' })) := by
  cases rnd with
  | none =>
    cases hF
    cases e
    obtain ⟨φ1, hrun, hle, hnew, hs, g⟩ := i.sim.newObj (P := P) i.new (ob := .deferred true) (O := .deferred (some [])) fun ψ _ => ⟨rfl, alloc_new ..⟩
    refine ⟨φ1, W.heap.size, [{ target := .collected W.heap.size, args := #[] }], W.alloc (.deferred (some [])), ?_, hnew, .cons (.mark hnew) (hr.defers.mono hle), fun fn ps assign body => ?_⟩
    · rw [St.look_after, St.next_after]
      exact ⟨i.after hs g, g⟩
    · unfold Instr.enterLoop
      rw [show Fence.wide.round = none from rfl]
      simp only [Sem.run_bind, hrun, Result.andThen_ok, Sem.run_pure]
      rfl
  | some l =>
    obtain ⟨l', hl, rfl⟩ := hF
    unfold enterA at e
    simp only at e
    split at e
    · rename_i lo hlo
      cases e
      obtain ⟨lo', hw, hrl⟩ := i.sim.loopAt hl hlo
      refine ⟨φ, lo'.defers, [], W, .refl i, hrl.defers, hr.defers, fun fn ps assign body => ?_⟩
      unfold Instr.enterLoop
      rw [show (Fence.wide.inRound l').round = some l' from rfl]
      simp only [Sem.run_bind, run_getLoop hw, Result.andThen_ok, Sem.run_pure]
      rfl
    · cases e

theorem range_ok {f : Operand} {ps : Array Tmp} {assign body : Code} {rnd : Option Nat} {a : A} {E : Env} {s : St} {N G : Nat} {φ : Phi} {act : Act} {W : World} {Fc : Fence} (hok : codeOk G N (.rangeFunc f ps assign body) = true) (hG : Globs φ G) (hr : RAct φ N a act) (i : Inv P φ (s.look E) s.next W) (hF : RRnd φ rnd Fc)
    (h : rangeF P r (evalO a.tmps f) ps assign body rnd a E s ≠ .bad) : (Code.rangeFunc f ps assign body).wpIn Fc 0 P (ToC P E N φ s W (rangeF P r (evalO a.tmps f) ps assign body rnd a E s)) act W := by
  simp only [codeOk, Bool.and_eq_true, List.all_eq_true] at hok
  obtain ⟨⟨⟨hof, hop⟩, hoa⟩, hob⟩ := hok
  have hfr := eval_rel hr hG hof
  generalize hres : rangeF P r (evalO a.tmps f) ps assign body rnd a E s = res at h ⊢
  unfold rangeF at hres
  split at hres
  · rename_i hbody
    split at hres
    · subst hres; exact absurd rfl h
    · rename_i defers mark s1 hent
      subst hres
      obtain ⟨φ1, defers', mark', W1, t1, hdef, hmark, hrunE⟩ := enter_ok hr i hF hent
      obtain ⟨h1, h2⟩ := bind_ok h
      unfold hasBody at hbody
      generalize hfv : evalO a.tmps f = fv at hfr hbody h h1 h2 ⊢
      split at hbody
      · rename_i g first captured
        split at hbody
        · rename_i fn hfn
          have hfa := hfn; have hfn := fnAt_some hfn
          have hb := hbody
          obtain ⟨c, hc⟩ := Option.isSome_iff_exists.1 hb
          have hname := F.noNum g fn hfn
          refine wpIn_rangeFunc fun fnid _ => ?_
          -- the loop's record
          let rec0 : Loop := { state := .ready, pending := none, fn := fnid, tmps := act.tmps, params := ps, assign, body, defers := defers' }
          let lo0 : LoopA := { state := .ready, pending := none, tmps := a.tmps, params := ps, assign, body, defers }
          obtain ⟨φ2, hrun2, hle2, hnew2, hs2, g2⟩ := t1.1.sim.newObj (P := P) t1.1.new (ob := .loop lo0) (O := .loop rec0) fun ψ hψ => ⟨rfl, rec0, alloc_new .., rfl, rfl, rfl, rfl, rfl, (hr.tmps.mono t1.le).mono hψ, hdef.mono hψ, ⟨G, N, (hG.mono t1.le).mono hψ, hr.size, hoa, hob, fun t ht => Nat.le_of_ble_eq_true (hop t ht)⟩, fun c hc => by cases hc⟩
          have t2 : To P φ1 (s1.look E) s1.next W1 φ2 ((s1.after [(s1.next, some (.loop lo0))] true).look E) (s1.after [(s1.next, some (.loop lo0))] true).next (W1.alloc (.loop rec0)) := by
            rw [St.look_after, St.next_after]
            exact ⟨t1.1.after hs2 g2, g2⟩
          generalize hf' : act.eval f = z at hfr
          cases hfr with
          | func hfn' hx hy =>
            cases hfn'
            rename_i x' y'
            have hyield : RL φ2 [Value.func (.yield s1.next) #[] #[]] (#[Value.func (.yield W1.heap.size) #[] #[]] : Array Value).toList := .cons (.func (.yield hnew2) .nil .nil) .nil
            have hle12 := Phi.le_trans t1.le hle2
            have hd := callV_ok R (f := .func (.func g) first captured) (f' := .func (.func g) x' y') (.func (.func g) (hx.mono hle12) (hy.mono hle12)) hyield t2.1 h1
            have hrunV : (do let d ← Deferred.ofValue (.func (.func g) x' y') #[Value.func (.yield W1.heap.size) #[] #[]]; invoke d.target d.args : Sem Next).run P (W1.alloc (.loop rec0)) = .ok (.enter g (x' ++ #[Value.func (.yield W1.heap.size) #[] #[]] ++ y')) (W1.alloc (.loop rec0)) := by
              have : (do let d ← Deferred.ofValue (.func (.func g) x' y') #[Value.func (.yield W1.heap.size) #[] #[]]; invoke d.target d.args : Sem Next).run P (W1.alloc (.loop rec0)) = (callFunc g (x' ++ #[Value.func (.yield W1.heap.size) #[] #[]] ++ y')).run P (W1.alloc (.loop rec0)) := by
                simp [Deferred.ofValue, invoke]
              rw [this]
              exact run_enter hfn hc hname _ _
            rw [hrunV] at hd
            have hd : CallsIn Fence.wide 0 P g (x' ++ #[Value.func (.yield W1.heap.size) #[] #[]] ++ y') (W1.alloc (.loop rec0)) _ := hd
            refine ⟨W1.heap.size, mark', W1.alloc (.loop rec0), { target := .fn (.func g) y', args := x' ++ #[Value.func (.yield W1.heap.size) #[] #[]] }, W1.alloc (.loop rec0), g, x' ++ #[Value.func (.yield W1.heap.size) #[] #[]] ++ y', W1.alloc (.loop rec0),
              hrunE fnid ps assign body, ?_, fun f' _ => hF.fn f', ?_, fun hdp => (by rw [hF.depth] at hdp; cases hdp), ?_⟩
            · have hm : (#[Operand.const (Value.func (.yield W1.heap.size) #[] #[])].map act.eval) = #[Value.func (.yield W1.heap.size) #[] #[]] := by simp [Act.eval]
              simp only [resolve, hm, hf', Deferred.ofValue, Sem.run_pure]
            · exact run_enter hfn hc hname _ _
            · refine CallsIn.mono (hF.calls hd) fun e W3 he => ?_
              obtain ⟨v, rfl, vv, s3, φ3, hm, hv, t3⟩ := he
              obtain ⟨h3, h4⟩ := h2 _ hm
              simp only at h3 h4
              have hl3 : RB φ3 s1.next W1.heap.size := RB.mono t3.le hnew2
              split at h3
              · rename_i lo hlo
                simp only [hlo] at h4
                split at h3
                · exact absurd rfl h3
                · rename_i hst
                  simp only [hst, if_false] at h4
                  obtain ⟨lo', hw, hrl⟩ := t3.1.sim.loopAt hl3 hlo
                  have t4 := t3.1.setLoop hl3 hlo (lo1 := { lo with state := .exhausted }) (lo1' := { lo' with state := .exhausted }) ⟨rfl, hrl.pending, hrl.params, hrl.assign, hrl.body, hrl.tmps, hrl.defers, hrl.fit, hrl.jump⟩
                  have hend : (Instr.endLoop W1.heap.size).run P W3 = .ok lo.pending { W3 with heap := W3.heap.setIfInBounds W1.heap.size (.loop { lo' with state := .exhausted }) } := by
                    unfold Instr.endLoop
                    have hst' : (lo'.state == LoopState.busy) = false := by
                      rw [hrl.state]
                      cases hq : lo.state <;> first | rfl | exact absurd hq hst
                    simp only [Sem.run_bind, run_getLoop hw, Result.andThen_ok, hst', Bool.false_eq_true, if_false, run_setObj hw (by intros; simp), hrl.pending]
                    rfl
                  have tall := ((t1.trans t2).trans t3).trans t4
                  have hact : RAct φ3 N { a with defers := mark ++ a.defers } { act with defers := mark' ++ act.defers } := ⟨hr.size, hr.tmps.mono tall.le, hmark.mono (Phi.le_trans hle2 t3.le)⟩
                  refine ⟨lo.pending, _, hend, ?_⟩
                  cases hp : lo.pending with
                  | none =>
                    simp only [hp] at h4 tall
                    exact ⟨.normal, _, _, φ3, h4 _ (by simp [Res.list]), rfl, hact, tall⟩
                  | some c =>
                    simp only [hp] at h3 h4 t4 tall
                    obtain ⟨ej, hej⟩ := hrl.jump c hp
                    have hcok : codeOk G N c = true := by
                      cases ej <;> simp [jumpOf] at hej <;> subst hej <;> rfl
                    exact wpIn_mono (R.code c rnd _ E _ N G φ3 _ _ Fc hcok (hG.mono tall.le) hact t4.1 (hF.mono tall.le) h3) fun e2 act2 W5 ht => ht.lift tall h4
              · exact absurd rfl h3
        · cases hbody
      · cases hbody
  · subst hres; exact absurd rfl h
end

section
variable {r : Fns} (R : FnsOk P r) (D : DrawnOk P) (F : Fit P)
include R D F

theorem code_ok (c : Code) (rnd : Option Nat) (a : A) (E : Env) (s : St) (N G : Nat) (φ : Phi) (act : Act) (W : World) (Fc : Fence) (hok : codeOk G N c = true) (hG : Globs φ G) (hr : RAct φ N a act) (i : Inv P φ (s.look E) s.next W) (hF : RRnd φ rnd Fc)
    (h : codeA P r c rnd a E s ≠ .bad) : c.wpIn Fc 0 P (ToC P E N φ s W (codeA P r c rnd a E s)) act W := by
  cases c with
  | skip => exact wpIn_skip (.one i hr)
  | label l => exact wpIn_label (.one i hr)
  | exit id => exact wpIn_exit (.one i hr)
  | goto l => exact wpIn_goto (.one i hr)
  | ret => exact wpIn_ret (.one i hr)
  | refuse x => exact absurd rfl h
  | region id ops draw =>
    cases draw with
    | true => exact D r R id ops rnd a E s N G φ act W Fc hok hG hr i hF h
    | false =>
      have hok : ops.toList.all (operOk G N) = true := by simp only [codeOk, Bool.and_eq_true] at hok; exact hok.1
      obtain ⟨h1, h2⟩ := bind_ok (x := opsL P r ops rnd ops.toList a E s) h
      refine wpIn_region ?_
      have := opsL_ok R F (E := E) (rnd := rnd) (Fc := Fc) hok hG (Q := ToC P E N φ s W (regionA P r ops false rnd a E s)) ops.toList 0 φ a s act W rfl hG hr i hF h1
        fun act' W' ⟨a', s', φ', hm, hr', t⟩ => ⟨.normal, a', s', φ', (h2 _ hm).2 _ (by simp [Res.list]), rfl, hr', t⟩
      rw [List.range_eq_range']
      rw [Array.length_toList] at this
      exact this
  | seq x y =>
    simp only [codeOk, Bool.and_eq_true] at hok
    obtain ⟨h1, h2⟩ := bind_ok (x := r.code x rnd a E s) h
    refine wpIn_seq (wpIn_mono (R.code x rnd a E s N G φ act W Fc hok.1 hG hr i hF h1) fun e act' W' ⟨ex, a', s', φ', hm, he, hr', t⟩ => ?_)
    subst he
    obtain ⟨h3, h4⟩ := h2 _ hm
    cases ex with
    | normal => exact wpIn_mono (R.code y rnd a' E s' N G φ' act' W' Fc hok.2 (hG.mono t.le) hr' t.1 (hF.mono t.le) h3) fun e2 act2 W2 ht => ht.lift t h4
    | exit id => exact ⟨.exit id, a', s', φ', h4 _ (by simp [Res.list]), rfl, hr', t⟩
    | goto l => exact ⟨.goto l, a', s', φ', h4 _ (by simp [Res.list]), rfl, hr', t⟩
    | ret => exact ⟨.ret, a', s', φ', h4 _ (by simp [Res.list]), rfl, hr', t⟩
  | cond c x y =>
    simp only [codeOk, Bool.and_eq_true] at hok
    have hc := eval_rel hr hG hok.1.1
    have h : condA r (evalO a.tmps c) x y rnd a E s ≠ .bad := h
    show (Code.cond c x y).wpIn Fc 0 P (ToC P E N φ s W (condA r (evalO a.tmps c) x y rnd a E s)) act W
    unfold condA at h ⊢
    split at h
    · rename_i hv
      rw [hv] at hc
      exact wpIn_cond_true hc.bool_inv (R.code x rnd a E s N G φ act W Fc hok.1.2 hG hr i hF h)
    · rename_i hv
      rw [hv] at hc
      exact wpIn_cond_false hc.bool_inv (R.code y rnd a E s N G φ act W Fc hok.2 hG hr i hF h)
    · exact absurd rfl h
  | block id x =>
    obtain ⟨h1, h2⟩ := bind_ok (x := r.code x rnd a E s) h
    refine wpIn_block (wpIn_mono (R.code x rnd a E s N G φ act W Fc hok hG hr i hF h1) fun e act' W' ⟨ex, a', s', φ', hm, he, hr', t⟩ => ?_)
    subst he
    obtain ⟨h3, h4⟩ := h2 _ hm
    cases ex with
    | normal => exact ⟨.normal, a', s', φ', h4 _ (by simp [Res.list]), rfl, hr', t⟩
    | exit id' =>
      simp only [exitOf, Exit.inBlock]
      by_cases hid : id' = id
      · rw [if_pos hid]
        exact ⟨.normal, a', s', φ', h4 _ (by simp [Res.list, hid]), rfl, hr', t⟩
      · rw [if_neg hid]
        have hb : Nat.beq id' id = false := by
          cases hq : Nat.beq id' id with
          | false => rfl
          | true => exact absurd (Nat.eq_of_beq_eq_true hq) hid
        exact ⟨.exit id', a', s', φ', h4 _ (by simp [Res.list, hb]), rfl, hr', t⟩
    | goto l => exact ⟨.goto l, a', s', φ', h4 _ (by simp [Res.list]), rfl, hr', t⟩
    | ret => exact ⟨.ret, a', s', φ', h4 _ (by simp [Res.list]), rfl, hr', t⟩
  | loop x => exact (R.loop x rnd a E s N G φ act W Fc hok hG hr i hF h).1
  | scope x => exact R.scope x rnd a E s N G φ act W Fc hok hG hr i hF h
  | rangeFunc f ps assign body => exact range_ok R F hok hG hr i hF h

end
end Go.Ab
/- The abstract run against the model: loops, scopes, functions; and all of it, whatever the fuel. -/
namespace Go.Ab
open Go
variable {P : Program} [Idx P] {φ : Phi} {W : World}

/-! ### results -/
theorem result_ok {h : Look} (hs : Sim φ h W) {tm : T Value} {arr : Array Value} (ht : RT φ tm arr) {x : ResultVar} {v : Value} (e : resultA P h tm x = some v) :
    ∃ v', (match x with | .tmp t => pure (arr.getD t Go.undef) | .cell a t => do loadVar t (← asAddr (arr.getD a Go.undef)) : Sem Value).run P W = .ok v' W ∧ RV φ v v' := by
  cases x with
  | tmp t =>
    cases e
    exact ⟨_, rfl, ht t⟩
  | cell a t =>
    have e : loadA P h t ((tm.get a).getD undef) = some v := e
    have hr : RV φ ((tm.get a).getD undef) (arr.getD a Go.undef) := ht a
    simp only
    unfold loadA at e
    split at e
    · rename_i ad hv
      rw [hv] at hr
      generalize arr.getD a Go.undef = z at hr
      cases hr with
      | ptr ra =>
        obtain ⟨v', hrun, hrv⟩ := hs.loadVar (P := P) ra e
        exact ⟨v', by simp [asAddr, hrun], hrv⟩
    · cases e
theorem results_list {h : Look} (hs : Sim φ h W) {tm : T Value} {arr : Array Value} (ht : RT φ tm arr) : ∀ {rs : List ResultVar} {vs : List Value}, resultsA P h tm rs = some vs →
    ∃ vs', (rs.mapM fun x => (match x with | .tmp t => pure (arr.getD t Go.undef) | .cell a t => do loadVar t (← asAddr (arr.getD a Go.undef)) : Sem Value)).run P W = .ok vs' W ∧ RL φ vs vs'
  | [], _, e => by cases e; exact ⟨[], rfl, .nil⟩
  | x :: rs, vs, e => by
    unfold resultsA at e
    split at e
    · rename_i v us hv hus
      cases e
      obtain ⟨v', h1, h2⟩ := result_ok hs ht hv
      obtain ⟨us', h3, h4⟩ := results_list hs ht hus
      refine ⟨v' :: us', ?_, .cons h2 h4⟩
      rw [List.mapM_cons]
      simp only [Sem.run_bind, h1, Result.andThen_ok, h3, Sem.run_pure]
    · cases e
theorem results_ok {h : Look} (hs : Sim φ h W) {tm : T Value} {arr : Array Value} (ht : RT φ tm arr) {fn : Func} {vs : List Value} (e : resultsA P h tm fn.results.toList = some vs) :
    ∃ v', (results fn arr).run P W = .ok v' W ∧ RV φ (oneOf vs) v' := by
  obtain ⟨vs', h1, h2⟩ := results_list hs ht e
  refine ⟨if h : vs'.toArray.size = 1 then vs'.toArray[0] else .tuple vs'.toArray, ?_, ?_⟩
  · unfold results
    rw [Array.mapM_eq_mapM_toList]
    simp only [Sem.run_bind, map_eq_pure_bind, Sem.run_pure]
    refine (congrArg (fun (z : Result (List Value)) => (z.andThen fun a w' => Result.ok a.toArray w').andThen fun (a : Array Value) w' => Result.ok (if h : a.size = 1 then a[0] else Value.tuple a) w') h1).trans ?_
    rfl
  · cases h2 with
    | nil => exact .tuple .nil
    | cons hv ht =>
      cases ht with
      | nil => exact hv
      | cons hu ht => exact .tuple (.cons hv (.cons hu ht))

theorem setArgs_get : ∀ (l : List Value) (tm : T Value) (k t : Nat), (setArgs tm l k).get t = if k ≤ t ∧ t < k + l.length then l[t - k]? else tm.get t
  | [], tm, k, t => by rw [if_neg (by simp)]; rfl
  | v :: l, tm, k, t => by
    rw [setArgs, setArgs_get l, T.get_set]
    simp only [List.length_cons]
    by_cases h : k + 1 ≤ t ∧ t < k + 1 + l.length
    · rw [if_pos h, if_pos (by omega), show t - k = (t - (k + 1)) + 1 by omega, List.getElem?_cons_succ]
    · rw [if_neg h]
      by_cases e : t = k
      · subst e; rw [if_pos rfl, if_pos (by omega)]; simp
      · rw [if_neg e, if_neg (by omega)]
theorem start_rel {args : List Value} {args' : Array Value} (ha : RL φ args args'.toList) (n : Nat) : RAct φ n { tmps := setArgs .nil args 0, defers := [] } { tmps := args' ++ Array.replicate (n - args'.size) undef, defers := [] } where
  size := by simp; omega
  tmps t := by
    have hlen : args.length = args'.size := by simpa using ha.length
    show RV φ (((setArgs .nil args 0).get t).getD undef) _
    rw [setArgs_get, Array.getD_eq_getD_getElem?]
    by_cases h : t < args.length
    · rw [if_pos (by omega)]
      obtain ⟨v', h1, h2⟩ := ha.get t args[t] (List.getElem?_eq_getElem h)
      have h1 : args'[t]? = some v' := by simpa using h1
      rw [Array.getElem?_append_left (by omega), h1]
      simpa [List.getElem?_eq_getElem h] using h2
    · rw [if_neg (by omega), T.get_nil, Array.getElem?_append_right (by omega)]
      rw [Array.getElem?_replicate]
      split <;> exact .undef'
  defers := .nil

section
variable {r : Fns} (R : FnsOk P r) (F : Fit P)
include R F

/-! ### loops and scopes -/
omit [Idx P] in
omit F in
theorem loop_ok (c : Code) (rnd : Option Nat) (a : A) (E : Env) (s : St) (N G : Nat) (φ : Phi) (act : Act) (W : World) (Fc : Fence) (hok : codeOk G N c = true) (hG : Globs φ G) (hr : RAct φ N a act) (i : Inv P φ (s.look E) s.next W) (hF : RRnd φ rnd Fc)
    (h : loopA r c rnd a E s ≠ .bad) : (Code.loop c).wpIn Fc 0 P (ToC P E N φ s W (loopA r c rnd a E s)) act W ∧
    ∀ (b : Frame) (k : List Item) (cs : List Frame), b.roundOf = Fc.round → Fc.fn b.fn → Fc.room (cs.length + 1 + 0) →
      ∃ e a' w', ToC P E N φ s W (loopA r c rnd a E s) e a' w' ∧ ArrivesIn (Machine.fenced P Fc) P (lone (b.atR act (.inLoop c :: k)) cs W) b k cs e a' w' := by
  obtain ⟨h1, h2⟩ := bind_ok (x := r.code c rnd a E s) h
  have key := wpIn_loop_step (Q := ToC P E N φ s W (loopA r c rnd a E s)) (wpIn_mono (R.code c rnd a E s N G φ act W Fc hok hG hr i hF h1) fun e act' W' ⟨ex, a', s', φ', hm, he, hr', t⟩ => by
    subst he
    obtain ⟨h3, h4⟩ := h2 _ hm
    cases ex with
    | normal =>
      intro b k cs hro hb hrm
      obtain ⟨e, a2, w2, hq, harr⟩ := (R.loop c rnd a' E s' N G φ' act' W' Fc hok (hG.mono t.le) hr' t.1 (hF.mono t.le) h3).2 b k cs hro hb hrm
      exact ⟨e, a2, w2, hq.lift t h4, harr⟩
    | exit id => exact ⟨.exit id, a', s', φ', h4 _ (by simp [Res.list]), rfl, hr', t⟩
    | goto l => exact ⟨.goto l, a', s', φ', h4 _ (by simp [Res.list]), rfl, hr', t⟩
    | ret => exact ⟨.ret, a', s', φ', h4 _ (by simp [Res.list]), rfl, hr', t⟩)
  refine ⟨fun b k cs hro hb hrm => ?_, fun b k cs hro hb hrm => ?_⟩
  · obtain ⟨e, a', w', hq, harr⟩ := key b k cs hro hb hrm
    exact ⟨e, a', w', hq, .of_steps (.one (fenced_calm hb hrm rfl) stepR_loop) harr⟩
  · obtain ⟨e, a', w', hq, harr⟩ := key b k cs hro hb hrm
    exact ⟨e, a', w', hq, .of_steps (.one (fenced_calm hb hrm rfl) stepR_inLoop) harr⟩
omit [Idx P] in
omit F in
theorem scope_ok (c : Code) (rnd : Option Nat) (a : A) (E : Env) (s : St) (N G : Nat) (φ : Phi) (act : Act) (W : World) (Fc : Fence) (hok : codeOk G N c = true) (hG : Globs φ G) (hr : RAct φ N a act) (i : Inv P φ (s.look E) s.next W) (hF : RRnd φ rnd Fc)
    (h : scopeA r c c rnd a E s ≠ .bad) : (Code.scope c).wpIn Fc 0 P (ToC P E N φ s W (scopeA r c c rnd a E s)) act W := by
  obtain ⟨h1, h2⟩ := bind_ok (x := r.code c rnd a E s) h
  refine wpIn_scope_straight (wpIn_mono (R.code c rnd a E s N G φ act W Fc hok hG hr i hF h1) fun e act' W' ⟨ex, a', s', φ', hm, he, hr', t⟩ => ?_)
  subst he
  obtain ⟨h3, h4⟩ := h2 _ hm
  cases ex with
  | normal => exact ⟨.normal, a', s', φ', h4 _ (by simp [Res.list]), rfl, hr', t⟩
  | exit id => exact ⟨.exit id, a', s', φ', h4 _ (by simp [Res.list]), rfl, hr', t⟩
  | goto l => exact absurd rfl h3
  | ret => exact ⟨.ret, a', s', φ', h4 _ (by simp [Res.list]), rfl, hr', t⟩

/-! ### functions -/
theorem callD_ok {f : FuncId} {args : List Value} {args' : Array Value} {E : Env} {s : St} (ha : RL φ args args'.toList) (i : Inv P φ (s.look E) s.next W) (h : callD P r f args E s ≠ .bad) :
    (callFunc f args').run P W = .ok (.enter f args') W ∧ CallsDIn Fence.wide 0 P f args' .returning W fun e u W' => u = .returning ∧ ∃ v, e = .returned v ∧ ToV P E φ s W (callD P r f args E s) v W' := by
  generalize hres : callD P r f args E s = res at h ⊢
  unfold callD at hres
  split at hres
  · subst hres; exact absurd rfl h
  · rename_i fn hfn
    have hfa := hfn; have hfn := fnAt_some hfn
    split at hres
    · subst hres; exact absurd rfl h
    · rename_i c hc
      · have hname := F.noNum f fn hfn
        subst hres
        obtain ⟨h1, h2⟩ := bind_ok h
        refine ⟨run_enter hfn hc hname _ _, CallsDIn.mono (callsDIn_of_wp (F := Fence.wide) (n := 0) (R := fun e W' => ∃ v, e = .returned v ∧ ToV P E φ s W _ v W') hfn hc trivial ?_) fun e u W' hh => hh⟩
        refine wpIn_mono (R.code c none _ E s fn.ntmps P.globals.size φ _ W Fence.wide (F.code f fn c hfa hc) i.globs (start_rel ha _) i rfl h1) fun e act' W' ⟨ex, a', s', φ', hm, he, hr', t⟩ => ?_
        subst he
        obtain ⟨h3, h4⟩ := h2 _ hm
        simp only at h3 h4
        have hd := hr'.defers
        unfold endD at h3 h4
        have fin : a'.defers = [] → (∀ vs, resultsA P (s'.look E) a'.tmps fn.results.toList = some vs → ∀ q ∈ (Res.ok (oneOf vs) s').list, q ∈ ((r.code c none { tmps := setArgs .nil args 0, defers := [] } E s).bind fun (x : Ex × A) s => endD P fn x.1 x.2 E s).list) → resultsA P (s'.look E) a'.tmps fn.results.toList ≠ none →
            act'.defers = [] ∧ ∃ v, (results fn act'.tmps).run P W' = .ok v W' ∧ ∃ v1, Ending.returned v = .returned v1 ∧ ToV P E φ s W ((r.code c none { tmps := setArgs .nil args 0, defers := [] } E s).bind fun (x : Ex × A) s => endD P fn x.1 x.2 E s) v1 W' := fun h0 hq hne => by
          rw [h0] at hd
          cases hrs : resultsA P (s'.look E) a'.tmps fn.results.toList with
          | none => exact absurd hrs hne
          | some vs =>
            obtain ⟨v', hrun, hrv⟩ := results_ok t.1.sim hr'.tmps hrs
            refine ⟨?_, v', hrun, v', rfl, oneOf vs, s', φ', hq vs hrs _ (by simp [Res.list]), hrv, t⟩
            generalize act'.defers = z at hd
            cases hd; rfl
        cases ex with
        | normal =>
          cases hdf : a'.defers with
          | nil =>
            simp only [hdf] at h3 h4
            refine fin hdf (fun vs hvs q hq => h4 _ ?_) fun hn => ?_
            · rw [hvs]; exact hq
            · rw [hn] at h3; exact h3 rfl
          | cons x y => simp only [hdf] at h3; exact absurd rfl h3
        | ret =>
          cases hdf : a'.defers with
          | nil =>
            simp only [hdf] at h3 h4
            refine fin hdf (fun vs hvs q hq => h4 _ ?_) fun hn => ?_
            · rw [hvs]; exact hq
            · rw [hn] at h3; exact h3 rfl
          | cons x y => simp only [hdf] at h3; exact absurd rfl h3
        | exit id => exact absurd rfl h3
        | goto l => exact absurd rfl h3

theorem leave_ok {fn : Func} {tmps : Array Value} {Rr : Ending → World → Prop} {E : Env} : ∀ {ds ds' : List Deferred} {s : St} {φ : Phi} {W : World}, RDs φ ds ds' → Inv P φ (s.look E) s.next W → leaveL P r ds E s ≠ .bad →
    (∀ s' φ' W', ((), s') ∈ (leaveL P r ds E s).list → To P φ (s.look E) s.next W φ' (s'.look E) s'.next W' → LeavesIn Fence.wide 0 P fn tmps Rr [] .returning W') → LeavesInM Fence.wide 0 P fn tmps Rr ds' .returning W
  | [], _, s, φ, W, .nil, i, h, hK => hK s φ W (by simp [leaveL, Res.list]) (.refl i)
  | d :: ds, _, s, φ, W, .cons hd ht, i, h, hK => by
    generalize hres : leaveL P r (d :: ds) E s = res at h hK
    unfold leaveL at hres
    cases hd with
    | mark hb =>
      rename_i b b'
      simp only at hres
      split at hres
      · rename_i hob
        subst hres
        obtain ⟨B, o, hφ, ho, hw⟩ := i.sim.obj _ _ hob
        have hbb : φ b = some (b', ⟨0, 0⟩) := hb
        rw [hφ] at hbb
        cases hbb
        have hw : W.heap[b']? = some (.deferred (some [])) := hw
        have hput := i.sim.putObj hb hob rfl (ob' := .deferred false) (O' := .deferred none) (fun W' hW' => ⟨rfl, hW'⟩) s.next
        have t : To P φ (s.look E) s.next W φ ((s.after [(b, some (.deferred false))] false).look E) (s.after [(b, some (.deferred false))] false).next { W with heap := W.heap.setIfInBounds b' (.deferred none) } := by
          rw [St.look_after, St.next_after]
          exact ⟨i.after hput.1 hput.2, hput.2⟩
        refine ⟨by simp, .inl ⟨b', _, rfl, ?_, leave_ok (ht.mono t.le) t.1 h fun s' φ' W' hm t' => hK s' φ' W' hm (t.trans t')⟩⟩
        unfold Instr.takeDeferred
        simp only [Sem.run_bind, run_getObj hw (by intros; simp), Result.andThen_ok, run_setObj hw (by intros; simp)]
        rfl
      · subst hres; exact absurd rfl h
    | fn hf hx hy =>
      rename_i f f' x x' y y'
      cases hf with
      | func g =>
        simp only at hres
        subst hres
        obtain ⟨h1, h2⟩ := bind_ok h
        obtain ⟨hrun, hcd⟩ := callD_ok R F (args' := y' ++ x') (by simpa using hy.append hx) i h1
        refine ⟨by simp, .inr ⟨fun hd => (by cases hd), .func g, x', g, y' ++ x', rfl, ?_, fun _ _ => trivial, ?_⟩⟩
        · show (callFunc g (y' ++ x')).run P W = _
          exact hrun
        · refine CallsDIn.mono hcd fun e u W' ⟨hu, v, he, vv, s', φ', hm, hv, t⟩ => ?_
          subst hu he
          obtain ⟨h3, h4⟩ := h2 _ hm
          exact leave_ok (ht.mono t.le) t.1 h3 fun s2 φ2 W2 hm2 t2 => hK s2 φ2 W2 (h4 _ hm2) (t.trans t2)
      | _ => simp only at hres; subst hres; exact absurd rfl h

theorem callF_ok (X : FitExt P) {f : FuncId} {args : List Value} {args' : Array Value} {E : Env} {s : St} (ha : RL φ args args'.toList) (i : Inv P φ (s.look E) s.next W) (h : callF' P r f args E s ≠ .bad) :
    Does P (ToV P E φ s W (callF' P r f args E s)) ((callFunc f args').run P W) := by
  generalize hres : callF' P r f args E s = res at h ⊢
  unfold callF' at hres
  split at hres
  · subst hres; exact absurd rfl h
  · rename_i fn hfn
    have hfa := hfn; have hfn := fnAt_some hfn
    unfold callFn at hres
    · have hname := F.noNum f fn hfn
      split at hres
      · rename_i hbody
        unfold externA at hres
        split at hres
        · rename_i hcl
          rw [X.clone f fn hfn hbody hcl]
          unfold cloneA at hres
          split at hres
          · rename_i t m
            split at hres
            · rename_i es clock hat
              subst hres
              obtain ⟨v', hv', hrest⟩ : ∃ v', args' = #[v'] ∧ RV φ (.iface t (.map (some m))) v' := by
                cases args' with
                | mk l =>
                  cases ha with
                  | cons hv ht => cases ht; exact ⟨_, rfl, hv⟩
              subst hv'
              cases hrest with
              | iface hrest =>
                cases hrest with
                | map hm =>
                  rename_i m'
                  obtain ⟨es', hw, hmm⟩ := i.sim.mapAt hm hat
                  obtain ⟨φ', hrun, hle, hnew, hs', g⟩ := i.sim.newObj (P := P) i.new (ob := .map es clock) (O := .map es' clock) fun ψ hψ => ⟨rfl, es', alloc_new .., hmm.mono hψ⟩
                  have hclone : (Extern.MapsClone.clone #[.iface t (.map (some m'))]).run P W = .ok (.iface t (.map (some W.heap.size))) (W.alloc (.map es' clock)) := by
                    have e : Extern.MapsClone.clone #[.iface t (.map (some m'))] = (getObj m' >>= fun o => match o with
                        | .map entries clock => (newObj (.map entries clock) >>= fun n => pure (.iface t (.map (some n))))
                        | _ => stuck "maps.clone: a map expected") := rfl
                    rw [e]
                    simp only [Sem.run_bind, run_getObj hw (by intros; simp), Result.andThen_ok, hrun, Sem.run_pure]
                  rw [run_v hclone]
                  refine ⟨_, _, φ', List.mem_singleton.2 rfl, .iface (.map hnew), ?_⟩
                  rw [St.look_after, St.next_after]
                  exact ⟨i.after hs' g, g⟩
            · subst hres; exact absurd rfl h
          · subst hres; exact absurd rfl h
        · split at hres
          · rename_i hcmp
            unfold compareA at hres
            split at hres
            · rename_i a b
              subst hres
              have : args' = #[.string a, .string b] := by
                cases args' with
                | mk l =>
                  cases ha with
                  | cons hv ht =>
                    cases ht with
                    | cons hu ht => cases ht; rw [hv.string_inv, hu.string_inv]
              subst this
              rw [X.compare f fn hfn hbody hcmp]
              exact ⟨_, s, φ, List.mem_singleton.2 rfl, .int _ _, .refl i⟩
            · subst hres; exact absurd rfl h
          · subst hres; exact absurd rfl h
      · rename_i c hc
        subst hres
        obtain ⟨h1, h2⟩ := bind_ok h
        rw [run_enter hfn hc hname]
        refine callsIn_of_wp_marks (F := Fence.wide) (n := 0) hfn hc trivial ?_
        refine wpIn_mono (R.code c none _ E s fn.ntmps P.globals.size φ _ W Fence.wide (F.code f fn c hfa hc) i.globs (start_rel ha _) i rfl h1) fun e act' W' ⟨ex, a', s', φ', hm, he, hr', t⟩ => ?_
        subst he
        obtain ⟨h3, h4⟩ := h2 _ hm
        simp only at h3 h4
        have fin : (leaveL P r a'.defers E s').bind (fun _ s => match resultsA P (s.look E) a'.tmps fn.results.toList with | some vs => Res.ok (oneOf vs) s | none => .bad) ≠ .bad →
            (∀ q ∈ ((leaveL P r a'.defers E s').bind (fun _ s => match resultsA P (s.look E) a'.tmps fn.results.toList with | some vs => Res.ok (oneOf vs) s | none => .bad)).list, q ∈ ((r.code c none { tmps := setArgs .nil args 0, defers := [] } E s).bind fun (x : Ex × A) s => endA P r fn x.1 x.2 E s).list) →
            LeavesInM Fence.wide 0 P fn act'.tmps (fun e W' => ∃ v, e = .returned v ∧ ToV P E φ s W ((r.code c none { tmps := setArgs .nil args 0, defers := [] } E s).bind fun (x : Ex × A) s => endA P r fn x.1 x.2 E s) v W') act'.defers .returning W' := fun h5 hq => by
          obtain ⟨h6, h7⟩ := bind_ok h5
          refine leave_ok R F hr'.defers t.1 h6 fun s2 φ2 W2 hm2 t2 => ?_
          obtain ⟨h8, h9⟩ := h7 _ hm2
          cases hrs : resultsA P (s2.look E) a'.tmps fn.results.toList with
          | none => simp only [hrs] at h8; exact absurd rfl h8
          | some vs =>
            simp only [hrs] at h9
            obtain ⟨v', hrun, hrv⟩ := results_ok t2.1.sim (hr'.tmps.mono t2.le) hrs
            exact ⟨v', hrun, v', rfl, oneOf vs, s2, φ2, hq _ (h9 _ (by simp [Res.list])), hrv, t.trans t2⟩
        cases ex with
        | normal => exact fin h3 h4
        | ret => exact fin h3 h4
        | exit id => exact absurd rfl h3
        | goto l => exact absurd rfl h3
end

theorem fns_ok (F : Fit P) (X : FitExt P) (D : DrawnOk P) : ∀ n, FnsOk P (fns P n)
  | 0 => ⟨fun _ _ _ _ _ _ _ _ _ _ _ _ _ _ _ _ h => absurd rfl h, fun _ _ _ _ _ _ _ _ _ _ _ _ _ _ _ _ h => absurd rfl h, fun _ _ _ _ _ _ _ _ _ _ _ _ _ _ _ _ h => absurd rfl h, fun _ _ _ _ _ _ _ _ _ h => absurd rfl h⟩
  | n + 1 =>
    have R := fns_ok F X D n
    ⟨fun c rnd a E s N G φ act W Fc => code_ok R D F c rnd a E s N G φ act W Fc, fun c rnd a E s N G φ act W Fc => loop_ok R c rnd a E s N G φ act W Fc, fun c rnd a E s N G φ act W Fc => scope_ok R c rnd a E s N G φ act W Fc,
     fun _f _args _args' _E _s _φ _W ha i h => callF_ok R F X ha i h⟩
end Go.Ab
/- Drawn regions, first part: what an operation asks of the heap and of the temporaries. -/
namespace Go.Ab
open Go
variable {P : Program} [Idx P] {φ : Phi} {W : World}

/-! ### the temporaries -/
theorem omap_congr {α : Type} {f g : α → Value} {x : Option α} (h : ∀ y ∈ x.toArray, f y = g y) : x.map f = x.map g := by
  cases x with
  | none => rfl
  | some y => exact congrArg some (h y (by simp))
theorem amap_congr {α β : Type} {f g : α → β} {xs : Array α} (h : ∀ y ∈ xs, f y = g y) : xs.map f = xs.map g := by
  apply Array.map_congr_left
  exact h
theorem opA_congr {h : Look} {nx : Nat} {ρ ρ' : Operand → Value} {op : Op} (hρ : ∀ x ∈ op.operands, ρ x = ρ' x) : opA P h nx ρ op = opA P h nx ρ' op := by
  cases op with
  | build t parts =>
    have : parts.map (fun (i, x) => (i, ρ x)) = parts.map (fun (i, x) => (i, ρ' x)) := amap_congr fun y hy => by
      show (y.1, ρ y.2) = (y.1, ρ' y.2)
      rw [hρ y.2 (by simpa [Op.operands] using ⟨y.1, hy⟩)]
    show same (buildA P t (parts.map fun (i, x) => (i, ρ x))) = _
    rw [this]; rfl
  | buildSlice t len parts =>
    have : parts.map (fun (i, x) => (i, ρ x)) = parts.map (fun (i, x) => (i, ρ' x)) := amap_congr fun y hy => by
      show (y.1, ρ y.2) = (y.1, ρ' y.2)
      rw [hρ y.2 (by simpa [Op.operands] using ⟨y.1, hy⟩)]
    show made (buildSliceO P nx t len (parts.map fun (i, x) => (i, ρ x)).toList) = _
    rw [this]; rfl
  | makeFunc fn first captured =>
    show some (Value.func fn (first.map ρ) (captured.map ρ), [], false) = some (Value.func fn (first.map ρ') (captured.map ρ'), [], false)
    rw [amap_congr (f := ρ) (g := ρ') (xs := first) fun y hy => hρ y (by simp only [Op.operands, Array.mem_append]; exact .inl hy), amap_congr (f := ρ) (g := ρ') (xs := captured) fun y hy => hρ y (by simp only [Op.operands, Array.mem_append]; exact .inr hy)]
  | slice t x lo hi mx =>
    show same (sliceA P t (ρ x) (lo.map ρ) (hi.map ρ) (mx.map ρ)) = same (sliceA P t (ρ' x) (lo.map ρ') (hi.map ρ') (mx.map ρ'))
    rw [hρ x (by simp [Op.operands]), omap_congr (f := ρ) (g := ρ') (x := lo) fun y hy => hρ y (by simp only [Op.operands, Array.mem_append]; exact .inl (.inl (.inr hy))),
      omap_congr (f := ρ) (g := ρ') (x := hi) fun y hy => hρ y (by simp only [Op.operands, Array.mem_append]; exact .inl (.inr hy)), omap_congr (f := ρ) (g := ρ') (x := mx) fun y hy => hρ y (by simp only [Op.operands, Array.mem_append]; exact .inr hy)]
  | call c =>
    show callA P h nx ρ c = callA P h nx ρ' c
    unfold callA
    rw [amap_congr (f := ρ) (g := ρ') (xs := c.args) fun y hy => hρ y (by simp only [Op.operands, Call.operands, Array.mem_append]; exact .inr hy)]
  | makeMap t x => rfl
  | _ =>
    first
      | rfl
      | (simp [Op.operands] at hρ; simp only [opA, hρ])

theorem collect_not_ok {α β : Type} {f : α → St → Res β} {l : List (α × St)} {b : β} {s : St} : collect f l ≠ .ok b s := by
  cases l with
  | nil => simp [collect]
  | cons p l =>
    obtain ⟨v, t⟩ := p
    unfold collect
    split <;> simp

/-- An operation that acts: only its operands are asked, and only its own temporary is written. -/
theorem oper_congr {r : Fns} {op : Op} (hc : clsOf op = .effect) {dst : Option Tmp} {rnd : Option Nat} {a aL a' : A} {E : Env} {s s' : St} (e : oper P r op dst rnd a E s = .ok a' s') (hρ : ∀ x ∈ op.operands, evalO a.tmps x = evalO aL.tmps x) :
    ∃ v, a' = a.put dst v ∧ oper P r op dst rnd aL E s = .ok (aL.put dst v) s' := by
  have plain : ∀ x : Option (Value × Ups × Bool), plainO dst a s x = .ok a' s' → ∃ v, a' = a.put dst v ∧ plainO dst aL s x = .ok (aL.put dst v) s' := fun x hx => by
    cases x with
    | none => cases hx
    | some p =>
      obtain ⟨v, u, fr⟩ := p
      cases hx
      exact ⟨v, rfl, rfl⟩
  have put : ∀ x : Res Value, putRes a dst x = .ok a' s' → ∃ v, a' = a.put dst v ∧ putRes aL dst x = .ok (aL.put dst v) s' := fun x hx => by
    cases x with
    | ok v t => cases hx; exact ⟨v, rfl, rfl⟩
    | alt l =>
      exact absurd hx collect_not_ok
    | bad => cases hx
  cases op with
  | call c =>
    have hin : ∀ x ∈ c.args, evalO a.tmps x = evalO aL.tmps x := fun x hx => hρ x (by simp only [Op.operands, Call.operands, Array.mem_append]; exact .inr hx)
    have hm := amap_congr hin
    have e : callO P r c dst a E s = .ok a' s' := e
    show ∃ v, a' = a.put dst v ∧ callO P r c dst aL E s = .ok (aL.put dst v) s'
    unfold callO at e ⊢
    cases hcc : c.callee with
    | value f =>
      rw [hcc] at e
      simp only at e ⊢
      rw [← hm, ← hρ f (by simp [Op.operands, Call.operands, hcc])]
      exact put _ e
    | invoke x m =>
      rw [hcc] at e
      simp only at e ⊢
      rw [← hm, ← hρ x (by simp [Op.operands, Call.operands, hcc])]
      exact put _ e
    | builtin b =>
      rw [hcc] at e
      simp only at e ⊢
      have : callA P (s.look E) s.next (evalO aL.tmps) c = callA P (s.look E) s.next (evalO a.tmps) c := by unfold callA; rw [hm]
      rw [this]
      exact plain _ e
  | store t x y =>
    have := opA_congr (P := P) (h := s.look E) (nx := s.next) hρ
    obtain ⟨v, h1, h2⟩ := plain (opA P (s.look E) s.next (evalO a.tmps) (.store t x y)) e
    exact ⟨v, h1, (congrArg (plainO dst aL s) this.symm).trans h2⟩
  | assign x =>
    have := opA_congr (P := P) (h := s.look E) (nx := s.next) hρ
    obtain ⟨v, h1, h2⟩ := plain (opA P (s.look E) s.next (evalO a.tmps) (.assign x)) e
    exact ⟨v, h1, (congrArg (plainO dst aL s) this.symm).trans h2⟩
  | mapUpdate t x y z =>
    have := opA_congr (P := P) (h := s.look E) (nx := s.next) hρ
    obtain ⟨v, h1, h2⟩ := plain (opA P (s.look E) s.next (evalO a.tmps) (.mapUpdate t x y z)) e
    exact ⟨v, h1, (congrArg (plainO dst aL s) this.symm).trans h2⟩
  | mapEntry t x y =>
    have := opA_congr (P := P) (h := s.look E) (nx := s.next) hρ
    obtain ⟨v, h1, h2⟩ := plain (opA P (s.look E) s.next (evalO a.tmps) (.mapEntry t x y)) e
    exact ⟨v, h1, (congrArg (plainO dst aL s) this.symm).trans h2⟩
  | entryStore t x y z =>
    have := opA_congr (P := P) (h := s.look E) (nx := s.next) hρ
    obtain ⟨v, h1, h2⟩ := plain (opA P (s.look E) s.next (evalO a.tmps) (.entryStore t x y z)) e
    exact ⟨v, h1, (congrArg (plainO dst aL s) this.symm).trans h2⟩
  | _ => cases hc

/-! ### the heap -/
theorem pure_any {op : Op} (hc : clsOf op = .pure) {h k : Look} {nx nx' : Nat} {ρ : Operand → Value} : opA P h nx ρ op = opA P k nx' ρ op := by
  cases op with
  | call c =>
    obtain ⟨callee, args, argTypes⟩ := c
    cases callee with
    | builtin b => cases b <;> first | rfl | cases hc
    | _ => cases hc
  | _ => first | rfl | cases hc
theorem alloc_any {op : Op} (hc : clsOf op = .alloc) {h k : Look} {nx : Nat} {ρ : Operand → Value} : opA P h nx ρ op = opA P k nx ρ op := by
  cases op with
  | call c =>
    obtain ⟨callee, args, argTypes⟩ := c
    cases callee with
    | builtin b => cases b <;> cases hc
    | _ => cases hc
  | _ => first | rfl | cases hc

theorem loadN_mono {h k : Look} {a : Addr} (hs : ∀ ob, h a.block = some ob → k a.block = some ob) {n : Nat} {vs : List Value} (e : loadN h a n = some vs) : loadN k a n = some vs := by
  unfold loadN at e ⊢
  split at e
  · cases e
  · rename_i hsp
    rw [if_neg hsp]
    cases n with
    | zero => exact e
    | succ n =>
      simp only at e ⊢
      cases hc : cellsAt h a.block with
      | none => rw [hc] at e; cases e
      | some c =>
        have : cellsAt k a.block = some c := by
          unfold cellsAt
          rw [hs _ (cellsAt_some hc)]
        rw [this]
        rw [hc] at e
        exact e
theorem loadVarA_mono {h k : Look} {a : Addr} (hs : ∀ ob, h a.block = some ob → k a.block = some ob) {t : TypeId} {v : Value} (e : loadVarA P h t a = some v) : loadVarA P k t a = some v := by
  unfold loadVarA at e ⊢
  simp only [Option.bind_eq_bind, Option.bind_eq_some_iff] at e ⊢
  obtain ⟨b, hb, e⟩ := e
  refine ⟨b, hb, ?_⟩
  cases b with
  | true =>
    simp only [if_true, Option.bind_eq_some_iff] at e ⊢
    obtain ⟨n, hn, vs, hvs, e⟩ := e
    exact ⟨n, hn, vs, loadN_mono hs hvs, e⟩
  | false =>
    simp only [Bool.false_eq_true, if_false] at e ⊢
    unfold loadCell at e ⊢
    split at e
    · cases e
    · rename_i hsp
      rw [if_neg hsp]
      cases hc : cellsAt h a.block with
      | none => rw [hc] at e; cases e
      | some c =>
        have : cellsAt k a.block = some c := by
          unfold cellsAt
          rw [hs _ (cellsAt_some hc)]
        rw [this]
        rw [hc] at e
        exact e
theorem mapAt_mono {h k : Look} {r : Nat} (hs : ∀ ob, h r = some ob → k r = some ob) {x : Array MapEntry × Nat} (e : mapAt h r = some x) : mapAt k r = some x := by
  obtain ⟨es, c⟩ := x
  unfold mapAt
  rw [hs _ (mapAt_some e)]

/-- What is read of blocks that are there is read of more blocks alike. -/
theorem read_mono {op : Op} (hc : clsOf op = .read) {h k : Look} {nx nx' : Nat} {ρ : Operand → Value} (hs : ∀ b ob, φ b ≠ none → h b = some ob → k b = some ob) (hρ : ∀ x ∈ op.operands, ∃ v', RV φ (ρ x) v') {v : Value}
    (e : opA P h nx ρ op = some (v, [], false)) : opA P k nx' ρ op = some (v, [], false) := by
  cases op with
  | load t a =>
    obtain ⟨v', hr⟩ := hρ a (by simp [Op.operands])
    obtain ⟨e', _, _⟩ := same_some e
    have : loadA P k t (ρ a) = some v := by
      unfold loadA at e' ⊢
      split at e'
      · rename_i ad hv
        rw [hv] at hr
        cases hr with
        | ptr ra =>
          obtain ⟨_, _, o, hφ, _⟩ := ra
          exact loadVarA_mono (fun ob => hs _ ob (by rw [hφ]; simp)) e'
      · cases e'
    show same (loadA P k t (ρ a)) = _
    rw [this]; rfl
  | lookup t x i ok =>
    obtain ⟨v', hr⟩ := hρ x (by simp [Op.operands])
    obtain ⟨e', _, _⟩ := same_some e
    have : lookupA P k t (ρ x) (ρ i) ok = some v := by
      unfold lookupA at e' ⊢
      split at e'
      · simp only [Option.bind_eq_some_iff] at e' ⊢
        obtain ⟨es, hes, e'⟩ := e'
        refine ⟨es, ?_, e'⟩
        unfold entriesA at hes ⊢
        split at hes
        · exact hes
        · rename_i r hv
          rw [hv] at hr
          simp only [Option.map_eq_some_iff] at hes ⊢
          obtain ⟨p, hp, hpe⟩ := hes
          cases hr with
          | map hb => exact ⟨p, mapAt_mono (fun ob => hs _ ob (by rw [hb]; simp)) hp, hpe⟩
        · cases hes
      · cases e'
    show same (lookupA P k t (ρ x) (ρ i) ok) = _
    rw [this]; rfl
  | convert src dst x =>
    obtain ⟨v', hr⟩ := hρ x (by simp [Op.operands])
    have e : convertA P h nx src dst (ρ x) = some (v, [], false) := e
    show convertA P k nx' src dst (ρ x) = some (v, [], false)
    unfold convertA at e ⊢
    split at e
    · exact e
    · exact e
    · split at e
      · split at e
        · cases e
        · cases e
      · cases e
    · rename_i el a len c hu hd hv
      split at e
      · simp only [Option.bind_eq_bind, Option.bind_eq_some_iff] at e ⊢
        obtain ⟨cs, hcs, e⟩ := e
        refine ⟨cs, ?_, e⟩
        rw [hv] at hr
        cases hr with
        | sliceNil => exact hcs
        | slice ra _ =>
          obtain ⟨_, _, o, hφ, _⟩ := ra
          exact loadN_mono (fun ob => hs _ ob (by rw [hφ]; simp)) hcs
      · cases e
    · cases e
  | call c =>
    obtain ⟨callee, args, argTypes⟩ := c
    cases callee with
    | builtin b =>
      cases b with
      | len =>
        have e : ((lenA P h argTypes (args.map ρ)).map fun v => (v, ([] : Ups), false)) = some (v, [], false) := e
        show ((lenA P k argTypes (args.map ρ)).map fun v => (v, ([] : Ups), false)) = some (v, [], false)
        simp only [Option.map_eq_some_iff] at e ⊢
        obtain ⟨v1, e, e2⟩ := e
        refine ⟨v1, ?_, e2⟩
        unfold lenA at e ⊢
        split at e
        · rename_i t x hA h0
          rw [Array.getElem?_map, Option.map_eq_some_iff] at h0
          obtain ⟨y, hy, rfl⟩ := h0
          obtain ⟨v', hr⟩ := hρ y (by simp only [Op.operands, Call.operands, Array.mem_append]; exact .inr (Array.mem_of_getElem? hy))
          split at e
          · exact e
          · exact e
          · exact e
          · exact e
          · rename_i hu hv
            simp only [Option.map_eq_some_iff] at e ⊢
            obtain ⟨p, hp, hpe⟩ := e
            rw [hv] at hr
            cases hr with
            | map hb => exact ⟨p, mapAt_mono (fun ob => hs _ ob (by rw [hb]; simp)) hp, hpe⟩
          · cases e
        · cases e
      | _ => cases hc
    | _ => cases hc
  | _ => cases hc
end Go.Ab
/- Drawn regions, second part: equality of values; frames; the order. -/
namespace Go.Ab
open Go
variable {P : Program} [Idx P] {φ : Phi} {W : World}

theorem eqL_eq {f : Value → Value → Bool} (hf : ∀ x y, f x y = true → x = y) : ∀ {xs ys : List Value}, eqL f xs ys = true → xs = ys
  | [], [], _ => rfl
  | [], _ :: _, h => by cases h
  | _ :: _, [], h => by cases h
  | x :: xs, y :: ys, h => by
    simp only [eqL, Bool.and_eq_true] at h
    rw [hf x y h.1, eqL_eq hf h.2]
theorem arr_eq {x y : Array Value} (h : x.toList = y.toList) : x = y := Array.ext' h
theorem eqV_eq : ∀ (n : Nat) (a b : Value), eqV n a b = true → a = b
  | 0, _, _, h => by cases h
  | n + 1, a, b, h => by
    have ih := eqV_eq n
    unfold eqV at h
    split at h <;> first
      | (cases h; done)
      | rfl
      | (rw [arr_eq (eqL_eq ih h)]; done)
      | (simp only [Bool.and_eq_true, beq_iff_eq] at h
         first
           | (rw [h]; done)
           | (rw [h.1, h.2]; done)
           | (rw [h.1.1, Nat.eq_of_beq_eq_true h.1.2, Nat.eq_of_beq_eq_true h.2]; done)
           | (rw [h.1.1, arr_eq (eqL_eq ih h.1.2), arr_eq (eqL_eq ih h.2)]; done)
           | (rw [Nat.eq_of_beq_eq_true h.1, ih _ _ h.2]; done)
           | (rw [arr_eq (eqL_eq ih h)]; done)
           | (rename_i x y
              have : x = y := by
                cases x with | mk x => cases y with | mk y => exact congrArg ByteArray.mk (Array.ext' h)
              rw [this]))

/-! ### frames -/
theorem Grew.widen {h h' : Look} {φ' : Phi} {W' : World} {n n' N M : Nat} (g : Grew φ h W n φ' h' W' n') (h1 : N ≤ n) (h2 : n' ≤ M) : Grew φ h W N φ' h' W' M :=
  ⟨g.le, fun b e e' => by have := g.dom b e e'; omega, by have := g.next; omega, g.os, g.tape, g.output, g.size, g.frame, g.ro⟩
theorem Grew.comp {φ₁ φ₂ φ₃ : Phi} {h₁ h₂ h₃ : Look} {W₁ W₂ W₃ : World} {N M : Nat} (a : Grew φ₁ h₁ W₁ N φ₂ h₂ W₂ M) (b : Grew φ₂ h₂ W₂ N φ₃ h₃ W₃ M) : Grew φ₁ h₁ W₁ N φ₃ h₃ W₃ M where
  le := Phi.le_trans a.le b.le
  dom c e e' := by
    by_cases x : φ₂ c = none
    · exact b.dom c x e'
    · exact a.dom c e x
  next := a.next
  os := b.os.trans a.os
  tape := b.tape.trans a.tape
  output := b.output.trans a.output
  size := Nat.le_trans a.size b.size
  frame B hB o := by
    obtain ⟨e, o'⟩ := a.frame B hB o
    obtain ⟨e', o''⟩ := b.frame B (Nat.lt_of_lt_of_le hB a.size) o'
    exact ⟨e'.trans e, o''⟩
  ro b' ob e w := a.ro b' ob (b.ro b' ob e w) w

/-- What was put aside is as it was. -/
theorem Sim.extend {K k k' K' : Look} {φ' : Phi} {W' : World} {n n' : Nat} (s : Sim φ K W) (hk : k.sub K) (s' : Sim φ' k' W') (g : Grew φ k W n φ' k' W' n')
    (hK : ∀ b ob, K' b = some ob → k' b = some ob ∨ (K b = some ob ∧ k b = none)) : Sim φ' K' W' ∧ Grew φ K W n φ' K' W' n' := by
  have aside : ∀ b ob, K b = some ob → k b = none → ∃ B o, φ b = some (B, o) ∧ RObj φ W ob B o ∧ W'.heap[B]? = W.heap[B]? ∧ ¬ Own k' φ' B := fun b ob h1 h2 => by
    obtain ⟨B, o, hφ, ho⟩ := s.obj b ob h1
    have hno : ¬ Own k φ B := fun ⟨c, oc, p, hc, _, hp⟩ => by
      have := s.inj c b B p o (by simp [hk c oc hc]) (by simp [h1]) hp hφ
      subst this
      rw [h2] at hc; cases hc
    obtain ⟨e, e'⟩ := g.frame B ho.lt hno
    exact ⟨B, o, hφ, ho, e, e'⟩
  have cross : ∀ b c B o p ob oc, k' b = some ob → K c = some oc → k c = none → φ' b = some (B, o) → φ' c = some (B, p) → b = c := fun b c B o p ob oc h1 h2 h3 h4 h5 => by
    obtain ⟨B1, o1, hφ, _, _, hown⟩ := aside c oc h2 h3
    rw [g.le _ _ hφ] at h5; cases h5
    cases hw : ob.writable with
    | true => exact absurd ⟨b, ob, o, h1, hw, h4⟩ hown
    | false =>
      have hkb := g.ro b ob h1 hw
      have hKb := hk b ob hkb
      obtain ⟨B2, o2, hφ2, _⟩ := s.obj b ob hKb
      rw [g.le _ _ hφ2] at h4; cases h4
      exact s.inj b c B o p (by simp [hKb]) (by simp [h2]) hφ2 hφ
  refine ⟨⟨fun b ob hb => ?_, fun b c B o p hb hc e e' => ?_⟩, g.le, g.dom, g.next, g.os, g.tape, g.output, g.size, fun B hB hO => ?_, fun b ob hb hw => ?_⟩
  · rcases hK b ob hb with h1 | ⟨h1, h2⟩
    · exact s'.obj b ob h1
    · obtain ⟨B, o, hφ, ho, hh, _⟩ := aside b ob h1 h2
      exact ⟨B, o, g.le _ _ hφ, ho.mono g.le hh⟩
  · obtain ⟨ob, hb⟩ := Option.isSome_iff_exists.1 hb
    obtain ⟨oc, hc⟩ := Option.isSome_iff_exists.1 hc
    rcases hK b ob hb with h1 | ⟨h1, h2⟩
    · rcases hK c oc hc with h3 | ⟨h3, h4⟩
      · exact s'.inj b c B o p (by simp [h1]) (by simp [h3]) e e'
      · exact cross b c B o p ob oc h1 h3 h4 e e'
    · rcases hK c oc hc with h3 | ⟨h3, h4⟩
      · exact (cross c b B p o oc ob h3 h1 h2 e' e).symm
      · obtain ⟨B1, o1, hφ1, _⟩ := aside b ob h1 h2
        obtain ⟨B2, o2, hφ2, _⟩ := aside c oc h3 h4
        rw [g.le _ _ hφ1] at e; cases e
        rw [g.le _ _ hφ2] at e'; cases e'
        exact s.inj b c B o p (by simp [h1]) (by simp [h3]) hφ1 hφ2
  · have hno : ¬ Own k φ B := fun o => hO (o.sub hk)
    obtain ⟨e, e'⟩ := g.frame B hB hno
    refine ⟨e, fun ⟨b, ob, o, hb, hw, hφ⟩ => ?_⟩
    rcases hK b ob hb with h1 | ⟨h1, h2⟩
    · exact e' ⟨b, ob, o, h1, hw, hφ⟩
    · obtain ⟨B1, o1, hφ1, _⟩ := aside b ob h1 h2
      rw [g.le _ _ hφ1] at hφ; cases hφ
      exact hO ⟨b, ob, o, h1, hw, hφ1⟩
  · rcases hK b ob hb with h1 | ⟨h1, h2⟩
    · exact hk b ob (g.ro b ob h1 hw)
    · exact h1

/-! ### the order -/
/-- What must stand ahead, of what must. -/
def stepB (acc : Array Nat) (o : Oper) : Nat := o.after.foldl (fun s e => if Region.binds .any e then s ||| 2 ^ e.on ||| acc.getD e.on 0 else s) 0
theorem stepB_bit {acc : Array Nat} {o : Oper} {j : Nat} (h : (stepB acc o).testBit j = true) : ∃ e ∈ o.after, Region.binds .any e = true ∧ (e.on = j ∨ (acc.getD e.on 0).testBit j = true) := by
  have key : ∀ (l : List Edge) (s : Nat), (l.foldl (fun s e => if Region.binds .any e then s ||| 2 ^ e.on ||| acc.getD e.on 0 else s) s).testBit j = true → s.testBit j = true ∨ ∃ e ∈ l, Region.binds .any e = true ∧ (e.on = j ∨ (acc.getD e.on 0).testBit j = true) := by
    intro l
    induction l with
    | nil => intro s h; exact .inl h
    | cons e l ih =>
      intro s h
      rw [List.foldl_cons] at h
      rcases ih _ h with h1 | ⟨e', he', h1⟩
      · split at h1
        · rename_i hb
          simp only [Nat.testBit_or, Bool.or_eq_true, Nat.testBit_two_pow, decide_eq_true_eq] at h1
          rcases h1 with (h1 | h1) | h1
          · exact .inl h1
          · exact .inr ⟨e, by simp, hb, .inl h1⟩
          · exact .inr ⟨e, by simp, hb, .inr h1⟩
        · exact .inl h1
      · exact .inr ⟨e', by simp [he'], h1⟩
  unfold stepB at h
  rw [← Array.foldl_toList] at h
  rcases key _ 0 h with h1 | ⟨e, he, h1⟩
  · simp at h1
  · exact ⟨e, by simpa using he, h1⟩
theorem before_spec (ops : Array Oper) : (Region.before ops).size = ops.size ∧ ∀ i o, ops[i]? = some o → ∃ acc : Array Nat, (Region.before ops).getD i 0 = stepB acc o ∧ (∀ j, j < i → acc.getD j 0 = (Region.before ops).getD j 0) ∧ acc.size = i := by
  have key : ∀ (l : List Oper) (acc : Array Nat), let r := l.foldl (fun acc o => acc.push (stepB acc o)) acc
      r.size = acc.size + l.length ∧ (∀ j, j < acc.size → r.getD j 0 = acc.getD j 0) ∧ ∀ i o, l[i]? = some o → ∃ acc' : Array Nat, r.getD (acc.size + i) 0 = stepB acc' o ∧ (∀ j, j < acc.size + i → acc'.getD j 0 = r.getD j 0) ∧ acc'.size = acc.size + i := by
    intro l
    induction l with
    | nil => intro acc; exact ⟨rfl, fun _ _ => rfl, fun i o h => by simp at h⟩
    | cons o l ih =>
      intro acc
      obtain ⟨h1, h2, h3⟩ := ih (acc.push (stepB acc o))
      simp only [List.foldl_cons, Array.size_push] at h1 h2 h3 ⊢
      have old : ∀ j, j < acc.size → (acc.push (stepB acc o)).getD j 0 = acc.getD j 0 := fun j hj => by
        rw [Array.getD_eq_getD_getElem?, Array.getD_eq_getD_getElem?, Array.getElem?_push, if_neg (by omega)]
      refine ⟨by rw [h1]; simp; omega, fun j hj => by rw [h2 j (by omega)]; exact old j hj, fun i x hx => ?_⟩
      cases i with
      | zero =>
        simp only [List.getElem?_cons_zero, Option.some.injEq] at hx
        subst hx
        refine ⟨acc, ?_, fun j hj => ?_, rfl⟩
        · rw [Nat.add_zero, h2 acc.size (by omega)]
          rw [Array.getD_eq_getD_getElem?, Array.getElem?_push, if_pos rfl]; rfl
        · rw [h2 j (by omega)]; exact (old j (by omega)).symm
      | succ i =>
        obtain ⟨acc', h4, h5, h6⟩ := h3 i x (by simpa using hx)
        rw [show acc.size + (i + 1) = acc.size + 1 + i by omega]
        exact ⟨acc', h4, h5, h6⟩
  have hb : Region.before ops = ops.toList.foldl (fun acc o => acc.push (stepB acc o)) #[] := by
    unfold Region.before
    rw [← Array.foldl_toList]
    rfl
  obtain ⟨h1, _, h3⟩ := key ops.toList #[]
  rw [← hb] at h1 h3
  refine ⟨by simpa using h1, fun i o ho => ?_⟩
  obtain ⟨acc, h4, h5, h6⟩ := h3 i o (by simpa using ho)
  simp only [List.size_toArray, List.length_nil, Nat.zero_add] at h4 h5 h6
  exact ⟨acc, h4, h5, h6⟩

/-- What is told of the order. -/
structure Ordered (ops : Array Oper) : Prop where
  back : ∀ (i : Nat) (o : Oper), ops[i]? = some o → ∀ e ∈ o.after, Region.binds .any e = true → e.on < i
  named : ∀ (i j : Nat) (o p : Oper) (t : Tmp), ops[i]? = some o → ops[j]? = some p → p.dst = some t → t ∈ tmpsOf ops o → (j < i ∧ ((Region.before ops).getD i 0).testBit j = true) ∨ (i < j ∧ ((Region.before ops).getD j 0).testBit i = true ∧ clsOf o.op = .pure ∧ o.guard = none)
  once : ∀ (i j : Nat) (o p : Oper) (t : Tmp), ops[i]? = some o → ops[j]? = some p → o.dst = some t → p.dst = some t → i = j
  effs : ∀ (i j : Nat) (o p : Oper), ops[i]? = some o → ops[j]? = some p → clsOf o.op = .effect → clsOf p.op = .effect → j < i → ((Region.before ops).getD i 0).testBit j = true
theorem bef_lt {ops : Array Oper} (h : Ordered ops) {i j : Nat} (hb : ((Region.before ops).getD i 0).testBit j = true) : ∃ o, ops[i]? = some o ∧ ∃ e ∈ o.after, Region.binds .any e = true ∧ e.on < i ∧ (e.on = j ∨ ((Region.before ops).getD e.on 0).testBit j = true) := by
  obtain ⟨h1, h2⟩ := before_spec ops
  cases ho : ops[i]? with
  | none =>
    have : (Region.before ops).getD i 0 = 0 := by
      rw [Array.getD_eq_getD_getElem?, Array.getElem?_eq_none (by rw [h1]; exact Array.getElem?_eq_none_iff.1 ho)]; rfl
    rw [this] at hb; simp at hb
  | some o =>
    obtain ⟨acc, h3, h4, h5⟩ := h2 i o ho
    rw [h3] at hb
    obtain ⟨e, he, hbi, hx⟩ := stepB_bit hb
    have hlt := h.back i o ho e he hbi
    refine ⟨o, rfl, e, he, hbi, hlt, ?_⟩
    rw [h4 e.on hlt] at hx
    exact hx
end Go.Ab
/- Drawn regions, third part: what the check of the order tells. -/
namespace Go.Ab
open Go

theorem noteTmps_some : ∀ (ts : List Tmp) (m : Notes), ∃ m', noteTmps m ts = some m' ∧ (∀ t x, m.get t = some x → m'.get t = some x) ∧ ∀ t ∈ ts, m'.get t ≠ none
  | [], m => ⟨m, rfl, fun _ _ h => h, fun _ h => by cases h⟩
  | t :: l, m => by
    unfold noteTmps
    cases hg : m.get t with
    | some x =>
      obtain ⟨m', h1, h2, h3⟩ := noteTmps_some l m
      refine ⟨m', h1, h2, fun u hu => ?_⟩
      cases hu with
      | head => rw [h2 t x hg]; simp
      | tail _ hu => exact h3 u hu
    | none =>
      obtain ⟨m', h1, h2, h3⟩ := noteTmps_some l (m.set t none)
      have hkeep : ∀ u x, m.get u = some x → (m.set t none).get u = some x := fun u x hu => by
        rw [T.get_set]
        rw [if_neg (fun e => by subst e; rw [hg] at hu; cases hu)]
        exact hu
      refine ⟨m', h1, fun u x hu => h2 u x (hkeep u x hu), fun u hu => ?_⟩
      cases hu with
      | head => rw [h2 t none (by rw [T.get_set, if_pos rfl])]; simp
      | tail _ hu => exact h3 u hu
theorem tmpsFit_spec {b : Nat} {m : Notes} : ∀ {ts : List Tmp}, tmpsFit b m ts = true → ∀ t ∈ ts, ∀ j, m.get t = some (some j) → b.testBit j = true
  | [], _, _, h, _, _ => by cases h
  | u :: l, h, t, ht, j, hj => by
    simp only [tmpsFit, Bool.and_eq_true] at h
    cases ht with
    | head => have := h.1; rw [hj] at this; exact this
    | tail _ ht => exact tmpsFit_spec h.2 t ht j hj

/-- What is told of the operations ahead of the n-th. -/
structure OrderedTo (ops : Array Oper) (n : Nat) : Prop where
  back : ∀ (i : Nat) (o : Oper), i < n → ops[i]? = some o → ∀ e ∈ o.after, Region.binds .any e = true → e.on < i
  named : ∀ (i j : Nat) (o p : Oper) (t : Tmp), i < n → j < n → ops[i]? = some o → ops[j]? = some p → p.dst = some t → t ∈ tmpsOf ops o → (j < i ∧ ((Region.before ops).getD i 0).testBit j = true) ∨ (i < j ∧ ((Region.before ops).getD j 0).testBit i = true ∧ clsOf o.op = .pure ∧ o.guard = none)
  once : ∀ (i j : Nat) (o p : Oper) (t : Tmp), i < n → j < n → ops[i]? = some o → ops[j]? = some p → o.dst = some t → p.dst = some t → i = j
  effs : ∀ (i j : Nat) (o p : Oper), i < n → ops[i]? = some o → ops[j]? = some p → clsOf o.op = .effect → clsOf p.op = .effect → j < i → ((Region.before ops).getD i 0).testBit j = true
structure Noted (ops : Array Oper) (n : Nat) (m : Notes) (effs : List Nat) : Prop where
  wrote : ∀ (k : Nat) (p : Oper) (t : Tmp), k < n → ops[k]? = some p → p.dst = some t → m.get t = some (some k)
  named : ∀ (k : Nat) (p : Oper) (t : Tmp), k < n → ops[k]? = some p → t ∈ tmpsOf ops p → m.get t ≠ none
  effs : ∀ (k : Nat) (p : Oper), k < n → ops[k]? = some p → clsOf p.op = .effect → k ∈ effs

theorem ordered_to (ops : Array Oper) : ∀ (l : List Oper) (j : Nat) (m : Notes) (effs : List Nat), ops.toList.drop j = l → orderedL ops (Region.before ops) l j m effs = true → Noted ops j m effs → OrderedTo ops j → OrderedTo ops (j + l.length) := by
  intro l
  induction l with
  | nil => intro j m effs _ _ _ h; exact h
  | cons o l ih =>
    intro j m effs hd h nt od
    have ho : ops[j]? = some o := by
      have : (ops.toList.drop j)[0]? = some o := by rw [hd]; rfl
      rw [List.getElem?_drop] at this
      simpa using this
    have hd' : ops.toList.drop (j + 1) = l := by rw [← List.drop_drop, hd]; rfl
    obtain ⟨m1, hm1, hkeep, hnamed⟩ := noteTmps_some (tmpsOf ops o) m
    unfold orderedL at h
    simp only [hm1, Bool.and_eq_true, List.all_eq_true] at h
    obtain ⟨⟨hafter, hfit⟩, h⟩ := h
    obtain ⟨m2, hm2, hkeep2, hkeep3, hdst⟩ : ∃ m2 : Notes, noteDst ops ((Region.before ops).getD j 0) (tmpsOf ops o) m1 j o.dst = some m2 ∧ (∀ t k, m1.get t = some (some k) → m2.get t = some (some k)) ∧ (∀ t, m1.get t ≠ none → m2.get t ≠ none) ∧
        ∀ d, o.dst = some d → m2.get d = some (some j) ∧ (∀ k, m1.get d ≠ some (some k)) ∧ (m1.get d ≠ none → earlyOk ops ((Region.before ops).getD j 0) (tmpsOf ops o) j d = true) := by
      cases hdd : o.dst with
      | none => exact ⟨m1, rfl, fun _ _ hh => hh, fun _ hh => hh, fun d hh => by cases hh⟩
      | some d =>
        have new : (∀ k, m1.get d ≠ some (some k)) → (m1.get d ≠ none → earlyOk ops ((Region.before ops).getD j 0) (tmpsOf ops o) j d = true) → noteDst ops ((Region.before ops).getD j 0) (tmpsOf ops o) m1 j (some d) = some (m1.set d (some j)) →
            ∃ m2 : Notes, noteDst ops ((Region.before ops).getD j 0) (tmpsOf ops o) m1 j (some d) = some m2 ∧ (∀ t k, m1.get t = some (some k) → m2.get t = some (some k)) ∧ (∀ t, m1.get t ≠ none → m2.get t ≠ none) ∧
              ∀ d', some d = some d' → m2.get d' = some (some j) ∧ (∀ k, m1.get d' ≠ some (some k)) ∧ (m1.get d' ≠ none → earlyOk ops ((Region.before ops).getD j 0) (tmpsOf ops o) j d' = true) := fun h1 h2 h3 =>
          ⟨m1.set d (some j), h3, fun t k hx => by
              rw [T.get_set, if_neg (fun e => by subst e; exact h1 k hx)]; exact hx,
            fun t hx => by
              rw [T.get_set]
              split
              · simp
              · exact hx,
            fun d' hd' => by cases hd'; exact ⟨by rw [T.get_set, if_pos rfl], h1, h2⟩⟩
        cases hg : m1.get d with
        | none => exact new (fun k => by rw [hg]; simp) (fun h0 => absurd hg h0) (by simp only [noteDst, hg])
        | some x =>
          cases x with
          | some k => rw [hdd] at h; simp only [noteDst, hg] at h; cases h
          | none =>
            cases he : earlyOk ops ((Region.before ops).getD j 0) (tmpsOf ops o) j d with
            | false => rw [hdd] at h; simp only [noteDst, hg, he] at h; cases h
            | true => exact new (fun k => by rw [hg]; simp) (fun _ => he) (by simp only [noteDst, hg, he, if_true])
    rw [hm2] at h
    simp only at h
    have early : ∀ d, o.dst = some d → m1.get d ≠ none → d ∉ tmpsOf ops o ∧ ∀ i x, i < j → ops[i]? = some x → d ∈ tmpsOf ops x → ((Region.before ops).getD j 0).testBit i = true ∧ clsOf x.op = .pure ∧ x.guard = none := fun d hd hne => by
      have he := (hdst d hd).2.2 hne
      unfold earlyOk at he
      simp only [Bool.and_eq_true, Bool.not_eq_true', List.all_eq_true, List.mem_range] at he
      refine ⟨fun hin => ?_, fun i x hi hx hin => ?_⟩
      · have : (tmpsOf ops o).any (Nat.beq d) = true := List.any_eq_true.2 ⟨d, hin, by simp⟩
        rw [he.1] at this; cases this
      · have h1 := he.2 i hi
        unfold earlyOne at h1
        rw [nth_arr, hx] at h1
        simp only [Bool.or_eq_true, Bool.not_eq_true', Bool.and_eq_true] at h1
        rcases h1 with h1 | h1
        · have : (tmpsOf ops x).any (Nat.beq d) = true := List.any_eq_true.2 ⟨d, hin, by simp⟩
          rw [h1] at this; cases this
        · refine ⟨h1.1.1, ?_, by simpa using h1.2⟩
          have := h1.1.2
          cases hc : clsOf x.op <;> rw [hc] at this <;> first | rfl | cases this
    have od' : (clsOf o.op = .effect → ∀ k ∈ effs, ((Region.before ops).getD j 0).testBit k = true) → OrderedTo ops (j + 1) := fun heff => by
      refine ⟨fun i x hi hx e he hb => ?_, fun i k x p t hi hk hx hp hpt ht => ?_, fun i k x p t hi hk hx hp hxt hpt => ?_, fun i k x p hi hx hp hxe hpe hki => ?_⟩
      · rcases Nat.lt_succ_iff_lt_or_eq.1 hi with hlt | rfl
        · exact od.back i x hlt hx e he hb
        · rw [ho] at hx; cases hx
          have := hafter e (by simpa using he)
          rw [hb] at this
          simp only [Bool.not_true, Bool.false_or] at this
          exact Nat.le_of_ble_eq_true this
      · rcases Nat.lt_succ_iff_lt_or_eq.1 hi with hlt | rfl
        · rcases Nat.lt_succ_iff_lt_or_eq.1 hk with hlk | rfl
          · exact od.named i k x p t hlt hlk hx hp hpt ht
          · right
            rw [ho] at hp; cases hp
            have hne : m1.get t ≠ none := by
              cases hg : m.get t with
              | none => exact absurd hg (nt.named i x t hlt hx ht)
              | some y => rw [hkeep t y hg]; simp
            exact ⟨hlt, (early t hpt hne).2 i x hlt hx ht⟩
        · rw [ho] at hx; cases hx
          rcases Nat.lt_succ_iff_lt_or_eq.1 hk with hlk | rfl
          · exact .inl ⟨hlk, tmpsFit_spec hfit t ht k (nt.wrote k p t hlk hp hpt)⟩
          · exfalso
            rw [ho] at hp; cases hp
            exact (early t hpt (hnamed t ht)).1 ht
      · rcases Nat.lt_succ_iff_lt_or_eq.1 hi with hlt | rfl
        · rcases Nat.lt_succ_iff_lt_or_eq.1 hk with hlk | rfl
          · exact od.once i k x p t hlt hlk hx hp hxt hpt
          · exfalso
            rw [ho] at hp; cases hp
            exact (hdst t hpt).2.1 i (hkeep t _ (nt.wrote i x t hlt hx hxt))
        · rcases Nat.lt_succ_iff_lt_or_eq.1 hk with hlk | rfl
          · exfalso
            rw [ho] at hx; cases hx
            exact (hdst t hxt).2.1 k (hkeep t _ (nt.wrote k p t hlk hp hpt))
          · rfl
      · rcases Nat.lt_succ_iff_lt_or_eq.1 hi with hlt | rfl
        · exact od.effs i k x p hlt hx hp hxe hpe hki
        · rw [ho] at hx; cases hx
          exact heff hxe k (nt.effs k p hki hp hpe)
    have nt' : ∀ effs' : List Nat, (∀ k ∈ effs, k ∈ effs') → (clsOf o.op = .effect → j ∈ effs') → Noted ops (j + 1) m2 effs' := fun effs' h1 h2 => by
      refine ⟨fun k p t hk hp hpt => ?_, fun k p t hk hp ht => ?_, fun k p hk hp he => ?_⟩
      · rcases Nat.lt_succ_iff_lt_or_eq.1 hk with hlk | rfl
        · exact hkeep2 t _ (hkeep t _ (nt.wrote k p t hlk hp hpt))
        · rw [ho] at hp; cases hp; exact (hdst t hpt).1
      · rcases Nat.lt_succ_iff_lt_or_eq.1 hk with hlk | rfl
        · cases hg : m.get t with
          | none => exact absurd hg (nt.named k p t hlk hp ht)
          | some y => exact hkeep3 t (by rw [hkeep t y hg]; simp)
        · rw [ho] at hp; cases hp
          cases hg : m1.get t with
          | none => exact absurd hg (hnamed t ht)
          | some y => exact hkeep3 t (by rw [hg]; simp)
      · rcases Nat.lt_succ_iff_lt_or_eq.1 hk with hlk | rfl
        · exact h1 k (nt.effs k p hlk hp he)
        · rw [ho] at hp; cases hp; exact h2 he
    rw [List.length_cons, show j + (l.length + 1) = j + 1 + l.length by omega]
    cases hc : clsOf o.op with
    | other => rw [hc] at h; cases h
    | effect =>
      rw [hc] at h
      simp only [Bool.and_eq_true, List.all_eq_true] at h
      exact ih (j + 1) m2 (j :: effs) hd' h.2 (nt' _ (fun k hk => List.mem_cons_of_mem _ hk) fun _ => List.mem_cons_self) (od' fun _ => h.1)
    | pure => rw [hc] at h; exact ih (j + 1) m2 effs hd' h (nt' _ (fun k hk => hk) fun he => by rw [hc] at he; cases he) (od' fun he => by rw [hc] at he; cases he)
    | alloc => rw [hc] at h; exact ih (j + 1) m2 effs hd' h (nt' _ (fun k hk => hk) fun he => by rw [hc] at he; cases he) (od' fun he => by rw [hc] at he; cases he)
    | read => rw [hc] at h; exact ih (j + 1) m2 effs hd' h (nt' _ (fun k hk => hk) fun he => by rw [hc] at he; cases he) (od' fun he => by rw [hc] at he; cases he)

theorem ordered_of {ops : Array Oper} (h : orderedOps ops (Region.before ops) = true) : Ordered ops := by
  have := ordered_to ops ops.toList 0 .nil [] rfl h ⟨fun k _ _ hk => by omega, fun k _ _ hk => by omega, fun k _ hk => by omega⟩ ⟨fun i _ hi => by omega, fun i _ _ _ _ hi => by omega, fun i _ _ _ _ hi => by omega, fun i _ _ _ hi => by omega⟩
  rw [Nat.zero_add, Array.length_toList] at this
  have lt : ∀ {i : Nat} {o : Oper}, ops[i]? = some o → i < ops.size := fun h => (Array.getElem?_eq_some_iff.1 h).1
  exact ⟨fun i o h => this.back i o (lt h) h, fun i j o p t h1 h2 => this.named i j o p t (lt h1) (lt h2) h1 h2, fun i j o p t h1 h2 => this.once i j o p t (lt h1) (lt h2) h1 h2, fun i j o p h1 h2 => this.effs i j o p (lt h1) h1 h2⟩
end Go.Ab
/- Drawn regions, fourth part: the run in the text's row, step by step. -/
namespace Go.Ab
open Go
variable {P : Program} [Idx P]

section
variable (P) (r : Fns) (ops : Array Oper) (base : Nat) (rnd : Option Nat) (E : Env)

/-- What a step did. -/
inductive Did (o : Oper) (m : Nat) (x x' : DS) : Prop
  | skip (hw : wantedA o ops x.a.tmps = false) (e : x' = { x with a := x.a.put o.dst undef })
  | pure (hw : wantedA o ops x.a.tmps = true) (hc : clsOf o.op = .pure) (v : Value) (hv : opA P (x.s.look E) x.s.next (evalO x.a.tmps) o.op = some (v, [], false)) (e : x' = { x with a := x.a.put o.dst v })
  | alloc (hw : wantedA o ops x.a.tmps = true) (hc : clsOf o.op = .alloc) (v : Value) (ob : AObj) (hv : opA P (x.s.look E) (base + m) (evalO x.a.tmps) o.op = some (v, [(base + m, some ob)], true))
      (e : x' = ⟨{ x.d with news := (m, ob) :: x.d.news }, x.a.put o.dst v, { x.s with top := x.s.top.set (base + m) (some ob) }⟩)
  | read (hw : wantedA o ops x.a.tmps = true) (hc : clsOf o.op = .read) (v : Value) (hv : opA P (x.s.look E) x.s.next (evalO x.a.tmps) o.op = some (v, [], false))
      (hr : readEarlier P base x.s.next ((Region.before ops).getD m 0) x.d.news x.a.tmps o.op v E x.d.effs = true) (e : x' = ⟨{ x.d with reads := (m, o, v) :: x.d.reads }, x.a.put o.dst v, x.s⟩)
  | effect (hw : wantedA o ops x.a.tmps = true) (hc : clsOf o.op = .effect) (a' : A) (s' : St) (hv : oper P r o.op o.dst rnd x.a E (without base x.s (asideOf ((Region.before ops).getD m 0) x.d.news)) = .ok a' s')
      (hr : readLater P x.s.next ((Region.before ops).getD m 0) x.a.tmps ((putBack base s' x.s E (asideOf ((Region.before ops).getD m 0) x.d.news)).look E) x.d.reads = true)
      (e : x' = ⟨{ x.d with effs := (m, x.s) :: x.d.effs }, a', putBack base s' x.s E (asideOf ((Region.before ops).getD m 0) x.d.news)⟩)

theorem did_of {o : Oper} {m : Nat} {x x' : DS} (h : drawn1 P r ops (Region.before ops) base rnd E o m x = some x') : Did P r ops base rnd E o m x x' := by
  unfold drawn1 at h
  split at h
  · rename_i hw
    split at h
    · rename_i hc
      split at h
      · rename_i v hv; cases h; exact .pure hw hc v hv rfl
      · cases h
    · rename_i hc
      split at h
      · rename_i v b ob hv
        split at h
        · rename_i hb
          have hb := Nat.eq_of_beq_eq_true hb
          subst hb
          cases h
          exact .alloc hw hc v ob hv rfl
        · cases h
      · cases h
    · rename_i hc
      split at h
      · rename_i v hv
        split at h
        · rename_i hr; cases h; exact .read hw hc v hv hr rfl
        · cases h
      · cases h
    · rename_i hc
      split at h
      · rename_i a' s' hv
        simp only at h
        split at h
        · rename_i hr; cases h; exact .effect hw hc a' s' hv hr rfl
        · cases h
      · cases h
    · cases h
  · rename_i hw
    cases h
    exact .skip (by simpa using hw) rfl

/-- The whole run. -/
structure Run (x0 : DS) (X : Nat → DS) : Prop where
  start : X 0 = x0
  did : ∀ (m : Nat) (o : Oper), ops[m]? = some o → Did P r ops base rnd E o m (X m) (X (m + 1))

theorem drawnL_steps : ∀ (l : List Oper) (k : Nat) (x : DS), drawnL P r ops (Region.before ops) base rnd E l k x ≠ .bad →
    ∃ X : Nat → DS, X k = x ∧ (∀ (m : Nat) (o : Oper), k ≤ m → l[m - k]? = some o → Did P r ops base rnd E o m (X m) (X (m + 1))) ∧ drawnL P r ops (Region.before ops) base rnd E l k x = .ok (X (k + l.length)).a (X (k + l.length)).s := by
  intro l
  induction l with
  | nil => intro k x _; exact ⟨fun _ => x, rfl, fun m o _ h => by simp at h, rfl⟩
  | cons o l ih =>
    intro k x h
    have heq : drawnL P r ops (Region.before ops) base rnd E (o :: l) k x = (match drawn1 P r ops (Region.before ops) base rnd E o k x with | some x => drawnL P r ops (Region.before ops) base rnd E l (k + 1) x | none => .bad) := rfl
    rw [heq] at h ⊢
    cases hd : drawn1 P r ops (Region.before ops) base rnd E o k x with
    | none => rw [hd] at h; exact absurd rfl h
    | some x' =>
      rw [hd] at h
      simp only at h ⊢
      obtain ⟨X, h1, h2, h3⟩ := ih (k + 1) x' h
      refine ⟨fun m => if m = k then x else X m, if_pos rfl, fun m o' hm ho => ?_, ?_⟩
      · by_cases e : m = k
        · subst e
          rw [Nat.sub_self] at ho
          simp only [List.getElem?_cons_zero, Option.some.injEq] at ho
          subst ho
          simp only [if_true, if_neg (show ¬ m + 1 = m by omega), h1]
          exact did_of P r ops base rnd E hd
        · rw [show m - k = (m - (k + 1)) + 1 by omega, List.getElem?_cons_succ] at ho
          simp only [if_neg e, if_neg (show ¬ m + 1 = k by omega)]
          exact h2 m o' (by omega) ho
      · rw [h3]
        simp only [List.length_cons, show k + (l.length + 1) = k + 1 + l.length by omega, if_neg (show ¬ k + 1 + l.length = k by omega)]
theorem run_of {x : DS} (h : drawnL P r ops (Region.before ops) base rnd E ops.toList 0 x ≠ .bad) :
    ∃ X : Nat → DS, Run P r ops base rnd E x X ∧ drawnL P r ops (Region.before ops) base rnd E ops.toList 0 x = .ok (X ops.size).a (X ops.size).s := by
  obtain ⟨X, h1, h2, h3⟩ := drawnL_steps P r ops base rnd E ops.toList 0 x h
  refine ⟨X, ⟨h1, fun m o ho => h2 m o (Nat.zero_le _) (by simpa using ho)⟩, ?_⟩
  rw [h3]; simp
end

/-! ### putting aside -/
theorem look_set (s : St) (E : Env) (i : Nat) (o : Option AObj) (b : Nat) : ({ s with top := s.top.set i o } : St).look E b = if b = i then o else s.look E b := by
  simp only [St.look, lookE, T.get_set]
  by_cases e : b = i
  · rw [if_pos e, if_pos e]
  · rw [if_neg e, if_neg e]
theorem without_look (base : Nat) (E : Env) : ∀ (l : List Nat) (s : St) (b : Nat), (without base s l).look E b = if ∃ i ∈ l, b = base + i then none else s.look E b
  | [], s, b => by rw [if_neg (by simp)]; rfl
  | i :: l, s, b => by
    rw [without, without_look base E l, look_set]
    by_cases h : ∃ j ∈ l, b = base + j
    · rw [if_pos h, if_pos (by obtain ⟨j, hj, e⟩ := h; exact ⟨j, List.mem_cons_of_mem _ hj, e⟩)]
    · rw [if_neg h]
      by_cases e : b = base + i
      · rw [if_pos e, if_pos ⟨i, List.mem_cons_self, e⟩]
      · rw [if_neg e, if_neg]
        rintro ⟨j, hj, e'⟩
        cases hj with
        | head => exact e e'
        | tail _ hj => exact h ⟨j, hj, e'⟩
theorem putBack_look (base : Nat) (was : St) (E : Env) : ∀ (l : List Nat) (s : St) (b : Nat), (putBack base s was E l).look E b = if ∃ i ∈ l, b = base + i then was.look E b else s.look E b
  | [], s, b => by rw [if_neg (by simp)]; rfl
  | i :: l, s, b => by
    rw [putBack, putBack_look base was E l, look_set]
    by_cases h : ∃ j ∈ l, b = base + j
    · rw [if_pos h, if_pos (by obtain ⟨j, hj, e⟩ := h; exact ⟨j, List.mem_cons_of_mem _ hj, e⟩)]
    · rw [if_neg h]
      by_cases e : b = base + i
      · rw [if_pos e, if_pos ⟨i, List.mem_cons_self, e⟩, e]
      · rw [if_neg e, if_neg]
        rintro ⟨j, hj, e'⟩
        cases hj with
        | head => exact e e'
        | tail _ hj => exact h ⟨j, hj, e'⟩
theorem without_next (base : Nat) : ∀ (l : List Nat) (s : St), (without base s l).next = s.next
  | [], _ => rfl
  | i :: l, s => by rw [without, without_next base l]
theorem putBack_next (base : Nat) (was : St) (E : Env) : ∀ (l : List Nat) (s : St), (putBack base s was E l).next = s.next
  | [], _ => rfl
  | i :: l, s => by rw [putBack, putBack_next base was E l]
theorem withNews_look (base j : Nat) (E : Env) : ∀ (l : List (Nat × AObj)) (s : St) (b : Nat) (ob : AObj), (withNews base j s l).look E b = some ob → (∃ i, (i, ob) ∈ l ∧ j ≤ i ∧ b = base + i) ∨ ((∀ i ob', (i, ob') ∈ l → j ≤ i → b ≠ base + i) ∧ s.look E b = some ob)
  | [], s, b, ob, h => .inr ⟨fun _ _ hm => (by cases hm), h⟩
  | (i, ob1) :: l, s, b, ob, h => by
    unfold withNews at h
    by_cases hji : Nat.ble j i = true
    · rw [if_pos hji] at h
      have hji := Nat.le_of_ble_eq_true hji
      rcases withNews_look base j E l _ b ob h with ⟨k, hk, h1, h2⟩ | ⟨h1, h2⟩
      · exact .inl ⟨k, List.mem_cons_of_mem _ hk, h1, h2⟩
      · rw [look_set] at h2
        by_cases e : b = base + i
        · rw [if_pos e] at h2; cases h2
          exact .inl ⟨i, List.mem_cons_self, hji, e⟩
        · rw [if_neg e] at h2
          refine .inr ⟨fun k ob' hk hjk => ?_, h2⟩
          cases hk with
          | head => exact e
          | tail _ hk => exact h1 k ob' hk hjk
    · rw [if_neg hji] at h
      have hji : ¬ j ≤ i := fun hh => hji (Nat.ble_eq_true_of_le hh)
      rcases withNews_look base j E l _ b ob h with ⟨k, hk, h1, h2⟩ | ⟨h1, h2⟩
      · exact .inl ⟨k, List.mem_cons_of_mem _ hk, h1, h2⟩
      · refine .inr ⟨fun k ob' hk hjk => ?_, h2⟩
        cases hk with
        | head => exact absurd hjk hji
        | tail _ hk => exact h1 k ob' hk hjk
theorem aside_mem {b : Nat} : ∀ {l : List (Nat × AObj)} {i : Nat}, i ∈ asideOf b l ↔ b.testBit i = false ∧ ∃ ob, (i, ob) ∈ l
  | [], i => by simp [asideOf]
  | (j, ob) :: l, i => by
    unfold asideOf
    split
    · rename_i hb
      rw [aside_mem]
      constructor
      · rintro ⟨h1, o, h2⟩; exact ⟨h1, o, List.mem_cons_of_mem _ h2⟩
      · rintro ⟨h1, o, h2⟩
        cases h2 with
        | head => rw [h1] at hb; cases hb
        | tail _ h2 => exact ⟨h1, o, h2⟩
    · rename_i hb
      rw [List.mem_cons, aside_mem]
      constructor
      · rintro (rfl | ⟨h1, o, h2⟩)
        · exact ⟨by simpa using hb, ob, List.mem_cons_self⟩
        · exact ⟨h1, o, List.mem_cons_of_mem _ h2⟩
      · rintro ⟨h1, o, h2⟩
        cases h2 with
        | head => exact .inl rfl
        | tail _ h2 => exact .inr ⟨h1, o, h2⟩
end Go.Ab
/- Drawn regions, fifth part: along the text's row. -/
namespace Go.Ab
open Go
variable {P : Program} [Idx P] {φ : Phi} {W : World}

noncomputable def val (a : A) (t : Tmp) : Value := (a.tmps.get t).getD undef
theorem val_put (a : A) (dst : Option Tmp) (v : Value) (t : Tmp) : val (a.put dst v) t = if dst = some t then v else val a t := by
  cases dst with
  | none => rw [if_neg (by simp)]; rfl
  | some d =>
    unfold val A.put
    simp only [T.get_set]
    by_cases e : t = d
    · rw [if_pos e, if_pos (by rw [e])]; rfl
    · rw [if_neg e, if_neg (fun h => e (Option.some.inj h).symm)]
theorem evalO_val {a a' : A} {x : Operand} (h : ∀ t, x = .tmp t → val a t = val a' t) : evalO a.tmps x = evalO a'.tmps x := by
  cases x with
  | tmp t => exact h t rfl
  | _ => rfl

section
variable {r : Fns} {ops : Array Oper} {base : Nat} {rnd : Option Nat} {E : Env} {x0 : DS} {X : Nat → DS}

theorem Did.put {o : Oper} {m : Nat} {x x' : DS} (d : Did P r ops base rnd E o m x x') : ∃ v, x'.a = x.a.put o.dst v := by
  cases d with
  | skip hw e => exact ⟨undef, by rw [e]⟩
  | pure hw hc v hv e => exact ⟨v, by rw [e]⟩
  | alloc hw hc v ob hv e => exact ⟨v, by rw [e]⟩
  | read hw hc v hv hr e => exact ⟨v, by rw [e]⟩
  | effect hw hc a' s' hv hr e =>
    obtain ⟨v, h1, _⟩ := oper_congr hc hv (aL := x.a) fun _ _ => rfl
    exact ⟨v, by rw [e]; exact h1⟩
theorem Run.same (R : Run P r ops base rnd E x0 X) {t : Tmp} {m : Nat} : ∀ {m' : Nat}, m ≤ m' → m' ≤ ops.size → (∀ (j : Nat) (o : Oper), m ≤ j → j < m' → ops[j]? = some o → o.dst ≠ some t) → val (X m').a t = val (X m).a t := by
  intro m' hle hn hno
  induction m' with
  | zero => rw [show m = 0 by omega]
  | succ k ih =>
    by_cases e : m = k + 1
    · rw [e]
    · have hk : k < ops.size := by omega
      obtain ⟨v, hv⟩ := (R.did k ops[k] (Array.getElem?_eq_getElem hk)).put
      rw [hv, val_put, if_neg (hno k ops[k] (by omega) (by omega) (Array.getElem?_eq_getElem hk))]
      exact ih (by omega) (by omega) fun j o h1 h2 => hno j o h1 (by omega)
/-- What an operation looks at stays as it is (if it is not a plain one). -/
theorem Run.looks (R : Run P r ops base rnd E x0 X) (hord : Ordered ops) {i : Nat} {o : Oper} (ho : ops[i]? = some o) (hnp : clsOf o.op ≠ .pure) {t : Tmp} (ht : t ∈ tmpsOf ops o) {m : Nat} (hm : i ≤ m) (hn : m ≤ ops.size) : val (X m).a t = val (X i).a t :=
  R.same hm hn fun j p h1 _ hp hd => by
    rcases hord.named i j o p t ho hp hd ht with h | h
    · omega
    · exact hnp h.2.2.1
/-- What an operation has written stays. -/
theorem Run.keeps (R : Run P r ops base rnd E x0 X) (hord : Ordered ops) {i : Nat} {o : Oper} (ho : ops[i]? = some o) {t : Tmp} (ht : o.dst = some t) {m : Nat} (hm : i + 1 ≤ m) (hn : m ≤ ops.size) : val (X m).a t = val (X (i + 1)).a t :=
  R.same hm hn fun j p h1 _ hp hd => by
    have := hord.once i j o p t ho hp ht hd
    omega
theorem tmpsIn_mem {t : Tmp} : ∀ {l : List Operand}, .tmp t ∈ l → t ∈ tmpsIn l
  | x :: l, h => by
    cases h with
    | head => exact List.mem_cons_self
    | tail _ h =>
      have := tmpsIn_mem h
      cases x <;> first
        | exact List.mem_cons_of_mem _ this
        | exact this
theorem tmpsOf_mem {o : Oper} {t : Tmp} (h : .tmp t ∈ o.op.operands) : t ∈ tmpsOf ops o := List.mem_append_left _ (tmpsIn_mem (by simpa using h))
/-- Operands, where all that they name is as it was in the row. -/
theorem Run.eval (_R : Run P r ops base rnd E x0 X) {i : Nat} {o : Oper} {aL : A} (hL : ∀ t ∈ tmpsOf ops o, val aL t = val (X i).a t) :
    ∀ x ∈ o.op.operands, evalO (X i).a.tmps x = evalO aL.tmps x := fun x hx => evalO_val fun t ht => by
  subst ht
  rw [hL t (tmpsOf_mem hx)]
theorem Run.evalLate (R : Run P r ops base rnd E x0 X) (hord : Ordered ops) {i : Nat} {o : Oper} (ho : ops[i]? = some o) (hnp : clsOf o.op ≠ .pure) {aL : A} (hL : ∀ t ∈ tmpsOf ops o, val aL t = val (X i).a t) {m : Nat} (hm : i ≤ m) (hn : m ≤ ops.size) :
    ∀ x ∈ o.op.operands, evalO (X m).a.tmps x = evalO aL.tmps x := fun x hx => evalO_val fun t ht => by
  subst ht
  rw [hL t (tmpsOf_mem hx), R.looks hord ho hnp (tmpsOf_mem hx) hm hn]
theorem yieldedA_val {a a' : A} {o : Oper} {g : Nat} {want : Bool} (hg : o.guard = some (g, want)) (h : ∀ t ∈ tmpsOf ops o, val a t = val a' t) : yieldedA ops a.tmps g = yieldedA ops a'.tmps g := by
  unfold yieldedA
  rw [nth_arr]
  cases hp : ops[g]? with
  | none => rfl
  | some p =>
    simp only [Option.bind_some]
    cases hd : p.dst with
    | none => rfl
    | some d =>
      simp only [Option.bind_some]
      have := h d (List.mem_append_right _ (by rw [hg]; simp only [hp, hd, Option.toList_some]; exact List.mem_singleton.2 rfl))
      unfold val at this
      cases h1 : a.tmps.get d <;> cases h2 : a'.tmps.get d <;> rw [h1, h2] at this <;> simp only [Option.getD_none, Option.getD_some] at this
      · rw [← this]; rfl
      · rw [this]; rfl
      · rw [this]
theorem Run.wanted (_R : Run P r ops base rnd E x0 X) {i : Nat} {o : Oper} {aL : A} (hL : ∀ t ∈ tmpsOf ops o, val aL t = val (X i).a t) : wantedA o ops (X i).a.tmps = wantedA o ops aL.tmps := by
  unfold wantedA Region.wanted
  cases hg : o.guard with
  | none => rfl
  | some gw =>
    obtain ⟨g, want⟩ := gw
    simp only
    rw [yieldedA_val hg (a := (X i).a) (a' := aL) fun t ht => (hL t ht).symm]
end
end Go.Ab
/- Drawn regions, sixth part: the heap along the text's row. -/
namespace Go.Ab
open Go
variable {P : Program} [Idx P] {φ : Phi} {W : World}

section
variable {r : Fns} {ops : Array Oper} {base : Nat} {rnd : Option Nat} {E : Env} {x0 : DS} {X : Nat → DS}

/-- An operation that acts, and is wanted. -/
def Eff (ops : Array Oper) (X : Nat → DS) (m : Nat) : Prop := ∃ o, ops[m]? = some o ∧ clsOf o.op = .effect ∧ wantedA o ops (X m).a.tmps = true

theorem Run.calm (R : Run P r ops base rnd E x0 X) {m : Nat} (hm : m < ops.size) (he : ¬ Eff ops X m) : (X (m + 1)).s.next = (X m).s.next ∧ ∀ b, b ≠ base + m → (X (m + 1)).s.look E b = (X m).s.look E b := by
  have ho := Array.getElem?_eq_getElem hm
  cases R.did m _ ho with
  | skip hw e => rw [e]; exact ⟨rfl, fun _ _ => rfl⟩
  | pure hw hc v hv e => rw [e]; exact ⟨rfl, fun _ _ => rfl⟩
  | alloc hw hc v ob hv e => rw [e]; exact ⟨rfl, fun b hb => by rw [look_set, if_neg hb]⟩
  | read hw hc v hv hr e => rw [e]; exact ⟨rfl, fun _ _ => rfl⟩
  | effect hw hc a' s' hv hr e => exact absurd ⟨_, ho, hc, hw⟩ he
/-- Where nothing acts, the objects that are none of the region's own new ones are as they were. -/
theorem Run.still (R : Run P r ops base rnd E x0 X) {m : Nat} {b : Nat} : ∀ {m' : Nat}, m ≤ m' → m' ≤ ops.size → (∀ j, m ≤ j → j < m' → ¬ Eff ops X j ∧ b ≠ base + j) → (X m').s.look E b = (X m).s.look E b := by
  intro m' hle hn hno
  induction m' with
  | zero => rw [show m = 0 by omega]
  | succ k ih =>
    by_cases e : m = k + 1
    · rw [e]
    · have := hno k (by omega) (by omega)
      rw [(R.calm (by omega) this.1).2 b this.2]
      exact ih (by omega) (by omega) fun j h1 h2 => hno j h1 (by omega)
theorem Run.stillNext (R : Run P r ops base rnd E x0 X) {m : Nat} : ∀ {m' : Nat}, m ≤ m' → m' ≤ ops.size → (∀ j, m ≤ j → j < m' → ¬ Eff ops X j) → (X m').s.next = (X m).s.next := by
  intro m' hle hn hno
  induction m' with
  | zero => rw [show m = 0 by omega]
  | succ k ih =>
    by_cases e : m = k + 1
    · rw [e]
    · rw [(R.calm (by omega) (hno k (by omega) (by omega))).1]
      exact ih (by omega) (by omega) fun j h1 h2 => hno j h1 (by omega)

/-- What has been noted ahead of the m-th. -/
structure NotesOk (P : Program) [Idx P] (ops : Array Oper) (base : Nat) (E : Env) (X : Nat → DS) (m : Nat) (d : Dr) : Prop where
  news : ∀ i ob, (i, ob) ∈ d.news → i < m ∧ (X (i + 1)).s.look E (base + i) = some ob ∧ ∃ o, ops[i]? = some o ∧ clsOf o.op = .alloc ∧ wantedA o ops (X i).a.tmps = true
  made : ∀ i o, i < m → ops[i]? = some o → clsOf o.op = .alloc → wantedA o ops (X i).a.tmps = true → ∃ ob, (i, ob) ∈ d.news
  effs : ∀ i, i < m → Eff ops X i → (i, (X i).s) ∈ d.effs
  reads : ∀ i o, i < m → ops[i]? = some o → clsOf o.op = .read → wantedA o ops (X i).a.tmps = true → ∃ v, opA P ((X i).s.look E) (X i).s.next (evalO (X i).a.tmps) o.op = some (v, [], false) ∧ (X (i + 1)).a = (X i).a.put o.dst v ∧ (i, o, v) ∈ d.reads
theorem Run.notes (R : Run P r ops base rnd E x0 X) (h0 : x0.d = ⟨[], [], []⟩) : ∀ m, m ≤ ops.size → NotesOk P ops base E X m (X m).d := by
  intro m
  induction m with
  | zero =>
    intro _
    rw [R.start, h0]
    exact ⟨fun _ _ h => (by cases h), fun i _ h => by omega, fun i h => by omega, fun i _ h => by omega⟩
  | succ k ih =>
    intro hk
    obtain ⟨h1, h2, h3, h4⟩ := ih (by omega)
    have ho := Array.getElem?_eq_getElem (show k < ops.size by omega)
    have cls : ∀ {o : Oper}, ops[k]? = some o → o = ops[k] := fun h => by rw [ho] at h; exact (Option.some.inj h).symm
    have hd := R.did k _ ho
    generalize hx' : X (k + 1) = x' at hd ⊢
    have keep : ∀ (news : List (Nat × AObj)) (effs : List (Nat × St)) (reads : List (Nat × Oper × Value)), x'.d = ⟨reads, effs, news⟩ → (∀ p, p ∈ news → p ∈ (X k).d.news ∨ (p.1 = k ∧ x'.s.look E (base + k) = some p.2 ∧ clsOf (ops[k]).op = .alloc ∧ wantedA ops[k] ops (X k).a.tmps = true)) → (∀ p ∈ (X k).d.news, p ∈ news) →
        (∀ p ∈ (X k).d.effs, p ∈ effs) → (∀ p ∈ (X k).d.reads, p ∈ reads) → (clsOf (ops[k]).op = .alloc → wantedA ops[k] ops (X k).a.tmps = true → ∃ ob, (k, ob) ∈ news) → (clsOf (ops[k]).op = .effect → wantedA ops[k] ops (X k).a.tmps = true → (k, (X k).s) ∈ effs) →
        (clsOf (ops[k]).op = .read → wantedA ops[k] ops (X k).a.tmps = true → ∃ v, opA P ((X k).s.look E) (X k).s.next (evalO (X k).a.tmps) (ops[k]).op = some (v, [], false) ∧ x'.a = (X k).a.put (ops[k]).dst v ∧ (k, ops[k], v) ∈ reads) → NotesOk P ops base E X (k + 1) x'.d := fun news effs reads hdd hn1 hn2 he2 hr2 hn3 he3 hr3 => by
      rw [hdd]
      refine ⟨fun i ob hm => ?_, fun i o hi hio hc hw => ?_, fun i hi he => ?_, fun i o hi hio hc hw => ?_⟩
      · rcases hn1 _ hm with h | ⟨e, h5, h6, h7⟩
        · obtain ⟨a, b, c⟩ := h1 i ob h; exact ⟨by omega, b, c⟩
        · simp only at e h5
          subst e
          exact ⟨by omega, by rw [hx']; exact h5, _, ho, h6, h7⟩
      · rcases Nat.lt_succ_iff_lt_or_eq.1 hi with hlt | rfl
        · obtain ⟨ob, h⟩ := h2 i o hlt hio hc hw; exact ⟨ob, hn2 _ h⟩
        · have := cls hio; subst this; exact hn3 hc hw
      · rcases Nat.lt_succ_iff_lt_or_eq.1 hi with hlt | rfl
        · exact he2 _ (h3 i hlt he)
        · obtain ⟨o, hio, hc, hw⟩ := he
          have := cls hio; subst this; exact he3 hc hw
      · rcases Nat.lt_succ_iff_lt_or_eq.1 hi with hlt | rfl
        · obtain ⟨v, a, b, c⟩ := h4 i o hlt hio hc hw; exact ⟨v, a, b, hr2 _ c⟩
        · have := cls hio; subst this
          rw [hx']; exact hr3 hc hw
    cases hd with
    | skip hw e =>
      refine keep (X k).d.news (X k).d.effs (X k).d.reads (by rw [e]) (fun p hp => .inl hp) (fun p hp => hp) (fun p hp => hp) (fun p hp => hp) (fun _ h => ?_) (fun _ h => ?_) (fun _ h => ?_) <;> (rw [hw] at h; cases h)
    | pure hw hc v hv e =>
      refine keep (X k).d.news (X k).d.effs (X k).d.reads (by rw [e]) (fun p hp => .inl hp) (fun p hp => hp) (fun p hp => hp) (fun p hp => hp) (fun h _ => ?_) (fun h _ => ?_) (fun h _ => ?_) <;> (rw [hc] at h; cases h)
    | alloc hw hc v ob hv e =>
      refine keep ((k, ob) :: (X k).d.news) (X k).d.effs (X k).d.reads (by rw [e]) (fun p hp => ?_) (fun p hp => List.mem_cons_of_mem _ hp) (fun p hp => hp) (fun p hp => hp) (fun _ _ => ⟨ob, List.mem_cons_self⟩) (fun h _ => ?_) (fun h _ => ?_)
      · cases hp with
        | head => exact .inr ⟨rfl, by rw [e, look_set, if_pos rfl], hc, hw⟩
        | tail _ hp => exact .inl hp
      · rw [hc] at h; cases h
      · rw [hc] at h; cases h
    | read hw hc v hv hr e =>
      refine keep (X k).d.news (X k).d.effs ((k, ops[k], v) :: (X k).d.reads) (by rw [e]) (fun p hp => .inl hp) (fun p hp => hp) (fun p hp => hp) (fun p hp => List.mem_cons_of_mem _ hp) (fun h _ => ?_) (fun h _ => ?_) (fun _ _ => ⟨v, hv, by rw [e], List.mem_cons_self⟩)
      · rw [hc] at h; cases h
      · rw [hc] at h; cases h
    | effect hw hc a' s' hv hr e =>
      refine keep (X k).d.news ((k, (X k).s) :: (X k).d.effs) (X k).d.reads (by rw [e]) (fun p hp => .inl hp) (fun p hp => hp) (fun p hp => List.mem_cons_of_mem _ hp) (fun p hp => hp) (fun h _ => ?_) (fun _ _ => List.mem_cons_self) (fun h _ => ?_)
      · rw [hc] at h; cases h
      · rw [hc] at h; cases h
end
end Go.Ab
/- Drawn regions, seventh part: what acts along the text's row. -/
namespace Go.Ab
open Go
variable {P : Program} [Idx P] {φ : Phi} {W : World}

section
variable {r : Fns} {ops : Array Oper} {base : Nat} {rnd : Option Nat} {E : Env} {x0 : DS} {X : Nat → DS}

/-- What is put aside ahead of the m-th. -/
def asideAt (ops : Array Oper) (X : Nat → DS) (m : Nat) : List Nat := asideOf ((Region.before ops).getD m 0) (X m).d.news

theorem Run.acts (R : Run P r ops base rnd E x0 X) {m : Nat} {o : Oper} (ho : ops[m]? = some o) (hc : clsOf o.op = .effect) (hw : wantedA o ops (X m).a.tmps = true) :
    ∃ a' s', oper P r o.op o.dst rnd (X m).a E (without base (X m).s (asideAt ops X m)) = .ok a' s' ∧ (X (m + 1)).a = a' ∧ (X (m + 1)).s.next = s'.next ∧
      (∀ b, (X (m + 1)).s.look E b = if ∃ i ∈ asideAt ops X m, b = base + i then (X m).s.look E b else s'.look E b) ∧
      readLater P (X m).s.next ((Region.before ops).getD m 0) (X m).a.tmps ((X (m + 1)).s.look E) (X m).d.reads = true := by
  cases R.did m o ho with
  | skip hw' e => rw [hw] at hw'; cases hw'
  | pure _ hc' => rw [hc] at hc'; cases hc'
  | alloc _ hc' => rw [hc] at hc'; cases hc'
  | read _ hc' => rw [hc] at hc'; cases hc'
  | effect _ _ a' s' hv hr e =>
    refine ⟨a', s', hv, by rw [e], by rw [e]; exact putBack_next .., fun b => by rw [e]; exact putBack_look .., by rw [e]; exact hr⟩
/-- A new object that an effect need not be behind is as it was. -/
theorem Run.kept (R : Run P r ops base rnd E x0 X) (h0 : x0.d = ⟨[], [], []⟩) {i : Nat} {oi : Oper} (hoi : ops[i]? = some oi) (hci : clsOf oi.op = .alloc) (hwi : wantedA oi ops (X i).a.tmps = true) : ∀ {m : Nat}, i + 1 ≤ m → m ≤ ops.size →
    (∀ e, i < e → e < m → Eff ops X e → ((Region.before ops).getD e 0).testBit i = false) → (X m).s.look E (base + i) = (X (i + 1)).s.look E (base + i) := by
  intro m hm hn hno
  induction m with
  | zero => omega
  | succ k ih =>
    by_cases e : k = i
    · rw [e]
    · rw [← ih (by omega) (by omega) fun e' h1 h2 => hno e' h1 (by omega)]
      by_cases he : Eff ops X k
      · have hb := hno k (by omega) (by omega) he
        obtain ⟨o, ho, hc, hw⟩ := he
        obtain ⟨a', s', _, _, _, hl, _⟩ := R.acts ho hc hw
        rw [hl, if_pos]
        refine ⟨i, ?_, rfl⟩
        unfold asideAt
        rw [aside_mem]
        obtain ⟨ob, hob⟩ := (R.notes h0 k (by omega)).made i oi (by omega) hoi hci hwi
        exact ⟨hb, ob, hob⟩
      · exact (R.calm (by omega) he).2 _ (by omega)
theorem readsAs_spec {h : Look} {nx : Nat} {tm : T Value} {op : Op} {v : Value} (e : readsAs P h nx tm op v = true) : opA P h nx (evalO tm) op = some (v, [], false) := by
  unfold readsAs at e
  split at e
  · rename_i v' hv
    rw [hv, eqV_eq 50 v v' e]
  · cases e
theorem readLater_spec {nx m : Nat} {tm : T Value} {h : Look} : ∀ {l : List (Nat × Oper × Value)}, readLater P nx m tm h l = true → ∀ j o v, (j, o, v) ∈ l → m.testBit j = false → opA P h nx (evalO tm) o.op = some (v, [], false)
  | [], _, _, _, _, hm, _ => by cases hm
  | (j, o, v) :: l, e, j', o', v', hm, hb => by
    simp only [readLater, Bool.and_eq_true, Bool.or_eq_true] at e
    cases hm with
    | head => exact readsAs_spec (e.1.resolve_left (by rw [hb]; simp))
    | tail _ hm => exact readLater_spec e.2 j' o' v' hm hb
theorem readEarlier_spec {nx m : Nat} {news : List (Nat × AObj)} {tm : T Value} {op : Op} {v : Value} : ∀ {l : List (Nat × St)}, readEarlier P base nx m news tm op v E l = true → ∀ j t, (j, t) ∈ l → m.testBit j = false → opA P ((withNews base j t news).look E) nx (evalO tm) op = some (v, [], false)
  | [], _, _, _, hm, _ => by cases hm
  | (j, t) :: l, e, j', t', hm, hb => by
    simp only [readEarlier, Bool.and_eq_true, Bool.or_eq_true] at e
    cases hm with
    | head => exact readsAs_spec (e.1.resolve_left (by rw [hb]; simp))
    | tail _ hm => exact readEarlier_spec e.2 j' t' hm hb
end
end Go.Ab
/- Drawn regions, eighth part: along the text's row there is always a world. -/
namespace Go.Ab
open Go
variable {P : Program} [Idx P] {φ : Phi} {W : World}

omit [Idx P] in
theorem exists_of_upon {F : Fence} (hroom : ∀ k, F.room k) {o : Oper} {a : Act} {K : Act → World → Prop} {res : Result Next} (h : o.uponIn F 0 P a K (fun _ _ _ => False) res) : ∃ a' w', K a' w' := by
  cases res with
  | halt q w => cases q <;> exact h.elim
  | ok x w =>
    cases x <;> first
      | exact ⟨_, _, h⟩
      | exact h.elim
      | (obtain ⟨_, h⟩ := h
         obtain ⟨e, w', fr, hR, _⟩ := h.2 [] (hroom _)
         cases e with
         | returned v => exact ⟨_, _, hR⟩
         | panicked c => exact hR.elim
         | outgrown => obtain ⟨_, _, hq⟩ := hR; exact hq.elim)
      | (obtain ⟨_, h⟩ := h
         obtain ⟨v, w', hR, _⟩ := h default [] (hroom _)
         exact ⟨_, _, hR⟩)
      | (obtain ⟨_, h⟩ := h
         obtain ⟨e, w', hR, _⟩ := h.2 default [] (hroom _)
         cases e with
         | returned v => exact ⟨_, _, hR⟩
         | panicked c => exact hR.elim
         | outgrown => obtain ⟨_, _, hq⟩ := hR; exact hq.elim)
theorem RRnd.room {r : Option Nat} {F : Fence} (h : RRnd φ r F) (k : Nat) : F.room k := fun d hd => by rw [h.depth] at hd; cases hd

section
variable {r : Fns} (FO : FnsOk P r) (F : Fit P) {ops : Array Oper} {rnd : Option Nat} {E : Env} {X : Nat → DS} {s0 : St} {a0 : A} {N G : Nat} {φ0 : Phi} {act0 : Act} {W0 : World} {Fc : Fence}
include FO F

/-- An operation that makes an object, and is wanted. -/
def Makes (ops : Array Oper) (X : Nat → DS) (i : Nat) : Prop := ∃ o, ops[i]? = some o ∧ clsOf o.op = .alloc ∧ wantedA o ops (X i).a.tmps = true
/-- What holds ahead of the m-th, in some world. -/
structure Text (P : Program) [Idx P] (ops : Array Oper) (E : Env) (X : Nat → DS) (s0 : St) (N : Nat) (φ0 : Phi) (m : Nat) (φ : Phi) (act : Act) (W : World) : Prop where
  le : φ0.le φ
  sim : Sim φ ((X m).s.look E) W
  act : RAct φ N (X m).a act
  fresh : ∀ b, (X m).s.next ≤ b → φ b = none
  news : ∀ i, (m ≤ i ∨ ¬ Makes ops X i) → i < ops.size → φ (s0.next + i) = none
  next : s0.next + ops.size ≤ (X m).s.next
  globs : Globs φ P.globals.size

theorem text_ok (R : Run P r ops s0.next rnd E ⟨⟨[], [], []⟩, a0, { s0 with next := s0.next + ops.size }⟩ X) (hok : ops.toList.all (operOk G N) = true) (hG : Globs φ0 G) (hr : RAct φ0 N a0 act0) (i0 : Inv P φ0 (s0.look E) s0.next W0) (hF : RRnd φ0 rnd Fc) :
    ∀ m, m ≤ ops.size → ∃ φ act W, Text P ops E X s0 N φ0 m φ act W := by
  intro m
  induction m with
  | zero =>
    intro _
    refine ⟨φ0, act0, W0, φ0.le_refl, ?_, ?_, fun b hb => ?_, fun i _ _ => i0.fresh _ (by omega), ?_, i0.globs⟩
    · rw [R.start]; exact i0.sim
    · rw [R.start]; exact hr
    · rw [R.start] at hb; exact i0.fresh b (by simp only at hb; omega)
    · rw [R.start]; exact Nat.le_refl _
  | succ k ih =>
    intro hk
    obtain ⟨φ, act, W, T⟩ := ih (by omega)
    have hkl : k < ops.size := by omega
    have ho := Array.getElem?_eq_getElem hkl
    have hoo : operOk G N ops[k] = true := by
      rw [List.all_eq_true] at hok
      exact hok _ (by simp)
    have hoo' := hoo
    simp only [operOk, Bool.and_eq_true, List.all_eq_true] at hoo'
    obtain ⟨⟨hops, hdst⟩, hyield⟩ := hoo'
    have hdst : ∀ d, (ops[k]).dst = some d → d < N := fun d hd => by rw [hd] at hdst; exact Nat.le_of_ble_eq_true hdst
    have hρ : ∀ x ∈ (ops[k]).op.operands, RV φ (evalO (X k).a.tmps x) (act.eval x) := fun x hx => eval_rel T.act (hG.mono T.le) (hops x (by simpa using hx))
    have hd := R.did k _ ho
    cases hd with
    | skip hw e =>
      refine ⟨φ, act.put (ops[k]).dst undef, W, T.le, by rw [e]; exact T.sim, by rw [e]; exact T.act.put hdst .undef', by rw [e]; exact T.fresh, fun i h1 h2 => T.news i (h1.imp_left fun h => by omega) h2, by rw [e]; exact T.next, T.globs⟩
    | pure hw hc v hv e =>
      obtain ⟨φ', W', nv, v', _, _, rv, sm, gr⟩ := goes_op F T.sim (T.fresh _ (Nat.le_refl _)) hρ hyield hv
      have keep : ∀ b, φ b = none → φ' b = none := fun b hb => by
        cases hq : φ' b with
        | none => rfl
        | some x => have := gr.dom b hb (by rw [hq]; simp); simp at this; omega
      refine ⟨φ', act.put (ops[k]).dst v', W', Phi.le_trans T.le gr.le, by rw [e]; exact sm, by rw [e]; exact (T.act.mono gr.le).put hdst rv, fun b hb => keep b (T.fresh b (by rw [e] at hb; exact hb)), fun i h1 h2 => keep _ (T.news i (h1.imp_left fun h => by omega) h2), by rw [e]; exact T.next, T.globs.mono gr.le⟩
    | read hw hc v hv hr' e =>
      obtain ⟨φ', W', nv, v', _, _, rv, sm, gr⟩ := goes_op F T.sim (T.fresh _ (Nat.le_refl _)) hρ hyield hv
      have keep : ∀ b, φ b = none → φ' b = none := fun b hb => by
        cases hq : φ' b with
        | none => rfl
        | some x => have := gr.dom b hb (by rw [hq]; simp); simp at this; omega
      refine ⟨φ', act.put (ops[k]).dst v', W', Phi.le_trans T.le gr.le, by rw [e]; exact sm, by rw [e]; exact (T.act.mono gr.le).put hdst rv, fun b hb => keep b (T.fresh b (by rw [e] at hb; exact hb)), fun i h1 h2 => keep _ (T.news i (h1.imp_left fun h => by omega) h2), by rw [e]; exact T.next, T.globs.mono gr.le⟩
    | alloc hw hc v ob hv e =>
      obtain ⟨φ', W', nv, v', _, _, rv, sm, gr⟩ := goes_op F T.sim (T.news k (.inl (Nat.le_refl _)) hkl) hρ hyield hv
      have keep : ∀ b, φ b = none → b ≠ s0.next + k → φ' b = none := fun b hb hne => by
        cases hq : φ' b with
        | none => rfl
        | some x => have := gr.dom b hb (by rw [hq]; simp); simp at this; omega
      have hnx := T.next
      refine ⟨φ', act.put (ops[k]).dst v', W', Phi.le_trans T.le gr.le, ?_, by rw [e]; exact (T.act.mono gr.le).put hdst rv, fun b hb => ?_, fun i h1 h2 => keep _ (T.news i (h1.imp_left fun h => by omega) h2) (fun he => by
        have hik : i = k := by omega
        subst hik
        rcases h1 with h1 | h1
        · omega
        · exact h1 ⟨_, ho, hc, hw⟩), by rw [e]; exact T.next, T.globs.mono gr.le⟩
      · rw [e]
        have : ({ (X k).s with top := (X k).s.top.set (s0.next + k) (some ob) } : St).look E = ((X k).s.look E).up [(s0.next + k, some ob)] := by
          funext b; rw [look_set]; rfl
        rw [this]; exact sm
      · rw [e] at hb
        have hb : (X k).s.next ≤ b := hb
        exact keep b (T.fresh b hb) (by omega)
    | effect hw hc a' s' hv hr' e =>
      obtain ⟨a1, s1, hv1, ha1, hn1, hl1, _⟩ := R.acts ho hc hw
      have hsub : Look.sub ((without s0.next (X k).s (asideAt ops X k)).look E) ((X k).s.look E) := fun b ob hb => by
        rw [without_look] at hb
        split at hb
        · cases hb
        · exact hb
      have iw : Inv P φ ((without s0.next (X k).s (asideAt ops X k)).look E) (without s0.next (X k).s (asideAt ops X k)).next W := ⟨T.sim.sub hsub, fun b hb => T.fresh b (by rw [without_next] at hb; exact hb), T.globs⟩
      obtain ⟨act', W', hA⟩ := exists_of_upon (hF.mono T.le).room (oper_ok FO F hoo (hG.mono T.le) T.act iw (hF.mono T.le) (by rw [hv1]; simp) (K := fun act' W' => ToA P E N φ _ W _ act' W') (Q := fun _ _ _ => False) fun _ _ h => h).2
      obtain ⟨a2, s2, φ', hm, hr2, t⟩ := hA
      rw [hv1] at hm
      simp only [Res.list, List.mem_singleton, Prod.mk.injEq] at hm
      obtain ⟨rfl, rfl⟩ := hm
      rw [without_next] at t
      obtain ⟨sm, gr⟩ := T.sim.extend hsub t.1.sim t.2 (K' := (X (k + 1)).s.look E) fun b ob hb => by
        rw [hl1] at hb
        split at hb
        · rename_i hin
          exact .inr ⟨hb, by rw [without_look, if_pos hin]⟩
        · exact .inl hb
      have hnx := T.next
      have hgn := t.2.next
      refine ⟨φ', act', W', Phi.le_trans T.le gr.le, sm, by rw [ha1]; exact hr2, fun b hb => by rw [hn1] at hb; exact t.1.fresh b hb, fun i h1 h2 => ?_, by rw [hn1]; omega, T.globs.mono gr.le⟩
      cases hq : φ' (s0.next + i) with
      | none => rfl
      | some x => have := gr.dom _ (T.news i (h1.imp_left fun h => by omega) h2) (by rw [hq]; simp); omega
end
end Go.Ab
/- Drawn regions, ninth part: whatever the order. -/
namespace Go.Ab
open Go
variable {P : Program} [Idx P] {φ : Phi} {W : World}

/-- What there is when those of L have been done. -/
noncomputable def lookL (n base : Nat) (E : Env) (X : Nat → DS) (L : Nat → Bool) (c : Nat) : Look := fun b =>
  if base ≤ b ∧ b < base + n then (if L (b - base) then (X (Nat.max c (b - base + 1))).s.look E b else none) else (X c).s.look E b

structure Listed (P : Program) [Idx P] (ops : Array Oper) (E : Env) (X : Nat → DS) (s0 : St) (N : Nat) (φ0 : Phi) (W0 : World) (L : Nat → Bool) (c : Nat) (φ : Phi) (aL : A) (act : Act) (W : World) : Prop where
  le : c ≤ ops.size
  lt : ∀ i, L i = true → i < ops.size
  before : ∀ m, m < c → Eff ops X m → L m = true
  after : ∀ m, c ≤ m → Eff ops X m → L m = false
  at_ : c < ops.size → Eff ops X c
  closed : ∀ i j, L i = true → ((Region.before ops).getD i 0).testBit j = true → L j = true
  sim : Sim φ (lookL ops.size s0.next E X L c) W
  fresh : ∀ b, (X c).s.next ≤ b → φ b = none
  news : ∀ i, i < ops.size → (L i = false ∨ ¬ Makes ops X i) → φ (s0.next + i) = none
  act : RAct φ N aL act
  defers : aL.defers = (X ops.size).a.defers
  vals : ∀ t, (∀ j o, ops[j]? = some o → o.dst = some t → L j = true) → val aL t = val (X ops.size).a t
  vals0 : ∀ t, (∀ j o, ops[j]? = some o → o.dst = some t → L j = false) → val aL t = val (X 0).a t
  globs : Globs φ P.globals.size
  grew : Grew φ0 (s0.look E) W0 s0.next φ (lookL ops.size s0.next E X L c) W (X ops.size).s.next

section
variable {r : Fns} {ops : Array Oper} {rnd : Option Nat} {E : Env} {X : Nat → DS} {s0 : St} {a0 : A} {N G : Nat} {φ0 : Phi} {act0 : Act} {W0 : World} {Fc : Fence} {L : Nat → Bool} {c : Nat} {aL : A} {act : Act}

theorem next_eff (X : Nat → DS) (n : Nat) (hn : n = ops.size) : ∀ (k c : Nat), c + k = n → ∃ c', c ≤ c' ∧ c' ≤ n ∧ (∀ m, c ≤ m → m < c' → ¬ Eff ops X m) ∧ (c' < n → Eff ops X c') := by
  intro k
  induction k with
  | zero => intro c hc; exact ⟨c, Nat.le_refl _, by omega, fun m h1 h2 => by omega, fun h => by omega⟩
  | succ k ih =>
    intro c hc
    by_cases he : Eff ops X c
    · exact ⟨c, Nat.le_refl _, by omega, fun m h1 h2 => by omega, fun _ => he⟩
    · obtain ⟨c', h1, h2, h3, h4⟩ := ih (c + 1) (by omega)
      exact ⟨c', by omega, h2, fun m h5 h6 => by
        by_cases e : m = c
        · rw [e]; exact he
        · exact h3 m (by omega) h6, h4⟩
/-- There is no object of a number that is kept for one that has not been made. -/
theorem Text.none {m : Nat} {φ : Phi} {W : World} (T : Text P ops E X s0 N φ0 m φ act W) {i : Nat} (h : m ≤ i ∨ ¬ Makes ops X i) (hi : i < ops.size) : (X m).s.look E (s0.next + i) = none := by
  cases hq : (X m).s.look E (s0.next + i) with
  | none => rfl
  | some ob =>
    obtain ⟨B, o, hφ, _⟩ := T.sim.obj _ _ hq
    rw [T.news i h hi] at hφ; cases hφ

/-- One more. -/
def with_ (L : Nat → Bool) (i : Nat) : Nat → Bool := fun j => if j = i then true else L j
theorem with_self (L : Nat → Bool) (i : Nat) : with_ L i i = true := if_pos rfl
theorem with_of {L : Nat → Bool} {i j : Nat} (h : L j = true) : with_ L i j = true := by
  unfold with_; split <;> first | rfl | exact h
theorem with_ne {L : Nat → Bool} {i j : Nat} (h : j ≠ i) : with_ L i j = L j := if_neg h

theorem lookL_calm (TX : ∀ m, m ≤ ops.size → ∃ φ act W, Text P ops E X s0 N φ0 m φ act W) {i : Nat} (hi : i < ops.size) (hL : L i = false) (hm : ¬ Makes ops X i) (hc : c ≤ ops.size) : lookL ops.size s0.next E X (with_ L i) c = lookL ops.size s0.next E X L c := by
  funext b
  unfold lookL
  by_cases hb : s0.next ≤ b ∧ b < s0.next + ops.size
  · rw [if_pos hb, if_pos hb]
    by_cases e : b - s0.next = i
    · rw [e, with_self, hL]
      simp only [if_true, Bool.false_eq_true, if_false]
      obtain ⟨φ, act, W, T⟩ := TX (Nat.max c (i + 1)) (Nat.max_le.2 ⟨hc, hi⟩)
      rw [show b = s0.next + i by omega]
      exact T.none (.inr hm) hi
    · rw [with_ne e]
  · rw [if_neg hb, if_neg hb]
theorem lookL_make {i : Nat} (hi : i < ops.size) {ob : AObj} (hx : (X (Nat.max c (i + 1))).s.look E (s0.next + i) = some ob) : lookL ops.size s0.next E X (with_ L i) c = (lookL ops.size s0.next E X L c).up [(s0.next + i, some ob)] := by
  funext b
  show lookL ops.size s0.next E X (with_ L i) c b = if b = s0.next + i then some ob else lookL ops.size s0.next E X L c b
  unfold lookL
  by_cases e : b = s0.next + i
  · subst e
    rw [if_pos rfl, if_pos (by omega), show s0.next + i - s0.next = i by omega, with_self, if_pos rfl, hx]
  · rw [if_neg e]
    by_cases hb : s0.next ≤ b ∧ b < s0.next + ops.size
    · rw [if_pos hb, if_pos hb, with_ne (by omega)]
    · rw [if_neg hb, if_neg hb]
/-- What an effect sees is there. -/
theorem lookL_sub (R : Run P r ops s0.next rnd E ⟨⟨[], [], []⟩, a0, { s0 with next := s0.next + ops.size }⟩ X) (TX : ∀ m, m ≤ ops.size → ∃ φ act W, Text P ops E X s0 N φ0 m φ act W) (hc : c < ops.size)
    (hL : ∀ j, ((Region.before ops).getD c 0).testBit j = true → L j = true) : Look.sub ((without s0.next (X c).s (asideAt ops X c)).look E) (lookL ops.size s0.next E X L c) := fun b ob hb => by
  rw [without_look] at hb
  split at hb
  · cases hb
  · rename_i hno
    unfold lookL
    by_cases hin : s0.next ≤ b ∧ b < s0.next + ops.size
    · rw [if_pos hin]
      obtain ⟨φ, act, W, T⟩ := TX c (by omega)
      have hbe : b = s0.next + (b - s0.next) := by omega
      have hmk : ¬ (c ≤ b - s0.next ∨ ¬ Makes ops X (b - s0.next)) := fun h => by
        have := T.none h (by omega)
        rw [← hbe, hb] at this; cases this
      have hlt : b - s0.next < c := by
        rcases Nat.lt_or_ge (b - s0.next) c with h | h
        · exact h
        · exact absurd (.inl h) hmk
      have hM : Makes ops X (b - s0.next) := Classical.byContradiction fun h => hmk (.inr h)
      obtain ⟨o, ho, hco, hw⟩ := hM
      obtain ⟨ob1, hob⟩ := (R.notes rfl c (by omega)).made _ o hlt ho hco hw
      have hbit : ((Region.before ops).getD c 0).testBit (b - s0.next) = true := by
        cases hq : ((Region.before ops).getD c 0).testBit (b - s0.next) with
        | true => rfl
        | false => exact absurd ⟨b - s0.next, (by unfold asideAt; rw [aside_mem]; exact ⟨hq, ob1, hob⟩), hbe⟩ hno
      rw [hL _ hbit, if_pos rfl, show Nat.max c (b - s0.next + 1) = c from Nat.max_eq_left (by omega)]
      exact hb
    · rw [if_neg hin]; exact hb
/-- What there is behind an effect: what it leaves, and what was put aside. -/
theorem lookL_effect (R : Run P r ops s0.next rnd E ⟨⟨[], [], []⟩, a0, { s0 with next := s0.next + ops.size }⟩ X) (TX : ∀ m, m ≤ ops.size → ∃ φ act W, Text P ops E X s0 N φ0 m φ act W) (hc : c < ops.size) {o : Oper} (ho : ops[c]? = some o) (hco : clsOf o.op = .effect) {s' : St}
    (hl : ∀ b, (X (c + 1)).s.look E b = if ∃ i ∈ asideAt ops X c, b = s0.next + i then (X c).s.look E b else s'.look E b) {c' : Nat} (h1 : c + 1 ≤ c') (h2 : c' ≤ ops.size) (h3 : ∀ m, c + 1 ≤ m → m < c' → ¬ Eff ops X m) :
    ∀ b ob, lookL ops.size s0.next E X (with_ L c) c' b = some ob → s'.look E b = some ob ∨ (lookL ops.size s0.next E X L c b = some ob ∧ (without s0.next (X c).s (asideAt ops X c)).look E b = none) := fun b ob hb => by
  have at1 : ∀ ob, (X (c + 1)).s.look E b = some ob → (∃ i ∈ asideAt ops X c, b = s0.next + i) ∧ (X c).s.look E b = some ob ∨ s'.look E b = some ob := fun ob h => by
    rw [hl] at h
    split at h
    · rename_i hin; exact .inl ⟨hin, h⟩
    · exact .inr h
  unfold lookL at hb ⊢
  by_cases hin : s0.next ≤ b ∧ b < s0.next + ops.size
  · rw [if_pos hin] at hb
    rw [if_pos hin]
    have hbe : b = s0.next + (b - s0.next) := by omega
    generalize hi : b - s0.next = i at hb hbe ⊢
    have hin' : i < ops.size := by omega
    by_cases hic : i = c
    · exfalso
      subst hic
      obtain ⟨φ, act, W, T⟩ := TX (Nat.max c' (i + 1)) (Nat.max_le.2 ⟨h2, hin'⟩)
      rw [with_self, if_pos rfl] at hb
      have := T.none (i := i) (.inr fun ⟨o', ho', hc', _⟩ => by rw [ho] at ho'; cases ho'; rw [hco] at hc'; cases hc') hin'
      rw [← hbe, hb] at this; cases this
    · rw [with_ne hic] at hb
      by_cases hLi : L i = true
      · rw [if_pos hLi] at hb
        rw [if_pos hLi]
        rcases Nat.lt_or_ge i c with hlt | hge
        · rw [show Nat.max c' (i + 1) = c' from Nat.max_eq_left (by omega)] at hb
          rw [show Nat.max c (i + 1) = c from Nat.max_eq_left (by omega)]
          rw [R.still (b := b) h1 h2 fun j h4 h5 => ⟨h3 j h4 h5, by omega⟩] at hb
          rcases at1 ob hb with ⟨ha, hb⟩ | hb
          · exact .inr ⟨hb, by rw [without_look, if_pos ha]⟩
          · exact .inl hb
        · have hmx : (X (Nat.max c' (i + 1))).s.look E b = (X (i + 1)).s.look E b := by
            refine R.still (b := b) (Nat.le_max_right _ _) (Nat.max_le.2 ⟨h2, hin'⟩) fun j h4 h5 => ⟨?_, by omega⟩
            refine h3 j (by omega) ?_
            rcases Nat.le_total c' (i + 1) with hh | hh
            · rw [show Nat.max c' (i + 1) = i + 1 from Nat.max_eq_right hh] at h5; omega
            · rw [show Nat.max c' (i + 1) = c' from Nat.max_eq_left hh] at h5; exact h5
          rw [hmx] at hb
          rw [show Nat.max c (i + 1) = i + 1 from Nat.max_eq_right (by omega)]
          refine .inr ⟨hb, ?_⟩
          rw [without_look]
          split
          · rfl
          · obtain ⟨φ, act, W, T⟩ := TX c (by omega)
            rw [hbe]; exact T.none (.inl hge) hin'
      · rw [if_neg hLi] at hb; cases hb
  · rw [if_neg hin] at hb
    rw [if_neg hin]
    rw [R.still (b := b) h1 h2 fun j h4 h5 => ⟨h3 j h4 h5, by omega⟩] at hb
    rcases at1 ob hb with ⟨⟨i, hi, e⟩, _⟩ | hb
    · exfalso
      unfold asideAt at hi
      rw [aside_mem] at hi
      obtain ⟨_, ob1, hob⟩ := hi
      have := ((R.notes rfl c (by omega)).news i ob1 hob).1
      omega
    · exact .inl hb
end
end Go.Ab
/- Drawn regions, tenth part: reads. -/
namespace Go.Ab
open Go
variable {P : Program} [Idx P] {φ : Phi} {W : World}

section
variable {r : Fns} {ops : Array Oper} {rnd : Option Nat} {E : Env} {X : Nat → DS} {s0 : St} {a0 : A} {N G : Nat} {φ0 : Phi} {act0 : Act} {W0 : World} {Fc : Fence} {L : Nat → Bool} {c : Nat} {aL : A} {act : Act}

/-- What there was in the row at T is there now, where nothing acts from T to c. -/
theorem lookL_since (R : Run P r ops s0.next rnd E ⟨⟨[], [], []⟩, a0, { s0 with next := s0.next + ops.size }⟩ X) (TX : ∀ m, m ≤ ops.size → ∃ φ act W, Text P ops E X s0 N φ0 m φ act W) (D : Listed P ops E X s0 N φ0 W0 L c φ aL act W)
    {t : Nat} (ht : t ≤ c) (hq : ∀ m, t ≤ m → m < c → ¬ Eff ops X m) : ∀ b ob, φ b ≠ none → (X t).s.look E b = some ob → lookL ops.size s0.next E X L c b = some ob := fun b ob hφ hb => by
  unfold lookL
  by_cases hin : s0.next ≤ b ∧ b < s0.next + ops.size
  · rw [if_pos hin]
    have hbe : b = s0.next + (b - s0.next) := by omega
    generalize hi : b - s0.next = i at hbe ⊢
    have hin' : i < ops.size := by omega
    obtain ⟨φ1, act1, W1, T⟩ := TX t (Nat.le_trans ht D.le)
    have hlt : i < t := by
      rcases Nat.lt_or_ge i t with h | h
      · exact h
      · have := T.none (i := i) (.inl h) hin'
        rw [← hbe, hb] at this; cases this
    have hLi : L i = true := by
      cases hq : L i with
      | true => rfl
      | false => exact absurd (by rw [hbe]; exact D.news i hin' (.inl hq)) hφ
    rw [if_pos hLi, show Nat.max c (i + 1) = c from Nat.max_eq_left (by omega), R.still (b := b) ht D.le fun j h4 h5 => ⟨hq j h4 h5, by omega⟩]
    exact hb
  · rw [if_neg hin, R.still (b := b) ht D.le fun j h4 h5 => ⟨hq j h4 h5, fun e => hin ⟨by omega, by have := D.le; omega⟩⟩]
    exact hb
/-- A read comes to what it came to in the row. -/
theorem read_here (R : Run P r ops s0.next rnd E ⟨⟨[], [], []⟩, a0, { s0 with next := s0.next + ops.size }⟩ X) (_hord : Ordered ops) (TX : ∀ m, m ≤ ops.size → ∃ φ act W, Text P ops E X s0 N φ0 m φ act W) (D : Listed P ops E X s0 N φ0 W0 L c φ aL act W)
    {i : Nat} {o : Oper} (ho : ops[i]? = some o) (hc : clsOf o.op = .read) (hw : wantedA o ops (X i).a.tmps = true) (hL : L i = false) (hbef : ∀ j, ((Region.before ops).getD i 0).testBit j = true → L j = true) :
    ∃ (k : Look) (nx : Nat) (m : Nat) (v : Value), i ≤ m ∧ m ≤ ops.size ∧ opA P k nx (evalO (X m).a.tmps) o.op = some (v, [], false) ∧ (X (i + 1)).a = (X i).a.put o.dst v ∧ (∀ b ob, φ b ≠ none → k b = some ob → lookL ops.size s0.next E X L c b = some ob) := by
  have hi : i < ops.size := (Array.getElem?_eq_some_iff.1 ho).1
  obtain ⟨v, hv, hput, hrd⟩ := (R.notes rfl (i + 1) (by omega)).reads i o (by omega) ho hc hw
  rcases Nat.lt_trichotomy c i with hlt | heq | hgt
  · -- an effect of the row ahead of it is still to come
    have hE := D.at_ (by omega)
    have hno : ((Region.before ops).getD i 0).testBit c = false := by
      cases hq : ((Region.before ops).getD i 0).testBit c with
      | false => rfl
      | true => have h1 := hbef c hq; rw [D.after c (Nat.le_refl _) hE] at h1; cases h1
    have hre : readEarlier P s0.next (X i).s.next ((Region.before ops).getD i 0) (X i).d.news (X i).a.tmps o.op v E (X i).d.effs = true := by
      cases R.did i o ho with
      | skip hw' e => rw [hw] at hw'; cases hw'
      | pure _ hc' => rw [hc] at hc'; cases hc'
      | alloc _ hc' => rw [hc] at hc'; cases hc'
      | read _ _ v' hv' hr e => rw [hv] at hv'; cases hv'; exact hr
      | effect _ hc' => rw [hc] at hc'; cases hc'
    have hns := R.notes rfl i (by omega)
    have hop := readEarlier_spec hre c (X c).s (hns.effs c hlt hE) hno
    refine ⟨_, _, i, v, Nat.le_refl _, by omega, hop, hput, fun b ob hφ hb => ?_⟩
    rcases withNews_look s0.next c E _ _ b ob hb with ⟨j, hj, hcj, rfl⟩ | ⟨_, hb⟩
    · obtain ⟨hji, hjo, _⟩ := hns.news j ob hj
      have hLj : L j = true := by
        cases hq : L j with
        | true => rfl
        | false => exact absurd (D.news j (by omega) (.inl hq)) hφ
      unfold lookL
      rw [if_pos (by omega), show s0.next + j - s0.next = j by omega, hLj, if_pos rfl, show Nat.max c (j + 1) = j + 1 from Nat.max_eq_right (by omega)]
      exact hjo
    · exact lookL_since R TX D (Nat.le_refl _) (fun m h1 h2 => by omega) b ob hφ hb
  · subst heq
    exact absurd (D.at_ hi) fun ⟨o', ho', hc', _⟩ => by rw [ho] at ho'; cases ho'; rw [hc] at hc'; cases hc'
  · have last : ∀ c', i + 1 ≤ c' → (∀ m, i < m → m < c' → ¬ Eff ops X m) ∨ ∃ e, i < e ∧ e < c' ∧ Eff ops X e ∧ ∀ m, e < m → m < c' → ¬ Eff ops X m := fun c' => by
      induction c' with
      | zero => intro h; omega
      | succ k ih =>
        intro h
        by_cases hk : i + 1 ≤ k
        · by_cases he : Eff ops X k
          · exact .inr ⟨k, by omega, by omega, he, fun m h1 h2 => by omega⟩
          · rcases ih hk with h1 | ⟨e, h1, h2, h3, h4⟩
            · refine .inl fun m h5 h6 => ?_
              by_cases e : m = k
              · rw [e]; exact he
              · exact h1 m h5 (by omega)
            · refine .inr ⟨e, h1, by omega, h3, fun m h5 h6 => ?_⟩
              by_cases e' : m = k
              · rw [e']; exact he
              · exact h4 m h5 (by omega)
        · exact .inl fun m h5 h6 => by omega
    have hnot : ¬ Eff ops X i := fun ⟨o', ho', hc', _⟩ => by rw [ho] at ho'; cases ho'; rw [hc] at hc'; cases hc'
    rcases last c (by omega) with h1 | ⟨e, h1, h2, h3, h4⟩
    · refine ⟨_, _, i, v, Nat.le_refl _, by omega, hv, hput, lookL_since R TX D (by omega) fun m h5 h6 => ?_⟩
      by_cases e : m = i
      · rw [e]; exact hnot
      · exact h1 m (by omega) h6
    · have hLe := D.before e h2 h3
      have hbit : ((Region.before ops).getD e 0).testBit i = false := by
        cases hq : ((Region.before ops).getD e 0).testBit i with
        | false => rfl
        | true => have := D.closed e i hLe hq; rw [hL] at this; cases this
      have hen : e < ops.size := D.lt e hLe
      obtain ⟨v', hv', _, hrd'⟩ := (R.notes rfl e (by omega)).reads i o h1 ho hc hw
      rw [hv] at hv'; cases hv'
      obtain ⟨oe, hoe, hce, hwe⟩ := h3
      obtain ⟨a', s', _, _, _, _, hlat⟩ := R.acts hoe hce hwe
      have hop := readLater_spec hlat i o v hrd' hbit
      exact ⟨_, _, e, v, by omega, by omega, hop, hput, lookL_since R TX D (by omega) fun m h5 h6 => h4 m (by omega) h6⟩
end
end Go.Ab
/- Drawn regions, last part: each step keeps what holds; the induction. -/
namespace Go.Ab
open Go
variable {P : Program} [Idx P]

section
variable {r : Fns} (FO : FnsOk P r) (F : Fit P) {ops : Array Oper} {rnd : Option Nat} {E : Env} {X : Nat → DS} {s0 : St} {a0 : A} {N G : Nat} {φ0 : Phi} {act0 : Act} {W0 : World} {Fc : Fence} {L : Nat → Bool} {c : Nat} {aL : A} {act : Act}
  (R : Run P r ops s0.next rnd E ⟨⟨[], [], []⟩, a0, { s0 with next := s0.next + ops.size }⟩ X) (hord : Ordered ops) (hok : ops.toList.all (operOk G N) = true) (TX : ∀ m, m ≤ ops.size → ∃ φ act W, Text P ops E X s0 N φ0 m φ act W)

include R hord in
/-- The temporaries behind a step. -/
theorem vals_step {φ : Phi} {W : World} (D : Listed P ops E X s0 N φ0 W0 L c φ aL act W) {i : Nat} {o : Oper} (ho : ops[i]? = some o) {v : Value} (hv : (X (i + 1)).a = (X i).a.put o.dst v) :
    ∀ t, (∀ j p, ops[j]? = some p → p.dst = some t → with_ L i j = true) → val (aL.put o.dst v) t = val (X ops.size).a t := fun t ht => by
  have hi : i < ops.size := (Array.getElem?_eq_some_iff.1 ho).1
  rw [val_put]
  split
  · rename_i hd
    rw [R.keeps hord ho hd (by omega) (Nat.le_refl _), hv, val_put, if_pos hd]
  · rename_i hd
    refine D.vals t fun j p hp hpd => ?_
    have := ht j p hp hpd
    by_cases e : j = i
    · subst e; rw [ho] at hp; cases hp; exact absurd hpd hd
    · rwa [with_ne e] at this
theorem vals0_step {φ : Phi} {W : World} (D : Listed P ops E X s0 N φ0 W0 L c φ aL act W) {i : Nat} {o : Oper} (ho : ops[i]? = some o) (v : Value) :
    ∀ t, (∀ j p, ops[j]? = some p → p.dst = some t → with_ L i j = false) → val (aL.put o.dst v) t = val (X 0).a t := fun t ht => by
  rw [val_put]
  split
  · rename_i hd
    have := ht i o ho hd
    rw [with_self] at this; cases this
  · refine D.vals0 t fun j p hp hpd => ?_
    have := ht j p hp hpd
    by_cases e : j = i
    · rw [e, with_self] at this; cases this
    · rwa [with_ne e] at this
theorem closed_step {φ : Phi} {W : World} (D : Listed P ops E X s0 N φ0 W0 L c φ aL act W) {i : Nat} (hb : ∀ j, ((Region.before ops).getD i 0).testBit j = true → L j = true) :
    ∀ k j, with_ L i k = true → ((Region.before ops).getD k 0).testBit j = true → with_ L i j = true := fun k j hk hj => by
  by_cases e : k = i
  · subst e; exact with_of (hb j hj)
  · rw [with_ne e] at hk; exact with_of (D.closed k j hk hj)
theorem lt_step {φ : Phi} {W : World} (D : Listed P ops E X s0 N φ0 W0 L c φ aL act W) {i : Nat} (hi : i < ops.size) : ∀ k, with_ L i k = true → k < ops.size := fun k hk => by
  by_cases e : k = i
  · rw [e]; exact hi
  · rw [with_ne e] at hk; exact D.lt k hk
theorem put_defers (a : A) (dst : Option Tmp) (v : Value) : (a.put dst v).defers = a.defers := by cases dst <;> rfl
include R hord TX in
/-- A step that does not act. -/
theorem step_calm {φ : Phi} {W : World} (D : Listed P ops E X s0 N φ0 W0 L c φ aL act W) {i : Nat} {o : Oper} (ho : ops[i]? = some o) (hne : ¬ Eff ops X i) (hbef : ∀ j, ((Region.before ops).getD i 0).testBit j = true → L j = true) {v : Value} (hv : (X (i + 1)).a = (X i).a.put o.dst v)
    (hdst : ∀ d, o.dst = some d → d < N) {φ' : Phi} {v' : Value} {W' : World} (rv : RV φ' v v') (sm : Sim φ' (lookL ops.size s0.next E X (with_ L i) c) W') (gr : Grew φ (lookL ops.size s0.next E X L c) W s0.next φ' (lookL ops.size s0.next E X (with_ L i) c) W' (X ops.size).s.next)
    (hnew : ∀ b, φ b = none → φ' b ≠ none → b = s0.next + i ∧ Makes ops X i) : Listed P ops E X s0 N φ0 W0 (with_ L i) c φ' (aL.put o.dst v) (act.put o.dst v') W' := by
  have hi : i < ops.size := (Array.getElem?_eq_some_iff.1 ho).1
  refine ⟨D.le, lt_step D hi, fun m h1 h2 => with_of (D.before m h1 h2), fun m h1 h2 => ?_, D.at_, closed_step D hbef, sm, fun b hb => ?_, fun j hj hn => ?_, (D.act.mono gr.le).put hdst rv, by rw [put_defers]; exact D.defers, vals_step R hord D ho hv, vals0_step D ho v, D.globs.mono gr.le, D.grew.comp gr⟩
  · rw [with_ne (fun e : m = i => hne (by rw [← e]; exact h2))]; exact D.after m h1 h2
  · cases hq : φ' b with
    | none => rfl
    | some x =>
      obtain ⟨h1, _⟩ := hnew b (D.fresh b hb) (by rw [hq]; simp)
      obtain ⟨φ1, act1, W1, T⟩ := TX c D.le
      have := T.next
      omega
  · cases hq : φ' (s0.next + j) with
    | none => rfl
    | some x =>
      exfalso
      have hL : L j = false ∨ ¬ Makes ops X j := hn.imp_left fun h => by
        by_cases e : j = i
        · rw [e, with_self] at h; cases h
        · rwa [with_ne e] at h
      obtain ⟨h1, h2⟩ := hnew _ (D.news j hj hL) (by rw [hq]; simp)
      have : j = i := by omega
      subst this
      rcases hn with h | h
      · rw [with_self] at h; cases h
      · exact h h2
end
end Go.Ab
/- Drawn regions, twelfth part: each kind of operation, wherever it comes up. -/
namespace Go.Ab
open Go
variable {P : Program} [Idx P]

section
variable {r : Fns} (FO : FnsOk P r) (F : Fit P) {ops : Array Oper} {rnd : Option Nat} {E : Env} {X : Nat → DS} {s0 : St} {a0 : A} {N G : Nat} {φ0 : Phi} {act0 : Act} {W0 : World} {Fc : Fence} {L : Nat → Bool} {c : Nat} {aL : A} {act : Act}
  (R : Run P r ops s0.next rnd E ⟨⟨[], [], []⟩, a0, { s0 with next := s0.next + ops.size }⟩ X) (hord : Ordered ops) (hok : ops.toList.all (operOk G N) = true) (hG : Globs φ0 G) (TX : ∀ m, m ≤ ops.size → ∃ φ act W, Text P ops E X s0 N φ0 m φ act W) (hF : RRnd φ0 rnd Fc)

theorem grew_same {φ φ' : Phi} {h h' : Look} {W W' : World} {n n' : Nat} (g : Grew φ h W n φ' h' W' n') {n1 n2 : Nat} (hd : ∀ b, φ b = none → φ' b = none) (hn : n1 ≤ n2) : Grew φ h W n1 φ' h' W' n2 :=
  ⟨g.le, fun b e e' => absurd (hd b e) e', hn, g.os, g.tape, g.output, g.size, g.frame, g.ro⟩
theorem keep_none {φ φ' : Phi} {h h' : Look} {W W' : World} {n : Nat} (g : Grew φ h W n φ' h' W' n) (b : Nat) (hb : φ b = none) : φ' b = none := by
  cases hq : φ' b with
  | none => rfl
  | some x => have := g.dom b hb (by rw [hq]; simp); omega

include FO F R hok hG TX hF in
/-- The next number never falls. -/
theorem next_step {m : Nat} (hm : m < ops.size) : (X m).s.next ≤ (X (m + 1)).s.next := by
  by_cases he : Eff ops X m
  · obtain ⟨o, ho, hc, hw⟩ := he
    obtain ⟨φ, act, W, T⟩ := TX m (by omega)
    have hoo : operOk G N o = true := by
      rw [List.all_eq_true] at hok
      exact hok _ (by have := Array.mem_of_getElem? ho; simpa using this)
    obtain ⟨a1, s1, hv1, ha1, hn1, hl1, _⟩ := R.acts ho hc hw
    have hsub : Look.sub ((without s0.next (X m).s (asideAt ops X m)).look E) ((X m).s.look E) := fun b ob hb => by
      rw [without_look] at hb
      split at hb
      · cases hb
      · exact hb
    have iw : Inv P φ ((without s0.next (X m).s (asideAt ops X m)).look E) (without s0.next (X m).s (asideAt ops X m)).next W := ⟨T.sim.sub hsub, fun b hb => T.fresh b (by rw [without_next] at hb; exact hb), T.globs⟩
    obtain ⟨act', W', hA⟩ := exists_of_upon (hF.mono T.le).room (oper_ok FO F hoo (hG.mono T.le) T.act iw (hF.mono T.le) (by rw [hv1]; simp) (K := fun act' W' => ToA P E N φ _ W _ act' W') (Q := fun _ _ _ => False) fun _ _ h => h).2
    obtain ⟨a2, s2, φ', hm2, hr2, t⟩ := hA
    rw [hv1] at hm2
    simp only [Res.list, List.mem_singleton, Prod.mk.injEq] at hm2
    obtain ⟨rfl, rfl⟩ := hm2
    have := t.2.next
    rw [without_next] at this
    rw [hn1]; exact this
  · exact Nat.le_of_eq (R.calm hm he).1.symm
include FO F R hok hG TX hF in
theorem next_le {m : Nat} : ∀ {m' : Nat}, m ≤ m' → m' ≤ ops.size → (X m).s.next ≤ (X m').s.next := by
  intro m' h1 h2
  induction m' with
  | zero => rw [show m = 0 by omega]; exact Nat.le_refl _
  | succ k ih =>
    by_cases e : m = k + 1
    · rw [e]; exact Nat.le_refl _
    · exact Nat.le_trans (ih (by omega) (by omega)) (next_step FO F R hok hG TX hF (by omega))

theorem not_defer_of {op : Op} (h : clsOf op ≠ .other) : ∀ cc, op ≠ .defer cc := fun cc e => h (by rw [e]; rfl)

omit TX in
omit TX in
omit TX in
omit TX in
omit TX in
omit TX in
omit TX in
omit TX in
include R hord in
/-- What an operation looks at is, when it comes up, as it was in the row. -/
theorem looks_here {φ : Phi} {W : World} (D : Listed P ops E X s0 N φ0 W0 L c φ aL act W) {i : Nat} {o : Oper} (ho : ops[i]? = some o) (hLi : L i = false) (hbef : ∀ j, ((Region.before ops).getD i 0).testBit j = true → L j = true) : ∀ t ∈ tmpsOf ops o, val aL t = val (X i).a t := fun t ht => by
  have hi : i < ops.size := (Array.getElem?_eq_some_iff.1 ho).1
  by_cases hw : ∃ (j : Nat) (p : Oper), ops[j]? = some p ∧ p.dst = some t
  · obtain ⟨j, p, hp, hd⟩ := hw
    have hj : j < ops.size := (Array.getElem?_eq_some_iff.1 hp).1
    rcases hord.named i j o p t ho hp hd ht with ⟨h1, h2⟩ | ⟨h1, h2, _⟩
    · rw [D.vals t fun k q hq hqd => by rw [hord.once k j q p t hq hp hqd hd]; exact hbef j h2, R.keeps hord hp hd (m := ops.size) (by omega) (Nat.le_refl _), R.keeps hord hp hd (m := i) (by omega) (by omega)]
    · have hLj : L j = false := by
        cases hq : L j with
        | false => rfl
        | true => have := D.closed j i hq h2; rw [hLi] at this; cases this
      rw [D.vals0 t fun k q hq hqd => by rw [hord.once k j q p t hq hp hqd hd]; exact hLj]
      exact (R.same (m := 0) (t := t) (Nat.zero_le _) (by omega) fun k q _ hk hq hqd => by
        have := hord.once k j q p t hq hp hqd hd; omega).symm
  · have hno : ∀ (k : Nat) (q : Oper), ops[k]? = some q → q.dst ≠ some t := fun k q hq hqd => hw ⟨k, q, hq, hqd⟩
    rw [D.vals t fun k q hq hqd => absurd hqd (hno k q hq)]
    exact R.same (m := i) (by omega) (Nat.le_refl _) fun k q _ _ hq => hno k q hq

/-- An operation that does not act, where it comes to something. -/
theorem calm_goes (F : Fit P) {φ : Phi} {W : World} (D : Listed P ops E X s0 N φ0 W0 L c φ aL act W) {o : Oper} (hoo : operOk G N o = true) (hG : Globs φ G) (hF : RRnd φ rnd Fc) {K : Act → World → Prop} {Q : Exit → Act → World → Prop} {v : Value} {nx : Nat} {u : Ups} {fr : Bool} (hnx : φ nx = none)
    (hop : opA P (lookL ops.size s0.next E X L c) nx (evalO aL.tmps) o.op = some (v, u, fr)) (hnd : ∀ cc, o.op ≠ .defer cc)
    (hK : ∀ φ' v' W', RV φ' v v' → Sim φ' ((lookL ops.size s0.next E X L c).up u) W' → Grew φ (lookL ops.size s0.next E X L c) W nx φ' ((lookL ops.size s0.next E X L c).up u) W' (nx + if fr then 1 else 0) → K (act.put o.dst v') W') :
    o.wpIn Fc 0 P act W K Q := by
  simp only [operOk, Bool.and_eq_true, List.all_eq_true] at hoo
  obtain ⟨⟨hops, hdst⟩, hyield⟩ := hoo
  have hρ : ∀ x ∈ o.op.operands, RV φ (evalO aL.tmps x) (act.eval x) := fun x hx => eval_rel D.act hG (hops x (by simpa using hx))
  refine ⟨fun f _ => hF.fn f, ?_⟩
  rw [semAt_eq hF hnd]
  exact Does.upon hF (goes_op F D.sim hnx hρ hyield hop).does fun v' W' ⟨φ', rv, sm, gr⟩ => hK _ _ _ rv sm gr

include FO F R hord hok hG TX hF in
theorem step_ok {φ : Phi} {W : World} (D : Listed P ops E X s0 N φ0 W0 L c φ aL act W) {i : Nat} {o : Oper} (ho : ops[i]? = some o) (hLi : L i = false) (hbef : ∀ j, ((Region.before ops).getD i 0).testBit j = true → L j = true)
    {K : Act → World → Prop} {Q : Exit → Act → World → Prop} (hK : ∀ c' φ' aL' act' W', Listed P ops E X s0 N φ0 W0 (with_ L i) c' φ' aL' act' W' → K act' W') : wpOpIn Fc 0 P ops Q i K act W := by
  have hi : i < ops.size := (Array.getElem?_eq_some_iff.1 ho).1
  have hoo : operOk G N o = true := by
    rw [List.all_eq_true] at hok
    exact hok _ (by have := Array.mem_of_getElem? ho; simpa using this)
  have hdst : ∀ d, o.dst = some d → d < N := fun d hd => by
    simp only [operOk, Bool.and_eq_true] at hoo
    have := hoo.1.2
    rw [hd] at this; exact Nat.le_of_ble_eq_true this
  have hle := D.grew.le
  have hGφ := hG.mono hle
  have hFφ := hF.mono hle
  have hlk := looks_here R hord D ho hLi hbef
  have hwant := R.wanted hlk
  obtain ⟨_, _, _, Tn⟩ := TX ops.size (Nat.le_refl _)
  have hsz := Tn.next
  have hev := R.eval hlk
  unfold wpOpIn
  simp only [ho]
  rw [wanted_eq D.act.tmps, ← hwant]
  -- what makes no object of its own
  have quiet : ¬ Eff ops X i → ¬ Makes ops X i → clsOf o.op ≠ .other → ∀ {v : Value} {nx : Nat}, φ nx = none → opA P (lookL ops.size s0.next E X L c) nx (evalO aL.tmps) o.op = some (v, [], false) → (X (i + 1)).a = (X i).a.put o.dst v → o.wpIn Fc 0 P act W K Q := fun hne hnm hno v nx hnx hop hv => by
    refine calm_goes F D hoo hGφ hFφ hnx hop (not_defer_of hno) fun φ' v' W' rv sm gr => ?_
    have gr : Grew φ (lookL ops.size s0.next E X L c) W nx φ' (lookL ops.size s0.next E X L c) W' nx := gr
    have hk := keep_none gr
    have hl := lookL_calm (E := E) (c := c) TX hi hLi hnm D.le
    refine hK c φ' _ _ W' (step_calm R hord TX D ho hne hbef hv hdst rv (by rw [hl]; exact sm) (by rw [hl]; exact grew_same gr hk (by omega)) fun b hb hb' => absurd (hk b hb) hb')
  cases hw : wantedA o ops (X i).a.tmps with
  | false =>
    rw [if_neg (by simp)]
    refine ⟨fun f _ => hFφ.fn f, ?_⟩
    have hne : ¬ Eff ops X i := fun ⟨o', ho', _, hw'⟩ => by rw [ho] at ho'; cases ho'; rw [hw] at hw'; cases hw'
    have hnm : ¬ Makes ops X i := fun ⟨o', ho', _, hw'⟩ => by rw [ho] at ho'; cases ho'; rw [hw] at hw'; cases hw'
    have hv : (X (i + 1)).a = (X i).a.put o.dst undef := by
      cases R.did i o ho with
      | skip _ e => rw [e]
      | pure h => rw [hw] at h; cases h
      | alloc h => rw [hw] at h; cases h
      | read h => rw [hw] at h; cases h
      | effect h => rw [hw] at h; cases h
    have hl := lookL_calm (E := E) (c := c) TX hi hLi hnm D.le
    exact hK c φ _ _ W (step_calm R hord TX D ho hne hbef hv hdst .undef' (by rw [hl]; exact D.sim) (by rw [hl]; exact (Grew.refl φ _ W s0.next).widen (Nat.le_refl _) (by omega)) fun b hb hb' => absurd hb hb')
  | true =>
    rw [if_pos rfl]
    have hfresh : φ (X c).s.next = none := D.fresh _ (Nat.le_refl _)
    cases hc : clsOf o.op with
    | other =>
      cases R.did i o ho with
      | skip h => rw [hw] at h; cases h
      | pure _ h => rw [hc] at h; cases h
      | alloc _ h => rw [hc] at h; cases h
      | read _ h => rw [hc] at h; cases h
      | effect _ h => rw [hc] at h; cases h
    | pure =>
      have hne : ¬ Eff ops X i := fun ⟨o', ho', hc', _⟩ => by rw [ho] at ho'; cases ho'; rw [hc] at hc'; cases hc'
      have hnm : ¬ Makes ops X i := fun ⟨o', ho', hc', _⟩ => by rw [ho] at ho'; cases ho'; rw [hc] at hc'; cases hc'
      cases R.did i o ho with
      | skip h => rw [hw] at h; cases h
      | alloc _ h => rw [hc] at h; cases h
      | read _ h => rw [hc] at h; cases h
      | effect _ h => rw [hc] at h; cases h
      | pure _ _ v hv e =>
        refine quiet hne hnm (by rw [hc]; simp) hfresh ?_ (by rw [e])
        rw [← opA_congr hev, ← hv]
        exact pure_any hc
    | read =>
      have hne : ¬ Eff ops X i := fun ⟨o', ho', hc', _⟩ => by rw [ho] at ho'; cases ho'; rw [hc] at hc'; cases hc'
      have hnm : ¬ Makes ops X i := fun ⟨o', ho', hc', _⟩ => by rw [ho] at ho'; cases ho'; rw [hc] at hc'; cases hc'
      obtain ⟨k, nx, m, v, h1, h2, h3, h4, h5⟩ := read_here R hord TX D ho hc hw hLi hbef
      refine quiet hne hnm (by rw [hc]; simp) hfresh ?_ h4
      rw [opA_congr (R.evalLate hord ho (by rw [hc]; simp) hlk h1 h2)] at h3
      refine read_mono hc h5 (fun x hx => ?_) h3
      have hoo' := hoo
      simp only [operOk, Bool.and_eq_true, List.all_eq_true] at hoo'
      exact ⟨_, eval_rel D.act hGφ (hoo'.1.1 x (by simpa using hx))⟩
    | alloc =>
      have hne : ¬ Eff ops X i := fun ⟨o', ho', hc', _⟩ => by rw [ho] at ho'; cases ho'; rw [hc] at hc'; cases hc'
      cases R.did i o ho with
      | skip h => rw [hw] at h; cases h
      | pure _ h => rw [hc] at h; cases h
      | read _ h => rw [hc] at h; cases h
      | effect _ h => rw [hc] at h; cases h
      | alloc _ _ v ob hv e =>
        have hop : opA P (lookL ops.size s0.next E X L c) (s0.next + i) (evalO aL.tmps) o.op = some (v, [(s0.next + i, some ob)], true) := by
          rw [← opA_congr hev, ← hv]
          exact alloc_any hc
        refine calm_goes F D hoo hGφ hFφ (D.news i hi (.inl hLi)) hop (not_defer_of (by rw [hc]; simp)) fun φ' v' W' rv sm gr => ?_
        have gr : Grew φ (lookL ops.size s0.next E X L c) W (s0.next + i) φ' ((lookL ops.size s0.next E X L c).up [(s0.next + i, some ob)]) W' (s0.next + i + 1) := gr
        have h1 : (X (i + 1)).s.look E (s0.next + i) = some ob := by rw [e, look_set, if_pos rfl]
        have h2 : (X (Nat.max c (i + 1))).s.look E (s0.next + i) = some ob := by
          rw [← h1]
          refine R.kept rfl ho hc hw (Nat.le_max_right _ _) (Nat.max_le.2 ⟨D.le, hi⟩) fun k h3 h4 h5 => ?_
          have hkc : k < c := by
            rcases Nat.le_total c (i + 1) with hh | hh
            · rw [show Nat.max c (i + 1) = i + 1 from Nat.max_eq_right hh] at h4; omega
            · rw [show Nat.max c (i + 1) = c from Nat.max_eq_left hh] at h4; exact h4
          have hLk := D.before k hkc h5
          cases hq : ((Region.before ops).getD k 0).testBit i with
          | false => rfl
          | true => have := D.closed k i hLk hq; rw [hLi] at this; cases this
        have hl := lookL_make (L := L) hi h2
        refine hK c φ' _ _ W' (step_calm R hord TX D ho hne hbef (by rw [e]) hdst rv (by rw [hl]; exact sm) (by rw [hl]; exact gr.widen (by omega) (by omega)) fun b hb hb' => ?_)
        have := gr.dom b hb hb'
        exact ⟨by omega, o, ho, hc, hw⟩
    | effect =>
      have hE : Eff ops X i := ⟨o, ho, hc, hw⟩
      have hic : i = c := by
        rcases Nat.lt_trichotomy i c with h | h | h
        · have := D.before i h hE; rw [hLi] at this; cases this
        · exact h
        · have hcE := D.at_ (by omega)
          obtain ⟨oc, hoc, hcc, hwc⟩ := hcE
          have := hbef c (hord.effs i c o oc ho hoc hc hcc h)
          rw [D.after c (Nat.le_refl _) ⟨oc, hoc, hcc, hwc⟩] at this; cases this
      subst hic
      obtain ⟨a1, s1, hv1, ha1, hn1, hl1, _⟩ := R.acts ho hc hw
      obtain ⟨v, hav, hvL⟩ := oper_congr hc hv1 hev
      subst hav
      obtain ⟨_, _, _, Ti⟩ := TX i (by omega)
      have hsub := lookL_sub R TX hi hbef
      have iw : Inv P φ ((without s0.next (X i).s (asideAt ops X i)).look E) (without s0.next (X i).s (asideAt ops X i)).next W := ⟨D.sim.sub hsub, fun b hb => D.fresh b (by rw [without_next] at hb; exact hb), D.globs⟩
      refine oper_ok FO F hoo hGφ D.act iw hFφ (by rw [hvL]; simp) fun act' W' hA => ?_
      obtain ⟨a2, s2, φ', hm2, hr2, t⟩ := hA
      rw [hvL] at hm2
      simp only [Res.list, List.mem_singleton, Prod.mk.injEq] at hm2
      obtain ⟨rfl, rfl⟩ := hm2
      obtain ⟨c', h1, h2, h3, h4⟩ := next_eff (ops := ops) X ops.size rfl (ops.size - (i + 1)) (i + 1) (by omega)
      obtain ⟨sm, gr⟩ := D.sim.extend hsub t.1.sim t.2 (K' := lookL ops.size s0.next E X (with_ L i) c') (lookL_effect R TX hi ho hc hl1 h1 h2 h3)
      rw [without_next] at gr
      have hgn := gr.next
      have hTn := Ti.next
      have hnc : (X c').s.next = s2.next := by rw [R.stillNext h1 h2 h3, hn1]
      have hne2 := next_le FO F R hok hG TX hF h2 (Nat.le_refl _)
      refine hK c' φ' _ act' W' ⟨h2, lt_step D hi, fun m h5 h6 => ?_, fun m h5 h6 => ?_, fun h => h4 h, closed_step D hbef, sm, fun b hb => ?_, fun j hj hn => ?_, hr2, by rw [put_defers]; exact D.defers, vals_step R hord D ho ha1, vals0_step D ho _, D.globs.mono gr.le, D.grew.comp (gr.widen (by omega) (by omega))⟩
      · by_cases e : m = i
        · rw [e]; exact with_self L i
        · rcases Nat.lt_or_ge m i with h | h
          · exact with_of (D.before m h h6)
          · exact absurd h6 (h3 m (by omega) h5)
      · rw [with_ne (by omega)]
        exact D.after m (by omega) h6
      · exact t.1.fresh b (by rw [← hnc]; exact hb)
      · cases hq : φ' (s0.next + j) with
        | none => rfl
        | some x =>
          exfalso
          have hL : L j = false ∨ ¬ Makes ops X j := hn.imp_left fun h => by
            by_cases e : j = i
            · rw [e, with_self] at h; cases h
            · rwa [with_ne e] at h
          have := gr.dom _ (D.news j hj hL) (by rw [hq]; simp)
          omega
end
end Go.Ab
/- Drawn regions, thirteenth part: whatever the order, the region comes to what it comes to in the text's row. -/
namespace Go.Ab
open Go
variable {P : Program} [Idx P]

/-- Which have been done. -/
def onL (listed : Array Bool) : Nat → Bool := fun i => listed.getD i false
theorem onL_set {listed : Array Bool} {i : Nat} (hi : i < listed.size) : onL (listed.setIfInBounds i true) = with_ (onL listed) i := by
  funext j
  unfold onL with_
  rw [Array.getD_eq_getD_getElem?, Array.getElem?_setIfInBounds]
  by_cases e : i = j
  · subst e; simp [hi]
  · rw [if_neg e, if_neg (Ne.symm e), ← Array.getD_eq_getD_getElem?]

/-- How many are still to come. -/
def left (listed : Array Bool) : Nat := listed.toList.count false
theorem left_set {listed : Array Bool} {i : Nat} (hi : i < listed.size) (h : listed[i] = false) : left listed = left (listed.setIfInBounds i true) + 1 := by
  unfold left
  rw [Array.toList_setIfInBounds, List.count_set (by simpa using hi)]
  have h' : listed.toList[i]'(by simpa using hi) = false := by simpa using h
  have : 0 < listed.toList.count false := List.count_pos_iff.2 (by rw [← h']; exact List.getElem_mem _)
  have e1 : (listed.toList[i]'(by simpa using hi) == false) = true := by rw [h']; rfl
  have e2 : (true == false) = false := rfl
  rw [if_pos e1, e2, if_neg (by simp)]
  omega
theorem left_zero {listed : Array Bool} (h : left listed = 0) : ∀ i, i < listed.size → onL listed i = true := fun i hi => by
  unfold left at h
  rw [List.count_eq_zero] at h
  unfold onL
  rw [Array.getD_eq_getD_getElem?, Array.getElem?_eq_getElem hi]
  cases hq : listed[i] with
  | true => rfl
  | false => exact absurd (by rw [← hq]; simp) h

theorem ready_all {ops : Array Oper} (hord : Ordered ops) {listed : Array Bool} (hs : listed.size = ops.size) (h : Region.ready .any ops listed = []) : ∀ i, i < ops.size → onL listed i = true := by
  intro i
  induction i using Nat.strongRecOn with
  | _ i ih =>
    intro hi
    cases hq : onL listed i with
    | true => rfl
    | false =>
      exfalso
      have : i ∈ Region.ready .any ops listed := by
        rw [mem_ready]
        refine ⟨?_, ops[i], Array.getElem?_eq_getElem hi, fun e he hb => ?_⟩
        · unfold onL at hq
          rw [Array.getD_eq_getD_getElem?, Array.getElem?_eq_getElem (by omega)] at hq ⊢
          exact hq
        · have := hord.back i _ (Array.getElem?_eq_getElem hi) e he hb
          exact ih e.on this (by omega)
      rw [h] at this; cases this

section
variable {r : Fns} (FO : FnsOk P r) (F : Fit P) {ops : Array Oper} {rnd : Option Nat} {E : Env} {X : Nat → DS} {s0 : St} {a0 : A} {N G : Nat} {φ0 : Phi} {act0 : Act} {W0 : World} {Fc : Fence}
  (R : Run P r ops s0.next rnd E ⟨⟨[], [], []⟩, a0, { s0 with next := s0.next + ops.size }⟩ X) (hord : Ordered ops) (hok : ops.toList.all (operOk G N) = true) (hG : Globs φ0 G) (TX : ∀ m, m ≤ ops.size → ∃ φ act W, Text P ops E X s0 N φ0 m φ act W) (hF : RRnd φ0 rnd Fc)

/-- All have been done. -/
theorem listed_end {L : Nat → Bool} {c : Nat} {aL : A} {act : Act} {φ : Phi} {W : World} (D : Listed P ops E X s0 N φ0 W0 L c φ aL act W) (hL : ∀ i, i < ops.size → L i = true) :
    RAct φ N (X ops.size).a act ∧ To P φ0 (s0.look E) s0.next W0 φ ((X ops.size).s.look E) (X ops.size).s.next W := by
  have hc : c = ops.size := by
    rcases Nat.lt_or_ge c ops.size with h | h
    · have := D.after c (Nat.le_refl _) (D.at_ h); rw [hL c h] at this; cases this
    · have := D.le; omega
  subst hc
  have hl : lookL ops.size s0.next E X L ops.size = (X ops.size).s.look E := by
    funext b
    unfold lookL
    split
    · rename_i hb
      rw [hL _ (by omega), if_pos rfl, show Nat.max ops.size (b - s0.next + 1) = ops.size from Nat.max_eq_left (by omega)]
    · rfl
  have hv : ∀ t, val aL t = val (X ops.size).a t := fun t => D.vals t fun j o ho _ => hL j (Array.getElem?_eq_some_iff.1 ho).1
  refine ⟨⟨D.act.size, fun t => ?_, by rw [← D.defers]; exact D.act.defers⟩, ⟨by rw [← hl]; exact D.sim, D.fresh, D.globs⟩, by rw [← hl]; exact D.grew⟩
  have := D.act.tmps t
  show RV φ (val (X ops.size).a t) _
  rw [← hv t]; exact this

include FO F R hord hok hG TX hF in
theorem any_ok {Q : Exit → Act → World → Prop} (hQ : ∀ φ act W, RAct φ N (X ops.size).a act → To P φ0 (s0.look E) s0.next W0 φ ((X ops.size).s.look E) (X ops.size).s.next W → Q .normal act W) :
    ∀ (fuel : Nat) (listed : Array Bool) (c : Nat) (φ : Phi) (aL : A) (act : Act) (W : World), listed.size = ops.size → left listed = fuel → Listed P ops E X s0 N φ0 W0 (onL listed) c φ aL act W → wpAnyIn Fc 0 P .any ops Q fuel listed act W := by
  intro fuel
  induction fuel with
  | zero =>
    intro listed c φ aL act W hs hl D
    have hall := left_zero hl
    obtain ⟨h1, h2⟩ := listed_end D fun i hi => hall i (by omega)
    refine ⟨?_, hQ φ act W h1 h2⟩
    apply List.eq_nil_iff_forall_not_mem.2
    intro i hi
    rw [mem_ready] at hi
    obtain ⟨h3, o, ho, _⟩ := hi
    have hi : i < ops.size := (Array.getElem?_eq_some_iff.1 ho).1
    have := hall i (by omega)
    unfold onL at this
    rw [Array.getD_eq_getD_getElem?, Array.getElem?_eq_getElem (by omega)] at this h3
    simp only [Option.getD_some] at this h3
    rw [this] at h3; cases h3
  | succ fuel ih =>
    intro listed c φ aL act W hs hl D
    refine ⟨fun h => ?_, fun i hi => ?_⟩
    · obtain ⟨h1, h2⟩ := listed_end D (ready_all hord hs h)
      exact hQ φ act W h1 h2
    · rw [mem_ready] at hi
      obtain ⟨h3, o, ho, h4⟩ := hi
      have hi : i < ops.size := (Array.getElem?_eq_some_iff.1 ho).1
      have hLi : onL listed i = false := by
        unfold onL
        rw [Array.getD_eq_getD_getElem?, Array.getElem?_eq_getElem (by omega)] at h3 ⊢
        exact h3
      refine step_ok FO F R hord hok hG TX hF D ho hLi (fun j hj => ?_) fun c' φ' aL' act' W' D' => ?_
      · obtain ⟨o', ho', e, he, hb, hlt, hx⟩ := bef_lt hord hj
        rw [ho] at ho'; cases ho'
        have hLe := h4 e he hb
        rcases hx with rfl | hx
        · exact hLe
        · exact D.closed e.on j hLe hx
      · refine ih (listed.setIfInBounds i true) c' φ' aL' act' W' (by simpa using hs) ?_ (by rw [onL_set (by omega)]; exact D')
        have := left_set (listed := listed) (i := i) (by omega) (by
          rw [Array.getD_eq_getD_getElem?, Array.getElem?_eq_getElem (by omega)] at h3
          exact h3)
        omega
end

theorem drawn_ok (F : Fit P) (hm : P.follows .mixedOrders = true) : DrawnOk P := fun r FO id ops rnd a E s N G φ act W Fc hok hG hr i hF h => by
  simp only [codeOk, Bool.and_eq_true, Bool.not_true, Bool.false_or] at hok
  obtain ⟨hok, hord⟩ := hok
  have hord := ordered_of hord
  have heq : regionA P r ops true rnd a E s = (drawnL P r ops (Region.before ops) s.next rnd E ops.toList 0 ⟨⟨[], [], []⟩, a, { s with next := s.next + ops.size }⟩).bind fun a s => .ok (.normal, a) s := rfl
  obtain ⟨X, R, hX⟩ := run_of P r ops s.next rnd E (x := ⟨⟨[], [], []⟩, a, { s with next := s.next + ops.size }⟩) fun hb => h (by rw [heq, hb]; rfl)
  have heq2 : regionA P r ops true rnd a E s = .ok (.normal, (X ops.size).a) (X ops.size).s := by rw [heq, hX]; rfl
  have TX := text_ok FO F R hok hG hr i hF
  refine wpIn_region_any hm ?_
  obtain ⟨c, h1, h2, h3, h4⟩ := next_eff (ops := ops) X ops.size rfl ops.size 0 (by omega)
  have i' : Inv P φ (s.look E) s.next W.drew := ⟨i.sim.drew, i.fresh, i.globs⟩
  have hon : onL (Array.replicate ops.size false) = fun _ => false := by
    funext j
    unfold onL
    rw [Array.getD_eq_getD_getElem?, Array.getElem?_replicate]
    split <;> rfl
  have hst : (X 0).s = { s with next := s.next + ops.size } := by rw [R.start]
  have hno : ∀ b, s.next ≤ b → s.look E b = none := fun b hb => by
    cases hq : s.look E b with
    | none => rfl
    | some ob =>
      obtain ⟨B, o, hφ, _⟩ := i.sim.obj _ _ hq
      rw [i.fresh b hb] at hφ; cases hφ
  have hlook : lookL ops.size s.next E X (fun _ => false) c = s.look E := by
    funext b
    unfold lookL
    split
    · rename_i hb
      simp only [Bool.false_eq_true, if_false]
      exact (hno b hb.1).symm
    · rename_i hb
      rw [R.still (b := b) h1 h2 fun j h5 h6 => ⟨h3 j h5 h6, fun e => hb ⟨by omega, by omega⟩⟩, hst]
      rfl
  have hnx : (X c).s.next = s.next + ops.size := by rw [R.stillNext h1 h2 h3, hst]
  have hle := next_le FO F R hok hG TX hF h2 (Nat.le_refl _)
  have hdef : ∀ m, m ≤ ops.size → (X m).a.defers = a.defers := by
    intro m
    induction m with
    | zero => intro _; rw [R.start]
    | succ k ih =>
      intro hk
      obtain ⟨v, hv⟩ := (R.did k _ (Array.getElem?_eq_getElem (show k < ops.size by omega))).put
      rw [hv, put_defers]; exact ih (by omega)
  have g0 : Grew φ (s.look E) W s.next φ (s.look E) W.drew s.next := (Grew.refl φ (s.look E) W s.next).drew
  refine any_ok FO F R hord hok hG TX hF (Q := ToC P E N φ s W (regionA P r ops true rnd a E s)) (W0 := W) (fun φ' act' W' h5 h6 => ?_) ops.size (Array.replicate ops.size false) c φ a act _ (by simp) (by simp [left]) ?_
  · rw [heq2]
    exact ⟨.normal, _, _, φ', List.mem_singleton.2 rfl, rfl, h5, h6⟩
  · rw [hon]
    refine ⟨h2, fun _ hh => (by cases hh), fun m hm he => absurd he (h3 m (Nat.zero_le _) hm), fun _ _ _ => rfl, h4, fun _ _ hh => (by cases hh), ?_, fun b hb => i.fresh b (by omega), fun j hj _ => i.fresh _ (by omega), hr, (hdef _ (Nat.le_refl _)).symm, fun t ht => ?_, fun _ _ => by rw [R.start], i.globs, ?_⟩
    · rw [hlook]; exact i'.sim
    · rw [R.same (m := 0) (t := t) (Nat.zero_le _) (Nat.le_refl _) fun j o _ _ ho hd => Bool.noConfusion (ht j o ho hd), R.start]
    · rw [hlook]
      exact g0.widen (Nat.le_refl _) (by omega)
end Go.Ab
