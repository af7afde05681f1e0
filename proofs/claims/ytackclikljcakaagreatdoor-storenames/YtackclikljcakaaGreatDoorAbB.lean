/- The abstract evaluator against the model: further operations. For every program and every world; no condition. -/
import Derived.MapKept
import Derived.Laws.Append
import Derived.Laws.MakeOwn
import Derived.Test.YtackclikljcakaaGreatDoorAbA
/- Each operation that calls nothing: the model does what is told of it. Part 3: numbers, comparisons, conversions, slices, fields. -/
namespace Go.Ab
open Go
variable {P : Program} [Idx P] {φ : Phi} {h : Look} {W : World}

omit [Idx P] in
theorem eqGuard_other {op : BinOp} {t : TypeId} {x y : Operand} {a b : Value} (hi : ¬ (a = .nilIface ∧ b = .nilIface)) (ha : ¬ ∃ u v, a = .agg u ∧ b = .agg v) : (eqGuard op t x y a b).run P W = .ok () W := by
  unfold eqGuard
  cases op <;> first
    | rfl
    | (cases a <;> cases b <;> first | rfl | exact absurd ⟨rfl, rfl⟩ hi | exact absurd ⟨_, _, rfl, rfl⟩ ha)

omit [Idx P] in
theorem eqGuard_fits {op : BinOp} {t : TypeId} {x y : Operand} {a b : Value} (hf : eqFits P x y a b t = true) : (eqGuard op t x y a b).run P W = .ok () W := by
  by_cases hi : a = .nilIface ∧ b = .nilIface
  · obtain ⟨rfl, rfl⟩ := hi
    unfold eqGuard
    cases op <;> first | rfl | (cases x <;> cases y <;> first | rfl | (simp [eqFits] at hf))
  · by_cases ha : ∃ u v, a = .agg u ∧ b = .agg v
    · obtain ⟨u, v, rfl, rfl⟩ := ha
      have : P.eqGuardType P.depth t = false := by simpa [eqFits] using hf
      unfold eqGuard
      cases op <;> first | rfl | (simp [Sem.run_bind, this])
    · exact eqGuard_other hi ha

omit [Idx P] in
/-- Values that may be held against each other by Op.equal: not two numbers, nor two texts. -/
theorem binOp_eql {t : TypeId} {x y : Value} {b : Bool} (hn : ∀ j m k n, ¬ (x = .int j m ∧ y = .int k n)) (hst : ∀ s u, ¬ (x = .string s ∧ y = .string u)) (hfl : ∀ j m k n, ¬ (x = .float j m ∧ y = .float k n))
    (hcx : ∀ j m m' k n n', ¬ (x = .complex j m m' ∧ y = .complex k n n')) (he : (Op.equal t x y).run P W = .ok b W) :
    (binOp .eql t x y).run P W = .ok (.bool b) W ∧ (binOp .neq t x y).run P W = .ok (.bool !b) W := by
  have key : binOp .eql t x y = (do pure (.bool (← Op.equal t x y))) ∧ binOp .neq t x y = (do pure (.bool (!(← Op.equal t x y)))) := by
    cases x <;> cases y <;> first
      | exact ⟨rfl, rfl⟩
      | exact absurd ⟨rfl, rfl⟩ (hn _ _ _ _)
      | exact absurd ⟨rfl, rfl⟩ (hst _ _)
      | exact absurd ⟨rfl, rfl⟩ (hfl _ _ _ _)
      | exact absurd ⟨rfl, rfl⟩ (hcx _ _ _ _ _ _)
  rw [key.1, key.2]
  simp [he]

theorem equal_of {t : TypeId} {x y x' y' : Value} {b : Bool} (hx : RV φ x x') (hy : RV φ y y') (e : eqA P t x y = some b) : (Op.equal t x' y').run P W = .ok b W := by
  unfold eqA at e
  split at e
  case h_13 =>
    split at e
    · rename_i hp
      simp only [Bool.and_eq_true] at hp
      obtain rfl := RV.of_plain 3 hp.1 hx
      obtain rfl := RV.of_plain 3 hp.2 hy
      exact pureRun_run e W
    · cases e
  all_goals
    rename_i hu
    cases e
    cases hx <;> cases hy <;> first
      | (unfold Op.equal; rw [show Op.maxDepth = 9999 + 1 from rfl]; unfold Op.equalIn; simp [Sem.run_bind, run_und hu]; done)
      | (exfalso; simp_all; done)

section ops
variable {n : Nat} (hs : Sim φ h W) {ρ ρ' : Operand → Value} {o : Oper}
include hs

theorem goes_bin {op : BinOp} {t u : TypeId} {x y : Operand} {v : Value} (hx : RV φ (ρ x) (ρ' x)) (hy : RV φ (ρ y) (ρ' y)) (ho : o.op = .binOp op t x y u) (e : binA P op t x y (ρ x) (ρ y) = some v) :
    Goes φ h W n ((execOp ρ' o).run P W) v (h.up []) n := by
  have key : ∃ v', (do eqGuard op t x y (ρ' x) (ρ' y); binOp op t (ρ' x) (ρ' y) : Sem Value).run P W = .ok v' W ∧ RV φ v v' := by
    generalize ρ x = a at hx e
    generalize ρ' x = a' at hx
    generalize ρ y = b at hy e
    generalize ρ' y = b' at hy
    have pure2 : ∀ v, pureRun P (binOp op t a b) = some v → a' = a → b' = b → free v = true → (∀ u w, ¬ (a = .agg u ∧ b = .agg w)) → ¬ (a = .nilIface ∧ b = .nilIface) →
        ∃ v', (do eqGuard op t x y a' b'; binOp op t a' b' : Sem Value).run P W = .ok v' W ∧ RV φ v v' := by
      intro v hv ha hb hf hag hni
      subst ha hb
      refine ⟨v, ?_, RV.of_free hf⟩
      simp only [Sem.run_bind, eqGuard_other (P := P) (W := W) (op := op) (t := t) (x := x) (y := y) hni (fun ⟨u, w, h1, h2⟩ => hag u w ⟨h1, h2⟩), Result.andThen_ok]
      exact pureRun_run hv W
    have eqs : ∀ r, eqFits P x y a b t = true → eqA P t a b = some r → (∀ j m k n, ¬ (a = .int j m ∧ b = .int k n)) → (∀ s u, ¬ (a = .string s ∧ b = .string u)) → (∀ j m k n, ¬ (a = .float j m ∧ b = .float k n)) →
        (∀ j m m' k n n', ¬ (a = .complex j m m' ∧ b = .complex k n n')) →
        ((do eqGuard op t x y a' b'; binOp .eql t a' b' : Sem Value).run P W = .ok (.bool r) W) ∧ ((do eqGuard op t x y a' b'; binOp .neq t a' b' : Sem Value).run P W = .ok (.bool !r) W) := by
      intro r hfit heq h1 h2 h3 h4
      have hf' : eqFits P x y a' b' t = true := by
        cases hx <;> cases hy <;> exact hfit
      have hb := binOp_eql (P := P) (W := W) (t := t) (x := a') (y := b') (b := r)
        (fun j m k n ⟨e1, e2⟩ => by subst e1 e2; cases hx; cases hy; exact h1 _ _ _ _ ⟨rfl, rfl⟩)
        (fun s u ⟨e1, e2⟩ => by subst e1 e2; cases hx; cases hy; exact h2 _ _ ⟨rfl, rfl⟩)
        (fun j m k n ⟨e1, e2⟩ => by subst e1 e2; cases hx; cases hy; exact h3 _ _ _ _ ⟨rfl, rfl⟩)
        (fun j m m' k n n' ⟨e1, e2⟩ => by subst e1 e2; cases hx; cases hy; exact h4 _ _ _ _ _ _ ⟨rfl, rfl⟩)
        (equal_of hx hy heq)
      simp only [Sem.run_bind, eqGuard_fits (P := P) (W := W) (op := op) hf', Result.andThen_ok]
      exact hb
    unfold binA at e
    split at e
    · -- numbers
      have h1 := hx.int_inv
      have h2 := hy.int_inv
      refine pure2 v e h1 h2 ?_ (fun u w ⟨h, _⟩ => by cases h) (fun ⟨h, _⟩ => by cases h)
      rename_i j m k l
      by_cases hsh : op = .shl ∨ op = .shr
      · rcases hsh with rfl | rfl
        all_goals
          simp only [binOp, Op.shift] at e
          split at e
          · unfold runtimePanic at e; obtain ⟨_, _, e⟩ := pureRun_bind (s := program) e; cases e
          · cases e; rfl
      · have hb : binOp op t (.int j m) (.int k l) = (if j ≠ k then stuck "BinOp: operands of different kinds" else match op with
            | .add | .sub | .mul => Op.intArith op j m l
            | .quo | .rem => Op.intDiv op j m l
            | .and | .or | .xor | .andNot => Op.intBits op j m l
            | _ => Op.intCmp op m l) := by
          cases op <;> first | rfl | exact absurd (.inl rfl) hsh | exact absurd (.inr rfl) hsh
        rw [hb] at e
        split at e
        · cases e
        · cases op <;> first
            | exact absurd (.inl rfl) hsh
            | exact absurd (.inr rfl) hsh
            | (cases e; rfl)
            | (simp only [Op.intDiv] at e; split at e
               · (unfold runtimePanic at e; obtain ⟨_, _, e⟩ := pureRun_bind (s := program) e; cases e)
               · (cases e; rfl))
    · have h1 := hx.string_inv
      have h2 := hy.string_inv
      refine pure2 v e h1 h2 ?_ (fun u w ⟨h, _⟩ => by cases h) (fun ⟨h, _⟩ => by cases h)
      cases op <;> first
        | (cases e; rfl)
        | (exfalso; simp [binOp, Op.stringOp, stuck, pureRun] at e; done)
        | (simp only [binOp, Op.stringOp] at e; split at e
           · cases e
           · (cases e; rfl))
    · cases e
    · cases e
    · rename_i hni hns hnf hnc
      split at e
      · split at e
        · rename_i hfit
          simp only [Option.map_eq_some_iff] at e
          obtain ⟨r, hr, rfl⟩ := e
          exact ⟨_, (eqs r hfit hr (fun j m k n ⟨h1, h2⟩ => hni _ _ _ _ h1 h2) (fun s u ⟨h1, h2⟩ => hns _ _ h1 h2) (fun j m k n ⟨h1, h2⟩ => hnf _ _ _ _ h1 h2) (fun j m m' k n n' ⟨h1, h2⟩ => hnc _ _ _ _ _ _ h1 h2)).1, .bool _⟩
        · cases e
      · split at e
        · rename_i hfit
          simp only [Option.map_eq_some_iff] at e
          obtain ⟨r, hr, rfl⟩ := e
          exact ⟨_, (eqs r hfit hr (fun j m k n ⟨h1, h2⟩ => hni _ _ _ _ h1 h2) (fun s u ⟨h1, h2⟩ => hns _ _ h1 h2) (fun j m k n ⟨h1, h2⟩ => hnf _ _ _ _ h1 h2) (fun j m m' k n n' ⟨h1, h2⟩ => hnc _ _ _ _ _ _ h1 h2)).2, .bool _⟩
        · cases e
      · cases e
  obtain ⟨v', hrun, hr⟩ := key
  simpa [execOp, ho] using Goes.reads (n := n) hs hrun hr

omit [Idx P] in
theorem goes_un {op : UnOp} {t : TypeId} {x : Operand} {v : Value} (hx : RV φ (ρ x) (ρ' x)) (ho : o.op = .unOp op t x) (e : unA P op (ρ x) = some v) : Goes φ h W n ((execOp ρ' o).run P W) v (h.up []) n := by
  unfold unA at e
  split at e
  · rename_i hp
    have hv := RV.of_plain 0 hp hx
    have hf : free v = true := by
      generalize ρ x = a at e hp
      cases a <;> first
        | (simp [plain] at hp; done)
        | (cases op <;> first
            | (cases e; rfl)
            | (simp [Op.unary, stuck, pureRun] at e; done)
            | (simp only [Op.unary, Op.intArith, Op.intBits] at e; cases e; rfl))
    have hrun := pureRun_run e W
    rw [← hv] at hrun
    simpa [execOp, ho] using Goes.reads (n := n) hs hrun (RV.of_free hf)
  · cases e
end ops
end Go.Ab
/- Each operation that calls nothing: the model does what is told of it. Part 4: conversions, slices, fields, rows. -/
namespace Go.Ab
open Go
variable {P : Program} [Idx P] {φ : Phi} {h : Look} {W : World}

theorem partA_rel {t : TypeId} {cs cs' : Array Value} {off : Nat} {v : Value} (hc : RL φ cs.toList cs'.toList) (e : partA P t cs off = some v) : ∃ v', (part t cs' off).run P W = .ok v' W ∧ RV φ v v' := by
  unfold partA at e
  simp only [Option.bind_eq_bind, Option.bind_eq_some_iff] at e
  obtain ⟨b, hb, e⟩ := e
  unfold part
  cases b with
  | true =>
    simp only [if_true, Option.bind_eq_some_iff] at e
    obtain ⟨n, hn, e⟩ := e
    cases e
    refine ⟨.agg (cs'.extract off (off + n)), ?_, .agg ?_⟩
    · simp [Sem.run_bind, run_isAgg' hb, run_size hn]
    · simp only [Array.toList_extract, List.extract_eq_take_drop]
      exact RL.take _ (RL.drop _ hc)
  | false =>
    simp only [Bool.false_eq_true, if_false] at e
    obtain ⟨v', hv', hr⟩ := hc.get off v (by rw [nth_eq] at e; exact e)
    refine ⟨v', ?_, hr⟩
    have hv' : cs'[off]? = some v' := by simpa using hv'
    simp [Sem.run_bind, run_isAgg' hb, hv']

omit [Idx P] in
theorem run_bound {x x' : Value} {y n : Nat} {code : BoundsCode} (hx : RV φ x x') (e : boundA x y = some n) : (Instr.sliceBound x' y code).run P W = .ok n W ∧ n ≤ y := by
  unfold boundA at e
  split at e
  · split at e
    · rename_i k i hi; cases e
      rw [hx.int_inv]
      refine ⟨?_, by omega⟩
      simp [Instr.sliceBound, asIntOf, hi]
    · cases e
  · cases e
theorem bound_mono {x : Value} {y z n : Nat} (hyz : y ≤ z) (e : boundA x y = some n) : boundA x z = some n := by
  unfold boundA at *
  split at e
  · split at e
    · rename_i k i hi
      show (if 0 ≤ i ∧ i ≤ (z : Int) then some i.toNat else none) = some n
      rw [if_pos (by omega)]; exact e
    · cases e
  · cases e

inductive ROptV (φ : Phi) : Option Value → Option Value → Prop
  | none : ROptV φ none none
  | some {v v' : Value} (h : RV φ v v') : ROptV φ (some v) (some v')

theorem fits_size {n b : Nat} (e : fitsA n b = true) : n ≤ 2 ^ 40 ∧ b ≤ 2 ^ 20 ∧ n * b ≤ 2 ^ 40 := by
  unfold fitsA at e
  simp only [Bool.and_eq_true, Nat.ble_eq] at e
  exact ⟨e.1.1, e.1.2, e.2⟩

theorem zeros_length (l : List Value) : ∀ n, (zeros l n).length = n * l.length
  | 0 => by simp [zeros]
  | n + 1 => by simp [zeros, zeros_length l n, Nat.add_mul, Nat.add_comm]
theorem zeros_get (l : List Value) : ∀ (n i : Nat), i < n * l.length → (zeros l n)[i]? = l[i % l.length]?
  | 0, i, h => by simp at h
  | n + 1, i, h => by
    rw [zeros]
    by_cases e : i < l.length
    · rw [List.getElem?_append_left e, Nat.mod_eq_of_lt e]
    · have h' : i - l.length < n * l.length := by rw [Nat.add_mul] at h; omega
      rw [List.getElem?_append_right (by omega), zeros_get l n _ h', ← Nat.mod_eq_sub_mod (by omega)]
theorem zeros_eq (z : Array Value) (n : Nat) : ((Array.range (n * z.size)).map fun i => z[i % z.size]!).toList = zeros z.toList n := by
  refine List.ext_getElem? fun i => ?_
  by_cases hi : i < n * z.size
  · have hz : 0 < z.size := by
      rcases Nat.eq_zero_or_pos z.size with e | e
      · rw [e] at hi; simp at hi
      · exact e
    have hm : i % z.size < z.size := Nat.mod_lt _ hz
    rw [zeros_get _ _ _ (by simpa using hi)]
    simp [hi, hm, getElem!_pos]
  · rw [List.getElem?_eq_none (by simpa using Nat.le_of_not_lt hi), List.getElem?_eq_none (by simpa [zeros_length] using Nat.le_of_not_lt hi)]

section ops
variable {n : Nat} (hs : Sim φ h W) {ρ ρ' : Operand → Value} {o : Oper}
include hs

theorem goes_field {t : TypeId} {x : Operand} {f : Nat} {v : Value} (hx : RV φ (ρ x) (ρ' x)) (ho : o.op = .field t x f) (e : fieldA P t (ρ x) f = some v) : Goes φ h W n ((execOp ρ' o).run P W) v (h.up []) n := by
  unfold fieldA at e
  split at e
  · rename_i fields cs hu hv
    split at e
    · rename_i fd hf
      rw [nth_arr] at hf
      rw [hv] at hx
      generalize hx' : ρ' x = z at hx
      cases hx with
      | agg r =>
        obtain ⟨v', hrun, hr⟩ := partA_rel (P := P) (W := W) r e
        have : (Instr.field t (ρ' x) f).run P W = .ok v' W := by
          rw [hx']; simp [Instr.field, Sem.run_bind, run_und hu, hf, asAgg, hrun]
        simpa [execOp, ho] using Goes.reads (n := n) hs this hr
    · cases e
  · cases e

theorem goes_fieldAddr {t : TypeId} {x : Operand} {f : Nat} {v : Value} (hx : RV φ (ρ x) (ρ' x)) (ho : o.op = .fieldAddr t x f) (e : fieldAddrA P t (ρ x) f = some v) : Goes φ h W n ((execOp ρ' o).run P W) v (h.up []) n := by
  unfold fieldAddrA at e
  split at e
  · rename_i fields a hu hv
    split at e
    · rename_i fd hf
      rw [nth_arr] at hf
      split at e
      · rename_i k hk; cases e
        rw [hv] at hx
        generalize hx' : ρ' x = z at hx
        cases hx with
        | ptr ra =>
          rename_i a'
          have : (Instr.fieldAt t (ρ' x) f).run P W = .ok (.pointer (some (a'.add fd.offset))) W := by
            rw [hx']; simp [Instr.fieldAt, Sem.run_bind, run_und hu, hf, Instr.sureAddr, fieldPlace, run_size hk]
          simpa [execOp, ho] using Goes.reads (n := n) hs this (.ptr (ra.add _))
      · cases e
    · cases e
  · cases e

theorem goes_indexAddr {t : TypeId} {x y : Operand} {v : Value} (hx : RV φ (ρ x) (ρ' x)) (hy : RV φ (ρ y) (ρ' y)) (ho : o.op = .indexAddr t x y) (e : indexAddrA P t (ρ x) (ρ y) = some v) : Goes φ h W n ((execOp ρ' o).run P W) v (h.up []) n := by
  unfold indexAddrA at e
  split at e
  · rename_i len elem a k i hu hv hi
    split at e
    · rename_i hin
      simp only [Option.bind_eq_bind, Option.bind_eq_some_iff] at e
      obtain ⟨m, hm, e⟩ := e
      cases e
      rw [hv] at hx
      rw [hi] at hy
      generalize hx' : ρ' x = z at hx
      cases hx with
      | ptr ra =>
        rename_i a'
        have : (Instr.indexAt t (ρ' x) (ρ' y)).run P W = .ok (.pointer (some (a'.add (i.toNat * m)))) W := by
          rw [hx', hy.int_inv]; simp [Instr.indexAt, asIntOf, Sem.run_bind, run_und hu, Instr.sureAddr, run_size hm, hin]
        simpa [execOp, ho] using Goes.reads (n := n) hs this (.ptr (ra.add _))
    · cases e
  · rename_i elem a len cap k i hu hv hi
    split at e
    · rename_i hin
      simp only [Option.bind_eq_bind, Option.bind_eq_some_iff] at e
      obtain ⟨m, hm, e⟩ := e
      cases e
      rw [hv] at hx
      rw [hi] at hy
      generalize hx' : ρ' x = z at hx
      cases hx with
      | slice ra hc =>
        rename_i a' c'
        have hpos : 0 < c' := by obtain ⟨h1, h2, _⟩ := hc; omega
        obtain ⟨s1, s2, o', s3, s4⟩ := ra
        have ra' : RA φ a a' := ⟨s1, s2, o', s3, s4.1 hpos⟩
        have : (Instr.indexAt t (ρ' x) (ρ' y)).run P W = .ok (.pointer (some (a'.add (i.toNat * m)))) W := by
          rw [hx', hy.int_inv]; simp [Instr.indexAt, asIntOf, Sem.run_bind, run_und hu, run_size hm, hin]
        simpa [execOp, ho] using Goes.reads (n := n) hs this (.ptr (ra'.add _))
    · cases e
  · cases e

theorem goes_index {t : TypeId} {x y : Operand} {v : Value} (hx : RV φ (ρ x) (ρ' x)) (hy : RV φ (ρ y) (ρ' y)) (ho : o.op = .index t x y) (e : indexA P t (ρ x) (ρ y) = some v) : Goes φ h W n ((execOp ρ' o).run P W) v (h.up []) n := by
  unfold indexA at e
  split at e
  · rename_i len elem cs k i hu hv hi
    split at e
    · rename_i hin
      simp only [Option.bind_eq_bind, Option.bind_eq_some_iff] at e
      obtain ⟨m, hm, e⟩ := e
      rw [hv] at hx
      rw [hi] at hy
      generalize hx' : ρ' x = z at hx
      cases hx with
      | agg r =>
        obtain ⟨v', hrun, hr⟩ := partA_rel (P := P) (W := W) r e
        have : (Instr.index t (ρ' x) (ρ' y)).run P W = .ok v' W := by
          rw [hx', hy.int_inv]; simp [Instr.index, asIntOf, Sem.run_bind, run_und hu, run_size hm, hin, hrun]
        simpa [execOp, ho] using Goes.reads (n := n) hs this hr
    · cases e
  · rename_i s k i hu hv hi
    split at e
    · rename_i hin
      split at e
      · rename_i b hb; cases e
        rw [nth_eq] at hb
        rw [hv] at hx
        rw [hi] at hy
        have hb' : s[i.toNat]? = some b := by
          have hb : s.data[i.toNat]? = some b := by simpa using hb
          have hlt : i.toNat < s.size := (Array.getElem?_eq_some_iff.1 hb).1
          rw [getElem?_pos s i.toNat hlt]
          have := (Array.getElem?_eq_some_iff.1 hb).2
          simpa [ByteArray.getElem_eq_getElem_data] using this
        have : (Instr.index t (ρ' x) (ρ' y)).run P W = .ok (.int .u8 b.toNat) W := by
          rw [hx.string_inv, hy.int_inv]; simp [Instr.index, asIntOf, Sem.run_bind, run_und hu, hin, hb']
        simpa [execOp, ho] using Goes.reads (n := n) hs this (.int _ _)
      · cases e
    · cases e
  · cases e

theorem goes_typeAssert (F : Fit P) {x : Operand} {xt t : TypeId} {ok : Bool} {v : Value} (hx : RV φ (ρ x) (ρ' x)) (ho : o.op = .typeAssert x xt t ok) (e : typeAssertA P (ρ x) t ok = some v) : Goes φ h W n ((execOp ρ' o).run P W) v (h.up []) n := by
  unfold typeAssertA at e
  split at e
  · cases e
  · rename_i d u a hd hu hv
    rw [hv] at hx
    generalize hx' : ρ' x = z at hx
    cases hx with
    | iface r =>
      rename_i a'
      have fin : ∀ v', RV φ v v' → (Instr.typeAssert (ρ' x) xt t ok).run P W = .ok v' W → Goes φ h W n ((execOp ρ' o).run P W) v (h.up []) n := fun v' hr hrun => by
        simpa [execOp, ho] using Goes.reads (n := n) hs hrun hr
      have hT : Instr.typeAssert (ρ' x) xt t ok = Instr.typeAssert (.iface u a') xt t ok := by rw [hx']
      have hstep : (Instr.typeAssert (.iface u a') xt t ok).run P W = (if u = t then (pure (if ok then .tuple #[a', .bool true] else a') : Sem Value) else
          (if ok then do pure (.tuple #[← zeroValue t, .bool false]) else runtimePanic (.typeAssertion (some xt) (some u) t ""))).run P W := by
        unfold Instr.typeAssert
        simp only [Sem.run_bind, run_und hu, Result.andThen_ok]
        all_goals (cases d <;> first | rfl | exact absurd rfl (hd _))
      split at e
      · rename_i ht; cases e
        refine fin _ ?_ (by rw [hT, hstep, if_pos ht]; rfl)
        cases ok
        · exact r
        · exact .tuple (.cons r (.cons (.bool true) .nil))
      · rename_i ht
        split at e
        · rename_i hok
          simp only [Option.map_eq_some_iff] at e
          obtain ⟨zv, hz, rfl⟩ := e
          refine fin (.tuple #[zv, .bool false]) (.tuple (.cons (RV.of_free (F.zero _ _ hz)) (.cons (.bool false) .nil))) ?_
          rw [hT, hstep, if_neg ht, if_pos hok]
          simp [run_zero hz]
        · cases e
  · rename_i d hd hu hv
    split at e
    · rename_i hok
      simp only [Option.map_eq_some_iff] at e
      obtain ⟨zv, hz, rfl⟩ := e
      rw [hv] at hx
      generalize hx' : ρ' x = z at hx
      cases hx
      have : (Instr.typeAssert (ρ' x) xt t ok).run P W = .ok (.tuple #[zv, .bool false]) W := by
        rw [hx']
        unfold Instr.typeAssert
        simp only [Sem.run_bind, run_und hu, Result.andThen_ok]
        all_goals (cases d <;> first | exact absurd rfl (hd _) | simp [run_zero hz, hok])
      simpa [execOp, ho] using Goes.reads (n := n) hs this (.tuple (.cons (RV.of_free (F.zero _ _ hz)) (.cons (.bool false) .nil)))
    · cases e
  · cases e
end ops
end Go.Ab
/- Each operation that calls nothing: the model does what is told of it. Part 5: conversions, slices, rows. -/
namespace Go.Ab
open Go
variable {P : Program} [Idx P] {φ : Phi} {h : Look} {W : World}

theorem bytesIn_vals : ∀ (cs : List Value) (bs : List UInt8), bytesIn cs = some bs → ∃ ns : List Int, cs = ns.map (Value.int .u8) ∧ bs = ns.map fun n => UInt8.ofNat n.toNat
  | [], bs, e => by cases e; exact ⟨[], rfl, rfl⟩
  | v :: cs, bs, e => by
    unfold bytesIn at e
    split at e
    · rename_i b bs' hb hbs; cases e
      obtain ⟨ns, rfl, rfl⟩ := bytesIn_vals cs bs' hbs
      unfold byteOf at hb
      split at hb
      · rename_i n; cases hb; exact ⟨n :: ns, rfl, rfl⟩
      · cases hb
    · cases e
theorem RL.ints {l : List Value} {ns : List Int} {k : IntKind} (r : RL φ (ns.map (Value.int k)) l) : l = ns.map (Value.int k) := by
  induction ns generalizing l with
  | nil => cases r; rfl
  | cons n ns ih =>
    cases r with
    | cons hv t => rw [hv.int_inv, ih t]; rfl

theorem bytesOf_rel (s : ByteArray) : RL φ (bytesOf s) (bytesOf s) := by
  unfold bytesOf
  exact RL.map _ fun b _ => .int _ _

omit [Idx P] in
theorem opt_rel {x x' : Option Value} (hx : ROptV φ x x') {d y m : Nat} {code : BoundsCode} (e : optA d x y = some m) :
    (match x' with | some v => Instr.sliceBound v y code | none => pure d : Sem Nat).run P W = .ok m W := by
  cases hx with
  | none => cases e; rfl
  | some hv => exact (run_bound hv e).1
theorem opt_le {x : Option Value} {d y m : Nat} (e : optA d x y = some m) (hd : d ≤ y) : m ≤ y := by
  cases x with
  | none => cases e; exact hd
  | some v =>
    cases v <;> first
      | (cases e; done)
      | (rename_i k i
         have e : (if 0 ≤ i ∧ i ≤ (y : Int) then some i.toNat else none) = some m := e
         by_cases hi : 0 ≤ i ∧ i ≤ (y : Int)
         · rw [if_pos hi] at e; cases e; omega
         · rw [if_neg hi] at e; cases e)
theorem hi_le {high max : Option Value} {len m n : Nat} (e : hiA high max len m = some n) (hd : max = none → len ≤ m) : n ≤ m := by
  cases high with
  | none => cases max with
    | none => cases e; exact hd rfl
    | some v => cases e
  | some v => exact opt_le (x := some v) (d := 0) e (Nat.zero_le _)
theorem opt_mono {x : Option Value} {d y z m : Nat} (hs : x.isSome = true) (hyz : y ≤ z) (e : optA d x y = some m) : optA d x z = some m := by
  cases x with
  | none => cases hs
  | some v => exact bound_mono hyz e

section ops
variable {n : Nat} (hs : Sim φ h W) {ρ ρ' : Operand → Value} {o : Oper}
include hs

theorem goes_convert (hn : φ n = none) {src dst : TypeId} {x : Operand} {v : Value} {u : Ups} {fr : Bool} (hx : RV φ (ρ x) (ρ' x)) (ho : o.op = .convert src dst x) (e : convertA P h n src dst (ρ x) = some (v, u, fr)) :
    Goes φ h W n ((execOp ρ' o).run P W) v (h.up u) (n + if fr then 1 else 0) := by
  have hex : execOp ρ' o = (do pure (Next.value (← convert src dst (ρ' x)))) := by simp only [execOp, ho]
  rw [hex]
  unfold convertA at e
  split at e
  · rename_i d k k' m hu hd hv; cases e
    rw [hv] at hx
    have : (convert src dst (ρ' x)).run P W = .ok (.int k (k.wrap m)) W := by
      rw [hx.int_inv]
      unfold convert
      simp only [Sem.run_bind, run_und hu, run_und hd, Result.andThen_ok]
      cases d <;> rfl
    exact Goes.reads hs this (.int _ _)
  · rename_i d s hu hd hv; cases e
    rw [hv] at hx
    have : (convert src dst (ρ' x)).run P W = .ok (.string s) W := by
      rw [hx.string_inv]
      unfold convert
      simp only [Sem.run_bind, run_und hu, run_und hd, Result.andThen_ok]
      cases d <;> rfl
    exact Goes.reads hs this (.string _)
  · rename_i d el s hu hd hv
    split at e
    · rename_i hel
      split at e
      · cases e
        rw [hv] at hx
        have hrun := Lib.run_convert_string_bytes (P := P) W src dst el s (und_of hu) (und_of hd) (und_of hel)
        rw [← hx.string_inv] at hrun
        have hfit : s.size ≤ grownCap W s.size 0 el := by
          unfold grownCap Question.cut
          exact Nat.le_add_right _ _
        let W1 := Lib.bytesWorld W el s
        have hlen : (bytesOf s).length = s.size := by
          unfold bytesOf
          rw [List.length_map, Array.length_toList]; rfl
        have hcells : (Lib.bytesCells W el s).toList = bytesOf s ++ List.replicate (grownCap W s.size 0 el - s.size) (.int .u8 0) := by
          simp [Lib.bytesCells, bytesOf]
        have hsize1 : (Lib.bytesCells W el s).size = grownCap W s.size 0 el := by
          rw [← Array.length_toList, hcells, List.length_append, List.length_replicate, hlen]; omega
        have htake : (Lib.bytesCells W el s).toList.take (bytesOf s).length = bytesOf s := by rw [hcells]; simp
        have hheap : W1.heap = W.heap.push (.cells (Lib.bytesCells W el s) el ((Lib.bytesCells W el s).size, (Lib.bytesCells W el s).size + 1)) := by
          refine Array.ext_getElem? fun i => ?_
          rw [Array.getElem?_push]
          by_cases h1 : i < W.heap.size
          · rw [if_neg (by omega)]; exact Lib.bytesWorld_at_old W el s i h1
          · by_cases h2 : i = W.heap.size
            · rw [if_pos h2, h2]; exact Lib.bytesWorld_at_new W el s
            · rw [if_neg h2, Array.getElem?_eq_none (by have := Lib.bytesWorld_size W el s; simp only [W1]; omega), Array.getElem?_eq_none (by omega)]
        obtain ⟨φ', hle, hnew, hs', g⟩ := hs.new hn ⟨0, (Lib.bytesCells W el s).size⟩ (ob := .cells (Cells.mk' (bytesOf s))) hheap rfl rfl rfl fun ψ hψ _ =>
          ⟨_, el, _, Lib.bytesWorld_at_new W el s, RCells.mk' (by rw [htake]; exact bytesOf_rel s) (by rw [htake, hcells]) _ fun i hi => by
            omega⟩
        exact ⟨φ', W1, _, _, run_v hrun, rfl, .slice (.of_new hnew _ _ fun _ => by rw [atLeast_mod rfl, hsize1]; omega) (.atLeast' rfl hfit), hs', g⟩
      · cases e
    · cases e
  · rename_i el a len c hu hd hv
    split at e
    · rename_i hel
      simp only [Option.bind_eq_bind, Option.bind_eq_some_iff] at e
      obtain ⟨cs, hcs, bs, hbs, e⟩ := e
      cases e
      rw [hv] at hx
      obtain ⟨ns, rfl, rfl⟩ := bytesIn_vals _ _ hbs
      generalize hx' : ρ' x = z at hx
      cases hx with
      | sliceNil =>
        have hcs : [] = ns.map (Value.int .u8) := Option.some.inj hcs
        cases ns with
        | nil =>
          have : (convert src dst (.slice none 0 0)).run P W = .ok (.string .empty) W := by
            rw [run_convert_bytes_string W src dst el none 0 0 (und_of hu) (und_of hel) (und_of hd)]; rfl
          exact Goes.reads hs this (.string _)
        | cons m ns => simp at hcs
      | slice ra hc =>
        rename_i a a' c'
        obtain ⟨s1, s2, o', s3, s4⟩ := ra
        have ra' : len ≠ 0 → RA φ a a' := fun h0 => ⟨s1, s2, o', s3, s4.1 (by obtain ⟨h1, h2, _⟩ := hc; omega)⟩
        obtain ⟨vs', hl, hr, hcell⟩ := hs.load ra' hcs
        obtain rfl := hr.ints
        have hload := run_loadCells (P := P) a' _ hcell
        rw [hl] at hload
        have : (convert src dst (.slice (some a') len c')).run P W = .ok (.string ⟨(ns.map fun n => UInt8.ofNat n.toNat).toArray⟩) W := by
          rw [run_convert_bytes_string W src dst el _ len c' (und_of hu) (und_of hel) (und_of hd), run_bytesToString W _ len c' ns hload, foldl_push_bytes]
          simp [ByteArray.empty, ByteArray.emptyWithCapacity]
          try rfl
        exact Goes.reads hs this (.string _)
    · cases e
  · cases e

theorem goes_slice {t : TypeId} {x : Operand} {lo hi mx : Option Operand} {v : Value} (hx : RV φ (ρ x) (ρ' x)) (hlo : ROptV φ (lo.map ρ) (lo.map ρ')) (hhi : ROptV φ (hi.map ρ) (hi.map ρ')) (hmx : ROptV φ (mx.map ρ) (mx.map ρ'))
    (ho : o.op = .slice t x lo hi mx) (e : sliceA P t (ρ x) (lo.map ρ) (hi.map ρ) (mx.map ρ) = some v) : Goes φ h W n ((execOp ρ' o).run P W) v (h.up []) n := by
  have fin : ∀ v', RV φ v v' → (Instr.sliceAt t (ρ' x) (lo.map ρ') (hi.map ρ') (mx.map ρ')).run P W = .ok v' W → Goes φ h W n ((execOp ρ' o).run P W) v (h.up []) n := fun v' hr hrun => by
    simpa [execOp, ho] using Goes.reads (n := n) hs hrun hr
  generalize lo.map ρ = lo1 at hlo e
  generalize lo.map ρ' = lo2 at hlo fin
  generalize hi.map ρ = hi1 at hhi e
  generalize hi.map ρ' = hi2 at hhi fin
  generalize mx.map ρ = mx1 at hmx e
  generalize mx.map ρ' = mx2 at hmx fin
  unfold sliceA at e
  split at e
  · rename_i s hu hv
    split at e
    · cases e
    · rename_i hm
      simp only [Option.bind_eq_bind, Option.bind_eq_some_iff] at e
      obtain ⟨hiN, hhiN, loN, hloN, e⟩ := e
      cases e
      rw [hv] at hx
      have hm1 : mx1 = none := by simpa using hm
      subst hm1
      cases hmx
      refine fin (.string (s.extract loN hiN)) ?_ ?_
      · have : s.extract loN hiN = ⟨((s.data.toList.drop loN).take (hiN - loN)).toArray⟩ := by
          have h1 := Lib.extract_data s loN hiN
          generalize s.extract loN hiN = w at h1
          cases w with | mk d => cases d with | mk l => simp at h1; simp [h1]
        rw [← this]; exact .string _
      · rw [hx.string_inv]
        unfold Instr.sliceAt
        simp only [Sem.run_bind, run_und hu, Result.andThen_ok]
        unfold Instr.slice
        simp only [Sem.run_bind, run_und hu, Result.andThen_ok]
        have h1 := opt_rel (P := P) (W := W) (code := .sliceAlen) hhi hhiN
        have h2 := opt_rel (P := P) (W := W) (code := .sliceB) hlo hloN
        have hb : (Instr.sliceBounds false s.size s.size lo2 hi2 none).run P W = .ok (loN, hiN, s.size) W := by
          unfold Instr.sliceBounds
          cases hhi <;> cases hlo <;> simp [Sem.run_bind] at h1 h2 ⊢ <;> simp [h1, h2]
        simp [hb]
  · rename_i el a len cap hu hv
    simp only [Option.bind_eq_bind, Option.bind_eq_some_iff] at e
    obtain ⟨m, hmN, hiN, hhiN, loN, hloN, size, hsz, e⟩ := e
    rw [hv] at hx
    generalize hx' : ρ' x = z at hx fin
    -- what is known of the value that is sliced
    obtain ⟨a', c', rfl, hcap, hadr⟩ : ∃ a' c', z = .slice a' len c' ∧ RCap len cap c' ∧ ((a = none ∧ a' = none ∧ c' = 0 ∧ cap = 0) ∨ ∃ b b', a = some b ∧ a' = some b' ∧ RS φ b b' cap c') := by
      cases hx with
      | sliceNil => exact ⟨none, 0, rfl, ⟨by omega, by omega, by omega⟩, .inl ⟨rfl, rfl, rfl, rfl⟩⟩
      | slice ra hc => exact ⟨_, _, rfl, hc, .inr ⟨_, _, rfl, rfl, ra⟩⟩
    obtain ⟨hc1, hc2, hc3⟩ := hcap
    have hm_le : m ≤ cap / 4096 := opt_le hmN (Nat.le_refl _)
    have hhi_le : hiN ≤ m := hi_le hhiN fun h0 => by subst h0; cases hmN; exact hc1
    have hlo_le : loN ≤ hiN := opt_le hloN (by omega)
    -- the model's own bound of the capacity
    let m' := if mx1.isSome then m else c'
    have hmm' : m ≤ m' := by
      simp only [m']
      split
      · exact Nat.le_refl _
      · omega
    have hb : (Instr.sliceBounds true len c' lo2 hi2 mx2).run P W = .ok (loN, hiN, m') W := by
      have h2 := opt_rel (P := P) (W := W) (code := if mx2.isSome then .slice3C else .sliceB) hlo hloN
      unfold Instr.sliceBounds
      cases hmx with
      | none =>
        simp only [m', Option.isSome_none, Bool.false_eq_true, if_false] at *
        cases hmN
        cases hhi with
        | none => cases hhiN; cases hlo <;> simp at h2 ⊢ <;> simp [h2]
        | some hv =>
          have h1 := (run_bound (P := P) (W := W) (code := .sliceAcap) hv (bound_mono (z := c') hc2 hhiN)).1
          cases hlo <;> simp [Sem.run_bind] at h2 ⊢ <;> simp [h1, h2]
      | some hmv =>
        have h0 := (run_bound (P := P) (W := W) (code := .slice3Acap) hmv (bound_mono (z := c') hc2 hmN)).1
        simp only [m', Option.isSome_some, if_true] at *
        cases hhi with
        | none => cases hhiN
        | some hv =>
          have h1 := (run_bound (P := P) (W := W) (code := .slice3B) hv hhiN).1
          cases hlo <;> simp [Sem.run_bind] at h2 ⊢ <;> simp [h0, h1, h2]
    refine fin (.slice (if m' = loN then a' else a'.map (·.add (loN * size))) (hiN - loN) (m' - loN)) ?_ ?_
    · by_cases hex : (mx1.isSome || Nat.beq (cap % 4096) 0) = true
      · rw [if_pos hex] at e
        cases e
        have hmeq : m' = m := by
          simp only [m']
          split
          · rfl
          · rename_i hno
            have : Nat.beq (cap % 4096) 0 = true := by simpa [hno] using hex
            have h0 : cap % 4096 = 0 := Nat.eq_of_beq_eq_true this
            cases hmx with
            | none => cases hmN; rw [hc3 h0]
            | some hv => simp at hno
        rw [hmeq]
        rcases hadr with ⟨rfl, rfl, rfl, hcap0⟩ | ⟨b, b', rfl, rfl, hb1, hb2, o', hb3, hb4, hb5⟩
        · have h0 : cap / 4096 = 0 := by omega
          have : m = 0 := by omega
          subst this
          have : hiN = 0 := by omega
          subst this
          have : loN = 0 := by omega
          subst this
          simp [exact]; exact .sliceNil
        · by_cases hml : m = loN
          · subst hml
            simp only [Nat.beq_refl, if_true]
            rw [show m - m = 0 by omega]
            exact .slice ⟨hb1, hb2, o', hb3, fun hh => absurd hh (Nat.lt_irrefl 0), fun hh => absurd hh (Nat.lt_irrefl 0)⟩ (by unfold exact RCap; omega)
          · have hnb : Nat.beq m loN = false := by
              cases hq : Nat.beq m loN with
              | false => rfl
              | true => exact absurd (Nat.eq_of_beq_eq_true hq) hml
            simp only [hnb, Bool.false_eq_true, if_false, if_neg hml, Option.map_some]
            refine .slice ⟨by rw [add_none hb1], by rw [add_none hb2], o', by rw [add_none hb1, add_none hb2]; exact hb3, fun _ => ?_, fun _ hh => absurd (exact_mod _) hh⟩ (by unfold exact RCap; omega)
            rw [add_none hb1, add_none hb2]
            have := hb4 (by omega)
            simp only; omega
      · rw [if_neg hex] at e
        split at e
        · rename_i hsz'
          cases e
          have hsz' := Nat.eq_of_beq_eq_true hsz'
          have hno : mx1.isSome = false := by
            cases hq : mx1.isSome with
            | false => rfl
            | true => simp [hq] at hex
          have hmeq : m' = c' := by simp [m', hno]
          have hmlb : m = cap / 4096 := by
            cases hmx with
            | none => cases hmN; rfl
            | some hv => simp at hno
          rcases hadr with ⟨rfl, rfl, rfl, hcap0⟩ | ⟨b, b', rfl, rfl, hb1, hb2, o', hb3, hb4, hb5⟩
          · rw [hcap0] at hsz'; omega
          · simp only [Option.map_some]
            rw [hmeq]
            have hmod : (4096 * (m - loN) + cap % 4096) % 4096 = cap % 4096 := by omega
            have hrc : RCap (hiN - loN) (4096 * (m - loN) + cap % 4096) (c' - loN) := by unfold RCap; omega
            by_cases hml : c' = loN
            · rw [if_pos hml]
              rw [show c' - loN = 0 by omega] at hrc ⊢
              exact .slice ⟨by rw [add_none hb1], hb2, o', by rw [add_none hb1]; exact hb3, fun hh => absurd hh (Nat.lt_irrefl 0), fun hh => absurd hh (Nat.lt_irrefl 0)⟩ hrc
            · rw [if_neg hml]
              have h1 := hb4 (by omega)
              have h2 := hb5 (by omega) (by omega)
              refine .slice ⟨by rw [add_none hb1], by rw [add_none hb2], o', by rw [add_none hb1, add_none hb2]; exact hb3, fun _ => ?_, fun _ _ => ?_⟩ hrc
              · rw [add_none hb1, add_none hb2]
                simp only; omega
              · rw [add_none hb2, hmod, ← h2, hsz']
                simp only [Nat.add_sub_cancel]
                rw [Nat.sub_mul]
                have : loN * size ≤ c' * size := Nat.mul_le_mul_right _ (by omega)
                omega
        · cases e
    · unfold Instr.sliceAt
      simp only [Sem.run_bind, run_und hu, Result.andThen_ok]
      unfold Instr.slice
      simp only [Sem.run_bind, run_und hu, Result.andThen_ok]
      simp [hb, run_size hsz]
  · rename_i N el a hu hv
    simp only [Option.bind_eq_bind, Option.bind_eq_some_iff] at e
    obtain ⟨m, hmN, hiN, hhiN, loN, hloN, size, hsz, e⟩ := e
    cases e
    rw [hv] at hx
    generalize hx' : ρ' x = z at hx fin
    cases hx with
    | ptr ra =>
      rename_i a'
      have hm_le : m ≤ N := opt_le hmN (Nat.le_refl _)
      have hhi_le : hiN ≤ m := hi_le hhiN fun h0 => by subst h0; cases hmN; exact Nat.le_refl _
      have hlo_le : loN ≤ hiN := opt_le hloN (by omega)
      have hb : (Instr.sliceBounds false N N lo2 hi2 mx2).run P W = .ok (loN, hiN, m) W := by
        have h2 := opt_rel (P := P) (W := W) (code := if mx2.isSome then .slice3C else .sliceB) hlo hloN
        unfold Instr.sliceBounds
        cases hmx with
        | none =>
          cases hmN
          cases hhi with
          | none => cases hhiN; cases hlo <;> simp at h2 ⊢ <;> simp [h2]
          | some hv =>
            have h1 := (run_bound (P := P) (W := W) (code := .sliceAlen) hv hhiN).1
            cases hlo <;> simp [Sem.run_bind] at h2 ⊢ <;> simp [h1, h2]
        | some hmv =>
          have h0 := (run_bound (P := P) (W := W) (code := .slice3Alen) hmv hmN).1
          cases hhi with
          | none => cases hhiN
          | some hv =>
            have h1 := (run_bound (P := P) (W := W) (code := .slice3B) hv hhiN).1
            cases hlo <;> simp [Sem.run_bind] at h2 ⊢ <;> simp [h0, h1, h2]
      refine fin (.slice (some (if m = loN then a' else a'.add (loN * size))) (hiN - loN) (m - loN)) ?_ ?_
      · obtain ⟨hb1, hb2, o', hb3, hb4⟩ := ra
        by_cases hml : m = loN
        · subst hml
          simp only [Nat.beq_refl, if_true]
          exact .slice ⟨hb1, hb2, o', hb3, fun _ => hb4, fun _ hh => absurd (exact_mod _) hh⟩ (by unfold exact RCap; omega)
        · have hnb : Nat.beq m loN = false := by
            cases hq : Nat.beq m loN with
            | false => rfl
            | true => exact absurd (Nat.eq_of_beq_eq_true hq) hml
          simp only [hnb, Bool.false_eq_true, if_false, if_neg hml]
          refine .slice ⟨by rw [add_none hb1], by rw [add_none hb2], o', by rw [add_none hb1, add_none hb2]; exact hb3, fun _ => ?_, fun _ hh => absurd (exact_mod _) hh⟩ (by unfold exact RCap; omega)
          rw [add_none hb1, add_none hb2]
          simp only; omega
      · unfold Instr.sliceAt
        simp [Sem.run_bind, run_und hu, Instr.sureAddr, hb, run_size hsz]
  · cases e
end ops
end Go.Ab
/- Each operation that calls nothing: the model does what is told of it. Part 6: maps. -/
namespace Go.Ab
open Go Go.MapKept
variable {P : Program} [Idx P] {φ : Phi} {h : Look} {W : World}

/-! ### rows of entries -/
structure RE (φ : Phi) (l l' : List MapEntry) : Prop where
  len : l'.length = l.length
  get : ∀ (i : Nat) (e : MapEntry), l[i]? = some e → ∃ e', l'[i]? = some e' ∧ REntry φ e e'
theorem RE.cons_inv {e : MapEntry} {l l' : List MapEntry} (r : RE φ (e :: l) l') : ∃ e' k, l' = e' :: k ∧ REntry φ e e' ∧ RE φ l k := by
  cases l' with
  | nil => have := r.len; simp at this
  | cons e' k =>
    obtain ⟨x, hx, hr⟩ := r.get 0 e rfl
    simp only [List.getElem?_cons_zero, Option.some.injEq] at hx
    subst hx
    exact ⟨e', k, rfl, hr, ⟨by have := r.len; simpa using this, fun i y hy => by simpa using r.get (i + 1) y (by simpa using hy)⟩⟩
theorem RMap.list {es es' : Array MapEntry} (r : RMap φ es es') : RE φ es.toList es'.toList := ⟨by simpa using r.size, fun i e he => by simpa using r.get i e (by simpa using he)⟩
theorem RE.map {es es' : Array MapEntry} (r : RE φ es.toList es'.toList) : RMap φ es es' := ⟨by simpa using r.len, fun i e he => by simpa using r.get i e (by simpa using he)⟩
theorem RMap.get' {es es' : Array MapEntry} (r : RMap φ es es') (i : Nat) : (es[i]? = none ∧ es'[i]? = none) ∨ ∃ e e', es[i]? = some e ∧ es'[i]? = some e' ∧ REntry φ e e' := by
  cases he : es[i]? with
  | none =>
    refine .inl ⟨rfl, ?_⟩
    rw [Array.getElem?_eq_none_iff] at he ⊢
    rw [r.size]; exact he
  | some e =>
    obtain ⟨e', h1, h2⟩ := r.get i e he
    exact .inr ⟨e, e', rfl, h1, h2⟩
theorem RMap.empty : RMap φ #[] #[] := ⟨rfl, fun i e he => by simp at he⟩
theorem RMap.push {es es' : Array MapEntry} (r : RMap φ es es') {e e' : MapEntry} (he : REntry φ e e') : RMap φ (es.push e) (es'.push e') :=
  ⟨by simp [r.size], fun i x hx => by
    rw [Array.getElem?_push] at hx ⊢
    rw [r.size]
    split at hx
    · rename_i hi; cases hx; rw [if_pos hi]; exact ⟨e', rfl, he⟩
    · rename_i hi; rw [if_neg hi]; exact r.get i x hx⟩
theorem RMap.modify {es es' : Array MapEntry} (r : RMap φ es es') (i : Nat) {f f' : MapEntry → MapEntry} (hf : ∀ e e', REntry φ e e' → REntry φ (f e) (f' e')) : RMap φ (es.modify i f) (es'.modify i f') :=
  ⟨by simp [r.size], fun j x hx => by
    rw [Array.getElem?_modify] at hx ⊢
    split at hx
    · rename_i hi
      rw [if_pos hi]
      simp only [Option.map_eq_some_iff] at hx ⊢
      obtain ⟨e, he, rfl⟩ := hx
      obtain ⟨e', h1, h2⟩ := r.get j e he
      exact ⟨f' e', ⟨e', h1, rfl⟩, hf _ _ h2⟩
    · rename_i hi; rw [if_neg hi]; exact r.get j x hx⟩
theorem eraseIdxB_get (es : Array MapEntry) (i j : Nat) : (es.eraseIdxIfInBounds i)[j]? = (es.toList.eraseIdx i)[j]? := by
  rw [← Array.getElem?_toList]
  congr 1
  unfold Array.eraseIdxIfInBounds
  split
  · simp
  · rename_i hi
    rw [List.eraseIdx_of_length_le (by simpa using hi)]
theorem RMap.erase {es es' : Array MapEntry} (r : RMap φ es es') (i : Nat) : RMap φ (es.eraseIdxIfInBounds i) (es'.eraseIdxIfInBounds i) :=
  ⟨by
    unfold Array.eraseIdxIfInBounds
    by_cases hi : i < es.size
    · rw [dif_pos hi, dif_pos (by rw [r.size]; exact hi)]; simp [r.size]
    · rw [dif_neg hi, dif_neg (by rw [r.size]; exact hi)]; exact r.size, fun j x hx => by
    rw [eraseIdxB_get, List.getElem?_eraseIdx] at hx ⊢
    split at hx
    · rename_i hj; rw [if_pos hj]; exact r.list.get j x hx
    · rename_i hj; rw [if_neg hj]; exact r.list.get (j + 1) x hx⟩
theorem RMap.borns {es es' : Array MapEntry} (r : RMap φ es es') : es'.map (·.born) = es.map (·.born) := by
  refine Array.ext_getElem? fun i => ?_
  rw [Array.getElem?_map, Array.getElem?_map]
  rcases r.get' i with ⟨h1, h2⟩ | ⟨e, e', h1, h2, h3⟩
  · rw [h1, h2]
  · rw [h1, h2]; exact congrArg some h3.born
theorem RE.find {l l' : List MapEntry} (r : RE φ l l') (p : Nat → Bool) {e : MapEntry} (he : l.find? (fun x => p x.born) = some e) : ∃ e', l'.find? (fun x => p x.born) = some e' ∧ REntry φ e e' := by
  induction l generalizing l' with
  | nil => cases he
  | cons x l ih =>
    obtain ⟨x', k, rfl, hx, hr⟩ := r.cons_inv
    rw [List.find?_cons] at he ⊢
    rw [hx.born]
    split at he
    · cases he; exact ⟨x', rfl, hx⟩
    · exact ih hr he
theorem RE.filter {l l' : List MapEntry} (r : RE φ l l') (p : Nat → Bool) : RE φ (l.filter fun x => p x.born) (l'.filter fun x => p x.born) := by
  induction l generalizing l' with
  | nil =>
    have : l' = [] := List.eq_nil_of_length_eq_zero (by simpa using r.len)
    subst this; exact r
  | cons x l ih =>
    obtain ⟨x', k, rfl, hx, hr⟩ := r.cons_inv
    rw [List.filter_cons, List.filter_cons, hx.born]
    split
    · have := ih hr
      refine ⟨by simp [this.len], fun i e he => ?_⟩
      cases i with
      | zero => simp only [List.getElem?_cons_zero, Option.some.injEq] at he; subst he; exact ⟨x', rfl, hx⟩
      | succ i => simpa using this.get i e (by simpa using he)
    · exact ih hr

/-! ### keys -/
theorem keyOk_plain {kt : TypeId} {k : Value} (hk : keyOk P kt k = true) : plain 1 k = true := by
  unfold keyOk at hk
  split at hk
  · rfl
  · rfl
  · simp only [Bool.and_eq_true] at hk; exact hk.1.1.1
  · cases hk
theorem keyOk_run {kt : TypeId} {k : Value} (hk : keyOk P kt k = true) (b : Bool) : (Instr.checkKey b 10000 kt k).run P W = .ok () W := by
  unfold keyOk at hk
  split at hk
  · rename_i k' hu
    rw [show (10000 : Nat) = 9999 + 1 from rfl]
    unfold Instr.checkKey
    simp only [Sem.run_bind, run_und hu, Result.andThen_ok]
    rfl
  · rename_i hu
    rw [show (10000 : Nat) = 9999 + 1 from rfl]
    unfold Instr.checkKey
    simp only [Sem.run_bind, run_und hu, Result.andThen_ok]
    rfl
  · simp only [Bool.and_eq_true] at hk
    obtain ⟨⟨⟨_, h0⟩, h1⟩, _⟩ := hk
    cases b with
    | false => obtain ⟨u, hu⟩ := Option.isSome_iff_exists.1 h0; exact pureRun_run hu W
    | true => obtain ⟨u, hu⟩ := Option.isSome_iff_exists.1 h1; exact pureRun_run hu W
  · cases hk

/-- What is found. -/
def Found (l' : List MapEntry) (i : Nat) (r : Option Nat) (x : Option (Nat × Value)) : Prop := match r with
  | none => x = none
  | some j => ∃ m e', j = i + m ∧ l'[m]? = some e' ∧ x = some (j, e'.val)
theorem Found.step {l' : List MapEntry} {i : Nat} {r : Option Nat} {x : Option (Nat × Value)} {e' : MapEntry} (f : Found l' (i + 1) r x) : Found (e' :: l') i r x := by
  cases r with
  | none => exact f
  | some j => obtain ⟨m, y, h1, h2, h3⟩ := f; exact ⟨m + 1, y, by omega, by simpa using h2, h3⟩

theorem findNow_of {kt : TypeId} {d : TypeDesc} {k : Value} (hd : undA P kt = some d) (hk : (∃ j n, k = .int j n) ∨ ∃ s, k = .string s) : ∀ {l l' : List MapEntry} {i : Nat} {r : Option Nat}, RE φ l l' → findA P kt k l i = some r →
    ∃ x, Instr.findNow d k l' i = some x ∧ Found l' i r x
  | [], l', i, r, hr, e => by
    have : l' = [] := List.eq_nil_of_length_eq_zero (by simpa using hr.len)
    subst this; cases e; exact ⟨none, rfl, rfl⟩
  | y :: l, l', i, r, hr, e => by
    obtain ⟨y', k', rfl, hy, hr'⟩ := hr.cons_inv
    have same : ∀ b, keyEq P kt k y.key = some b → Instr.sameNow d k y'.key = some b := fun b hb => by
      rw [hy.key]
      unfold keyEq at hb
      split at hb
      · rename_i a n b' m hy'
        split at hb
        · rename_i j hj
          rw [hd] at hj; cases hj
          split at hb
          · rename_i hab; cases hb; subst hab
            rw [hy']; simp [Instr.sameNow]
          · cases hb
        · cases hb
      · rename_i s u hy'
        split at hb
        · rename_i hj
          rw [hd] at hj; cases hj
          cases hb
          rw [hy']
          show some (s == u) = _
          congr 1
          cases hq : s == u with
          | true => rw [(bytes_beq s u).1 hq]; simp
          | false =>
            symm
            cases hz : (s.data.toList == u.data.toList) with
            | false => rfl
            | true =>
              have : s = u := by
                have h1 : s.data.toList = u.data.toList := by simpa using hz
                cases s with | mk s => cases u with | mk u => cases s; cases u; simp at h1; rw [h1]
              subst this
              rw [(bytes_beq s s).2 rfl] at hq; cases hq
        · cases hb
      · rcases hk with ⟨_, _, h0⟩ | ⟨_, h0⟩ <;> cases h0
      · cases hb
    unfold findA at e
    split at e
    · rename_i hb; cases e
      exact ⟨_, by unfold Instr.findNow; rw [same _ hb], 0, y', by omega, rfl, rfl⟩
    · rename_i hb
      obtain ⟨x, h1, h2⟩ := findNow_of hd hk hr' e
      exact ⟨x, by unfold Instr.findNow; rw [same _ hb]; exact h1, h2.step⟩
    · cases e
theorem findAsking_of {kt : TypeId} {xs : Array Value} : ∀ {l l' : List MapEntry} {i : Nat} {r : Option Nat}, RE φ l l' → findA P kt (.agg xs) l i = some r →
    ∃ x, (Instr.findAsking kt (.agg xs) l' i).run P W = .ok x W ∧ Found l' i r x
  | [], l', i, r, hr, e => by
    have : l' = [] := List.eq_nil_of_length_eq_zero (by simpa using hr.len)
    subst this; cases e; exact ⟨none, rfl, rfl⟩
  | y :: l, l', i, r, hr, e => by
    obtain ⟨y', k', rfl, hy, hr'⟩ := hr.cons_inv
    have same : ∀ b, keyEq P kt (.agg xs) y.key = some b → (Op.equal kt (.agg xs) y'.key).run P W = .ok b W := fun b hb => by
      rw [hy.key]
      unfold keyEq at hb
      split at hb
      · rename_i h0 _; cases h0
      · rename_i h0 _; cases h0
      · rename_i h0 hy'
        cases h0
        rw [hy']
        split at hb
        · exact pureRun_run hb W
        · cases hb
      · cases hb
    unfold findA at e
    split at e
    · rename_i hb; cases e
      refine ⟨_, ?_, 0, y', by omega, rfl, rfl⟩
      unfold Instr.findAsking
      simp only [Sem.run_bind, same _ hb, Result.andThen_ok, if_true]
      rfl
    · rename_i hb
      obtain ⟨x, h1, h2⟩ := findAsking_of hr' e
      refine ⟨x, ?_, h2.step⟩
      unfold Instr.findAsking
      simp only [Sem.run_bind, same _ hb, Result.andThen_ok, Bool.false_eq_true, if_false]
      exact h1
    · cases e
theorem findKey_of {kt : TypeId} {k : Value} (hk : keyOk P kt k = true) {es es' : Array MapEntry} {r : Option Nat} (hr : RMap φ es es') (e : findA P kt k es.toList 0 = some r) :
    ∃ x, (Instr.findKey kt k es'.toList).run P W = .ok x W ∧ Found es'.toList 0 r x := by
  have hk' := hk
  unfold keyOk at hk
  split at hk
  · rename_i k' hu
    obtain ⟨x, h1, h2⟩ := findNow_of hu (.inl ⟨_, _, rfl⟩) hr.list e
    exact ⟨x, run_findKey (und_of hu) h1, h2⟩
  · rename_i hu
    obtain ⟨x, h1, h2⟩ := findNow_of hu (.inr ⟨_, rfl⟩) hr.list e
    exact ⟨x, run_findKey (und_of hu) h1, h2⟩
  · rename_i cs fs hu
    obtain ⟨x, h1, h2⟩ := findAsking_of (W := W) hr.list e
    refine ⟨x, ?_, h2⟩
    have : ∀ (l : List MapEntry) (d : TypeDesc) (i : Nat), d = .struct fs → Instr.findNow d (.agg cs) l i = none ∨ l = [] := fun l d i hd => by
      cases l with
      | nil => exact .inr rfl
      | cons y l => subst hd; exact .inl rfl
    unfold Instr.findKey
    simp only [Sem.run_bind, run_und hu, Result.andThen_ok]
    rcases this es'.toList _ 0 rfl with h0 | h0
    · rw [h0]; exact h1
    · rw [h0] at h1 ⊢; exact h1
  · cases hk

omit [Idx P] in
theorem keyThatStays_same {a k : Value} (hs : Instr.sameBits 10000 a k = true) : (Instr.keyThatStays a k).run P W = .ok k W := by
  simp [Instr.keyThatStays, hs]
theorem Found.at {es' : Array MapEntry} {j : Nat} {x : Option (Nat × Value)} (f : Found es'.toList 0 (some j) x) : ∃ e', es'[j]? = some e' ∧ x = some (j, e'.val) := by
  obtain ⟨m, e', h1, h2, h3⟩ := f
  have : j = m := by omega
  subst this
  exact ⟨e', by simpa using h2, h3⟩

/-! ### objects -/
omit [Idx P] in
theorem run_getObj {r : Nat} {O : Obj} (hr : W.heap[r]? = some O) (hc : ∀ a t f, O ≠ .cells a t f) : (getObj r).run P W = .ok O W := by
  unfold getObj
  simp only [Sem.run]
  rw [hr]
  cases O <;> first | exact absurd rfl (hc _ _ _) | rfl
omit [Idx P] in
theorem run_setObj {r : Nat} {O O' : Obj} (hr : W.heap[r]? = some O) (hc : ∀ a t f, O ≠ .cells a t f) : (setObj r O').run P W = .ok () { W with heap := W.heap.setIfInBounds r O' } := by
  unfold setObj
  simp only [Sem.run]
  rw [hr]
  cases O <;> first | exact absurd rfl (hc _ _ _) | rfl
theorem Sim.mapAt (s : Sim φ h W) {r r' : Nat} (hr : RB φ r r') {es : Array MapEntry} {clock : Nat} (e : mapAt h r = some (es, clock)) :
    ∃ es', W.heap[r']? = some (.map es' clock) ∧ RMap φ es es' := by
  obtain ⟨B, o, hφ, ho, es', hw, hm⟩ := s.obj _ _ (mapAt_some e)
  have : φ r = some (r', ⟨0, 0⟩) := hr
  rw [hφ] at this; cases this
  exact ⟨es', hw, hm⟩
theorem Sim.putObj (s : Sim φ h W) {b b' : Nat} (hb' : RB φ b b') {ob ob' : AObj} (hb : h b = some ob) (hw : ob.writable = true) {O' : Obj}
    (hr : ∀ W' : World, W'.heap[b']? = some O' → RObj φ W' ob' b' ⟨0, 0⟩) (n : Nat) (hw' : ob'.writable = true := by rfl) :
    Sim φ (h.up [(b, some ob')]) { W with heap := W.heap.setIfInBounds b' O' } ∧ Grew φ h W n φ (h.up [(b, some ob')]) { W with heap := W.heap.setIfInBounds b' O' } n := by
  obtain ⟨B, o, hφ, ho⟩ := s.obj b ob hb
  have e : φ b = some (b', ⟨0, 0⟩) := hb'
  rw [hφ] at e; cases e
  have hS := setB_setObj (W := W) ho.lt O'
  exact s.put hb hw hφ (hr _ hS.at_) hS.size hS.other hS.os hS.tape hS.output n hw'

section ops
variable {n : Nat} (hs : Sim φ h W) {ρ ρ' : Operand → Value} {o : Oper}
include hs

theorem goes_lookup (F : Fit P) {t : TypeId} {x k : Operand} {ok : Bool} {v : Value} (hx : RV φ (ρ x) (ρ' x)) (hk : RV φ (ρ k) (ρ' k)) (ho : o.op = .lookup t x k ok) (e : lookupA P h t (ρ x) (ρ k) ok = some v) :
    Goes φ h W n ((execOp ρ' o).run P W) v (h.up []) n := by
  unfold lookupA at e
  split at e
  · rename_i kt el hu
    simp only [Option.bind_eq_some_iff] at e
    obtain ⟨es, hes, e⟩ := e
    split at e
    · rename_i hok
      simp only [Option.bind_eq_some_iff, Option.map_eq_some_iff] at e
      obtain ⟨i, hi, v0, hv0, rfl⟩ := e
      have hk' := RV.of_plain 1 (keyOk_plain hok) hk
      have hrun : ∃ v', (Instr.lookup t (ρ' x) (ρ' k) ok).run P W = .ok (if ok then .tuple #[v', .bool i.isSome] else v') W ∧ RV φ v0 v' := by
        have key : ∀ es', RMap φ es es' → ((∀ r, ρ' x ≠ .map (some r)) → ρ' x = .map none ∧ es' = #[]) → (∀ r, ρ' x = .map (some r) → ∃ c, W.heap[r]? = some (.map es' c)) →
            ∃ v', (Instr.lookup t (ρ' x) (ρ' k) ok).run P W = .ok (if ok then .tuple #[v', .bool i.isSome] else v') W ∧ RV φ v0 v' := fun es' hget h0 h1 => by
          obtain ⟨y, hf, hfd⟩ := findKey_of (W := W) hok hget hi
          rw [hk']
          have hval : ∃ v', RV φ v0 v' ∧ ((i = none ∧ y = none ∧ (zeroValue el).run P W = .ok v' W) ∨ ∃ j, i = some j ∧ y = some (j, v')) := by
            cases i with
            | none => cases hfd; exact ⟨v0, RV.of_free (F.zero _ _ hv0), .inl ⟨rfl, rfl, run_zero hv0 W⟩⟩
            | some j =>
              obtain ⟨e', h1, rfl⟩ := hfd.at
              simp only [foundA, Option.map_eq_some_iff] at hv0
              obtain ⟨e0, h2, rfl⟩ := hv0
              obtain ⟨e1, h3, h4⟩ := hget.get _ _ h2
              rw [h1] at h3; cases h3
              exact ⟨e'.val, h4.val, .inr ⟨j, rfl, rfl⟩⟩
          obtain ⟨v', hv', hcase⟩ := hval
          refine ⟨v', ?_, hv'⟩
          have hck := fun b => keyOk_run (W := W) hok b
          by_cases hm : ∃ r, ρ' x = .map (some r)
          · obtain ⟨r, hr⟩ := hm
            obtain ⟨c, hw⟩ := h1 r hr
            rw [hr]
            unfold Instr.lookup
            rcases hcase with ⟨rfl, rfl, hz⟩ | ⟨j, rfl, rfl⟩ <;> simp [Sem.run_bind, run_und hu, run_getObj hw, *]
          · obtain ⟨hr, rfl⟩ := h0 fun r hr => hm ⟨r, hr⟩
            rw [hr]
            unfold Instr.lookup
            have hf : (Instr.findKey kt (ρ k) []).run P W = .ok y W := hf
            rcases hcase with ⟨rfl, rfl, hz⟩ | ⟨j, rfl, rfl⟩ <;> simp [Sem.run_bind, run_und hu, *]
        unfold entriesA at hes
        split at hes
        · rename_i hv; cases hes
          rw [hv] at hx
          generalize hx' : ρ' x = z at hx key
          cases hx
          exact key #[] .empty (fun _ => ⟨rfl, rfl⟩) fun r hr => by cases hr
        · rename_i r hv
          simp only [Option.map_eq_some_iff] at hes
          obtain ⟨⟨es1, c⟩, hm, rfl⟩ := hes
          rw [hv] at hx
          generalize hx' : ρ' x = z at hx key
          cases hx with
          | map hr =>
            obtain ⟨es', hw, hm'⟩ := hs.mapAt hr hm
            exact key es' hm' (fun hno => absurd rfl (hno _)) fun r hr => by cases hr; exact ⟨c, hw⟩
        · cases hes
      obtain ⟨v', hrun, hv⟩ := hrun
      have hv' : RV φ (if ok then .tuple #[v0, .bool i.isSome] else v0) (if ok then .tuple #[v', .bool i.isSome] else v') := by
        cases ok
        · exact hv
        · exact .tuple (.cons hv (.cons (.bool _) .nil))
      simpa [execOp, ho] using Goes.reads (n := n) hs hrun hv'
    · cases e
  · cases e

theorem goes_mapUpdate {t : TypeId} {m k x : Operand} {u : Ups} (hm : RV φ (ρ m) (ρ' m)) (hk : RV φ (ρ k) (ρ' k)) (hx : RV φ (ρ x) (ρ' x)) (ho : o.op = .mapUpdate t m k x ∨ o.op = .insert t m k x) (e : mapUpdateA P h t (ρ m) (ρ k) (ρ x) = some u) :
    Goes φ h W n ((execOp ρ' o).run P W) undef (h.up u) n := by
  unfold mapUpdateA at e
  split at e
  · rename_i kt el r hu hv
    simp only [Option.bind_eq_some_iff] at e
    obtain ⟨⟨es, clock⟩, hat, e⟩ := e
    simp only at e
    split at e
    · rename_i hok
      simp only [Option.bind_eq_some_iff] at e
      obtain ⟨i, hi, e⟩ := e
      have hk' := RV.of_plain 1 (keyOk_plain hok) hk
      rw [hv] at hm
      generalize hm' : ρ' m = z at hm
      cases hm with
      | map hr =>
        rename_i r'
        obtain ⟨es', hw, hmm⟩ := hs.mapAt hr hat
        obtain ⟨y, hf, hfd⟩ := findKey_of (W := W) hok hmm hi
        have fin : ∀ (es2 es2' : Array MapEntry) (c2 : Nat), RMap φ es2 es2' → u = [(r, some (.map es2 c2))] → (Instr.mapUpdate t (.map (some r')) (ρ k) (ρ' x)).run P W = .ok () { W with heap := W.heap.setIfInBounds r' (.map es2' c2) } →
            Goes φ h W n ((execOp ρ' o).run P W) undef (h.up u) n := fun es2 es2' c2 hr2 hu2 hrun => by
          subst hu2
          have hput := hs.putObj hr (mapAt_some hat) rfl (ob' := .map es2 c2) (O' := .map es2' c2) (fun W' hW' => ⟨rfl, es2', hW', hr2⟩) n
          have := Goes.writes hrun hput.1 hput.2
          rcases ho with ho | ho <;> simpa [execOp, ho, hm', hk'] using this
        cases i with
        | none =>
          cases hfd
          cases e
          refine fin (es.push { key := ρ k, val := ρ x, born := clock }) (es'.push { key := ρ k, val := ρ' x, born := clock }) (clock + 1) (hmm.push ⟨rfl, free_of_plain 1 (keyOk_plain hok), hx, rfl⟩) rfl ?_
          unfold Instr.mapUpdate
          simp only [Sem.run_bind, run_und hu, Result.andThen_ok, run_getObj hw (by intros; simp), keyOk_run (W := W) hok, hf]
          exact run_setObj hw (by intros; simp)
        | some j =>
          obtain ⟨e', h1, rfl⟩ := hfd.at
          simp only [putEntry] at e
          split at e
          · rename_i e0 h2
            split at e
            · rename_i hsame
              cases e
              obtain ⟨e1, h3, h4⟩ := hmm.get _ _ h2
              rw [h1] at h3; cases h3
              refine fin (es.modify j fun e => { e with key := ρ k, val := ρ x }) (es'.modify j fun e => { e with key := ρ k, val := ρ' x }) clock (hmm.modify j fun a b hab => ⟨rfl, free_of_plain 1 (keyOk_plain hok), hx, hab.born⟩) rfl ?_
              unfold Instr.mapUpdate
              have hst : (Instr.keyThatStays (((es'[j]?).map (·.key)).getD (ρ k)) (ρ k)).run P W = .ok (ρ k) W := by
                rw [h1]; exact keyThatStays_same (by simpa [h4.key] using hsame)
              simp only [Sem.run_bind, run_und hu, Result.andThen_ok, run_getObj hw (by intros; simp), keyOk_run (W := W) hok, hf, hst]
              exact run_setObj hw (by intros; simp)
            · cases e
          · cases e
    · cases e
  · cases e

theorem goes_mapEntry (F : Fit P) {t : TypeId} {m k : Operand} {v : Value} {u : Ups} (hm : RV φ (ρ m) (ρ' m)) (hk : RV φ (ρ k) (ρ' k)) (ho : o.op = .mapEntry t m k) (e : mapEntryA P h t (ρ m) (ρ k) = some (v, u)) :
    Goes φ h W n ((execOp ρ' o).run P W) v (h.up u) n := by
  unfold mapEntryA at e
  split at e
  · rename_i kt el r hu hv
    simp only [Option.bind_eq_some_iff] at e
    obtain ⟨⟨es, clock⟩, hat, e⟩ := e
    simp only at e
    split at e
    · rename_i hok
      simp only [Option.bind_eq_some_iff] at e
      obtain ⟨i, hi, e⟩ := e
      have hk' := RV.of_plain 1 (keyOk_plain hok) hk
      rw [hv] at hm
      generalize hm' : ρ' m = z at hm
      cases hm with
      | map hr =>
        rename_i r'
        obtain ⟨es', hw, hmm⟩ := hs.mapAt hr hat
        obtain ⟨y, hf, hfd⟩ := findKey_of (W := W) hok hmm hi
        have fin : ∀ (es2 es2' : Array MapEntry) (c2 : Nat) (v' : Value), RMap φ es2 es2' → RV φ v v' → u = [(r, some (.map es2 c2))] → (Instr.mapEntry t (.map (some r')) (ρ k)).run P W = .ok v' { W with heap := W.heap.setIfInBounds r' (.map es2' c2) } →
            Goes φ h W n ((execOp ρ' o).run P W) v (h.up u) n := fun es2 es2' c2 v' hr2 hv2 hu2 hrun => by
          subst hu2
          have hput := hs.putObj hr (mapAt_some hat) rfl (ob' := .map es2 c2) (O' := .map es2' c2) (fun W' hW' => ⟨rfl, es2', hW', hr2⟩) n
          refine ⟨φ, _, .value v', v', ?_, rfl, hv2, hput.1, hput.2⟩
          have := run_v hrun
          simpa [execOp, ho, hm', hk'] using this
        cases i with
        | none =>
          cases hfd
          simp only [getEntry, Option.map_eq_some_iff] at e
          obtain ⟨z0, hz, e⟩ := e
          cases e
          refine fin (es.push { key := ρ k, val := z0, born := clock }) (es'.push { key := ρ k, val := z0, born := clock }) (clock + 1) (.tuple #[z0, .int .i64 clock]) (hmm.push ⟨rfl, free_of_plain 1 (keyOk_plain hok), RV.of_free (F.zero _ _ hz), rfl⟩) (.tuple (.cons (RV.of_free (F.zero _ _ hz)) (.cons (.int _ _) .nil))) rfl ?_
          unfold Instr.mapEntry
          simp only [Sem.run_bind, run_und hu, Result.andThen_ok, run_getObj hw (by intros; simp), keyOk_run (W := W) hok, hf, run_zero hz, run_setObj hw (by intros; simp)]
          rfl
        | some j =>
          obtain ⟨e', h1, rfl⟩ := hfd.at
          simp only [getEntry] at e
          split at e
          · rename_i e0 h2
            split at e
            · rename_i hsame
              cases e
              obtain ⟨e1, h3, h4⟩ := hmm.get _ _ h2
              rw [h1] at h3; cases h3
              refine fin (es.modify j fun e => { e with key := ρ k }) (es'.modify j fun e => { e with key := ρ k }) clock (.tuple #[e'.val, .int .i64 e'.born]) (hmm.modify j fun a b hab => ⟨rfl, free_of_plain 1 (keyOk_plain hok), hab.val, hab.born⟩) (.tuple (.cons h4.val (.cons (by rw [h4.born]; exact .int _ _) .nil))) rfl ?_
              unfold Instr.mapEntry
              have hst : (Instr.keyThatStays (((es'[j]?).map (·.key)).getD (ρ k)) (ρ k)).run P W = .ok (ρ k) W := by
                rw [h1]; exact keyThatStays_same (by simpa [h4.key] using hsame)
              simp only [Sem.run_bind, run_und hu, Result.andThen_ok, run_getObj hw (by intros; simp), keyOk_run (W := W) hok, hf, hst, run_setObj hw (by intros; simp)]
              rw [h1]; rfl
            · cases e
          · cases e
    · cases e
  · cases e

omit [Idx P] in
theorem goes_entryStore {t : TypeId} {m s x : Operand} {u : Ups} (hm : RV φ (ρ m) (ρ' m)) (hst : RV φ (ρ s) (ρ' s)) (hx : RV φ (ρ x) (ρ' x)) (ho : o.op = .entryStore t m s x) (e : entryStoreA h (ρ m) (ρ s) (ρ x) = some u) :
    Goes φ h W n ((execOp ρ' o).run P W) undef (h.up u) n := by
  unfold entryStoreA at e
  split at e
  · rename_i r kk born hv hsv
    simp only [Option.bind_eq_some_iff, Option.map_eq_some_iff] at e
    obtain ⟨⟨es, clock⟩, hat, i, hi, rfl⟩ := e
    rw [hv] at hm
    rw [hsv] at hst
    generalize hm' : ρ' m = z at hm
    cases hm with
    | map hr =>
      rename_i r'
      obtain ⟨es', hw, hmm⟩ := hs.mapAt hr hat
      have hidx : es'.findIdx? (fun e => (e.born : Int) == born) = some i := by
        have h1 : es'.findIdx? (fun e => (e.born : Int) == born) = (es'.map (·.born)).findIdx? (fun (b : Nat) => (b : Int) == born) := by rw [Array.findIdx?_map]; rfl
        have h2 : es.findIdx? (fun e => (e.born : Int) == born) = (es.map (·.born)).findIdx? (fun (b : Nat) => (b : Int) == born) := by rw [Array.findIdx?_map]; rfl
        rw [h1, hmm.borns, ← h2]; exact hi
      have hput := hs.putObj hr (mapAt_some hat) rfl (ob' := .map (es.modify i fun e => { e with val := ρ x }) clock) (O' := .map (es'.modify i fun e => { e with val := ρ' x }) clock)
        (fun W' hW' => ⟨rfl, _, hW', hmm.modify i fun a b hab => ⟨hab.key, hab.pure, hx, hab.born⟩⟩) n
      have hrun : (Instr.entryStore t (.map (some r')) (ρ' s) (ρ' x)).run P W = .ok () { W with heap := W.heap.setIfInBounds r' (.map (es'.modify i fun e => { e with val := ρ' x }) clock) } := by
        rw [hst.int_inv]
        unfold Instr.entryStore
        simp only [Sem.run_bind, Result.andThen_ok, run_getObj hw (by intros; simp), asInt, asIntOf, Sem.run_pure, hidx]
        exact run_setObj hw (by intros; simp)
      have := Goes.writes hrun hput.1 hput.2
      simpa [execOp, ho, hm'] using this
  · cases e

theorem goes_range (hn : φ n = none) {t : TypeId} {x : Operand} {v : Value} {u : Ups} (hx : RV φ (ρ x) (ρ' x)) (ho : o.op = .range t x) (e : rangeA P h n t (ρ x) = some (v, u)) :
    Goes φ h W n ((execOp ρ' o).run P W) v (h.up u) (n + 1) := by
  have fin : ∀ (it : AObj) (O : Obj), it.writable = true → v = .pointer (some ⟨n, 0, none⟩) → u = [(n, some it)] → (∀ ψ : Phi, φ.le ψ → RObj ψ (W.alloc O) it W.heap.size ⟨0, 0⟩) →
      (Instr.range t (ρ' x)).run P W = .ok (.pointer (some ⟨W.heap.size, 0, none⟩)) (W.alloc O) → Goes φ h W n ((execOp ρ' o).run P W) v (h.up u) (n + 1) := fun it O hw1 hv hu hr hrun => by
    subst hv hu
    obtain ⟨φ', _, hle, hnew, hs', g⟩ := hs.newObj (P := P) hn hr hw1
    exact ⟨φ', _, _, _, by simpa [execOp, ho] using run_v hrun, rfl, .ptr (.of_new hnew), hs', g⟩
  unfold rangeA at e
  split at e
  · rename_i hu hv; cases e
    rw [hv] at hx
    generalize hx' : ρ' x = z at hx fin
    cases hx
    refine fin _ (.mapIter none 0 #[] 0) rfl rfl rfl (fun ψ _ => ⟨rfl, none, alloc_new .., trivial⟩) ?_
    unfold Instr.range
    simp only [Sem.run_bind, run_und hu, Result.andThen_ok]
    rfl
  · rename_i m hu hv
    simp only [Option.map_eq_some_iff] at e
    obtain ⟨⟨es, clock⟩, hat, e⟩ := e
    cases e
    rw [hv] at hx
    generalize hx' : ρ' x = z at hx fin
    cases hx with
    | map hr =>
      rename_i m'
      obtain ⟨es', hw, hmm⟩ := hs.mapAt hr hat
      refine fin _ (.mapIter (some m') clock #[] clock) rfl rfl rfl (fun ψ hψ => ⟨rfl, some m', alloc_new .., hr.mono hψ⟩) ?_
      unfold Instr.range
      simp only [Sem.run_bind, run_und hu, Result.andThen_ok, run_getObj hw (by intros; simp)]
      rfl
  · cases e

theorem iter_of {a a' : Addr} {r : Nat} (ra : RA φ a a') (ha : a.block = r) (h0 : a.off = 0) {m : Option Nat} {since : Nat} {seen : Array Nat} {st : Nat} (hit : h r = some (.mapIter m since seen st)) :
    ∃ B m', a' = ⟨B, 0, none⟩ ∧ RB φ r B ∧ W.heap[B]? = some (.mapIter m' since seen st) ∧ ROpt φ m m' := by
  obtain ⟨B, o, hφ, ho, m', hw, hm⟩ := hs.obj _ _ hit
  obtain ⟨_, hs', o', hφ', hoff⟩ := ra
  subst ha ho
  rw [hφ] at hφ'
  cases hφ'
  refine ⟨a'.block, m', ?_, hφ, hw, hm⟩
  cases a' with
  | mk b o s =>
    simp only at hs' hoff
    subst hs'
    simp [hoff, h0]

omit [Idx P] in
theorem goes_entry {x : Operand} {v : Value} (hx : RV φ (ρ x) (ρ' x)) (ho : o.op = .entry x) (e : entryA h (ρ x) = some v) : Goes φ h W n ((execOp ρ' o).run P W) v (h.up []) n := by
  unfold entryA at e
  split at e
  · rename_i r sp hv
    split at e
    · rename_i m since seen st hit
      simp only [Option.bind_eq_some_iff] at e
      obtain ⟨stamp, hst, ⟨es, clock⟩, hat, e⟩ := e
      simp only at e
      split at e
      · rename_i hcl
        simp only [Option.map_eq_some_iff] at e
        obtain ⟨y, hy, rfl⟩ := e
        rw [hv] at hx
        generalize hx' : ρ' x = z at hx
        cases hx with
        | ptr ra =>
          obtain ⟨B, m', rfl, hB, hw, hm⟩ := iter_of hs ra rfl rfl hit
          cases m' with
          | none => exact hm.elim
          | some m' =>
            obtain ⟨es', hw', hmm⟩ := hs.mapAt hm hat
            obtain ⟨y', hy', hr⟩ := hmm.list.find (fun b => b == stamp) (by simpa using hy)
            have hrun : (Instr.entry (.pointer (some ⟨B, 0, none⟩))).run P W = .ok (.tuple #[y'.key, y'.val]) W := by
              unfold Instr.entry
              have hfind : es'.find? (fun e => e.born == stamp) = some y' := by simpa using hy'
              have hne : clock = st := Nat.eq_of_beq_eq_true hcl
              simp [Sem.run_bind, run_getObj hw (by intros; simp), hst, run_getObj hw' (by intros; simp), hne, hfind]
            have hkey : RV φ y.key y'.key := by rw [hr.key]; exact RV.of_free hr.pure
            simpa [execOp, ho, hx'] using Goes.reads (n := n) hs hrun (.tuple (.cons hkey (.cons hr.val .nil)))
      · cases e
    · cases e
  · cases e
end ops
end Go.Ab
/- Each operation that calls nothing: the model does what is told of it. Part 7: rows, and what is built in. -/
namespace Go.Ab
open Go
variable {P : Program} [Idx P] {φ : Phi} {h : Look} {W : World}

theorem zeroRow_rel (F : Fit P) {el : TypeId} {size n : Nat} {cs : List Value} (e : zeroRow P el size n = some cs) :
    cs.length = n * size ∧ RL φ cs cs ∧ ∃ z : Array Value, (if n * size = 0 then pure #[] else do pure (← zeroValue el).cells : Sem (Array Value)).run P W = .ok z W ∧ ((Array.range (n * size)).map fun i => z[i % z.size]!).toList = cs := by
  unfold zeroRow at e
  split at e
  · rename_i h0
    cases e
    have h0 := Nat.eq_of_beq_eq_true h0
    refine ⟨by simp [h0], .nil, #[], by rw [if_pos h0]; rfl, ?_⟩
    rw [h0]; simp
  · rename_i h0
    simp only [Option.bind_eq_some_iff] at e
    obtain ⟨z, hz, e⟩ := e
    split at e
    · rename_i hsz
      cases e
      have hsz := Nat.eq_of_beq_eq_true hsz
      have hne : ¬ n * size = 0 := fun hh => h0 (by rw [hh]; rfl)
      have hzr : RL φ z.cells.toList z.cells.toList := (RV.of_free (F.zero _ _ hz)).cells
      refine ⟨by rw [zeros_length]; simp [hsz], ?_, z.cells, ?_, by rw [← hsz]; exact zeros_eq _ _⟩
      · have : ∀ k, RL φ (zeros z.cells.toList k) (zeros z.cells.toList k) := fun k => by
          induction k with
          | zero => exact .nil
          | succ k ih => exact hzr.append ih
        exact this n
      · rw [if_neg hne]; simp [run_zero hz]
    · cases e
theorem zeros_rel (F : Fit P) {el : TypeId} {z : Value} (hz : zeroA P el = some z) : ∀ k, RL φ (zeros z.cells.toList k) (zeros z.cells.toList k)
  | 0 => .nil
  | k + 1 => ((RV.of_free (F.zero _ _ hz)).cells).append (zeros_rel F hz k)

omit [Idx P] in
/-- The first elements of a slice. -/
theorem Sim.first (s : Sim φ h W) {a : Option Addr} {l c n size : Nat} {x' : Value} {vs : List Value} (hx : RV φ (.slice a l c) x') (hn : n ≤ l) (e : firstOf h size n (.slice a l c) = some vs) :
    vs.length = n * size ∧ ∃ vs', RL φ vs vs' ∧ (Builtin.firstCells size n x').run P W = .ok vs'.toArray W := by
  cases hx with
  | sliceNil =>
    cases e
    exact ⟨by rw [show n = 0 by omega]; simp, [], .nil, by simp [Builtin.firstCells]⟩
  | slice ra hc =>
    rename_i a a' c'
    have e : loadN h a (n * size) = some vs := e
    obtain ⟨s1, s2, o', s3, s4, _⟩ := ra
    have hpos : n * size ≠ 0 → 0 < c' := fun h0 => by
      obtain ⟨h1, h2, _⟩ := hc
      have : n ≠ 0 := fun hh => h0 (by rw [hh]; simp)
      omega
    obtain ⟨vs', hl, hr, hcell⟩ := s.load (fun h0 => ⟨s1, s2, o', s3, s4 (hpos h0)⟩) e
    have hrun := run_loadCells (P := P) a' vs' hcell
    rw [hl] at hrun
    exact ⟨by rw [hr.length, hl], vs', hr, by simpa [Builtin.firstCells] using hrun⟩

omit [Idx P] in
theorem lenOf_rel {x x' : Value} {n : Nat} (hx : RV φ x x') (e : lenOf x = some n) : (Builtin.lenOf x').run P W = .ok n W := by
  unfold lenOf at e
  split at e
  · cases e
    cases hx <;> rfl
  · cases e; rw [hx.string_inv]; rfl
  · cases e

section ops
variable {n : Nat} (hs : Sim φ h W) {ρ ρ' : Operand → Value} {o : Oper}
include hs

theorem goes_buildSlice (F : Fit P) (hn : φ n = none) {t : TypeId} {len : Nat} {parts : Array (Nat × Operand)} {v : Value} {u : Ups} (hp : ∀ x ∈ parts.toList, RV φ (ρ x.2) (ρ' x.2)) (ho : o.op = .buildSlice t len parts)
    (e : buildSliceO P n t len (parts.map fun (i, x) => (i, ρ x)).toList = some (v, u)) : Goes φ h W n ((execOp ρ' o).run P W) v (h.up u) (n + 1) := by
  unfold buildSliceO at e
  simp only [Option.bind_eq_some_iff] at e
  obtain ⟨cs, hcs, e⟩ := e
  unfold buildSliceA at hcs
  split at hcs
  · rename_i el hu
    simp only [Option.bind_eq_some_iff] at hcs
    obtain ⟨size, hsz, hcs⟩ := hcs
    split at hcs
    · rename_i hle
      simp only [Option.bind_eq_some_iff, Option.map_eq_some_iff] at hcs
      obtain ⟨zs, hzs, r, hr, rfl⟩ := hcs
      obtain ⟨hl, hzr, z, hz, hzz⟩ := zeroRow_rel (φ := φ) (W := W) F hzs
      obtain ⟨hpl, hpr⟩ := parts_rel hp
      obtain ⟨r', hr', hrr⟩ := fill_rel _ _ hpl hpr zs.toArray zs.toArray (by simpa using hzr) _ hr
      have hle := Nat.le_of_ble_eq_true hle
      have hz0 : ((Array.range (len * size)).map fun i => z[i % z.size]!) = zs.toArray := by
        apply Array.ext'; rw [hzz]
      have hrun : (Instr.buildSlice t len (parts.map fun (i, x) => (i, ρ' x))).run P W = .ok (.slice (some ⟨W.heap.size, 0, none⟩) len len) (W.alloc (.cells r' el)) := by
        unfold Instr.buildSlice
        have hno : ¬ (len * size > 2 ^ 24) := by omega
        by_cases h0 : len * size = 0
        · have hz1 : z = #[] := by
            rw [if_pos h0] at hz
            simp only [Sem.run_pure, Result.ok.injEq] at hz
            exact hz.1.symm
          subst hz1
          have hr2 : Instr.fill (fun i => some (i * size, size)) #[] (parts.map fun (i, x) => (i, ρ' x)).toList = some r' := by
            rw [h0] at hz0
            rw [← hz0, show ((Array.range 0).map fun (i : Nat) => (#[] : Array Value)[i % (#[] : Array Value).size]!) = #[] by apply Array.ext'; simp] at hr'
            exact hr'
          simp only [Sem.run_bind, run_und hu, run_size hsz, Result.andThen_ok, if_neg hno, if_pos h0, Sem.run_pure]
          rw [h0]
          have : ((Array.range 0).map fun (i : Nat) => (#[] : Array Value)[i % (#[] : Array Value).size]!) = #[] := by apply Array.ext'; simp
          rw [this, hr2]
          simp [Go.newRow]
        · rw [if_neg h0] at hz
          have hz' : (do pure (← zeroValue el).cells : Sem (Array Value)).run P W = .ok z W := hz
          simp only [Sem.run_bind] at hz'
          simp only [Sem.run_bind, run_und hu, run_size hsz, Result.andThen_ok, if_neg hno, if_neg h0, Sem.run_pure]
          cases hzv : (zeroValue el).run P W with
          | halt q w1 => rw [hzv] at hz'; cases hz'
          | ok q w1 =>
            rw [hzv] at hz'
            simp only [Result.andThen_ok, Sem.run_pure, Result.ok.injEq] at hz'
            obtain ⟨rfl, rfl⟩ := hz'
            simp only [Result.andThen_ok]
            rw [hz0, hr']
            simp [Go.newRow]
      have := Goes.row (P := P) (mk' := fun a => .slice (some a) len len) hs hn e hrr hrun fun ψ _ hnew => .slice (.of_new hnew _ _ fun hh => absurd (exact_mod _) hh) (RCap.exact' (Nat.le_refl _))
      simpa [execOp, ho] using this
    · cases hcs
  · cases hcs

theorem goes_makeSlice (F : Fit P) (hn : φ n = none) {t : TypeId} {l c : Operand} {v : Value} {u : Ups} (hl : RV φ (ρ l) (ρ' l)) (hc : RV φ (ρ c) (ρ' c)) (ho : o.op = .makeSlice t l c)
    (e : makeSliceO P n t (ρ l) (ρ c) = some (v, u)) : Goes φ h W n ((execOp ρ' o).run P W) v (h.up u) (n + 1) := by
  unfold makeSliceO at e
  simp only [Option.bind_eq_some_iff] at e
  obtain ⟨⟨cs, ln, cn⟩, hcs, e⟩ := e
  unfold makeSliceA at hcs
  split at hcs
  · rename_i el l1 c1 hu hlv hcv
    simp only [Option.bind_eq_some_iff] at hcs
    obtain ⟨i, hi, hcs⟩ := hcs
    split at hcs
    · rename_i hlc
      split at hcs
      · rename_i hfit
        simp only [Option.map_eq_some_iff] at hcs
        obtain ⟨zs, hzs, hcs⟩ := hcs
        cases hcs
        obtain ⟨hl0, hzr, z, hz, hzz⟩ := zeroRow_rel (φ := φ) (W := W) F hzs
        obtain ⟨f1, f2, f3⟩ := fits_size hfit
        rw [hlv] at hl
        rw [hcv] at hc
        have hz0 : ((Array.range (c1.toNat * i.size)).map fun i => z[i % z.size]!) = cs.toArray := by
          apply Array.ext'; rw [hzz]
        have wl : IntKind.i64.wrap l1 = l1 := by unfold IntKind.wrap; simp [IntKind.signed, IntKind.bits]; omega
        have wc : IntKind.i64.wrap c1 = c1 := by unfold IntKind.wrap; simp [IntKind.signed, IntKind.bits]; omega
        have hb : (i.bytes : Int) * c1 ≤ 2 ^ 40 := by
          have h1 : ((c1.toNat * i.bytes : Nat) : Int) ≤ 2 ^ 40 := by exact_mod_cast f3
          have h2 : ((c1.toNat : Nat) : Int) = c1 := Int.toNat_of_nonneg (by omega)
          rw [Int.natCast_mul, h2, Int.mul_comm] at h1
          exact h1
        have hrun : (Instr.makeSlice t (.int .i64 l1) (.int .i64 c1)).run P W = .ok (.slice (some ⟨W.heap.size, 0, none⟩) l1.toNat c1.toNat) (W.alloc (.cells cs.toArray el)) := by
          have hi' : P.info? el = some i := by rw [← infA_eq]; exact hi
          have n1 : ¬ c1 < 0 := by omega
          have n2 : ¬ (281474976710656 < (i.bytes : Int) * c1) := by omega
          have n3 : ¬ l1 < 0 := by omega
          have n4 : ¬ c1 < l1 := by omega
          rw [← hz0]
          by_cases hn : c1.toNat * i.size = 0
          · have hz1 : z = #[] := by
              rw [if_pos hn] at hz
              simp only [Sem.run_pure, Result.ok.injEq] at hz
              exact hz.1.symm
            subst hz1
            simp [Instr.makeSlice, run_und hu, asInt, asIntOf, typeInfo, hi', sizeOf, wl, wc, n1, n2, n3, n4, hn, Go.newRow]
          · rw [if_neg hn] at hz
            have hz' : (do pure (← zeroValue el).cells : Sem (Array Value)).run P W = .ok z W := hz
            simp only [Sem.run_bind] at hz'
            cases hzv : (zeroValue el).run P W with
            | halt q w1 => rw [hzv] at hz'; cases hz'
            | ok q w1 =>
              rw [hzv] at hz'
              simp only [Result.andThen_ok, Sem.run_pure, Result.ok.injEq] at hz'
              obtain ⟨rfl, rfl⟩ := hz'
              simp [Instr.makeSlice, run_und hu, asInt, asIntOf, typeInfo, hi', sizeOf, hzv, wl, wc, n1, n2, n3, n4, hn, Go.newRow]
        rw [← hl.int_inv, ← hc.int_inv] at hrun
        have := Goes.row (P := P) (mk' := fun a => .slice (some a) l1.toNat c1.toNat) hs hn e (by simpa using hzr) hrun fun ψ _ hnew => .slice (.of_new hnew _ _ fun hh => absurd (exact_mod _) hh) (RCap.exact' (by show l1.toNat ≤ c1.toNat; omega))
        simpa [execOp, ho] using this
      · cases hcs
    · cases hcs
  · cases hcs
end ops
end Go.Ab
