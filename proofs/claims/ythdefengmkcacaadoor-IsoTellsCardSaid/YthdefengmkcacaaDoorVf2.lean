/- A verified evaluator of the model's code, part 2: what it answers is what the machine comes to. No condition. -/
import Derived.Test.YthdefengmkcacaaDoorVf1
namespace Go.Proofs.YthdefengmkcacaaDoor.Vf
set_option linter.unusedVariables false
set_option linter.unusedSimpArgs false

section ops
variable {P : Program} {C : Cx} {R : Nat → List AV → Option Res} {ρ : Rho} {st : St} {a : Act} {w : World} {oper : Oper} {s : SV} {st' : St}

theorem flatMap_bytes : ∀ bs : List UInt8, (bs.map fun b => Value.int .u8 (b.toNat : Int)).flatMap (·.cells.toList) = bs.map fun b => Value.int .u8 (b.toNat : Int)
  | [] => rfl
  | b :: bs => by
    simp only [List.map_cons, List.flatMap_cons, flatMap_bytes bs]
    rfl

theorem app_ok {t : Nat} {x y : AO} {sz : Nat} {ty : Ty} {by_ : Bool} (hI : Inv C ρ st a.tmps w) (htg : t < rT) (h : step C.G R (.app t x y sz ty by_) st (fun s st' => some (s, st')) = some (s, st')) {T U : TypeId} {x' y' : Operand}
    (ho : oper.op = .call ⟨.builtin .append, #[x', y'], #[T, U]⟩) (hx : fitO x x' = true) (hy : fitO y y' = true) (ht : appFits P T U sz by_ = true) : Good P C oper a w s st' := by
  obtain ⟨e, i, z, d, hT, hi, hz, hsz, h1s, hby, hzs, hb1, hU, hd⟩ := appFits_ok ht
  simp only [step, Option.bind_eq_some_iff] at h
  obtain ⟨sx, hsx, sy, hsy, p, hp, h⟩ := h
  have hxr := fitO_sound hI hx hsx
  have hyr := fitO_sound hI hy hsy
  obtain ⟨hI1, hyr1, hsh, hbad⟩ := give_ok hI hyr hp
  split at h
  case h_2 => cases h
  rename_i t' off len cap
  simp only [Option.bind_eq_some_iff] at h
  obtain ⟨blk, hblk, h⟩ := h
  cases hfz : blk.fz
  case true => simp [hfz] at h
  simp only [hfz, cond_false, Option.bind_eq_some_iff] at h
  obtain ⟨va, hva, h⟩ := h
  have hxr1 : RelS w (bad C.Bo ρ p.2) ρ p.2 (.own t' off len cap) (a.eval x') := (hxr.mono (Agree.refl _ _) fun x _ hx => hbad x hx).shape hsh
  have fin : ∀ {vc vr : AV} {news : List Value}, CR w (bad C.Bo ρ p.2) sz vc news → Appended P w sz vc.count (a.eval y') news → blk.sz = sz →
      (∀ {w : World} {B : Nat → Prop} {vs us : List Value}, CR w B sz va vs → CR w B sz vc us → CR w B sz vr (vs ++ us)) → vr.count = va.count + vc.count → (vr.count = 0 → (vr.blk sz).void) → vr.count ≤ 1099511627776 → (∀ s, vr = .bytes s → z = .int .u8 0 ∧ ∃ s, va = .bytes s) →
      s = .own t 0 vr.count none → st' = (st.withM p.2).renew t' t (vr.blk sz) → Good P C oper a w s st' := by
    intro vc vr news h1 h2 h3 h4 h5 h6 h7 h70 h8 h9
    subst h8; subst h9
    obtain ⟨v, w', ρ', g1, g2, g3⟩ := app_core (st := st.withM p.2) (t := t) htg hT hi hz hsz h1s hby hzs hU hd hI1 hxr1 hblk hfz h3 hva h1 h2 h4 h5 h6 h7 h70 oper.type
    refine Does.value ?_ ⟨ρ', g2, g3⟩
    obtain ⟨cs, hcs⟩ := ex_builtin2 (ρ := a.eval) ho
    rw [hcs]
    exact run_v g1
  have hbsz : ∀ {bs : List UInt8}, va = .bytes bs → blk.sz = 1 := by
    intro bs hb; subst hb; cases blk <;> simp_all [Blk.cut, Blk.sz]
  have hrsz : ∀ {zz : Nat} {bs : List AV}, va = .row zz bs → blk.sz = zz := by
    intro zz bs hb; subst hb; cases blk <;> simp_all [Blk.cut, Blk.sz]
  split at h
  · rename_i bs cs hpc
    obtain ⟨hlim, h⟩ := need_some h
    simp only [Option.some.injEq, Prod.mk.injEq, decide_eq_true_eq] at h hlim
    obtain ⟨rfl, rfl⟩ := h
    obtain ⟨e1, e0⟩ := hb1 rfl
    subst e1
    rw [hpc] at hyr1
    obtain ⟨news, k1, k2⟩ := appended_ok (P := P) (sz := 1) hyr1 rfl
    exact fin (vr := .bytes (bs ++ cs)) k1 k2 (hbsz rfl) CR.appB (by simp [AV.count]) (fun h0 => List.eq_nil_of_length_eq_zero h0) (by simpa [AV.count] using hlim) (fun _ _ => ⟨e0, _, rfl⟩) rfl rfl
  · rename_i bs cs hpc
    obtain ⟨hlim, h⟩ := need_some h
    simp only [Option.some.injEq, Prod.mk.injEq, decide_eq_true_eq] at h hlim
    obtain ⟨rfl, rfl⟩ := h
    obtain ⟨e1, e0⟩ := hb1 rfl
    subst e1
    rw [hpc] at hyr1
    obtain ⟨news, k1, k2⟩ := appendedS_ok (P := P) hyr1
    exact fin (vc := .bytes cs) (vr := .bytes (bs ++ cs)) k1 k2 (hbsz rfl) CR.appB (by simp [AV.count]) (fun h0 => List.eq_nil_of_length_eq_zero h0) (by simpa [AV.count] using hlim) (fun _ _ => ⟨e0, _, rfl⟩) rfl rfl
  · rename_i zz bs yy cs hpc
    obtain ⟨hlim, h⟩ := need_some h
    simp only [Option.some.injEq, Prod.mk.injEq, decide_eq_true_eq, Bool.and_eq_true] at h hlim
    obtain ⟨rfl, rfl⟩ := h
    obtain ⟨⟨q1, q2⟩, q3⟩ := hlim
    have q1 := Nat.eq_of_beq_eq_true q1
    have q2 := Nat.eq_of_beq_eq_true q2
    subst q1; subst q2
    rw [hpc] at hyr1
    obtain ⟨news, k1, k2⟩ := appended_ok (P := P) (sz := yy) hyr1 rfl
    exact fin (vr := .row yy (bs ++ cs)) k1 k2 (hrsz rfl) CR.appR (by simp [AV.count]) (fun h0 => List.eq_nil_of_length_eq_zero h0) (by simpa [AV.count] using q3) (fun _ h => by cases h) rfl rfl
  · cases h

theorem get_kill1 {st : St} {t : Nat} : get (st.kill t).M t = none := by
  show get (killM t st.M) t = none
  rw [get_killM]; simp

theorem nilOwn_ok {t : Nat} {ty : Option (Nat × Ty)} (hI : Inv C ρ st a.tmps w) (htg : t < rT) (h : step C.G R (.nilOwn t ty) st (fun s st' => some (s, st')) = some (s, st')) {n c : Nat}
    (ho : oper.op = .move (.const (.slice none n c)) ∨ oper.op = .assign (.const (.slice none n c))) (hn : (Nat.beq n 0 && Nat.beq c 0) = true) : Good P C oper a w s st' := by
  simp only [Bool.and_eq_true] at hn
  have h1 := Nat.eq_of_beq_eq_true hn.1; have h2 := Nat.eq_of_beq_eq_true hn.2; subst h1; subst h2
  simp only [step, Option.some.injEq, Prod.mk.injEq] at h
  obtain ⟨rfl, rfl⟩ := h
  have hrun : (execOp a.eval oper).run P w = .ok (.value (.slice none 0 0)) w := by
    rcases ho with ho | ho
    · rw [ex_move ho]; rfl
    · rw [ex_assign ho]; rfl
  cases ty with
  | none => exact Does.value hrun ⟨upd ρ t none, (hI.kill t none).virt htg get_kill1 (by simp [upd]) rfl, .ownNil t none (.bytes [] false) (by simp [St.withM, get]) (by simp [upd])⟩
  | some z => exact Does.value hrun ⟨upd ρ t none, (hI.kill t none).virt htg get_kill1 (by simp [upd]) rfl, .ownNil t none (.row z.1 [] false) (by simp [St.withM, get]) (by simp [upd])⟩

/-- What is new in memory does not spoil what is known. -/
theorem bad_fresh {M : List (Nat × Blk)} {t : Nat} {blk : Blk} {o cp b : Nat} (hb : w.heap.size ≤ b) (x : Nat) (hx : x < w.heap.size)
    (h : bad C.Bo (upd ρ t (some (b, o, cp))) ((t, blk) :: killM t M) x) : bad C.Bo ρ M x := by
  rcases h with h | ⟨u, bu, ou, cu, g1, g2, g3⟩
  · exact .inl h
  · rw [get_cons] at g1
    by_cases hut : u = t
    · subst hut; simp only [upd, if_true, Option.some.injEq, Prod.mk.injEq] at g3; omega
    · simp only [hut, if_false] at g1
      exact bad_kill x (.inr ⟨u, bu, ou, cu, g1, g2, g3⟩)

theorem fresh_box {M : List (Nat × Blk)} (hI : Inv C ρ (st.withM M) a.tmps w) {t : Nat} (htg : t < rT) {cs : List AV} {vs : List Value} {e : TypeId} {w' : World} (hw : w'.heap = w.heap.push (.cells vs.toArray e)) (hr : RelL w (bad C.Bo ρ M) cs vs) (ho : w'.os = w.os ∧ w'.tape = w.tape ∧ w'.output = w.output := by exact ⟨rfl, rfl, rfl⟩) :
    ∃ ρ', Inv C ρ' ((st.withM M).kill t |>.withM ((t, .box (cs.map .imm)) :: killM t M)) a.tmps w' ∧
      RelS w' (bad C.Bo ρ' ((t, .box (cs.map .imm)) :: killM t M)) ρ' ((t, .box (cs.map .imm)) :: killM t M) (.ptr t 0 0) (.pointer (some ⟨w.heap.size, 0, none⟩)) := by
  have hA : Agree (fun _ => False) w w' := ⟨by rw [hw]; simp, fun b hb _ => by rw [hw]; simp [Array.getElem?_push, Nat.ne_of_lt hb], ho⟩
  refine ⟨upd ρ t (some (w.heap.size, 0, 0)), ?_, ?_⟩
  · refine (hI.kill t _).fresh (b := w.heap.size) (o := 0) (cp := 0) htg get_kill1 (by simp [upd]) hA (Nat.le_refl _) ?_
    refine ⟨vs.toArray, e, (0, 0), by rw [hw]; simp, .inl rfl, by simp [hr.length], fun j s hj => ?_⟩
    simp only [List.getElem?_map, Option.map_eq_some_iff] at hj
    obtain ⟨x, hx, rfl⟩ := hj
    obtain ⟨v, hv, hrel⟩ := hr.get hx
    exact ⟨v, by simpa using hv, .imm _ _ (hrel.mono hA.none (bad_fresh (Nat.le_refl _)))⟩
  · have := RelS.ptr (w := w') (B := bad C.Bo (upd ρ t (some (w.heap.size, 0, 0))) ((t, .box (cs.map .imm)) :: killM t M)) (ρ := upd ρ t (some (w.heap.size, 0, 0))) (M := (t, .box (cs.map .imm)) :: killM t M) t 0 0 w.heap.size 0 0 (.box (cs.map .imm)) (by simp [get]) (by simp [upd])
    simpa using this

theorem fresh_row {M : List (Nat × Blk)} (hI : Inv C ρ (st.withM M) a.tmps w) {t : Nat} (htg : t < rT) {v : AV} {vs : List Value} {e : TypeId} {w' : World} {sz : Nat} (hw : w'.heap = w.heap.push (.cells vs.toArray e)) (hr : CR w (bad C.Bo ρ M) sz v vs) (cap : Option Nat) (hlim : ∀ s, v = .bytes s → v.count ≤ 9223372036854775807) (ho : w'.os = w.os ∧ w'.tape = w.tape ∧ w'.output = w.output := by exact ⟨rfl, rfl, rfl⟩) :
    ∃ ρ', Inv C ρ' ((st.withM M).kill t |>.withM ((t, v.blk sz) :: killM t M)) a.tmps w' ∧
      RelS w' (bad C.Bo ρ' ((t, v.blk sz) :: killM t M)) ρ' ((t, v.blk sz) :: killM t M) (.own t 0 v.count cap) (.slice (some ⟨w.heap.size, 0, none⟩) v.count v.count) := by
  have hA : Agree (fun _ => False) w w' := ⟨by rw [hw]; simp, fun b hb _ => by rw [hw]; simp [Array.getElem?_push, Nat.ne_of_lt hb], ho⟩
  refine ⟨upd ρ t (some (w.heap.size, 0, v.count)), ?_, ?_⟩
  · refine (hI.kill t _).fresh (b := w.heap.size) (o := 0) (cp := v.count) htg get_kill1 (by simp [upd]) hA (Nat.le_refl _) ?_
    exact RelBlk.of (cells := vs.toArray) (e := e) (fr := (0, 0)) (hr.mono hA.none (bad_fresh (Nat.le_refl _))) (by rw [hw]; simp) (.inl rfl) (Nat.le_refl _) (by simp [hr.len]) (fun j u hj => by simpa using hj) fun s hs => ⟨hlim s hs, fun j hj => by
      subst hs
      rw [Nat.zero_add, List.getElem?_toArray]
      exact hr.u8 (by rw [hr.len, hr.1, Nat.mul_one]; exact hj)⟩
  · have := RelS.own (w := w') (B := bad C.Bo (upd ρ t (some (w.heap.size, 0, v.count))) ((t, v.blk sz) :: killM t M)) (ρ := upd ρ t (some (w.heap.size, 0, v.count))) (M := (t, v.blk sz) :: killM t M) t 0 v.count cap w.heap.size 0 v.count v.count (v.blk sz)
      (by simp [get]) (by simp [upd]) (by omega) (by omega) (by revert hr; cases v <;> intro hr <;> first | exact hr.elim | (simp [AV.blk, Blk.count, AV.count]))
    simpa using this

def zeroFits (P : Program) (t : TypeId) (zero : List AV) : Bool :=
  match P.info? t with
  | some i => (match i.zero with | some z => fitVs zero z.cells.toList | none => false)
  | none => false

theorem alloc_ok {t : Nat} {zero : List AV} (hI : Inv C ρ st a.tmps w) (htg : t < rT) (h : step C.G R (.alloc t zero) st (fun s st' => some (s, st')) = some (s, st')) {e : TypeId} (ho : oper.op = .alloc e) (hz : zeroFits P e zero = true) : Good P C oper a w s st' := by
  simp only [step, Option.some.injEq, Prod.mk.injEq] at h
  obtain ⟨rfl, rfl⟩ := h
  unfold zeroFits at hz
  split at hz
  · rename_i i hi
    split at hz
    · rename_i z hzz
      have hr : RelL w (bad C.Bo ρ st.M) zero z.cells.toList := fitVs_ok hz
      obtain ⟨ρ', g1, g2⟩ := fresh_box (M := st.M) (st := st) (t := t) (e := e) (w' := { w with heap := w.heap.push (.cells z.cells.toList.toArray e) }) hI htg rfl hr
      refine Does.value (v := .pointer (some ⟨w.heap.size, 0, none⟩)) (w' := { w with heap := w.heap.push (.cells z.cells.toList.toArray e) }) ?_ ⟨ρ', g1, g2⟩
      rw [ex_alloc ho]
      refine run_v ?_
      have h1 : (zeroValue e).run P w = .ok z w := by
        unfold zeroValue
        rw [run_bind_ok (run_typeInfo hi), hzz]; rfl
      unfold Instr.alloc
      rw [run_bind_ok h1]
      rfl
    · cases hz
  · cases hz

theorem box_ok {t : Nat} {x : AO} {sz : Nat} (hI : Inv C ρ st a.tmps w) (htg : t < rT) (h : step C.G R (.box t x sz) st (fun s st' => some (s, st')) = some (s, st')) {e : TypeId} {x' : Operand} (ho : oper.op = .box e x') (hx : fitO x x' = true) : Good P C oper a w s st' := by
  simp only [step, Option.bind_eq_some_iff] at h
  obtain ⟨u, hu, h⟩ := h
  have h1 := fitO_sound hI hx hu
  split at h
  · cases h1 with
    | imm _ _ h1 =>
    obtain ⟨_, h⟩ := need_some h
    simp only [Option.some.injEq, Prod.mk.injEq] at h
    obtain ⟨rfl, rfl⟩ := h
    obtain ⟨ρ', g1, g2⟩ := fresh_box (M := st.M) (st := st) (t := t) (e := e) (w' := { w with heap := w.heap.push (.cells (a.eval x').cells.toList.toArray e) }) hI htg rfl h1.flat
    exact Does.value (v := .pointer (some ⟨w.heap.size, 0, none⟩)) (w' := { w with heap := w.heap.push (.cells (a.eval x').cells.toList.toArray e) }) (by rw [ex_box ho]; exact run_v rfl) ⟨ρ', g1, g2⟩
  · cases h

theorem bsliceOwn_ok {t : Nat} {parts : List AO} {sz : Nat} {ty : Ty} {by_ : Bool} (hI : Inv C ρ st a.tmps w) (htg : t < rT) (h : step C.G R (.bsliceOwn t parts sz ty by_) st (fun s st' => some (s, st')) = some (s, st')) {T : TypeId} {n : Nat} {qs : Array (Nat × Operand)}
    (ho : oper.op = .buildSlice T n qs) (ht : bsliceFits P T n parts qs.toList sz = true) (hsz : by_ = true → sz = 1) (hlim : Nat.ble n 1000000 = true) : Good P C oper a w s st' := by
  have ht' := ht
  unfold bsliceFits at ht'
  split at ht'
  · split at ht'
    · simp only [Bool.and_eq_true] at ht'
      obtain ⟨⟨⟨⟨_, h3⟩, _⟩, _⟩, h6⟩ := ht'
      have e3 := Nat.eq_of_beq_eq_true h3
      obtain ⟨hl, e6⟩ := fitElems_L h6
      simp only [step] at h
      obtain ⟨vs, M', h, hI', hr, hbad, _⟩ := giveL_ok (P := P) hI hl h
      rw [List.map_map] at hr
      obtain ⟨v, h, hc, _, hv⟩ := rowOf_ok hr h hsz
      simp only [Option.bind_eq_some_iff, Option.some.injEq, Prod.mk.injEq] at h
      obtain ⟨blk, hblk, rfl, rfl⟩ := h
      obtain ⟨e, hrun⟩ := run_bslice (w := w) ht (ev := a.eval) fun q hq => hc _ (List.mem_map.2 ⟨q, hq, rfl⟩)
      have hnn : vs.length = n := by rw [hr.length]; simp [e3, e6]
      have hcr : CR w (bad C.Bo ρ M') sz v ((qs.toList.map (a.eval ∘ fun x => x.2)).flatMap (·.cells.toList)) ∧ v.count = vs.length ∧ blk = v.blk sz := by
        split at hv
        · obtain ⟨h1, h2, h3⟩ := hv
          subst h1
          refine ⟨⟨hsz rfl, ?_⟩, h2, by simpa [newBlk, AV.blk] using hblk.symm⟩
          rw [h3]
          exact flatMap_bytes _
        · obtain ⟨h1, h2, h3, h4, h5⟩ := hv
          subst h1; subst h2; subst h3
          exact ⟨⟨rfl, h4, hr.flats.ones h5, hr.flats⟩, rfl, by simpa [newBlk, AV.blk] using hblk.symm⟩
        · exact hv.elim
      obtain ⟨k1, k2, rfl⟩ := hcr
      obtain ⟨ρ', g1, g2⟩ := fresh_row (st := st) (t := t) (e := e) (w' := { w with heap := w.heap.push (.cells ((qs.toList.map fun q => a.eval q.2).flatMap (·.cells.toList)).toArray e) }) hI' htg rfl k1 none (fun s hs => by rw [k2, hnn]; exact Nat.le_trans (Nat.le_of_ble_eq_true hlim) (by decide))
      rw [k2, hnn] at g2
      exact Does.value (by rw [ex_buildSlice ho]; exact run_v hrun) ⟨ρ', g1, by rw [hnn]; exact g2⟩
    · cases ht'
  · cases ht'

def voidV (by_ : Bool) (sz : Nat) : AV := bif by_ then .bytes [] else .row sz []
theorem voidV_count (by_ : Bool) (sz : Nat) : (voidV by_ sz).count = 0 := by cases by_ <;> rfl

theorem appNil_ok {t : Nat} {y : AO} {sz : Nat} {by_ : Bool} (hI : Inv C ρ st a.tmps w) (htg : t < rT) (h : step C.G R (.appNil t y sz by_) st (fun s st' => some (s, st')) = some (s, st')) {T U : TypeId} {n c : Nat} {y' : Operand}
    (ho : oper.op = .call ⟨.builtin .append, #[.const (.slice none n c), y'], #[T, U]⟩) (hn : (Nat.beq n 0 && Nat.beq c 0) = true) (hy : fitO y y' = true) (ht : appFits P T U sz by_ = true) : Good P C oper a w s st' := by
  simp only [Bool.and_eq_true] at hn
  have h1 := Nat.eq_of_beq_eq_true hn.1; have h2 := Nat.eq_of_beq_eq_true hn.2; subst h1; subst h2
  obtain ⟨e, i, z, d, hT, hi, hz, hsz, h1s, hby, hzs, hb1, hU, hd⟩ := appFits_ok ht
  simp only [step, Option.bind_eq_some_iff] at h
  obtain ⟨sy, hsy, p, hp, h⟩ := h
  have hyr := fitO_sound hI hy hsy
  obtain ⟨hI1, hyr1, hsh, hbad⟩ := give_ok hI hyr hp
  have fin : ∀ {b0 : Blk} {vc vr : AV} {news : List Value}, b0.void → b0.fz = false → b0.sz = sz → b0.cut 0 0 = some (voidV by_ sz) → CR w (bad C.Bo ρ p.2) sz vc news → Appended P w sz vc.count (a.eval y') news →
      (∀ {w : World} {B : Nat → Prop} {vs us : List Value}, CR w B sz (voidV by_ sz) vs → CR w B sz vc us → CR w B sz vr (vs ++ us)) → vr.count = vc.count → (vr.count = 0 → (vr.blk sz).void) → vr.count ≤ 1099511627776 → (∀ s, vr = .bytes s → z = .int .u8 0 ∧ ∃ s, voidV by_ sz = .bytes s) →
      s = .own t 0 vr.count none → st' = ((st.withM p.2).fresh t b0).renew t t (vr.blk sz) → Good P C oper a w s st' := by
    intro b0 vc vr news v0 v1 v2 v3 h1 h2 h4 h5 h6 h7 h70 h8 h9
    subst h8; subst h9
    have hI2 : Inv C (upd ρ t none) ((st.withM p.2).fresh t b0) a.tmps w := (hI1.kill t none).virt htg get_kill1 (by simp [upd]) v0
    have hbad2 : ∀ x, bad C.Bo (upd ρ t none) ((st.withM p.2).fresh t b0).M x → bad C.Bo ρ p.2 x := by
      intro x hx
      rcases hx with hx | ⟨u, bu, ou, cu, q1, q2, q3⟩
      · exact .inl hx
      · have q1' : get ((t, b0) :: killM t p.2) u = some bu := q1
        rw [get_cons] at q1'
        by_cases hut : u = t
        · subst hut; simp [upd] at q3
        · simp only [hut, if_false] at q1'
          exact bad_kill x (.inr ⟨u, bu, ou, cu, q1', q2, q3⟩)
    have hg0 : get ((st.withM p.2).fresh t b0).M t = some b0 := by simp [St.fresh, get]
    have hx0 : RelS w (bad C.Bo (upd ρ t none) ((st.withM p.2).fresh t b0).M) (upd ρ t none) ((st.withM p.2).fresh t b0).M (.own t 0 0 none) (.slice none 0 0) := .ownNil t none b0 hg0 (by simp [upd])
    obtain ⟨v, w', ρ', g1, g2, g3⟩ := app_core (st := (st.withM p.2).fresh t b0) (t := t) htg hT hi hz hsz h1s hby hzs hU hd hI2 hx0 hg0 v1 v2 v3 (h1.mono (Agree.refl _ _) fun x _ hx => hbad2 x hx) h2 h4 (by rw [h5, voidV_count, Nat.zero_add]) h6 h7 h70 oper.type
    refine Does.value ?_ ⟨ρ', g2, g3⟩
    obtain ⟨cs, hcs⟩ := ex_builtin2 (ρ := a.eval) ho
    rw [hcs]
    exact run_v g1
  split at h
  · rename_i cs hpc
    obtain ⟨hlim, h⟩ := need_some h
    simp only [Option.some.injEq, Prod.mk.injEq, decide_eq_true_eq] at h hlim
    obtain ⟨rfl, rfl⟩ := h
    obtain ⟨e1, e0⟩ := hb1 rfl
    subst e1
    rw [hpc] at hyr1
    obtain ⟨news, k1, k2⟩ := appended_ok (P := P) (sz := 1) hyr1 rfl
    exact fin (b0 := .bytes [] false) (vr := .bytes cs) rfl rfl rfl rfl k1 k2 (fun h1 h2 => by have := CR.appB h1 h2; simpa using this) rfl (fun h0 => List.eq_nil_of_length_eq_zero h0) (by simpa [AV.count] using hlim) (fun _ _ => ⟨e0, _, rfl⟩) rfl rfl
  · rename_i cs hpc
    obtain ⟨hlim, h⟩ := need_some h
    simp only [Option.some.injEq, Prod.mk.injEq, decide_eq_true_eq] at h hlim
    obtain ⟨rfl, rfl⟩ := h
    obtain ⟨e1, e0⟩ := hb1 rfl
    subst e1
    rw [hpc] at hyr1
    obtain ⟨news, k1, k2⟩ := appendedS_ok (P := P) hyr1
    exact fin (b0 := .bytes [] false) (vc := .bytes cs) (vr := .bytes cs) rfl rfl rfl rfl k1 k2 (fun h1 h2 => by have := CR.appB h1 h2; simpa using this) rfl (fun h0 => List.eq_nil_of_length_eq_zero h0) (by simpa [AV.count] using hlim) (fun _ _ => ⟨e0, _, rfl⟩) rfl rfl
  · rename_i yy cs hpc
    obtain ⟨hlim, h⟩ := need_some h
    simp only [Option.some.injEq, Prod.mk.injEq, decide_eq_true_eq, Bool.and_eq_true] at h hlim
    obtain ⟨rfl, rfl⟩ := h
    obtain ⟨q2, q3⟩ := hlim
    have q2 := Nat.eq_of_beq_eq_true q2
    subst q2
    rw [hpc] at hyr1
    obtain ⟨news, k1, k2⟩ := appended_ok (P := P) (sz := yy) hyr1 rfl
    exact fin (b0 := .row yy [] false) (vr := .row yy cs) rfl rfl rfl rfl k1 k2 (fun h1 h2 => by have := CR.appR h1 h2; simpa using this) rfl (fun h0 => List.eq_nil_of_length_eq_zero h0) (by simpa [AV.count] using q3) (fun _ h => by cases h) rfl rfl
  · cases h

end ops

theorem bad_setM {Bo : Nat → Prop} {ρ : Rho} {M : List (Nat × Blk)} {t : Nat} {blk blk' : Blk} (hm : get M t = some blk) (hf : blk.fz = false) (x : Nat) (hx : bad Bo ρ (setM M t blk') x) : bad Bo ρ M x := by
  rcases hx with hx | ⟨u, bu, ou, cu, g1, g2, g3⟩
  · exact .inl hx
  · rw [get_setM] at g1
    by_cases hut : u = t
    · subst hut; exact .inr ⟨u, blk, ou, cu, hm, hf, g3⟩
    · simp only [hut, if_false] at g1; exact .inr ⟨u, bu, ou, cu, g1, g2, g3⟩

theorem shape_setM {M : List (Nat × Blk)} {t : Nat} {blk blk' : Blk} (hm : get M t = some blk) (h1 : blk'.sz = blk.sz) (h2 : blk'.count = blk.count) : SameShape M (setM M t blk') := by
  intro u b hu
  rw [get_setM]
  by_cases hut : u = t
  · subst hut; rw [hm] at hu; cases hu; exact ⟨blk', by simp, h1, h2⟩
  · exact ⟨b, by simp [hut, hu], rfl, rfl⟩

/-- A row or a variable of one's own is written. -/
theorem Inv.write {C : Cx} {ρ : Rho} {st : St} {tm : Array Value} {w w' : World} (h : Inv C ρ st tm w) {t : Nat} {blk blk' : Blk} {b o cp : Nat} (hm : get st.M t = some blk) (hf : blk.fz = false) (hr : ρ t = some (b, o, cp)) 
    (h1 : blk'.sz = blk.sz) (h2 : blk'.count = blk.count) (hA : Agree (fun x => x = b) w w') (hblk : RelBlk w' (bad C.Bo ρ (setM st.M t blk')) ρ (setM st.M t blk') b o cp blk') : Inv C ρ (st.withM (setM st.M t blk')) tm w' := by
  have hsh := shape_setM hm h1 h2
  have hbad := fun x => bad_setM (Bo := C.Bo) (ρ := ρ) (blk' := blk') hm hf x
  have hA' : Agree (bad C.Bo ρ st.M) w w' := hA.mono fun x _ hx => .inr ⟨t, blk, o, cp, hm, hf, by rw [hr, hx]⟩
  obtain ⟨b0, o0, cp0, k1, k2, k3, k4⟩ := (h.mem t blk hm).resolve_right fun hh => by rw [hr] at hh; cases hh.1
  rw [hr] at k1; simp only [Option.some.injEq, Prod.mk.injEq] at k1; obtain ⟨rfl, rfl, rfl⟩ := k1
  refine ⟨⟨Nat.le_trans h.ext.1 hA.1, fun x hx hn => ?_, hA.3.1.trans h.ext.3.1, hA.3.2.1.trans h.ext.3.2.1, hA.3.2.2.trans h.ext.3.2.2⟩, ?_, ?_, ?_, h.glob.mono hA' fun x _ hx => hbad x hx, fun x hx => Nat.lt_of_lt_of_le (h.bo x hx) hA.1, fun u blk0 hu hg => ?_⟩
  rotate_left 4
  · simp only [St.withM, get_setM] at hg
    by_cases hut : u = t
    · subst hut; exact h.pin u blk hu hm
    · simp [hut] at hg; exact h.pin u blk0 hu hg
  · rw [hA.2 x (Nat.lt_of_lt_of_le hx h.ext.1) (by
      rintro rfl
      rcases k4 hf with hb | hb
      · omega
      · exact hn hb)]
    exact h.ext.2 x hx hn
  · intro n s hn
    exact ⟨(h.env n s hn).1, ((h.env n s hn).2.mono hA' fun x _ hx => hbad x hx).shape hsh⟩
  · intro u x hu
    simp only [St.withM, get_setM] at hu
    by_cases hut : u = t
    · simp only [hut, if_true, Option.some.injEq] at hu
      subst hu; subst hut
      exact .inl ⟨b, o, cp, hr, hblk, k3, fun _ => k4 hf⟩
    · simp only [hut, if_false] at hu
      rcases h.mem u x hu with ⟨b1, o1, cp1, g1, g2, g3, g4⟩ | g1
      · refine .inl ⟨b1, o1, cp1, g1, (g2.mono hA' (fun x _ hx => hbad x hx) (hA.2 b1 g2.lt ?_)).shape hsh, g3, g4⟩
        intro e
        exact h.inj t u blk x b o cp b1 o1 cp1 hm hu hf (fun e => hut e.symm) hr g1 e.symm
      · exact .inr g1
  · intro u u' x x' b1 o1 c1 b2 o2 c2 g1 g2 g3 g4 g5 g6
    simp only [St.withM, get_setM] at g1 g2
    obtain ⟨y1, q1, q2⟩ : ∃ y, get st.M u = some y ∧ y.fz = false := by
      by_cases hut : u = t
      · subst hut; exact ⟨blk, hm, hf⟩
      · simp only [hut, if_false] at g1; exact ⟨x, g1, g3⟩
    obtain ⟨y2, q3⟩ : ∃ y, get st.M u' = some y := by
      by_cases hut : u' = t
      · subst hut; exact ⟨blk, hm⟩
      · simp only [hut, if_false] at g2; exact ⟨x', g2⟩
    exact h.inj u u' y1 y2 b1 o1 c1 b2 o2 c2 q1 q3 q2 g4 g5 g6

def sizeIs (P : Program) (t : TypeId) (n : Nat) : Bool := match P.info? t with | some i => Nat.beq i.size n | none => false

theorem run_storeAt {P : Program} {w : World} {t : TypeId} {sz : Nat} (ht : sizeIs P t sz = true) {b o : Nat} {v : Value} (hv : v.cells.size = sz) (h1 : ∀ u ∈ v.cells.toList, u.oneCell' = true) {cells : List Value} {e : TypeId} {fr : Nat × Nat}
    (hh : w.heap[b]? = some (.cells cells.toArray e fr)) (hf : Free cells.length fr) (hl : o + sz ≤ cells.length) :
    (Instr.storeAt t (.pointer (some ⟨b, o, none⟩)) v).run P w = .ok () (setBlk w b (.cells (putCells cells o v.cells.toList).toArray e fr)) := by
  unfold sizeIs at ht
  split at ht
  · rename_i i hi
    have e1 := Nat.eq_of_beq_eq_true ht
    show (storeVar t ⟨b, o, none⟩ v).run P w = _
    unfold storeVar
    rw [run_bind_ok (run_sizeOf hi), e1, if_neg (by simp [hv])]
    have hst := run_storeCells_free (P := P) (o := o) (i := 0) (vs := v.cells.toList) hh hf (by simp; omega) h1
    simp only [Nat.add_zero] at hst
    exact hst
  · cases ht

section ops
variable {P : Program} {C : Cx} {R : Nat → List AV → Option Res} {ρ : Rho} {st : St} {a : Act} {w : World} {oper : Oper} {s : SV} {st' : St}

theorem RelL_of_get {w : World} {B : Nat → Prop} : ∀ {xs : List AV} {vs : List Value}, xs.length = vs.length → (∀ (j : Nat) (x : AV), xs[j]? = some x → ∃ v, vs[j]? = some v ∧ Rel w B x v) → RelL w B xs vs
  | [], [], _, _ => .nil
  | x :: xs, v :: vs, hl, h => by
    obtain ⟨v', h1, h2⟩ := h 0 x (by simp)
    simp at h1; subst h1
    exact .cons _ _ _ _ h2 (RelL_of_get (by simpa using hl) fun j y hj => by simpa using h (j + 1) y (by simpa using hj))
  | [], _ :: _, hl, _ => by simp at hl
  | _ :: _, [], hl, _ => by simp at hl

theorem RelL.putCells {w : World} {B : Nat → Prop} {cs vs : List AV} {cv vv : List Value} {off : Nat} (h : RelL w B cs cv) (hv : RelL w B vs vv) : RelL w B (Vf.putCells cs off vs) (Vf.putCells cv off vv) := by
  unfold Vf.putCells
  rw [hv.length]
  exact ((h.take _).append hv).append (h.drop _)

theorem flats_set {z : Nat} {xs : List AV} {i : Nat} {el new : AV} {off : Nat} {ys : List AV} (hz : ∀ x ∈ xs, x.flat.length = z) (hel : xs[i]? = some el) (hoff : off + ys.length ≤ z) (hnew : new.flat = putCells el.flat off ys) :
    flats (xs.set i new) = putCells (flats xs) (i * z + off) ys := by
  have hlt : i < xs.length := (List.getElem?_eq_some_iff.1 hel).1
  have hx : xs = xs.take i ++ el :: xs.drop (i + 1) := by
    rw [← (List.getElem?_eq_some_iff.1 hel).2, List.getElem_cons_drop]; exact (List.take_append_drop i xs).symm
  have hA : (flats (xs.take i)).length = i * z := by rw [flats_length z _ fun x hx => hz x (List.mem_of_mem_take hx), List.length_take, Nat.min_eq_left (by omega)]
  have hE : el.flat.length = z := hz el (by rw [hx]; simp)
  have h1 : flats xs = flats (xs.take i) ++ (el.flat ++ flats (xs.drop (i + 1))) := by
    conv => lhs; rw [hx]
    simp [flats]
  have h2 : flats (xs.set i new) = flats (xs.take i) ++ (new.flat ++ flats (xs.drop (i + 1))) := by
    rw [List.set_eq_take_append_cons_drop, if_pos hlt]
    simp [flats]
  rw [h1, h2, hnew]
  unfold putCells
  rw [← hA, List.take_length_add_append, List.take_append_of_le_length (by omega), show (flats (xs.take i)).length + off + ys.length = (flats (xs.take i)).length + (off + ys.length) by omega, List.drop_length_add_append, List.drop_append_of_le_length (by omega)]
  simp [List.append_assoc]

theorem storeRow_ok {t' i off sz z : Nat} {xs : List AV} {el v : AV} {t : TypeId} {y' : Operand} {b o cp : Nat} (hI1 : Inv C ρ st a.tmps w) (hyr1 : Rel w (bad C.Bo ρ st.M) v (a.eval y')) (hblk2 : get st.M t' = some (.row z xs false)) (hr : ρ t' = some (b, o, cp))
    (hel : xs[i]? = some el) (e1 : v.flat.length = sz) (e2 : off + sz ≤ el.flat.length) (hone : v.flat.all AV.one = true) (hpos : 1 ≤ sz) (ht : sizeIs P t sz = true)
    (hrun : ∀ {w'}, (Instr.storeAt t (.pointer (some ⟨b, o + i * z + off, none⟩)) (a.eval y')).run P w = .ok () w' → (execOp a.eval oper).run P w = .ok .skip w') :
    Good P C oper a w .dead (st.withM (setM st.M t' (.row z (xs.set i (bif Nat.beq z 1 then v else .agg (putCells el.flat off v.flat))) false))) := by
  obtain ⟨b2, o2, cp2, m1, m2, m3, m4⟩ := (hI1.mem t' _ hblk2).resolve_right fun hh => by rw [hr] at hh; cases hh.1
  rw [hr] at m1; simp only [Option.some.injEq, Prod.mk.injEq] at m1; obtain ⟨rfl, rfl, rfl⟩ := m1
  obtain ⟨cells, e, fr, vs, q1, q2, q3, q4, q5, q51, q6, q7⟩ := m2
  obtain ⟨cl, rfl⟩ : ∃ cl : List Value, cells = cl.toArray := ⟨cells.toList, by simp⟩
  simp only [List.size_toArray] at q2 q4
  have hfl := hyr1.flat
  have hilt : i < xs.length := (List.getElem?_eq_some_iff.1 hel).1
  have hel' : el ∈ xs := (List.getElem?_eq_some_iff.1 hel).2 ▸ List.getElem_mem _
  have hez := q5 el hel'
  have hvl := q6.length
  rw [flats_length z xs q5] at hvl
  have himul : i * z + z ≤ xs.length * z := by
    have : (i + 1) * z ≤ xs.length * z := Nat.mul_le_mul_right _ hilt
    rwa [Nat.succ_mul] at this
  have hcap : xs.length * z ≤ cp * z := Nat.mul_le_mul_right _ q3
  have hyl : (a.eval y').cells.toList.length = sz := by rw [← hfl.length, e1]
  have hst := run_storeAt (P := P) (t := t) (b := b) (o := o + i * z + off) ht (by simpa using hyl) (hfl.ones hone) q1 q2 (by omega)
  have hnew : (bif Nat.beq z 1 then v else AV.agg (putCells el.flat off v.flat)).flat = putCells el.flat off v.flat := by
    cases hz1 : Nat.beq z 1
    · rfl
    · have e5 := Nat.eq_of_beq_eq_true hz1
      simp only [cond_true]
      obtain ⟨rfl, h6⟩ : off = 0 ∧ sz = 1 := by omega
      simp only [putCells, List.take_zero, List.nil_append, Nat.zero_add]
      rw [List.drop_of_length_le (by omega), List.append_nil]
  have hset := flats_set (ys := v.flat) q5 hel (by omega) hnew
  generalize hnw : (bif Nat.beq z 1 then v else AV.agg (putCells el.flat off v.flat)) = nw at hnew hset ⊢
  have hbd := fun x => bad_setM (Bo := C.Bo) (ρ := ρ) (blk' := .row z (xs.set i nw) false) hblk2 rfl x
  have hA : Agree (bad C.Bo ρ st.M) w (setBlk w b (.cells (putCells cl (o + i * z + off) (a.eval y').cells.toList).toArray e fr)) := agree_setBlk.mono fun x _ hx => .inr ⟨t', .row z xs false, o, cp, hblk2, rfl, by rw [hr, hx]⟩
  have hpl : (putCells cl (o + i * z + off) (a.eval y').cells.toList).length = cl.length := putCells_len (by omega)
  refine Does.skip (hrun hst) ⟨ρ, hI1.write hblk2 rfl hr rfl (by simp [Blk.count]) agree_setBlk ⟨_, e, fr, putCells vs (i * z + off) (a.eval y').cells.toList, heap_setBlk (lt_of_get q1), ?_, ?_, ?_, ?_, ?_, ?_, ?_⟩, .dead _⟩
  · simp only [List.size_toArray, hpl]; exact q2
  · simpa using q3
  · simp only [List.size_toArray, hpl]; exact q4
  · intro x hx
    rcases List.mem_or_eq_of_mem_set hx with hx | rfl
    · exact q5 x hx
    · rw [hnew, putCells_len (by omega)]; exact hez
  · intro u hu
    simp only [putCells, List.mem_append] at hu
    rcases hu with (hu | hu) | hu
    · exact q51 u (List.mem_of_mem_take hu)
    · exact hfl.ones hone u hu
    · exact q51 u (List.mem_of_mem_drop hu)
  · rw [hset]
    exact ((q6.putCells hfl).mono hA fun x _ hx => hbd x hx)
  · intro j u hj
    rw [putCells_get (by omega)] at hj
    rw [List.getElem?_toArray, putCells_get (by omega)]
    by_cases hin : i * z + off ≤ j ∧ j < i * z + off + (a.eval y').cells.toList.length
    · rw [if_pos hin] at hj
      rw [if_pos (by omega), ← hj]
      congr 1; omega
    · rw [if_neg hin] at hj
      rw [if_neg (by omega)]
      have := q7 j u hj
      rwa [List.getElem?_toArray] at this

theorem store_ok {x y : AO} {sz : Nat} (hI : Inv C ρ st a.tmps w) (h : step C.G R (.store x y sz) st (fun s st' => some (s, st')) = some (s, st')) {t : TypeId} {x' y' : Operand}
    (ho : oper.op = .store t x' y') (hx : fitO x x' = true) (hy : fitO y y' = true) (ht : sizeIs P t sz = true) : Good P C oper a w s st' := by
  simp only [step, Option.bind_eq_some_iff] at h
  obtain ⟨sx, hsx, sy, hsy, h⟩ := h
  have hxr := fitO_sound hI hx hsx
  have hyr := fitO_sound hI hy hsy
  split at h
  case h_2 => cases h
  rename_i t' i off
  simp only [Option.bind_eq_some_iff] at h
  obtain ⟨blk, hblk, h⟩ := h
  generalize hv : a.eval x' = vx at hxr
  cases hxr with
  | ptr t' i off b o cp blk0 hm hr =>
  obtain rfl : blk = blk0 := by rw [hblk] at hm; simpa using hm
  obtain ⟨b0, o0, cp0, k1, hb, k3, k4⟩ := (hI.mem t' blk hm).resolve_right fun hh => by rw [hr] at hh; cases hh.1
  rw [hr] at k1; simp only [Option.some.injEq, Prod.mk.injEq] at k1; obtain ⟨rfl, rfl, rfl⟩ := k1
  have hrun : ∀ {w'}, (Instr.storeAt t (.pointer (some ⟨b, o + i * blk.sz + off, none⟩)) (a.eval y')).run P w = .ok () w' → (execOp a.eval oper).run P w = .ok .skip w' := by
    intro w' hw
    rw [ex_store ho, hv, run_bind_ok hw]; rfl
  split at h
  · -- bytes
    rename_i l
    split at h
    · rename_i v
      cases v <;> simp only [asI, reduceCtorEq] at h
      rename_i k n
      cases hk : decide (k = IntKind.u8)
      · simp [hk] at h
      simp only [hk, cond_true, byteOf] at h
      obtain ⟨h1, h⟩ := need_some h
      obtain ⟨h2, h⟩ := need_some h
      simp only [Bool.and_eq_true, decide_eq_true_eq] at h1 h2 hk
      simp only [Option.some.injEq, Prod.mk.injEq] at h
      obtain ⟨rfl, rfl⟩ := h
      have e1 := Nat.eq_of_beq_eq_true h2.1.1
      have e2 := Nat.eq_of_beq_eq_true h2.2
      subst e1; subst e2; subst hk
      obtain ⟨cells, e, fr, q1, q2, q3, q4, q5, q8⟩ := hb
      obtain ⟨cl, rfl⟩ : ∃ cl : List Value, cells = cl.toArray := ⟨cells.toList, by simp⟩
      simp only [List.size_toArray] at q2 q4
      cases hyr with
      | imm _ _ hyr =>
      generalize hvy : a.eval y' = vy at hyr hrun
      cases hyr
      have hst := run_storeAt (P := P) (t := t) (b := b) (o := o + i * 1 + 0) (v := .int .u8 n) ht rfl (fun u hu => by simp [Value.cells] at hu; subst hu; rfl) q1 q2 (by omega)
      refine Does.skip (hrun hst) ⟨ρ, hI.write hm rfl hr rfl (by simp [Blk.count]) agree_setBlk ⟨_, e, fr, heap_setBlk (lt_of_get q1), ?_, ?_, ?_, ?_, ?_⟩, .dead _⟩
      · simp only [List.size_toArray]; rw [putCells_len (by simp [Value.cells]; omega)]; exact q2
      · simpa using q3
      · simp only [List.size_toArray]; rw [putCells_len (by simp [Value.cells]; omega)]; exact q4
      · intro j x hj
        rw [List.getElem?_toArray, putCells_get (by simp [Value.cells]; omega)]
        simp only [Value.cells, List.length_singleton, Nat.mul_one, Nat.add_zero]
        rw [List.getElem?_set] at hj
        by_cases hij : i = j
        · subst hij
          rw [if_pos rfl, if_pos h2.1.2] at hj
          rw [if_pos ⟨by omega, by omega⟩]
          simp only [Option.some.injEq] at hj
          subst hj
          simp
          omega
        · rw [if_neg hij] at hj
          rw [if_neg (by omega)]
          have := q5 j x hj
          rwa [List.getElem?_toArray] at this
      · refine ⟨q8.1, fun j hj => ?_⟩
        rw [List.getElem?_toArray, putCells_get (by simp [Value.cells]; omega)]
        simp only [Value.cells, List.length_singleton, Nat.mul_one, Nat.add_zero]
        by_cases hij : o + i ≤ o + j ∧ o + j < o + i + 1
        · rw [if_pos (by simpa using hij)]
          refine ⟨UInt8.ofNat n.toNat, ?_⟩
          rw [show o + j - (o + i) = 0 by omega]
          simp
          omega
        · rw [if_neg (by simpa using hij)]
          have := q8.2 j hj
          rwa [List.getElem?_toArray] at this
    · cases h
  · -- a row of elements
    rename_i z0 xs0
    simp only [Option.bind_eq_some_iff] at h
    obtain ⟨p, hp, blk2, hblk2, h⟩ := h
    obtain ⟨hI1, hyr1, hsh, hbad⟩ := give_ok hI hyr hp
    split at h
    case h_2 => cases h
    rename_i z xs
    simp only [Option.bind_eq_some_iff] at h
    obtain ⟨el, hel, h⟩ := h
    obtain ⟨h1, h⟩ := need_some h
    simp only [Bool.and_eq_true] at h1
    simp only [Option.some.injEq, Prod.mk.injEq] at h
    obtain ⟨rfl, rfl⟩ := h
    obtain ⟨bb, u1, u2, u3⟩ := hsh t' _ hm
    obtain rfl : z = z0 := by
      have e : some (Blk.row z xs false) = some bb := by rw [← u1]; exact hblk2.symm
      simp only [Option.some.injEq] at e
      rw [← e] at u2; exact u2
    exact storeRow_ok hI1 hyr1 hblk2 hr hel (Nat.eq_of_beq_eq_true h1.1.1.1) (Nat.le_of_ble_eq_true h1.1.1.2) h1.1.2 (Nat.le_of_ble_eq_true h1.2) ht fun hw => hrun hw
  · -- a variable
    rename_i cs
    cases hii : Nat.beq i 0
    · simp [hii] at h
    have := Nat.eq_of_beq_eq_true hii; subst this
    simp only [hii, cond_true] at h
    obtain ⟨cells, e, fr, q1, q2, q3, q4⟩ := hb
    obtain ⟨cl, rfl⟩ : ∃ cl : List Value, cells = cl.toArray := ⟨cells.toList, by simp⟩
    simp only [List.size_toArray] at q2 q3
    have fin : ∀ {vs : List SV}, vs.length = sz → off + sz ≤ cs.length → (a.eval y').cells.size = sz → (∀ u ∈ (a.eval y').cells.toList, u.oneCell' = true) → (∀ (j : Nat) (s : SV), vs[j]? = some s → ∃ v, (a.eval y').cells.toList[j]? = some v ∧ RelS w (bad C.Bo ρ st.M) ρ st.M s v) →
        Good P C oper a w .dead (st.withM (setM st.M t' (.box (putCells cs off vs)))) := by
      intro vs g1 g2 g3 g4 g5
      have hst := run_storeAt (P := P) (t := t) (b := b) (o := o + 0 * 1 + off) ht g3 g4 q1 q2 (by omega)
      have hsh := shape_setM (blk' := .box (putCells cs off vs)) hm rfl rfl
      have hbd := fun x => bad_setM (Bo := C.Bo) (ρ := ρ) (blk' := .box (putCells cs off vs)) hm rfl x
      have hA : Agree (bad C.Bo ρ st.M) w (setBlk w b (.cells (putCells cl (o + 0 * 1 + off) (a.eval y').cells.toList).toArray e fr)) := agree_setBlk.mono fun x _ hx => .inr ⟨t', .box cs, o, cp, hm, rfl, by rw [hr, hx]⟩
      have hlen : (a.eval y').cells.toList.length = sz := by simpa using g3
      refine Does.skip (hrun hst) ⟨ρ, hI.write hm rfl hr rfl rfl agree_setBlk ⟨_, e, fr, heap_setBlk (lt_of_get q1), ?_, ?_, ?_⟩, .dead _⟩
      · simp only [List.size_toArray]; rw [putCells_len (by omega)]; exact q2
      · simp only [List.size_toArray]; rw [putCells_len (by omega), putCells_len (by omega)]; exact q3
      · intro j s hj
        rw [putCells_get (by omega)] at hj
        rw [List.getElem?_toArray, putCells_get (by omega), hlen]
        by_cases hin : off ≤ j ∧ j < off + sz
        · rw [g1, if_pos hin] at hj
          rw [if_pos (by omega)]
          obtain ⟨v, u1, u2⟩ := g5 _ s hj
          refine ⟨v, ?_, (u2.mono hA fun x _ hx => hbd x hx).shape hsh⟩
          rw [← u1]; congr 1; omega
        · rw [g1, if_neg hin] at hj
          rw [if_neg (by omega)]
          obtain ⟨v, u1, u2⟩ := q4 j s hj
          rw [List.getElem?_toArray] at u1
          exact ⟨v, u1, (u2.mono hA fun x _ hx => hbd x hx).shape hsh⟩
    split at h
    · rename_i v
      obtain ⟨h1, h⟩ := need_some h
      simp only [Bool.and_eq_true] at h1
      simp only [Option.some.injEq, Prod.mk.injEq] at h
      obtain ⟨rfl, rfl⟩ := h
      cases hyr with
      | imm _ _ hyr =>
      have hfl := hyr.flat
      have e1 := Nat.eq_of_beq_eq_true h1.1.1
      refine fin (by simpa using e1) (Nat.le_of_ble_eq_true h1.1.2) (by rw [← e1, hfl.length]; simp) (hfl.ones h1.2) fun j s hj => ?_
      simp only [List.getElem?_map, Option.map_eq_some_iff] at hj
      obtain ⟨x, hx, rfl⟩ := hj
      obtain ⟨v, g1, g2⟩ := hfl.get hx
      exact ⟨v, g1, .imm _ _ g2⟩
    · rename_i u oo ll cc
      obtain ⟨h1, h⟩ := need_some h
      simp only [Bool.and_eq_true] at h1
      simp only [Option.some.injEq, Prod.mk.injEq] at h
      obtain ⟨rfl, rfl⟩ := h
      have e1 := Nat.eq_of_beq_eq_true h1.1
      subst e1
      have hcell : (a.eval y').cells = #[a.eval y'] ∧ (a.eval y').oneCell' = true := by
        obtain ⟨p, c, e⟩ := hyr.own_len
        rw [e]; exact ⟨rfl, rfl⟩
      refine fin rfl (Nat.le_of_ble_eq_true h1.2) (by rw [hcell.1]; rfl) (fun v hv => by rw [hcell.1] at hv; simp at hv; subst hv; exact hcell.2) fun j s hj => ?_
      cases j with
      | zero => simp at hj; subst hj; exact ⟨a.eval y', by rw [hcell.1]; rfl, hyr⟩
      | succ j => simp at hj
    · cases h
  · cases h

end ops

/-- A row that the callee made and nobody else holds. -/
def AV.isTup : AV → Bool
  | .tup _ => true
  | _ => false
/-- What of a result may be a row of its own: itself, or the first of several. -/
def ownV : AV → AV
  | .tup (x :: _) => x
  | v => v
def ownX : Value → Value
  | .tuple a => a.getD 0 undef
  | x => x
theorem relX {w : World} {B : Nat → Prop} {v : AV} {x : Value} (h : Rel w B v x) (hv : v.isTup = false) : ownV v = v ∧ ownX x = x := by
  cases h <;> first | exact ⟨rfl, rfl⟩ | (simp [AV.isTup] at hv)
def Fresh (w w' : World) (Bo : Nat → Prop) (v : AV) (x : Value) : Prop :=
  (x = .slice none 0 0 ∧ (v = .bytes [] ∨ ∃ z, v = .row z [])) ∨ ∃ b o c cp sz cells e fr vs, x = .slice (some ⟨b, o, none⟩) v.count c ∧ w.heap.size ≤ b ∧ v.count ≤ c ∧ c ≤ cp ∧ w'.heap[b]? = some (.cells cells e fr) ∧ Free cells.size fr ∧
    o + cp * sz ≤ cells.size ∧ CR w' (fun y => Bo y ∨ y = b) sz v vs ∧ (∀ j (u : Value), vs[j]? = some u → cells[o + j]? = some u) ∧ ∀ s, v = .bytes s → Bytes8 cells o cp

/-- What a call comes to: one that the machine answers itself, or one of a function that has a body. -/
def CallsX (P : Program) (f : Nat) (args : Array Value) (w : World) (S : Ending → World → Prop) : Prop :=
  match (callFunc f args).run P w with
  | .ok (.value v) w' => S (.returned v) w'
  | .ok (.enter g xs) w' => Calls P g xs w' S
  | _ => False
theorem CallsX.mono {P : Program} {f : Nat} {args : Array Value} {w : World} {S S' : Ending → World → Prop} (h : CallsX P f args w S) (hs : ∀ e w', S e w' → S' e w') : CallsX P f args w S' := by
  unfold CallsX at h ⊢
  split at h
  · exact hs _ _ h
  · exact h.mono hs
  · exact h.elim
theorem CallsX.does {P : Program} {oper : Oper} {a : Act} {w : World} {f : Nat} {args : Array Value} {S : Ending → World → Prop} {S' : Value → World → Prop} (he : execOp a.eval oper = callFunc f args) (h : CallsX P f args w S) (hs : ∀ e w', S e w' → ∃ v, e = .returned v ∧ S' v w') : Does P oper a w S' := by
  unfold CallsX at h
  unfold Does
  rw [he]
  generalize (callFunc f args).run P w = r at h ⊢
  cases r with
  | halt x w' => exact h.elim
  | ok x w' =>
    cases x with
    | value v => obtain ⟨u, e, hu⟩ := hs _ _ h; cases e; exact hu
    | enter g xs => exact h.mono hs
    | _ => exact h.elim

/-- What calls of values alone answer is what the machine's calls come to. -/
def RSound0 (P : Program) (G : List (Nat × List AV)) (R : Nat → List AV → Option Res) : Prop :=
  ∀ f vs r, R f vs = some r → ∀ (Bo : Nat → Prop) (w : World) (args : List Value), GOk G Bo w → (∀ b, Bo b → b < w.heap.size) → RelL w Bo vs args →
    CallsX P f args.toArray w fun e w' => ∃ v, e = .returned v ∧ Agree (fun _ => False) w w' ∧ Rel w' Bo r.v v ∧ (r.own = true → Fresh w w' Bo (ownV r.v) (ownX v))

/-- What a lent row's or variable's tag stands for. -/
def refBlk : AV → Option Blk
  | .ref (.bytes s) => some (.bytes s false)
  | .ref (.row z xs) => some (.row z xs false)
  | .ref (.agg cs) => some (.box (cs.map .imm))
  | _ => none
def refSV (t : Nat) : AV → SV
  | .ref (.bytes s) => .own t 0 s.length none
  | .ref (.row _ xs) => .own t 0 xs.length none
  | .ref (.agg _) => .ptr t 0 0
  | v => .imm v
def consO {α : Type} (t : Nat) : Option α → List (Nat × α) → List (Nat × α)
  | some b, r => (t, b) :: r
  | none, r => r
/-- A call's beginning: its parameters, what is lent to it, the tags of that. -/
def envV : Nat → List AV → List (Nat × SV)
  | _, [] => []
  | i, v :: r => (i, refSV (rT + i) v) :: envV (i + 1) r
def memV : Nat → List AV → List (Nat × Blk)
  | _, [] => []
  | i, v :: r => consO (rT + i) (refBlk v) (memV (i + 1) r)
def tagsV : Nat → List AV → List Nat
  | _, [] => []
  | i, v :: r => (match refBlk v with | some _ => (rT + i) :: tagsV (i + 1) r | none => tagsV (i + 1) r)
/-- What is lent, at the end. -/
def outM : List Nat → List AV → List (Nat × Blk)
  | t :: ts, o :: os => consO t (refBlk o) (outM ts os)
  | _, _ => []
def AV.isRef : AV → Bool
  | .ref _ => true
  | _ => false

/-- A row in a block of `X`, that nobody else holds. -/
def FreshX (X : Nat → Prop) (w' : World) (B : Nat → Prop) (v : AV) (x : Value) : Prop :=
  (x = .slice none 0 0 ∧ (v = .bytes [] ∨ ∃ z, v = .row z [])) ∨ ∃ b o c cp sz cells e fr vs, x = .slice (some ⟨b, o, none⟩) v.count c ∧ X b ∧ v.count ≤ c ∧ c ≤ cp ∧ w'.heap[b]? = some (.cells cells e fr) ∧ Free cells.size fr ∧
    o + cp * sz ≤ cells.size ∧ CR w' (fun y => B y ∨ y = b) sz v vs ∧ (∀ j (u : Value), vs[j]? = some u → cells[o + j]? = some u) ∧ ∀ s, v = .bytes s → Bytes8 cells o cp

/-- What holds behind a call. -/
def Post (C : Cx) (ρ : Rho) (tags : List Nat) (w : World) (r : Res) (v : Value) (w' : World) : Prop :=
  r.outs.length = tags.length ∧ ∃ X : Nat → Prop, Agree C.W w w' ∧ (∀ b, X b → (w.heap.size ≤ b ∨ C.W b) ∧ b < w'.heap.size ∧ ¬ bad C.Bo ρ (outM tags r.outs) b) ∧
   (∀ t blk, get (outM tags r.outs) t = some blk → (∃ b o cp, ρ t = some (b, o, cp) ∧ RelBlk w' (fun y => bad C.Bo ρ (outM tags r.outs) y ∨ X y) ρ (outM tags r.outs) b o cp blk) ∨ (ρ t = none ∧ blk.void)) ∧
   Rel w' (bad C.Bo ρ (outM tags r.outs)) r.v v ∧ (r.own = true → FreshX X w' (bad C.Bo ρ (outM tags r.outs)) (ownV r.v) (ownX v))

/-- What calls answer is what the machine's calls come to: rows and variables may be lent to them. -/
def RSound (P : Program) (G : List (Nat × List AV)) (R : Nat → List AV → Option Res) : Prop :=
  ∀ f vs r, R f vs = some r → ∀ (C : Cx) (w : World) (args : List Value), C.G = G → C.w0 = w → args.length = vs.length → Inv C C.ρ0 ⟨envV 0 vs, memV 0 vs⟩ args.toArray w →
    CallsX P f args.toArray w fun e w' => ∃ v, e = .returned v ∧ Post C C.ρ0 (tagsV 0 vs) w r v w'

theorem refSV_val {t : Nat} {v : AV} (h : v.isRef = false) : refSV t v = .imm v := by
  cases v <;> first | rfl | (simp [AV.isRef] at h)
theorem refBlk_val {v : AV} (h : v.isRef = false) : refBlk v = none := by
  cases v <;> first | rfl | (simp [AV.isRef] at h)
theorem Rel.noRef {w : World} {B : Nat → Prop} {v : AV} {x : Value} (h : Rel w B v x) : v.isRef = false := by cases h <;> rfl

def env0 : Nat → List AV → List (Nat × SV)
  | _, [] => []
  | i, v :: r => (i, .imm v) :: env0 (i + 1) r
theorem env0_get : ∀ {vs : List AV} {us : List Value} {i : Nat} {w : World} {B : Nat → Prop} {n : Nat} {s : SV}, RelL w B vs us → get (env0 i vs) n = some s → ∃ j u, n = i + j ∧ us[j]? = some u ∧ ∃ v, s = .imm v ∧ Rel w B v u
  | [], us, i, w, B, n, s, _, h => by simp [env0, get] at h
  | v :: vs, _, i, w, B, n, s, .cons _ u _ us hv ht, h => by
    simp only [env0] at h
    rw [get_cons] at h
    by_cases hni : n = i
    · subst hni
      simp only [if_true, Option.some.injEq] at h
      exact ⟨0, u, rfl, rfl, v, h.symm, hv⟩
    · simp only [hni, if_false] at h
      obtain ⟨j, u', h1, h2, h3⟩ := env0_get ht h
      exact ⟨j + 1, u', by omega, by simpa using h2, h3⟩
theorem envV_plain : ∀ {vs : List AV} {i : Nat}, (∀ v ∈ vs, v.isRef = false) → envV i vs = env0 i vs ∧ memV i vs = [] ∧ tagsV i vs = []
  | [], i, _ => ⟨rfl, rfl, rfl⟩
  | v :: vs, i, h => by
    obtain ⟨h1, h2, h3⟩ := envV_plain (vs := vs) (i := i + 1) fun u hu => h u (List.mem_cons_of_mem _ hu)
    have hv := h v (List.mem_cons_self ..)
    simp only [envV, memV, tagsV, env0, refSV_val hv, refBlk_val hv, consO, h1, h2, h3, and_self]
theorem RelL.noRef {w : World} {B : Nat → Prop} : ∀ {vs : List AV} {xs : List Value}, RelL w B vs xs → ∀ v ∈ vs, v.isRef = false
  | _, _, .nil, v, h => by cases h
  | _, _, .cons x u xs vs hx t, v, h => by
    rcases List.mem_cons.1 h with rfl | h
    · exact hx.noRef
    · exact t.noRef v h

theorem bad_nil {Bo : Nat → Prop} {ρ : Rho} {b : Nat} : bad Bo ρ [] b ↔ Bo b :=
  ⟨fun h => h.elim id fun ⟨t, blk, o, cp, ht, _⟩ => by simp [get] at ht, .inl⟩

/-- Values alone. -/
theorem Inv.start {G : List (Nat × List AV)} {Bo : Nat → Prop} {w : World} {vs : List AV} {args : List Value} (hG : GOk G Bo w) (hBo : ∀ b, Bo b → b < w.heap.size) (hrel : RelL w Bo vs args) :
    Inv ⟨G, w, Bo, fun _ => False, fun _ => none⟩ (fun _ => none) ⟨env0 0 vs, []⟩ args.toArray w := by
  refine ⟨Agree.refl _ _, fun n s hn => ?_, fun t blk ht => by simp [get] at ht, fun t t' blk blk' b o cp b' o' cp' ht => by simp [get] at ht, ?_, hBo, fun t blk _ ht => by simp [get] at ht⟩
  · obtain ⟨j, u, h1, h2, v, h3, h4⟩ := env0_get hrel hn
    obtain rfl : n = j := by omega
    subst h3
    have hj := (List.getElem?_eq_some_iff.1 h2).1
    refine ⟨by simpa using hj, .imm _ _ ?_⟩
    have : args.toArray.getD n undef = u := by simp [Array.getD_eq_getD_getElem?, h2]
    rw [this]
    exact h4.mono (Agree.refl _ _) fun b _ hb => bad_nil.1 hb
  · exact hG.mono (Agree.refl _ _) fun b _ hb => bad_nil.1 hb

theorem RSound.plain {P : Program} {G : List (Nat × List AV)} {R : Nat → List AV → Option Res} (h : RSound P G R) : RSound0 P G R := by
  intro f vs r hr Bo w args hG hBo hrel
  obtain ⟨e1, e2, e3⟩ := envV_plain (i := 0) hrel.noRef
  have := h f vs r hr ⟨G, w, Bo, fun _ => False, fun _ => none⟩ w args rfl rfl hrel.length.symm (by rw [e1, e2]; exact Inv.start hG hBo hrel)
  rw [e3] at this
  refine this.mono fun e w' ⟨v, he, hl, X, h1, h2, h3, h4, h5⟩ => ⟨v, he, h1, h4.mono (Agree.refl _ _) fun b _ hb => .inl hb, fun ho => ?_⟩
  rcases h5 ho with h5 | ⟨b, o, c, cp, sz, cells, e, fr, us, k1, k2, k3, k4, k5, k6, k7, k8, k9⟩
  · exact .inl h5
  · exact .inr ⟨b, o, c, cp, sz, cells, e, fr, us, k1, (h2 b k2).1.resolve_right id, k3, k4, k5, k6, k7, k8.mono (Agree.refl _ _) fun x _ hx => hx.elim (fun h => .inl (.inl h)) .inr, k9⟩

/-- Answers for values alone. -/
def noRef (X : Nat → List AV → Option Res) (f : Nat) (vs : List AV) : Option Res := bif vs.any AV.isRef then none else match X f vs with
  | some r => some ⟨r.v, r.own, []⟩
  | none => none

theorem env0_at : ∀ {vs : List AV} {i j : Nat} {v : AV}, vs[j]? = some v → get (env0 i vs) (i + j) = some (.imm v)
  | [], i, j, v, h => by simp at h
  | u :: vs, i, 0, v, h => by simp at h; subst h; simp [env0, get]
  | u :: vs, i, j + 1, v, h => by
    simp only [env0]
    rw [get_cons, if_neg (by omega)]
    have := env0_at (vs := vs) (i := i + 1) (j := j) (v := v) (by simpa using h)
    rwa [show i + 1 + j = i + (j + 1) by omega] at this

theorem RSound0.up {P : Program} {G : List (Nat × List AV)} {X : Nat → List AV → Option Res} (h : RSound0 P G X) : RSound P G (noRef X) := by
  intro f vs r0 hr C w args hCG hC0 hlen hI
  unfold noRef at hr
  cases ha : vs.any AV.isRef
  case true => rw [ha] at hr; cases hr
  rw [ha] at hr
  simp only [cond_false] at hr
  split at hr
  case h_2 => cases hr
  rename_i r hr0
  simp only [Option.some.injEq] at hr
  subst hr
  replace hr := hr0
  have hno : ∀ v ∈ vs, v.isRef = false := by
    intro v hv
    cases hh : v.isRef
    · rfl
    · rw [List.any_eq_true.2 ⟨v, hv, hh⟩] at ha; cases ha
  obtain ⟨e1, e2, e3⟩ := envV_plain (i := 0) hno
  rw [e1, e2] at hI
  rw [e3]
  have hrel : RelL w C.Bo vs args := by
    refine RelL_of_get hlen.symm fun j v hj => ?_
    obtain ⟨h1, h2⟩ := hI.env j _ (by have := env0_at (i := 0) hj; rwa [Nat.zero_add] at this)
    cases h2 with
    | imm _ _ h2 =>
    have hj' : j < args.length := by simpa using h1
    refine ⟨args[j], by simp [hj'], ?_⟩
    have : args.toArray.getD j undef = args[j] := by simp [Array.getD_eq_getD_getElem?, hj']
    rw [this] at h2
    exact h2.mono (Agree.refl _ _) fun b _ hb => .inl hb
  have hG : GOk G C.Bo w := by rw [← hCG]; exact hI.glob.mono (Agree.refl _ _) fun b _ hb => .inl hb
  have hout : outM [] [] = [] := rfl
  refine (h f vs r hr C.Bo w args hG hI.bo hrel).mono fun e w' ⟨v, h1, h2, h3, h4⟩ => ⟨v, h1, rfl, fun x => w.heap.size ≤ x ∧ x < w'.heap.size, h2.none, ?_, ?_, ?_, ?_⟩
  · intro b hb
    rw [hout]
    exact ⟨.inl hb.1, hb.2, fun hx => by have := hI.bo b (bad_nil.1 hx); omega⟩
  · intro t blk ht; rw [hout] at ht; cases ht
  · rw [hout]; exact h3.mono (Agree.refl _ _) fun b _ hb => bad_nil.1 hb
  · intro hown
    rw [hout]
    rcases h4 hown with h4 | ⟨b, o, c, cp, sz, cells, e, fr, us, k1, k2, k3, k4, k5, k6, k7, k8, k9⟩
    · exact .inl h4
    · exact .inr ⟨b, o, c, cp, sz, cells, e, fr, us, k1, ⟨k2, lt_of_get k5⟩, k3, k4, k5, k6, k7, k8.mono (Agree.refl _ _) fun x _ hx => hx.elim (fun h => .inl (bad_nil.1 h)) .inr, k9⟩

def callFits (P : Program) (f : Nat) : Bool := match P.funcs[f]? with | some fn => fn.body.isSome && !(fn.name == "runtime.NumGoroutine") | none => false

theorem run_callFunc {P : Program} {w : World} {f : Nat} (h : callFits P f = true) (args : Array Value) : (callFunc f args).run P w = .ok (.enter f args) w := by
  unfold callFits at h
  split at h
  · rename_i fn hfn
    simp only [Bool.and_eq_true, Bool.not_eq_true'] at h
    show (match P.funcs[f]? with
      | none => stuck "call: no such function"
      | some fn => _ : Sem Next).run P w = _
    rw [hfn]
    dsimp only
    rw [h.2]
    have : fn.body.isNone = false := by cases hb : fn.body <;> simp_all
    rw [this]
    rfl
  · cases h

mutual
theorem asTy_flat {w : World} {B B' : Nat → Prop} {α : Type} : ∀ (ty : Ty), ty.flat = true → ∀ {v : AV} {K : AV → Option α} {r : α} {x : Value}, asTy ty v K = some r → Rel w B v x → Rel w B' v x
  | .int k, _, v, K, r, x, h, hr => by cases v <;> simp only [asTy, asI, reduceCtorEq] at h; cases hr; exact .int _ _
  | .bool, _, v, K, r, x, h, hr => by cases v <;> simp only [asTy, asB, reduceCtorEq] at h; cases hr; exact .bool _
  | .str, _, v, K, r, x, h, hr => by cases v <;> simp only [asTy, asS, reduceCtorEq] at h; cases hr; exact .str _
  | .agg cs, hf, v, K, r, x, h, hr => by
    cases v <;> simp only [asTy, asA, reduceCtorEq] at h
    cases hr with
    | agg _ vs hr => exact .agg _ _ (asTys_flat cs (by simpa [Ty.flat] using hf) h hr)
  | .tup cs, hf, v, K, r, x, h, hr => by
    cases v <;> simp only [asTy, asT, reduceCtorEq] at h
    cases hr with
    | tup _ vs hr => exact .tup _ _ (asTys_flat cs (by simpa [Ty.flat] using hf) h hr)
  | .bytes, hf, _, _, _, _, _, _ => by simp [Ty.flat] at hf
  | .row _, hf, _, _, _, _, _, _ => by simp [Ty.flat] at hf
  | .any, hf, _, _, _, _, _, _ => by simp [Ty.flat] at hf
  | .lent, hf, _, _, _, _, _, _ => by simp [Ty.flat] at hf
theorem asTys_flat {w : World} {B B' : Nat → Prop} {α : Type} : ∀ (cs : List Ty), Ty.flats cs = true → ∀ {l : List AV} {K : List AV → Option α} {r : α} {xs : List Value}, asTys cs l K = some r → RelL w B l xs → RelL w B' l xs
  | [], _, l, K, r, xs, h, hr => by
    cases l <;> simp only [asTys, asN, reduceCtorEq] at h
    cases hr; exact .nil
  | c :: cs, hf, l, K, r, xs, h, hr => by
    simp only [Ty.flats, Bool.and_eq_true] at hf
    cases l <;> simp only [asTys, asC, reduceCtorEq] at h
    cases hr with
    | cons _ _ _ _ h1 h2 =>
    have h3 := asTy_some c _ _ _ h
    exact .cons _ _ _ _ (asTy_flat c hf.1 h h1) (asTys_flat cs hf.2 (K := fun r => K (_ :: r)) h3 h2)
end

section ops
variable {P : Program} {C : Cx} {R : Nat → List AV → Option Res} {ρ : Rho} {st : St} {a : Act} {w : World} {oper : Oper} {s : SV} {st' : St}

theorem Inv.badlt {tm : Array Value} (hI : Inv C ρ st tm w) (b : Nat) (hb : bad C.Bo ρ st.M b) : b < w.heap.size := by
  rcases hb with hb | ⟨u, bu, ou, cu, g1, g2, g3⟩
  · exact hI.bo b hb
  · obtain ⟨b', o', cp', k1, k2, _⟩ := (hI.mem u bu g1).resolve_right fun hh => by rw [g3] at hh; cases hh.1
    rw [g3] at k1; simp only [Option.some.injEq, Prod.mk.injEq] at k1
    have := k2.lt; omega

theorem call_ok {f : Nat} {xs : List AO} {ty : Ty} (hR : RSound P C.G R) (hI : Inv C ρ st a.tmps w) (h : step C.G R (.call f xs ty) st (fun s st' => some (s, st')) = some (s, st')) {ys : Array Operand} {ts : Array TypeId}
    (ho : oper.op = .call ⟨.value (.func f), ys, ts⟩) (hx : fitL xs ys.toList = true) : Good P C oper a w s st' := by
  simp only [step] at h
  obtain ⟨vs, M', h, hI', hr, hbad, _⟩ := giveL_ok (P := P) hI hx h
  simp only [Option.bind_eq_some_iff] at h
  obtain ⟨r, hRr, h⟩ := h
  have hI'' : Inv C ρ (st.withM M') a.tmps w := hI'
  have := hR.plain f vs r hRr (bad C.Bo ρ M') w (ys.toList.map a.eval) hI''.glob hI''.badlt hr
  rw [show (ys.toList.map a.eval).toArray = ys.map a.eval by apply Array.ext'; simp] at this
  have h2 := asTy_some _ _ _ _ h
  cases hfl : ty.flat
  · simp only [hfl, cond_false, Option.some.injEq, Prod.mk.injEq] at h2
    obtain ⟨rfl, rfl⟩ := h2
    exact this.does (ex_call ho rfl) fun e w' ⟨v, e1, e2, e3, _⟩ => ⟨v, e1, ρ, hI''.grow e2, .imm _ _ e3⟩
  · simp only [hfl, cond_true, Option.some.injEq, Prod.mk.injEq] at h2
    obtain ⟨rfl, rfl⟩ := h2
    exact this.does (ex_call ho rfl) fun e w' ⟨v, e1, e2, e3, _⟩ => ⟨v, e1, ρ, hI.grow e2, .imm _ _ (asTy_flat ty hfl h e3)⟩

theorem callOwn_ok {t f : Nat} {xs : List AO} {sz : Nat} {ty : Ty} {by_ : Bool} (hR : RSound P C.G R) (hI : Inv C ρ st a.tmps w) (htg : t < rT) (h : step C.G R (.callOwn t f xs sz ty by_) st (fun s st' => some (s, st')) = some (s, st')) {ys : Array Operand} {ts : Array TypeId}
    (ho : oper.op = .call ⟨.value (.func f), ys, ts⟩) (hx : fitL xs ys.toList = true) : Good P C oper a w s st' := by
  simp only [step] at h
  obtain ⟨vs, M', h, hI', hr, hbad, _⟩ := giveL_ok (P := P) hI hx h
  simp only [Option.bind_eq_some_iff] at h
  obtain ⟨r, hRr, h⟩ := h
  cases hown : r.own
  · simp [hown] at h
  simp only [hown, cond_true] at h
  have hI'' : Inv C ρ (st.withM M') a.tmps w := hI'
  have hC := hR.plain f vs r hRr (bad C.Bo ρ M') w (ys.toList.map a.eval) hI''.glob hI''.badlt hr
  rw [show (ys.toList.map a.eval).toArray = ys.map a.eval by apply Array.ext'; simp] at hC
  have fin : ∀ Mx, (Mx = M' ∨ Mx = st.M ∧ ∃ s, r.v = .bytes s) → r.v.isTup = false → s = .own t 0 r.v.count none → st' = ((st.withM Mx).kill t).withM ((t, r.v.blk sz) :: killM t Mx) → (r.v = .bytes [] → True) → (∀ z l, r.v = .row z l → z = sz) → (∀ l, r.v = .bytes l → by_ = true) → Good P C oper a w s st' := by
    intro Mx hMx ht h1 h2 _ hzz hbb
    subst h1; subst h2
    have hIx : Inv C ρ (st.withM Mx) a.tmps w := by
      rcases hMx with rfl | ⟨rfl, _⟩
      · exact hI''
      · exact hI
    refine hC.does (ex_call ho rfl) fun e w' ⟨v, e1, e2, e3, e4⟩ => ⟨v, e1, ?_⟩
    obtain ⟨o1, o2⟩ := relX e3 ht
    have e4' := e4 hown
    rw [o1, o2] at e4'
    rcases e4' with ⟨rfl, hv⟩ | ⟨b, o, c, cp, sz', cells, e, fr, us, rfl, g1, g2, g3, g4, g5, g6, g7, g8, g9⟩
    · refine ⟨upd ρ t none, ((hIx.kill t none).virt htg get_kill1 (by simp [upd]) ?_).grow e2, ?_⟩
      · rcases hv with hv | ⟨z, hv⟩ <;> rw [hv] <;> rfl
      · have hc0 : r.v.count = 0 := by rcases hv with hv | ⟨z, hv⟩ <;> rw [hv] <;> rfl
        rw [hc0]
        exact .ownNil t none _ (by simp [St.withM, get]; rfl) (by simp [upd])
    · have hsz : r.v.blk sz' = r.v.blk sz := by
        cases hv : r.v <;> rw [hv] at g7 <;> first | exact g7.elim | rfl | skip
        rw [hzz _ _ hv] at g7
        simp only [AV.blk, g7.1]
      refine ⟨upd ρ t (some (b, o, cp)), ?_, ?_⟩
      · refine (hIx.kill t _).fresh (b := b) (o := o) (cp := cp) htg get_kill1 (by simp [upd]) e2 g1 ?_
        rw [← hsz]
        refine RelBlk.of (B := bad C.Bo (upd ρ t (some (b, o, cp))) ((t, r.v.blk sz') :: killM t Mx)) ?_ g4 g5 (by omega) g6 g8 g9
        rcases hMx with rfl | ⟨rfl, sx, hsx⟩
        case inr => rw [hsx] at g7 ⊢; exact g7
        refine g7.mono (Agree.refl _ _) fun x _ hx => ?_
        rcases hx with hx | ⟨u, bu, ou, cu, q1, q2, q3⟩
        · exact .inl (.inl hx)
        · rw [get_cons] at q1
          by_cases hut : u = t
          · subst hut; simp only [upd, if_true, Option.some.injEq, Prod.mk.injEq] at q3; exact .inr q3.1.symm
          · simp only [hut, if_false] at q1
            exact .inl (bad_kill x (.inr ⟨u, bu, ou, cu, q1, q2, q3⟩))
      · have := RelS.own (w := w') (B := bad C.Bo (upd ρ t (some (b, o, cp))) ((t, r.v.blk sz) :: killM t Mx)) (ρ := upd ρ t (some (b, o, cp))) (M := (t, r.v.blk sz) :: killM t Mx) t 0 r.v.count none b o cp c (r.v.blk sz)
          (by simp [get]) (by simp [upd]) (by omega) g2 (by revert g7; cases r.v <;> intro g7 <;> first | exact g7.elim | (simp [AV.blk, Blk.count, AV.count]))
        simp only [Nat.zero_mul, Nat.add_zero] at this
        exact this
  split at h
  · rename_i l hv _
    simp only [Option.some.injEq, Prod.mk.injEq] at h
    obtain ⟨rfl, rfl⟩ := h
    exact fin st.M (.inr ⟨rfl, _, hv⟩) (by rw [hv]; rfl) (by rw [hv]; rfl) (by rw [hv]; rfl) (fun _ => trivial) (fun z l' hz => by rw [hv] at hz; cases hz) fun _ _ => rfl
  · rename_i z l hv _
    obtain ⟨h1, h⟩ := need_some h
    have e1 := Nat.eq_of_beq_eq_true h1
    simp only [Option.some.injEq, Prod.mk.injEq] at h
    obtain ⟨rfl, rfl⟩ := h
    subst e1
    exact fin M' (.inl rfl) (by rw [hv]; rfl) (by rw [hv]; rfl) (by rw [hv]; rfl) (fun _ => trivial) (fun z' l' hz => by rw [hv] at hz; simp only [AV.row.injEq] at hz; exact hz.1.symm) fun l' hl => by rw [hv] at hl; cases hl
  · cases h

theorem callOwnT_ok {t f : Nat} {xs : List AO} {sz : Nat} {tys : List Ty} (hR : RSound P C.G R) (hI : Inv C ρ st a.tmps w) (htg : t < rT) (h : step C.G R (.callOwnT t f xs sz tys) st (fun s st' => some (s, st')) = some (s, st')) {ys : Array Operand} {ts : Array TypeId}
    (ho : oper.op = .call ⟨.value (.func f), ys, ts⟩) (hx : fitL xs ys.toList = true) : Good P C oper a w s st' := by
  simp only [step] at h
  obtain ⟨vs, M', h, hI', hr, hbad, _⟩ := giveL_ok (P := P) hI hx h
  simp only [Option.bind_eq_some_iff] at h
  obtain ⟨r, hRr, h⟩ := h
  cases hown : r.own
  · simp [hown] at h
  simp only [hown, cond_true] at h
  have hI'' : Inv C ρ (st.withM M') a.tmps w := hI'
  have hC := hR.plain f vs r hRr (bad C.Bo ρ M') w (ys.toList.map a.eval) hI''.glob hI''.badlt hr
  rw [show (ys.toList.map a.eval).toArray = ys.map a.eval by apply Array.ext'; simp] at hC
  have h2 := asTy_some _ _ _ _ h
  split at h2
  case h_2 => cases h2
  rename_i z l rest hv
  obtain ⟨hfl, h2⟩ := need_some h2
  simp only [Option.some.injEq, Prod.mk.injEq] at h2
  obtain ⟨rfl, rfl⟩ := h2
  rw [hv] at h
  simp only [asTy, asT, asTys, asC, asR] at h
  cases hz : Nat.beq z sz
  · rw [hz] at h; simp at h
  have ez := Nat.eq_of_beq_eq_true hz
  subst ez
  rw [hz] at h
  simp only [cond_true] at h
  refine hC.does (ex_call ho rfl) fun e w' ⟨v, e1, e2, e3, e4⟩ => ⟨v, e1, ?_⟩
  have e4' := e4 hown
  rw [hv] at e3 e4'
  cases e3 with
  | tup _ us e3 =>
  cases e3 with
  | cons _ x _ us hx' hrest =>
  have hrest' : ∀ B' : Nat → Prop, RelL w' B' rest us := fun B' => asTys_flat tys hfl h hrest
  have hx0 : ownX (.tuple (x :: us).toArray) = x := by simp [ownX]
  rw [hx0] at e4'
  rcases e4' with ⟨rfl, hv0⟩ | ⟨b, o, c, cp, sz', cells, e, fr, ws, rfl, g1, g2, g3, g4, g5, g6, g7, g8, g9⟩
  · have hl0 : l = [] := by
      rcases hv0 with hv0 | ⟨z', hv0⟩
      · cases hv0
      · simp only [ownV, AV.row.injEq] at hv0; exact hv0.2
    subst hl0
    refine ⟨upd ρ t none, ((hI''.kill t none).virt htg get_kill1 (by simp [upd]) (show Blk.void (.row z [] false) from rfl)).grow e2, ?_⟩
    exact .tupNil t _ _ _ (by simp [St.withM, get]; rfl) (by simp [upd]) (hrest' _)
  · have g7' : CR w' (fun y => bad C.Bo ρ M' y ∨ y = b) sz' (.row z l) ws := g7
    have hsz : z = sz' := g7'.1
    subst hsz
    have hc : AV.count (ownV (.tup (.row z l :: rest))) = l.length := rfl
    rw [hc] at g2 ⊢
    refine ⟨upd ρ t (some (b, o, cp)), ?_, ?_⟩
    · refine (hI''.kill t _).fresh (b := b) (o := o) (cp := cp) htg get_kill1 (by simp [upd]) e2 g1 ?_
      refine RelBlk.of (v := .row z l) (g7'.mono (Agree.refl _ _) fun x _ hx => ?_) g4 g5 (by show l.length ≤ cp; omega) g6 g8 (fun _ h => by cases h)
      rcases hx with hx | ⟨u, bu, ou, cu, q1, q2, q3⟩
      · exact .inl (.inl hx)
      · simp only [St.kill, St.withM] at q1
        rw [get_cons] at q1
        by_cases hut : u = t
        · subst hut; simp only [upd, if_true, Option.some.injEq, Prod.mk.injEq] at q3; exact .inr q3.1.symm
        · simp only [hut, if_false] at q1
          exact .inl (bad_kill x (.inr ⟨u, bu, ou, cu, q1, q2, q3⟩))
    · exact .tupO t l.length rest us b o cp c (.row z l false) (by simp [St.withM, get]) (by simp [upd]) g3 g2 (Nat.le_refl _) (hrest' _)

theorem iaddr_ok {x i : AO} {sz : Nat} {ty : Ty} (hI : Inv C ρ st a.tmps w) (h : step C.G R (.iaddr x i sz ty) st (fun s st' => some (s, st')) = some (s, st')) {t : TypeId} {x' i' : Operand}
    (ho : oper.op = .indexAddr t x' i') (hx : fitO x x' = true) (hi : fitO i i' = true) (ht : sliceSz P t sz = true) : Good P C oper a w s st' := by
  simp only [step, Option.bind_eq_some_iff] at h
  obtain ⟨sx, hsx, si, hsi, h⟩ := h
  have h1 := fitO_sound hI hx hsx
  have h2 := fitO_sound hI hi hsi
  split at h
  case h_2 => cases h
  rename_i k n
  cases h2 with
  | imm _ _ h2 =>
  generalize hvi : a.eval i' = vi at h2
  cases h2
  have exl : ∀ {b o len c : Nat}, a.eval x' = .slice (some ⟨b, o, none⟩) len c → 0 ≤ n → n < len → (execOp a.eval oper).run P w = .ok (.value (.pointer (some ⟨b, o + n.toNat * sz, none⟩))) w := by
    intro b o len c e1 e2 e3
    rw [ex_indexAddr ho, e1, hvi]
    exact run_v (run_indexAt ht e2 e3)
  split at h
  · obtain ⟨h0, h⟩ := need_some h
    simp only [decide_eq_true_eq] at h0
    simp only [Option.bind_eq_some_iff] at h
    obtain ⟨y, hy, h⟩ := h
    cases hsz : Nat.beq sz 1
    · simp [hsz] at h
    have e1 := Nat.eq_of_beq_eq_true hsz
    simp only [hsz, cond_true, Option.some.injEq, Prod.mk.injEq] at h
    obtain ⟨rfl, rfl⟩ := h
    cases h1 with
    | imm _ _ h1 =>
    generalize hv : a.eval x' = v1 at h1 exl
    have hlt := (List.getElem?_eq_some_iff.1 hy).1
    cases h1 with
    | bnil => simp at hlt
    | bytes l b o cap hb hB hc hs =>
      refine Good.same hI (w' := w) (exl rfl h0 (by omega)) rfl (.rptr _ [.int .u8 y.toNat] b _ hb hB (.cons _ _ _ _ (.int _ _) .nil) fun j v hj => ?_)
      subst e1
      cases j with
      | zero => simp at hj; subst hj; simpa using hs _ y hy
      | succ j => simp at hj
  · rename_i z xs
    cases hsz : Nat.beq sz z
    · simp [hsz] at h
    have e1 := Nat.eq_of_beq_eq_true hsz
    simp only [hsz, cond_true] at h
    obtain ⟨h0, h⟩ := need_some h
    simp only [decide_eq_true_eq] at h0
    simp only [Option.bind_eq_some_iff] at h
    obtain ⟨y, hy, h⟩ := h
    have h3 := asTy_some _ _ _ _ h
    simp only [Option.some.injEq, Prod.mk.injEq] at h3
    obtain ⟨rfl, rfl⟩ := h3
    cases h1 with
    | imm _ _ h1 =>
    generalize hv : a.eval x' = v1 at h1 exl
    have hlt := (List.getElem?_eq_some_iff.1 hy).1
    subst e1
    cases h1 with
    | rnil => simp at hlt
    | row _ xs vs b o cap hb hB hc hz ho1 hr hs =>
      have hfl := flats_get sz xs n.toNat y hz hy
      refine Good.same hI (w' := w) (exl rfl h0 (by omega)) rfl (.rptr _ ((vs.drop (n.toNat * sz)).take sz) b _ hb hB (by rw [← hfl]; exact (hr.drop _).take _) fun j v hj => ?_)
      rw [Nat.add_assoc]
      exact hs _ v (getElem?_drop_take hj)
  · rename_i t' off len cap
    obtain ⟨h0, h⟩ := need_some h
    simp only [Bool.and_eq_true, decide_eq_true_eq] at h0
    have fin : ∀ blk, get st.M t' = some blk → (bif Nat.beq sz blk.sz then some (SV.ptr t' (off + n.toNat) 0, st) else none) = some (s, st') → Good P C oper a w s st' := by
      intro blk hm h
      cases hsz : Nat.beq sz blk.sz
      · simp [hsz] at h
      have e1 := Nat.eq_of_beq_eq_true hsz
      simp only [hsz, cond_true, Option.some.injEq, Prod.mk.injEq] at h
      obtain ⟨rfl, rfl⟩ := h
      generalize hv : a.eval x' = v1 at h1 exl
      cases h1 with
      | own t' off len cap b o cp c blk' hm' hr hc hl' hn =>
        obtain rfl : blk = blk' := by rw [hm] at hm'; simpa using hm'
        have := RelS.ptr (w := w) (B := bad C.Bo ρ st.M) (ρ := ρ) t' (off + n.toNat) 0 b o cp blk hm hr
        rw [Nat.add_mul, ← e1, Nat.add_zero, ← Nat.add_assoc] at this
        exact Good.same hI (w' := w) (exl rfl h0.1 h0.2) rfl (by rw [← e1]; exact this)
      | ownNil => omega
    split at h
    · rename_i hm; exact fin _ hm h
    · rename_i hm; exact fin _ hm h
    · cases h
  · cases h

theorem index_ok {x i : AO} (hI : Inv C ρ st a.tmps w) (h : step C.G R (.index x i) st (fun s st' => some (s, st')) = some (s, st')) {t : TypeId} {x' i' : Operand}
    (ho : oper.op = .index t x' i') (hx : fitO x x' = true) (hi : fitO i i' = true) (ht : isStr P t = true) : Good P C oper a w s st' := by
  simp only [step, Option.bind_eq_some_iff] at h
  obtain ⟨sx, hsx, si, hsi, h⟩ := h
  have h1 := fitO_sound hI hx hsx
  have h2 := fitO_sound hI hi hsi
  split at h
  case h_2 => cases h
  rename_i b k n
  obtain ⟨h0, h⟩ := need_some h
  simp only [decide_eq_true_eq] at h0
  simp only [Option.bind_eq_some_iff, Option.some.injEq, Prod.mk.injEq] at h
  obtain ⟨y, hy, rfl, rfl⟩ := h
  cases h1 with
  | imm _ _ h1 =>
  cases h2 with
  | imm _ _ h2 =>
  generalize hvi : a.eval i' = vi at h2
  generalize hv : a.eval x' = v1 at h1
  cases h2
  cases h1 with
  | str ba =>
  refine Good.same hI (v := .int .u8 y.toNat) (w' := w) ?_ rfl (.imm _ _ (.int _ _))
  rw [ex_index ho, hv, hvi]
  refine run_v ?_
  unfold Instr.index
  have e1 : (asIntOf (.int k n)).run P w = .ok (k, n) w := rfl
  rw [run_bind_ok e1]
  dsimp only
  rw [run_bind_ok (run_underlying (isStr_ok ht))]
  dsimp only
  rw [if_pos h0]
  have : ba[n.toNat]? = some y := by
    rw [← hy, Array.getElem?_toList]; rfl
  rw [this]; rfl

end ops

theorem freeze_ok {w : World} {b : Nat} {cells : Array Value} {e : TypeId} {fr : Nat × Nat} (hh : w.heap[b]? = some (.cells cells e fr)) (hf : Free cells.size fr) :
    ∃ fr', w.freeze ⟨b, cells.size, none⟩ 1 = setBlk w b (.cells cells e fr') ∧ Free cells.size fr' := by
  obtain ⟨lo, hi⟩ := fr
  refine ⟨if lo == hi then (cells.size, cells.size + 1) else (min lo cells.size, max hi (cells.size + 1)), ?_, ?_⟩
  · unfold World.freeze setBlk
    rw [if_neg (by decide)]
    congr 1
    apply Array.ext_getElem?
    intro k
    rw [Array.getElem?_modify, Array.getElem?_setIfInBounds]
    by_cases hk : b = k
    · subst hk
      rw [if_pos rfl, if_pos rfl, if_pos (lt_of_get hh), hh]; rfl
    · simp [hk]
  · split
    · exact .inr (Nat.le_refl _)
    · rcases hf with h | h
      · simp at h; simp_all
      · refine .inr ?_
        simp only at h ⊢
        omega

section ops
variable {P : Program} {C : Cx} {R : Nat → List AV → Option Res} {ρ : Rho} {st : St} {a : Act} {w : World} {oper : Oper} {s : SV} {st' : St}

theorem bytesRow_list (s : ByteArray) (c : Nat) : (bytesRow s c).toList = (s.data.toList.map fun b => Value.int .u8 (b.toNat : Int)) ++ List.replicate (c - s.size) (.int .u8 0) := by
  simp [bytesRow]

theorem cvBytes_run {t d : TypeId} {x' : Operand} {b : ByteArray} (ho : oper.op = .convert t d x') (hv : a.eval x' = .string b) (ht : isStr P t = true) (hd : isU8s P d = true) :
    ∃ c e cells fr w', (execOp a.eval oper).run P w = .ok (.value (.slice (some ⟨w.heap.size, 0, none⟩) b.size c)) w' ∧ w'.heap = w.heap.push (.cells cells e fr) ∧ (w'.os = w.os ∧ w'.tape = w.tape ∧ w'.output = w.output) ∧ Free cells.size fr ∧ b.size ≤ c ∧ c ≤ cells.size ∧
      (∀ (j : Nat) (x : UInt8), b.data.toList[j]? = some x → cells[j]? = some (Value.int .u8 x.toNat)) ∧ (b.size ≤ 9223372036854775807 → Bytes8 cells 0 c) := by
  obtain ⟨e, h1, h2⟩ := isU8s_ok hd
  have hrun := run_bytes_of_string w t d e b (isStr_ok ht) h1 h2
  have hcap := grownCap_ge w b.size 0 e
  refine ⟨_, e, _, _, _, (by rw [ex_convert ho, hv]; exact run_v hrun : (execOp a.eval oper).run P w = .ok (.value (.slice (some ⟨w.heap.size, 0, none⟩) b.size (grownCap w b.size 0 e))) (w.drew.alloc (.cells (bytesRow b (grownCap w b.size 0 e)) e ((bytesRow b (grownCap w b.size 0 e)).size, (bytesRow b (grownCap w b.size 0 e)).size + 1)))), rfl, ⟨rfl, rfl, rfl⟩, .inr (Nat.le_refl _), hcap, ?_, fun j x hj => ?_, fun hbm => ⟨grownCap_le_maxLen w _ 0 e hbm, fun j hj => ?_⟩⟩
  · have : (bytesRow b (grownCap w b.size 0 e)).toList.length = grownCap w b.size 0 e := by
      rw [bytesRow_list]; simp only [List.length_append, List.length_map, List.length_replicate, Array.length_toList]
      show b.size + _ = _
      omega
    rw [Array.length_toList] at this; omega
  · rw [← Array.getElem?_toList, bytesRow_list]
    rw [List.getElem?_append_left (by simpa using (List.getElem?_eq_some_iff.1 hj).1)]
    simp [hj]
  · rw [Nat.zero_add, ← Array.getElem?_toList, bytesRow_list]
    have hl : b.data.toList.length = b.size := by rw [Array.length_toList]; rfl
    by_cases hlt : j < b.size
    · rw [List.getElem?_append_left (by rw [List.length_map, hl]; exact hlt), List.getElem?_map, List.getElem?_eq_getElem (by rw [hl]; exact hlt)]
      exact ⟨_, rfl⟩
    · rw [List.getElem?_append_right (by rw [List.length_map, hl]; omega), List.getElem?_replicate, if_pos (by rw [List.length_map, hl]; omega)]
      exact ⟨0, rfl⟩

theorem agree_of_push {w w' : World} {o : Obj} (h : w'.heap = w.heap.push o) (ho : w'.os = w.os ∧ w'.tape = w.tape ∧ w'.output = w.output := by exact ⟨rfl, rfl, rfl⟩) : Agree (fun _ => False) w w' := ⟨by rw [h]; simp, fun b hb _ => by rw [h]; simp [Array.getElem?_push, Nat.ne_of_lt hb], ho⟩

theorem cvBytes_ok {x : AO} (hI : Inv C ρ st a.tmps w) (h : step C.G R (.cvBytes x) st (fun s st' => some (s, st')) = some (s, st')) {t d : TypeId} {x' : Operand}
    (ho : oper.op = .convert t d x') (hx : fitO x x' = true) (ht : isStr P t = true) (hd : isU8s P d = true) : Good P C oper a w s st' := by
  simp only [step, Option.bind_eq_some_iff] at h
  obtain ⟨u, hu, h⟩ := h
  have h1 := fitO_sound hI hx hu
  split at h
  · cases h1 with
    | imm _ _ h1 =>
    generalize hv : a.eval x' = v1 at h1
    cases h1 with
    | str b =>
    simp only [Option.some.injEq, Prod.mk.injEq] at h
    obtain ⟨rfl, rfl⟩ := h
    obtain ⟨c, e, cells, fr, w', g1, g2, gout, g3, g4, g5, g6, _⟩ := cvBytes_run (w := w) ho hv ht hd
    have hl : b.data.toList.length = b.size := by rw [Array.length_toList]; rfl
    have hA := agree_of_push g2 gout
    refine Does.value g1 ⟨ρ, hI.grow hA, .imm _ _ ?_⟩
    have := Rel.bytes (w := w') (B := bad C.Bo ρ st.M) b.data.toList w.heap.size 0 c (by rw [g2]; simp) (fun hb => by have := hI.badlt _ hb; omega) (by omega) fun j x hj => by
      rw [cell_of (cells := cells) (e := e) (fr := fr) (by rw [g2]; simp), Nat.zero_add]; exact g6 j x hj
    rwa [hl] at this
  · cases h

theorem cvBytesOwn_ok {t : Nat} {x : AO} (hI : Inv C ρ st a.tmps w) (htg : t < rT) (h : step C.G R (.cvBytesOwn t x) st (fun s st' => some (s, st')) = some (s, st')) {T d : TypeId} {x' : Operand}
    (ho : oper.op = .convert T d x') (hx : fitO x x' = true) (ht : isStr P T = true) (hd : isU8s P d = true) : Good P C oper a w s st' := by
  simp only [step, Option.bind_eq_some_iff] at h
  obtain ⟨u, hu, h⟩ := h
  have h1 := fitO_sound hI hx hu
  split at h
  · cases h1 with
    | imm _ _ h1 =>
    generalize hv : a.eval x' = v1 at h1
    cases h1 with
    | str b =>
    obtain ⟨hlim, h⟩ := need_some h
    simp only [decide_eq_true_eq] at hlim
    simp only [Option.some.injEq, Prod.mk.injEq] at h
    obtain ⟨rfl, rfl⟩ := h
    obtain ⟨c, e, cells, fr, w', g1, g2, gout, g3, g4, g5, g6, g7⟩ := cvBytes_run (w := w) ho hv ht hd
    have hl : b.data.toList.length = b.size := by rw [Array.length_toList]; rfl
    have hA := agree_of_push g2 gout
    refine Does.value g1 ⟨upd ρ t (some (w.heap.size, 0, c)), ?_, ?_⟩
    · refine (hI.kill t _).fresh (b := w.heap.size) (o := 0) (cp := c) htg get_kill1 (by simp [upd]) hA (Nat.le_refl _) ?_
      exact ⟨cells, e, fr, by rw [g2]; simp, g3, by omega, by omega, fun j x hj => by rw [Nat.zero_add]; exact g6 j x hj, g7 (by omega)⟩
    · have := RelS.own (w := w') (B := bad C.Bo (upd ρ t (some (w.heap.size, 0, c))) ((t, .bytes b.data.toList false) :: killM t st.M)) (ρ := upd ρ t (some (w.heap.size, 0, c))) (M := (t, .bytes b.data.toList false) :: killM t st.M) t 0 b.data.toList.length none w.heap.size 0 c c (.bytes b.data.toList false)
        (by simp [get]) (by simp [upd]) (by omega) (by omega) (by simp [Blk.count])
      simp only [Nat.zero_mul, Nat.add_zero] at this
      rw [hl] at this ⊢
      exact this
  · cases h

theorem cvSame_ok {x : AO} (hI : Inv C ρ st a.tmps w) (h : step C.G R (.cvSame x) st (fun s st' => some (s, st')) = some (s, st')) {T : TypeId} {x' : Operand}
    (ho : oper.op = .convert T T x') (hx : fitO x x' = true) (ht : isU8s P T = true) : Good P C oper a w s st' := by
  simp only [step, Option.bind_eq_some_iff] at h
  obtain ⟨u, hu, h⟩ := h
  have h1 := fitO_sound hI hx hu
  split at h
  case h_2 => cases h
  rename_i t off len cp0
  split at h
  case h_2 => cases h
  rename_i l hm
  obtain ⟨h2, h⟩ := need_some h
  have h2 := Nat.le_of_ble_eq_true h2
  simp only [Option.some.injEq, Prod.mk.injEq] at h
  obtain ⟨rfl, rfl⟩ := h
  generalize hv : a.eval x' = v1 at h1
  cases h1 with
  | ownNil => omega
  | own t off len cap b o cp c blk hm' hr hc hl hn =>
  obtain rfl : Blk.bytes l false = blk := by rw [hm] at hm'; simpa using hm'
  obtain ⟨b0, o0, cp0, k1, hb, k3, k4⟩ := (hI.mem t _ hm).resolve_right fun hh => by rw [hr] at hh; cases hh.1
  rw [hr] at k1; simp only [Option.some.injEq, Prod.mk.injEq] at k1; obtain ⟨rfl, rfl, rfl⟩ := k1
  obtain ⟨cells, e, fr, q1, q2, q3, q4, q5⟩ := hb
  obtain ⟨fr', q6, q7⟩ := freeze_ok q1 q2
  obtain ⟨el, g1, g2⟩ := isU8s_ok ht
  have hrun : (execOp a.eval oper).run P w = .ok (.value (.slice (some ⟨b, o + off * 1, none⟩) len c)) (setBlk w b (.cells cells e fr')) := by
    rw [ex_convert ho, hv]
    refine run_v ?_
    unfold convert
    rw [run_bind_ok (run_underlying g1), run_bind_ok (run_underlying g1)]
    show (do match T == T, ← underlying el with
      | true, .int .u8 => do markStringish ⟨b, o + off * 1, none⟩; pure (Value.slice (some ⟨b, o + off * 1, none⟩) len c)
      | _, _ => unsupported (.noEntry "convert/other") : Sem Value).run P w = _
    rw [run_bind_ok (run_underlying g2)]
    simp only [beq_self_eq_true]
    have hms : (markStringish ⟨b, o + off * 1, none⟩).run P w = .ok () (setBlk w b (.cells cells e fr')) := by
      unfold markStringish
      have hs : (shape b).run P w = .ok (some (e, cells.size)) w := by
        show Result.ok (w.shape? b) w = _
        simp [World.shape?, q1]
      rw [run_bind_ok hs]
      show Result.ok () (w.freeze ⟨b, cells.size, none⟩ 1) = _
      rw [q6]
    rw [run_bind_ok hms]; rfl
  have hwr := hI.write (blk' := .bytes l false) hm rfl hr rfl rfl agree_setBlk ⟨cells, e, fr', heap_setBlk (lt_of_get q1), q7, q3, q4, q5⟩
  -- the same state, written anew
  have hset : ∀ n, get (setM st.M t (.bytes l false)) n = get st.M n := by
    intro n; rw [get_setM]; split
    · rename_i e; rw [e, hm]
    · rfl
  have hbad : ∀ x, bad C.Bo ρ st.M x → bad C.Bo ρ (setM st.M t (.bytes l false)) x := by
    rintro x (hx | ⟨u, bu, ou, cu, m1, m2, m3⟩)
    · exact .inl hx
    · exact .inr ⟨u, bu, ou, cu, by rw [hset]; exact m1, m2, m3⟩
  have hsh : SameShape (setM st.M t (.bytes l false)) st.M := fun n bl hn => ⟨bl, by rw [← hset]; exact hn, rfl, rfl⟩
  have hfin : Inv C ρ st a.tmps (setBlk w b (.cells cells e fr')) := by
    refine ⟨hwr.ext, fun n s hn => ?_, fun n bl hn => ?_, fun u u' bl bl' b1 o1 c1 b2 o2 c2 m1 m2 => ?_, hwr.glob.mono (Agree.refl _ _) fun x _ hx => hbad x hx, hwr.bo, fun u bl hu hg => hwr.pin u bl hu (by show get (setM st.M t (.bytes l false)) u = _; rw [hset]; exact hg)⟩
    · have := hwr.env n s hn
      exact ⟨this.1, (this.2.mono (Agree.refl _ _) fun x _ hx => hbad x hx).shape hsh⟩
    · rcases hwr.mem n bl (by show get (setM st.M t (.bytes l false)) n = _; rw [hset]; exact hn) with ⟨b1, o1, c1, m1, m2, m3⟩ | m1
      · exact .inl ⟨b1, o1, c1, m1, (m2.mono (Agree.refl _ _) (fun x _ hx => hbad x hx) rfl).shape hsh, m3⟩
      · exact .inr m1
    · exact hwr.inj u u' bl bl' b1 o1 c1 b2 o2 c2 (by show get (setM st.M t (.bytes l false)) u = _; rw [hset]; exact m1) (by show get (setM st.M t (.bytes l false)) u' = _; rw [hset]; exact m2)
  exact Does.value hrun ⟨ρ, hfin, .own t off len _ b o cp c _ hm hr hc hl hn⟩

theorem immL_ok (hI : Inv C ρ st a.tmps w) : ∀ {xs : List AO} {ys : List Operand} {vs : List AV}, fitL xs ys = true → immL C.G st xs = some vs → RelL w (bad C.Bo ρ st.M) vs (ys.map a.eval)
  | [], [], vs, _, h => by simp only [immL, Option.some.injEq] at h; subst h; exact .nil
  | x :: xs, y :: ys, vs, hf, h => by
    simp only [fitL, Bool.and_eq_true] at hf
    simp only [immL] at h
    split at h
    · rename_i v hv
      simp only [Option.map_eq_some_iff] at h
      obtain ⟨r, hr, rfl⟩ := h
      have h1 := fitO_sound hI hf.1 hv
      cases h1 with
      | imm _ _ h1 => exact .cons _ _ _ _ h1 (immL_ok hI hf.2 hr)
    · cases h
  | [], _ :: _, vs, hf, _ => by simp [fitL] at hf
  | _ :: _, [], vs, hf, _ => by simp [fitL] at hf

theorem minL_ok {B : Nat → Prop} : ∀ {l : List AV} {us : List Value} {m : Int} {k : IntKind} {K : Int → Option (SV × St)} {r : SV × St}, RelL w B l us → minL m l k K = some r →
    ∃ n, K n = some r ∧ (us.foldlM Builtin.min2 (.int k m)).run P w = .ok (.int k n) w
  | _, _, m, k, K, r, .nil, h => ⟨m, h, rfl⟩
  | _, _, m, k, K, r, .cons x u xs us hx t, h => by
    cases hx <;> simp only [minL, reduceCtorEq] at h
    rename_i k' n'
    cases hk : decide (k' = k)
    · simp [hk] at h
    simp only [hk, cond_true] at h
    obtain ⟨n, h1, h2⟩ := minL_ok t h
    refine ⟨n, h1, ?_⟩
    rw [List.foldlM_cons]
    have : (Builtin.min2 (.int k m) (.int k' n')).run P w = .ok (.int k (if n' < m then n' else m)) w := rfl
    rw [run_bind_ok this]; exact h2
theorem maxL_ok {B : Nat → Prop} : ∀ {l : List AV} {us : List Value} {m : Int} {k : IntKind} {K : Int → Option (SV × St)} {r : SV × St}, RelL w B l us → maxL m l k K = some r →
    ∃ n, K n = some r ∧ (us.foldlM Builtin.max2 (.int k m)).run P w = .ok (.int k n) w
  | _, _, m, k, K, r, .nil, h => ⟨m, h, rfl⟩
  | _, _, m, k, K, r, .cons x u xs us hx t, h => by
    cases hx <;> simp only [maxL, reduceCtorEq] at h
    rename_i k' n'
    cases hk : decide (k' = k)
    · simp [hk] at h
    simp only [hk, cond_true] at h
    obtain ⟨n, h1, h2⟩ := maxL_ok t h
    refine ⟨n, h1, ?_⟩
    rw [List.foldlM_cons]
    have : (Builtin.max2 (.int k m) (.int k' n')).run P w = .ok (.int k (if n' > m then n' else m)) w := rfl
    rw [run_bind_ok this]; exact h2

theorem mn_ok {xs : List AO} (hI : Inv C ρ st a.tmps w) (h : step C.G R (.mn xs) st (fun s st' => some (s, st')) = some (s, st')) {ys : Array Operand} {ts : Array TypeId}
    (ho : oper.op = .call ⟨.builtin .min, ys, ts⟩) (hx : fitL xs ys.toList = true) : Good P C oper a w s st' := by
  simp only [step, Option.bind_eq_some_iff] at h
  obtain ⟨vs, hvs, h⟩ := h
  have hr := immL_ok hI hx hvs
  split at h
  · rename_i k m l
    generalize hus : ys.toList.map a.eval = us at hr
    cases hr with
    | cons _ u _ us hx1 t =>
    cases hx1
    obtain ⟨n, h1, h2⟩ := minL_ok (P := P) t h
    simp only [Option.some.injEq, Prod.mk.injEq] at h1
    obtain ⟨rfl, rfl⟩ := h1
    refine Good.same hI (w' := w) ?_ rfl (.imm _ _ (.int _ _))
    rw [ex_builtin ho]
    show (do pure (.value (← Builtin.min_ ts oper.type (ys.map a.eval))) : Sem Next).run P w = _
    refine run_v ?_
    unfold Builtin.min_
    rw [show (ys.map a.eval).toList = .int k m :: us by rw [← hus]; simp]
    exact h2
  · cases h
theorem mx_ok {xs : List AO} (hI : Inv C ρ st a.tmps w) (h : step C.G R (.mx xs) st (fun s st' => some (s, st')) = some (s, st')) {ys : Array Operand} {ts : Array TypeId}
    (ho : oper.op = .call ⟨.builtin .max, ys, ts⟩) (hx : fitL xs ys.toList = true) : Good P C oper a w s st' := by
  simp only [step, Option.bind_eq_some_iff] at h
  obtain ⟨vs, hvs, h⟩ := h
  have hr := immL_ok hI hx hvs
  split at h
  · rename_i k m l
    generalize hus : ys.toList.map a.eval = us at hr
    cases hr with
    | cons _ u _ us hx1 t =>
    cases hx1
    obtain ⟨n, h1, h2⟩ := maxL_ok (P := P) t h
    simp only [Option.some.injEq, Prod.mk.injEq] at h1
    obtain ⟨rfl, rfl⟩ := h1
    refine Good.same hI (w' := w) ?_ rfl (.imm _ _ (.int _ _))
    rw [ex_builtin ho]
    show (do pure (.value (← Builtin.max_ ts oper.type (ys.map a.eval))) : Sem Next).run P w = _
    refine run_v ?_
    unfold Builtin.max_
    rw [show (ys.map a.eval).toList = .int k m :: us by rw [← hus]; simp]
    exact h2
  · cases h

end ops

def fieldsOk (P : Program) : List Field → Nat → List Nat → Bool
  | [], _, [] => true
  | f :: fs, o, k :: ks => !(f.name == "_") && Nat.beq f.offset o && (match k with | 0 => isInt P f.type | 1 => (match P.underlying f.type with | some .bool => true | _ => false) | 2 => isStr P f.type | _ => false) && fieldsOk P fs (o + 1) ks
  | _, _, _ => false
def structOk (P : Program) (t : TypeId) (ks : List Nat) : Bool :=
  match P.underlying t with
  | some (.struct fs) => fieldsOk P fs.toList 0 ks && !P.stoodInHeld t && !P.eqGuardType P.depth t
  | _ => false

section ops
variable {P : Program} {C : Cx} {R : Nat → List AV → Option Res} {ρ : Rho} {st : St} {a : Act} {w : World} {oper : Oper} {s : SV} {st' : St}

theorem weak_ok {x : AO} (hI : Inv C ρ st a.tmps w) (h : step C.G R (.weak x) st (fun s st' => some (s, st')) = some (s, st')) {x' : Operand} (ho : oper.op = .move x' ∨ oper.op = .assign x') (hf : fitO x x' = true) :
    Good P C oper a w s st' := by
  simp only [step, Option.bind_eq_some_iff] at h
  obtain ⟨u, hu, h⟩ := h
  split at h
  · rename_i b
    simp only [Option.some.injEq, Prod.mk.injEq] at h
    obtain ⟨rfl, rfl⟩ := h
    have h1 := fitO_sound hI hf hu
    have h2 : RelS w (bad C.Bo ρ st.M) ρ st.M (.imm (.bytes b)) (a.eval x') := by
      cases h1 with
      | imm _ _ h1 =>
      refine .imm _ _ ?_
      generalize a.eval x' = v at h1
      cases h1 with
      | lent s b o hb hB hs => exact .bytes _ b o _ hb hB (by omega) fun j x hj => hs j x (by rw [List.getElem?_append_left (List.getElem?_eq_some_iff.1 hj).1]; exact hj)
    refine Good.same hI (v := a.eval x') (w' := w) ?_ rfl h2
    rcases ho with ho | ho
    · rw [ex_move ho]; rfl
    · rw [ex_assign ho]; rfl
  · cases h

theorem capL_ok {x : AO} (hI : Inv C ρ st a.tmps w) (h : step C.G R (.capL x) st (fun s st' => some (s, st')) = some (s, st')) {x' : Operand} {t e : TypeId}
    (ho : oper.op = .call ⟨.builtin .cap, #[x'], #[t]⟩) (hx : fitO x x' = true) (ht : P.underlying t = some (.slice e)) : Good P C oper a w s st' := by
  simp only [step, Option.bind_eq_some_iff] at h
  obtain ⟨u, hu, h⟩ := h
  have h1 := fitO_sound hI hx hu
  generalize hv : a.eval x' = v1 at h1
  split at h
  · rename_i b
    simp only [Option.some.injEq, Prod.mk.injEq] at h
    obtain ⟨rfl, rfl⟩ := h
    cases h1 with
    | imm _ _ h1 =>
    cases h1 with
    | lent _ bb o hb hB hs =>
    obtain ⟨cs, hcs⟩ := ex_builtin1 (ρ := a.eval) ho
    refine Good.same hI (v := .int .i64 ((b.length + 3 : Nat) : Int)) (w' := w) ?_ rfl (.imm _ _ ?_)
    · rw [hcs]
      show (do pure (.value (← Builtin.cap_ #[t] oper.type #[a.eval x'])) : Sem Next).run P w = _
      rw [hv]
      refine run_v ?_
      unfold Builtin.cap_
      simp only [List.getElem?_toArray, List.getElem?_cons_zero]
      rw [run_bind_ok (run_underlying ht)]
      rfl
    · rw [show (((b.length + 3 : Nat) : Int)) = (b.length : Int) + 3 by omega]; exact .int _ _
  · cases h

theorem sliceL_ok {x hi : AO} (hI : Inv C ρ st a.tmps w) (h : step C.G R (.sliceL x hi) st (fun s st' => some (s, st')) = some (s, st')) {t : TypeId} {x' : Operand} {lo' hi' : Option Operand}
    (ho : oper.op = .slice t x' lo' hi' none) (hx : fitO x x' = true) (hlo : fitsOpt none lo' = true) (hhi : fitsOpt (some hi) hi' = true) (ht : sliceSz P t 1 = true) : Good P C oper a w s st' := by
  simp only [step, Option.bind_eq_some_iff] at h
  obtain ⟨u, hu, u', hu', h⟩ := h
  have h1 := fitO_sound hI hx hu
  cases lo' with
  | some _ => simp [fitsOpt] at hlo
  | none =>
  cases hi' with
  | none => simp [fitsOpt] at hhi
  | some y' =>
  have h2 := fitO_sound (x' := y') hI (by simpa [fitsOpt] using hhi) hu'
  split at h
  · rename_i b k n
    simp only [need, cond_eq_ite, Option.ite_none_right_eq_some, decide_eq_true_eq, Option.some.injEq, Prod.mk.injEq] at h
    obtain ⟨hn, rfl, rfl⟩ := h
    generalize hv : a.eval x' = v1 at h1
    generalize hv' : a.eval y' = v2 at h2
    cases h1 with
    | imm _ _ h1 =>
    cases h2 with
    | imm _ _ h2 =>
    cases h2
    cases h1 with
    | lent _ bb o hb hB hs =>
    have hr := run_slice_sl (P := P) (w := w) ht (a := some ⟨bb, o, none⟩) (len := b.length) (c := b.length + 3) (lo := none) (hi := some (.int k n)) (l := 0) (h := b.length + 3) ⟨k, by rw [hn]; rfl, Nat.le_refl _⟩ rfl
    refine Good.same hI (v := .slice (some ⟨bb, o, none⟩) (b ++ [85, 85, 85]).length (b.length + 3)) (w' := w) ?_ rfl (.imm _ _ (.bytes _ bb o _ hb hB (by simp) hs))
    rw [ex_slice ho, hv]
    refine run_v ?_
    show (Instr.sliceAt t (.slice (some ⟨bb, o, none⟩) b.length (b.length + 3)) none (some (a.eval y')) none).run P w = _
    rw [hv', hr, if_neg (by omega)]
    simp [Addr.add_mk]
  · cases h

theorem eqLs_ok {w : World} {B : Nat → Prop} {d : Nat} : ∀ {fs : List Field} {o : Nat} {ks : List Nat} {xs ys : List AV} {us vs : List Value} {X Y : Array Value} {r : Bool}, fieldsOk P fs o ks = true → eqLs ks xs ys = some r → RelL w B xs us → RelL w B ys vs →
    (∀ j v, us[j]? = some v → X[o + j]? = some v) → (∀ j v, vs[j]? = some v → Y[o + j]? = some v) → (Op.eqFields (d + 1) X Y fs).run P w = .ok r w
  | [], o, ks, xs, ys, us, vs, X, Y, r, hf, h, hx, hy, _, _ => by
    cases ks <;> simp only [fieldsOk, Bool.false_eq_true] at hf
    cases xs <;> cases ys <;> simp only [eqLs, Option.some.injEq, reduceCtorEq] at h
    subst h; rfl
  | f :: fs, o, ks, xs, ys, us, vs, X, Y, r, hf, h, hx, hy, hX, hY => by
    cases ks <;> simp only [fieldsOk, Bool.false_eq_true] at hf
    rename_i k ks
    simp only [Bool.and_eq_true, Bool.not_eq_true'] at hf
    obtain ⟨⟨⟨hn, hoff⟩, hk⟩, hf⟩ := hf
    have hoff := Nat.eq_of_beq_eq_true hoff
    cases hx with
    | nil => cases ys <;> simp [eqLs] at h
    | cons x u xs us hxu hx =>
    cases hy with
    | nil => simp [eqLs] at h
    | cons y v ys vs hyv hy =>
    simp only [eqLs, Option.bind_eq_some_iff, Option.some.injEq] at h
    obtain ⟨b, hb, r', hr', rfl⟩ := h
    have ih := eqLs_ok (d := d) (X := X) (Y := Y) hf hr' hx hy (fun j v hj => by have := hX (j + 1) v (by simpa using hj); rwa [show o + (j + 1) = o + 1 + j by omega] at this) (fun j v hj => by have := hY (j + 1) v (by simpa using hj); rwa [show o + (j + 1) = o + 1 + j by omega] at this)
    have hXo : X[f.offset]? = some u := by have := hX 0 u rfl; rwa [Nat.add_zero, ← hoff] at this
    have hYo : Y[f.offset]? = some v := by have := hY 0 v rfl; rwa [Nat.add_zero, ← hoff] at this
    have hne : f.name ≠ "_" := by simpa using hn
    have hpart : ∀ {Z : Array Value} {z : Value} {dd : TypeDesc}, P.underlying f.type = some dd → (match dd with | .int _ => true | .bool => true | .string => true | _ => false) = true → Z[f.offset]? = some z → (part f.type Z f.offset).run P w = .ok z w := by
      intro Z z dd hu hp hz
      cases dd <;> simp only [Bool.false_eq_true] at hp <;> simp [part, isAgg, run_underlying hu, hz, Result.andThen]
    have fin : ∀ {dd : TypeDesc}, P.underlying f.type = some dd → (match dd with | .int _ => true | .bool => true | .string => true | _ => false) = true → (Op.equalIn (d + 1) f.type u v).run P w = .ok b w → (Op.eqFields (d + 1) X Y (f :: fs)).run P w = .ok (b && r') w := by
      intro dd hu hp he
      simp only [Op.eqFields]
      rw [if_pos hne, run_bind_ok (hpart hu hp hXo), run_bind_ok (hpart hu hp hYo), run_bind_ok he]
      cases b
      · rfl
      · simpa using ih
    match k, hk with
    | 0, hk =>
      change isInt P f.type = true at hk
      unfold isInt at hk; split at hk <;> try cases hk
      rename_i k' hu
      cases x <;> cases y <;> simp only [eqLeaf, reduceCtorEq] at hb
      rename_i ka ia kb ib
      cases hxu; cases hyv
      by_cases hkk : ka = kb
      · subst hkk
        simp only [decide_true, cond_true, Option.some.injEq] at hb
        subst hb
        exact fin hu rfl (run_equalIn_int w d f.type ka k' ia ib hu)
      · simp [hkk] at hb
    | 1, hk =>
      change (match P.underlying f.type with | some .bool => true | _ => false) = true at hk
      split at hk <;> try cases hk
      rename_i hu
      cases x <;> cases y <;> simp only [eqLeaf, reduceCtorEq, Option.some.injEq] at hb
      cases hxu; cases hyv
      subst hb
      exact fin hu rfl (run_equalIn_bool' w d f.type _ _ hu)
    | 2, hk =>
      change isStr P f.type = true at hk
      unfold isStr at hk; split at hk <;> try cases hk
      rename_i hu
      cases x <;> cases y <;> simp only [eqLeaf, reduceCtorEq, Option.some.injEq] at hb
      cases hxu with | str s1 => cases hyv with | str s2 =>
      subst hb
      refine fin hu rfl ((run_equalIn_string w d f.type s1 s2 hu).trans ?_)
      rw [ByteArray.toList_eq, ByteArray.toList_eq]

theorem binA_ok {ng : Bool} {x y : AO} {ks : List Nat} (hI : Inv C ρ st a.tmps w) (h : step C.G R (.binA ng x y ks) st (fun s st' => some (s, st')) = some (s, st')) {t : TypeId} {x' y' : Operand} {u : TypeId}
    (ho : oper.op = .binOp (bif ng then BinOp.neq else BinOp.eql) t x' y' u) (hx : fitO x x' = true) (hy : fitO y y' = true) (ht : structOk P t ks = true) : Good P C oper a w s st' := by
  simp only [step, Option.bind_eq_some_iff] at h
  obtain ⟨u, hu, u', hu', h⟩ := h
  have h1 := fitO_sound hI hx hu
  have h2 := fitO_sound hI hy hu'
  unfold structOk at ht
  split at ht <;> try cases ht
  rename_i fs hut
  simp only [Bool.and_eq_true, Bool.not_eq_true'] at ht
  obtain ⟨⟨hf, hp⟩, hm⟩ := ht
  have hfs : P.fieldsOf t = fs := by unfold Program.fieldsOf; rw [hut]
  split at h
  · rename_i A B'
    simp only [Option.bind_eq_some_iff, Option.some.injEq, Prod.mk.injEq] at h
    obtain ⟨r, hr, rfl, rfl⟩ := h
    generalize hv : a.eval x' = v1 at h1
    generalize hv' : a.eval y' = v2 at h2
    cases h1 with
    | imm _ _ h1 =>
    cases h2 with
    | imm _ _ h2 =>
    cases h1 with
    | agg cs us hcu =>
    cases h2 with
    | agg ds vs hdv =>
    have he : (Op.equalIn 10000 t (.agg us.toArray) (.agg vs.toArray)).run P w = .ok r w := by
      refine (run_equalIn_agg w 9999 t us.toArray vs.toArray (by rw [hfs]; exact hut) hp).trans ?_
      rw [hfs]
      exact eqLs_ok (d := 9998) hf hr hcu hdv (fun j v hj => by simpa using hj) (fun j v hj => by simpa using hj)
    have hg : ∀ (op : BinOp) (f : Unit → Sem Value), ((eqGuard op t x' y' (.agg us.toArray) (.agg vs.toArray)) >>= f).run P w = (f ()).run P w := fun op f => run_bind_ok (run_eqGuard_agg w op t x' y' _ _ hm)
    refine Good.same hI (v := .bool (bif ng then !r else r)) (w' := w) ?_ rfl (.imm _ _ (.bool _))
    rw [ex_bin ho, hv, hv']
    refine run_v ?_
    refine (hg _ _).trans ?_
    cases ng
    · exact (run_eql_struct w t _ _).trans (by rw [he]; rfl)
    · exact (run_neq_struct w t _ _).trans (by rw [he]; rfl)
  · cases h

end ops

def mkFits (P : Program) (T : TypeId) (sz : Nat) (zero : AV) (by_ : Bool) : Bool :=
  match P.underlying T with
  | some (.slice e) => (match P.info? e with
    | some i => (match i.zero with
      | some z => Nat.beq i.size sz && Nat.ble 1 sz && Nat.ble i.bytes 64 && Nat.beq z.cells.size sz && fitVs zero.flat z.cells.toList && (!by_ || (Nat.beq sz 1 && fitVs [.int .u8 0] z.cells.toList))
      | none => false)
    | none => false)
  | _ => false

theorem madeCells_flat (z : Array Value) (n : Nat) : (madeCells z (n * z.size)).toList = (List.replicate n z.toList).flatten := by
  induction n with
  | zero => simp [madeCells]
  | succ n ih =>
    have e : (n + 1) * z.size = n * z.size + z.size := by rw [Nat.add_mul, Nat.one_mul]
    rw [e, List.replicate_succ', List.flatten_append, ← ih]
    unfold madeCells
    simp only [Array.toList_map, Array.toList_range, List.range_add, List.map_append, List.map_map, List.flatten_cons, List.flatten_nil, List.append_nil]
    congr 1
    refine List.ext_getElem? fun k => ?_
    simp only [List.getElem?_map]
    by_cases hk : k < z.size
    · rw [List.getElem?_range hk]
      have hm : (n * z.size + k) % z.size = k := by rw [Nat.add_comm, Nat.add_mul_mod_self_right, Nat.mod_eq_of_lt hk]
      simp [hm, hk]
    · have h1 : (List.range z.size)[k]? = none := List.getElem?_eq_none (by simp; omega)
      have h2 : z.toList[k]? = none := List.getElem?_eq_none (by simp; omega)
      rw [h1, h2]; rfl

theorem relL_rep {w : World} {B : Nat → Prop} {x : AV} {l : List Value} (h : RelL w B x.flat l) : ∀ n, RelL w B (flats (List.replicate n x)) (List.replicate n l).flatten
  | 0 => .nil
  | n + 1 => by
    simp only [List.replicate_succ, List.flatten_cons, flats, List.flatMap_cons]
    exact h.append (relL_rep h n)

section ops
variable {P : Program} {C : Cx} {R : Nat → List AV → Option Res} {ρ : Rho} {st : St} {a : Act} {w : World} {oper : Oper} {s : SV} {st' : St}

theorem mkOwn_ok {t : Nat} {n : AO} {sz : Nat} {zero : AV} {by_ : Bool} (hI : Inv C ρ st a.tmps w) (htg : t < rT) (h : step C.G R (.mkOwn t n sz zero by_) st (fun s st' => some (s, st')) = some (s, st')) {T : TypeId} {x' y' : Operand}
    (ho : oper.op = .makeSlice T x' y') (hx : fitO n x' = true) (hy : fitO n y' = true) (ht : mkFits P T sz zero by_ = true) : Good P C oper a w s st' := by
  simp only [step, Option.bind_eq_some_iff] at h
  obtain ⟨u, hu, h⟩ := h
  have h1 := fitO_sound hI hx hu
  have h1' := fitO_sound hI hy hu
  unfold mkFits at ht
  split at ht <;> try cases ht
  rename_i e hT
  split at ht <;> try cases ht
  rename_i i hi
  split at ht <;> try cases ht
  rename_i z hz
  simp only [Bool.and_eq_true] at ht
  obtain ⟨⟨⟨⟨⟨k1, k2⟩, k3⟩, k4⟩, k5⟩, k6⟩ := ht
  have k1 := Nat.eq_of_beq_eq_true k1
  have k2 := Nat.le_of_ble_eq_true k2
  have k3 := Nat.le_of_ble_eq_true k3
  have k4 := Nat.eq_of_beq_eq_true k4
  split at h
  · rename_i kd m
    generalize hv : a.eval x' = v1 at h1
    generalize hv' : a.eval y' = v2 at h1'
    cases h1 with
    | imm _ _ h1 =>
    cases h1' with
    | imm _ _ h1' =>
    cases h1
    cases h1'
    obtain ⟨hb, hh⟩ := need_some h
    clear h
    simp only [Bool.and_eq_true, decide_eq_true_eq] at hb
    have hrun := run_make (P := P) w T e i z hT hi hz kd kd m m hb.1 (Int.le_refl _) (by have : (i.bytes : Int) * m ≤ 64 * m := Int.mul_le_mul_of_nonneg_right (by omega) hb.1; omega) (by omega)
    rw [k1, ← k4] at hrun
    have hex : (execOp a.eval oper).run P w = .ok (.value (.slice (some ⟨w.heap.size, 0, none⟩) m.toNat m.toNat)) (w.alloc (.cells (madeCells z.cells (m.toNat * z.cells.size)) e)) := by
      rw [ex_makeSlice ho, hv, hv']; exact run_v hrun
    have hcells : (madeCells z.cells (m.toNat * z.cells.size)) = (List.replicate m.toNat z.cells.toList).flatten.toArray := by
      apply Array.ext'; rw [madeCells_flat]
    rw [hcells] at hex
    have fin : ∀ v : AV, v.count = m.toNat → CR w (bad C.Bo ρ st.M) sz v (List.replicate m.toNat z.cells.toList).flatten → some (SV.own t 0 m.toNat none, (st.kill t).withM ((t, v.blk sz) :: killM t st.M)) = some (s, st') → Good P C oper a w s st' := by
      intro v hc hcr h
      simp only [Option.some.injEq, Prod.mk.injEq] at h
      obtain ⟨rfl, rfl⟩ := h
      obtain ⟨ρ', g1, g2⟩ := fresh_row (M := st.M) (st := st) (t := t) (e := e) (w' := { w with heap := w.heap.push (.cells (List.replicate m.toNat z.cells.toList).flatten.toArray e) }) hI htg rfl hcr none (fun s hs => by rw [hc]; omega)
      rw [hc] at g2
      exact Does.value (v := .slice (some ⟨w.heap.size, 0, none⟩) m.toNat m.toNat) (w' := { w with heap := w.heap.push (.cells (List.replicate m.toNat z.cells.toList).flatten.toArray e) }) hex ⟨ρ', g1, g2⟩
    split at hh
    · -- bytes
      simp only [Bool.not_true, Bool.false_or, Bool.and_eq_true] at k6
      have k7 := Nat.eq_of_beq_eq_true k6.1
      subst k7
      have hzc : z.cells.toList = [.int .u8 0] := by
        have h8 := k6.2
        cases hl : z.cells.toList with
        | nil => rw [hl] at h8; simp [fitVs] at h8
        | cons y r =>
          rw [hl] at h8
          simp only [fitVs, Bool.and_eq_true] at h8
          cases r with
          | cons _ _ => simp [fitVs] at h8
          | nil =>
            have h9 := h8.1
            cases y <;> simp only [fitV, Bool.false_eq_true] at h9
            simp only [Bool.and_eq_true, decide_eq_true_eq] at h9
            obtain ⟨rfl, rfl⟩ := h9; rfl
      refine fin (.bytes (List.replicate m.toNat 0)) (by simp [AV.count]) ⟨rfl, ?_⟩ hh
      rw [hzc, List.map_replicate]
      induction m.toNat with
      | zero => rfl
      | succ k ih => simp only [List.replicate_succ, List.flatten_cons, ih]; rfl
    · -- rows
      obtain ⟨hb2, hh⟩ := need_some hh
      simp only [Bool.and_eq_true] at hb2
      have hfl := Nat.eq_of_beq_eq_true hb2.1
      have hz1 : RelL w (bad C.Bo ρ st.M) zero.flat z.cells.toList := fitVs_ok k5
      refine fin (.row sz (List.replicate m.toNat zero)) (by simp [AV.count]) ⟨rfl, fun x hx => ?_, fun v hv => ?_, relL_rep hz1 _⟩ hh
      · rw [List.eq_of_mem_replicate hx]; exact hfl
      · simp only [List.mem_flatten] at hv
        obtain ⟨l, hl, hv⟩ := hv
        rw [List.eq_of_mem_replicate hl] at hv
        exact hz1.ones hb2.2 v hv
    · cases hh
  · cases h
theorem rep_prefix {α : Type} (l : List α) {n m : Nat} (h : n ≤ m) : (List.replicate m l).flatten = (List.replicate n l).flatten ++ (List.replicate (m - n) l).flatten := by
  rw [← List.flatten_append, List.replicate_append_replicate]
  congr 2; omega
theorem mkOwnC_ok {t : Nat} {n c : AO} {sz : Nat} {zero : AV} (hI : Inv C ρ st a.tmps w) (htg : t < rT) (h : step C.G R (.mkOwnC t n c sz zero) st (fun s st' => some (s, st')) = some (s, st')) {T : TypeId} {x' y' : Operand}
    (ho : oper.op = .makeSlice T x' y') (hx : fitO n x' = true) (hy : fitO c y' = true) (ht : mkFits P T sz zero false = true) : Good P C oper a w s st' := by
  simp only [step, Option.bind_eq_some_iff] at h
  obtain ⟨u, hu, u', hu', h⟩ := h
  have h1 := fitO_sound hI hx hu
  have h1' := fitO_sound hI hy hu'
  unfold mkFits at ht
  split at ht <;> try cases ht
  rename_i e hT
  split at ht <;> try cases ht
  rename_i i hi
  split at ht <;> try cases ht
  rename_i z hz
  simp only [Bool.and_eq_true] at ht
  obtain ⟨⟨⟨⟨⟨k1, k2⟩, k3⟩, k4⟩, k5⟩, k6⟩ := ht
  have k1 := Nat.eq_of_beq_eq_true k1
  have k2 := Nat.le_of_ble_eq_true k2
  have k3 := Nat.le_of_ble_eq_true k3
  have k4 := Nat.eq_of_beq_eq_true k4
  split at h
  case h_2 => cases h
  rename_i kd m kd' mc
  generalize hv : a.eval x' = v1 at h1
  generalize hv' : a.eval y' = v2 at h1'
  cases h1 with
  | imm _ _ h1 =>
  cases h1' with
  | imm _ _ h1' =>
  cases h1
  cases h1'
  obtain ⟨hb, hh⟩ := need_some h
  clear h
  simp only [Bool.and_eq_true, decide_eq_true_eq] at hb
  obtain ⟨hb2, hh⟩ := need_some hh
  simp only [Bool.and_eq_true] at hb2
  have hfl := Nat.eq_of_beq_eq_true hb2.1
  have hz1 : RelL w (bad C.Bo ρ st.M) zero.flat z.cells.toList := fitVs_ok k5
  have hrun := run_make (P := P) w T e i z hT hi hz kd kd' m mc hb.1.1 hb.1.2 (by have : (i.bytes : Int) * mc ≤ 64 * mc := Int.mul_le_mul_of_nonneg_right (by omega) (by omega); omega) (by omega)
  rw [k1, ← k4] at hrun
  have hcells : (madeCells z.cells (mc.toNat * z.cells.size)) = (List.replicate mc.toNat z.cells.toList).flatten.toArray := by
    apply Array.ext'; rw [madeCells_flat]
  rw [hcells] at hrun
  simp only [Option.some.injEq, Prod.mk.injEq] at hh
  obtain ⟨rfl, rfl⟩ := hh
  have hle : m.toNat ≤ mc.toNat := by omega
  have hcr : CR w (bad C.Bo ρ st.M) sz (.row sz (List.replicate m.toNat zero)) (List.replicate m.toNat z.cells.toList).flatten := by
    refine ⟨rfl, fun x hx => ?_, fun v hv => ?_, relL_rep hz1 _⟩
    · rw [List.eq_of_mem_replicate hx]; exact hfl
    · simp only [List.mem_flatten] at hv
      obtain ⟨l, hl, hv⟩ := hv
      rw [List.eq_of_mem_replicate hl] at hv
      exact hz1.ones hb2.2 v hv
  have hlen : ∀ k : Nat, ((List.replicate k z.cells.toList).flatten).length = k * sz := fun k => by
    induction k with
    | zero => simp
    | succ k ih => rw [List.replicate_succ, List.flatten_cons, List.length_append, ih, Array.length_toList, k4, Nat.add_mul, Nat.one_mul, Nat.add_comm]
  have hA : Agree (fun _ => False) w { w with heap := w.heap.push (.cells (List.replicate mc.toNat z.cells.toList).flatten.toArray e) } := agree_push
  refine Does.value (v := .slice (some ⟨w.heap.size, 0, none⟩) m.toNat mc.toNat) (w' := { w with heap := w.heap.push (.cells (List.replicate mc.toNat z.cells.toList).flatten.toArray e) }) ?_ ⟨upd ρ t (some (w.heap.size, 0, mc.toNat)), ?_, ?_⟩
  · rw [ex_makeSlice ho, hv, hv']; exact run_v hrun
  · refine (hI.kill t _).fresh (b := w.heap.size) (o := 0) (cp := mc.toNat) htg get_kill1 (by simp [upd]) hA (Nat.le_refl _) ?_
    refine RelBlk.of (v := .row sz (List.replicate m.toNat zero)) (cells := (List.replicate mc.toNat z.cells.toList).flatten.toArray) (e := e) (fr := (0, 0)) (hcr.mono hA.none (bad_fresh (Nat.le_refl _))) (by simp) (.inl rfl) (by simpa [AV.count] using hle) (by simp [hlen]) (fun j u hj => ?_) fun s hs => by cases hs
    rw [Nat.zero_add, List.getElem?_toArray, rep_prefix _ hle, List.getElem?_append_left (List.getElem?_eq_some_iff.1 hj).1]
    exact hj
  · have := RelS.own (w := { w with heap := w.heap.push (.cells (List.replicate mc.toNat z.cells.toList).flatten.toArray e) }) (B := bad C.Bo (upd ρ t (some (w.heap.size, 0, mc.toNat))) ((t, .row sz (List.replicate m.toNat zero) false) :: killM t st.M)) (ρ := upd ρ t (some (w.heap.size, 0, mc.toNat))) (M := (t, .row sz (List.replicate m.toNat zero) false) :: killM t st.M) t 0 m.toNat none w.heap.size 0 mc.toNat mc.toNat (.row sz (List.replicate m.toNat zero) false)
      (by simp [get]) (by simp [upd]) (by omega) hle (by simp [Blk.count])
    simp only [Nat.zero_mul, Nat.add_zero] at this
    exact this
end ops

theorem toArray_eq {s : ByteArray} {l : List UInt8} (h : s.data.toList = l) : (⟨l.toArray⟩ : ByteArray) = s := by
  subst h; simp

/-- The literal nil, and a type that has one. -/
def nilOpd (iface : Bool) (y : Operand) : Bool := bif iface then (match y with | .const .nilIface => true | _ => false) else (match y with | .const (.slice none n c) => Nat.beq n 0 && Nat.beq c 0 | _ => false)
def nilTy (P : Program) (iface : Bool) (t : TypeId) : Bool := bif iface then (match P.underlying t with | some (.interface _) => true | _ => false) else (match P.underlying t with | some (.slice _) => true | _ => false)

section ops
variable {P : Program} {C : Cx} {R : Nat → List AV → Option Res} {ρ : Rho} {st : St} {a : Act} {w : World} {oper : Oper} {s : SV} {st' : St}

theorem rangeS_ok {t : Nat} {x : AO} (hI : Inv C ρ st a.tmps w) (ht : t < rT) (h : step C.G R (.rangeS t x) st (fun s st' => some (s, st')) = some (s, st')) {T : TypeId} {x' : Operand}
    (ho : oper.op = .range T x') (hx : fitO x x' = true) (hT : isStr P T = true) : Good P C oper a w s st' := by
  simp only [step, Option.bind_eq_some_iff] at h
  obtain ⟨u, hu, h⟩ := h
  have h1 := fitO_sound hI hx hu
  split at h
  case h_2 => cases h
  rename_i b
  simp only [Option.some.injEq, Prod.mk.injEq] at h
  obtain ⟨rfl, rfl⟩ := h
  cases h1 with
  | imm _ _ h1 =>
  generalize hv : a.eval x' = v1 at h1
  cases h1 with
  | str ba =>
  have hA : Agree (fun _ => False) w (w.alloc (.stringIter ba 0)) := agree_push
  have hlt : (w.alloc (.stringIter ba 0)).heap[w.heap.size]? = some (.stringIter ba 0) := World.iter_heap w ba 0
  refine Does.value (w' := w.alloc (.stringIter ba 0)) (v := .pointer (some ⟨w.heap.size, 0, none⟩)) ?_ ⟨upd ρ t (some (w.heap.size, 0, 0)), ?_, ?_⟩
  · rw [ex_range ho, hv]
    exact run_v (run_range_string w T ba (isStr_ok hT))
  · exact (hI.kill t _).fresh (b := w.heap.size) (o := 0) (cp := 0) ht get_kill1 (by simp [upd]) hA (Nat.le_refl _) ⟨ba, hlt, rfl, rfl⟩
  · have := RelS.ptr (w := w.alloc (.stringIter ba 0)) (B := bad C.Bo (upd ρ t (some (w.heap.size, 0, 0))) ((t, .iter ba.data.toList 0) :: killM t st.M)) (ρ := upd ρ t (some (w.heap.size, 0, 0))) (M := (t, .iter ba.data.toList 0) :: killM t st.M) t 0 0 w.heap.size 0 0 (.iter ba.data.toList 0) (by simp [get]) (by simp [upd])
    simp only [Nat.zero_mul, Nat.add_zero] at this
    exact this

theorem nextS_ok {x : AO} (hI : Inv C ρ st a.tmps w) (h : step C.G R (.nextS x) st (fun s st' => some (s, st')) = some (s, st')) {x' : Operand}
    (ho : oper.op = .next x' true) (hx : fitO x x' = true) : Good P C oper a w s st' := by
  simp only [step, Option.bind_eq_some_iff] at h
  obtain ⟨u, hu, h⟩ := h
  have h1 := fitO_sound hI hx hu
  split at h
  case h_2 => cases h
  rename_i t i off
  simp only [Option.bind_eq_some_iff] at h
  obtain ⟨blk, hblk, h⟩ := h
  split at h
  case h_2 => cases h
  rename_i b pos
  obtain ⟨hn, h⟩ := need_some h
  simp only [Bool.and_eq_true] at hn
  have e1 := Nat.eq_of_beq_eq_true hn.1
  have e2 := Nat.eq_of_beq_eq_true hn.2
  subst e1; subst e2
  generalize hv : a.eval x' = v1 at h1
  cases h1 with
  | ptr _ _ _ bb o cp blk0 hm hr =>
  obtain rfl : blk0 = .iter b pos := by rw [hblk] at hm; simpa using hm.symm
  obtain ⟨b0, o0, cp0, k1, k2, k3, k4⟩ := (hI.mem t _ hm).resolve_right fun hh => by rw [hr] at hh; cases hh.1
  rw [hr] at k1; simp only [Option.some.injEq, Prod.mk.injEq] at k1; obtain ⟨rfl, rfl, rfl⟩ := k1
  obtain ⟨ba, q1, q2, rfl⟩ := k2
  have hadr : (⟨bb, 0 + 0 * (Blk.iter b pos).sz + 0, none⟩ : Addr) = ⟨bb, 0, none⟩ := by simp
  rw [hadr] at hv
  have hsz : ba.size = b.length := by rw [← q2]; exact (Array.length_toList).symm
  by_cases hp : pos < b.length
  · simp only [hp, decide_true, cond_true, Option.some.injEq, Prod.mk.injEq] at h
    obtain ⟨rfl, rfl⟩ := h
    have hra : runeAt b pos = Utf8.decode ba pos := by unfold runeAt; rw [toArray_eq q2]
    have hA : Agree (fun y => y = bb) w (w.iterAt bb ba (pos + (Utf8.decode ba pos).2)) := agree_setBlk
    refine Does.value (w' := w.iterAt bb ba (pos + (Utf8.decode ba pos).2)) (v := .tuple #[.bool true, .int .i64 pos, .int .i32 (Utf8.decode ba pos).1]) ?_ ⟨ρ, ?_, ?_⟩
    · rw [ex_next ho, hv]
      exact run_v (Lib.run_next_any_at w bb ba pos _ q1 (by omega))
    · refine hI.write hm rfl hr rfl rfl hA ⟨ba, ?_, q2, rfl⟩
      rw [hra]; exact Lib.iterAt_heap w bb ba pos _ q1
    · rw [hra]
      exact .imm _ _ (.tup [_, _, _] [_, _, _] (.cons _ _ _ _ (.bool _) (.cons _ _ _ _ (.int _ _) (.cons _ _ _ _ (.int _ _) .nil))))
  · simp only [hp, decide_false, cond_false, Option.some.injEq, Prod.mk.injEq] at h
    obtain ⟨rfl, rfl⟩ := h
    refine Good.same hI (w' := w) (v := .tuple #[.bool false]) ?_ rfl (.imm _ _ (.tup [_] [_] (.cons _ _ _ _ (.bool _) .nil)))
    rw [ex_next ho, hv]
    exact run_v (Lib.run_next_end_at w bb ba pos _ q1 (by omega))

theorem mkFn_ok {f : Nat} {caps : List AO} (hI : Inv C ρ st a.tmps w) (h : step C.G R (.mkFn f caps) st (fun s st' => some (s, st')) = some (s, st')) {ys : Array Operand}
    (ho : oper.op = .makeFunc (.func f) #[] ys) (hx : fitL caps ys.toList = true) : Good P C oper a w s st' := by
  simp only [step] at h
  obtain ⟨vs, M', h, hI', hr, hbad, _⟩ := giveL_ok (P := P) hI hx h
  simp only [Option.some.injEq, Prod.mk.injEq] at h
  obtain ⟨rfl, rfl⟩ := h
  have hI'' : Inv C ρ (st.withM M') a.tmps w := hI'
  refine Good.same hI'' (w' := w) (v := .func (.func f) #[] (ys.map a.eval)) ?_ rfl (.imm _ _ ?_)
  · rw [ex_makeFunc ho]
    exact run_v (by simp only [Instr.makeFunc, List.map_toArray, List.map]; rfl)
  · have := Rel.fn (w := w) (B := bad C.Bo ρ M') f vs (ys.toList.map a.eval) hr
    rwa [show (ys.toList.map a.eval).toArray = ys.map a.eval by apply Array.ext'; simp] at this

theorem ex_callF {ρ : Operand → Value} {o : Oper} {x : Operand} {f : Nat} {cs : Array Value} {xs : Array Operand} {ts : Array TypeId} (h : o.op = .call ⟨.value x, xs, ts⟩) (hf : ρ x = .func (.func f) #[] cs) :
    execOp ρ o = callFunc f (xs.map ρ ++ cs) := by
  cases o; subst h
  simp only [execOp, resolve, hf, Deferred.ofValue, pure, Sem.bind, bind, invoke]
  simp

theorem callF_ok {x : AO} {xs : List AO} {ty : Ty} (hR : RSound P C.G R) (hI : Inv C ρ st a.tmps w) (h : step C.G R (.callF x xs ty) st (fun s st' => some (s, st')) = some (s, st')) {x' : Operand} {ys : Array Operand} {ts : Array TypeId}
    (ho : oper.op = .call ⟨.value x', ys, ts⟩) (hx0 : fitO x x' = true) (hx : fitL xs ys.toList = true) : Good P C oper a w s st' := by
  simp only [step, Option.bind_eq_some_iff] at h
  obtain ⟨u, hu, h⟩ := h
  have h1 := fitO_sound hI hx0 hu
  split at h
  case h_2 => cases h
  rename_i v
  cases h1 with
  | imm _ _ h1 =>
  generalize hv : a.eval x' = v1 at h1
  cases v <;> simp only [asF, reduceCtorEq] at h
  rename_i f cs
  cases h1 with
  | fn _ _ us h1 =>
  obtain ⟨vs, M', h, hI', hr, hbad, _⟩ := giveL_ok (P := P) hI hx h
  simp only [Option.bind_eq_some_iff] at h
  obtain ⟨r, hRr, h⟩ := h
  have h2 := asTy_some _ _ _ _ h
  simp only [Option.some.injEq, Prod.mk.injEq] at h2
  obtain ⟨rfl, rfl⟩ := h2
  have hI'' : Inv C ρ (st.withM M') a.tmps w := hI'
  have hcs : RelL w (bad C.Bo ρ M') cs us := h1.mono (Agree.refl _ _) fun b _ hb => hbad b hb
  have := hR.plain f (vs ++ cs) r hRr (bad C.Bo ρ M') w (ys.toList.map a.eval ++ us) hI''.glob hI''.badlt (hr.append hcs)
  rw [show (ys.toList.map a.eval ++ us).toArray = ys.map a.eval ++ us.toArray by apply Array.ext'; simp] at this
  exact this.does (ex_callF ho hv) fun e w' ⟨v, e1, e2, e3, _⟩ => ⟨v, e1, ρ, hI''.grow e2, .imm _ _ e3⟩

theorem eqGuard_nil {op : BinOp} (h : op = .eql ∨ op = .neq) {t : TypeId} {x : Operand} : (eqGuard op t x (.const .nilIface) .nilIface .nilIface).run P w = .ok () w := by
  rcases h with rfl | rfl <;> cases x <;> rfl

theorem isNil_ok {ng iface : Bool} {x : AO} (hI : Inv C ρ st a.tmps w) (h : step C.G R (.isNil ng x iface) st (fun s st' => some (s, st')) = some (s, st')) {t u : TypeId} {x' y' : Operand}
    (ho : oper.op = .binOp (bif ng then .neq else .eql) t x' y' u) (hx : fitO x x' = true) (hy : nilOpd iface y' = true)
    (ht : nilTy P iface t = true) : Good P C oper a w s st' := by
  simp only [step, Option.bind_eq_some_iff] at h
  obtain ⟨sv, hsv, h⟩ := h
  have h1 := fitO_sound hI hx hsv
  have fin : ∀ {v1 : Value} {b : Bool}, a.eval x' = v1 → (eqGuard (bif ng then .neq else .eql) t x' y' v1 (a.eval y')).run P w = .ok () w → (Op.equal t v1 (a.eval y')).run P w = .ok b w → binOp .eql t v1 (a.eval y') = (Op.equal t v1 (a.eval y') >>= fun q => pure (.bool q)) → binOp .neq t v1 (a.eval y') = (Op.equal t v1 (a.eval y') >>= fun q => pure (.bool !q)) → s = .imm (.bool (bif ng then !b else b)) → st' = st → Good P C oper a w s st' := by
    intro v1 b e1 e2 e3 e4 e4' e5 e6
    subst e5; subst e6
    refine Good.same hI (w' := w) (v := .bool (bif ng then !b else b)) ?_ rfl (.imm _ _ (.bool _))
    rw [ex_bin ho, e1]
    refine run_v ?_
    rw [run_bind_ok e2]
    cases ng
    · show (binOp .eql t v1 (a.eval y')).run P w = _
      rw [e4, run_bind_ok e3]; rfl
    · show (binOp .neq t v1 (a.eval y')).run P w = _
      rw [e4', run_bind_ok e3]; rfl
  cases iface
  case true =>
    simp only [nilOpd, nilTy, cond_true] at hy ht
    obtain rfl : y' = .const .nilIface := by
      split at hy
      · rfl
      · cases hy
    split at h
    · rename_i v
      cases v <;> simp only [cond_true, asNil, reduceCtorEq] at h
      simp only [Option.some.injEq, Prod.mk.injEq] at h
      obtain ⟨rfl, rfl⟩ := h
      cases h1 with
      | imm _ _ h1 =>
      generalize hv : a.eval x' = v1 at h1
      cases h1
      refine fin (b := true) hv ?_ ?_ rfl rfl (by cases ng <;> rfl) rfl
      · exact eqGuard_nil (by cases ng <;> simp)
      · split at ht
        · rename_i m hm
          show (Op.equalIn 10000 t .nilIface .nilIface).run P w = _
          unfold Op.equalIn
          rw [run_bind_ok (run_underlying hm)]; rfl
        · cases ht
    · cases h
    · cases h
  case false =>
    simp only [nilOpd, nilTy, cond_false] at hy ht
    obtain ⟨n, c, rfl, hn⟩ : ∃ n c, y' = .const (.slice none n c) ∧ (Nat.beq n 0 && Nat.beq c 0) = true := by
      split at hy
      · exact ⟨_, _, rfl, hy⟩
      · cases hy
    have key : ∀ {p : Addr} {l c' : Nat}, a.eval x' = .slice (some p) l c' → s = .imm (.bool ng) → st' = st → Good P C oper a w s st' := by
      intro p l c' hv e1 e2
      refine fin (b := false) hv ?_ ?_ rfl rfl (by rw [e1]; cases ng <;> rfl) e2
      · cases ng <;> rfl
      · split at ht
        · rename_i m hm
          show (Op.equalIn 10000 t (.slice (some p) l c') (.slice none n c)).run P w = _
          unfold Op.equalIn
          rw [run_bind_ok (run_underlying hm)]; rfl
        · cases ht
    split at h
    · rename_i v
      simp only [cond_false] at h
      cases h1 with
      | imm _ _ h1 =>
      generalize hv : a.eval x' = v1 at h1
      split at h
      · rename_i b
        obtain ⟨hb, h⟩ := need_some h
        simp only [decide_eq_true_eq] at hb
        simp only [Option.some.injEq, Prod.mk.injEq] at h
        obtain ⟨rfl, rfl⟩ := h
        cases h1 with
        | bnil => simp at hb
        | bytes => exact key hv rfl rfl
      · rename_i z b
        obtain ⟨hb, h⟩ := need_some h
        simp only [decide_eq_true_eq] at hb
        simp only [Option.some.injEq, Prod.mk.injEq] at h
        obtain ⟨rfl, rfl⟩ := h
        cases h1 with
        | rnil => simp at hb
        | row => exact key hv rfl rfl
      · cases h
    · rename_i u off len c2
      simp only [cond_false] at h
      obtain ⟨hb, h⟩ := need_some h
      simp only [decide_eq_true_eq] at hb
      simp only [Option.some.injEq, Prod.mk.injEq] at h
      obtain ⟨rfl, rfl⟩ := h
      generalize hv : a.eval x' = v1 at h1
      cases h1 with
      | own => exact key hv rfl rfl
      | ownNil => omega
    · cases h

end ops

theorem svImms_eq : ∀ {l : List SV} {vs : List AV}, svImms l = some vs → l = vs.map .imm
  | [], vs, h => by simp only [svImms, Option.some.injEq] at h; subst h; rfl
  | s :: l, vs, h => by
    cases s <;> simp only [svImms, reduceCtorEq, Option.map_eq_some_iff] at h
    obtain ⟨r, hr, rfl⟩ := h
    rw [svImms_eq hr]; rfl

/-- What lies in a lent row or variable does not look at tags. -/
theorem RelBlk.imms {w : World} {B B' : Nat → Prop} {ρ ρ' : Rho} {M M' : List (Nat × Blk)} {b o cp : Nat} {c : AV} {blk : Blk} (hc : refBlk c = some blk) (hB : ∀ b, b < w.heap.size → B' b → B b) (h : RelBlk w B ρ M b o cp blk) : RelBlk w B' ρ' M' b o cp blk := by
  cases c with
  | ref c =>
    cases c <;> simp only [refBlk, reduceCtorEq, Option.some.injEq] at hc <;> subst hc
    · exact h
    · obtain ⟨cells, e, fr, vs, h1, h2, h3, h4, h5, h51, h6, h7⟩ := h
      exact ⟨cells, e, fr, vs, h1, h2, h3, h4, h5, h51, h6.mono (Agree.refl _ _) hB, h7⟩
    · obtain ⟨cells, e, fr, h1, h2, h3, h4⟩ := h
      refine ⟨cells, e, fr, h1, h2, h3, fun j s hj => ?_⟩
      obtain ⟨v, hv, hs⟩ := h4 j s hj
      simp only [List.getElem?_map, Option.map_eq_some_iff] at hj
      obtain ⟨x, _, rfl⟩ := hj
      cases hs with
      | imm _ _ hs => exact ⟨v, hv, .imm _ _ (hs.mono (Agree.refl _ _) hB)⟩
  | _ => simp [refBlk] at hc

theorem refBlk_fz {c : AV} {blk : Blk} (hc : refBlk c = some blk) : blk.fz = false := by
  cases c with
  | ref c => cases c <;> simp only [refBlk, reduceCtorEq, Option.some.injEq] at hc <;> subst hc <;> rfl
  | _ => simp [refBlk] at hc

theorem refOf_ok {w : World} {B : Nat → Prop} {ρ : Rho} {M : List (Nat × Blk)} {s : SV} {x : Value} (hx : RelS w B ρ M s x) {α : Type} {K : Nat → AV → Option α} {r : α} (h : refOf M s K = some r) :
    ∃ u c blk, get M u = some blk ∧ refBlk (.ref c) = some blk ∧ (∀ (ρ' : Rho) (M' : List (Nat × Blk)) (t' : Nat), get M' t' = some blk → ρ' t' = ρ u → RelS w B ρ' M' (refSV t' (.ref c)) x) ∧ K u c = some r := by
  unfold refOf at h
  cases hx with
  | own u off len cap b o cp c blk hm hr hc hl hn =>
    simp only [hm] at h
    split at h
    · rename_i s hs
      simp only [Option.some.injEq] at hs; subst hs
      obtain ⟨h1, hK⟩ := need_some h
      clear h
      simp only [Bool.and_eq_true] at h1
      have e1 := Nat.eq_of_beq_eq_true h1.1; have e2 := Nat.eq_of_beq_eq_true h1.2; subst e1; subst e2
      refine ⟨u, .bytes s, _, hm, rfl, fun ρ' M' t' hm' hr' => ?_, hK⟩
      exact RelS.own t' 0 _ none b o cp c _ hm' (hr'.trans hr) hc hl hn
    · rename_i z xs hs
      simp only [Option.some.injEq] at hs; subst hs
      obtain ⟨h1, hK⟩ := need_some h
      clear h
      simp only [Bool.and_eq_true] at h1
      have e1 := Nat.eq_of_beq_eq_true h1.1; have e2 := Nat.eq_of_beq_eq_true h1.2; subst e1; subst e2
      refine ⟨u, .row z xs, _, hm, rfl, fun ρ' M' t' hm' hr' => ?_, hK⟩
      exact RelS.own t' 0 _ none b o cp c _ hm' (hr'.trans hr) hc hl hn
    · cases h
  | ownNil u cap blk hm hr =>
    simp only [hm] at h
    split at h
    · rename_i s hs
      simp only [Option.some.injEq] at hs; subst hs
      obtain ⟨h1, hK⟩ := need_some h
      clear h
      simp only [Bool.and_eq_true] at h1
      have e2 := Nat.eq_of_beq_eq_true h1.2
      have e3 : s = [] := List.length_eq_zero_iff.1 e2.symm
      subst e3
      exact ⟨u, .bytes [], _, hm, rfl, fun ρ' M' t' hm' hr' => .ownNil t' none _ hm' (hr'.trans hr), hK⟩
    · rename_i z xs hs
      simp only [Option.some.injEq] at hs; subst hs
      obtain ⟨h1, hK⟩ := need_some h
      clear h
      simp only [Bool.and_eq_true] at h1
      have e2 := Nat.eq_of_beq_eq_true h1.2
      have e3 : xs = [] := List.length_eq_zero_iff.1 e2.symm
      subst e3
      exact ⟨u, .row z [], _, hm, rfl, fun ρ' M' t' hm' hr' => .ownNil t' none _ hm' (hr'.trans hr), hK⟩
    · cases h
  | ptr u i off b o cp blk hm hr =>
    simp only [hm] at h
    split at h
    · rename_i cs hs
      simp only [Option.some.injEq] at hs; subst hs
      obtain ⟨h1, hK⟩ := need_some h
      clear h
      simp only [Bool.and_eq_true] at h1
      have e1 := Nat.eq_of_beq_eq_true h1.1; have e2 := Nat.eq_of_beq_eq_true h1.2; subst e1; subst e2
      rw [Option.bind_eq_some_iff] at hK
      obtain ⟨vs, hvs, hK⟩ := hK
      have hcs := svImms_eq hvs
      refine ⟨u, .agg vs, _, hm, by simp only [refBlk, hcs], fun ρ' M' t' hm' hr' => ?_, hK⟩
      exact RelS.ptr t' 0 0 b o cp _ hm' (hr'.trans hr)
    · cases h
  | imm => simp at h
  | rptr => simp at h
  | tupO => simp at h
  | tupNil => simp at h
  | mp => simp at h
  | dead => simp at h

/-- A call's arguments: values, and rows and variables that are lent. -/
inductive Lent (w : World) (B : Nat → Prop) (ρ : Rho) (M : List (Nat × Blk)) : List AV → List Value → List (Option Nat) → Prop
  | nil : Lent w B ρ M [] [] []
  | val (v : AV) (x : Value) (vs : List AV) (xs : List Value) (ts : List (Option Nat)) (h : Rel w B v x) (t : Lent w B ρ M vs xs ts) : Lent w B ρ M (v :: vs) (x :: xs) (none :: ts)
  | ref (u : Nat) (c : AV) (blk : Blk) (x : Value) (vs : List AV) (xs : List Value) (ts : List (Option Nat)) (hm : get M u = some blk) (hb : refBlk (.ref c) = some blk)
      (hx : ∀ (ρ' : Rho) (M' : List (Nat × Blk)) (t' : Nat), get M' t' = some blk → ρ' t' = ρ u → RelS w B ρ' M' (refSV t' (.ref c)) x) (t : Lent w B ρ M vs xs ts) : Lent w B ρ M (.ref c :: vs) (x :: xs) (some u :: ts)

theorem notIn_ok {u : Nat} : ∀ {us : List Nat}, notIn u us = true → u ∉ us
  | [], _, h => by cases h
  | a :: r, h, hm => by
    simp only [notIn] at h
    cases hb : Nat.beq a u
    · rw [hb] at h
      rcases List.mem_cons.1 hm with rfl | hm
      · simp at hb
      · exact notIn_ok h hm
    · rw [hb] at h; cases h

theorem lent_ok {C : Cx} {ρ : Rho} {env : List (Nat × SV)} {M : List (Nat × Blk)} {a : Act} {w : World} (hI : Inv C ρ ⟨env, M⟩ a.tmps w) {α : Type} : ∀ {fl : List Bool} {xs : List AO} {ys : List Operand} {vs : List AV} {K : List Nat → List AV → Option α} {r : α},
    fl.length = ys.length → fitL xs ys = true → RelL w (bad C.Bo ρ M) vs ((pickL fl ys false).map a.eval) → refL C.G env M (pickL fl xs true) K = some r →
    ∃ us cs ts, K us cs = some r ∧ Lent w (bad C.Bo ρ M) ρ M (mergeL fl vs (cs.map .ref)) (ys.map a.eval) ts ∧ ts.filterMap id = us ∧ us.Nodup
  | [], xs, ys, vs, K, r, hl, hf, hv, h => by
    obtain rfl : ys = [] := List.length_eq_zero_iff.1 hl.symm
    have e : pickL ([] : List Bool) xs true = [] := by unfold pickL; rfl
    rw [e] at h
    simp only [refL] at h
    exact ⟨[], [], [], h, by simp only [mergeL, List.map_nil]; exact .nil, rfl, List.nodup_nil⟩
  | fb :: fl, xs, [], vs, K, r, hl, hf, hv, h => by simp at hl
  | fb :: fl, [], y :: ys, vs, K, r, hl, hf, hv, h => by simp [fitL] at hf
  | false :: fl, x :: xs, y :: ys, vs, K, r, hl, hf, hv, h => by
    simp only [fitL, Bool.and_eq_true] at hf
    have e1 : pickL (false :: fl) (y :: ys) false = y :: pickL fl ys false := rfl
    have e2 : pickL (false :: fl) (x :: xs) true = pickL fl xs true := rfl
    rw [e1, List.map_cons] at hv
    rw [e2] at h
    cases hv with
    | cons v _ vs _ hv ht =>
    obtain ⟨us, cs, ts, h1, h2, h3, h4⟩ := lent_ok hI (by simpa using hl) hf.2 ht h
    exact ⟨us, cs, none :: ts, h1, .val _ _ _ _ _ hv h2, by simpa using h3, h4⟩
  | true :: fl, x :: xs, y :: ys, vs, K, r, hl, hf, hv, h => by
    simp only [fitL, Bool.and_eq_true] at hf
    have e1 : pickL (true :: fl) (y :: ys) false = pickL fl ys false := rfl
    have e2 : pickL (true :: fl) (x :: xs) true = x :: pickL fl xs true := rfl
    rw [e1] at hv
    rw [e2] at h
    simp only [refL, Option.bind_eq_some_iff] at h
    obtain ⟨s, hs, h⟩ := h
    obtain ⟨u, c, blk, g1, g2, g3, h⟩ := refOf_ok (fitO_sound hI hf.1 hs) h
    obtain ⟨us, cs, ts, h1, h2, h3, h4⟩ := lent_ok hI (by simpa using hl) hf.2 hv h
    obtain ⟨h5, h1⟩ := need_some h1
    refine ⟨u :: us, c :: cs, some u :: ts, h1, .ref u c blk _ _ _ _ g1 g2 g3 h2, by simp [h3], List.nodup_cons.2 ⟨notIn_ok h5, h4⟩⟩

section lent
variable {w : World} {B : Nat → Prop} {ρ : Rho} {M : List (Nat × Blk)}

theorem Lent.length : ∀ {vs : List AV} {xs : List Value} {ts : List (Option Nat)}, Lent w B ρ M vs xs ts → xs.length = vs.length
  | _, _, _, .nil => rfl
  | _, _, _, .val _ _ _ _ _ _ t => by simp [t.length]
  | _, _, _, .ref _ _ _ _ _ _ _ _ _ _ t => by simp [t.length]

theorem get_consO {α : Type} {t u : Nat} {b : Option α} {r : List (Nat × α)} (h : u ≠ t) : get (consO t b r) u = get r u := by
  cases b
  · rfl
  · simp only [consO]; rw [get_cons, if_neg h]

theorem memV_lt : ∀ {vs : List AV} {i t : Nat} {blk : Blk}, get (memV i vs) t = some blk → rT + i ≤ t
  | [], i, t, blk, h => by simp [memV, get] at h
  | v :: vs, i, t, blk, h => by
    by_cases ht : t = rT + i
    · omega
    · simp only [memV] at h
      rw [get_consO ht] at h
      have := memV_lt h; omega

theorem memV_at : ∀ {vs : List AV} {i j : Nat} {v : AV}, vs[j]? = some v → get (memV i vs) (rT + i + j) = refBlk v
  | [], i, j, v, h => by simp at h
  | u :: vs, i, 0, v, h => by
    simp only [List.getElem?_cons_zero, Option.some.injEq] at h
    subst h
    simp only [memV, Nat.add_zero]
    cases hb : refBlk u
    · simp only [consO]
      cases hg : get (memV (i + 1) vs) (rT + i) with
      | none => rfl
      | some x => have := memV_lt hg; omega
    · simp [consO, get]
  | u :: vs, i, j + 1, v, h => by
    simp only [memV]
    rw [get_consO (by omega)]
    have := memV_at (vs := vs) (i := i + 1) (j := j) (v := v) (by simpa using h)
    rwa [show rT + (i + 1) + j = rT + i + (j + 1) by omega] at this

theorem memV_get : ∀ {vs : List AV} {i t : Nat} {blk : Blk}, get (memV i vs) t = some blk → ∃ j v, t = rT + i + j ∧ vs[j]? = some v ∧ refBlk v = some blk
  | [], i, t, blk, h => by simp [memV, get] at h
  | v :: vs, i, t, blk, h => by
    by_cases ht : t = rT + i
    · subst ht
      have h2 := memV_at (vs := v :: vs) (i := i) (j := 0) (v := v) rfl
      rw [Nat.add_zero] at h2
      exact ⟨0, v, rfl, rfl, by rw [← h2]; exact h⟩
    · simp only [memV] at h
      rw [get_consO ht] at h
      obtain ⟨j, v', h1, h2, h3⟩ := memV_get h
      exact ⟨j + 1, v', by omega, by simpa using h2, h3⟩

theorem envV_get : ∀ {vs : List AV} {i n : Nat} {s : SV}, get (envV i vs) n = some s → ∃ j v, n = i + j ∧ vs[j]? = some v ∧ s = refSV (rT + n) v
  | [], i, n, s, h => by simp [envV, get] at h
  | v :: vs, i, n, s, h => by
    simp only [envV] at h
    rw [get_cons] at h
    by_cases hni : n = i
    · subst hni
      simp only [if_true, Option.some.injEq] at h
      exact ⟨0, v, rfl, rfl, h.symm⟩
    · simp only [hni, if_false] at h
      obtain ⟨j, v', h1, h2, h3⟩ := envV_get h
      exact ⟨j + 1, v', by omega, by simpa using h2, h3⟩

theorem Lent.at : ∀ {vs : List AV} {xs : List Value} {ts : List (Option Nat)}, Lent w B ρ M vs xs ts → ∀ {j : Nat} {v : AV}, vs[j]? = some v → ∃ x, xs[j]? = some x ∧
    ((v.isRef = false ∧ ts[j]? = some none ∧ Rel w B v x) ∨ ∃ u c blk, v = .ref c ∧ ts[j]? = some (some u) ∧ get M u = some blk ∧ refBlk v = some blk ∧ ∀ (ρ' : Rho) (M' : List (Nat × Blk)) (t' : Nat), get M' t' = some blk → ρ' t' = ρ u → RelS w B ρ' M' (refSV t' v) x)
  | _, _, _, .nil, j, v, h => by simp at h
  | _, _, _, .val v0 x vs xs ts h0 t, 0, v, h => by
    simp only [List.getElem?_cons_zero, Option.some.injEq] at h
    subst h
    exact ⟨x, rfl, .inl ⟨h0.noRef, rfl, h0⟩⟩
  | _, _, _, .ref u c blk x vs xs ts hm hb hx t, 0, v, h => by
    simp only [List.getElem?_cons_zero, Option.some.injEq] at h
    subst h
    exact ⟨x, rfl, .inr ⟨u, c, blk, rfl, rfl, hm, hb, hx⟩⟩
  | _, _, _, .val v0 x vs xs ts h0 t, j + 1, v, h => by
    obtain ⟨y, h1, h2⟩ := t.at (j := j) (v := v) (by simpa using h)
    exact ⟨y, by simpa using h1, by simpa using h2⟩
  | _, _, _, .ref u c blk x vs xs ts hm hb hx t, j + 1, v, h => by
    obtain ⟨y, h1, h2⟩ := t.at (j := j) (v := v) (by simpa using h)
    exact ⟨y, by simpa using h1, by simpa using h2⟩

/-- The tags that the callee gives to what is lent. -/
def lentRho (ρ : Rho) (ts : List (Option Nat)) : Rho := fun t => if t < rT then none else (ts[t - rT]?.join).bind ρ

theorem lentRho_at {ts : List (Option Nat)} {j u : Nat} (h : ts[j]? = some (some u)) : lentRho ρ ts (rT + j) = ρ u := by
  unfold lentRho
  rw [if_neg (by omega), Nat.add_sub_cancel_left, h]; rfl

theorem filterMap_mem {ts : List (Option Nat)} {j u : Nat} (h : ts[j]? = some (some u)) : u ∈ ts.filterMap id :=
  List.mem_filterMap.2 ⟨some u, List.mem_of_getElem? h, rfl⟩

theorem filterMap_inj : ∀ {ts : List (Option Nat)}, (ts.filterMap id).Nodup → ∀ {i j u : Nat}, ts[i]? = some (some u) → ts[j]? = some (some u) → i = j
  | [], _, i, j, u, h, _ => by simp at h
  | none :: ts, hn, i, j, u, h1, h2 => by
    cases i with
    | zero => simp at h1
    | succ i =>
      cases j with
      | zero => simp at h2
      | succ j => rw [filterMap_inj (ts := ts) (by simpa using hn) (i := i) (j := j) (u := u) (by simpa using h1) (by simpa using h2)]
  | some v :: ts, hn, i, j, u, h1, h2 => by
    have hn' : (v :: ts.filterMap id).Nodup := by simpa using hn
    rw [List.nodup_cons] at hn'
    cases i with
    | zero =>
      simp only [List.getElem?_cons_zero, Option.some.injEq] at h1
      subst h1
      cases j with
      | zero => rfl
      | succ j => exact absurd (filterMap_mem (by simpa using h2)) hn'.1
    | succ i =>
      cases j with
      | zero =>
        simp only [List.getElem?_cons_zero, Option.some.injEq] at h2
        subst h2
        exact absurd (filterMap_mem (by simpa using h1)) hn'.1
      | succ j => rw [filterMap_inj (ts := ts) hn'.2 (i := i) (j := j) (u := u) (by simpa using h1) (by simpa using h2)]

/-- The blocks that are lent. -/
def lentW (ρ : Rho) (us : List Nat) (b : Nat) : Prop := ∃ u, u ∈ us ∧ ∃ o cp, ρ u = some (b, o, cp)

/-- The callee's beginning. -/
theorem Inv.lent {C : Cx} {env : List (Nat × SV)} {tm : Array Value} (hI : Inv C ρ ⟨env, M⟩ tm w) {vs : List AV} {xs : List Value} {ts : List (Option Nat)} (hL : Lent w (bad C.Bo ρ M) ρ M vs xs ts) (hu : (ts.filterMap id).Nodup) :
    Inv ⟨C.G, w, fun b => bad C.Bo ρ M b ∧ ¬ lentW ρ (ts.filterMap id) b, lentW ρ (ts.filterMap id), lentRho ρ ts⟩ (lentRho ρ ts) ⟨envV 0 vs, memV 0 vs⟩ xs.toArray w := by
  have mem : ∀ t blk, get (memV 0 vs) t = some blk → ∃ j u c, t = rT + j ∧ ts[j]? = some (some u) ∧ get M u = some blk ∧ refBlk c = some blk ∧ lentRho ρ ts t = ρ u := by
    intro t blk h
    obtain ⟨j, v, h1, h2, h3⟩ := memV_get h
    obtain ⟨x, _, h4 | ⟨u, c, blk', e, h5, h6, h7, _⟩⟩ := hL.at h2
    · rw [refBlk_val h4.1] at h3; cases h3
    · rw [h7] at h3
      simp only [Option.some.injEq] at h3; subst h3
      rw [Nat.add_zero] at h1
      exact ⟨j, u, v, h1, h5, h6, h7, by rw [h1]; exact lentRho_at h5⟩
  have hbad : ∀ b, bad (fun b => bad C.Bo ρ M b ∧ ¬ lentW ρ (ts.filterMap id) b) (lentRho ρ ts) (memV 0 vs) b → bad C.Bo ρ M b := by
    rintro b (hb | ⟨t, blk, o, cp, h1, h2, h3⟩)
    · exact hb.1
    · obtain ⟨j, u, c, e1, e2, e3, _, e5⟩ := mem t blk h1
      exact .inr ⟨u, blk, o, cp, e3, h2, by rw [← e5]; exact h3⟩
  refine ⟨Agree.refl _ _, fun n s hn => ?_, fun t blk ht => ?_, fun t t' blk blk' b o cp b' o' cp' h1 h2 h3 h4 h5 h6 => ?_, hI.glob.mono (Agree.refl _ _) fun b _ hb => hbad b hb, fun b hb => hI.badlt b hb.1, fun t blk _ _ => rfl⟩
  · obtain ⟨j, v, h1, h2, h3⟩ := envV_get hn
    obtain rfl : n = j := by omega
    obtain ⟨x, h4, h5⟩ := hL.at h2
    have hj := (List.getElem?_eq_some_iff.1 h4).1
    refine ⟨by simpa using hj, ?_⟩
    have e : xs.toArray.getD n undef = x := by simp [Array.getD_eq_getD_getElem?, h4]
    rw [e, h3]
    rcases h5 with ⟨k1, k2, k3⟩ | ⟨u, c, blk, k1, k2, k3, k4, k5⟩
    · rw [refSV_val k1]
      exact .imm _ _ (k3.mono (Agree.refl _ _) fun b _ hb => hbad b hb)
    · have hg := memV_at (vs := vs) (i := 0) h2
      rw [Nat.add_zero, k4] at hg
      exact (k5 (lentRho ρ ts) (memV 0 vs) (rT + n) hg (lentRho_at k2)).mono (Agree.refl _ _) fun b _ hb => hbad b hb
  · obtain ⟨j, u, c, e1, e2, e3, e4, e5⟩ := mem t blk ht
    rcases hI.mem u blk e3 with ⟨b, o, cp, g1, g2, g3, g4⟩ | ⟨g1, g2⟩
    · refine .inl ⟨b, o, cp, by rw [e5]; exact g1, g2.imms e4 fun b _ hb => hbad b hb, fun hh => hh.2 ⟨u, filterMap_mem e2, o, cp, g1⟩, fun _ => .inr ⟨u, filterMap_mem e2, o, cp, g1⟩⟩
    · exact .inr ⟨by rw [e5]; exact g1, g2⟩
  · obtain ⟨j, u, c, e1, e2, e3, e4, e5⟩ := mem t blk h1
    obtain ⟨j', u', c', e1', e2', e3', e4', e5'⟩ := mem t' blk' h2
    have hne : u ≠ u' := by
      rintro rfl
      exact h4 (by rw [e1, e1', filterMap_inj hu e2 e2'])
    exact hI.inj u u' blk blk' b o cp b' o' cp' e3 e3' (refBlk_fz e4) hne (by rw [← e5]; exact h5) (by rw [← e5']; exact h6)

/-- What is lent, by its place: the callee's tag, the caller's tag. -/
theorem Lent.tags : ∀ {vs : List AV} {xs : List Value} {ts : List (Option Nat)} {i : Nat}, Lent w B ρ M vs xs ts → (tagsV i vs).length = (ts.filterMap id).length ∧
    ∀ (k t u : Nat), (tagsV i vs)[k]? = some t → (ts.filterMap id)[k]? = some u → ∃ j c blk, t = rT + i + j ∧ ts[j]? = some (some u) ∧ get M u = some blk ∧ refBlk c = some blk
  | _, _, _, i, .nil => ⟨rfl, fun k t u h => by simp [tagsV] at h⟩
  | _, _, _, i, .val v x vs xs ts h0 t => by
    obtain ⟨h1, h2⟩ := t.tags (i := i + 1)
    have e : tagsV i (v :: vs) = tagsV (i + 1) vs := by simp only [tagsV, refBlk_val h0.noRef]
    rw [e]
    refine ⟨by simpa using h1, fun k t u h3 h4 => ?_⟩
    obtain ⟨j, c, blk, k1, k2, k3⟩ := h2 k t u h3 (by simpa using h4)
    exact ⟨j + 1, c, blk, by omega, by simpa using k2, k3⟩
  | _, _, _, i, .ref u0 c blk x vs xs ts hm hb hx t => by
    obtain ⟨h1, h2⟩ := t.tags (i := i + 1)
    have e : tagsV i (.ref c :: vs) = (rT + i) :: tagsV (i + 1) vs := by simp only [tagsV, hb]
    rw [e]
    refine ⟨by simpa using h1, fun k t u h3 h4 => ?_⟩
    cases k with
    | zero =>
      simp only [List.getElem?_cons_zero, Option.some.injEq] at h3
      have h4' : u0 = u := by simpa using h4
      subst h4'
      exact ⟨0, .ref c, blk, by omega, rfl, hm, hb⟩
    | succ k =>
      obtain ⟨j, c, blk, k1, k2, k3⟩ := h2 k t u (by simpa using h3) (by simpa using h4)
      exact ⟨j + 1, c, blk, by omega, by simpa using k2, k3⟩

theorem outM_get : ∀ {ts : List Nat} {os : List AV} {t : Nat} {blk : Blk}, get (outM ts os) t = some blk → ∃ (k : Nat) (o : AV), ts[k]? = some t ∧ os[k]? = some o ∧ refBlk o = some blk
  | [], os, t, blk, h => by simp [outM, get] at h
  | _ :: _, [], t, blk, h => by simp [outM, get] at h
  | t0 :: ts, o0 :: os, t, blk, h => by
    simp only [outM] at h
    cases hb : refBlk o0
    · rw [hb] at h
      obtain ⟨k, o, h1, h2, h3⟩ := outM_get (ts := ts) (os := os) h
      exact ⟨k + 1, o, by simpa using h1, by simpa using h2, h3⟩
    · rename_i b0
      rw [hb] at h
      simp only [consO] at h
      rw [get_cons] at h
      by_cases ht : t = t0
      · subst ht
        simp only [if_true, Option.some.injEq] at h
        subst h
        exact ⟨0, o0, rfl, rfl, hb⟩
      · simp only [ht, if_false] at h
        obtain ⟨k, o, h1, h2, h3⟩ := outM_get (ts := ts) (os := os) h
        exact ⟨k + 1, o, by simpa using h1, by simpa using h2, h3⟩

theorem outM_at : ∀ {ts : List Nat} {os : List AV}, ts.Nodup → ∀ {k t : Nat} {o : AV} {blk : Blk}, ts[k]? = some t → os[k]? = some o → refBlk o = some blk → get (outM ts os) t = some blk
  | [], os, _, k, t, o, blk, h, _, _ => by simp at h
  | _ :: _, [], _, k, t, o, blk, _, h, _ => by simp at h
  | t0 :: ts, o0 :: os, hn, 0, t, o, blk, h1, h2, h3 => by
    simp only [List.getElem?_cons_zero, Option.some.injEq] at h1 h2
    subst h1; subst h2
    simp only [outM, h3, consO, get, Nat.beq_refl, cond_true]
  | t0 :: ts, o0 :: os, hn, k + 1, t, o, blk, h1, h2, h3 => by
    rw [List.nodup_cons] at hn
    simp only [List.getElem?_cons_succ] at h1 h2
    simp only [outM]
    rw [get_consO (by rintro rfl; exact hn.1 (List.mem_of_getElem? h1))]
    exact outM_at hn.2 h1 h2 h3

theorem tagsV_lt : ∀ {vs : List AV} {i t : Nat}, t ∈ tagsV i vs → rT + i ≤ t
  | [], i, t, h => by simp [tagsV] at h
  | v :: vs, i, t, h => by
    simp only [tagsV] at h
    split at h
    · rcases List.mem_cons.1 h with rfl | h
      · exact Nat.le_refl _
      · have := tagsV_lt h; omega
    · have := tagsV_lt h; omega
theorem tagsV_nodup : ∀ {vs : List AV} {i : Nat}, (tagsV i vs).Nodup
  | [], i => List.nodup_nil
  | v :: vs, i => by
    simp only [tagsV]
    split
    · exact List.nodup_cons.2 ⟨fun h => by have := tagsV_lt h; omega, tagsV_nodup⟩
    · exact tagsV_nodup
end lent

theorem re_ok {b : Blk} {c : AV} {α : Type} {K : Blk → Option α} {r : α} (h : b.re c K = some r) : ∃ b', refBlk (.ref c) = some b' ∧ b'.sz = b.sz ∧ b'.count = b.count ∧ b.fz = false ∧ K b' = some r := by
  unfold Blk.re at h
  split at h
  · obtain ⟨h1, h⟩ := need_some h
    exact ⟨_, rfl, rfl, Nat.eq_of_beq_eq_true h1, rfl, h⟩
  · obtain ⟨h1, h⟩ := need_some h
    simp only [Bool.and_eq_true] at h1
    have e := Nat.eq_of_beq_eq_true h1.1; subst e
    exact ⟨_, rfl, rfl, Nat.eq_of_beq_eq_true h1.2, rfl, h⟩
  · obtain ⟨h1, h⟩ := need_some h
    exact ⟨_, rfl, rfl, rfl, rfl, h⟩
  · cases h

theorem setAll_ok {α : Type} : ∀ {us : List Nat} {os : List AV} {M : List (Nat × Blk)} {K : List (Nat × Blk) → Option α} {r : α}, us.Nodup → setAll M us os K = some r →
    ∃ M2, K M2 = some r ∧ us.length = os.length ∧ (∀ v, v ∉ us → get M2 v = get M v) ∧ ∀ (k u : Nat) (o : AV), us[k]? = some u → os[k]? = some o → (o.isRef = false ∧ get M2 u = get M u) ∨ ∃ b b', get M u = some b ∧ refBlk o = some b' ∧ b'.sz = b.sz ∧ b'.count = b.count ∧ b.fz = false ∧ get M2 u = some b'
  | [], [], M, K, r, _, h => ⟨M, h, rfl, fun _ _ => rfl, fun k u o h => by simp at h⟩
  | [], _ :: _, M, K, r, _, h => by simp [setAll] at h
  | _ :: _, [], M, K, r, _, h => by simp [setAll] at h
  | u0 :: us, o0 :: os, M, K, r, hn, h => by
    rw [List.nodup_cons] at hn
    simp only [setAll] at h
    split at h
    · rename_i c
      split at h
      case h_2 => cases h
      rename_i b hb
      obtain ⟨b', h1, h2, h3, h4, h⟩ := re_ok h
      obtain ⟨M2, g1, g2, g3, g4⟩ := setAll_ok hn.2 h
      refine ⟨M2, g1, by simp [g2], fun v hv => ?_, fun k u o hk ho => ?_⟩
      · rw [g3 v fun hh => hv (List.mem_cons_of_mem _ hh), get_setM, if_neg (fun e => hv (by rw [e]; exact List.mem_cons_self ..))]
      · cases k with
        | zero =>
          simp only [List.getElem?_cons_zero, Option.some.injEq] at hk ho
          subst hk; subst ho
          exact .inr ⟨b, b', hb, h1, h2, h3, h4, by rw [g3 u0 hn.1, get_setM, if_pos rfl]⟩
        | succ k =>
          simp only [List.getElem?_cons_succ] at hk ho
          have hne : u ≠ u0 := by rintro rfl; exact hn.1 (List.mem_of_getElem? hk)
          have := g4 k u o hk ho
          rwa [get_setM, if_neg hne] at this
    · rename_i hno
      obtain ⟨M2, g1, g2, g3, g4⟩ := setAll_ok hn.2 h
      refine ⟨M2, g1, by simp [g2], fun v hv => g3 v fun hh => hv (List.mem_cons_of_mem _ hh), fun k u o hk ho => ?_⟩
      cases k with
      | zero =>
        simp only [List.getElem?_cons_zero, Option.some.injEq] at hk ho
        subst hk; subst ho
        refine .inl ⟨?_, g3 u0 hn.1⟩
        cases o0 <;> first | rfl | exact absurd rfl (hno _)
      | succ k => exact g4 k u o (by simpa using hk) (by simpa using ho)

theorem deads_mem : ∀ {us : List Nat} {os : List AV} {u : Nat}, u ∈ deads us os → ∃ (k : Nat) (o : AV), us[k]? = some u ∧ os[k]? = some o ∧ o.isRef = false
  | [], os, u, h => by simp [deads] at h
  | _ :: _, [], u, h => by simp [deads] at h
  | u0 :: us, o0 :: os, u, h => by
    simp only [deads] at h
    split at h
    · obtain ⟨k, o, h1, h2, h3⟩ := deads_mem h
      exact ⟨k + 1, o, by simpa using h1, by simpa using h2, h3⟩
    · rename_i hno
      rcases List.mem_cons.1 h with rfl | h
      · refine ⟨0, o0, rfl, rfl, ?_⟩
        cases o0 <;> first | rfl | exact absurd rfl (hno _)
      · obtain ⟨k, o, h1, h2, h3⟩ := deads_mem h
        exact ⟨k + 1, o, by simpa using h1, by simpa using h2, h3⟩
theorem deads_at : ∀ {us : List Nat} {os : List AV} {k u : Nat} {o : AV}, us[k]? = some u → os[k]? = some o → o.isRef = false → u ∈ deads us os
  | [], os, k, u, o, h, _, _ => by simp at h
  | _ :: _, [], k, u, o, _, h, _ => by simp at h
  | u0 :: us, o0 :: os, 0, u, o, h1, h2, h3 => by
    simp only [List.getElem?_cons_zero, Option.some.injEq] at h1 h2
    subst h1; subst h2
    simp only [deads]
    split
    · cases h3
    · exact List.mem_cons_self ..
  | u0 :: us, o0 :: os, k + 1, u, o, h1, h2, h3 => by
    have := deads_at (us := us) (os := os) (k := k) (u := u) (o := o) (by simpa using h1) (by simpa using h2) h3
    simp only [deads]
    split
    · exact this
    · exact List.mem_cons_of_mem _ this

theorem bad_less {Bo Bo' : Nat → Prop} {ρ : Rho} {M : List (Nat × Blk)} (h : ∀ b, Bo' b → Bo b) (b : Nat) (hb : bad Bo' ρ M b) : bad Bo ρ M b := hb.imp (h b) id

theorem Inv.less {C : Cx} {Bo' : Nat → Prop} {ρ : Rho} {st : St} {tm : Array Value} {w : World} (h : Inv C ρ st tm w) (hB : ∀ b, Bo' b → C.Bo b) : Inv { C with Bo := Bo' } ρ st tm w where
  ext := h.ext
  env := fun n s hn => ⟨(h.env n s hn).1, (h.env n s hn).2.mono (Agree.refl _ _) fun b _ hb => bad_less hB b hb⟩
  mem := fun t blk ht => by
    rcases h.mem t blk ht with ⟨b, o, cp, h1, h2, h3, h4⟩ | h1
    · exact .inl ⟨b, o, cp, h1, h2.mono (Agree.refl _ _) (fun b _ hb => bad_less hB b hb) rfl, fun hb => h3 (hB b hb), h4⟩
    · exact .inr h1
  inj := h.inj
  glob := h.glob.mono (Agree.refl _ _) fun b _ hb => bad_less hB b hb
  bo := fun b hb => h.bo b (hB b hb)
  pin := h.pin

theorem killAll_get : ∀ {us : List Nat} {st : St} {u : Nat} {blk : Blk}, get (killAll st us).M u = some blk → u ∉ us ∧ ∃ b0, get st.M u = some b0 ∧ blk.fz = b0.fz ∧ blk.sz = b0.sz ∧ blk.count = b0.count
  | [], st, u, blk, h => ⟨by simp, blk, h, rfl, rfl, rfl⟩
  | v :: us, st, u, blk, h => by
    obtain ⟨h1, b0, h2, h3, h4, h5⟩ := killAll_get (us := us) h
    simp only [St.kill, get_killM] at h2
    by_cases huv : u = v
    · simp [huv] at h2
    · simp only [huv, if_false, Option.map_eq_some_iff] at h2
      obtain ⟨b1, g1, rfl⟩ := h2
      exact ⟨by simp [huv, h1], b1, g1, by rw [h3, fz_kill], by rw [h4, sz_kill], by rw [h5, count_kill]⟩
/-- Rows and variables that are given up: their blocks stay apart from all. -/
theorem Inv.holdAll {tm : Array Value} {w : World} : ∀ {us : List Nat} {C : Cx} {ρ : Rho} {st : St}, Inv C ρ st tm w → us.Nodup → (∀ u, u ∈ us → ∃ blk, get st.M u = some blk ∧ blk.fz = false) →
    ∃ ρ', Inv { C with Bo := fun b => C.Bo b ∨ lentW ρ us b } ρ' (killAll st us) tm w ∧ ∀ t, t ∉ us → ρ' t = ρ t
  | [], C, ρ, st, h, _, _ => ⟨ρ, h.less fun b hb => hb.elim id fun ⟨u, hu, _⟩ => (List.not_mem_nil hu).elim, fun _ _ => rfl⟩
  | u :: us, C, ρ, st, h, hn, hm => by
    rw [List.nodup_cons] at hn
    obtain ⟨blk, hu, hf⟩ := hm u (List.mem_cons_self ..)
    have hm' : ∀ v, v ∈ us → ∃ blk, get (st.kill u).M v = some blk ∧ blk.fz = false := by
      intro v hv
      obtain ⟨b, h1, h2⟩ := hm v (List.mem_cons_of_mem _ hv)
      have huv : v ≠ u := by rintro rfl; exact hn.1 hv
      exact ⟨b.kill u, by simp [St.kill, get_killM, huv, h1], by rw [fz_kill]; exact h2⟩
    cases hr : ρ u with
    | none =>
      obtain ⟨ρ', g1, g2⟩ := Inv.holdAll (h.kill u none) hn.2 hm'
      refine ⟨ρ', g1.less fun b hb => ?_, fun t ht => ?_⟩
      · rcases hb with hb | ⟨v, hv, o, cp, hv2⟩
        · exact .inl hb
        · rcases List.mem_cons.1 hv with rfl | hv
          · rw [hr] at hv2; cases hv2
          · exact .inr ⟨v, hv, o, cp, by have : v ≠ u := fun e => hn.1 (e ▸ hv); simp only [upd, this, if_false]; exact hv2⟩
      · have h1 : t ≠ u := fun e => ht (by rw [e]; exact List.mem_cons_self ..)
        rw [g2 t fun hh => ht (List.mem_cons_of_mem _ hh)]
        simp only [upd, h1, if_false]
    | some x =>
      obtain ⟨b, o, cp⟩ := x
      obtain ⟨ρ', g1, g2⟩ := Inv.holdAll (h.hold none hu hf hr) hn.2 hm'
      refine ⟨ρ', g1.less fun b' hb => ?_, fun t ht => ?_⟩
      · rcases hb with hb | ⟨v, hv, o', cp', hv2⟩
        · exact .inl (.inl hb)
        · rcases List.mem_cons.1 hv with rfl | hv
          · rw [hr] at hv2; simp only [Option.some.injEq, Prod.mk.injEq] at hv2
            exact .inl (.inr hv2.1.symm)
          · exact .inr ⟨v, hv, o', cp', by have : v ≠ u := fun e => hn.1 (e ▸ hv); simp only [upd, this, if_false]; exact hv2⟩
      · have h1 : t ≠ u := fun e => ht (by rw [e]; exact List.mem_cons_self ..)
        rw [g2 t fun hh => ht (List.mem_cons_of_mem _ hh)]
        simp only [upd, h1, if_false]

/-- What was lent is written; the blocks of `Bo'` stay apart from all from here on. -/
theorem Inv.remake {C : Cx} {ρ : Rho} {st : St} {tm : Array Value} {w w' : World} {Bo' Wn : Nat → Prop} {M2 : List (Nat × Blk)} (h : Inv C ρ st tm w) (hA : Agree Wn w w')
    (hW : ∀ b, Wn b → bad C.Bo ρ st.M b ∧ (C.w0.heap.size ≤ b ∨ C.W b)) (hB : ∀ b, b < w.heap.size → Bo' b → C.Bo b) (hB' : ∀ b, Bo' b → b < w'.heap.size) (hS : SameShape st.M M2)
    (hM : ∀ t blk2, get M2 t = some blk2 → ∃ blk, get st.M t = some blk ∧ blk2.fz = blk.fz ∧ ((blk2 = blk ∧ ∀ b o cp, ρ t = some (b, o, cp) → ¬ Wn b) ∨
      ((∀ b o cp, ρ t = some (b, o, cp) → RelBlk w' (bad Bo' ρ M2) ρ M2 b o cp blk2) ∧ (ρ t = none → blk2.void)))) : Inv { C with Bo := Bo' } ρ (st.withM M2) tm w' := by
  have hbad : ∀ b, b < w.heap.size → bad Bo' ρ M2 b → bad C.Bo ρ st.M b := by
    rintro b hb (hx | ⟨t, blk, o, cp, h1, h2, h3⟩)
    · exact .inl (hB b hb hx)
    · obtain ⟨blk0, g1, g2, _⟩ := hM t blk h1
      exact .inr ⟨t, blk0, o, cp, g1, by rw [← g2]; exact h2, h3⟩
  have hA' : Agree (bad C.Bo ρ st.M) w w' := hA.mono fun b _ hb => (hW b hb).1
  refine ⟨⟨Nat.le_trans h.ext.1 hA.1, fun x hx hn => ?_, hA.3.1.trans h.ext.3.1, hA.3.2.1.trans h.ext.3.2.1, hA.3.2.2.trans h.ext.3.2.2⟩, fun n s hn => ?_, fun t blk ht => ?_, ?_, h.glob.mono hA' hbad, hB', fun t blk hu hg => ?_⟩
  · have hx' : x < C.w0.heap.size := hx
    rw [hA.2 x (Nat.lt_of_lt_of_le hx h.ext.1) fun hw => by
      rcases (hW x hw).2 with hb | hb
      · omega
      · exact hn hb]
    exact h.ext.2 x hx hn
  · exact ⟨(h.env n s hn).1, ((h.env n s hn).2.mono hA' hbad).shape hS⟩
  · obtain ⟨blk0, g1, g2, g3⟩ := hM t blk ht
    rcases h.mem t blk0 g1 with ⟨b, o, cp, h1, h2, h3, h4⟩ | ⟨h1, h2⟩
    · refine .inl ⟨b, o, cp, h1, ?_, fun hb => h3 (hB b h2.lt hb), fun hf => h4 (by rw [← g2]; exact hf)⟩
      rcases g3 with ⟨rfl, g3⟩ | ⟨g3, _⟩
      · exact (h2.mono hA' hbad (hA.2 b h2.lt (g3 b o cp h1))).shape hS
      · exact g3 b o cp h1
    · refine .inr ⟨h1, ?_⟩
      rcases g3 with ⟨rfl, _⟩ | ⟨_, g3⟩
      · exact h2
      · exact g3 h1
  · intro t t' blk blk' b1 o1 c1 b2 o2 c2 h1 h2 h3 h4 h5 h6
    obtain ⟨x1, g1, g2, _⟩ := hM t blk h1
    obtain ⟨x2, g3, g4, _⟩ := hM t' blk' h2
    exact h.inj t t' x1 x2 b1 o1 c1 b2 o2 c2 g1 g3 (by rw [← g2]; exact h3) h4 h5 h6
  · obtain ⟨x1, g1, _⟩ := hM t blk hg
    exact h.pin t x1 hu g1

theorem pickL_fit {b : Bool} : ∀ {fl : List Bool} {xs : List AO} {ys : List Operand}, fitL xs ys = true → fitL (pickL fl xs b) (pickL fl ys b) = true
  | [], xs, ys, h => by unfold pickL; rfl
  | f :: fl, [], [], h => by unfold pickL; rfl
  | f :: fl, x :: xs, y :: ys, h => by
    simp only [fitL, Bool.and_eq_true] at h
    simp only [pickL]
    cases hb : f == b
    · exact pickL_fit h.2
    · simp only [cond_true, fitL, Bool.and_eq_true]; exact ⟨h.1, pickL_fit h.2⟩
  | f :: fl, [], _ :: _, h => by simp [fitL] at h
  | f :: fl, _ :: _, [], h => by simp [fitL] at h

theorem outsK_ok {α : Type} : ∀ {al : List (Option Ty)} {outs : List AV} {K : List AV → Option α} {r : α}, outsK al outs K = some r → ∃ os, K os = some r ∧ os.length = outs.length ∧ ∀ (k : Nat) (c : AV), os[k]? = some (.ref c) → outs[k]? = some (.ref c)
  | [], [], K, r, h => ⟨[], h, rfl, fun k c h => by simp at h⟩
  | [], _ :: _, K, r, h => by simp [outsK, asN] at h
  | none :: al, [], K, r, h => by simp [outsK, asC] at h
  | some ty :: al, [], K, r, h => by simp [outsK, asC] at h
  | none :: al, o :: outs, K, r, h => by
    simp only [outsK, asC] at h
    obtain ⟨os, h1, h2, h3⟩ := outsK_ok h
    refine ⟨_, h1, by simp [h2], fun k c hk => ?_⟩
    cases k with
    | zero => simp at hk
    | succ k => simpa using h3 k c (by simpa using hk)
  | some ty :: al, o :: outs, K, r, h => by
    simp only [outsK, asC] at h
    cases o <;> simp only [asRf, reduceCtorEq] at h
    rename_i c
    have h' := asTy_some _ _ _ _ h
    obtain ⟨os, h1, h2, h3⟩ := outsK_ok h'
    refine ⟨_, h1, by simp [h2], fun k c hk => ?_⟩
    cases k with
    | zero => simpa using hk
    | succ k => simpa using h3 k c (by simpa using hk)

theorem deads_nodup : ∀ {us : List Nat} {os : List AV}, us.Nodup → (deads us os).Nodup
  | [], os, _ => by simp [deads]
  | _ :: _, [], _ => by simp [deads]
  | u :: us, o :: os, h => by
    rw [List.nodup_cons] at h
    simp only [deads]
    split
    · exact deads_nodup h.2
    · refine List.nodup_cons.2 ⟨fun hh => ?_, deads_nodup h.2⟩
      obtain ⟨k, o', k1, k2, k3⟩ := deads_mem hh
      exact h.1 (List.mem_of_getElem? k1)

section ops
variable {P : Program} {C : Cx} {R : Nat → List AV → Option Res} {ρ : Rho} {st : St} {a : Act} {w : World} {oper : Oper} {s : SV} {st' : St}

theorem callM_ok {own : Option (Nat × Nat × Bool)} {f : Nat} {xs : List AO} {fl : List Bool} {al : List (Option Ty)} {ty : Ty} (hR : RSound P C.G R) (hI0 : Inv C ρ st a.tmps w) (ht : ∀ t sz b, own = some (t, sz, b) → t < rT) (h : step C.G R (.callM own f xs fl al ty) st (fun s st' => some (s, st')) = some (s, st')) {ys : Array Operand} {ts : Array TypeId}
    (ho : oper.op = .call ⟨.value (.func f), ys, ts⟩) (hx : fitL xs ys.toList = true) (hfl : fl.length = ys.toList.length) : Good P C oper a w s st' := by
  simp only [step] at h
  obtain ⟨vs, M', h, hI', hr, hbad0, _⟩ := giveL_ok (P := P) hI0 (pickL_fit (fl := fl) hx) h
  obtain ⟨us, cs, tl, h, hL, htl, hnd⟩ := lent_ok (a := a) hI' hfl hx hr h
  rw [Option.bind_eq_some_iff] at h
  obtain ⟨r, hRr, h⟩ := h
  have hI : Inv C ρ (st.withM M') a.tmps w := hI'
  obtain ⟨os, h, hosl, hosr⟩ := outsK_ok h
  obtain ⟨M2, h, hlen, hM2a, hM2b⟩ := setAll_ok hnd h
  subst htl
  have hcall := hR f _ r hRr ⟨C.G, w, fun b => bad C.Bo ρ M' b ∧ ¬ lentW ρ (tl.filterMap id) b, lentW ρ (tl.filterMap id), lentRho ρ tl⟩ w (ys.toList.map a.eval) rfl rfl hL.length (hI'.lent hL hnd)
  rw [show (ys.toList.map a.eval).toArray = ys.map a.eval by apply Array.ext'; simp] at hcall
  refine hcall.does (ex_call ho rfl) fun e w' ⟨v, e1, hol, X, p1, p2, p3, p4, p5⟩ => ⟨v, e1, ?_⟩
  dsimp only at p1 p2 p3 p4 p5
  -- what is lent, by its place
  obtain ⟨htg1, htg2⟩ := hL.tags (i := 0)
  have place : ∀ (k u : Nat) (o : AV), (tl.filterMap id)[k]? = some u → os[k]? = some o → ∃ t blk, (tagsV 0 (mergeL fl vs (cs.map .ref)))[k]? = some t ∧ lentRho ρ tl t = ρ u ∧ get M' u = some blk ∧ blk.fz = false := by
    intro k u o hk ho'
    have hlt : k < (tagsV 0 (mergeL fl vs (cs.map .ref))).length := by rw [htg1]; exact (List.getElem?_eq_some_iff.1 hk).1
    obtain ⟨j, c, blk, k1, k2, k3, k4⟩ := htg2 k _ u (List.getElem?_eq_getElem hlt) hk
    refine ⟨_, blk, List.getElem?_eq_getElem hlt, ?_, k3, refBlk_fz k4⟩
    rw [k1, Nat.add_zero]; exact lentRho_at k2
  generalize htags : tagsV 0 (mergeL fl vs (cs.map .ref)) = tags at p2 p3 p4 p5 hol place htg1 htg2
  have htn : tags.Nodup := by rw [← htags]; exact tagsV_nodup
  generalize hus : tl.filterMap id = us at *
  -- the dead ones
  have hdm : ∀ u, u ∈ deads us os → u ∈ us ∧ ∃ blk, get M' u = some blk ∧ blk.fz = false := by
    intro u hu
    obtain ⟨k, o, k1, k2, k3⟩ := deads_mem hu
    obtain ⟨t, blk, _, _, k4, k5⟩ := place k u o k1 k2
    exact ⟨List.mem_of_getElem? k1, blk, k4, k5⟩
  have hdn : (deads us os).Nodup := deads_nodup hnd
  obtain ⟨ρ1, hI1, hρ1⟩ := hI.holdAll hdn fun u hu => (hdm u hu).2
  -- each lent one is dead, or alive with its new content
  have alive : ∀ u, u ∈ us → u ∉ deads us os → ∃ t b b', lentRho ρ tl t = ρ u ∧ get (outM tags r.outs) t = some b' ∧ get (killAll (st.withM M') (deads us os)).M u = some b ∧ (∃ c, refBlk c = some b') ∧ b'.sz = b.sz ∧ b'.count = b.count ∧ b.fz = false ∧ get M2 u = some b' := by
    intro u hu hd
    obtain ⟨k, hk⟩ := List.getElem?_of_mem hu
    have hlt : k < os.length := by rw [← hlen]; exact (List.getElem?_eq_some_iff.1 hk).1
    have ho' := List.getElem?_eq_getElem hlt
    obtain ⟨t, blk, k1, k2, k3, k4⟩ := place k u _ hk ho'
    rcases hM2b k u _ hk ho' with ⟨q1, _⟩ | ⟨b, b', q1, q2, q3, q4, q5, q6⟩
    · exact absurd (deads_at hk ho' q1) hd
    · have ho2 : r.outs[k]? = some os[k] := by
        cases hc : os[k] with
        | ref c => exact hosr k c (by rw [ho', hc])
        | _ => rw [hc] at q2; simp [refBlk] at q2
      exact ⟨t, b, b', k2, outM_at htn k1 ho2 q2, q1, ⟨_, q2⟩, q3, q4, q5, q6⟩
  have hlentb : ∀ b, lentW ρ us b → bad C.Bo ρ M' b ∧ (C.w0.heap.size ≤ b ∨ C.W b) ∧ ¬ C.Bo b := by
    rintro b ⟨u, hu, o, cp, hr'⟩
    obtain ⟨k, hk⟩ := List.getElem?_of_mem hu
    have hlt : k < os.length := by rw [← hlen]; exact (List.getElem?_eq_some_iff.1 hk).1
    obtain ⟨t, blk, k1, k2, k3, k4⟩ := place k u _ hk (List.getElem?_eq_getElem hlt)
    obtain ⟨b', o', cp', g1, g2, g3, g4⟩ := (hI.mem u blk k3).resolve_right fun hh => by rw [hr'] at hh; cases hh.1
    rw [hr'] at g1; simp only [Option.some.injEq, Prod.mk.injEq] at g1
    obtain ⟨rfl, rfl, rfl⟩ := g1
    exact ⟨.inr ⟨u, blk, o, cp, k3, k4, hr'⟩, g4 k4, g3⟩
  have hM2get : ∀ t blk2, get M2 t = some blk2 → (t ∈ us ∧ t ∉ deads us os) ∨ (t ∉ us ∧ get (killAll (st.withM M') (deads us os)).M t = some blk2) := by
    intro t blk2 h2
    by_cases htu : t ∈ us
    · by_cases htd : t ∈ deads us os
      · obtain ⟨k, o, k1, k2, k3⟩ := deads_mem htd
        rcases hM2b k t o k1 k2 with ⟨_, q⟩ | ⟨b, b', _, q2, _⟩
        · rw [q] at h2
          exact absurd htd (killAll_get h2).1
        · rw [refBlk_val k3] at q2; cases q2
      · exact .inl ⟨htu, htd⟩
    · exact .inr ⟨htu, by rw [← hM2a t htu]; exact h2⟩
  -- what must not be reached any more
  have hstar : ∀ b, bad C.Bo ρ1 M2 b → bad (fun b => bad C.Bo ρ M' b ∧ ¬ lentW ρ us b) (lentRho ρ tl) (outM tags r.outs) b := by
    rintro b (hb | ⟨t, blk, o, cp, g1, g2, g3⟩)
    · exact .inl ⟨.inl hb, fun hh => (hlentb b hh).2.2 hb⟩
    · rcases hM2get t blk g1 with ⟨q1, q2⟩ | ⟨q1, q2⟩
      · obtain ⟨t', b0, b', k1, k2, k3, ⟨c, k4⟩, k5, k6, k7, k8⟩ := alive t q1 q2
        refine .inr ⟨t', b', o, cp, k2, refBlk_fz k4, ?_⟩
        rw [k1, ← hρ1 t q2]; exact g3
      · obtain ⟨q3, b0, q4, q5, _⟩ := killAll_get q2
        have hb0 : b0.fz = false := by rw [← q5]; exact g2
        rw [hρ1 t q3] at g3
        refine .inl ⟨.inr ⟨t, b0, o, cp, q4, hb0, g3⟩, ?_⟩
        rintro ⟨u, hu, o', cp', hr'⟩
        obtain ⟨k, hk⟩ := List.getElem?_of_mem hu
        have hlt : k < os.length := by rw [← hlen]; exact (List.getElem?_eq_some_iff.1 hk).1
        obtain ⟨_, blk', _, _, k3, k4⟩ := place k u _ hk (List.getElem?_eq_getElem hlt)
        exact hI.inj t u b0 blk' b o cp b o' cp' q4 k3 hb0 (by rintro rfl; exact q1 hu) g3 hr' rfl
  have hXdead : ∀ b, X b → b < w.heap.size → lentW ρ (deads us os) b := by
    intro b hb hlt
    obtain ⟨g1, g2, g3⟩ := p2 b hb
    rcases g1 with g1 | ⟨u, hu, o, cp, hr'⟩
    · omega
    · by_cases hd : u ∈ deads us os
      · exact ⟨u, hd, o, cp, hr'⟩
      · obtain ⟨t', b0, b', k1, k2, k3, ⟨c, k4⟩, _⟩ := alive u hu hd
        exact absurd (.inr ⟨t', b', o, cp, k2, refBlk_fz k4, by rw [k1]; exact hr'⟩) g3
  have hI2 : Inv { C with Bo := fun b => C.Bo b ∨ X b } ρ1 ((killAll (st.withM M') (deads us os)).withM M2) a.tmps w' := by
    have hsub : ∀ b, lentW ρ us b → bad (fun b => C.Bo b ∨ lentW ρ (deads us os) b) ρ1 (killAll (st.withM M') (deads us os)).M b := by
      rintro b ⟨u, hu, o, cp, hr'⟩
      by_cases hd : u ∈ deads us os
      · exact .inl (.inr ⟨u, hd, o, cp, hr'⟩)
      · obtain ⟨t', b0, b', k1, k2, k3, _, _, _, k7, _⟩ := alive u hu hd
        exact .inr ⟨u, b0, o, cp, k3, k7, by rw [hρ1 u hd]; exact hr'⟩
    refine hI1.remake p1 (fun b hb => ⟨hsub b hb, (hlentb b hb).2.1⟩) (fun b hb hx => hx.imp id fun hx => hXdead b hx hb) ?_ ?_ ?_
    · rintro b (hb | hb)
      · exact Nat.lt_of_lt_of_le (hI.bo b hb) p1.1
      · exact (p2 b hb).2.1
    · intro t blk ht'
      by_cases htu : t ∈ us
      · have hd := (killAll_get ht').1
        obtain ⟨t', b0, b', k1, k2, k3, _, k5, k6, _, k8⟩ := alive t htu hd
        have : b0 = blk := by rw [k3] at ht'; simpa using ht'
        subst this
        exact ⟨b', k8, k5, k6⟩
      · exact ⟨blk, by rw [hM2a t htu]; exact ht', rfl, rfl⟩
    · intro t blk2 h2
      rcases hM2get t blk2 h2 with ⟨q1, q2⟩ | ⟨q1, q2⟩
      · obtain ⟨t', b0, b', k1, k2, k3, ⟨c, k4⟩, k5, k6, k7, k8⟩ := alive t q1 q2
        have : b' = blk2 := by rw [k8] at h2; simpa using h2
        subst this
        refine ⟨b0, k3, by rw [refBlk_fz k4, k7], .inr ⟨fun b o cp hr' => ?_, fun hr' => ?_⟩⟩
        · rw [hρ1 t q2, ← k1] at hr'
          obtain ⟨b1, o1, cp1, m1, m2⟩ := (p3 t' b' k2).resolve_right fun hh => by rw [hr'] at hh; cases hh.1
          rw [hr'] at m1; simp only [Option.some.injEq, Prod.mk.injEq] at m1
          obtain ⟨rfl, rfl, rfl⟩ := m1
          refine m2.imms k4 fun y _ hy => ?_
          rcases hy with (hy | hy) | hy
          · exact .inl (hstar y (.inl hy))
          · exact .inr hy
          · exact .inl (hstar y (.inr hy))
        · rw [hρ1 t q2, ← k1] at hr'
          exact ((p3 t' b' k2).resolve_left fun ⟨b1, o1, cp1, m1, _⟩ => by rw [hr'] at m1; cases m1).2
      · obtain ⟨q3, b0, q4, q5, _⟩ := killAll_get q2
        refine ⟨blk2, q2, rfl, .inl ⟨rfl, fun b o cp hr' => ?_⟩⟩
        rintro ⟨u, hu, o', cp', hr2⟩
        rw [hρ1 t q3] at hr'
        obtain ⟨k, hk⟩ := List.getElem?_of_mem hu
        have hlt : k < os.length := by rw [← hlen]; exact (List.getElem?_eq_some_iff.1 hk).1
        obtain ⟨_, blk', _, _, k3, k4⟩ := place k u _ hk (List.getElem?_eq_getElem hlt)
        exact hI.inj u t blk' b0 b o' cp' b o cp k3 q4 k4 (by rintro rfl; exact q1 hu) hr2 hr' rfl
  -- what is answered
  generalize hstK : killAll (st.withM M') (deads us os) = stK at h hI2
  have hend : ∀ t sz by_, own = some (t, sz, by_) → r.v.isTup = false → s = .own t 0 r.v.count none → st' = ((stK.withM M2).kill t).withM ((t, r.v.blk sz) :: killM t M2) → r.own = true → (∀ z l, r.v = .row z l → z = sz) → (∃ ρ', Inv C ρ' st' a.tmps w' ∧ RelS w' (bad C.Bo ρ' st'.M) ρ' st'.M s v) := by
    intro t sz by_ e2 htp e3 e4 hown hzz
    have ht' := ht t sz by_ e2
    subst e3; subst e4
    have p5' := p5 hown
    obtain ⟨o1, o2⟩ := relX p4 htp
    rw [o1, o2] at p5'
    rcases p5' with ⟨rfl, hv⟩ | ⟨b, o, c, cp, sz', cells, ee, fr, ws, rfl, hX, g2, g3, g4, g5, g6, g7, g8, g9⟩
    · refine ⟨upd ρ1 t none, ((hI2.less (Bo' := C.Bo) fun b hb => .inl hb).kill t none).virt ht' get_kill1 (by simp [upd]) ?_, ?_⟩
      · rcases hv with hv | ⟨z, hv⟩ <;> rw [hv] <;> rfl
      · have hc0 : r.v.count = 0 := by rcases hv with hv | ⟨z, hv⟩ <;> rw [hv] <;> rfl
        rw [hc0]
        exact .ownNil t none _ (by simp [St.withM, get]; rfl) (by simp [upd])
    · have hsz : r.v.blk sz' = r.v.blk sz := by
        cases hv : r.v <;> rw [hv] at g7 <;> first | exact g7.elim | rfl | skip
        rw [hzz _ _ hv] at g7
        simp only [AV.blk, g7.1]
      obtain ⟨x1, x2, x3⟩ := p2 b hX
      have hnb : ¬ C.Bo b := fun hb => x3 (hstar b (.inl hb))
      have hI3 := (hI2.less (Bo' := fun x => C.Bo x ∨ x = b) fun x hx => by
        rcases hx with hx | rfl
        · exact .inl hx
        · exact .inr hX).kill t (some (b, o, cp))
      refine ⟨upd ρ1 t (some (b, o, cp)), ?_, ?_⟩
      · refine hI3.own (C := C) (t := t) (b := b) (o := o) (cp := cp) ht' get_kill1 (by simp [upd]) (Agree.refl _ _) ?_ hnb ?_
        · rcases x1 with x1 | x1
          · exact .inl (Nat.le_trans hI.ext.1 x1)
          · exact (hlentb b x1).2.1
        · rw [← hsz]
          refine RelBlk.of (g7.mono (Agree.refl _ _) fun x _ hx => ?_) g4 g5 (by omega) g6 g8 g9
          rcases hx with hx | ⟨u, bu, ou, cu, q1, q2, q3⟩
          · exact .inl (hstar x (.inl hx))
          · simp only [St.kill, St.withM] at q1
            rw [get_cons] at q1
            by_cases hut : u = t
            · subst hut; simp only [upd, if_true, Option.some.injEq, Prod.mk.injEq] at q3; exact .inr q3.1.symm
            · simp only [hut, if_false] at q1
              exact .inl (hstar x (bad_kill x (.inr ⟨u, bu, ou, cu, q1, q2, q3⟩)))
      · have := RelS.own (w := w') (B := bad C.Bo (upd ρ1 t (some (b, o, cp))) ((t, r.v.blk sz) :: killM t M2)) (ρ := upd ρ1 t (some (b, o, cp))) (M := (t, r.v.blk sz) :: killM t M2) t 0 r.v.count none b o cp c (r.v.blk sz)
          (by simp [get]) (by simp [upd]) (by omega) g2 (by revert g7; cases r.v <;> intro g7 <;> first | exact g7.elim | (simp [AV.blk, Blk.count, AV.count]))
        simp only [Nat.zero_mul, Nat.add_zero] at this
        exact this
  cases own with
  | none =>
    have h2 := asTy_some _ _ _ _ h
    simp only [Option.some.injEq, Prod.mk.injEq] at h2
    obtain ⟨rfl, rfl⟩ := h2
    exact ⟨ρ1, hI2.less (Bo' := C.Bo) fun b hb => .inl hb, .imm _ _ (p4.mono (Agree.refl _ _) fun b _ hb => hstar b hb)⟩
  | some x =>
    obtain ⟨t, sz, by_⟩ := x
    obtain ⟨hown, h⟩ := need_some h
    cases by_ with
    | true =>
      simp only [cond_true] at h
      cases hv : r.v <;> rw [hv] at h <;> simp only [asY, reduceCtorEq] at h
      simp only [Option.some.injEq, Prod.mk.injEq] at h
      obtain ⟨rfl, rfl⟩ := h
      exact hend t sz _ rfl (by rw [hv]; rfl) (by rw [hv]; rfl) (by rw [hv]; rfl) hown fun z l' hz => by rw [hv] at hz; cases hz
    | false =>
      simp only [cond_false] at h
      cases hv : r.v <;> rw [hv] at h <;> simp only [asR, reduceCtorEq] at h
      rename_i z l
      cases hb : Nat.beq z sz
      · rw [hb] at h; cases h
      rw [hb] at h
      have e1 := Nat.eq_of_beq_eq_true hb
      simp only [cond_true, Option.some.injEq, Prod.mk.injEq] at h
      obtain ⟨rfl, rfl⟩ := h
      subst e1
      exact hend t _ _ rfl (by rw [hv]; rfl) (by rw [hv]; rfl) (by rw [hv]; rfl) hown fun z' l' hz => by rw [hv] at hz; simp only [AV.row.injEq] at hz; exact hz.1.symm

end ops

def gapCells (z : List Value) : Option Value → List Value
  | some v => v.cells.toList
  | none => z
def gapParts : Nat → List (Option Value) → List (Nat × Value)
  | _, [] => []
  | i, some v :: r => (i, v) :: gapParts (i + 1) r
  | i, none :: r => gapParts (i + 1) r

theorem fill_gap (z : List Value) (sz : Nat) (hz : z.length = sz) : ∀ (vals : List (Option Value)) (i0 : Nat) (pre : List Value), pre.length = i0 * sz → (∀ v, some v ∈ vals → v.cells.size = sz) →
    Instr.fill (fun i => some (i * sz, sz)) (pre ++ (List.replicate vals.length z).flatten).toArray (gapParts i0 vals) = some (pre ++ vals.flatMap (gapCells z)).toArray
  | [], i0, pre, _, _ => by simp [Instr.fill, gapParts]
  | none :: vals, i0, pre, h1, h2 => by
    have ih := fill_gap z sz hz vals (i0 + 1) (pre ++ z) (by simp [h1, hz, Nat.succ_mul]) fun v hv => h2 v (by simp [hv])
    simp only [gapParts, List.length_cons, List.replicate_succ, List.flatten_cons, List.flatMap_cons, gapCells]
    simpa using ih
  | some v :: vals, i0, pre, h1, h2 => by
    have hv : v.cells.size = sz := h2 v (by simp)
    have hl : v.cells.toList.length = sz := by simpa using hv
    simp only [gapParts, List.length_cons, List.replicate_succ, List.flatten_cons, List.flatMap_cons, gapCells, Instr.fill]
    rw [if_neg (by simp [hv, h1, hz])]
    have hf := foldl_put (pre ++ (z ++ (List.replicate vals.length z).flatten)) v.cells.toList (i0 * sz) (by simp [hv, h1, hz])
    rw [← Array.foldl_toList, Array.toList_zipIdx]
    have hf' : (v.cells.toList.zipIdx.foldl (fun c (x : Value × Nat) => c.setIfInBounds (i0 * sz + x.2) x.1) (pre ++ (z ++ (List.replicate vals.length z).flatten)).toArray) = ((pre ++ v.cells.toList) ++ (List.replicate vals.length z).flatten).toArray := by
      apply Array.ext'
      rw [hf, hl, ← h1, List.take_left', ← List.drop_drop, List.drop_left']
      · have : (z ++ (List.replicate vals.length z).flatten).drop sz = (List.replicate vals.length z).flatten := by rw [← hz, List.drop_left']; rfl
        rw [this]
      · rfl
      · rfl
    rw [hf']
    rw [fill_gap z sz hz vals (i0 + 1) (pre ++ v.cells.toList) (by simp [h1, hv, Nat.succ_mul]) fun v hv => h2 v (by simp [hv])]
    simp

/-- A literal's parts, with gaps. -/
def fitGaps (i : Nat) : List (Option AO) → List (Nat × Operand) → Bool
  | [], [] => true
  | none :: xs, ys => fitGaps (i + 1) xs ys
  | some x :: xs, (j, y) :: ys => Nat.beq j i && fitO x y && fitGaps (i + 1) xs ys
  | _, _ => false
def gapFits (P : Program) (t : TypeId) (n : Nat) (z : AV) (parts : List (Option AO)) (qs : List (Nat × Operand)) (sz : Nat) : Bool :=
  match P.underlying t with
  | some (.slice e) => (match P.info? e with
    | some ie => (match ie.zero with
      | some zv => Nat.beq ie.size sz && fitV z zv && Nat.beq z.flat.length sz && Nat.beq n parts.length && Nat.ble 1 n && Nat.ble (n * sz) 16777216 && Nat.ble 1 sz && fitGaps 0 parts qs
      | none => false)
    | none => false)
  | _ => false

section ops
variable {P : Program} {C : Cx} {R : Nat → List AV → Option Res} {ρ : Rho} {st : St} {a : Act} {w : World} {oper : Oper} {s : SV} {st' : St}

theorem immG_ok (hI : Inv C ρ st a.tmps w) {z : AV} {zv : Value} (hz : Rel w (bad C.Bo ρ st.M) z zv) : ∀ {ps : List (Option AO)} {qs : List (Nat × Operand)} {vs : List AV} {i : Nat}, fitGaps i ps qs = true → immG C.G st z ps = some vs →
    ∃ vals : List (Option Value), vals.length = ps.length ∧ gapParts i vals = (qs.map fun q => (q.1, a.eval q.2)) ∧ RelL w (bad C.Bo ρ st.M) vs (vals.map fun o => o.getD zv)
  | [], [], vs, i, _, h => by
    simp only [immG, Option.some.injEq] at h; subst h
    exact ⟨[], rfl, rfl, .nil⟩
  | [], _ :: _, vs, i, hf, h => by simp [fitGaps] at hf
  | none :: ps, qs, vs, i, hf, h => by
    simp only [fitGaps] at hf
    simp only [immG, Option.map_eq_some_iff] at h
    obtain ⟨r, hr, rfl⟩ := h
    obtain ⟨vals, h1, h2, h3⟩ := immG_ok hI hz hf hr
    exact ⟨none :: vals, by simp [h1], by simpa [gapParts] using h2, .cons _ _ _ _ hz h3⟩
  | some x :: ps, [], vs, i, hf, h => by simp [fitGaps] at hf
  | some x :: ps, (j, y) :: qs, vs, i, hf, h => by
    simp only [fitGaps, Bool.and_eq_true] at hf
    simp only [immG] at h
    split at h
    case h_2 => cases h
    rename_i v hv
    simp only [Option.map_eq_some_iff] at h
    obtain ⟨r, hr, rfl⟩ := h
    obtain ⟨vals, h1, h2, h3⟩ := immG_ok hI hz hf.2 hr
    have e := Nat.eq_of_beq_eq_true hf.1.1
    have hs := fitO_sound hI hf.1.2 hv
    cases hs with
    | imm _ _ hs =>
    exact ⟨some (a.eval y) :: vals, by simp [h1], by simp [gapParts, h2, e], .cons _ _ _ _ hs h3⟩

theorem bsliceG_ok {z : AV} {parts : List (Option AO)} {sz : Nat} (hI : Inv C ρ st a.tmps w) (h : step C.G R (.bsliceG z parts sz) st (fun s st' => some (s, st')) = some (s, st')) {t : TypeId} {n : Nat} {qs : Array (Nat × Operand)}
    (ho : oper.op = .buildSlice t n qs) (hf : gapFits P t n z parts qs.toList sz = true) : Good P C oper a w s st' := by
  simp only [step, Option.bind_eq_some_iff] at h
  obtain ⟨vs, hvs, h⟩ := h
  unfold gapFits at hf
  split at hf
  case h_2 => cases hf
  rename_i e hu
  split at hf
  case h_2 => cases hf
  rename_i ie hie
  split at hf
  case h_2 => cases hf
  rename_i zv hz
  simp only [Bool.and_eq_true] at hf
  obtain ⟨⟨⟨⟨⟨⟨⟨h1, h2⟩, h2'⟩, h3⟩, h3'⟩, h4⟩, h5⟩, h6⟩ := hf
  have e1 := Nat.eq_of_beq_eq_true h1
  have e2 := Nat.eq_of_beq_eq_true h2'
  have e3 := Nat.eq_of_beq_eq_true h3
  have e3' := Nat.le_of_ble_eq_true h3'
  have e4 := Nat.le_of_ble_eq_true h4
  have e5 := Nat.le_of_ble_eq_true h5
  subst e1
  have hzr : Rel w (bad C.Bo ρ st.M) z zv := fitV_ok h2
  obtain ⟨vals, k1, k2, k3⟩ := immG_ok hI hzr h6 hvs
  simp only [rowOf, cond_false] at h
  obtain ⟨hsz, h⟩ := need_some h
  simp only [Option.some.injEq, Prod.mk.injEq] at h
  obtain ⟨rfl, rfl⟩ := h
  have hone : ∀ x ∈ vs, x.flat.length = ie.size ∧ x.flat.all AV.one = true := by
    intro x hx
    have := List.all_eq_true.1 hsz x hx
    simp only [Bool.and_eq_true] at this
    exact ⟨Nat.eq_of_beq_eq_true this.1, this.2⟩
  have hzl : zv.cells.toList.length = ie.size := by rw [← hzr.flat.length, e2]
  have hcells : ∀ v, some v ∈ vals → v.cells.size = ie.size := by
    intro v hv
    obtain ⟨i, hi⟩ := List.getElem?_of_mem hv
    have hi' : i < vs.length := by rw [k3.length, List.length_map]; exact (List.getElem?_eq_some_iff.1 hi).1
    obtain ⟨u, q1, q2⟩ := k3.get (List.getElem?_eq_getElem hi')
    rw [List.getElem?_map, hi] at q1
    simp only [Option.map_some, Option.getD_some, Option.some.injEq] at q1
    subst q1
    rw [← (hone _ (List.getElem_mem hi')).1, q2.flat.length]; simp
  have hfl : vals.flatMap (gapCells zv.cells.toList) = (vals.map fun o => o.getD zv).flatMap (·.cells.toList) := by
    rw [List.flatMap_map]
    congr 1
    funext o
    cases o <;> rfl
  have hn : n = vals.length := by rw [k1]; exact e3
  have hpos : ¬ n * ie.size = 0 := by
    intro h0
    rcases Nat.mul_eq_zero.1 h0 with h | h <;> omega
  have hrun : (Instr.buildSlice t n (qs.map fun (i, x) => (i, a.eval x))).run P w =
      .ok (.slice (some ⟨w.heap.size, 0, none⟩) n n) { w with heap := w.heap.push (.cells ((vals.map fun o => o.getD zv).flatMap (·.cells.toList)).toArray e) } := by
    refine run_buildSlice w t e n _ _ ie zv hu hie hz (by simp; omega) hpos ?_
    have := fill_gap zv.cells.toList ie.size hzl vals 0 [] (by simp) hcells
    rw [hfl, List.nil_append, List.nil_append, k2] at this
    rw [← this]
    congr 1
    · apply Array.ext'
      rw [← hn]
      have hml := madeCells_flat zv.cells n
      have hzs : zv.cells.size = ie.size := by simpa using hzl
      rw [← hzs]
      exact hml
    · simp
  refine Does.value (w' := { w with heap := w.heap.push (.cells ((vals.map fun o => o.getD zv).flatMap (·.cells.toList)).toArray e) }) (v := .slice (some ⟨w.heap.size, 0, none⟩) n n) (by rw [ex_buildSlice ho]; exact run_v hrun) ⟨ρ, hI.grow agree_push, .imm _ _ ?_⟩
  have hvl : vs.length = n := by rw [k3.length, List.length_map, hn]
  rw [← hvl]
  refine .row ie.size vs ((vals.map fun o => o.getD zv).flatMap (·.cells.toList)) w.heap.size 0 vs.length (by simp) (fun hb => Nat.lt_irrefl _ (hI.badlt _ hb)) (Nat.le_refl _) (fun x hx => (hone x hx).1) ?_ (k3.flats.mono agree_push.none fun _ _ h => h) fun j v hj => ?_
  · have hall : (flats vs).all AV.one = true := by
      rw [List.all_eq_true]
      intro x hx
      simp only [flats, List.mem_flatMap] at hx
      obtain ⟨y, hy, hx⟩ := hx
      exact List.all_eq_true.1 (hone y hy).2 x hx
    exact k3.flats.ones hall
  · rw [cell_of (cells := ((vals.map fun o => o.getD zv).flatMap (·.cells.toList)).toArray) (e := e) (fr := (0, 0)) (by simp), Nat.zero_add, List.getElem?_toArray]
    exact hj

end ops

def isMapT (P : Program) (t : TypeId) : Bool := match P.underlying t with | some (.map _ _) => true | _ => false
/-- A map whose keys are integers or strings. -/
def keyTy (P : Program) (t : TypeId) (kd : Option IntKind) : Bool := match P.underlying t with
  | some (.map k _) => (match P.underlying k, kd with | some (.int q), some q' => decide (q = q') | some .string, none => true | _, _ => false)
  | _ => false
def lookTy (P : Program) (t : TypeId) (z : AV) : Bool := match P.underlying t with
  | some (.map _ e) => (match P.info? e with | some i => (match i.zero with | some u => fitVs [z] [u] | none => false) | none => false)
  | _ => false
theorem keyTy_ok {P : Program} {t : TypeId} {kd : Option IntKind} {a : AV} (h : keyTy P t kd = true) (ha : keyIs kd a = true) : ∃ k e d, P.underlying t = some (.map k e) ∧ P.underlying k = some d ∧ MapKept.IsKey d a.pv ∧ a.plainV = true := by
  unfold keyTy at h
  split at h
  case h_2 => cases h
  rename_i k e hT
  split at h
  · rename_i q q' hk
    have hq := of_decide_eq_true h
    subst hq
    cases a <;> simp only [keyIs, reduceCtorEq] at ha
    have := of_decide_eq_true ha
    subst this
    exact ⟨k, e, _, hT, hk, rfl, rfl⟩
  · rename_i hk
    cases a <;> simp only [keyIs, reduceCtorEq] at ha
    exact ⟨k, e, _, hT, hk, trivial, rfl⟩
  · cases h
def mkOk (P : Program) (T : TypeId) (r : Option Operand) : Bool := match r with | none => true | some (.const (.int _ _)) => isMapT P T | _ => false
theorem ex_makeMap {ρ : Operand → Value} {o : Oper} {t : TypeId} {r : Option Operand} (h : o.op = .makeMap t r) : execOp ρ o = (do pure (.value (← Instr.makeMap t (r.map ρ)))) := by cases o; subst h; rfl
theorem ex_insert {ρ : Operand → Value} {o : Oper} {t : TypeId} {m k x : Operand} (h : o.op = .insert t m k x) : execOp ρ o = (do Instr.mapUpdate t (ρ m) (ρ k) (ρ x); pure .skip) := by cases o; subst h; rfl
theorem ex_lookup {ρ : Operand → Value} {o : Oper} {t : TypeId} {m k : Operand} {c : Bool} (h : o.op = .lookup t m k c) : execOp ρ o = (do pure (.value (← Instr.lookup t (ρ m) (ρ k) c))) := by cases o; subst h; rfl

theorem pv_str {s t : List UInt8} (h : (AV.str s).pv = (AV.str t).pv) : s = t := by
  simp only [AV.pv, AV.apv, Value.string.injEq, ByteArray.mk.injEq] at h
  simpa using h
theorem eqK_pv {a b : AV} {r : Bool} (h : eqK a b = some r) : (r = true ↔ b.pv = a.pv) := by
  cases a <;> cases b <;> simp only [eqK, reduceCtorEq] at h
  · rename_i k n k' m
    cases hk : decide (k = k')
    · rw [hk] at h; cases h
    · have := of_decide_eq_true hk; subst this
      simp only [decide_true, cond_true, Option.some.injEq] at h
      subst h
      simp only [AV.pv, AV.apv, beq_iff_eq, Value.int.injEq, true_and]
      exact eq_comm
  · simp only [Option.some.injEq] at h
    subst h
    rw [beq_iff_eq]
    exact ⟨fun e => by rw [e], fun e => (pv_str e).symm⟩
theorem isKey_of {a b : AV} {r : Bool} (h : eqK a b = some r) {d : TypeDesc} (hd : MapKept.IsKey d a.pv) : MapKept.IsKey d b.pv := by
  cases a <;> cases b <;> simp only [eqK, reduceCtorEq] at h
  · rename_i k n k' m
    cases hk : decide (k = k')
    · rw [hk] at h; cases h
    · have := of_decide_eq_true hk; subst this
      cases d <;> first | exact hd | exact hd.elim
  · cases d <;> first | exact hd | exact hd.elim

theorem freshK_spec {a : AV} {es : List (AV × AV)} (h : freshK a es = true) : ∀ p ∈ es, eqK a p.1 = some false := by
  intro p hp
  have := List.all_eq_true.1 h p hp
  split at this
  · assumption
  · cases this
theorem knownK_spec {a : AV} {es : List (AV × AV)} (h : knownK a es = true) : ∀ p ∈ es, ∃ r, eqK a p.1 = some r := fun p hp => Option.isSome_iff_exists.1 (List.all_eq_true.1 h p hp)

/-- The entries of the machine's map are ours. -/
theorem ents_mem {mes : Array MapEntry} {es : List (AV × AV)} (h : (mes.toList.map entV).Perm (es.map entA)) {x : MapEntry} (hx : x ∈ mes.toList) : ∃ p ∈ es, x.key = p.1.pv ∧ x.val = p.2.pv := by
  have : entV x ∈ es.map entA := h.mem_iff.1 (List.mem_map.2 ⟨x, hx, rfl⟩)
  obtain ⟨p, hp, e⟩ := List.mem_map.1 this
  simp only [entV, entA, Prod.mk.injEq] at e
  exact ⟨p, hp, e.1.symm, e.2.symm⟩
theorem ents_mem' {mes : Array MapEntry} {es : List (AV × AV)} (h : (mes.toList.map entV).Perm (es.map entA)) {p : AV × AV} (hp : p ∈ es) : ∃ x ∈ mes.toList, x.key = p.1.pv ∧ x.val = p.2.pv := by
  have : entA p ∈ mes.toList.map entV := h.mem_iff.2 (List.mem_map.2 ⟨p, hp, rfl⟩)
  obtain ⟨x, hx, e⟩ := List.mem_map.1 this
  simp only [entV, entA, Prod.mk.injEq] at e
  exact ⟨x, hx, e.1, e.2⟩

/-- One entry more. -/
theorem MapAt.push {P : Program} {w : World} {b : Nat} {es : List (AV × AV)} {T : TypeId} {k v : AV} (h : MapAt w b es) {kk e : TypeId} {d : TypeDesc} (hTT : P.underlying T = some (.map kk e)) (hd : P.underlying kk = some d) (hik : MapKept.IsKey d k.pv) (hk : k.plainV = true) (hv : v.plainV = true) (hf : freshK k es = true) :
    ∃ o, (Instr.mapUpdate T (.map (some b)) k.pv v.pv).run P w = .ok () (setBlk w b o) ∧ MapAt (setBlk w b o) b (es ++ [(k, v)]) := by
  obtain ⟨mes, clock, h1, h2, h3, h4⟩ := h
  have hf' := freshK_spec hf
  have hall : ∀ x ∈ mes.toList, MapKept.IsKey d x.key ∧ x.key ≠ k.pv := by
    intro x hx
    obtain ⟨p, hp, e1, _⟩ := ents_mem h2 hx
    rw [e1]
    refine ⟨isKey_of (hf' p hp) hik, fun e2 => ?_⟩
    have := (eqK_pv (hf' p hp)).2 e2
    cases this
  have hfind : (Instr.findKey kk k.pv mes.toList).run P w = .ok none w := by
    rcases MapKept.findNow_spec hik mes.toList 0 (fun x hx => (hall x hx).1) with ⟨g1, _⟩ | ⟨j, e0, g1, g2, g3⟩
    · exact MapKept.run_findKey hd g1
    · exact absurd g3 (hall e0 (List.mem_of_getElem? g2)).2
  refine ⟨.map (mes.push ⟨k.pv, v.pv, clock⟩) (clock + 1), ?_, mes.push ⟨k.pv, v.pv, clock⟩, clock + 1, heap_setBlk (lt_of_get h1), ?_, MapKept.stamped_push h3 fun x hx => (hall x hx).2, ?_⟩
  · simp [Instr.mapUpdate, run_underlying hTT, MapKept.run_getObj_map h1, MapKept.run_checkKey hd hik false 9999, hfind, MapKept.run_setObj_map _ h1, Result.andThen, setBlk, Sem.run_bind]
  · rw [Array.toList_push, List.map_append, List.map_append]
    exact h2.append (List.Perm.refl _)
  · intro p hp
    rcases List.mem_append.1 hp with hp | hp
    · exact h4 p hp
    · obtain rfl := List.mem_singleton.1 hp
      exact ⟨hk, hv⟩

/-- What is at a key. -/
theorem MapAt.look {P : Program} {w : World} {b : Nat} {es : List (AV × AV)} {T : TypeId} {k z : AV} (h : MapAt w b es) {kk e : TypeId} {d : TypeDesc} (hTT : P.underlying T = some (.map kk e)) (hd : P.underlying kk = some d) (hik : MapKept.IsKey d k.pv) (hT : lookTy P T z = true) (hk : k.plainV = true) (hz : z.plainV = true) (hf : knownK k es = true) :
    (Instr.lookup T (.map (some b)) k.pv true).run P w = .ok (.tuple #[(lookK k z es).1.pv, .bool (lookK k z es).2]) w ∧ (lookK k z es).1.plainV = true := by
  obtain ⟨mes, clock, h1, h2, h3, h4⟩ := h
  unfold lookTy at hT
  rw [hTT] at hT
  have hzz := hT
  simp only at hzz
  have hf' := knownK_spec hf
  have hzero : (zeroValue e).run P w = .ok z.pv w := by
    split at hzz
    · rename_i i hi
      split at hzz
      · rename_i u hu
        have hr : RelL w (fun _ => False) [z] [u] := fitVs_ok hzz
        cases hr with
        | cons _ _ _ _ hr _ =>
        have := hr.pv hz
        subst this
        unfold zeroValue
        rw [run_bind_ok (run_typeInfo hi), hu]; rfl
      · cases hzz
    · cases hzz
  have hall : ∀ x ∈ mes.toList, MapKept.IsKey d x.key := by
    intro x hx
    obtain ⟨p, hp, e1, _⟩ := ents_mem h2 hx
    obtain ⟨r, hr⟩ := hf' p hp
    rw [e1]; exact isKey_of hr hik
  have hlook : ∀ es : List (AV × AV), (∀ p ∈ es, ∃ r, eqK k p.1 = some r) → ((∀ p ∈ es, p.1.pv ≠ k.pv) ∧ lookK k z es = (z, false)) ∨ ∃ p ∈ es, p.1.pv = k.pv ∧ lookK k z es = (p.2, true) := by
    intro es
    induction es with
    | nil => intro _; exact .inl ⟨fun p hp => (by cases hp), rfl⟩
    | cons p r ih =>
      intro hh
      obtain ⟨q, hq⟩ := hh p (List.mem_cons_self ..)
      have hiff := eqK_pv hq
      cases q with
      | true => exact .inr ⟨p, List.mem_cons_self .., hiff.1 rfl, by simp only [lookK, hq]⟩
      | false =>
        have hne : p.1.pv ≠ k.pv := fun e => by have := hiff.2 e; cases this
        rcases ih fun p hp => hh p (List.mem_cons_of_mem _ hp) with ⟨i1, i2⟩ | ⟨p', i1, i2, i3⟩
        · refine .inl ⟨fun p' hp' => ?_, by simp only [lookK, hq, i2]⟩
          rcases List.mem_cons.1 hp' with rfl | hp'
          · exact hne
          · exact i1 p' hp'
        · exact .inr ⟨p', List.mem_cons_of_mem _ i1, i2, by simp only [lookK, hq, i3]⟩
  obtain ⟨s1, s2, s3⟩ := (MapKept.stamped_iff mes clock).1 h3
  rcases MapKept.findNow_spec hik mes.toList 0 hall with ⟨g1, g2⟩ | ⟨j, e0, g1, g2, g3⟩
  · have hr := MapKept.run_findKey (w := w) hd g1
    rcases hlook es hf' with ⟨i1, i2⟩ | ⟨p, i1, i2, i3⟩
    · rw [i2]
      exact ⟨by simp [Instr.lookup, run_underlying hTT, MapKept.run_getObj_map h1, MapKept.run_checkKey hd hik _ 9999, hr, hzero, Result.andThen, Sem.run_bind], hz⟩
    · obtain ⟨x, hx, e1, _⟩ := ents_mem' h2 i1
      exact absurd (e1.trans i2) (g2 x hx)
  · have hr := MapKept.run_findKey (w := w) hd g1
    have hm0 := List.mem_of_getElem? g2
    obtain ⟨p, hp, e1, e2⟩ := ents_mem h2 hm0
    rcases hlook es hf' with ⟨i1, i2⟩ | ⟨p', i1, i2, i3⟩
    · exact absurd (e1.symm.trans g3) (i1 p hp)
    · rw [i3]
      have hval : e0.val = p'.2.pv := by
        obtain ⟨x, hx, q1, q2⟩ := ents_mem' h2 i1
        rw [← q2]
        have hxe : x.key = e0.key := by rw [q1, i2, g3]
        by_cases hne : e0 = x
        · rw [hne]
        · have : e0.key ≠ x.key := by
            obtain ⟨i, hi, hie⟩ := List.getElem_of_mem hx
            obtain ⟨hj, hje⟩ := List.getElem?_eq_some_iff.1 g2
            rcases Nat.lt_trichotomy i j with hij | hij | hij
            · have := List.pairwise_iff_getElem.1 s3 i j hi hj hij
              rw [hie, hje] at this; exact fun e => this e.symm
            · subst hij; exact absurd (hje.symm.trans hie) hne
            · have := List.pairwise_iff_getElem.1 s3 j i hj hi hij
              rw [hie, hje] at this; exact this
          exact absurd hxe.symm this
      refine ⟨by simp [Instr.lookup, run_underlying hTT, MapKept.run_getObj_map h1, MapKept.run_checkKey hd hik _ 9999, hr, hval, Result.andThen, Sem.run_bind], (h4 p' i1).2⟩

section ops
variable {P : Program} {C : Cx} {R : Nat → List AV → Option Res} {ρ : Rho} {st : St} {a : Act} {w : World} {oper : Oper} {s : SV} {st' : St}

theorem mkMap_ok {t : Nat} (hI : Inv C ρ st a.tmps w) (htg : t < rT) (h : step C.G R (.mkMap t) st (fun s st' => some (s, st')) = some (s, st')) {T : TypeId} {r : Option Operand}
    (ho : oper.op = .makeMap T r) (hr : mkOk P T r = true) : Good P C oper a w s st' := by
  simp only [step, Option.some.injEq, Prod.mk.injEq] at h
  obtain ⟨rfl, rfl⟩ := h
  have hA : Agree (fun _ => False) w (w.alloc (.map #[] 0)) := agree_push
  have hlt : (w.alloc (.map #[] 0)).heap[w.heap.size]? = some (.map #[] 0) := heap_alloc_new w _
  refine Does.value (w' := w.alloc (.map #[] 0)) (v := .map (some w.heap.size)) ?_ ⟨upd ρ t (some (w.heap.size, 0, 0)), ?_, ?_⟩
  · rw [ex_makeMap ho]
    refine run_v ?_
    unfold mkOk at hr
    split at hr
    · rfl
    · rename_i n
      unfold isMapT at hr
      split at hr
      · rename_i kk e hT
        show (Instr.makeMap T (some (.int _ _))).run P w = _
        unfold Instr.makeMap
        simp [run_underlying hT, Sem.run_bind, Result.andThen, asInt]
        rfl
      · cases hr
    · cases hr
  · exact (hI.kill t _).fresh (b := w.heap.size) (o := 0) (cp := 0) htg get_kill1 (by simp [upd]) hA (Nat.le_refl _) ⟨rfl, #[], 0, hlt, List.Perm.refl _, MapKept.stamped_empty 0, fun p hp => by cases hp⟩
  · exact RelS.mp t w.heap.size 0 0 (.map []) (by simp [St.withM, get]) (by simp [upd])

theorem insM_ok {kd : Option IntKind} {x k v : AO} (hI : Inv C ρ st a.tmps w) (h : step C.G R (.insM kd x k v) st (fun s st' => some (s, st')) = some (s, st')) {T : TypeId} {x' k' v' : Operand}
    (ho : oper.op = .insert T x' k' v') (hx : fitO x x' = true) (hk : fitO k k' = true) (hv : fitO v v' = true) (hT : keyTy P T kd = true) : Good P C oper a w s st' := by
  simp only [step, Option.bind_eq_some_iff] at h
  obtain ⟨sx, hsx, sk, hsk, sv, hsv, h⟩ := h
  have h1 := fitO_sound hI hx hsx
  have h2 := fitO_sound hI hk hsk
  have h3 := fitO_sound hI hv hsv
  split at h
  case h_2 => cases h
  rename_i t ka va
  simp only [Option.bind_eq_some_iff] at h
  obtain ⟨blk, hblk, h⟩ := h
  split at h
  case h_2 => cases h
  rename_i es
  obtain ⟨hn, h⟩ := need_some h
  simp only [Bool.and_eq_true, decide_eq_true_eq] at hn
  simp only [Option.some.injEq, Prod.mk.injEq] at h
  obtain ⟨rfl, rfl⟩ := h
  generalize hev : a.eval x' = vx at h1
  cases h1 with
  | mp _ b o cp blk0 hm hr =>
  obtain rfl : blk0 = .map es := by rw [hblk] at hm; simpa using hm.symm
  obtain ⟨b0, o0, cp0, k1, k2, k3, k4⟩ := (hI.mem t _ hm).resolve_right fun hh => by rw [hr] at hh; cases hh.1
  rw [hr] at k1; simp only [Option.some.injEq, Prod.mk.injEq] at k1; obtain ⟨rfl, rfl, rfl⟩ := k1
  obtain ⟨rfl, k2⟩ := k2
  cases h2 with
  | imm _ _ h2 =>
  cases h3 with
  | imm _ _ h3 =>
  obtain ⟨kk, e, d, t1, t2, t3, t4⟩ := keyTy_ok hT hn.1.1.1
  have e2 := h2.pv t4
  have e3 := h3.pv hn.1.1.2
  obtain ⟨ob, g1, g2⟩ := k2.push (v := va) t1 t2 t3 t4 hn.1.1.2 hn.1.2
  refine Does.skip (w' := setBlk w b ob) ?_ ⟨ρ, hI.write hm rfl hr rfl rfl agree_setBlk ⟨rfl, g2⟩, .dead _⟩
  rw [ex_insert ho, hev, e2, e3]
  rw [run_bind_ok g1]; rfl

theorem lookM_ok {kd : Option IntKind} {x k : AO} {z : AV} {ty : Ty} (hI : Inv C ρ st a.tmps w) (h : step C.G R (.lookM kd x k z ty) st (fun s st' => some (s, st')) = some (s, st')) {T : TypeId} {x' k' : Operand}
    (ho : oper.op = .lookup T x' k' true) (hx : fitO x x' = true) (hk : fitO k k' = true) (hkt : keyTy P T kd = true) (hT : lookTy P T z = true) : Good P C oper a w s st' := by
  simp only [step, Option.bind_eq_some_iff] at h
  obtain ⟨sx, hsx, sk, hsk, h⟩ := h
  have h1 := fitO_sound hI hx hsx
  have h2 := fitO_sound hI hk hsk
  split at h
  case h_2 => cases h
  rename_i t ka
  simp only [Option.bind_eq_some_iff] at h
  obtain ⟨blk, hblk, h⟩ := h
  split at h
  case h_2 => cases h
  rename_i es
  obtain ⟨hn, h⟩ := need_some h
  simp only [Bool.and_eq_true] at hn
  have h5 := asTy_some _ _ _ _ h
  simp only [Option.some.injEq, Prod.mk.injEq] at h5
  obtain ⟨rfl, rfl⟩ := h5
  generalize hev : a.eval x' = vx at h1
  cases h1 with
  | mp _ b o cp blk0 hm hr =>
  obtain rfl : blk0 = .map es := by rw [hblk] at hm; simpa using hm.symm
  obtain ⟨b0, o0, cp0, k1, k2, k3, k4⟩ := (hI.mem t _ hm).resolve_right fun hh => by rw [hr] at hh; cases hh.1
  rw [hr] at k1; simp only [Option.some.injEq, Prod.mk.injEq] at k1; obtain ⟨rfl, rfl, rfl⟩ := k1
  obtain ⟨rfl, k2⟩ := k2
  cases h2 with
  | imm _ _ h2 =>
  obtain ⟨kk, e, d, t1, t2, t3, t4⟩ := keyTy_ok hkt hn.1.1
  have e2 := h2.pv t4
  obtain ⟨g1, g2⟩ := k2.look t1 t2 t3 hT t4 hn.1.2 hn.2
  refine Good.same hI (w' := w) (v := .tuple #[(lookK ka z es).1.pv, .bool (lookK ka z es).2]) ?_ rfl (.imm _ _ (.tup [_, _] [_, _] (.cons _ _ _ _ (AV.pv_rel g2) (.cons _ _ _ _ (.bool _) .nil))))
  rw [ex_lookup ho, hev, e2]
  exact run_v g1

theorem rangeM_ok {t : Nat} {x : AO} (hI : Inv C ρ st a.tmps w) (ht : t < rT) (h : step C.G R (.rangeM t x) st (fun s st' => some (s, st')) = some (s, st')) {T : TypeId} {x' : Operand}
    (ho : oper.op = .range T x') (hx : fitO x x' = true) (hT : isMapT P T = true) : Good P C oper a w s st' := by
  simp only [step, Option.bind_eq_some_iff] at h
  obtain ⟨sx, hsx, h⟩ := h
  have h1 := fitO_sound hI hx hsx
  split at h
  case h_2 => cases h
  rename_i u
  simp only [Option.bind_eq_some_iff] at h
  obtain ⟨blk, hblk, h⟩ := h
  split at h
  case h_2 => cases h
  rename_i es
  simp only [Option.some.injEq, Prod.mk.injEq] at h
  obtain ⟨rfl, rfl⟩ := h
  generalize hev : a.eval x' = vx at h1
  cases h1 with
  | mp _ b o cp blk0 hm hr =>
  obtain rfl : blk0 = .map es := by rw [hblk] at hm; simpa using hm.symm
  obtain ⟨b0, o0, cp0, k1, k2, k3, k4⟩ := (hI.mem u _ hm).resolve_right fun hh => by rw [hr] at hh; cases hh.1
  rw [hr] at k1; simp only [Option.some.injEq, Prod.mk.injEq] at k1; obtain ⟨rfl, rfl, rfl⟩ := k1
  obtain ⟨rfl, mes, clock, m1, m2, m3, m4⟩ := k2
  unfold isMapT at hT
  split at hT
  case h_2 => cases hT
  rename_i kk e hTT
  have hA : Agree (fun _ => False) w (w.alloc (.mapIter (some b) clock #[] clock)) := agree_push
  have hb := lt_of_get m1
  obtain ⟨s1, s2, s3⟩ := (MapKept.stamped_iff mes clock).1 m3
  let ρ1 := upd (upd ρ u none) t (some (w.heap.size, 0, 0))
  have hI1 : Inv C ρ1 ((st.kill u).kill t) a.tmps w := (hI.kill u none).kill t _
  have hρ1 : ρ1 t = some (w.heap.size, 0, 0) := by simp [ρ1, upd]
  have hnb : ¬ bad C.Bo ρ1 ((t, Blk.miter es none) :: ((st.kill u).kill t).M) b := by
    rintro (hx | ⟨v, bv, ov, cv, g1, g2, g3⟩)
    · exact k3 hx
    · rw [get_cons] at g1
      by_cases hvt : v = t
      · subst hvt; rw [hρ1] at g3; simp only [Option.some.injEq, Prod.mk.injEq] at g3; omega
      · simp only [hvt, if_false] at g1
        have g1' : get (killM t (killM u st.M)) v = some bv := g1
        rw [get_killM, if_neg hvt, Option.map_eq_some_iff] at g1'
        obtain ⟨b1, g4, rfl⟩ := g1'
        rw [get_killM] at g4
        by_cases hvu : v = u
        · simp [hvu] at g4
        · simp only [hvu, if_false, Option.map_eq_some_iff] at g4
          obtain ⟨b2, g5, rfl⟩ := g4
          simp only [ρ1, upd, hvt, hvu, if_false] at g3
          exact hI.inj u v _ b2 b 0 cp b ov cv hm g5 rfl (fun e => hvu e.symm) hr g3 rfl
  refine Does.value (w' := w.alloc (.mapIter (some b) clock #[] clock)) (v := .pointer (some ⟨w.heap.size, 0, none⟩)) ?_ ⟨ρ1, ?_, ?_⟩
  · rw [ex_range ho, hev]
    exact run_v (run_range_map w T kk e b mes clock hTT m1)
  · refine hI1.fresh (b := w.heap.size) (o := 0) (cp := 0) ht (by show get (killM t (killM u st.M)) t = none; rw [get_killM]; simp) hρ1 hA (Nat.le_refl _) ⟨rfl, b, clock, #[], clock, mes, clock, heap_alloc_new w _, ?_, hnb, ?_, s1, Nat.le_refl _, Nat.le_refl _, s2, ?_, m4, fun p hp => by cases hp⟩
    · show b < (w.heap.push _).size
      rw [Array.size_push]; omega
    · show (w.heap.push _)[b]? = _
      rw [Array.getElem?_push_lt hb, ← m1, Array.getElem?_eq_getElem hb]
    · have : leftOf mes #[] = mes := by unfold leftOf; simp
      rw [this]; exact m2
  · have := RelS.ptr (w := w.alloc (.mapIter (some b) clock #[] clock)) (B := bad C.Bo ρ1 ((t, Blk.miter es none) :: ((st.kill u).kill t).M)) (ρ := ρ1) (M := (t, Blk.miter es none) :: ((st.kill u).kill t).M) t 0 0 w.heap.size 0 0 (.miter es none) (by simp [get]) hρ1
    simp only [Nat.zero_mul, Nat.add_zero] at this
    exact this
theorem ex_entry {ρ : Operand → Value} {o : Oper} {x : Operand} (h : o.op = .entry x) : execOp ρ o = (do pure (.value (← Instr.entry (ρ x)))) := by cases o; subst h; rfl
theorem entM_ok {x : AO} {tk tv : Ty} (hI : Inv C ρ st a.tmps w) (h : step C.G R (.entM x tk tv) st (fun s st' => some (s, st')) = some (s, st')) {x' : Operand}
    (ho : oper.op = .entry x') (hx : fitO x x' = true) : Good P C oper a w s st' := by
  simp only [step, Option.bind_eq_some_iff] at h
  obtain ⟨u, hu, h⟩ := h
  have h1 := fitO_sound hI hx hu
  split at h
  case h_2 => cases h
  rename_i t i off
  simp only [Option.bind_eq_some_iff] at h
  obtain ⟨blk, hblk, h⟩ := h
  split at h
  case h_2 => cases h
  rename_i es p
  obtain ⟨hn2, hh⟩ := need_some h
  replace h := hh
  simp only [Bool.and_eq_true] at hn2
  have e1 := Nat.eq_of_beq_eq_true hn2.1
  have e2 := Nat.eq_of_beq_eq_true hn2.2
  subst e1; subst e2
  have h2 := asTy_some _ _ _ _ (asTy_some _ _ _ _ h)
  simp only [Option.some.injEq, Prod.mk.injEq] at h2
  obtain ⟨rfl, rfl⟩ := h2
  generalize hv : a.eval x' = v1 at h1
  cases h1 with
  | ptr _ _ _ bb o cp blk0 hm hr =>
  obtain rfl : blk0 = .miter es (some p) := by rw [hblk] at hm; simpa using hm.symm
  obtain ⟨b0, o0, cp0, k1, k2, k3, k4⟩ := (hI.mem t _ hm).resolve_right fun hh => by rw [hr] at hh; cases hh.1
  rw [hr] at k1; simp only [Option.some.injEq, Prod.mk.injEq] at k1; obtain ⟨rfl, rfl, rfl⟩ := k1
  obtain ⟨rfl, bm, since, seen, c0, mes, clock, q1, q2, q3, q4, q5, q6, q61, q7, q8, q9, q10⟩ := k2
  obtain ⟨seen0, e, rfl, rfl, u1, u2, u3, u4⟩ := q10 p rfl
  have hadr : (⟨bb, 0 + 0 * (Blk.miter es (some p)).sz + 0, none⟩ : Addr) = ⟨bb, 0, none⟩ := by simp
  rw [hadr] at hv
  have hrun := run_entry_at (P := P) w bb bm since seen0 mes c0 e q1 q4 u1 q7
  simp only [entV, entA, Prod.mk.injEq] at u2
  refine Good.same hI (w' := w) (v := .tuple #[e.key, e.val]) ?_ rfl (.imm _ _ ?_)
  · rw [ex_entry ho, hv]
    exact run_v hrun
  · rw [u2.1, u2.2]
    exact .tup [_, _] [_, _] (.cons _ _ _ _ (AV.pv_rel u3) (.cons _ _ _ _ (AV.pv_rel u4) .nil))
end ops

theorem get_mapE (f : SV → SV) (n : Nat) (env : List (Nat × SV)) : get (env.map fun e => (e.1, f e.2)) n = (get env n).map f := get_map _ _ _

/-- A variable that is only read from here on. -/
theorem Inv.cellize {C : Cx} {ρ : Rho} {st : St} {tm : Array Value} {w : World} (h : Inv C ρ st tm w) {t : Nat} {cs : List SV} {vs : List AV} (hm : get st.M t = some (.box cs)) (hv : svImms cs = some vs) :
    Inv C (upd ρ t none) (st.cellize t vs) tm w ∧ ∀ b o cp, ρ t = some (b, o, cp) → Rel w (bad C.Bo (upd ρ t none) (st.cellize t vs).M) (.cell vs) (.pointer (some ⟨b, o, none⟩)) := by
  have hk := h.kill t none
  obtain ⟨b, o, cp, h1, ⟨cells, e, fr, k1, k2, k3, k4⟩, hBo, hW⟩ := (h.mem t _ hm).resolve_right fun hh => hh.2
  have hnb : ¬ bad C.Bo (upd ρ t none) (killM t st.M) b := by
    rintro (hb | ⟨u, blk, o', cp', g1, g2, g3⟩)
    · exact hBo hb
    · rw [get_killM] at g1
      by_cases hut : u = t
      · simp [hut] at g1
      · simp only [hut, if_false, Option.map_eq_some_iff] at g1
        obtain ⟨b0, g4, rfl⟩ := g1
        simp only [upd, hut, if_false] at g3
        exact h.inj u t b0 _ b o' cp' b o cp g4 hm (by rw [fz_kill] at g2; exact g2) hut g3 h1 rfl
  obtain ⟨h5, h6⟩ := svImms_get hv
  obtain ⟨us, h7, h8⟩ := rel_list (w := w) (B := bad C.Bo ρ st.M) vs (fun j => cells[o + j]?) fun j v hj => by
    obtain ⟨u, h10, h11⟩ := k4 _ _ (h6 j v hj)
    cases h11 with
    | imm _ _ h11 => exact ⟨u, h10, h11⟩
  have h9 : RelL w (bad C.Bo (upd ρ t none) (killM t st.M)) vs us := h7.mono (Agree.refl _ _) fun x _ hx => bad_kill x hx
  have hcell : ∀ j v, us[j]? = some v → w.cell? ⟨b, o + j, none⟩ = some v := fun j v hj => by rw [cell_of k1]; exact h8 j v hj
  have hbl : b < w.heap.size := lt_of_get k1
  refine ⟨⟨hk.ext, fun n s hn => ?_, hk.mem, hk.inj, hk.glob, hk.bo, hk.pin⟩, fun b' o' cp' e' => ?_⟩
  · simp only [St.cellize, get_mapE, Option.map_eq_some_iff] at hn
    obtain ⟨s0, hs0, rfl⟩ := hn
    have hr := h.env n s0 hs0
    have hkk := hk.env n (s0.kill t) (by show get (killE t st.env) n = _; rw [show get (killE t st.env) n = (get st.env n).map (SV.kill t) from get_map _ _ _, hs0]; rfl)
    refine ⟨hr.1, ?_⟩
    have e2 : s0.cellize t vs = s0.kill t ∨ (s0 = .ptr t 0 0 ∧ s0.cellize t vs = .rptr vs) := by
      cases s0 with
      | ptr u i off =>
        simp only [SV.cellize, SV.kill, SV.ment]
        cases hu : Nat.beq u t
        · exact .inl rfl
        · have := Nat.eq_of_beq_eq_true hu
          subst this
          cases hi : Nat.beq i 0
          · exact .inl rfl
          · cases ho : Nat.beq off 0
            · exact .inl rfl
            · exact .inr ⟨by rw [Nat.eq_of_beq_eq_true hi, Nat.eq_of_beq_eq_true ho], rfl⟩
      | _ => exact .inl rfl
    rcases e2 with e2 | ⟨e3, e2⟩
    · rw [e2]; exact hkk.2
    · rw [e2]
      have hr2 := hr.2
      rw [e3] at hr2
      generalize tm.getD n undef = x at hr2
      cases hr2 with
      | ptr _ _ _ b1 o1 cp1 blk1 hm1 hr1 =>
      rw [h1] at hr1
      simp only [Option.some.injEq, Prod.mk.injEq] at hr1
      obtain ⟨rfl, rfl, rfl⟩ := hr1
      have := RelS.rptr (w := w) (B := bad C.Bo (upd ρ t none) (killM t st.M)) (ρ := upd ρ t none) (M := killM t st.M) vs us b o hbl hnb h9 hcell
      have h2 : RelS w (bad C.Bo (upd ρ t none) (killM t st.M)) (upd ρ t none) (killM t st.M) (.rptr vs) (.pointer (some ⟨b, o + 0 * blk1.sz + 0, none⟩)) := by simpa using this
      exact h2
  · rw [h1] at e'
    simp only [Option.some.injEq, Prod.mk.injEq] at e'
    obtain ⟨rfl, rfl, rfl⟩ := e'
    exact .cell vs us b o hbl hnb h9 hcell

/-- What has been caught stays what it is. -/
theorem capsC_ok {P : Program} {C : Cx} {a : Act} {w : World} {α : Type} : ∀ {xs : List AO} {xs' : List Operand} {st : St} {ρ : Rho} {K : List AV → St → Option α} {r : α},
    Inv C ρ st a.tmps w → fitL xs xs' = true → capsC C.G st xs K = some r →
    ∃ vs st' ρ', K vs st' = some r ∧ Inv C ρ' st' a.tmps w ∧ RelL w (bad C.Bo ρ' st'.M) vs (xs'.map a.eval) ∧ (∀ y, bad C.Bo ρ' st'.M y → bad C.Bo ρ st.M y)
  | [], [], st, ρ, K, r, hI, _, h => ⟨[], st, ρ, h, hI, .nil, fun _ h => h⟩
  | x :: xs, x' :: xs', st, ρ, K, r, hI, hf, h => by
    simp only [fitL, Bool.and_eq_true] at hf
    simp only [capsC, Option.bind_eq_some_iff] at h
    obtain ⟨s, hs, h⟩ := h
    have h1 := fitO_sound hI hf.1 hs
    split at h
    · rename_i t i off
      obtain ⟨hn, k⟩ := need_some h
      simp only [Bool.and_eq_true] at hn
      have e1 := Nat.eq_of_beq_eq_true hn.1
      have e2 := Nat.eq_of_beq_eq_true hn.2
      subst e1; subst e2
      rw [Option.bind_eq_some_iff] at k
      obtain ⟨b, hb, k⟩ := k
      split at k
      · rename_i cs
        rw [Option.bind_eq_some_iff] at k
        obtain ⟨vs, hvs, k⟩ := k
        obtain ⟨hI2, hrel⟩ := hI.cellize hb hvs
        obtain ⟨as, st', ρ', g1, g2, g3, g4⟩ := capsC_ok (P := P) hI2 hf.2 k
        refine ⟨.cell vs :: as, st', ρ', g1, g2, .cons _ _ _ _ ?_ g3, fun y hy => ?_⟩
        · generalize hv : a.eval x' = v1 at h1
          cases h1 with
          | ptr _ _ _ b1 o1 cp1 blk1 hm1 hr1 =>
          have := (hrel _ _ _ hr1).mono (Agree.refl _ _) (fun y _ hy => g4 y hy)
          simpa using this
        · have := g4 y hy
          rcases this with hh | ⟨u, blk, o', cp', q1, q2, q3⟩
          · exact .inl hh
          · exact bad_kill y (.inr ⟨u, blk, o', cp', q1, q2, q3⟩)
      · cases k
    · rename_i vs
      obtain ⟨as, st', ρ', g1, g2, g3, g4⟩ := capsC_ok (P := P) hI hf.2 h
      refine ⟨.cell vs :: as, st', ρ', g1, g2, .cons _ _ _ _ ?_ g3, g4⟩
      generalize hv : a.eval x' = v1 at h1
      cases h1 with
      | rptr _ us b o hb hB hr hs => exact (Rel.cell vs us b o hb hB hr hs).mono (Agree.refl _ _) fun y _ hy => g4 y hy
    · rename_i v
      obtain ⟨as, st', ρ', g1, g2, g3, g4⟩ := capsC_ok (P := P) hI hf.2 h
      refine ⟨v :: as, st', ρ', g1, g2, .cons _ _ _ _ ?_ g3, g4⟩
      generalize hv : a.eval x' = v1 at h1
      cases h1 with
      | imm _ _ h1 => exact h1.mono (Agree.refl _ _) fun y _ hy => g4 y hy
    · cases h
  | [], _ :: _, st, ρ, K, r, _, hf, _ => by cases hf
  | _ :: _, [], st, ρ, K, r, _, hf, _ => by cases hf

section ops
variable {P : Program} {C : Cx} {ρ : Rho} {st st' : St} {a : Act} {w : World} {oper : Oper} {s : SV} {R : Nat → List AV → Option Res}

theorem mkFnC_ok {f : Nat} {caps : List AO} (hI : Inv C ρ st a.tmps w) (h : step C.G R (.mkFnC f caps) st (fun s st' => some (s, st')) = some (s, st')) {ys : Array Operand}
    (ho : oper.op = .makeFunc (.func f) #[] ys) (hx : fitL caps ys.toList = true) : Good P C oper a w s st' := by
  simp only [step] at h
  obtain ⟨vs, st2, ρ', h, hI', hr, hbad⟩ := capsC_ok (P := P) hI hx h
  simp only [Option.some.injEq, Prod.mk.injEq] at h
  obtain ⟨rfl, rfl⟩ := h
  refine Good.same hI' (w' := w) (v := .func (.func f) #[] (ys.map a.eval)) ?_ rfl (.imm _ _ ?_)
  · rw [ex_makeFunc ho]
    exact run_v (by simp only [Instr.makeFunc, List.map_toArray, List.map]; rfl)
  · have := Rel.fn (w := w) (B := bad C.Bo ρ' st2.M) f vs (ys.toList.map a.eval) hr
    rwa [show (ys.toList.map a.eval).toArray = ys.map a.eval by apply Array.ext'; simp] at this

theorem loadC_ok {x : AO} {sz : Option Nat} {ty : Ty} (hI : Inv C ρ st a.tmps w) (h : step C.G R (.loadC x sz ty) st (fun s st' => some (s, st')) = some (s, st')) {t : TypeId} {x' : Operand}
    (ho : oper.op = .load t x') (hx : fitO x x' = true) (ht : fitsSz P t sz = true) : Good P C oper a w s st' := by
  simp only [step, Option.bind_eq_some_iff] at h
  obtain ⟨u, hu, h⟩ := h
  have h1 := fitO_sound hI hx hu
  generalize hv : a.eval x' = v1 at h1
  have fin : ∀ (p : Addr) (y : AV) (v : Value), v1 = .pointer (some p) → (loadVar t p).run P w = .ok v w → asTy ty y (fun v => some (SV.imm v, st)) = some (s, st') → Rel w (bad C.Bo ρ st.M) y v → Good P C oper a w s st' := by
    intro p y v e1 e2 e3 e4
    have e5 := asTy_some _ _ _ _ e3
    simp only [Option.some.injEq, Prod.mk.injEq] at e5
    obtain ⟨rfl, rfl⟩ := e5
    exact Good.same hI (w' := w) (by rw [ex_load ho, hv, e1]; exact run_v e2) rfl (.imm _ _ e4)
  split at h
  · rename_i cs
    cases h1 with
    | imm _ _ h1 =>
    cases h1 with
    | cell _ vs b o hb hB hr hs =>
    split at h
    · simp only [Option.bind_eq_some_iff] at h
      obtain ⟨y, hy, h⟩ := h
      obtain ⟨v, h2, h3⟩ := hr.get hy
      exact fin _ y v rfl (run_loadVar1 ht (by simpa using hs 0 v h2)) h h3
    · rename_i n
      obtain ⟨hn, h⟩ := need_some h
      have hn' := Nat.le_of_ble_eq_true hn
      have hl := hr.length
      exact fin _ _ _ rfl (run_loadVarN (vs := vs.take n) ht (by simp; omega) (fun j v hj => by rw [Addr.add_mk]; exact hs j v (by rw [List.getElem?_take] at hj; split at hj <;> simp_all))) h (.agg _ _ (hr.take n))
  · cases h

/-- Several values are handed away. -/
theorem giveSs_ok {C : Cx} {ρ : Rho} {tm : Array Value} {w : World} {env : List (Nat × SV)} : ∀ {ss : List SV} {M : List (Nat × Blk)} {p : List AV × List (Nat × Blk)} {us : List Value}, Inv C ρ ⟨env, M⟩ tm w → ss.length = us.length →
    (∀ (j : Nat) (s : SV) (u : Value), ss[j]? = some s → us[j]? = some u → RelS w (bad C.Bo ρ M) ρ M s u) → giveSs M ss = some p →
    Inv C ρ ⟨env, p.2⟩ tm w ∧ RelL w (bad C.Bo ρ p.2) p.1 us ∧ (∀ y, bad C.Bo ρ p.2 y → bad C.Bo ρ M y)
  | [], M, p, [], hI, _, _, h => by
    simp only [giveSs, Option.some.injEq] at h
    subst h
    exact ⟨hI, .nil, fun _ h => h⟩
  | [], M, p, _ :: _, _, hl, _, _ => by cases hl
  | _ :: _, M, p, [], _, hl, _, _ => by cases hl
  | s :: ss, M, p, u :: us, hI, hl, hr, h => by
    simp only [giveSs, Option.bind_eq_some_iff, Option.some.injEq] at h
    obtain ⟨q, hq, z, hz, rfl⟩ := h
    obtain ⟨g1, g2, g3, g4⟩ := give_ok hI (hr 0 s u rfl rfl) hq
    obtain ⟨k1, k2, k3⟩ := giveSs_ok (env := env) (M := q.2) g1 (by simpa using hl) (fun j s' u' h1 h2 => by
      exact ((hr (j + 1) s' u' (by simpa using h1) (by simpa using h2)).mono (Agree.refl _ _) (fun y _ hy => g4 y hy)).shape g3) hz
    exact ⟨k1, .cons _ _ _ _ (g2.mono (Agree.refl _ _) fun y _ hy => k3 y hy) k2, fun y hy => g4 y (k3 y hy)⟩

theorem svs_list {w : World} {B : Nat → Prop} {ρ : Rho} {M : List (Nat × Blk)} : ∀ (ss : List SV) (f : Nat → Option Value), (∀ (j : Nat) (s : SV), ss[j]? = some s → ∃ u, f j = some u ∧ RelS w B ρ M s u) →
    ∃ us : List Value, ss.length = us.length ∧ (∀ (j : Nat) (s : SV) (u : Value), ss[j]? = some s → us[j]? = some u → RelS w B ρ M s u) ∧ ∀ (j : Nat) (u : Value), us[j]? = some u → f j = some u
  | [], f, _ => ⟨[], rfl, by simp, by simp⟩
  | s :: ss, f, h => by
    obtain ⟨u, h1, h2⟩ := h 0 s rfl
    obtain ⟨us, k1, k2, k3⟩ := svs_list ss (fun j => f (j + 1)) fun j s' hj => h (j + 1) s' (by simpa using hj)
    refine ⟨u :: us, by simp [k1], fun j s' u' h3 h4 => ?_, fun j u' h4 => ?_⟩
    · cases j with
      | zero => simp at h3 h4; subst h3; subst h4; exact h2
      | succ j => exact k2 j s' u' (by simpa using h3) (by simpa using h4)
    · cases j with
      | zero => simp at h4; subst h4; exact h1
      | succ j => exact k3 j u' (by simpa using h4)

theorem loadG_ok {x : AO} {sz : Nat} {ty : Ty} (hI : Inv C ρ st a.tmps w) (h : step C.G R (.loadG x sz ty) st (fun s st' => some (s, st')) = some (s, st')) {t : TypeId} {x' : Operand}
    (ho : oper.op = .load t x') (hx : fitO x x' = true) (ht : fitsSz P t (some sz) = true) : Good P C oper a w s st' := by
  simp only [step, Option.bind_eq_some_iff] at h
  obtain ⟨u, hu, h⟩ := h
  have h1 := fitO_sound hI hx hu
  generalize hv : a.eval x' = v1 at h1
  split at h
  · rename_i t' i off
    cases h1 with
    | ptr _ _ _ b o cp blk hm hr =>
    rw [hm, Option.bind_some] at h
    split at h
    · rename_i cs
      obtain ⟨hn, k⟩ := need_some h
      simp only [Bool.and_eq_true] at hn
      have e1 := Nat.eq_of_beq_eq_true hn.1
      have e2 := Nat.le_of_ble_eq_true hn.2
      subst e1
      rw [Option.bind_eq_some_iff] at k
      obtain ⟨p, hp, k⟩ := k
      obtain ⟨b', o', cp', q1, ⟨cells, e, fr, k1, k2, k3, k4⟩, _⟩ := (hI.mem t' _ hm).resolve_right fun hh => hh.2
      rw [hr] at q1
      simp only [Option.some.injEq, Prod.mk.injEq] at q1
      obtain ⟨rfl, rfl, rfl⟩ := q1
      obtain ⟨us, g1, g2, g3⟩ := svs_list (w := w) (B := bad C.Bo ρ st.M) (ρ := ρ) (M := st.M) ((cs.drop off).take sz) (fun j => cells[o + (off + j)]?) fun j s hj => by
        obtain ⟨v, h2, h3⟩ := k4 _ _ (getElem?_drop_take hj)
        exact ⟨v, h2, h3⟩
      obtain ⟨m1, m2, m3⟩ := giveSs_ok (env := st.env) (M := st.M) hI g1 g2 hp
      have e5 := asTy_some _ _ _ _ k
      simp only [Option.some.injEq, Prod.mk.injEq] at e5
      obtain ⟨rfl, rfl⟩ := e5
      have hrun : (loadVar t ⟨b, o + 0 * (Blk.box cs).sz + off, none⟩).run P w = .ok (.agg us.toArray) w := by
        refine run_loadVarN (vs := us) ht ?_ (fun j v hj => ?_)
        · rw [← g1, List.length_take, List.length_drop]; omega
        · rw [Addr.add_mk, cell_of k1]
          have := g3 j v hj
          simpa [Blk.sz, Nat.add_assoc] using this
      refine Good.same (show Inv C ρ (st.withM p.2) a.tmps w from m1) (w' := w) (v := .agg us.toArray) ?_ rfl (.imm _ _ (.agg _ _ m2))
      rw [ex_load ho, hv]; exact run_v hrun
    · cases h
  · cases h

theorem run_len_map {P : Program} {w : World} {t k e : TypeId} (ht : P.underlying t = some (.map k e)) (u : TypeId) (b : Nat) {mes : Array MapEntry} {clock : Nat} (hb : w.heap[b]? = some (.map mes clock)) :
    (Builtin.len_ #[t] u #[.map (some b)]).run P w = .ok (.int .i64 mes.size) w := by
  show ((underlying t) >>= _ : Sem Value).run P w = _
  rw [run_bind_ok (run_underlying ht)]
  show ((getObj b) >>= _ : Sem Value).run P w = _
  rw [run_bind_ok (MapKept.run_getObj_map hb)]
  rfl

theorem lenM_ok {x : AO} (hI : Inv C ρ st a.tmps w) (h : step C.G R (.lenM x) st (fun s st' => some (s, st')) = some (s, st')) {x' : Operand} {t : TypeId}
    (ho : oper.op = .call ⟨.builtin .len, #[x'], #[t]⟩) (hx : fitO x x' = true) (ht : isMapT P t = true) : Good P C oper a w s st' := by
  simp only [step, Option.bind_eq_some_iff] at h
  obtain ⟨u, hu, h⟩ := h
  have h1 := fitO_sound hI hx hu
  generalize hv : a.eval x' = v1 at h1
  split at h
  · rename_i t'
    cases h1 with
    | mp _ b o cp blk hm hr =>
    rw [hm, Option.bind_some] at h
    split at h
    · rename_i es
      simp only [Option.some.injEq, Prod.mk.injEq] at h
      obtain ⟨rfl, rfl⟩ := h
      obtain ⟨b', o', cp', q1, ⟨_, mes, clock, k1, k2, _⟩, _⟩ := (hI.mem t' _ hm).resolve_right fun hh => hh.2
      rw [hr] at q1
      simp only [Option.some.injEq, Prod.mk.injEq] at q1
      obtain ⟨rfl, rfl, rfl⟩ := q1
      have hl : mes.size = es.length := by
        have := k2.length_eq
        simpa using this
      unfold isMapT at ht
      split at ht
      · rename_i kk e hT
        obtain ⟨cs, hcs⟩ := ex_builtin1 (ρ := a.eval) ho
        refine Good.same hI (w' := w) (v := .int .i64 (mes.size : Nat)) ?_ rfl (by rw [hl]; exact .imm _ _ (.int _ _))
        rw [hcs]
        show (do pure (.value (← Builtin.len_ #[t] oper.type #[a.eval x'])) : Sem Next).run P w = _
        rw [hv]
        exact run_v (run_len_map hT _ _ k1)
      · cases ht
    · cases h
  · cases h
end ops

def isBool (P : Program) (t : TypeId) : Bool := match P.underlying t with | some .bool => true | _ => false
def isSl (P : Program) (t : TypeId) : Bool := match P.underlying t with | some (.slice _) => true | _ => false
theorem isBool_ok {P : Program} {t : TypeId} (h : isBool P t = true) : P.underlying t = some .bool := by
  unfold isBool at h; split at h <;> first | assumption | cases h
theorem isSl_ok {P : Program} {t : TypeId} (h : isSl P t = true) : ∃ e, P.underlying t = some (.slice e) := by
  unfold isSl at h; split at h <;> first | exact ⟨_, by assumption⟩ | cases h

def fitCv (P : Program) (s d : TypeId) (x' : Operand) : AOp → Bool
  | .cvInt k x => fitO x x' && isInt P s && isIntK P d k
  | .cvId x => fitO x x' && isStr P s && isStr P d
  | .cvStr x => fitO x x' && isU8s P s && isStr P d
  | .cvBytes x => fitO x x' && isStr P s && isU8s P d
  | .cvBytesOwn _ x => fitO x x' && isStr P s && isU8s P d
  | .cvRune x => fitO x x' && isInt P s && isStr P d
  | .cvSame x => fitO x x' && Nat.beq s d && isU8s P s
  | _ => false

def fitBuiltin (P : Program) (b : Builtin) (ys : Array Operand) (ts : Array TypeId) : AOp → Bool
  | .len x str => (match b, ys.toList, ts.toList with | .len, [x'], [t] => fitO x x' && (bif str then isStr P t else isSl P t) | _, _, _ => false)
  | .lenM x => (match b, ys.toList, ts.toList with | .len, [x'], [t] => fitO x x' && isMapT P t | _, _, _ => false)
  | .capL x => (match b, ys.toList, ts.toList with | .cap, [x'], [t] => fitO x x' && isSl P t | _, _, _ => false)
  | .mn xs => (match b with | .min => fitL xs ys.toList | _ => false)
  | .mx xs => (match b with | .max => fitL xs ys.toList | _ => false)
  | .app _ x y sz _ by_ => (match b, ys.toList, ts.toList with | .append, [x', y'], [T, U] => fitO x x' && fitO y y' && appFits P T U sz by_ | _, _, _ => false)
  | .appNil _ y sz by_ => (match b, ys.toList, ts.toList with | .append, [.const (.slice none n c), y'], [T, U] => Nat.beq n 0 && Nat.beq c 0 && fitO y y' && appFits P T U sz by_ | _, _, _ => false)
  | _ => false

def fitCall (P : Program) (f : Nat) (ys : Array Operand) : AOp → Bool
  | .call g xs _ => Nat.beq g f && fitL xs ys.toList
  | .callOwn _ g xs _ _ _ => Nat.beq g f && fitL xs ys.toList
  | .callOwnT _ g xs _ _ => Nat.beq g f && fitL xs ys.toList
  | .callM _ g xs fl _ _ => Nat.beq g f && fitL xs ys.toList && Nat.beq fl.length ys.toList.length
  | _ => false

/-- Does an operation of ours stand for the program's? -/
def fits0 (P : Program) (o : AOp) (op : Op) : Bool :=
  match op with
  | .move x' => (match o with | .mv x => fitO x x' | .weak x => fitO x x' | .nilOwn _ _ => (match x' with | .const (.slice none n c) => Nat.beq n 0 && Nat.beq c 0 | _ => false) | _ => false)
  | .assign x' => (match o with | .mv x => fitO x x' | .weak x => fitO x x' | .nilOwn _ _ => (match x' with | .const (.slice none n c) => Nat.beq n 0 && Nat.beq c 0 | _ => false) | _ => false)
  | .pick c' x' y' => (match o with | .pick c x y => fitO c c' && fitO x x' && fitO y y' | _ => false)
  | .binOp b' t x' y' _ => (match o with | .bin b x y => decide (b = b') && fitO x x' && fitO y y' | .binB b x y => decide (b = b') && fitO x x' && fitO y y' && isBool P t | .binA ng x y ks => decide (b' = (bif ng then BinOp.neq else BinOp.eql)) && fitO x x' && fitO y y' && structOk P t ks | .isNil ng x iface => decide (b' = (bif ng then BinOp.neq else BinOp.eql)) && fitO x x' && nilOpd iface y' && nilTy P iface t | _ => false)
  | .unOp b' _ x' => (match o with | .un b x => decide (b = b') && fitO x x' | _ => false)
  | .convert s d x' => fitCv P s d x' o
  | .extract x' j' => (match o with | .extract x j => fitO x x' && Nat.beq j j' | _ => false)
  | .nilCheck x' => (match o with | .nilchk x => fitO x x' | _ => false)
  | .fieldAddr t x' f => (match o with | .faddr x off => fitO x x' && fieldOff P t f off | _ => false)
  | .field t x' f => (match o with | .fld x off sz => fitO x x' && fieldSz P t f off sz | _ => false)
  | .load t x' => (match o with | .load x sz _ => fitO x x' && fitsSz P t sz | .loadC x sz _ => fitO x x' && fitsSz P t sz | .loadG x sz _ => fitO x x' && fitsSz P t (some sz) | _ => false)
  | .store t x' y' => (match o with | .store x y sz => fitO x x' && fitO y y' && sizeIs P t sz | _ => false)
  | .indexAddr t x' i' => (match o with | .iaddr x i sz _ => fitO x x' && fitO i i' && sliceSz P t sz | _ => false)
  | .index t x' i' => (match o with | .index x i => fitO x x' && fitO i i' && isStr P t | _ => false)
  | .slice t x' lo' hi' m => (match m with
    | some _ => false
    | none => (match o with | .slice x lo hi sz => fitO x x' && fitsOpt lo lo' && fitsOpt hi hi' && sliceSz P t sz | .sliceS x lo hi => fitO x x' && fitsOpt lo lo' && fitsOpt hi hi' && isStr P t | .sliceL x hi => fitO x x' && fitsOpt none lo' && fitsOpt (some hi) hi' && sliceSz P t 1 | _ => false))
  | .build t qs => (match o with | .build zero parts => buildFits P t zero parts qs.toList | _ => false)
  | .buildSlice t n qs => (match o with | .bslice parts sz by_ => bsliceFits P t n parts qs.toList sz && (!by_ || Nat.beq sz 1) | .bsliceOwn _ parts sz _ by_ => bsliceFits P t n parts qs.toList sz && (!by_ || Nat.beq sz 1) && Nat.ble n 1000000 | .bsliceG z parts sz => gapFits P t n z parts qs.toList sz | _ => false)
  | .makeSlice T x' y' => (match o with | .mkOwn _ n sz zero by_ => fitO n x' && fitO n y' && mkFits P T sz zero by_ | .mkOwnC _ n c sz zero => fitO n x' && fitO c y' && mkFits P T sz zero false | _ => false)
  | .alloc e => (match o with | .alloc _ zero => zeroFits P e zero | _ => false)
  | .box e x' => (match o with | .box _ x _ => fitO x x' | _ => false)
  | .call c => (match c.callee with | .builtin b => fitBuiltin P b c.args c.argTypes o | .value g => (match o with | .callF x xs _ => fitO x g && fitL xs c.args.toList | o => (match g with | .func f => fitCall P f c.args o | _ => false)) | _ => false)
  | .range T x' => (match o with | .rangeS _ x => fitO x x' && isStr P T | .rangeM _ x => fitO x x' && isMapT P T | _ => false)
  | .entry x' => (match o with | .entM x _ _ => fitO x x' | _ => false)
  | .makeMap T r => (match o with | .mkMap _ => mkOk P T r | _ => false)
  | .insert T m' k' v' => (match o with | .insM kd m k v => fitO m m' && fitO k k' && fitO v v' && keyTy P T kd | _ => false)
  | .lookup T m' k' c => (match o with | .lookM kd m k z _ => c && fitO m m' && fitO k k' && keyTy P T kd && lookTy P T z | _ => false)
  | .next x' b => (match o with | .nextS x => b && fitO x x' | _ => false)
  | .makeFunc fn first caps => (match o with | .mkFn f cs => (match fn with | .func g => Nat.beq f g && Nat.beq first.toList.length 0 && fitL cs caps.toList | _ => false) | .mkFnC f cs => (match fn with | .func g => Nat.beq f g && Nat.beq first.toList.length 0 && fitL cs caps.toList | _ => false) | _ => false)
  | _ => false

/-- The tag that an operation makes anew. -/
def AOp.tag : AOp → Nat
  | .nilOwn t _ => t
  | .alloc t _ => t
  | .box t _ _ => t
  | .mkOwn t _ _ _ _ => t
  | .mkOwnC t _ _ _ _ => t
  | .bsliceOwn t _ _ _ _ => t
  | .app t _ _ _ _ _ => t
  | .appNil t _ _ _ => t
  | .callOwn t _ _ _ _ _ => t
  | .callOwnT t _ _ _ _ => t
  | .cvBytesOwn t _ => t
  | .rangeS t _ => t
  | .mkMap t => t
  | .rangeM t _ => t
  | .callM (some (t, _, _)) _ _ _ _ _ => t
  | _ => 0
def fits (P : Program) (o : AOp) (op : Op) : Bool := Nat.ble (o.tag + 1) 900000 && fits0 P o op

section ops
variable {P : Program} {C : Cx} {R : Nat → List AV → Option Res} {ρ : Rho} {st : St} {a : Act} {w : World} {oper : Oper} {s : SV} {st' : St}

theorem by_one {by_ : Bool} {sz : Nat} (h : (!by_ || Nat.beq sz 1) = true) (hb : by_ = true) : sz = 1 := by
  subst hb; exact Nat.eq_of_beq_eq_true (by simpa using h)

theorem fitCv_ok {s' d : TypeId} {x' : Operand} {o : AOp} (hI : Inv C ρ st a.tmps w) (h : step C.G R o st (fun s st' => some (s, st')) = some (s, st')) (ho : oper.op = .convert s' d x') (htg : o.tag < rT) (hf : fitCv P s' d x' o = true) : Good P C oper a w s st' := by
  unfold fitCv at hf
  split at hf <;> simp only [Bool.and_eq_true, Bool.false_eq_true] at hf
  · exact cvInt_ok hI h ho hf.1.1 hf.1.2 hf.2
  · exact cvId_ok hI h ho hf.1.1 hf.1.2 hf.2
  · exact cvStr_ok hI h ho hf.1.1 hf.1.2 hf.2
  · exact cvBytes_ok hI h ho hf.1.1 hf.1.2 hf.2
  · exact cvBytesOwn_ok hI htg h ho hf.1.1 hf.1.2 hf.2
  · exact cvRune_ok hI h ho hf.1.1 hf.1.2 hf.2
  · have e := Nat.eq_of_beq_eq_true hf.1.2
    subst e
    exact cvSame_ok hI h ho hf.1.1 hf.2

theorem fitBuiltin_ok {b : Builtin} {ys : Array Operand} {ts : Array TypeId} {o : AOp} (hI : Inv C ρ st a.tmps w) (h : step C.G R o st (fun s st' => some (s, st')) = some (s, st')) (ho : oper.op = .call ⟨.builtin b, ys, ts⟩) (htg : o.tag < rT) (hf : fitBuiltin P b ys ts o = true) : Good P C oper a w s st' := by
  unfold fitBuiltin at hf
  split at hf
  · rename_i x str
    split at hf
    · rename_i x' t h1 h2
      have e1 : ys = #[x'] := Array.ext' h1
      have e2 : ts = #[t] := Array.ext' h2
      subst e1; subst e2
      simp only [Bool.and_eq_true] at hf
      cases str
      · obtain ⟨e, he⟩ := isSl_ok hf.2
        exact len_ok hI h ho hf.1 he
      · exact lenS_ok hI h ho hf.1 hf.2
    · cases hf
  · split at hf
    · rename_i x' t h1 h2
      have e1 : ys = #[x'] := Array.ext' h1
      have e2 : ts = #[t] := Array.ext' h2
      subst e1; subst e2
      simp only [Bool.and_eq_true] at hf
      exact lenM_ok hI h ho hf.1 hf.2
    · cases hf
  · split at hf
    · rename_i x' t h1 h2
      have e1 : ys = #[x'] := Array.ext' h1
      have e2 : ts = #[t] := Array.ext' h2
      subst e1; subst e2
      simp only [Bool.and_eq_true] at hf
      obtain ⟨e, he⟩ := isSl_ok hf.2
      exact capL_ok hI h ho hf.1 he
    · cases hf
  · split at hf
    · exact mn_ok hI h ho hf
    · cases hf
  · split at hf
    · exact mx_ok hI h ho hf
    · cases hf
  · split at hf
    · rename_i x' y' T U h1 h2
      have e1 : ys = #[x', y'] := Array.ext' h1
      have e2 : ts = #[T, U] := Array.ext' h2
      subst e1; subst e2
      simp only [Bool.and_eq_true] at hf
      exact app_ok hI htg h ho hf.1.1 hf.1.2 hf.2
    · cases hf
  · split at hf
    · rename_i n c y' T U h1 h2
      have e1 : ys = #[.const (.slice none n c), y'] := Array.ext' h1
      have e2 : ts = #[T, U] := Array.ext' h2
      subst e1; subst e2
      simp only [Bool.and_eq_true] at hf
      exact appNil_ok hI htg h ho (by simp only [Bool.and_eq_true]; exact hf.1.1) hf.1.2 hf.2
    · cases hf
  · cases hf

theorem fitCall_ok {f : Nat} {ys : Array Operand} {ts : Array TypeId} {o : AOp} (hR : RSound P C.G R) (hI : Inv C ρ st a.tmps w) (h : step C.G R o st (fun s st' => some (s, st')) = some (s, st')) (ho : oper.op = .call ⟨.value (.func f), ys, ts⟩) (htg : o.tag < rT) (hf : fitCall P f ys o = true) : Good P C oper a w s st' := by
  unfold fitCall at hf
  split at hf <;> simp only [Bool.and_eq_true, Bool.false_eq_true] at hf
  · have e := Nat.eq_of_beq_eq_true hf.1
    subst e
    exact call_ok hR hI h ho hf.2
  · have e := Nat.eq_of_beq_eq_true hf.1
    subst e
    exact callOwn_ok hR hI htg h ho hf.2
  · have e := Nat.eq_of_beq_eq_true hf.1
    subst e
    exact callOwnT_ok hR hI htg h ho hf.2
  · have e := Nat.eq_of_beq_eq_true hf.1.1
    subst e
    refine callM_ok hR hI (fun t sz b e => ?_) h ho hf.1.2 (Nat.eq_of_beq_eq_true hf.2)
    subst e
    exact htg

/-- One operation is sound. -/
theorem step_ok {o : AOp} (hR : RSound P C.G R) (hI : Inv C ρ st a.tmps w) (h : step C.G R o st (fun s st' => some (s, st')) = some (s, st')) (hf : fits P o oper.op = true) : Good P C oper a w s st' := by
  unfold fits at hf
  rw [Bool.and_eq_true] at hf
  obtain ⟨htg, hf⟩ := hf
  replace htg : o.tag < rT := Nat.le_of_ble_eq_true htg
  generalize hop : oper.op = op at hf
  cases op <;> simp only [fits0, Bool.false_eq_true] at hf
  case move x' =>
    split at hf
    · exact mv_ok hI h (.inl hop) hf
    · exact weak_ok hI h (.inl hop) hf
    · split at hf
      · exact nilOwn_ok hI htg h (.inl hop) hf
      · cases hf
    · cases hf
  case assign x' =>
    split at hf
    · exact mv_ok hI h (.inr hop) hf
    · exact weak_ok hI h (.inr hop) hf
    · split at hf
      · exact nilOwn_ok hI htg h (.inr hop) hf
      · cases hf
    · cases hf
  case pick =>
    split at hf <;> simp only [Bool.and_eq_true, Bool.false_eq_true] at hf
    exact pick_ok hI h hop hf.1.1 hf.1.2 hf.2
  case binOp =>
    split at hf <;> simp only [Bool.and_eq_true, Bool.false_eq_true, decide_eq_true_eq] at hf
    · obtain ⟨⟨rfl, h1⟩, h2⟩ := hf; exact bin_ok hI h hop h1 h2
    · obtain ⟨⟨⟨rfl, h1⟩, h2⟩, h3⟩ := hf; exact binB_ok hI h hop h1 h2 (isBool_ok h3)
    · obtain ⟨⟨⟨rfl, h1⟩, h2⟩, h3⟩ := hf; exact binA_ok hI h hop h1 h2 h3
    · obtain ⟨⟨⟨rfl, h1⟩, h2⟩, h3⟩ := hf; exact isNil_ok hI h hop h1 h2 h3
  case unOp =>
    split at hf <;> simp only [Bool.and_eq_true, Bool.false_eq_true, decide_eq_true_eq] at hf
    obtain ⟨rfl, h1⟩ := hf; exact un_ok hI h hop h1
  case convert => exact fitCv_ok hI h hop htg hf
  case extract =>
    split at hf <;> simp only [Bool.and_eq_true, Bool.false_eq_true] at hf
    have e := Nat.eq_of_beq_eq_true hf.2
    subst e
    exact extract_ok hI h hop hf.1
  case nilCheck =>
    split at hf
    · exact nilchk_ok hI h hop hf
    · cases hf
  case fieldAddr =>
    split at hf <;> simp only [Bool.and_eq_true, Bool.false_eq_true] at hf
    exact faddr_ok hI h hop hf.1 hf.2
  case field =>
    split at hf <;> simp only [Bool.and_eq_true, Bool.false_eq_true] at hf
    exact fld_ok hI h hop hf.1 hf.2
  case load =>
    split at hf <;> simp only [Bool.and_eq_true, Bool.false_eq_true] at hf
    · exact load_ok hI h hop hf.1 hf.2
    · exact loadC_ok hI h hop hf.1 hf.2
    · exact loadG_ok hI h hop hf.1 hf.2
  case store =>
    split at hf <;> simp only [Bool.and_eq_true, Bool.false_eq_true] at hf
    exact store_ok hI h hop hf.1.1 hf.1.2 hf.2
  case indexAddr =>
    split at hf <;> simp only [Bool.and_eq_true, Bool.false_eq_true] at hf
    exact iaddr_ok hI h hop hf.1.1 hf.1.2 hf.2
  case index =>
    split at hf <;> simp only [Bool.and_eq_true, Bool.false_eq_true] at hf
    exact index_ok hI h hop hf.1.1 hf.1.2 hf.2
  case slice =>
    split at hf
    · cases hf
    · split at hf <;> simp only [Bool.and_eq_true, Bool.false_eq_true] at hf
      · exact slice_ok hI h hop hf.1.1.1 hf.1.1.2 hf.1.2 hf.2
      · exact sliceS_ok hI h hop hf.1.1.1 hf.1.1.2 hf.1.2 hf.2
      · exact sliceL_ok hI h hop hf.1.1.1 hf.1.1.2 hf.1.2 hf.2
  case build =>
    split at hf
    · exact build_ok hI h hop hf
    · cases hf
  case buildSlice =>
    split at hf
    · simp only [Bool.and_eq_true] at hf
      exact bslice_ok hI h hop hf.1 (by_one hf.2)
    · simp only [Bool.and_eq_true] at hf
      exact bsliceOwn_ok hI htg h hop hf.1.1 (by_one hf.1.2) hf.2
    · exact bsliceG_ok hI h hop hf
    · cases hf
  case makeSlice T x' y' =>
    split at hf <;> simp only [Bool.and_eq_true, Bool.false_eq_true] at hf
    · exact mkOwn_ok hI htg h hop hf.1.1 hf.1.2 hf.2
    · exact mkOwnC_ok hI htg h hop hf.1.1 hf.1.2 hf.2
  case alloc =>
    split at hf
    · exact alloc_ok hI htg h hop hf
    · cases hf
  case box =>
    split at hf
    · exact box_ok hI htg h hop hf
    · cases hf
  case call c =>
    obtain ⟨callee, ys, ts⟩ := c
    split at hf
    · rename_i b hb
      simp only at hb
      subst hb
      exact fitBuiltin_ok hI h hop htg hf
    · rename_i g hg
      simp only at hg
      subst hg
      split at hf
      · simp only [Bool.and_eq_true] at hf
        exact callF_ok hR hI h hop hf.1 hf.2
      · split at hf
        · exact fitCall_ok hR hI h hop htg hf
        · cases hf
    · cases hf

  case range =>
    split at hf <;> simp only [Bool.and_eq_true, Bool.false_eq_true] at hf
    · exact rangeS_ok hI htg h hop hf.1 hf.2
    · exact rangeM_ok hI htg h hop hf.1 hf.2
  case entry =>
    split at hf
    · exact entM_ok hI h hop hf
    · cases hf
  case makeMap T r =>
    split at hf
    · exact mkMap_ok hI htg h hop hf
    · cases hf
  case insert =>
    split at hf <;> simp only [Bool.and_eq_true, Bool.false_eq_true] at hf
    exact insM_ok hI h hop hf.1.1.1 hf.1.1.2 hf.1.2 hf.2
  case lookup =>
    split at hf <;> simp only [Bool.and_eq_true, Bool.false_eq_true] at hf
    obtain ⟨⟨⟨⟨rfl, h1⟩, h2⟩, h3⟩, h4⟩ := hf
    exact lookM_ok hI h hop h1 h2 h3 h4
  case next x' b =>
    split at hf <;> simp only [Bool.and_eq_true, Bool.false_eq_true] at hf
    obtain ⟨rfl, h1⟩ := hf
    exact nextS_ok hI h hop h1
  case makeFunc fn first caps =>
    split at hf
    · split at hf
      · simp only [Bool.and_eq_true] at hf
        have e1 := Nat.eq_of_beq_eq_true hf.1.1
        subst e1
        have e2 := Array.toList_eq_nil_iff.1 (List.length_eq_zero_iff.1 (Nat.eq_of_beq_eq_true hf.1.2))
        subst e2
        exact mkFn_ok hI h hop hf.2
      · cases hf
    · split at hf
      · simp only [Bool.and_eq_true] at hf
        have e1 := Nat.eq_of_beq_eq_true hf.1.1
        subst e1
        have e2 := Array.toList_eq_nil_iff.1 (List.length_eq_zero_iff.1 (Nat.eq_of_beq_eq_true hf.1.2))
        subst e2
        exact mkFnC_ok hI h hop hf.2
      · cases hf
    · cases hf

end ops

inductive AStep where
  | op (dst : Option Nat) (guard : Option (Nat × Bool)) (o : AOp)
  | split (g : Nat)

def memN (t : Nat) : List Nat → Bool
  | [] => false
  | a :: r => bif Nat.beq a t then true else memN t r
def SV.only (tags : List Nat) : SV → SV
  | .own t o l c => bif memN t tags then .own t o l c else .dead
  | .ptr t i o => bif memN t tags then .ptr t i o else .dead
  | .tupO t l r => bif memN t tags then .tupO t l r else .dead
  | .mp t => bif memN t tags then .mp t else .dead
  | s => s
def Blk.only (tags : List Nat) : Blk → Blk
  | .box cs => .box (cs.map (SV.only tags))
  | b => b
def pruneE (tags : List Nat) (env : List (Nat × SV)) : List Nat → List (Nat × SV)
  | [] => []
  | n :: r => match get env n with
    | some s => (n, s.only tags) :: pruneE tags env r
    | none => pruneE tags env r
def pruneM (tags : List Nat) (M : List (Nat × Blk)) : List Nat → List (Nat × Blk)
  | [] => []
  | n :: r => match get M n with
    | some s => (n, s.only tags) :: pruneM tags M r
    | none => pruneM tags M r
/-- What is looked at from here on. -/
def prune (live tags : List Nat) (st : St) : St := ⟨pruneE tags st.env live, pruneM tags st.M tags⟩

def putD (st : St) (dst : Option Nat) (s : SV) : St := match dst with | some d => st.put d s | none => st

/-- The outside of a state is worked out, so that nothing is worked out twice. -/
def forceSV {α : Type} (s : SV) (K : SV → Option α) : Option α :=
  match s with
  | .imm v => K (.imm v)
  | .own t o l c => K (.own t o l c)
  | .ptr t i o => K (.ptr t i o)
  | .rptr cs => K (.rptr cs)
  | .tupO t l r => K (.tupO t l r)
  | .mp t => K (.mp t)
  | .dead => K .dead
def forceL {α : Type} : List SV → (List SV → Option α) → Option α
  | [], K => K []
  | s :: r, K => forceSV s fun s => forceL r fun r => K (s :: r)
def forceB {α : Type} (b : Blk) (K : Blk → Option α) : Option α :=
  match b with
  | .bytes s f => K (.bytes s f)
  | .row z xs f => K (.row z xs f)
  | .box cs => forceL cs fun cs => K (.box cs)
  | .iter s p => K (.iter s p)
  | .map es => K (.map es)
  | .miter es cur => K (.miter es cur)
def forceE {α : Type} : List (Nat × SV) → (List (Nat × SV) → Option α) → Option α
  | [], K => K []
  | (n, s) :: r, K => forceSV s fun s => forceE r fun r => K ((n, s) :: r)
def forceM {α : Type} : List (Nat × Blk) → (List (Nat × Blk) → Option α) → Option α
  | [], K => K []
  | (n, b) :: r, K => forceB b fun b => forceM r fun r => K ((n, b) :: r)
def norm {α : Type} (st : St) (K : St → Option α) : Option α := forceE st.env fun env => forceM st.M fun M => K ⟨env, M⟩
theorem forceSV_eq {α : Type} (s : SV) (K : SV → Option α) : forceSV s K = K s := by cases s <;> rfl
theorem forceL_eq {α : Type} : ∀ (l : List SV) (K : List SV → Option α), forceL l K = K l
  | [], K => rfl
  | s :: r, K => by simp only [forceL, forceSV_eq]; exact forceL_eq r _
theorem forceB_eq {α : Type} (b : Blk) (K : Blk → Option α) : forceB b K = K b := by
  cases b <;> first | rfl | exact forceL_eq _ _
theorem forceE_eq {α : Type} : ∀ (l : List (Nat × SV)) (K : List (Nat × SV) → Option α), forceE l K = K l
  | [], K => rfl
  | (n, s) :: r, K => by simp only [forceE, forceSV_eq]; exact forceE_eq r _
theorem forceM_eq {α : Type} : ∀ (l : List (Nat × Blk)) (K : List (Nat × Blk) → Option α), forceM l K = K l
  | [], K => rfl
  | (n, s) :: r, K => by simp only [forceM, forceB_eq]; exact forceM_eq r _
theorem norm_eq {α : Type} (st : St) (K : St → Option α) : norm st K = K st := by simp only [norm, forceE_eq, forceM_eq]
def plain : AOp → Bool
  | .nilOwn _ _ => false
  | .alloc _ _ => false
  | .box _ _ _ => false
  | .mkOwn _ _ _ _ _ => false
  | .mkOwnC _ _ _ _ _ => false
  | .bsliceOwn _ _ _ _ _ => false
  | .app _ _ _ _ _ _ => false
  | .appNil _ _ _ _ => false
  | .callOwn _ _ _ _ _ _ => false
  | .callOwnT _ _ _ _ _ => false
  | .cvBytesOwn _ _ => false
  | .store _ _ _ => false
  | .rangeS _ _ => false
  | .nextS _ => false
  | .callM _ _ _ _ _ _ => false
  | .mkMap _ => false
  | .insM _ _ _ _ => false
  | .rangeM _ _ => false
  | .mkFnC _ _ => false
  | .loadG _ _ _ => false
  | _ => true
def after {α : Type} (o : AOp) (st : St) (dst : Option Nat) (s : SV) (K : St → Option α) : Option α :=
  bif plain o then forceSV s fun s => K (putD st dst s) else norm (putD st dst s) K
theorem after_eq {α : Type} (o : AOp) (st : St) (dst : Option Nat) (s : SV) (K : St → Option α) : after o st dst s K = K (putD st dst s) := by
  unfold after; cases plain o
  · exact norm_eq _ _
  · exact forceSV_eq s fun s => K (putD st dst s)

/-- Is an operation with this guard carried out? -/
def wantsNow (s : Option SV) (want : Bool) : Option Bool :=
  match s with
  | some (.imm (.bool b)) => some (bif b then want else !want)
  | some (.imm (.tup [])) => some false
  | _ => none

/-- Operations one behind the other. -/
def evOps {α : Type} (G : List (Nat × List AV)) (R : Nat → List AV → Option Res) : List AStep → St → (St → Option α) → Option α
  | [], st, K => K st
  | .split g :: r, st, K => match get st.env g with
    | some (.imm (.bool b)) => bif b then evOps G R r (st.put g (.imm (.bool true))) K else evOps G R r (st.put g (.imm (.bool false))) K
    | some (.imm (.tup [])) => evOps G R r st K
    | _ => none
  | .op dst none o :: r, st, K => step G R o st fun s st' => after o st' dst s fun st'' => evOps G R r st'' K
  | .op dst (some (g, want)) o :: r, st, K => match wantsNow (get st.env g) want with
    | some true => step G R o st fun s st' => after o st' dst s fun st'' => evOps G R r st'' K
    | some false => evOps G R r (putD st dst (.imm (.tup []))) K
    | none => none

def fitDst (nt : Nat) : Option Nat → Option Nat → Bool
  | none, none => true
  | some d, some d' => Nat.beq d d' && Nat.ble (d + 1) nt
  | _, _ => false
def fitGuard (ops : Array Oper) : Option (Nat × Bool) → Option (Nat × Bool) → Bool
  | none, none => true
  | some (g, want), some (j, want') => want == want' && (match ops[j]? with | some o => (match o.dst with | some d => Nat.beq d g | none => false) | none => false)
  | _, _ => false
def fitSteps (P : Program) (nt : Nat) (ops : Array Oper) : List AStep → List Oper → Bool
  | [], [] => true
  | .split _ :: r, os => fitSteps P nt ops r os
  | .op dst g o :: r, oper :: os => fitDst nt dst oper.dst && fitGuard ops g oper.guard && fits P o oper.op && fitSteps P nt ops r os
  | _, _ => false

theorem get_pruneE {tags : List Nat} {env : List (Nat × SV)} : ∀ {live : List Nat} {n : Nat} {s : SV}, get (pruneE tags env live) n = some s → ∃ s', get env n = some s' ∧ s = s'.only tags
  | [], n, s, h => by simp [pruneE, get] at h
  | m :: r, n, s, h => by
    simp only [pruneE] at h
    split at h
    · rename_i s' hs'
      rw [get_cons] at h
      by_cases hnm : n = m
      · subst hnm; simp at h; exact ⟨s', hs', h.symm⟩
      · simp only [hnm, if_false] at h; exact get_pruneE h
    · exact get_pruneE h
theorem get_pruneM {tags : List Nat} {M : List (Nat × Blk)} : ∀ {live : List Nat} {n : Nat} {s : Blk}, get (pruneM tags M live) n = some s → ∃ s', get M n = some s' ∧ s = s'.only tags
  | [], n, s, h => by simp [pruneM, get] at h
  | m :: r, n, s, h => by
    simp only [pruneM] at h
    split at h
    · rename_i s' hs'
      rw [get_cons] at h
      by_cases hnm : n = m
      · subst hnm; simp at h; exact ⟨s', hs', h.symm⟩
      · simp only [hnm, if_false] at h; exact get_pruneM h
    · exact get_pruneM h
theorem get_pruneM' {tags : List Nat} {M : List (Nat × Blk)} : ∀ {live : List Nat} {n : Nat} {s : Blk}, memN n live = true → get M n = some s → get (pruneM tags M live) n = some (s.only tags)
  | [], n, s, h, _ => by simp [memN] at h
  | m :: r, n, s, h, hs => by
    simp only [pruneM]
    by_cases hnm : m = n
    · subst hnm; rw [hs]; simp [get]
    · have hb : Nat.beq m n = false := by cases hh : Nat.beq m n; rfl; exact absurd (Nat.eq_of_beq_eq_true hh) hnm
      simp only [memN, hb, cond_false] at h
      split
      · rw [get_cons]; rw [if_neg (fun e => hnm e.symm)]; exact get_pruneM' h hs
      · exact get_pruneM' h hs

theorem fz_only (tags : List Nat) (b : Blk) : (b.only tags).fz = b.fz := by cases b <;> rfl
theorem sz_only (tags : List Nat) (b : Blk) : (b.only tags).sz = b.sz := by cases b <;> rfl
theorem count_only (tags : List Nat) (b : Blk) : (b.only tags).count = b.count := by cases b <;> rfl
theorem void_only {tags : List Nat} {b : Blk} (h : b.void) : (b.only tags).void := by cases b <;> exact h

theorem bad_prune {Bo : Nat → Prop} {ρ : Rho} {tags live : List Nat} {M : List (Nat × Blk)} (x : Nat) (hx : bad Bo ρ (pruneM tags M live) x) : bad Bo ρ M x := by
  rcases hx with hx | ⟨u, bu, ou, cu, g1, g2, g3⟩
  · exact .inl hx
  · obtain ⟨b', h1, rfl⟩ := get_pruneM g1
    exact .inr ⟨u, b', ou, cu, h1, by rw [fz_only] at g2; exact g2, g3⟩

theorem RelS.only {w : World} {B B' : Nat → Prop} {ρ : Rho} {M : List (Nat × Blk)} {tags : List Nat} {s : SV} {v : Value} (h : RelS w B ρ M s v) (hB : ∀ b, b < w.heap.size → B' b → B b) : RelS w B' ρ (pruneM tags M tags) (s.only tags) v := by
  cases h with
  | imm v x h => exact .imm _ _ (h.mono (Agree.refl _ _) hB)
  | own u off len cap b o cp c blk hm' hr hc hl hn =>
    simp only [SV.only]
    cases hu : memN u tags
    · exact .dead _
    · have := RelS.own (w := w) (B := B') (ρ := ρ) (M := pruneM tags M tags) u off len cap b o cp c (blk.only tags) (get_pruneM' hu hm') hr hc hl (by rw [count_only]; exact hn)
      rwa [sz_only] at this
  | ownNil u cap blk hm' hr =>
    simp only [SV.only]
    cases hu : memN u tags
    · exact .dead _
    · exact .ownNil u cap _ (get_pruneM' hu hm') hr
  | ptr u i off b o cp blk hm' hr =>
    simp only [SV.only]
    cases hu : memN u tags
    · exact .dead _
    · have := RelS.ptr (w := w) (B := B') (ρ := ρ) (M := pruneM tags M tags) u i off b o cp (blk.only tags) (get_pruneM' hu hm') hr
      rwa [sz_only] at this
  | rptr cs vs b o hb hn hr hs => exact .rptr cs vs b o hb (fun h => hn (hB b hb h)) (hr.mono (Agree.refl _ _) hB) hs
  | tupO u len rest vs b o cp c blk hm' hr hc hl hn hv =>
    simp only [SV.only]
    cases hu : memN u tags
    · exact .dead _
    · exact .tupO u len rest vs b o cp c (blk.only tags) (get_pruneM' hu hm') hr hc hl (by rw [count_only]; exact hn) (hv.mono (Agree.refl _ _) hB)
  | tupNil u rest vs blk hm' hr hv =>
    simp only [SV.only]
    cases hu : memN u tags
    · exact .dead _
    · exact .tupNil u rest vs (blk.only tags) (get_pruneM' hu hm') hr (hv.mono (Agree.refl _ _) hB)
  | mp u b o cp blk hm' hr =>
    simp only [SV.only]
    cases hu : memN u tags
    · exact .dead _
    · exact .mp u b o cp (blk.only tags) (get_pruneM' hu hm') hr
  | dead v => exact .dead v

theorem RelBlk.only {w : World} {B B' : Nat → Prop} {ρ : Rho} {M : List (Nat × Blk)} {tags : List Nat} {b o cp : Nat} {blk : Blk} (h : RelBlk w B ρ M b o cp blk) (hB : ∀ b, b < w.heap.size → B' b → B b) : RelBlk w B' ρ (pruneM tags M tags) b o cp (blk.only tags) := by
  cases blk with
  | bytes s f => exact h
  | row sz xs f => obtain ⟨cells, e, fr, vs, h1, h2, h3, h4, h5, h51, h6, h7⟩ := h; exact ⟨cells, e, fr, vs, h1, h2, h3, h4, h5, h51, h6.mono (Agree.refl _ _) hB, h7⟩
  | box cs =>
    obtain ⟨cells, e, fr, h1, h2, h3, h4⟩ := h
    refine ⟨cells, e, fr, h1, h2, by simpa using h3, fun j s hj => ?_⟩
    simp only [List.getElem?_map, Option.map_eq_some_iff] at hj
    obtain ⟨s', hs', rfl⟩ := hj
    obtain ⟨v, hv, hs⟩ := h4 j s' hs'
    exact ⟨v, hv, hs.only hB⟩
  | iter s pos => exact h
  | map es => exact h
  | miter es cur =>
    obtain ⟨h0, bm, since, seen, c0, mes, clock, h1, h2, h3, h4⟩ := h
    exact ⟨h0, bm, since, seen, c0, mes, clock, h1, h2, fun hh => h3 (hB bm h2 hh), h4⟩

theorem Inv.prune {C : Cx} {ρ : Rho} {st : St} {tm : Array Value} {w : World} (h : Inv C ρ st tm w) (live tags : List Nat) : Inv C ρ (prune live tags st) tm w where
  ext := h.ext
  env := fun n s hn => by
    obtain ⟨s', hs', rfl⟩ := get_pruneE hn
    exact ⟨(h.env n s' hs').1, (h.env n s' hs').2.only fun b _ hb => bad_prune b hb⟩
  mem := fun u blk hu => by
    obtain ⟨b', hb', rfl⟩ := get_pruneM hu
    rcases h.mem u b' hb' with ⟨b, o, cp, h1, h2, h3, h4⟩ | ⟨h1, h2⟩
    · exact .inl ⟨b, o, cp, h1, h2.only fun b _ hb => bad_prune b hb, h3, fun hf => h4 (by rw [fz_only] at hf; exact hf)⟩
    · exact .inr ⟨h1, void_only h2⟩
  inj := fun u u' blk blk' b1 o1 c1 b2 o2 c2 h1 h2 h3 h4 h5 h6 => by
    obtain ⟨x1, g1, rfl⟩ := get_pruneM h1
    obtain ⟨x2, g2, rfl⟩ := get_pruneM h2
    exact h.inj u u' x1 x2 b1 o1 c1 b2 o2 c2 g1 g2 (by rw [fz_only] at h3; exact h3) h4 h5 h6
  glob := h.glob.mono (Agree.refl _ _) fun b _ hb => bad_prune b hb
  bo := h.bo
  pin := fun u blk hu hg => by
    obtain ⟨b', hb', rfl⟩ := get_pruneM hg
    exact h.pin u b' hu hb'

section code
variable {P : Program} {C : Cx} {R : Nat → List AV → Option Res}

theorem Inv.putD {ρ : Rho} {st : St} {a : Act} {w : World} {nt : Nat} {dst dst' : Option Nat} {s : SV} {v : Value} (h : Inv C ρ st a.tmps w) (hd : fitDst nt dst dst' = true) (hn : a.tmps.size = nt) (hs : RelS w (bad C.Bo ρ st.M) ρ st.M s v) :
    Inv C ρ (putD st dst s) (a.put dst' v).tmps w ∧ (a.put dst' v).tmps.size = nt ∧ (a.put dst' v).defers = a.defers := by
  unfold fitDst at hd
  split at hd
  · exact ⟨h, hn, rfl⟩
  · simp only [Bool.and_eq_true] at hd
    have e1 := Nat.eq_of_beq_eq_true hd.1
    have e2 := Nat.le_of_ble_eq_true hd.2
    subst e1
    exact ⟨h.put (by omega) hs, by simp [Act.put, hn], rfl⟩
  · cases hd

theorem guard_ok {ρ : Rho} {st : St} {a : Act} {w : World} (h : Inv C ρ st a.tmps w) {ops : Array Oper} {g : Nat} {want : Bool} {og : Option (Nat × Bool)} (hg : fitGuard ops (some (g, want)) og = true) {b : Bool} (hb : wantsNow (get st.env g) want = some b) {o : Oper} (ho : o.guard = og) :
    Region.wanted o (yielded ops a.tmps) = b := by
  cases og with
  | none => simp [fitGuard] at hg
  | some p =>
    obtain ⟨j, want2⟩ := p
    simp only [fitGuard, Bool.and_eq_true, beq_iff_eq] at hg
    obtain ⟨rfl, hg⟩ := hg
    split at hg
    · rename_i oj hoj
      split at hg
      · rename_i d hd
        have e := Nat.eq_of_beq_eq_true hg
        subst e
        unfold wantsNow at hb
        split at hb
        · rename_i bb hbb
          obtain ⟨h2, h3⟩ := h.env d _ hbb
          cases h3 with
          | imm _ _ h3 =>
          generalize hv : a.tmps.getD d undef = v at h3
          cases h3
          unfold Region.wanted
          rw [ho]
          have : a.tmps[d]? = some (.bool bb) := by
            rw [Array.getD_eq_getD_getElem?, Array.getElem?_eq_getElem h2, Option.getD_some] at hv
            rw [Array.getElem?_eq_getElem h2, hv]
          simp only [Option.some.injEq] at hb
          subst hb
          simp only [yielded, hoj, hd, this, Option.bind_some]
          cases bb <;> cases want <;> rfl
        · rename_i hbb
          obtain ⟨h2, h3⟩ := h.env d _ hbb
          cases h3 with
          | imm _ _ h3 =>
          generalize hv : a.tmps.getD d undef = v at h3
          cases h3 with
          | tup _ vs h3 =>
          cases h3
          unfold Region.wanted
          rw [ho]
          have : a.tmps[d]? = some (.tuple [].toArray) := by
            rw [Array.getD_eq_getD_getElem?, Array.getElem?_eq_getElem h2, Option.getD_some] at hv
            rw [Array.getElem?_eq_getElem h2, hv]
          simp only [Option.some.injEq] at hb
          subst hb
          simp only [yielded, hoj, hd, this, Option.bind_some]
          rfl
        · cases hb
      · cases hg
    · cases hg

theorem skip_rel {w : World} {B : Nat → Prop} {ρ : Rho} {M : List (Nat × Blk)} : RelS w B ρ M (.imm (.tup [])) undef := .imm _ _ (.tup [] [] .nil)

theorem evOps_ok {α : Type} (hR : RSound P C.G R) {nt : Nat} {ops : Array Oper} {Q : Exit → Act → World → Prop} {K : St → Option α} {r : α} : ∀ {l : List AStep} {os : List Oper} {ρ : Rho} {st : St} {a : Act} {w : World}, fitSteps P nt ops l os = true → Inv C ρ st a.tmps w → a.tmps.size = nt →
    evOps C.G R l st K = some r → (∀ ρ' st' a' w', K st' = some r → Inv C ρ' st' a'.tmps w' → a'.tmps.size = nt → a'.defers = a.defers → Q .normal a' w') → wpList P ops Q os a w
  | [], [], ρ, st, a, w, _, hI, hn, h, hk => hk ρ st a w h hI hn rfl
  | .split g :: l, os, ρ, st, a, w, hf, hI, hn, h, hk => by
    simp only [evOps, after_eq] at h
    split at h
    · rename_i b hb
      obtain ⟨h2, h3⟩ := hI.env g _ hb
      have hI' : Inv C ρ (st.put g (.imm (.bool b))) a.tmps w := by
        have := hI.put (d := g) (s := .imm (.bool b)) (v := a.tmps.getD g undef) h2 h3
        have he : a.tmps.setIfInBounds g (a.tmps.getD g undef) = a.tmps := by
          apply Array.ext_getElem?
          intro k
          rw [Array.getElem?_setIfInBounds]
          by_cases hk : g = k
          · subst hk; rw [if_pos rfl, if_pos h2, Array.getD_eq_getD_getElem?, Array.getElem?_eq_getElem h2]; rfl
          · simp [hk]
        rwa [he] at this
      cases b
      · exact evOps_ok hR (by simpa [fitSteps] using hf) hI' hn h hk
      · exact evOps_ok hR (by simpa [fitSteps] using hf) hI' hn h hk
    · exact evOps_ok hR (by simpa [fitSteps] using hf) hI hn h hk
    · cases h
  | .op dst none o :: l, oper :: os, ρ, st, a, w, hf, hI, hn, h, hk => by
    simp only [fitSteps, Bool.and_eq_true] at hf
    obtain ⟨⟨⟨hd, hg⟩, hfo⟩, hfl⟩ := hf
    simp only [evOps, after_eq] at h
    rw [step_par, Option.bind_eq_some_iff] at h
    obtain ⟨⟨s, st'⟩, h1, h⟩ := h
    have hgo : oper.guard = none := by
      cases hh : oper.guard with
      | none => rfl
      | some x => rw [hh] at hg; simp [fitGuard] at hg
    have hw : Region.wanted oper (yielded ops a.tmps) = true := by simp [Region.wanted, hgo]
    simp only [wpList, hw, if_true]
    refine .inl ((step_ok hR hI h1 hfo).wp fun v w' ⟨ρ', g1, g2⟩ => ?_)
    obtain ⟨k1, k2, k3⟩ := g1.putD hd hn g2
    exact evOps_ok hR hfl k1 k2 h fun ρ2 st2 a2 w2 m1 m2 m3 m4 => hk ρ2 st2 a2 w2 m1 m2 m3 (m4.trans k3)
  | .op dst (some (g, want)) o :: l, oper :: os, ρ, st, a, w, hf, hI, hn, h, hk => by
    simp only [fitSteps, Bool.and_eq_true] at hf
    obtain ⟨⟨⟨hd, hg⟩, hfo⟩, hfl⟩ := hf
    simp only [evOps, after_eq] at h
    split at h
    · rename_i hb
      have hw := guard_ok hI hg hb (o := oper) rfl
      rw [step_par, Option.bind_eq_some_iff] at h
      obtain ⟨⟨s, st'⟩, h1, h⟩ := h
      simp only [wpList, hw, if_true]
      refine .inl ((step_ok hR hI h1 hfo).wp fun v w' ⟨ρ', g1, g2⟩ => ?_)
      obtain ⟨k1, k2, k3⟩ := g1.putD hd hn g2
      exact evOps_ok hR hfl k1 k2 h fun ρ2 st2 a2 w2 m1 m2 m3 m4 => hk ρ2 st2 a2 w2 m1 m2 m3 (m4.trans k3)
    · rename_i hb
      have hw := guard_ok hI hg hb (o := oper) rfl
      simp only [wpList, hw, Bool.false_eq_true, if_false]
      obtain ⟨k1, k2, k3⟩ := hI.putD (s := .imm (.tup [])) (v := undef) hd hn skip_rel
      exact evOps_ok hR hfl k1 k2 h fun ρ2 st2 a2 w2 m1 m2 m3 m4 => hk ρ2 st2 a2 w2 m1 m2 m3 (m4.trans k3)
    · cases h
  | [], _ :: _, ρ, st, a, w, hf, _, _, _, _ => by simp [fitSteps] at hf
  | .op _ _ _ :: _, [], ρ, st, a, w, hf, _, _, _, _ => by simp [fitSteps] at hf

theorem Rel.bool_eq {w : World} {B : Nat → Prop} {b : Bool} {v : Value} (h : Rel w B (.bool b) v) : v = .bool b := by cases h; rfl

end code

end Go.Proofs.YthdefengmkcacaaDoor.Vf
