/- A verified evaluator of the model's code, part 3: what it answers is what the machine comes to. No condition. -/
import Derived.Test.YthdefengmkcacaaDoorVf2
namespace Go.Proofs.YthdefengmkcacaaDoor.Vf
set_option linter.unusedVariables false
set_option linter.unusedSimpArgs false

def AO.reads : AO → List Nat
  | .t n => [n]
  | _ => []
def readsO : Option AO → List Nat
  | some x => x.reads
  | none => []
def readsL (xs : List AO) : List Nat := xs.flatMap AO.reads

def AOp.reads : AOp → List Nat
  | .mv x => x.reads
  | .weak x => x.reads
  | .capL x => x.reads
  | .sliceL x y => x.reads ++ y.reads
  | .binA _ x y _ => x.reads ++ y.reads
  | .nilOwn _ _ => []
  | .pick c a b => c.reads ++ a.reads ++ b.reads
  | .bin _ x y => x.reads ++ y.reads
  | .binB _ x y => x.reads ++ y.reads
  | .un _ x => x.reads
  | .cvInt _ x => x.reads
  | .cvId x => x.reads
  | .cvStr x => x.reads
  | .cvBytes x => x.reads
  | .cvBytesOwn _ x => x.reads
  | .cvRune x => x.reads
  | .cvSame x => x.reads
  | .extract x _ => x.reads
  | .nilchk x => x.reads
  | .faddr x _ => x.reads
  | .fld x _ _ => x.reads
  | .load x _ _ => x.reads
  | .store x y _ => x.reads ++ y.reads
  | .iaddr x i _ _ => x.reads ++ i.reads
  | .index x i => x.reads ++ i.reads
  | .slice x lo hi _ => x.reads ++ readsO lo ++ readsO hi
  | .sliceS x lo hi => x.reads ++ readsO lo ++ readsO hi
  | .build _ parts => readsL (parts.map fun p => p.2.2)
  | .bslice parts _ _ => readsL parts
  | .bsliceOwn _ parts _ _ _ => readsL parts
  | .alloc _ _ => []
  | .box _ x _ => x.reads
  | .mkOwn _ n _ _ _ => n.reads
  | .len x _ => x.reads
  | .mn xs => readsL xs
  | .mx xs => readsL xs
  | .app _ x y _ _ _ => x.reads ++ y.reads
  | .appNil _ y _ _ => y.reads
  | .call _ xs _ => readsL xs
  | .callOwn _ _ xs _ _ _ => readsL xs
  | .callOwnT _ _ xs _ _ => readsL xs
  | .mkMap _ => []
  | .insM _ x k v => x.reads ++ k.reads ++ v.reads
  | .lookM _ x k _ _ => x.reads ++ k.reads
  | .rangeM _ x => x.reads
  | .entM x _ _ => x.reads
  | .loadC x _ _ => x.reads
  | .loadG x _ _ => x.reads
  | .mkFnC _ xs => readsL xs
  | .lenM x => x.reads
  | .mkOwnC _ n c _ _ => n.reads ++ c.reads
  | .rangeS _ x => x.reads
  | .nextS x => x.reads
  | .mkFn _ xs => readsL xs
  | .callF x xs _ => x.reads ++ readsL xs
  | .callM _ _ xs _ _ _ => readsL xs
  | .bsliceG _ ps _ => readsL (ps.filterMap id)
  | .isNil _ x _ => x.reads

def immO (G : List (Nat × List AV)) (st : St) (x : AO) : Bool := match x.ev G st with | some (.imm _) => true | _ => false
def immsL (G : List (Nat × List AV)) (st : St) : List AO → Bool
  | [] => true
  | x :: xs => immO G st x && immsL G st xs

/-- Does it leave the memory, as we know it, alone? -/
def quietNow (G : List (Nat × List AV)) (st : St) : AOp → Bool
  | .mv _ => true
  | .weak _ => true
  | .capL _ => true
  | .sliceL _ _ => true
  | .binA _ _ _ _ => true
  | .pick _ _ _ => true
  | .bin _ _ _ => true
  | .binB _ _ _ => true
  | .un _ _ => true
  | .cvInt _ _ => true
  | .cvId _ => true
  | .cvStr _ => true
  | .cvBytes _ => true
  | .cvRune _ => true
  | .cvSame _ => true
  | .extract _ _ => true
  | .nilchk _ => true
  | .faddr _ _ => true
  | .fld _ _ _ => true
  | .load _ _ _ => true
  | .iaddr _ _ _ _ => true
  | .index _ _ => true
  | .slice x _ _ _ => immO G st x
  | .sliceS _ _ _ => true
  | .build _ parts => immsL G st (parts.map fun p => p.2.2)
  | .bslice parts _ _ => immsL G st parts
  | .len _ _ => true
  | .mn _ => true
  | .mx _ => true
  | .call _ xs _ => immsL G st xs
  | .mkFn _ xs => immsL G st xs
  | .callF _ xs _ => immsL G st xs
  | .bsliceG _ _ _ => true
  | .isNil _ _ _ => true
  | .loadC _ _ _ => true
  | _ => false

section
variable {G : List (Nat × List AV)} {st st2 : St}
theorem ev_reads {x : AO} (h : ∀ n ∈ x.reads, get st2.env n = get st.env n) : x.ev G st2 = x.ev G st := by
  cases x <;> simp only [AO.ev]
  exact h _ (by simp [AO.reads])
theorem optEv_reads {x : Option AO} (h : ∀ n ∈ readsO x, get st2.env n = get st.env n) : optEv G st2 x = optEv G st x := by
  cases x <;> simp only [optEv]
  rw [ev_reads h]
theorem immL_reads : ∀ {xs : List AO}, (∀ n ∈ readsL xs, get st2.env n = get st.env n) → immL G st2 xs = immL G st xs
  | [], _ => rfl
  | x :: xs, h => by
    simp only [immL]
    rw [ev_reads (x := x) fun n hn => h n (by simp [readsL] at hn ⊢; exact .inl hn), immL_reads (xs := xs) fun n hn => h n (by simp [readsL] at hn ⊢; exact .inr hn)]
theorem immO_some {x : AO} (h : immO G st x = true) : ∃ v, x.ev G st = some (.imm v) := by
  unfold immO at h; split at h
  · exact ⟨_, by assumption⟩
  · cases h
theorem giveL_imm {α : Type} : ∀ {xs : List AO} {M M0 : List (Nat × Blk)} {env : List (Nat × SV)} {K : List AV → List (Nat × Blk) → Option α}, immsL G ⟨env, M0⟩ xs = true → giveL G env M xs K = (immL G ⟨env, M0⟩ xs).bind fun vs => K vs M
  | [], M, M0, env, K, _ => rfl
  | x :: xs, M, M0, env, K, h => by
    simp only [immsL, Bool.and_eq_true] at h
    obtain ⟨v, hv⟩ := immO_some h.1
    have hv' : x.ev G ⟨env, M⟩ = some (.imm v) := by rw [← hv]; cases x <;> rfl
    simp only [giveL, immL, hv, hv', Option.bind_some, give]
    rw [giveL_imm (M0 := M0) h.2]
    cases immL G ⟨env, M0⟩ xs <;> rfl
theorem immsL_reads : ∀ {xs : List AO}, (∀ n ∈ readsL xs, get st2.env n = get st.env n) → immsL G st2 xs = immsL G st xs
  | [], _ => rfl
  | x :: xs, h => by
    simp only [immsL, immO]
    rw [ev_reads (x := x) fun n hn => h n (by simp [readsL] at hn ⊢; exact .inl hn), immsL_reads (xs := xs) fun n hn => h n (by simp [readsL] at hn ⊢; exact .inr hn)]

theorem p_ev {α β : Type} {g : β → Option α} {x : AO} {f : SV → Option α} {f0 : SV → Option β} (hr : ∀ n ∈ x.reads, get st2.env n = get st.env n) (h : ∀ a, f a = (f0 a).bind g) : (x.ev G st2).bind f = ((x.ev G st).bind f0).bind g := by
  rw [ev_reads hr]; exact p_bind h
theorem p_optEv {α β : Type} {g : β → Option α} {x : Option AO} {f : Option SV → Option α} {f0 : Option SV → Option β} (hr : ∀ n ∈ readsO x, get st2.env n = get st.env n) (h : ∀ a, f a = (f0 a).bind g) : (optEv G st2 x).bind f = ((optEv G st x).bind f0).bind g := by
  rw [optEv_reads hr]; exact p_bind h
theorem p_immL {α β : Type} {g : β → Option α} {x : List AO} {f : List AV → Option α} {f0 : List AV → Option β} (hr : ∀ n ∈ readsL x, get st2.env n = get st.env n) (h : ∀ a, f a = (f0 a).bind g) : (immL G st2 x).bind f = ((immL G st x).bind f0).bind g := by
  rw [immL_reads hr]; exact p_bind h
theorem immG_reads {z : AV} : ∀ {xs : List (Option AO)}, (∀ n ∈ readsL (xs.filterMap id), get st2.env n = get st.env n) → immG G st2 z xs = immG G st z xs
  | [], _ => rfl
  | none :: xs, h => by simp only [immG]; rw [immG_reads (xs := xs) (by simpa using h)]
  | some x :: xs, h => by
    simp only [immG]
    rw [ev_reads (x := x) fun n hn => h n (by simp [readsL, hn]), immG_reads (xs := xs) fun n hn => h n (by simp [readsL] at hn ⊢; exact .inr hn)]
theorem p_immG {α β : Type} {g : β → Option α} {z : AV} {x : List (Option AO)} {f : List AV → Option α} {f0 : List AV → Option β} (hr : ∀ n ∈ readsL (x.filterMap id), get st2.env n = get st.env n) (h : ∀ a, f a = (f0 a).bind g) : (immG G st2 z x).bind f = ((immG G st z x).bind f0).bind g := by
  rw [immG_reads hr]; exact p_bind h
theorem p_evi {α β : Type} {g : β → Option α} {x : AO} {f : SV → Option α} {f0 : SV → Option β} (hr : ∀ n ∈ x.reads, get st2.env n = get st.env n) (hq : immO G st x = true) (h : ∀ v, f (.imm v) = (f0 (.imm v)).bind g) : (x.ev G st2).bind f = ((x.ev G st).bind f0).bind g := by
  rw [ev_reads hr]
  obtain ⟨v, hv⟩ := immO_some hq
  rw [hv]; exact h v

theorem giveL_two {α β : Type} {g : β → Option α} {xs : List AO} {f : List AV → List (Nat × Blk) → Option α} {f0 : List AV → List (Nat × Blk) → Option β} (hq : immsL G st xs = true)
    (hr : ∀ n ∈ readsL xs, get st2.env n = get st.env n) (h : ∀ vs, f vs st2.M = (f0 vs st.M).bind g) : giveL G st2.env st2.M xs f = (giveL G st.env st.M xs f0).bind g := by
  have e1 := giveL_imm (G := G) (M := st2.M) (M0 := st2.M) (env := st2.env) (K := f) (xs := xs) (by rw [← hq]; exact immsL_reads hr)
  have e2 := giveL_imm (G := G) (M := st.M) (M0 := st.M) (env := st.env) (K := f0) (xs := xs) hq
  rw [e1, e2]
  rw [show immL G ⟨st2.env, st2.M⟩ xs = immL G ⟨st.env, st.M⟩ xs from immL_reads hr]
  exact p_bind fun vs => h vs
end

theorem quiet_two {β : Type} {G : List (Nat × List AV)} {R : Nat → List AV → Option Res} {o : AOp} {st st2 : St} {K : SV → St → Option β} (hq : quietNow G st o = true) (hM : st2.M = st.M) (hr : ∀ n ∈ o.reads, get st2.env n = get st.env n) :
    step G R o st2 K = (step G R o st fun s st' => some (s, st')).bind fun p => K p.1 st2 := by
  obtain ⟨e2, M2⟩ := st2
  obtain ⟨e1, M1⟩ := st
  obtain rfl : M2 = M1 := hM
  have leaf : ∀ s, K s ⟨e2, M2⟩ = (some (s, (⟨e1, M2⟩ : St))).bind fun p : SV × St => K p.1 ⟨e2, M2⟩ := fun _ => rfl
  have leaf' : ∀ s, K s ((⟨e2, M2⟩ : St).withM M2) = (some (s, (⟨e1, M2⟩ : St).withM M2)).bind fun p : SV × St => K p.1 ⟨e2, M2⟩ := fun _ => rfl
  cases o <;> simp only [quietNow, Bool.false_eq_true] at hq <;> simp only [AOp.reads, List.mem_append] at hr <;> simp only [step] <;>
    (repeat' first
      | contradiction | exact leaf _ | exact leaf' _ | exact p_none
      | (refine p_evi (fun n hn => hr n (by simp [hn])) hq fun _ => ?_)
      | (refine p_ev (fun n hn => hr n (by simp [hn])) fun _ => ?_)
      | (refine p_optEv (fun n hn => hr n (by simp [hn])) fun _ => ?_)
      | (refine p_immL hr fun _ => ?_)
      | (refine p_immG hr fun _ => ?_)
      | (refine giveL_two (st := ⟨e1, M2⟩) (st2 := ⟨e2, M2⟩) hq hr fun _ => ?_)
      | (refine giveL_two (st := ⟨e1, M2⟩) (st2 := ⟨e2, M2⟩) hq (fun n hn => hr n (by simp [hn])) fun _ => ?_)
      | (with_reducible refine p_asF fun _ _ => ?_)
      | (with_reducible refine p_asNil ?_)
      | (with_reducible refine p_bind fun _ => ?_) | (with_reducible refine p_need ?_) | (with_reducible refine p_cond ?_ ?_) | (with_reducible refine p_asTy _ _ fun _ => ?_) | (with_reducible refine p_bin fun _ => ?_) | (with_reducible refine p_binB fun _ => ?_) | (with_reducible refine p_un fun _ => ?_)
      | (with_reducible refine p_asI fun _ => ?_) | (with_reducible refine p_byteOf fun _ => ?_) | (with_reducible refine p_rowOf fun _ => ?_) | (with_reducible refine p_fillParts fun _ => ?_) | (with_reducible refine p_minL fun _ => ?_) | (with_reducible refine p_maxL fun _ => ?_)
      | (with_reducible refine p_bound fun _ => ?_) | split)
/-- Does it do without memory altogether? -/
def isFree : AOp → Bool
  | .mv _ => true
  | .weak _ => true
  | .pick _ _ _ => true
  | .bin _ _ _ => true
  | .binB _ _ _ => true
  | .un _ _ => true
  | .cvInt _ _ => true
  | .cvId _ => true
  | .cvRune _ => true
  | .extract _ _ => true
  | .sliceS _ _ _ => true
  | .build _ _ => true
  | .binA _ _ _ _ => true
  | .isNil _ _ _ => true
  | _ => false
theorem free_two {β : Type} {G : List (Nat × List AV)} {R : Nat → List AV → Option Res} {o : AOp} {st st2 : St} {K : SV → St → Option β} (hq : quietNow G st o = true) (hf : isFree o = true) (hr : ∀ n ∈ o.reads, get st2.env n = get st.env n) :
    step G R o st2 K = (step G R o st fun s st' => some (s, st')).bind fun p => K p.1 st2 := by
  obtain ⟨e2, M2⟩ := st2
  obtain ⟨e1, M1⟩ := st
  have leaf : ∀ s, K s ⟨e2, M2⟩ = (some (s, (⟨e1, M1⟩ : St))).bind fun p : SV × St => K p.1 ⟨e2, M2⟩ := fun _ => rfl
  have leaf' : ∀ s, K s ((⟨e2, M2⟩ : St).withM M2) = (some (s, (⟨e1, M1⟩ : St).withM M1)).bind fun p : SV × St => K p.1 ⟨e2, M2⟩ := fun _ => rfl
  cases o <;> simp only [isFree, Bool.false_eq_true] at hf <;> simp only [quietNow, Bool.false_eq_true] at hq <;> simp only [AOp.reads, List.mem_append] at hr <;> simp only [step] <;>
    (repeat' first
      | contradiction | exact leaf _ | exact leaf' _ | exact p_none
      | (refine p_evi (fun n hn => hr n (by simp [hn])) hq fun _ => ?_)
      | (refine p_ev (fun n hn => hr n (by simp [hn])) fun _ => ?_)
      | (refine p_optEv (fun n hn => hr n (by simp [hn])) fun _ => ?_)
      | (refine p_immL hr fun _ => ?_)
      | (refine p_immG hr fun _ => ?_)
      | (refine giveL_two (st := ⟨e1, M1⟩) (st2 := ⟨e2, M2⟩) hq hr fun _ => ?_)
      | (refine giveL_two (st := ⟨e1, M1⟩) (st2 := ⟨e2, M2⟩) hq (fun n hn => hr n (by simp [hn])) fun _ => ?_)
      | (with_reducible refine p_asF fun _ _ => ?_)
      | (with_reducible refine p_asNil ?_)
      | (with_reducible refine p_bind fun _ => ?_) | (with_reducible refine p_need ?_) | (with_reducible refine p_cond ?_ ?_) | (with_reducible refine p_asTy _ _ fun _ => ?_) | (with_reducible refine p_bin fun _ => ?_) | (with_reducible refine p_binB fun _ => ?_) | (with_reducible refine p_un fun _ => ?_)
      | (with_reducible refine p_asI fun _ => ?_) | (with_reducible refine p_byteOf fun _ => ?_) | (with_reducible refine p_rowOf fun _ => ?_) | (with_reducible refine p_fillParts fun _ => ?_) | (with_reducible refine p_minL fun _ => ?_) | (with_reducible refine p_maxL fun _ => ?_)
      | (with_reducible refine p_bound fun _ => ?_) | split)

/-- A store looks at its operands and at the memory alone. -/
theorem store_par {β : Type} {G : List (Nat × List AV)} {R : Nat → List AV → Option Res} {x y : AO} {sz : Nat} {st st2 : St} {K : SV → St → Option β} (hM : st2.M = st.M) (hr : ∀ n ∈ (AOp.store x y sz).reads, get st2.env n = get st.env n) :
    step G R (.store x y sz) st2 K = (step G R (.store x y sz) st fun s st' => some (s, st')).bind fun p => K p.1 ⟨st2.env, p.2.M⟩ := by
  obtain ⟨e2, M2⟩ := st2
  obtain ⟨e1, M1⟩ := st
  obtain rfl : M2 = M1 := hM
  simp only [AOp.reads, List.mem_append] at hr
  have leaf : ∀ s X, K s ((⟨e2, M2⟩ : St).withM X) = (some (s, (⟨e1, M2⟩ : St).withM X)).bind fun p : SV × St => K p.1 ⟨e2, p.2.M⟩ := fun _ _ => rfl
  simp only [step]
  repeat' first
    | contradiction | exact leaf _ _ | exact p_none
    | (refine p_ev (fun n hn => hr n (by simp [hn])) fun _ => ?_)
    | (with_reducible refine p_bind fun _ => ?_) | (with_reducible refine p_need ?_) | (with_reducible refine p_cond ?_ ?_) | (with_reducible refine p_asI fun _ => ?_) | (with_reducible refine p_byteOf fun _ => ?_) | split
theorem store_two {G : List (Nat × List AV)} {R : Nat → List AV → Option Res} {x y : AO} {sz : Nat} {st st2 : St} (hM : st2.M = st.M) (hr : ∀ n ∈ (AOp.store x y sz).reads, get st2.env n = get st.env n) {s : SV} {st' : St}
    (h : step G R (.store x y sz) st (fun s st' => some (s, st')) = some (s, st')) : step G R (.store x y sz) st2 (fun s st' => some (s, st')) = some (s, ⟨st2.env, st'.M⟩) := by
  rw [store_par hM hr, h]; rfl
theorem store_env {G : List (Nat × List AV)} {R : Nat → List AV → Option Res} {x y : AO} {sz : Nat} {st : St} {s : SV} {st' : St}
    (h : step G R (.store x y sz) st (fun s st' => some (s, st')) = some (s, st')) : st'.env = st.env := by
  have := store_par (R := R) (G := G) (x := x) (y := y) (sz := sz) (st := st) (st2 := st) (K := fun s st' => some (s, st')) rfl fun _ _ => rfl
  rw [h] at this
  simp only [Option.bind_some, Option.some.injEq, Prod.mk.injEq, true_and] at this
  rw [this]

structure Head where
  dst : Option Nat
  guard : Option (Nat × Bool)
  o : AOp

def headsOf : List AStep → List Head
  | [] => []
  | .split _ :: r => headsOf r
  | .op d g o :: r => ⟨d, g, o⟩ :: headsOf r

def Head.reads (h : Head) : List Nat := (match h.guard with | some (g, _) => [g] | none => []) ++ h.o.reads

/-- Operations that leave the memory alone, one behind the other. -/
def evQ {α : Type} (G : List (Nat × List AV)) (R : Nat → List AV → Option Res) : List AStep → St → (St → Option α) → Option α
  | [], st, K => K st
  | .split g :: r, st, K => match get st.env g with
    | some (.imm (.bool b)) => bif b then evQ G R r (st.put g (.imm (.bool true))) K else evQ G R r (st.put g (.imm (.bool false))) K
    | some (.imm (.tup [])) => evQ G R r st K
    | _ => none
  | .op dst none o :: r, st, K => need (quietNow G st o) (step G R o st fun s st' => after o st dst s fun st'' => evQ G R r st'' K)
  | .op dst (some (g, want)) o :: r, st, K => match wantsNow (get st.env g) want with
    | some true => need (quietNow G st o) (step G R o st fun s st' => after o st dst s fun st'' => evQ G R r st'' K)
    | some false => evQ G R r (putD st dst (.imm (.tup []))) K
    | none => none

def isD (h : Head) (n : Nat) : Bool := match h.dst with | some d => Nat.beq d n | none => false
theorem isD_iff {h : Head} {n : Nat} : isD h n = true ↔ h.dst = some n := by
  unfold isD; split
  · rename_i d hd; rw [hd]; simp
  · rename_i hd; rw [hd]; simp
theorem isD_false {h : Head} {n : Nat} : isD h n = false ↔ h.dst ≠ some n := by
  rw [← Bool.not_eq_true, isD_iff]

def apartL : List Head → Bool
  | [] => true
  | h :: r => (h :: r).all (fun k => h.reads.all fun n => !isD k n) && r.all (fun k => match h.dst with | some d => !isD k d | none => true) && apartL r

def Runs (G : List (Nat × List AV)) (R : Nat → List AV → Option Res) (E : Nat → Option SV) (M : List (Nat × Blk)) (o : AOp) (s : SV) : Prop :=
  ∀ st2 : St, (st2.M = M ∨ isFree o = true) → (∀ n ∈ o.reads, get st2.env n = E n) → step G R o st2 (fun s st' => some (s, st')) = some (s, st2)

def Yields (G : List (Nat × List AV)) (R : Nat → List AV → Option Res) (E : Nat → Option SV) (M : List (Nat × Blk)) (h : Head) (s : SV) : Prop :=
  match h.guard with
  | none => Runs G R E M h.o s
  | some (g, want) => ∃ b, wantsNow (E g) want = some b ∧ (if b = true then Runs G R E M h.o s else s = .imm (.tup []))

theorem putD_M (st : St) (dst : Option Nat) (s : SV) : (putD st dst s).M = st.M := by cases dst <;> rfl
theorem get_putD (st : St) (dst : Option Nat) (s : SV) (n : Nat) : get (putD st dst s).env n = if dst = some n then some s else get st.env n := by
  cases dst with
  | none => simp [putD]
  | some d =>
    simp only [putD, St.put]
    rw [get_cons]
    by_cases h : n = d
    · subst h; simp
    · rw [if_neg h, if_neg (by simpa using fun e => h e.symm)]
theorem get_put (st : St) (d : Nat) (s : SV) (n : Nat) : get (st.put d s).env n = if n = d then some s else get st.env n := by
  simp only [St.put]; rw [get_cons]

theorem quiet_runs {α : Type} {G : List (Nat × List AV)} {R : Nat → List AV → Option Res} {o : AOp} {st : St} {K : SV → St → Option α} {r : α} (hq : quietNow G st o = true) (h : step G R o st K = some r) :
    ∃ s, K s st = some r ∧ Runs G R (get st.env) st.M o s := by
  rw [quiet_two (st2 := st) hq rfl fun _ _ => rfl, Option.bind_eq_some_iff] at h
  obtain ⟨⟨s, st'⟩, h1, h2⟩ := h
  refine ⟨s, h2, fun st2 hM hr => ?_⟩
  rcases hM with hM | hM
  · rw [quiet_two (st := st) hq hM hr, h1]; rfl
  · rw [free_two (st := st) hq hM hr, h1]; rfl

theorem Runs.of {G : List (Nat × List AV)} {R : Nat → List AV → Option Res} {E E' : Nat → Option SV} {M : List (Nat × Blk)} {o : AOp} {s : SV} (h : Runs G R E M o s) (he : ∀ n ∈ o.reads, E' n = E n) : Runs G R E' M o s :=
  fun st2 hM hr => h st2 hM fun n hn => (hr n hn).trans (he n hn)

theorem evQ_facts {α : Type} {G : List (Nat × List AV)} {R : Nat → List AV → Option Res} {K : St → Option α} {r : α} : ∀ {q : List AStep} {st : St}, apartL (headsOf q) = true → evQ G R q st K = some r →
    ∃ stF, K stF = some r ∧ stF.M = st.M ∧ (∀ (i : Nat) (h : Head), (headsOf q)[i]? = some h → ∃ s, Yields G R (get stF.env) st.M h s ∧ (∀ d, h.dst = some d → get stF.env d = some s)) ∧
      (∀ n, (∀ h ∈ headsOf q, h.dst ≠ some n) → get stF.env n = get st.env n)
  | [], st, _, h => ⟨st, h, rfl, by simp [headsOf], fun _ _ => rfl⟩
  | .split g :: q, st, hA, h => by
    simp only [evQ, after_eq] at h
    split at h
    · rename_i b hb
      have key : ∀ b', b' = b → evQ G R q (st.put g (.imm (.bool b'))) K = some r → ∃ stF, K stF = some r ∧ stF.M = st.M ∧ (∀ (i : Nat) (h : Head), (headsOf q)[i]? = some h → ∃ s, Yields G R (get stF.env) st.M h s ∧ (∀ d, h.dst = some d → get stF.env d = some s)) ∧
        (∀ n, (∀ h ∈ headsOf q, h.dst ≠ some n) → get stF.env n = get st.env n) := by
        intro b' hb' hh
        subst hb'
        clear h; have h := hh
        obtain ⟨stF, h1, h2, h3, h4⟩ := evQ_facts (q := q) hA h
        refine ⟨stF, h1, h2, h3, fun n hn => (h4 n hn).trans ?_⟩
        rw [get_put]
        by_cases hng : n = g
        · subst hng; rw [if_pos rfl, hb]
        · rw [if_neg hng]
      cases b
      · exact key false rfl h
      · exact key true rfl h
    · exact evQ_facts (q := q) hA h
    · cases h
  | .op dst gd o :: q, st, hA, h => by
    simp only [headsOf, apartL, Bool.and_eq_true, List.all_eq_true, Bool.not_eq_true'] at hA
    obtain ⟨⟨hA1, hA2⟩, hA3⟩ := hA
    have key : ∀ s, evQ G R q (putD st dst s) K = some r → Yields G R (get st.env) st.M ⟨dst, gd, o⟩ s → ∃ stF, K stF = some r ∧ stF.M = st.M ∧ (∀ (i : Nat) (h : Head), (headsOf (.op dst gd o :: q))[i]? = some h → ∃ s, Yields G R (get stF.env) st.M h s ∧ (∀ d, h.dst = some d → get stF.env d = some s)) ∧
        (∀ n, (∀ h ∈ headsOf (.op dst gd o :: q), h.dst ≠ some n) → get stF.env n = get st.env n) := by
      intro s h hy
      obtain ⟨stF, h1, h2, h3, h4⟩ := evQ_facts (q := q) hA3 h
      rw [putD_M] at h2 h3
      have hfar : ∀ n ∈ (⟨dst, gd, o⟩ : Head).reads, get stF.env n = get st.env n := by
        intro n hn
        rw [h4 n fun k hk => isD_false.1 (hA1 k (List.mem_cons_of_mem _ hk) n hn), get_putD, if_neg]
        exact isD_false.1 (hA1 ⟨dst, gd, o⟩ List.mem_cons_self n hn)
      refine ⟨stF, h1, h2, fun i h hi => ?_, fun n hn => ?_⟩
      · cases i with
        | zero =>
          simp only [headsOf, List.getElem?_cons_zero, Option.some.injEq] at hi
          subst hi
          refine ⟨s, ?_, fun d hd => ?_⟩
          · unfold Yields at hy ⊢
            cases gd with
            | none => exact Runs.of hy fun n hn => hfar n (by simp [Head.reads, hn])
            | some gw =>
              obtain ⟨g, want⟩ := gw
              obtain ⟨b, hb, hy⟩ := hy
              refine ⟨b, by rw [hfar g (by simp [Head.reads])]; exact hb, ?_⟩
              split
              · rename_i hbw; rw [if_pos hbw] at hy; exact Runs.of hy fun n hn => hfar n (by simp [Head.reads, hn])
              · rename_i hbw; rw [if_neg hbw] at hy; exact hy
          · simp only at hd
            subst hd
            rw [h4 d fun k hk => isD_false.1 (by simpa using hA2 k hk), get_putD, if_pos rfl]
        | succ i => simp only [headsOf, List.getElem?_cons_succ] at hi; exact h3 i h hi
      · rw [h4 n fun k hk => hn k (by simp [headsOf, hk]), get_putD, if_neg]
        exact hn ⟨dst, gd, o⟩ (by simp [headsOf])
    cases gd with
    | none =>
      simp only [evQ, after_eq] at h
      obtain ⟨hq, h⟩ := need_some h
      obtain ⟨s, h1, h2⟩ := quiet_runs hq h
      exact key s h1 h2
    | some gw =>
      obtain ⟨g, want⟩ := gw
      simp only [evQ, after_eq] at h
      split at h
      · rename_i hb
        obtain ⟨hq, h⟩ := need_some h
        obtain ⟨s, h1, h2⟩ := quiet_runs hq h
        exact key s h1 ⟨true, hb, by rw [if_pos rfl]; exact h2⟩
      · rename_i hb
        exact key _ h ⟨false, hb, by rw [if_neg (by simp)]⟩
      · cases h

theorem fitSteps_heads {P : Program} {nt : Nat} {ops : Array Oper} : ∀ {q tail : List AStep} {os : List Oper}, fitSteps P nt ops (q ++ tail) os = true →
    (∀ (i : Nat) (h : Head), (headsOf q)[i]? = some h → ∃ oper, os[i]? = some oper ∧ fitDst nt h.dst oper.dst = true ∧ fitGuard ops h.guard oper.guard = true ∧ fits P h.o oper.op = true) ∧ fitSteps P nt ops tail (os.drop (headsOf q).length) = true
  | [], tail, os, h => ⟨by simp [headsOf], by simpa [headsOf] using h⟩
  | .split g :: q, tail, os, h => by
    simp only [List.cons_append, fitSteps] at h
    exact fitSteps_heads (q := q) h
  | .op d g o :: q, tail, [], h => by simp [fitSteps] at h
  | .op d g o :: q, tail, oper :: os, h => by
    simp only [List.cons_append, fitSteps, Bool.and_eq_true] at h
    obtain ⟨⟨⟨h1, h2⟩, h3⟩, h4⟩ := h
    obtain ⟨k1, k2⟩ := fitSteps_heads (q := q) h4
    refine ⟨fun i h hi => ?_, by simpa [headsOf] using k2⟩
    cases i with
    | zero =>
      simp only [headsOf, List.getElem?_cons_zero, Option.some.injEq] at hi
      subst hi
      exact ⟨oper, by simp, h1, h2, h3⟩
    | succ i => simp only [headsOf, List.getElem?_cons_succ] at hi; simpa using k1 i h hi

/-- Each of the first ones waits for those that it looks at. -/
def waitsB (ops : Array Oper) (hs : List Head) : Bool :=
  (List.range hs.length).all fun i => (List.range i).all fun j => match hs[i]?, hs[j]? with
    | some hi, some hj => (hi.reads.all fun n => !isD hj n) || Region.waitsFor .any ops i j
    | _, _ => false
def backB (ops : Array Oper) (n : Nat) : Bool :=
  (List.range n).all fun i => match ops[i]? with | some o => o.after.all fun e => !Region.binds .any e || decide (e.on < i) | none => false
def doneL (n g : Nat) : Array Bool := (List.replicate n true ++ List.replicate g false).toArray
def drawB (ops : Array Oper) (hs : List Head) : Bool :=
  apartL hs && waitsB ops hs && backB ops hs.length && Nat.ble hs.length ops.size && (Nat.beq hs.length ops.size || (Region.sinkB .any ops hs.length && Region.chainB .any ops hs.length)) &&
    Region.seqB .any ops (ops.size - hs.length) hs.length (doneL hs.length (ops.size - hs.length))

def unl (n : Nat) (listed : Array Bool) : Nat := (List.range n).countP fun i => !listed.getD i true
theorem countP_one {p p' : Nat → Bool} {i : Nat} (hp : p i = true) (hp' : p' i = false) (h : ∀ j, j ≠ i → p' j = p j) : ∀ {l : List Nat}, l.Nodup → i ∈ l → l.countP p' + 1 = l.countP p
  | [], _, hi => by cases hi
  | a :: l, hn, hi => by
    rw [List.nodup_cons] at hn
    rw [List.countP_cons, List.countP_cons]
    by_cases ha : a = i
    · subst ha
      have : ∀ {l : List Nat}, a ∉ l → l.countP p' = l.countP p := by
        intro l hl
        apply List.countP_congr
        intro x hx
        rw [h x (fun e => hl (e ▸ hx))]
      rw [this hn.1, hp, hp']; simp
    · have hi' : i ∈ l := by rcases List.mem_cons.1 hi with e | h'; exact absurd e.symm ha; exact h'
      have := countP_one hp hp' h hn.2 hi'
      rw [h a ha]; omega
theorem unl_set {n i : Nat} {listed : Array Bool} (hi : i < n) (hl : listed.getD i true = false) : unl n (listed.setIfInBounds i true) + 1 = unl n listed := by
  unfold unl
  have hs : i < listed.size := by
    rcases Nat.lt_or_ge i listed.size with h | h
    · exact h
    · simp [Array.getElem?_eq_none h] at hl
  refine countP_one (i := i) (by simp [hl]) (by simp [hs]) (fun j hj => ?_) List.nodup_range (List.mem_range.2 hi)
  rw [Go.getD_set_ne true (Ne.symm hj)]

def hidden (hs : List Head) (listed : Array Bool) (n : Nat) : Bool := (List.range hs.length).any fun i => !listed.getD i true && (match hs[i]? with | some h => isD h n | none => false)
theorem hidden_iff {hs : List Head} {listed : Array Bool} {n : Nat} : hidden hs listed n = true ↔ ∃ i h, hs[i]? = some h ∧ listed.getD i true = false ∧ h.dst = some n := by
  unfold hidden
  simp only [List.any_eq_true, List.mem_range, Bool.and_eq_true, Bool.not_eq_true']
  constructor
  · rintro ⟨i, hi, h1, h2⟩
    split at h2
    · rename_i h hh; exact ⟨i, h, hh, h1, isD_iff.1 h2⟩
    · cases h2
  · rintro ⟨i, h, h1, h2, h3⟩
    exact ⟨i, (List.getElem?_eq_some_iff.1 h1).1, h2, by rw [h1]; exact isD_iff.2 h3⟩
def envL (hs : List Head) (env : List (Nat × SV)) (listed : Array Bool) : List (Nat × SV) := env.filter fun e => !hidden hs listed e.1
theorem get_filterK {α : Type} (p : Nat → Bool) (n : Nat) : ∀ l : List (Nat × α), get (l.filter fun e => !p e.1) n = if p n = true then none else get l n
  | [] => by simp [get]
  | (a, x) :: l => by
    rw [List.filter_cons]
    cases hp : p a
    · simp only [Bool.not_false, if_true]
      rw [get_cons, get_cons, get_filterK p n l]
      by_cases hna : n = a
      · subst hna; simp [hp]
      · simp [hna]
    · simp only [Bool.not_true, Bool.false_eq_true, if_false]
      rw [get_filterK p n l, get_cons]
      by_cases hna : n = a
      · subst hna; simp [hp]
      · simp [hna]
theorem get_envL {hs : List Head} {env : List (Nat × SV)} {listed : Array Bool} {n : Nat} : get (envL hs env listed) n = if hidden hs listed n = true then none else get env n := get_filterK _ _ _

theorem Inv.weak {C : Cx} {ρ : Rho} {st st' : St} {tm : Array Value} {w : World} (h : Inv C ρ st tm w) (hM : st'.M = st.M) (he : ∀ n s, get st'.env n = some s → get st.env n = some s) : Inv C ρ st' tm w where
  ext := h.ext
  env := fun n s hn => by rw [hM]; exact h.env n s (he n s hn)
  mem := fun t blk ht => by rw [hM] at ht ⊢; exact h.mem t blk ht
  inj := fun t t' blk blk' b o cp b' o' cp' h1 h2 => by rw [hM] at h1 h2; exact h.inj t t' blk blk' b o cp b' o' cp' h1 h2
  glob := by rw [hM]; exact h.glob
  bo := h.bo
  pin := fun t blk ht hg => by rw [hM] at hg; exact h.pin t blk ht hg

section code
variable {P : Program} {C : Cx} {R : Nat → List AV → Option Res}

theorem apartL_spec : ∀ {hs : List Head}, apartL hs = true → ∀ (i j : Nat) (hi hj : Head), i ≤ j → hs[i]? = some hi → hs[j]? = some hj → ∀ n ∈ hi.reads, hj.dst ≠ some n
  | [], _, i, j, hi, hj, _, h1, _, n, _ => by simp at h1
  | h :: hs, hA, i, j, hi, hj, hij, h1, h2, n, hn => by
    simp only [apartL, Bool.and_eq_true, List.all_eq_true, Bool.not_eq_true'] at hA
    cases i with
    | zero =>
      simp only [List.getElem?_cons_zero, Option.some.injEq] at h1
      subst h1
      exact isD_false.1 (hA.1.1 hj (List.mem_of_getElem? h2) n hn)
    | succ i =>
      cases j with
      | zero => omega
      | succ j => simp only [List.getElem?_cons_succ] at h1 h2; exact apartL_spec hA.2 i j hi hj (by omega) h1 h2 n hn

theorem waitsB_spec {ops : Array Oper} {hs : List Head} (h : waitsB ops hs = true) {i j : Nat} {hi hj : Head} (hij : j < i) (h1 : hs[i]? = some hi) (h2 : hs[j]? = some hj) {n : Nat} (hn : n ∈ hi.reads) (hd : hj.dst = some n) : Region.waitsFor .any ops i j = true := by
  unfold waitsB at h
  have := List.all_eq_true.1 (List.all_eq_true.1 h i (List.mem_range.2 (List.getElem?_eq_some_iff.1 h1).1)) j (List.mem_range.2 hij)
  simp only [h1, h2, Bool.or_eq_true, List.all_eq_true, Bool.not_eq_true'] at this
  rcases this with h3 | h3
  · exact absurd hd (isD_false.1 (h3 n hn))
  · exact h3

theorem draw_any (hR : RSound P C.G R) {nt : Nat} {ops : Array Oper} {Q : Exit → Act → World → Prop} {q tail : List AStep} (hf : fitSteps P nt ops (q ++ tail) ops.toList = true) (hB : drawB ops (headsOf q) = true)
    {stF : St} {M : List (Nat × Blk)} (hM : stF.M = M) (hfacts : ∀ (i : Nat) (h : Head), (headsOf q)[i]? = some h → ∃ s, Yields C.G R (get stF.env) M h s ∧ (∀ d, h.dst = some d → get stF.env d = some s))
    (hend : ∀ ρ a w, Inv C ρ stF a.tmps w → a.tmps.size = nt → a.defers = [] → wpList P ops Q (ops.toList.drop (headsOf q).length) a w) :
    ∀ (c : Nat) (listed : Array Bool) (a : Act) (w : World) (ρ : Rho), unl (headsOf q).length listed = c → HeadInv .any ops (headsOf q).length listed → Inv C ρ ⟨envL (headsOf q) stF.env listed, M⟩ a.tmps w → a.tmps.size = nt → a.defers = [] →
      wpAny P .any ops Q (c + (ops.size - (headsOf q).length)) listed a w := by
  simp only [drawB, Bool.and_eq_true, Bool.or_eq_true] at hB
  obtain ⟨⟨⟨⟨⟨hA, hW⟩, hK⟩, hle⟩, hT⟩, hS⟩ := hB
  have hle := Nat.le_of_ble_eq_true hle
  obtain ⟨hfit, hfitT⟩ := fitSteps_heads hf
  generalize hhs : headsOf q = hs at *
  intro c
  induction c with
  | zero =>
    intro listed a w ρ hc inv hI hn hd
    have hall : ∀ i, i < hs.length → listed.getD i true = true := by
      intro i hi
      unfold unl at hc
      rw [List.countP_eq_zero] at hc
      simpa using hc i (List.mem_range.2 hi)
    have hL : listed = doneL hs.length (ops.size - hs.length) := by
      apply Array.ext
      · rw [inv.size]; simp [doneL]; omega
      · intro i h1 h2
        have h3 : listed[i] = listed.getD i true := by simp [h1]
        rw [h3]
        by_cases hi : i < hs.length
        · rw [hall i hi]; simp [doneL, List.getElem_append, hi]
        · rw [inv.tail i (by omega) (by rw [← inv.size]; exact h1)]; simp [doneL, List.getElem_append, hi]
    rw [Nat.zero_add]
    have hln : ops.size - hs.length = (ops.toList.drop hs.length).length := by simp
    rw [hln]
    refine wpAny_of_seq (ops.toList.drop hs.length) hs.length listed a w (fun j => by rw [List.getElem?_drop, Array.getElem?_toList]) (by rw [hL, ← hln]; exact hS) ?_
    refine hend ρ a w (hI.weak hM fun n s hs' => ?_) hn hd
    show get (envL hs stF.env listed) n = some s
    rw [get_envL, if_neg]
    · exact hs'
    · intro hh
      obtain ⟨i, h, h1, h2, _⟩ := hidden_iff.1 hh
      rw [hall i (List.getElem?_eq_some_iff.1 h1).1] at h2; cases h2
  | succ c ih =>
    intro listed a w ρ hc inv hI hn hd
    rw [show c + 1 + (ops.size - hs.length) = (c + (ops.size - hs.length)) + 1 by omega]
    have hex : ∃ i, i < hs.length ∧ listed.getD i true = false := by
      have : 0 < unl hs.length listed := by omega
      unfold unl at this
      rw [List.countP_pos_iff] at this
      obtain ⟨i, h1, h2⟩ := this
      exact ⟨i, List.mem_range.1 h1, by simpa using h2⟩
    have hmin : ∀ m, ∀ i, i ≤ m → i < hs.length → listed.getD i true = false → ∃ j, j ∈ Region.ready .any ops listed := by
      intro m
      induction m with
      | zero =>
        intro i hi hlt hu
        obtain rfl : i = 0 := by omega
        have hk := List.all_eq_true.1 hK 0 (List.mem_range.2 hlt)
        split at hk
        · rename_i o ho
          refine ⟨0, mem_ready.2 ⟨hu, o, ho, fun e he hb => ?_⟩⟩
          have := Array.all_eq_true'.1 hk e he
          simp [hb] at this
        · cases hk
      | succ m ihm =>
        intro i hi hlt hu
        have hk := List.all_eq_true.1 hK i (List.mem_range.2 hlt)
        split at hk
        · rename_i o ho
          by_cases hx : ∃ j, j < i ∧ listed.getD j true = false
          · obtain ⟨j, hj, hju⟩ := hx
            exact ihm j (by omega) (by omega) hju
          · refine ⟨i, mem_ready.2 ⟨hu, o, ho, fun e he hb => ?_⟩⟩
            have := Array.all_eq_true'.1 hk e he
            simp only [hb, Bool.not_true, Bool.false_or, decide_eq_true_eq] at this
            cases hle : listed.getD e.on false with
            | true => rfl
            | false =>
              exact absurd ⟨e.on, this, getD_in (by rw [inv.size]; omega) hle⟩ hx
        · cases hk
    obtain ⟨i0, hi0, hu0⟩ := hex
    refine ⟨fun h0 => ?_, fun i hi => ?_⟩
    · obtain ⟨j, hj⟩ := hmin i0 i0 (Nat.le_refl _) hi0 hu0
      rw [h0] at hj; cases hj
    obtain ⟨hiu, oper, hoper, hafter⟩ := mem_ready.1 hi
    have hisz : i < ops.size := (Array.getElem?_eq_some_iff.1 hoper).1
    have hin : i < hs.length := by
      rcases Nat.lt_or_ge i hs.length with h | h
      · exact h
      · rcases hT with hT | hT
        · have := Nat.eq_of_beq_eq_true hT; omega
        · exact absurd hi (tail_waits hT.1 hT.2 (by omega) inv _ i0 rfl hi0 hu0 i h)
    obtain ⟨hd', hhd⟩ : ∃ h, hs[i]? = some h := ⟨hs[i], by simp [hin]⟩
    obtain ⟨oper', ho', hfd, hfg, hfo⟩ := hfit i hd' hhd
    obtain rfl : oper' = oper := by rw [Array.getElem?_toList, hoper] at ho'; simpa using ho'.symm
    obtain ⟨s, hy, hsd⟩ := hfacts i hd' hhd
    have hsee : ∀ n ∈ hd'.reads, get (envL hs stF.env listed) n = get stF.env n := by
      intro n hn
      rw [get_envL, if_neg]
      intro hh
      obtain ⟨j, hj, h1, h2, h3⟩ := hidden_iff.1 hh
      by_cases hij : i ≤ j
      · exact apartL_spec hA i j hd' hj hij hhd h1 n hn h3
      · have hw := waitsB_spec hW (by omega) hhd h1 hn h3
        obtain ⟨oj, hoj, e, he, hb, hon⟩ := Region.waitsFor_spec hw
        obtain rfl : oj = oper' := by rw [hoper] at hoj; simpa using hoj.symm
        have := hafter e he hb
        rw [hon, getD_both h2] at this; cases this
    have hfin : ∀ ρ' s' v w', Inv C ρ' ⟨envL hs stF.env listed, M⟩ a.tmps w' → RelS w' (bad C.Bo ρ' M) ρ' M s' v → (∀ d, hd'.dst = some d → get stF.env d = some s') →
        wpAny P .any ops Q (c + (ops.size - hs.length)) (listed.setIfInBounds i true) (a.put oper'.dst v) w' := by
      intro ρ' s' v w' g1 g2 g3
      obtain ⟨k1, k2, k3⟩ := g1.putD (s := s') (v := v) hfd hn g2
      refine ih _ _ _ ρ' (by have := unl_set hin hiu; omega) (inv.set hi hin) (k1.weak (by rw [putD_M]) fun n x hx => ?_) k2 (by rw [k3]; exact hd)
      show get (putD ⟨envL hs stF.env listed, M⟩ hd'.dst s').env n = some x
      simp only at hx
      rw [get_envL] at hx
      split at hx
      · cases hx
      · rename_i hnh
        rw [get_putD]
        by_cases hdn : hd'.dst = some n
        · rw [if_pos hdn, ← hx]; exact (g3 n hdn).symm
        · rw [if_neg hdn]
          show get (envL hs stF.env listed) n = some x
          rw [get_envL, if_neg]
          · exact hx
          · intro hh
            obtain ⟨j, hj, h1, h2, h3⟩ := hidden_iff.1 hh
            refine hnh (hidden_iff.2 ⟨j, hj, h1, ?_, h3⟩)
            have hji : i ≠ j := by intro e; subst e; rw [hhd] at h1; simp only [Option.some.injEq] at h1; subst h1; exact hdn h3
            rw [Go.getD_set_ne true hji]; exact h2
    have hrun : Runs C.G R (get stF.env) M hd'.o s → step C.G R hd'.o ⟨envL hs stF.env listed, M⟩ (fun s st' => some (s, st')) = some (s, ⟨envL hs stF.env listed, M⟩) := fun hr =>
      hr _ (.inl rfl) fun n hn => hsee n (by simp [Head.reads, hn])
    have hgo : Runs C.G R (get stF.env) M hd'.o s → oper'.wp P a w (wpAny P .any ops Q (c + (ops.size - hs.length)) (listed.setIfInBounds i true)) Q := fun hr =>
      (step_ok hR hI (hrun hr) hfo).wp fun v w' ⟨ρ', g1, g2⟩ => hfin ρ' s v w' g1 g2 hsd
    unfold wpOp
    simp only [hoper]
    unfold Yields at hy
    cases hgd : hd'.guard with
    | none =>
      rw [hgd] at hy hfg
      have hgo' : oper'.guard = none := by
        cases hh : oper'.guard with
        | none => rfl
        | some x => rw [hh] at hfg; simp [fitGuard] at hfg
      rw [if_pos (by simp [Region.wanted, hgo'])]
      exact .inl (hgo hy)
    | some gw =>
      obtain ⟨g, want⟩ := gw
      rw [hgd] at hy hfg
      obtain ⟨b, hb, hy⟩ := hy
      have hb' : wantsNow (get (envL hs stF.env listed) g) want = some b := by rw [hsee g (by simp [Head.reads, hgd])]; exact hb
      have hw := guard_ok hI hfg hb' (o := oper') rfl
      cases b
      · rw [if_neg (by rw [hw]; simp)]
        refine hfin ρ (.imm (.tup [])) undef w hI skip_rel fun d hdd => ?_
        rw [if_neg (by simp)] at hy
        rw [← hy]; exact hsd d hdd
      · rw [if_pos hw]
        rw [if_pos rfl] at hy
        exact .inl (hgo hy)

theorem getD_set_true' {l : Array Bool} {i : Nat} (h : i < l.size) : (l.setIfInBounds i true).getD i true = true := by simp [h]
theorem draw_anyS (hR : RSound P C.G R) {nt : Nat} {ops : Array Oper} {Q : Exit → Act → World → Prop} {hs : List Head} {s0 : Nat} {x y : AO} {sz : Nat}
    (hfit : ∀ (i : Nat) (h : Head), hs[i]? = some h → ∃ oper, ops.toList[i]? = some oper ∧ fitDst nt h.dst oper.dst = true ∧ fitGuard ops h.guard oper.guard = true ∧ fits P h.o oper.op = true)
    (hs0 : hs[s0]? = some ⟨none, none, .store x y sz⟩) (hfree : ∀ (i : Nat) (h : Head), i ≠ s0 → hs[i]? = some h → isFree h.o = true)
    (hA : apartL hs = true) (hW : waitsB ops hs = true) (hK : backB ops hs.length = true) (hT : hs.length = ops.size) (hS : Region.seqB .any ops 0 hs.length (doneL hs.length 0) = true)
    {stF : St} {M0 M1 : List (Nat × Blk)} {sS : SV} (hfacts : ∀ (i : Nat) (h : Head), i ≠ s0 → hs[i]? = some h → ∃ s, Yields C.G R (get stF.env) M0 h s ∧ (∀ d, h.dst = some d → get stF.env d = some s))
    (hst : step C.G R (.store x y sz) ⟨stF.env, M0⟩ (fun s st' => some (s, st')) = some (sS, ⟨stF.env, M1⟩))
    (hend : ∀ ρ a w, Inv C ρ ⟨stF.env, M1⟩ a.tmps w → a.tmps.size = nt → a.defers = [] → Q .normal a w) :
    ∀ (c : Nat) (listed : Array Bool) (a : Act) (w : World) (ρ : Rho), unl hs.length listed = c → HeadInv .any ops hs.length listed → Inv C ρ ⟨envL hs stF.env listed, if listed.getD s0 true = true then M1 else M0⟩ a.tmps w → a.tmps.size = nt → a.defers = [] →
      wpAny P .any ops Q c listed a w := by
  have hs0l : s0 < hs.length := (List.getElem?_eq_some_iff.1 hs0).1
  intro c
  induction c with
  | zero =>
    intro listed a w ρ hc inv hI hn hd
    have hall : ∀ i, i < hs.length → listed.getD i true = true := by
      intro i hi
      unfold unl at hc
      rw [List.countP_eq_zero] at hc
      simpa using hc i (List.mem_range.2 hi)
    have hL : listed = doneL hs.length 0 := by
      apply Array.ext
      · rw [inv.size]; simp [doneL, hT]
      · intro i h1 h2
        have h3 : listed[i] = listed.getD i true := by simp [h1]
        rw [h3]
        by_cases hi : i < hs.length
        · rw [hall i hi]; simp [doneL, List.getElem_append, hi]
        · have := inv.size; omega
    refine wpAny_of_seq [] hs.length listed a w (fun j => by simp [hT]) (by rw [hL]; exact hS) ?_
    rw [hall s0 hs0l, if_pos rfl] at hI
    refine hend ρ a w (hI.weak rfl fun n s hs' => ?_) hn hd
    show get (envL hs stF.env listed) n = some s
    rw [get_envL, if_neg]
    · exact hs'
    · intro hh
      obtain ⟨i, h, h1, h2, _⟩ := hidden_iff.1 hh
      rw [hall i (List.getElem?_eq_some_iff.1 h1).1] at h2; cases h2
  | succ c ih =>
    intro listed a w ρ hc inv hI hn hd
    have hex : ∃ i, i < hs.length ∧ listed.getD i true = false := by
      have : 0 < unl hs.length listed := by omega
      unfold unl at this
      rw [List.countP_pos_iff] at this
      obtain ⟨i, h1, h2⟩ := this
      exact ⟨i, List.mem_range.1 h1, by simpa using h2⟩
    have hmin : ∀ m, ∀ i, i ≤ m → i < hs.length → listed.getD i true = false → ∃ j, j ∈ Region.ready .any ops listed := by
      intro m
      induction m with
      | zero =>
        intro i hi hlt hu
        obtain rfl : i = 0 := by omega
        have hk := List.all_eq_true.1 hK 0 (List.mem_range.2 hlt)
        split at hk
        · rename_i o ho
          refine ⟨0, mem_ready.2 ⟨hu, o, ho, fun e he hb => ?_⟩⟩
          have := Array.all_eq_true'.1 hk e he
          simp [hb] at this
        · cases hk
      | succ m ihm =>
        intro i hi hlt hu
        have hk := List.all_eq_true.1 hK i (List.mem_range.2 hlt)
        split at hk
        · rename_i o ho
          by_cases hx : ∃ j, j < i ∧ listed.getD j true = false
          · obtain ⟨j, hj, hju⟩ := hx
            exact ihm j (by omega) (by omega) hju
          · refine ⟨i, mem_ready.2 ⟨hu, o, ho, fun e he hb => ?_⟩⟩
            have := Array.all_eq_true'.1 hk e he
            simp only [hb, Bool.not_true, Bool.false_or, decide_eq_true_eq] at this
            cases hle : listed.getD e.on false with
            | true => rfl
            | false =>
              exact absurd ⟨e.on, this, getD_in (by rw [inv.size]; omega) hle⟩ hx
        · cases hk
    obtain ⟨i0, hi0, hu0⟩ := hex
    refine ⟨fun h0 => ?_, fun i hi => ?_⟩
    · obtain ⟨j, hj⟩ := hmin i0 i0 (Nat.le_refl _) hi0 hu0
      rw [h0] at hj; cases hj
    obtain ⟨hiu, oper, hoper, hafter⟩ := mem_ready.1 hi
    have hisz : i < ops.size := (Array.getElem?_eq_some_iff.1 hoper).1
    have hin : i < hs.length := by
      rcases Nat.lt_or_ge i hs.length with h | h
      · exact h
      · omega
    obtain ⟨hd', hhd⟩ : ∃ h, hs[i]? = some h := ⟨hs[i], by simp [hin]⟩
    obtain ⟨oper', ho', hfd, hfg, hfo⟩ := hfit i hd' hhd
    obtain rfl : oper' = oper := by rw [Array.getElem?_toList, hoper] at ho'; simpa using ho'.symm
    have hsee : ∀ n ∈ hd'.reads, get (envL hs stF.env listed) n = get stF.env n := by
      intro n hn
      rw [get_envL, if_neg]
      intro hh
      obtain ⟨j, hj, h1, h2, h3⟩ := hidden_iff.1 hh
      by_cases hij : i ≤ j
      · exact apartL_spec hA i j hd' hj hij hhd h1 n hn h3
      · have hw := waitsB_spec hW (by omega) hhd h1 hn h3
        obtain ⟨oj, hoj, e, he, hb, hon⟩ := Region.waitsFor_spec hw
        obtain rfl : oj = oper' := by rw [hoper] at hoj; simpa using hoj.symm
        have := hafter e he hb
        rw [hon, getD_both h2] at this; cases this
    have hfin : ∀ (M : List (Nat × Blk)) ρ' s' v w', M = (if (listed.setIfInBounds i true).getD s0 true = true then M1 else M0) → Inv C ρ' ⟨envL hs stF.env listed, M⟩ a.tmps w' → RelS w' (bad C.Bo ρ' M) ρ' M s' v → (∀ d, hd'.dst = some d → get stF.env d = some s') →
        wpAny P .any ops Q c (listed.setIfInBounds i true) (a.put oper'.dst v) w' := by
      intro M ρ' s' v w' hMM g1 g2 g3
      obtain ⟨k1, k2, k3⟩ := g1.putD (s := s') (v := v) hfd hn g2
      refine ih _ _ _ ρ' (by have := unl_set hin hiu; omega) (inv.set hi hin) (k1.weak (by rw [putD_M]; exact hMM.symm) fun n x hx => ?_) k2 (by rw [k3]; exact hd)
      show get (putD ⟨envL hs stF.env listed, M⟩ hd'.dst s').env n = some x
      simp only at hx
      rw [get_envL] at hx
      split at hx
      · cases hx
      · rename_i hnh
        rw [get_putD]
        by_cases hdn : hd'.dst = some n
        · rw [if_pos hdn, ← hx]; exact (g3 n hdn).symm
        · rw [if_neg hdn]
          show get (envL hs stF.env listed) n = some x
          rw [get_envL, if_neg]
          · exact hx
          · intro hh
            obtain ⟨j, hj, h1, h2, h3⟩ := hidden_iff.1 hh
            refine hnh (hidden_iff.2 ⟨j, hj, h1, ?_, h3⟩)
            have hji : i ≠ j := by intro e; subst e; rw [hhd] at h1; simp only [Option.some.injEq] at h1; subst h1; exact hdn h3
            rw [Go.getD_set_ne true hji]; exact h2
    by_cases his : i = s0
    · subst his
      rw [hs0] at hhd
      simp only [Option.some.injEq] at hhd
      subst hhd
      rw [hiu] at hI
      simp only [Bool.false_eq_true, if_false] at hI
      have h1 := store_two (st := ⟨stF.env, M0⟩) (st2 := ⟨envL hs stF.env listed, M0⟩) rfl (fun n hn => hsee n (by simp [Head.reads, hn])) hst
      have hgo' : oper'.guard = none := by
        cases hh : oper'.guard with
        | none => rfl
        | some x => rw [hh] at hfg; simp [fitGuard] at hfg
      unfold wpOp
      simp only [hoper]
      rw [if_pos (by simp [Region.wanted, hgo'])]
      refine .inl ((step_ok hR hI h1 hfo).wp fun v w' ⟨ρ', g1, g2⟩ => hfin M1 ρ' sS v w' ?_ g1 g2 fun d hdd => by cases hdd)
      rw [getD_set_true']
      · rfl
      · rw [inv.size]; omega
    obtain ⟨s, hy, hsd⟩ := hfacts i hd' his hhd
    have hfr := hfree i hd' his hhd
    have hmem : (if listed.getD s0 true = true then M1 else M0) = (if (listed.setIfInBounds i true).getD s0 true = true then M1 else M0) := by
      rw [Go.getD_set_ne true his]
    generalize hM : (if listed.getD s0 true = true then M1 else M0) = M at hI hmem
    have hrun : Runs C.G R (get stF.env) M0 hd'.o s → step C.G R hd'.o ⟨envL hs stF.env listed, M⟩ (fun s st' => some (s, st')) = some (s, ⟨envL hs stF.env listed, M⟩) := fun hr =>
      hr _ (.inr hfr) fun n hn => hsee n (by simp [Head.reads, hn])
    have hgo : Runs C.G R (get stF.env) M0 hd'.o s → oper'.wp P a w (wpAny P .any ops Q c (listed.setIfInBounds i true)) Q := fun hr =>
      (step_ok hR hI (hrun hr) hfo).wp fun v w' ⟨ρ', g1, g2⟩ => hfin M ρ' s v w' hmem g1 g2 hsd
    unfold wpOp
    simp only [hoper]
    unfold Yields at hy
    cases hgd : hd'.guard with
    | none =>
      rw [hgd] at hy hfg
      have hgo' : oper'.guard = none := by
        cases hh : oper'.guard with
        | none => rfl
        | some x => rw [hh] at hfg; simp [fitGuard] at hfg
      rw [if_pos (by simp [Region.wanted, hgo'])]
      exact .inl (hgo hy)
    | some gw =>
      obtain ⟨g, want⟩ := gw
      rw [hgd] at hy hfg
      obtain ⟨b, hb, hy⟩ := hy
      have hb' : wantsNow (get (envL hs stF.env listed) g) want = some b := by rw [hsee g (by simp [Head.reads, hgd])]; exact hb
      have hw := guard_ok hI hfg hb' (o := oper') rfl
      cases b
      · rw [if_neg (by rw [hw]; simp)]
        refine hfin M ρ (.imm (.tup [])) undef w hmem hI skip_rel fun d hdd => ?_
        rw [if_neg (by simp)] at hy
        rw [← hy]; exact hsd d hdd
      · rw [if_pos hw]
        rw [if_pos rfl] at hy
        exact .inl (hgo hy)

/-- A region that draws its order. -/
theorem draw_ok (hm : P.follows .mixedOrders = true) (hR : RSound P C.G R) {nt id : Nat} {ops : Array Oper} {Q : Exit → Act → World → Prop} {q tail : List AStep} (hf : fitSteps P nt ops (q ++ tail) ops.toList = true) (hB : drawB ops (headsOf q) = true)
    {α : Type} {K : St → Option α} {r : α} {ρ : Rho} {st : St} {a : Act} {w : World} (hI : Inv C ρ st a.tmps w) (hn : a.tmps.size = nt) (hd : a.defers = [])
    (h : evQ C.G R q st (fun st' => evOps C.G R tail st' K) = some r) (hk : ∀ ρ' st' a' w', K st' = some r → Inv C ρ' st' a'.tmps w' → a'.tmps.size = nt → a'.defers = [] → Q .normal a' w') :
    (Code.region id ops true).wp P Q a w := by
  have hA : apartL (headsOf q) = true := by simp only [drawB, Bool.and_eq_true] at hB; exact hB.1.1.1.1.1
  have hle : (headsOf q).length ≤ ops.size := by simp only [drawB, Bool.and_eq_true] at hB; exact Nat.le_of_ble_eq_true hB.1.1.2
  obtain ⟨stF, h1, h2, h3, h4⟩ := evQ_facts hA h
  refine wp_region_any hm ?_
  have hI' : Inv C ρ st a.tmps { w with drawn := w.drawn + 1 } := hI.grow ⟨Nat.le_refl _, fun _ _ _ => rfl, ⟨rfl, rfl, rfl⟩⟩
  have hun : unl (headsOf q).length (Array.replicate ops.size false) = (headsOf q).length := by
    unfold unl
    rw [List.countP_eq_length.2]
    · simp
    · intro i hi
      have := List.mem_range.1 hi
      simp [show i < ops.size by omega]
  have := draw_any (Q := Q) hR hf hB h2 h3 (fun ρ' a' w' g1 g2 g3 => evOps_ok hR (fitSteps_heads hf).2 g1 g2 h1 fun ρ2 st2 a2 w2 m1 m2 m3 m4 => hk ρ2 st2 a2 w2 m1 m2 m3 (m4.trans g3))
    (headsOf q).length (Array.replicate ops.size false) a { w with drawn := w.drawn + 1 } ρ hun
    ⟨by simp, fun j oj _ hl => (by rw [getD_replicate_false] at hl; cases hl), fun t _ ht => getD_in (by simpa using ht) (getD_replicate_false _ _)⟩
    (hI'.weak rfl fun n s hs => ?_) hn hd
  · rw [show (headsOf q).length + (ops.size - (headsOf q).length) = ops.size by omega] at this
    exact this
  · simp only at hs
    rw [get_envL] at hs
    split at hs
    · cases hs
    · rename_i hnh
      rw [← h4 n fun k hk hkd => ?_]
      · exact hs
      · obtain ⟨i, hi⟩ := List.mem_iff_getElem?.1 hk
        refine hnh (hidden_iff.2 ⟨i, k, hi, ?_, hkd⟩)
        have := (List.getElem?_eq_some_iff.1 hi).1
        simp [show i < ops.size by omega]
theorem headsOf_append : ∀ q1 q2 : List AStep, headsOf (q1 ++ q2) = headsOf q1 ++ headsOf q2
  | [], _ => rfl
  | .split _ :: r, q2 => by simp only [List.cons_append, headsOf]; exact headsOf_append r q2
  | .op d g o :: r, q2 => by simp only [List.cons_append, headsOf, headsOf_append r q2]
/-- Operations without memory, in whatever order, with one store among them. -/
def drawS (ops : Array Oper) (h1 h2 : List Head) (x y : AO) (sz : Nat) : Bool :=
  apartL (h1 ++ ⟨none, none, .store x y sz⟩ :: h2) && waitsB ops (h1 ++ ⟨none, none, .store x y sz⟩ :: h2) && backB ops (h1 ++ ⟨none, none, .store x y sz⟩ :: h2).length && Nat.beq (h1 ++ ⟨none, none, .store x y sz⟩ :: h2).length ops.size &&
    Region.seqB .any ops 0 (h1 ++ ⟨none, none, .store x y sz⟩ :: h2).length (doneL (h1 ++ ⟨none, none, .store x y sz⟩ :: h2).length 0) && (h1 ++ h2).all (fun h => isFree h.o) && apartL (h1 ++ h2)

theorem draw_okS (hm : P.follows .mixedOrders = true) (hR : RSound P C.G R) {nt id : Nat} {ops : Array Oper} {Q : Exit → Act → World → Prop} {q1 q2 : List AStep} {x y : AO} {sz : Nat} (hf : fitSteps P nt ops (q1 ++ .op none none (.store x y sz) :: q2) ops.toList = true) (hB : drawS ops (headsOf q1) (headsOf q2) x y sz = true)
    {α : Type} {K : St → Option α} {r : α} {ρ : Rho} {st : St} {a : Act} {w : World} (hI : Inv C ρ st a.tmps w) (hn : a.tmps.size = nt) (hd : a.defers = [])
    (h : evQ C.G R (q1 ++ q2) st (fun st' => evOps C.G R [.op none none (.store x y sz)] st' K) = some r) (hk : ∀ ρ' st' a' w', K st' = some r → Inv C ρ' st' a'.tmps w' → a'.tmps.size = nt → a'.defers = [] → Q .normal a' w') :
    (Code.region id ops true).wp P Q a w := by
  simp only [drawS, Bool.and_eq_true] at hB
  obtain ⟨⟨⟨⟨⟨⟨hA, hW⟩, hK⟩, hT⟩, hS⟩, hF⟩, hA2⟩ := hB
  have hT := Nat.eq_of_beq_eq_true hT
  obtain ⟨stF, h1, h2, h3, h4⟩ := evQ_facts (by rw [headsOf_append]; exact hA2) h
  rw [headsOf_append] at h3 h4
  have hfit := (fitSteps_heads (q := q1 ++ .op none none (.store x y sz) :: q2) (tail := []) (by simpa using hf)).1
  rw [headsOf_append] at hfit
  simp only [headsOf] at hfit
  simp only [evOps, after_eq, putD] at h1
  rw [step_par, Option.bind_eq_some_iff] at h1
  obtain ⟨⟨sS, st1⟩, g1, g2⟩ := h1
  have genv := store_env g1
  obtain ⟨e1, M1⟩ := st1
  simp only at genv g2
  subst genv
  obtain ⟨eF, MF⟩ := stF
  simp only at h2
  subst h2
  generalize hs1 : headsOf q1 = l1 at *
  generalize hs2 : headsOf q2 = l2 at *
  have hs0 : (l1 ++ (⟨none, none, .store x y sz⟩ : Head) :: l2)[l1.length]? = some (⟨none, none, .store x y sz⟩ : Head) := by simp
  have shift : ∀ (i : Nat) (h : Head), i ≠ l1.length → (l1 ++ (⟨none, none, .store x y sz⟩ : Head) :: l2)[i]? = some h → ∃ j : Nat, (l1 ++ l2)[j]? = some h := by
    intro i h hi hh
    by_cases hlt : i < l1.length
    · rw [List.getElem?_append_left hlt] at hh
      exact ⟨i, by rw [List.getElem?_append_left hlt]; exact hh⟩
    · rw [List.getElem?_append_right (by omega)] at hh
      obtain ⟨k, hk⟩ : ∃ k, i - l1.length = k + 1 := ⟨i - l1.length - 1, by omega⟩
      rw [hk, List.getElem?_cons_succ] at hh
      exact ⟨l1.length + k, by rw [List.getElem?_append_right (by omega), Nat.add_sub_cancel_left]; exact hh⟩
  refine wp_region_any hm ?_
  have hI' : Inv C ρ st a.tmps { w with drawn := w.drawn + 1 } := hI.grow ⟨Nat.le_refl _, fun _ _ _ => rfl, ⟨rfl, rfl, rfl⟩⟩
  generalize hhs : l1 ++ (⟨none, none, .store x y sz⟩ : Head) :: l2 = hs at *
  have hun : unl hs.length (Array.replicate ops.size false) = hs.length := by
    unfold unl
    rw [List.countP_eq_length.2]
    · simp
    · intro i hi
      have := List.mem_range.1 hi
      simp [show i < ops.size by omega]
  have hl0 : l1.length < hs.length := (List.getElem?_eq_some_iff.1 hs0).1
  have := draw_anyS (Q := Q) (M0 := st.M) (M1 := M1) (stF := ⟨eF, st.M⟩) hR hfit hs0 (fun i h hi hh => by
      obtain ⟨j, hj⟩ := shift i h hi hh
      exact List.all_eq_true.1 hF h (List.mem_of_getElem? hj)) hA hW hK hT hS (fun i h hi hh => by
      obtain ⟨j, hj⟩ := shift i h hi hh
      exact h3 j h hj) g1 (fun ρ' a' w' k1 k2 k3 => hk ρ' _ a' w' g2 k1 k2 k3)
    hs.length (Array.replicate ops.size false) a { w with drawn := w.drawn + 1 } ρ hun
    ⟨by simp, fun j oj _ hl => (by rw [getD_replicate_false] at hl; cases hl), fun t _ ht => getD_in (by simpa using ht) (getD_replicate_false _ _)⟩
    (hI'.weak (by simp [show l1.length < ops.size by omega]) fun n s hss => ?_) hn hd
  · rw [hT] at this
    exact this
  · simp only at hss
    rw [get_envL] at hss
    split at hss
    · cases hss
    · rename_i hnh
      rw [← h4 n fun k hk hkd => ?_]
      · exact hss
      · obtain ⟨j, hj⟩ := List.mem_iff_getElem?.1 hk
        have : ∃ i : Nat, hs[i]? = some k := by
          rw [← hhs]
          by_cases hlt : j < l1.length
          · exact ⟨j, by rw [List.getElem?_append_left hlt] at hj ⊢; exact hj⟩
          · rw [List.getElem?_append_right (by omega)] at hj
            exact ⟨j + 1, by rw [List.getElem?_append_right (by omega), show j + 1 - l1.length = (j - l1.length) + 1 by omega, List.getElem?_cons_succ]; exact hj⟩
        obtain ⟨i, hi⟩ := this
        refine hnh (hidden_iff.2 ⟨i, k, hi, ?_, hkd⟩)
        have := (List.getElem?_eq_some_iff.1 hi).1
        simp [show i < ops.size by omega]
end code
theorem setM_setM (M : List (Nat × Blk)) (t : Nat) (b b' : Blk) : setM (setM M t b) t b' = setM M t b' := by
  unfold setM
  rw [List.filter_cons]
  simp

theorem get_killE (t n : Nat) (env : List (Nat × SV)) : get (killE t env) n = (get env n).map (SV.kill t) := get_map _ _ _
theorem kill_of {t : Nat} {s : SV} (h : s.ment t = false) : s.kill t = s := by unfold SV.kill; rw [h]; rfl
theorem kill2 (t : Nat) (s : SV) : (s.kill t).kill t = s.kill t := by
  unfold SV.kill
  cases h : s.ment t
  · simp only [cond_false]; rw [h]; rfl
  · simp only [cond_true]; rfl
theorem get_killE2 (t n : Nat) (env : List (Nat × SV)) : get (killE t (killE t env)) n = (get env n).map (SV.kill t) := by
  rw [get_killE, get_killE]
  cases get env n with
  | none => rfl
  | some s => simp only [Option.map_some, kill2]

theorem app_two {G : List (Nat × List AV)} {R : Nat → List AV → Option Res} {t sz : Nat} {x y : AO} {ty : Ty} {by_ : Bool} {st st2 : St} (hM : st2.M = st.M) (hr : ∀ n ∈ (AOp.app t x y sz ty by_).reads, get st2.env n = get st.env n)
    {off len : Nat} {cap : Option Nat} (hx : x.ev G st = some (.own t off len cap)) {s : SV} {st' : St}
    (h : step G R (.app t x y sz ty by_) st (fun s st' => some (s, st')) = some (s, st')) :
    step G R (.app t x y sz ty by_) st2 (fun s st' => some (s, st')) = some (s, ⟨killE t (killE t st2.env), st'.M⟩) ∧ st'.env = killE t (killE t st.env) := by
  simp only [AOp.reads, List.mem_append] at hr
  have hx2 : x.ev G st2 = some (.own t off len cap) := (ev_reads fun n hn => hr n (.inl hn)).trans hx
  have hy2 : y.ev G st2 = y.ev G st := ev_reads fun n hn => hr n (.inr hn)
  simp only [step] at h ⊢
  rw [hx] at h
  rw [hx2, hy2, hM]
  simp only [Option.bind_some, Option.bind_eq_some_iff] at h
  obtain ⟨u, hu, p, hp, b, hb, h⟩ := h
  rw [hu]; simp only [Option.bind_some]; rw [hp]; simp only [Option.bind_some]; rw [hb]; simp only [Option.bind_some]
  cases hf : b.fz
  · rw [hf] at h
    simp only [cond_false, Option.bind_eq_some_iff] at h ⊢
    obtain ⟨v, hv, h⟩ := h
    obtain ⟨pa, pM⟩ := p
    revert h
    cases by_ <;> cases v <;> cases pa <;> intro h <;> first | (cases h; done) | skip
    all_goals
      obtain ⟨hn, h⟩ := need_some h
      simp only [Option.some.injEq, Prod.mk.injEq] at h
      obtain ⟨rfl, rfl⟩ := h
      refine ⟨⟨_, hv, ?_⟩, rfl⟩
      show need _ _ = _
      rw [hn]; rfl
  · rw [hf] at h; cases h

/-- No head but one writes to its destination. -/
theorem apartL_dst : ∀ {hs : List Head}, apartL hs = true → ∀ (i j : Nat) (hi hj : Head), i ≠ j → hs[i]? = some hi → hs[j]? = some hj → ∀ d, hi.dst = some d → hj.dst ≠ some d
  | [], _, i, j, hi, hj, _, h1, _, d, _ => by simp at h1
  | h :: hs, hA, i, j, hi, hj, hij, h1, h2, d, hd => by
    simp only [apartL, Bool.and_eq_true, List.all_eq_true, Bool.not_eq_true'] at hA
    obtain ⟨⟨_, hA2⟩, hA3⟩ := hA
    cases i with
    | zero =>
      cases j with
      | zero => exact absurd rfl hij
      | succ j =>
        simp only [List.getElem?_cons_zero, Option.some.injEq, List.getElem?_cons_succ] at h1 h2
        subst h1
        have := hA2 hj (List.mem_of_getElem? h2)
        rw [hd] at this
        exact isD_false.1 (by simpa using this)
    | succ i =>
      cases j with
      | zero =>
        simp only [List.getElem?_cons_zero, Option.some.injEq, List.getElem?_cons_succ] at h1 h2
        subst h2
        have := hA2 hi (List.mem_of_getElem? h1)
        intro e
        rw [e] at this
        exact isD_false.1 (by simpa using this) hd
      | succ j =>
        simp only [List.getElem?_cons_succ] at h1 h2
        exact apartL_dst hA3 i j hi hj (by omega) h1 h2 d hd

section code
variable {P : Program} {C : Cx} {R : Nat → List AV → Option Res}

def inW (ws : List Nat) (h : Head) : Bool := match h.dst with | some d => ws.any fun n => Nat.beq n d | none => false
def cleanS (t : Nat) (env : List (Nat × SV)) (n : Nat) : Bool := match get env n with | some s => !s.ment t | none => true
/-- What may come behind the growing has nothing to do with the row. -/
def cleanA (ws : List Nat) (t : Nat) (env : List (Nat × SV)) (hs : List Head) : Bool := hs.all fun h => inW ws h || (h.reads.all (cleanS t env) && (match h.dst with | some d => cleanS t env d | none => true))
def ownIs (G : List (Nat × List AV)) (st : St) (x : AO) (t : Nat) : Bool := match x.ev G st with | some (.own u _ _ _) => Nat.beq u t | _ => false
theorem apartL_drop : ∀ {h1 h2 : List Head} {k : Head}, apartL (h1 ++ k :: h2) = true → apartL (h1 ++ h2) = true
  | [], h2, k, h => by simp only [List.nil_append, apartL, Bool.and_eq_true] at h ⊢; exact h.2
  | a :: h1, h2, k, h => by
    simp only [List.cons_append, apartL, Bool.and_eq_true, List.all_eq_true] at h ⊢
    refine ⟨⟨fun x hx => h.1.1 x ?_, fun x hx => h.1.2 x ?_⟩, apartL_drop h.2⟩
    · rcases List.mem_cons.1 hx with rfl | hx
      · exact List.mem_cons_self
      · refine List.mem_cons_of_mem _ ?_
        rcases List.mem_append.1 hx with hx | hx
        · exact List.mem_append_left _ hx
        · exact List.mem_append_right _ (List.mem_cons_of_mem _ hx)
    · rcases List.mem_append.1 hx with hx | hx
      · exact List.mem_append_left _ hx
      · exact List.mem_append_right _ (List.mem_cons_of_mem _ hx)

end code

/-- Keys of two strings. -/
def keyS : AV → Bool
  | .agg [.str _, .str _] => true
  | _ => false
def eqKS : AV → AV → Option Bool
  | .agg xs, .agg ys => eqLs [2, 2] xs ys
  | _, _ => none
def isI64 : AV → Bool
  | .int .i64 _ => true
  | _ => false
def knownS (a : AV) (es : List (AV × AV)) : Bool := es.all fun p => (eqKS a p.1).isSome && isI64 p.2
def sameS (a b : AV) : Bool := match eqKS a b with | some r => r | none => false
def hasS (a : AV) (es : List (AV × AV)) : Bool := es.any fun p => sameS a p.1
def intV : AV → Int
  | .int _ n => n
  | _ => 0
def valS (a : AV) : List (AV × AV) → Int
  | [] => 0
  | p :: r => bif sameS a p.1 then intV p.2 else valS a r
def ensS (a : AV) (es : List (AV × AV)) : List (AV × AV) := bif hasS a es then es else es ++ [(a, .int .i64 0)]
def setS (a v : AV) : List (AV × AV) → List (AV × AV)
  | [] => []
  | p :: r => bif sameS a p.1 then (p.1, v) :: r else p :: setS a v r
/-- One more at a key. -/
def incS (a : AV) (es : List (AV × AV)) : List (AV × AV) := setS a (.int .i64 (IntKind.i64.wrap (valS a es + 1))) (ensS a es)

theorem keyS_ok {a : AV} (h : keyS a = true) : ∃ s t, a = .agg [.str s, .str t] := by
  unfold keyS at h
  split at h
  · exact ⟨_, _, rfl⟩
  · cases h
theorem eqKS_key {s t : List UInt8} {b : AV} {r : Bool} (h : eqKS (.agg [.str s, .str t]) b = some r) : ∃ s' t', b = .agg [.str s', .str t'] ∧ r = ((s == s') && ((t == t') && true)) := by
  cases b <;> simp only [eqKS, reduceCtorEq] at h
  rename_i ys
  match ys, h with
  | [], h => simp [eqLs] at h
  | [y], h => simp [eqLs] at h
  | [y0, y1], h =>
    simp only [eqLs, Option.bind_eq_some_iff, Option.some.injEq] at h
    obtain ⟨b0, h0, b1, ⟨b2, h2, b3, rfl, rfl⟩, rfl⟩ := h
    cases y0 <;> simp only [eqLeaf, reduceCtorEq, Option.some.injEq] at h0
    cases y1 <;> simp only [eqLeaf, reduceCtorEq, Option.some.injEq] at h2
    exact ⟨_, _, rfl, by rw [← h0, ← h2]⟩
  | y0 :: y1 :: y2 :: ys, h => simp [eqLs] at h
theorem eqKS_pv {a b : AV} (ha : keyS a = true) {r : Bool} (h : eqKS a b = some r) : (r = true ↔ b.pv = a.pv) ∧ keyS b = true ∧ b.plainV = true := by
  obtain ⟨s, t, rfl⟩ := keyS_ok ha
  obtain ⟨s', t', rfl, rfl⟩ := eqKS_key h
  refine ⟨?_, rfl, rfl⟩
  simp only [AV.pv, List.map_cons, List.map_nil, AV.apv, Value.agg.injEq, Bool.and_true, Bool.and_eq_true, beq_iff_eq]
  constructor
  · rintro ⟨rfl, rfl⟩; rfl
  · intro e
    have := congrArg Array.toList e
    simp only [List.cons.injEq, Value.string.injEq, ByteArray.mk.injEq, and_true] at this
    obtain ⟨h1, h2⟩ := this
    exact ⟨by simpa using h1.symm, by simpa using h2.symm⟩
theorem sameS_iff {a b : AV} (ha : keyS a = true) (h : (eqKS a b).isSome = true) : sameS a b = true ↔ b.pv = a.pv := by
  obtain ⟨r, hr⟩ := Option.isSome_iff_exists.1 h
  rw [← (eqKS_pv ha hr).1]
  unfold sameS
  rw [hr]

section model
variable {P : Program} {w : World}

theorem structOk_two {t : TypeId} (h : structOk P t [2, 2] = true) : ∃ f0 f1, P.underlying t = some (.struct #[f0, f1]) ∧ fieldsOk P [f0, f1] 0 [2, 2] = true ∧ P.stoodInHeld t = false ∧ P.eqGuardType P.depth t = false := by
  unfold structOk at h
  split at h
  · rename_i fs hu
    simp only [Bool.and_eq_true, Bool.not_eq_true'] at h
    obtain ⟨⟨h1, h2⟩, h3⟩ := h
    obtain ⟨l⟩ := fs
    match l, h1 with
    | [], h1 => simp [fieldsOk] at h1
    | [f], h1 => simp [fieldsOk] at h1
    | [f0, f1], h1 => exact ⟨f0, f1, hu, h1, h2, h3⟩
    | f0 :: f1 :: f2 :: r, h1 => simp [fieldsOk] at h1
  · cases h
theorem run_keyEq {t : TypeId} (h : structOk P t [2, 2] = true) {a b : AV} (ha : keyS a = true) {r : Bool} (hr : eqKS a b = some r) : (Op.equal t a.pv b.pv).run P w = .ok r w := by
  obtain ⟨f0, f1, hu, hf, hp, _⟩ := structOk_two h
  obtain ⟨_, hb, _⟩ := eqKS_pv ha hr
  obtain ⟨s, t1, rfl⟩ := keyS_ok ha
  obtain ⟨s', t', rfl⟩ := keyS_ok hb
  have hfs : P.fieldsOf t = #[f0, f1] := by unfold Program.fieldsOf; rw [hu]
  show (Op.equalIn 10000 t _ _).run P w = _
  refine (run_equalIn_agg w 9999 t _ _ (by rw [hfs]; exact hu) hp).trans ?_
  rw [hfs]
  exact eqLs_ok (d := 9998) (B := fun _ => False) hf hr (AV.apv_relL rfl) (AV.apv_relL rfl) (fun j v hj => by simpa using hj) (fun j v hj => by simpa using hj)
theorem run_findAsking {t : TypeId} (h : structOk P t [2, 2] = true) {a : AV} (ha : keyS a = true) : ∀ (l : List MapEntry) (i : Nat), (∀ x ∈ l, ∃ b, x.key = AV.pv b ∧ (eqKS a b).isSome = true) →
    ((Instr.findAsking t a.pv l i).run P w = .ok none w ∧ ∀ x ∈ l, x.key ≠ a.pv) ∨ ∃ (j : Nat) (e : MapEntry), (Instr.findAsking t a.pv l i).run P w = .ok (some (i + j, e.val)) w ∧ l[j]? = some e ∧ e.key = a.pv
  | [], i, _ => .inl ⟨rfl, by simp⟩
  | e :: es, i, hx => by
    obtain ⟨b, hb, hs⟩ := hx e List.mem_cons_self
    obtain ⟨r, hr⟩ := Option.isSome_iff_exists.1 hs
    have hq := run_keyEq (w := w) h ha hr
    have hiff := (eqKS_pv ha hr).1
    rw [← hb] at hq hiff
    cases r with
    | true =>
      refine .inr ⟨0, e, ?_, rfl, hiff.1 rfl⟩
      unfold Instr.findAsking
      simp [Sem.run_bind, hq, Result.andThen]
    | false =>
      have hne : e.key ≠ a.pv := fun q => by have := hiff.2 q; cases this
      rcases run_findAsking h ha es (i + 1) (fun x hx' => hx x (List.mem_cons_of_mem _ hx')) with ⟨h1, h2⟩ | ⟨j, e', h1, h2, h3⟩
      · refine .inl ⟨?_, fun x hx' => ?_⟩
        · unfold Instr.findAsking
          simp [Sem.run_bind, hq, Result.andThen, h1]
        · rcases List.mem_cons.1 hx' with rfl | hx'
          · exact hne
          · exact h2 x hx'
      · refine .inr ⟨j + 1, e', ?_, by simpa using h2, h3⟩
        unfold Instr.findAsking
        simp [Sem.run_bind, hq, Result.andThen, h1]
        omega
theorem run_findKeyS {t : TypeId} (h : structOk P t [2, 2] = true) {a : AV} (ha : keyS a = true) (l : List MapEntry) (hx : ∀ x ∈ l, ∃ b, x.key = AV.pv b ∧ (eqKS a b).isSome = true) :
    ((Instr.findKey t a.pv l).run P w = .ok none w ∧ ∀ x ∈ l, x.key ≠ a.pv) ∨ ∃ (j : Nat) (e : MapEntry), (Instr.findKey t a.pv l).run P w = .ok (some (j, e.val)) w ∧ l[j]? = some e ∧ e.key = a.pv := by
  obtain ⟨f0, f1, hu, _⟩ := structOk_two h
  cases l with
  | nil =>
    refine .inl ⟨?_, by simp⟩
    simp [Instr.findKey, run_underlying hu, Result.andThen, Instr.findNow]
  | cons e es =>
    have hnow : Instr.findNow (.struct #[f0, f1]) a.pv (e :: es) 0 = none := by
      simp [Instr.findNow, Instr.sameNow]
    have e1 : (Instr.findKey t a.pv (e :: es)).run P w = (Instr.findAsking t a.pv (e :: es) 0).run P w := by
      simp [Instr.findKey, run_underlying hu, Result.andThen, hnow]
    rw [e1]
    rcases run_findAsking (w := w) h ha (e :: es) 0 hx with h1 | ⟨j, e', h1, h2, h3⟩
    · exact .inl h1
    · exact .inr ⟨j, e', by rw [Nat.zero_add] at h1; exact h1, h2, h3⟩
theorem run_checkKeyS {t : TypeId} (h : structOk P t [2, 2] = true) {a : AV} (ha : keyS a = true) (em : Bool) : (Instr.checkKey em 10000 t a.pv).run P w = .ok () w := by
  obtain ⟨f0, f1, hu, hf, _⟩ := structOk_two h
  obtain ⟨s, t', rfl⟩ := keyS_ok ha
  simp only [fieldsOk, Bool.and_eq_true, Bool.not_eq_true'] at hf
  obtain ⟨⟨⟨n0, o0⟩, k0⟩, ⟨⟨n1, o1⟩, k1⟩, _⟩ := hf
  have o0 := Nat.eq_of_beq_eq_true o0
  have o1 := Nat.eq_of_beq_eq_true o1
  have m0 : f0.name ≠ "_" := by simpa using n0
  have m1 : f1.name ≠ "_" := by simpa using n1
  have u0 := isStr_ok k0
  have u1 := isStr_ok k1
  have leaf : ∀ (ty : TypeId) (v : Value), P.underlying ty = some .string → (Instr.checkKey em 9999 ty v).run P w = .ok () w := by
    intro ty v hty
    show (Instr.checkKey em (9998 + 1) ty v).run P w = _
    unfold Instr.checkKey
    simp only [Sem.run_bind, run_underlying hty, Result.andThen]
    rfl
  have part0 : (part f0.type #[(AV.str s).apv, (AV.str t').apv] f0.offset).run P w = .ok (AV.str s).apv w := by
    simp [part, isAgg, run_underlying u0, o0, Result.andThen]
  have part1 : (part f1.type #[(AV.str s).apv, (AV.str t').apv] f1.offset).run P w = .ok (AV.str t').apv w := by
    simp [part, isAgg, run_underlying u1, o1, Result.andThen]
  show (Instr.checkKey em (9999 + 1) t (.agg #[(AV.str s).apv, (AV.str t').apv])).run P w = _
  unfold Instr.checkKey
  simp [Sem.run_bind, run_underlying hu, Result.andThen, m0, m1, part0, part1, leaf _ _ u0, leaf _ _ u1]

theorem nodup_inj {α β : Type} {f : α → β} : ∀ {l : List α}, (l.map f).Nodup → ∀ {x y : α}, x ∈ l → y ∈ l → f x = f y → x = y
  | [], _, x, y, hx, _, _ => by cases hx
  | z :: l, h, x, y, hx, hy, e => by
    rw [List.map_cons, List.nodup_cons] at h
    rcases List.mem_cons.1 hx with e1 | hx'
    · rcases List.mem_cons.1 hy with e2 | hy'
      · rw [e1, e2]
      · exact absurd (List.mem_map.2 ⟨y, hy', by rw [← e, e1]⟩) h.1
    · rcases List.mem_cons.1 hy with e2 | hy'
      · exact absurd (List.mem_map.2 ⟨x, hx', by rw [e, e2]⟩) h.1
      · exact nodup_inj h.2 hx' hy' e
theorem keys_nodup {mes : Array MapEntry} {clock : Nat} {es : List (AV × AV)} (h2 : (mes.toList.map entV).Perm (es.map entA)) (h3 : MapKept.Stamped mes clock) : (es.map fun p => p.1.pv).Nodup := by
  have h4 := (h2.map Prod.fst)
  rw [List.map_map, List.map_map] at h4
  have h5 : (mes.toList.map (Prod.fst ∘ entV)).Nodup := h3.2.2
  exact (h4.nodup_iff).1 h5
theorem knownS_mem {a : AV} {es : List (AV × AV)} (h : knownS a es = true) {p : AV × AV} (hp : p ∈ es) : (eqKS a p.1).isSome = true ∧ ∃ n, p.2 = .int .i64 n := by
  have := List.all_eq_true.1 h p hp
  rw [Bool.and_eq_true] at this
  refine ⟨this.1, ?_⟩
  have h2 := this.2
  unfold isI64 at h2
  split at h2
  · rename_i n heq; exact ⟨n, heq⟩
  · cases h2
theorem valS_spec {a : AV} (ha : keyS a = true) : ∀ {es : List (AV × AV)}, knownS a es = true → ((∀ p ∈ es, p.1.pv ≠ a.pv) ∧ valS a es = 0 ∧ hasS a es = false) ∨ ∃ p ∈ es, p.1.pv = a.pv ∧ valS a es = intV p.2 ∧ hasS a es = true
  | [], _ => .inl ⟨by simp, rfl, rfl⟩
  | p :: r, h => by
    have hp := knownS_mem h (p := p) List.mem_cons_self
    have hiff := sameS_iff ha hp.1
    have hr : knownS a r = true := by
      unfold knownS at h ⊢
      rw [List.all_cons, Bool.and_eq_true] at h; exact h.2
    cases hs : sameS a p.1 with
    | true =>
      refine .inr ⟨p, List.mem_cons_self, hiff.1 hs, ?_, ?_⟩
      · simp only [valS, hs, cond_true]
      · unfold hasS; rw [List.any_cons, hs]; rfl
    | false =>
      have hne : p.1.pv ≠ a.pv := fun e => by rw [hiff.2 e] at hs; cases hs
      rcases valS_spec ha hr with ⟨i1, i2, i3⟩ | ⟨q, i1, i2, i3, i4⟩
      · refine .inl ⟨fun q hq => ?_, ?_, ?_⟩
        · rcases List.mem_cons.1 hq with rfl | hq
          · exact hne
          · exact i1 q hq
        · simp only [valS, hs, cond_false]; exact i2
        · unfold hasS at i3 ⊢; rw [List.any_cons, hs, i3]; rfl
      · refine .inr ⟨q, List.mem_cons_of_mem _ i1, i2, ?_, ?_⟩
        · simp only [valS, hs, cond_false]; exact i3
        · unfold hasS at i4 ⊢; rw [List.any_cons, i4, Bool.or_true]
theorem run_zero0 {T kk e : TypeId} (hTT : P.underlying T = some (.map kk e)) (hT : lookTy P T (.int .i64 0) = true) : (zeroValue e).run P w = .ok (.int .i64 0) w := by
  unfold lookTy at hT
  rw [hTT] at hT
  simp only at hT
  split at hT
  · rename_i i hi
    split at hT
    · rename_i u hu
      have hr : RelL w (fun _ => False) [.int .i64 0] [u] := fitVs_ok hT
      cases hr with
      | cons _ _ _ _ hr _ =>
      have := hr.pv rfl
      subst this
      unfold zeroValue
      rw [run_bind_ok (run_typeInfo hi), hu]; rfl
    · cases hT
  · cases hT
theorem mes_known {mes : Array MapEntry} {es : List (AV × AV)} {a : AV} (h2 : (mes.toList.map entV).Perm (es.map entA)) (hn : knownS a es = true) : ∀ x ∈ mes.toList, ∃ b, x.key = AV.pv b ∧ (eqKS a b).isSome = true := by
  intro x hx
  obtain ⟨p, hp, e1, _⟩ := ents_mem h2 hx
  exact ⟨p.1, e1, (knownS_mem hn hp).1⟩
/-- What is at a key, or nought. -/
theorem MapAt.lookS {b : Nat} {es : List (AV × AV)} {T : TypeId} {a : AV} (h : MapAt w b es) {kk e : TypeId} (hTT : P.underlying T = some (.map kk e)) (hk : structOk P kk [2, 2] = true) (he : lookTy P T (.int .i64 0) = true) (ha : keyS a = true) (hn : knownS a es = true) :
    (Instr.lookup T (.map (some b)) a.pv false).run P w = .ok (.int .i64 (valS a es)) w := by
  obtain ⟨mes, clock, h1, h2, h3, h4⟩ := h
  have hc := run_checkKeyS (P := P) (w := w) hk ha mes.isEmpty
  have hz := run_zero0 (P := P) (w := w) hTT he
  have hv := valS_spec ha hn
  rcases run_findKeyS (P := P) (w := w) hk ha mes.toList (mes_known h2 hn) with ⟨f1, f2⟩ | ⟨j, x, f1, f2, f3⟩
  · have e0 : valS a es = 0 := by
      rcases hv with ⟨_, e, _⟩ | ⟨p, hp, e1, _⟩
      · exact e
      · obtain ⟨x, hx, e2, _⟩ := ents_mem' h2 hp
        exact absurd (e2.trans e1) (f2 x hx)
    rw [e0]
    simp [Instr.lookup, run_underlying hTT, MapKept.run_getObj_map h1, Result.andThen, hc, f1, hz]
  · obtain ⟨q, hq, e1, e2⟩ := ents_mem h2 (List.mem_of_getElem? f2)
    have e3 : x.val = .int .i64 (valS a es) := by
      rcases hv with ⟨g1, _⟩ | ⟨p, hp, g1, g2, _⟩
      · exact absurd (e1.symm.trans f3) (g1 q hq)
      · have := nodup_inj (keys_nodup h2 h3) hq hp (e1.symm.trans (f3.trans g1.symm))
        subst this
        obtain ⟨n, hn'⟩ := (knownS_mem hn hq).2
        rw [e2, g2, hn']; rfl
    rw [← e3]
    simp [Instr.lookup, run_underlying hTT, MapKept.run_getObj_map h1, Result.andThen, hc, f1]
/-- An entry with this stamp has this key. -/
def StampAt (w : World) (b : Nat) (a : AV) (st : Int) : Prop := ∃ (mes : Array MapEntry) (clock j : Nat) (x : MapEntry), w.heap[b]? = some (.map mes clock) ∧ mes[j]? = some x ∧ (x.born : Int) = st ∧ x.key = a.pv
theorem sameBits_S {a : AV} (ha : keyS a = true) : Instr.sameBits 10000 a.pv a.pv = true := by
  obtain ⟨s, t, rfl⟩ := keyS_ok ha
  simp [AV.pv, AV.apv, Instr.sameBits, MapKept.bytes_beq]
/-- The entry at a key, made if there is none. -/
theorem MapAt.entS {b : Nat} {es : List (AV × AV)} {T : TypeId} {a : AV} (h : MapAt w b es) {kk e : TypeId} (hTT : P.underlying T = some (.map kk e)) (hk : structOk P kk [2, 2] = true) (he : lookTy P T (.int .i64 0) = true) (ha : keyS a = true) (hn : knownS a es = true) :
    ∃ o v st, (Instr.mapEntry T (.map (some b)) a.pv).run P w = .ok (.tuple #[v, .int .i64 st]) (setBlk w b o) ∧ MapAt (setBlk w b o) b (ensS a es) ∧ StampAt (setBlk w b o) b a st := by
  obtain ⟨mes, clock, h1, h2, h3, h4⟩ := h
  have hc := run_checkKeyS (P := P) (w := w) hk ha false
  have hz := run_zero0 (P := P) (w := w) hTT he
  have hv := valS_spec ha hn
  rcases run_findKeyS (P := P) (w := w) hk ha mes.toList (mes_known h2 hn) with ⟨f1, f2⟩ | ⟨j, x, f1, f2, f3⟩
  · have e0 : hasS a es = false := by
      rcases hv with ⟨_, _, e⟩ | ⟨p, hp, e1, _⟩
      · exact e
      · obtain ⟨x, hx, e2, _⟩ := ents_mem' h2 hp
        exact absurd (e2.trans e1) (f2 x hx)
    have e1 : ensS a es = es ++ [(a, .int .i64 0)] := by unfold ensS; rw [e0]; rfl
    rw [e1]
    refine ⟨.map (mes.push ⟨a.pv, .int .i64 0, clock⟩) (clock + 1), .int .i64 0, clock, ?_, ⟨mes.push ⟨a.pv, .int .i64 0, clock⟩, clock + 1, heap_setBlk (lt_of_get h1), ?_, MapKept.stamped_push h3 fun x hx => f2 x hx, ?_⟩, ⟨_, _, mes.size, ⟨a.pv, .int .i64 0, clock⟩, heap_setBlk (lt_of_get h1), by simp, rfl, rfl⟩⟩
    · simp [Instr.mapEntry, run_underlying hTT, MapKept.run_getObj_map h1, Result.andThen, hc, f1, hz, MapKept.run_setObj_map _ h1, setBlk, goInt]
    · rw [Array.toList_push, List.map_append, List.map_append]
      exact h2.append (List.Perm.refl _)
    · intro p hp
      rcases List.mem_append.1 hp with hp | hp
      · exact h4 p hp
      · obtain rfl := List.mem_singleton.1 hp
        obtain ⟨s, t, rfl⟩ := keyS_ok ha
        exact ⟨rfl, rfl⟩
  · have hj : j < mes.size := by
      have := (List.getElem?_eq_some_iff.1 f2).1
      simpa using this
    have hx : mes[j]? = some x := by rw [← f2, Array.getElem?_toList]
    have e0 : ensS a es = es := by
      unfold ensS
      rcases hv with ⟨g1, _⟩ | ⟨p, hp, g1, g2, g3⟩
      · obtain ⟨q, hq, e1, _⟩ := ents_mem h2 (List.mem_of_getElem? f2)
        exact absurd (e1.symm.trans f3) (g1 q hq)
      · rw [g3]; rfl
    have hsame : mes.modify j (fun e => { e with key := a.pv }) = mes := by
      apply Array.ext_getElem?
      intro i
      rw [Array.getElem?_modify]
      by_cases hij : j = i
      · subst hij
        rw [if_pos rfl, hx]
        simp only [Option.map_some, Option.some.injEq]
        rw [← f3]
      · rw [if_neg hij]
    rw [e0]
    refine ⟨.map mes clock, x.val, x.born, ?_, ⟨mes, clock, heap_setBlk (lt_of_get h1), h2, h3, h4⟩, ⟨mes, clock, j, x, heap_setBlk (lt_of_get h1), hx, rfl, f3⟩⟩
    have hks : (Instr.keyThatStays x.key a.pv).run P w = .ok a.pv w := by
      unfold Instr.keyThatStays
      rw [f3, sameBits_S ha]; rfl
    simp [Instr.mapEntry, run_underlying hTT, MapKept.run_getObj_map h1, Result.andThen, hc, f1, hx, hks, hsame, MapKept.run_setObj_map _ h1, setBlk, goInt]

theorem nodup_at {β : Type} : ∀ {l : List β}, l.Nodup → ∀ {i j : Nat} {x : β}, l[i]? = some x → l[j]? = some x → i = j
  | [], _, i, j, x, h, _ => by simp at h
  | y :: l, hn, i, j, x, h1, h2 => by
    rw [List.nodup_cons] at hn
    cases i with
    | zero =>
      cases j with
      | zero => rfl
      | succ j =>
        simp only [List.getElem?_cons_zero, Option.some.injEq, List.getElem?_cons_succ] at h1 h2
        subst h1
        exact absurd (List.mem_of_getElem? h2) hn.1
    | succ i =>
      cases j with
      | zero =>
        simp only [List.getElem?_cons_zero, Option.some.injEq, List.getElem?_cons_succ] at h1 h2
        subst h2
        exact absurd (List.mem_of_getElem? h1) hn.1
      | succ j =>
        simp only [List.getElem?_cons_succ] at h1 h2
        rw [nodup_at hn.2 h1 h2]
open Classical in
/-- The value at a key, in a list of keys and values. -/
noncomputable def putAt (k v : Value) (p : Value × Value) : Value × Value := (p.1, if p.1 = k then v else p.2)
theorem putAt_ne {k v : Value} {p : Value × Value} (h : p.1 ≠ k) : putAt k v p = p := by unfold putAt; rw [if_neg h]
theorem putAt_eq {k v : Value} {p : Value × Value} (h : p.1 = k) : putAt k v p = (p.1, v) := by unfold putAt; rw [if_pos h]
theorem setS_map {a v : AV} (ha : keyS a = true) : ∀ {es : List (AV × AV)}, knownS a es = true → (es.map fun p => p.1.pv).Nodup → (setS a v es).map entA = (es.map entA).map (putAt a.pv v.pv)
  | [], _, _ => rfl
  | p :: r, hn, hd => by
    have hp := knownS_mem hn (p := p) List.mem_cons_self
    have hiff := sameS_iff ha hp.1
    have hr : knownS a r = true := by
      unfold knownS at hn ⊢
      rw [List.all_cons, Bool.and_eq_true] at hn; exact hn.2
    rw [List.map_cons, List.nodup_cons] at hd
    cases hs : sameS a p.1 with
    | true =>
      have e := hiff.1 hs
      simp only [setS, hs, cond_true, List.map_cons]
      have hh : entA (p.1, v) = putAt a.pv v.pv (entA p) := by
        rw [putAt_eq (show (entA p).1 = a.pv from e)]; rfl
      rw [hh]
      congr 1
      rw [List.map_map]
      refine List.map_congr_left fun q hq => ?_
      have hne : q.1.pv ≠ a.pv := fun e2 => hd.1 (List.mem_map.2 ⟨q, hq, by rw [e2, e]⟩)
      exact (putAt_ne (show (entA q).1 ≠ a.pv from hne)).symm
    | false =>
      have hne : p.1.pv ≠ a.pv := fun e => by rw [hiff.2 e] at hs; cases hs
      simp only [setS, hs, cond_false, List.map_cons]
      have hh : entA p = putAt a.pv v.pv (entA p) := by
        exact (putAt_ne (show (entA p).1 ≠ a.pv from hne)).symm
      rw [← hh, setS_map ha hr hd.2]
theorem setS_plain {a v : AV} (hv : v.plainV = true) : ∀ {es : List (AV × AV)}, PlainE es → PlainE (setS a v es)
  | [], _ => by intro p hp; cases hp
  | q :: r, h => by
    intro p hp
    simp only [setS] at hp
    have hq := h q List.mem_cons_self
    cases hs : sameS a q.1 with
    | true =>
      rw [hs, cond_true] at hp
      rcases List.mem_cons.1 hp with rfl | hp
      · exact ⟨hq.1, hv⟩
      · exact h p (List.mem_cons_of_mem _ hp)
    | false =>
      rw [hs, cond_false] at hp
      rcases List.mem_cons.1 hp with rfl | hp
      · exact hq
      · exact setS_plain hv (fun z hz => h z (List.mem_cons_of_mem _ hz)) p hp
/-- The value of an entry is stored. -/
theorem MapAt.stoS {b : Nat} {es : List (AV × AV)} {T : TypeId} {a v : AV} {st : Int} (h : MapAt w b es) (hst : StampAt w b a st) (ha : keyS a = true) (hn : knownS a es = true) (hv : v.plainV = true) :
    ∃ o, (Instr.entryStore T (.map (some b)) (.int .i64 st) v.pv).run P w = .ok () (setBlk w b o) ∧ MapAt (setBlk w b o) b (setS a v es) := by
  obtain ⟨mes, clock, h1, h2, h3, h4⟩ := h
  obtain ⟨mes', clock', j, x, g1, g2, g3, g4⟩ := hst
  rw [h1] at g1
  simp only [Option.some.injEq, Obj.map.injEq] at g1
  obtain ⟨rfl, rfl⟩ := g1
  have hborn : ∀ (i : Nat) (y : MapEntry), mes[i]? = some y → (y.born : Int) = st → i = j := by
    intro i y hy hb
    have e : y.born = x.born := by omega
    exact nodup_at h3.2.1 (x := x.born) (by rw [List.getElem?_map, Array.getElem?_toList, hy]; simp [e]) (by rw [List.getElem?_map, Array.getElem?_toList, g2]; rfl)
  have hkey : ∀ (i : Nat) (y : MapEntry), mes[i]? = some y → y.key = a.pv → i = j := by
    intro i y hy hb
    exact nodup_at h3.2.2 (x := a.pv) (by rw [List.getElem?_map, Array.getElem?_toList, hy]; simp [hb]) (by rw [List.getElem?_map, Array.getElem?_toList, g2]; simp [g4])
  have hfind : mes.findIdx? (fun e => (e.born : Int) == st) = some j := by
    cases hf : mes.findIdx? (fun e => (e.born : Int) == st) with
    | none =>
      rw [Array.findIdx?_eq_none_iff] at hf
      have := hf x (Array.mem_of_getElem? g2)
      simp [g3] at this
    | some i =>
      rw [Array.findIdx?_eq_some_iff_getElem] at hf
      obtain ⟨hi, hp, _⟩ := hf
      have := hborn i mes[i] (by simp [hi]) (by simpa using hp)
      rw [this]
  refine ⟨.map (mes.modify j fun e => { e with val := v.pv }) clock, ?_, mes.modify j fun e => { e with val := v.pv }, clock, heap_setBlk (lt_of_get h1), ?_, MapKept.stamped_modify h3 j _ (fun _ _ => rfl) (fun _ _ _ => rfl), setS_plain hv h4⟩
  · simp [Instr.entryStore, MapKept.run_getObj_map h1, Result.andThen, asInt, asIntOf, hfind, MapKept.run_setObj_map _ h1, setBlk]
  · rw [setS_map ha hn (keys_nodup h2 h3)]
    have e : (mes.modify j fun e => { e with val := v.pv }).toList.map entV = (mes.toList.map entV).map (putAt a.pv v.pv) := by
      apply List.ext_getElem?
      intro i
      rw [List.getElem?_map, Array.getElem?_toList, Array.getElem?_modify, List.map_map, List.getElem?_map, Array.getElem?_toList]
      by_cases hij : j = i
      · subst hij
        rw [if_pos rfl, g2]
        simp only [Option.map_some, Function.comp]
        rw [putAt_eq (show (entV x).1 = a.pv from g4)]; rfl
      · rw [if_neg hij]
        cases hy : mes[i]? with
        | none => rfl
        | some y =>
          have hne : y.key ≠ a.pv := fun e => hij (hkey i y hy e).symm
          simp only [Option.map_some, Function.comp]
          rw [putAt_ne (show (entV y).1 ≠ a.pv from hne)]
    rw [e]
    exact h2.map _
end model

theorem ex_mapEntry {ρ : Operand → Value} {o : Oper} {t : TypeId} {m k : Operand} (h : o.op = .mapEntry t m k) : execOp ρ o = (do pure (.value (← Instr.mapEntry t (ρ m) (ρ k)))) := by cases o; subst h; rfl
theorem ex_entryStore {ρ : Operand → Value} {o : Oper} {t : TypeId} {m s x : Operand} (h : o.op = .entryStore t m s x) : execOp ρ o = (do Instr.entryStore t (ρ m) (ρ s) (ρ x); pure .skip) := by cases o; subst h; rfl
theorem valS_ens {a : AV} (ha : keyS a = true) {es : List (AV × AV)} (hn : knownS a es = true) : knownS a (ensS a es) = true ∧ valS a (ensS a es) = valS a es ∧ hasS a (ensS a es) = true := by
  unfold ensS
  have haa : eqKS a a = some true := by
    obtain ⟨s, t, rfl⟩ := keyS_ok ha
    simp [eqKS, eqLs, eqLeaf]
  have hsa : sameS a a = true := by unfold sameS; rw [haa]
  cases hh : hasS a es with
  | true => exact ⟨hn, rfl, hh⟩
  | false =>
    simp only [cond_false]
    refine ⟨?_, ?_, ?_⟩
    · unfold knownS at hn ⊢
      rw [List.all_append, hn]
      simp [haa, isI64]
    · have key : ∀ es : List (AV × AV), hasS a es = false → valS a (es ++ [(a, .int .i64 0)]) = valS a es := by
        intro es
        induction es with
        | nil => intro _; simp only [List.nil_append, valS, hsa, cond_true, intV]
        | cons p r ih =>
          intro h
          unfold hasS at h
          rw [List.any_cons, Bool.or_eq_false_iff] at h
          simp only [List.cons_append, valS, h.1, cond_false]
          exact ih h.2
      exact key es hh
    · unfold hasS
      rw [List.any_append]
      simp [hsa]

/-- The five operations of `m[k]++`. -/
structure Five (P : Program) (ops : Array Oper) (nt n dl da de dx : Nat) (x k : AO) where
  T : TypeId
  kk : TypeId
  e : TypeId
  xL : Operand
  kL : Operand
  xE : Operand
  kE : Operand
  xS : Operand
  oL : Oper
  oA : Oper
  oE : Oper
  oX : Oper
  oS : Oper
  iL : ops[n]? = some oL
  iA : ops[n + 1]? = some oA
  iE : ops[n + 2]? = some oE
  iX : ops[n + 3]? = some oX
  iS : ops[n + 4]? = some oS
  size : ops.size = n + 5
  pL : oL.op = .lookup T xL kL false ∧ oL.dst = some dl ∧ oL.guard = none
  tA : TypeId
  uA : TypeId
  pA : oA.op = .binOp .add tA (.tmp dl) (.const (.int .i64 1)) uA ∧ oA.dst = some da ∧ oA.guard = none
  pE : oE.op = .mapEntry T xE kE ∧ oE.dst = some de ∧ oE.guard = none
  pX : oX.op = .extract (.tmp de) 1 ∧ oX.dst = some dx ∧ oX.guard = none
  pS : oS.op = .entryStore T xS (.tmp dx) (.tmp da) ∧ oS.dst = none ∧ oS.guard = none
  hT : P.underlying T = some (.map kk e)
  hk : structOk P kk [2, 2] = true
  he : lookTy P T (.int .i64 0) = true
  fx : fitO x xL = true ∧ fitO x xE = true ∧ fitO x xS = true
  fk : fitO k kL = true ∧ fitO k kE = true
  lt : dl < nt ∧ da < nt ∧ de < nt ∧ dx < nt
  ne : dl ≠ da ∧ dl ≠ de ∧ dl ≠ dx ∧ da ≠ de ∧ da ≠ dx ∧ de ≠ dx
  wA : Region.waitsFor .any ops (n + 1) n = true
  wX : Region.waitsFor .any ops (n + 3) (n + 2) = true
  wSA : Region.waitsFor .any ops (n + 4) (n + 1) = true
  wSX : Region.waitsFor .any ops (n + 4) (n + 3) = true
  back : backB ops (n + 5) = true

section five
variable {P : Program} {C : Cx} {R : Nat → List AV → Option Res}

/-- Something that we know no more of is put into a temporary that we do not name. -/
theorem Inv.putU {C : Cx} {ρ : Rho} {env : List (Nat × SV)} {M : List (Nat × Blk)} {a : Act} {w : World} (h : Inv C ρ ⟨env, M⟩ a.tmps w) {d : Nat} (v : Value) (hd : d < a.tmps.size) (he : get env d = none) : Inv C ρ ⟨env, M⟩ (a.put (some d) v).tmps w := by
  have hf : fitDst a.tmps.size (some d) (some d) = true := by unfold fitDst; simp [Nat.ble_eq]; omega
  obtain ⟨k1, _, _⟩ := h.putD (nt := a.tmps.size) (s := .dead) (v := v) hf rfl (.dead v)
  refine k1.weak rfl fun n s hs => ?_
  show get ((d, SV.dead) :: env) n = some s
  rw [get_cons, if_neg]
  · exact hs
  · rintro rfl; simp only at hs; rw [he] at hs; cases hs
theorem put_same {a : Act} {d : Nat} {v : Value} (h : d < a.tmps.size) : (a.put (some d) v).tmps.getD d undef = v := getD_set_eq h
theorem put_other {a : Act} {d n : Nat} {v : Value} (h : d ≠ n) : (a.put (some d) v).tmps.getD n undef = a.tmps.getD n undef := getD_set_ne h
theorem put_size {a : Act} {d : Option Nat} {v : Value} : (a.put d v).tmps.size = a.tmps.size := by cases d <;> simp [Act.put]
theorem put_defers {a : Act} {d : Option Nat} {v : Value} : (a.put d v).defers = a.defers := by cases d <;> rfl

/-- What is known when some of the five are done. -/
structure At5 (C : Cx) (env : List (Nat × SV)) (M : List (Nat × Blk)) (t : Nat) (ka : AV) (es : List (AV × AV)) (n dl da de dx : Nat) (listed : Array Bool) (ρ : Rho) (a : Act) (w : World) : Prop where
  inv : Inv C ρ ⟨env, if listed.getD (n + 2) true = true then setM M t (.map (ensS ka es)) else M⟩ a.tmps w
  l : listed.getD n true = true → a.tmps.getD dl undef = .int .i64 (valS ka es)
  s : listed.getD (n + 1) true = true → a.tmps.getD da undef = .int .i64 (IntKind.i64.wrap (valS ka es + 1))
  e : listed.getD (n + 2) true = true → ∃ b o cp v st, ρ t = some (b, o, cp) ∧ StampAt w b ka st ∧ a.tmps.getD de undef = .tuple #[v, .int .i64 st]
  x : listed.getD (n + 3) true = true → ∃ b o cp st, ρ t = some (b, o, cp) ∧ StampAt w b ka st ∧ a.tmps.getD dx undef = .int .i64 st

theorem unl_zero {n : Nat} {listed : Array Bool} (h : ∀ i, i < n → listed.getD i true = true) : unl n listed = 0 := by
  unfold unl
  rw [List.countP_eq_zero]
  intro i hi
  simp [h i (List.mem_range.1 hi)]
theorem five_ok {Q : Exit → Act → World → Prop} {ops : Array Oper} {nt n dl da de dx : Nat} {x k : AO} (F : Five P ops nt n dl da de dx x k) {t : Nat} {ka : AV} {es : List (AV × AV)} {env : List (Nat × SV)} {M : List (Nat × Blk)}
    (hM : get M t = some (.map es)) (hex : x.ev C.G ⟨env, M⟩ = some (.mp t)) (hek : k.ev C.G ⟨env, M⟩ = some (.imm ka)) (ha : keyS ka = true) (hn : knownS ka es = true)
    (hE : get env dl = none ∧ get env da = none ∧ get env de = none ∧ get env dx = none)
    (hend : ∀ ρ a w, Inv C ρ ⟨env, setM M t (.map (incS ka es))⟩ a.tmps w → a.tmps.size = nt → a.defers = [] → Q .normal a w) :
    ∀ (c : Nat) (listed : Array Bool) (a : Act) (w : World) (ρ : Rho), unl (n + 5) listed = c → HeadInv .any ops (n + 5) listed → (∀ i, i < n → listed.getD i true = true) → listed.getD (n + 4) true = false →
      At5 C env M t ka es n dl da de dx listed ρ a w → a.tmps.size = nt → a.defers = [] → wpAny P .any ops Q c listed a w := by
  obtain ⟨T, kk, e, xL, kL, xE, kE, xS, oL, oA, oE, oX, oS, iL, iA, iE, iX, iS, hsz, pL, tA, uA, pA, pE, pX, pS, hT, hk, he, fx, fk, lt, ne, wA, wX, wSA, wSX, back⟩ := F
  obtain ⟨hv1, hv2, hv3⟩ := valS_ens ha hn
  intro c
  induction c with
  | zero =>
    intro listed a w ρ hc inv _ hS _ _ _
    have : 0 < unl (n + 5) listed := by
      unfold unl
      rw [List.countP_pos_iff]
      exact ⟨n + 4, List.mem_range.2 (by omega), by simp [hS]⟩
    omega
  | succ c ih =>
    intro listed a w ρ hc inv hheads hS h5 hn5 hd
    have waits : ∀ {j i : Nat}, Region.waitsFor .any ops j i = true → listed.getD j true = true → listed.getD i true = true := by
      intro j i hw hj
      obtain ⟨oj, hoj, e, he, hb, hon⟩ := Region.waitsFor_spec hw
      have hjs : j < listed.size := by rw [inv.size]; exact (Array.getElem?_eq_some_iff.1 hoj).1
      have hlf : listed.getD j false = true := by simp [hjs] at hj ⊢; exact hj
      have := inv.closed j oj hoj hlf e he hb
      rw [hon] at this
      cases hq : listed.getD i true with
      | true => rfl
      | false => rw [getD_both hq] at this; cases this
    have readyW : ∀ {j i : Nat} {o : Oper}, ops[j]? = some o → (∀ e ∈ o.after, Region.binds .any e = true → listed.getD e.on false = true) → Region.waitsFor .any ops j i = true → listed.getD i true = true := by
      intro j i o ho hall hw
      obtain ⟨oj, hoj, e, he, hb, hon⟩ := Region.waitsFor_spec hw
      rw [ho] at hoj
      simp only [Option.some.injEq] at hoj
      subst hoj
      have := hall e he hb
      rw [hon] at this
      cases hq : listed.getD i true with
      | true => rfl
      | false => rw [getD_both hq] at this; cases this
    -- one may go on
    have hmin : ∀ m, ∀ i, i ≤ m → i < n + 5 → listed.getD i true = false → ∃ j, j ∈ Region.ready .any ops listed := by
      intro m
      induction m with
      | zero =>
        intro i hi hlt hu
        obtain rfl : i = 0 := by omega
        have hk := List.all_eq_true.1 back 0 (List.mem_range.2 hlt)
        split at hk
        · rename_i o ho
          refine ⟨0, mem_ready.2 ⟨hu, o, ho, fun e he hb => ?_⟩⟩
          have := Array.all_eq_true'.1 hk e he
          simp [hb] at this
        · cases hk
      | succ m ihm =>
        intro i hi hlt hu
        have hk := List.all_eq_true.1 back i (List.mem_range.2 hlt)
        split at hk
        · rename_i o ho
          by_cases hx : ∃ j, j < i ∧ listed.getD j true = false
          · obtain ⟨j, hj, hju⟩ := hx
            exact ihm j (by omega) (by omega) hju
          · refine ⟨i, mem_ready.2 ⟨hu, o, ho, fun e he hb => ?_⟩⟩
            have := Array.all_eq_true'.1 hk e he
            simp only [hb, Bool.not_true, Bool.false_or, decide_eq_true_eq] at this
            cases hle : listed.getD e.on false with
            | true => rfl
            | false => exact absurd ⟨e.on, this, getD_in (by rw [inv.size]; omega) hle⟩ hx
        · cases hk
    refine ⟨fun h0 => ?_, fun i hi => ?_⟩
    · obtain ⟨j, hj⟩ := hmin (n + 4) (n + 4) (Nat.le_refl _) (by omega) hS
      rw [h0] at hj; cases hj
    obtain ⟨hiu, oper, hoper, hafter⟩ := mem_ready.1 hi
    have hin : i < n + 5 := by rw [← hsz]; exact (Array.getElem?_eq_some_iff.1 hoper).1
    have hge : n ≤ i := by
      rcases Nat.lt_or_ge i n with h | h
      · rw [hheads i h] at hiu; cases hiu
      · exact h
    have hc' : unl (n + 5) (listed.setIfInBounds i true) = c := by have := unl_set hin hiu; omega
    have inv' := inv.set hi hin
    have hset : ∀ {j : Nat}, j ≠ i → (listed.setIfInBounds i true).getD j true = listed.getD j true := fun h => Go.getD_set_ne true (fun e => h e.symm)
    have hseti : (listed.setIfInBounds i true).getD i true = true := getD_set_true' (by rw [inv.size]; omega)
    have hheads' : ∀ j, j < n → (listed.setIfInBounds i true).getD j true = true := fun j hj => by rw [hset (by omega)]; exact hheads j hj
    obtain ⟨hI, hl, hs, hee, hxx⟩ := h5
    -- where the map is
    generalize hMe : (if listed.getD (n + 2) true = true then setM M t (.map (ensS ka es)) else M) = Me at hI
    obtain ⟨es', hMe2, hes⟩ : ∃ es', get Me t = some (.map es') ∧ (es' = if listed.getD (n + 2) true = true then ensS ka es else es) := by
      refine ⟨_, ?_, rfl⟩
      rw [← hMe]
      split
      · rw [get_setM]; simp
      · exact hM
    have hkn : knownS ka es' = true := by rw [hes]; split; exact hv1; exact hn
    have hvl : valS ka es' = valS ka es := by rw [hes]; split; exact hv2; rfl
    have hex' : x.ev C.G ⟨env, Me⟩ = some (.mp t) := by rw [← hex]; exact ev_reads fun _ _ => rfl
    have hek' : k.ev C.G ⟨env, Me⟩ = some (.imm ka) := by rw [← hek]; exact ev_reads fun _ _ => rfl
    obtain ⟨b, cp, hr, hm, r2, hevx, hevk⟩ : ∃ b cp, ρ t = some (b, 0, cp) ∧ get Me t = some (.map es') ∧ MapAt w b es' ∧ (∀ x', fitO x x' = true → a.eval x' = .map (some b)) ∧ (∀ k', fitO k k' = true → a.eval k' = ka.pv) := by
      have q1 := fitO_sound hI fx.1 hex'
      generalize hev : a.eval xL = vx at q1
      cases q1 with
      | mp _ b o cp blk0 hm hr =>
      obtain rfl : blk0 = .map es' := by rw [hMe2] at hm; simpa using hm.symm
      obtain ⟨b0, o0, cp0, r1, ⟨rfl, r2⟩, r3, r4⟩ := (hI.mem t _ hm).resolve_right fun hh => by rw [hr] at hh; cases hh.1
      rw [hr] at r1; simp only [Option.some.injEq, Prod.mk.injEq] at r1; obtain ⟨rfl, rfl, rfl⟩ := r1
      refine ⟨b, cp, hr, hm, r2, fun x' hx' => ?_, fun k' hk' => ?_⟩
      · have q1 := fitO_sound hI hx' hex'
        generalize a.eval x' = vx at q1
        cases q1 with
        | mp _ b2 o2 cp2 blk2 hm2 hr2 =>
        rw [hr] at hr2
        simp only [Option.some.injEq, Prod.mk.injEq] at hr2
        rw [hr2.1]
      · have q2 := fitO_sound hI hk' hek'
        generalize a.eval k' = vk at q2
        cases q2 with
        | imm _ _ q2 => exact q2.pv (by obtain ⟨s, t, rfl⟩ := keyS_ok ha; rfl)
    have hev := hevx xL fx.1
    have hevE := hevx xE fx.2.1
    have hevS := hevx xS fx.2.2
    have hevk1 := hevk kL fk.1
    have hevkE := hevk kE fk.2
    obtain ⟨ne1, ne2, ne3, ne4, ne5, ne6⟩ := ne
    obtain ⟨lt1, lt2, lt3, lt4⟩ := lt
    obtain ⟨hE1, hE2, hE3, hE4⟩ := hE
    unfold wpOp
    simp only [hoper]
    have hcase : i = n ∨ i = n + 1 ∨ i = n + 2 ∨ i = n + 3 ∨ i = n + 4 := by omega
    rcases hcase with rfl | rfl | rfl | rfl | rfl
    · -- what is there
      rw [iL] at hoper
      simp only [Option.some.injEq] at hoper
      subst hoper
      rw [if_pos (by simp [Region.wanted, pL.2.2])]
      have hrun := r2.lookS (P := P) hT hk he ha hkn
      rw [hvl] at hrun
      refine .inl (Does.wp (S := fun v w' => v = .int .i64 (valS ka es) ∧ w' = w) (Does.value (w' := w) (v := .int .i64 (valS ka es)) ?_ ⟨rfl, rfl⟩) fun v w' hh => ?_)
      · rw [ex_lookup pL.1, hev, hevk1]; exact run_v hrun
      · obtain ⟨rfl, rfl⟩ := hh
        rw [pL.2.1]
        refine ih _ _ _ ρ hc' inv' hheads' (by rw [hset (by omega)]; exact hS) ⟨?_, fun _ => put_same (by omega), fun h => ?_, fun h => ?_, fun h => ?_⟩ (by rw [put_size]; exact hn5) (by rw [put_defers]; exact hd)
        · rw [hset (by omega), hMe]; exact hI.putU _ (by omega) hE1
        · rw [hset (by omega)] at h; rw [put_other ne1]; exact hs h
        · rw [hset (by omega)] at h; rw [put_other ne2]; exact hee h
        · rw [hset (by omega)] at h; rw [put_other ne3]; exact hxx h
    · -- one more
      rw [iA] at hoper
      simp only [Option.some.injEq] at hoper
      subst hoper
      rw [if_pos (by simp [Region.wanted, pA.2.2])]
      have hlv := hl (readyW iA hafter wA)
      obtain ⟨v, hv, hrel⟩ := bin_rel (P := P) (t := tA) (x := .tmp dl) (y := .const (.int .i64 1)) (w := w) (B := fun _ => False) (op := .add) (Rel.int .i64 (valS ka es)) (Rel.int .i64 1) (r := .int .i64 (IntKind.i64.wrap (valS ka es + 1))) rfl
      have hvv : v = .int .i64 (IntKind.i64.wrap (valS ka es + 1)) := (hrel.all (w := w) (B := fun _ => False)).pv rfl
      subst hvv
      refine .inl (Does.wp (S := fun v w' => v = .int .i64 (IntKind.i64.wrap (valS ka es + 1)) ∧ w' = w) (Does.value (w' := w) (v := .int .i64 (IntKind.i64.wrap (valS ka es + 1))) ?_ ⟨rfl, rfl⟩) fun v w' hh => ?_)
      · rw [ex_bin pA.1]
        have e1 : a.eval (.tmp dl) = .int .i64 (valS ka es) := hlv
        rw [e1]; exact run_v hv
      · obtain ⟨rfl, rfl⟩ := hh
        rw [pA.2.1]
        refine ih _ _ _ ρ hc' inv' hheads' (by rw [hset (by omega)]; exact hS) ⟨?_, fun h => ?_, fun _ => put_same (by omega), fun h => ?_, fun h => ?_⟩ (by rw [put_size]; exact hn5) (by rw [put_defers]; exact hd)
        · rw [hset (by omega), hMe]; exact hI.putU _ (by omega) hE2
        · rw [hset (by omega)] at h; rw [put_other (Ne.symm ne1)]; exact hl h
        · rw [hset (by omega)] at h; rw [put_other ne4]; exact hee h
        · rw [hset (by omega)] at h; rw [put_other ne5]; exact hxx h
    · -- the entry
      rw [iE] at hoper
      simp only [Option.some.injEq] at hoper
      subst hoper
      rw [if_pos (by simp [Region.wanted, pE.2.2])]
      have hMM : Me = M ∧ es' = es := by rw [hiu] at hMe hes; exact ⟨hMe.symm, hes⟩
      obtain ⟨rfl, rfl⟩ := hMM
      obtain ⟨o', v, stp, g1, g2, g3⟩ := r2.entS (P := P) hT hk he ha hn
      have hI2 := hI.write hm rfl hr (blk' := .map (ensS ka es')) rfl rfl agree_setBlk ⟨rfl, g2⟩
      refine .inl (Does.wp (S := fun u w' => u = .tuple #[v, .int .i64 stp] ∧ w' = setBlk w b o') (Does.value (w' := setBlk w b o') (v := .tuple #[v, .int .i64 stp]) ?_ ⟨rfl, rfl⟩) fun u w' hh => ?_)
      · rw [ex_mapEntry pE.1, hevE, hevkE]; exact run_v g1
      · obtain ⟨rfl, rfl⟩ := hh
        rw [pE.2.1]
        refine ih _ _ _ ρ hc' inv' hheads' (by rw [hset (by omega)]; exact hS) ⟨?_, fun h => ?_, fun h => ?_, fun _ => ⟨b, 0, cp, v, stp, hr, g3, put_same (by omega)⟩, fun h => ?_⟩ (by rw [put_size]; exact hn5) (by rw [put_defers]; exact hd)
        · rw [hseti, if_pos rfl]
          exact Inv.putU (show Inv C ρ ⟨env, setM Me t (.map (ensS ka es'))⟩ a.tmps _ from hI2) _ (by omega) hE3
        · rw [hset (by omega)] at h; rw [put_other (Ne.symm ne2)]; exact hl h
        · rw [hset (by omega)] at h; rw [put_other (Ne.symm ne4)]; exact hs h
        · rw [hset (by omega)] at h
          rw [waits wX h] at hiu; cases hiu
    · -- its stamp
      rw [iX] at hoper
      simp only [Option.some.injEq] at hoper
      subst hoper
      rw [if_pos (by simp [Region.wanted, pX.2.2])]
      obtain ⟨b1, o1, cp1, v, stp, y1, y2, y3⟩ := hee (readyW iX hafter wX)
      refine .inl (Does.wp (S := fun u w' => u = .int .i64 stp ∧ w' = w) (Does.value (w' := w) (v := .int .i64 stp) ?_ ⟨rfl, rfl⟩) fun u w' hh => ?_)
      · rw [ex_extract pX.1]
        have e1 : a.eval (.tmp de) = .tuple #[v, .int .i64 stp] := y3
        rw [e1]; exact run_v rfl
      · obtain ⟨rfl, rfl⟩ := hh
        rw [pX.2.1]
        refine ih _ _ _ ρ hc' inv' hheads' (by rw [hset (by omega)]; exact hS) ⟨?_, fun h => ?_, fun h => ?_, fun h => ?_, fun _ => ⟨b1, o1, cp1, stp, y1, y2, put_same (by omega)⟩⟩ (by rw [put_size]; exact hn5) (by rw [put_defers]; exact hd)
        · rw [hset (by omega), hMe]; exact hI.putU _ (by omega) hE4
        · rw [hset (by omega)] at h; rw [put_other (Ne.symm ne3)]; exact hl h
        · rw [hset (by omega)] at h; rw [put_other (Ne.symm ne5)]; exact hs h
        · rw [hset (by omega)] at h; rw [put_other (Ne.symm ne6)]; exact hee h
    · -- the store
      rw [iS] at hoper
      simp only [Option.some.injEq] at hoper
      subst hoper
      rw [if_pos (by simp [Region.wanted, pS.2.2])]
      have hxl := readyW iS hafter wSX
      have hal := readyW iS hafter wSA
      have hel := waits wX hxl
      have hll := waits wA hal
      obtain ⟨b1, o1, cp1, stp, y1, y2, y3⟩ := hxx hxl
      rw [hr] at y1
      simp only [Option.some.injEq, Prod.mk.injEq] at y1
      obtain ⟨rfl, rfl, rfl⟩ := y1
      rw [hel, if_pos rfl] at hMe hes
      subst hMe; subst hes
      obtain ⟨o', g1, g2⟩ := r2.stoS (T := T) (P := P) (v := .int .i64 (IntKind.i64.wrap (valS ka es + 1))) y2 ha hkn rfl
      have hI2 := hI.write hm rfl hr (blk' := .map (setS ka (.int .i64 (IntKind.i64.wrap (valS ka es + 1))) (ensS ka es))) rfl rfl agree_setBlk ⟨rfl, g2⟩
      refine .inl (Does.wp (S := fun u w' => w' = setBlk w b o') (Does.skip (w' := setBlk w b o') ?_ rfl) fun u w' hh => ?_)
      · rw [ex_entryStore pS.1, hevS]
        have e1 : a.eval (.tmp dx) = .int .i64 stp := y3
        have e2 : a.eval (.tmp da) = .int .i64 (IntKind.i64.wrap (valS ka es + 1)) := hs hal
        rw [e1, e2]
        have g1' : (Instr.entryStore T (.map (some b)) (.int .i64 stp) (.int .i64 (IntKind.i64.wrap (valS ka es + 1)))).run P w = .ok () (setBlk w b o') := g1
        rw [run_bind_ok g1']; rfl
      · subst hh
        rw [pS.2.1]
        have hall : ∀ j, j < n + 5 → (listed.setIfInBounds (n + 4) true).getD j true = true := by
          intro j hj
          by_cases hjn : j < n
          · exact hheads' j hjn
          have : j = n ∨ j = n + 1 ∨ j = n + 2 ∨ j = n + 3 ∨ j = n + 4 := by omega
          rcases this with rfl | rfl | rfl | rfl | rfl
          · rw [hset (by omega)]; exact hll
          · rw [hset (by omega)]; exact hal
          · rw [hset (by omega)]; exact hel
          · rw [hset (by omega)]; exact hxl
          · exact hseti
        have hc0 : c = 0 := by rw [← hc']; exact unl_zero hall
        subst hc0
        refine ⟨?_, ?_⟩
        · cases hq : Region.ready .any ops (listed.setIfInBounds (n + 4) true) with
          | nil => rfl
          | cons j r =>
            have hj : j ∈ Region.ready .any ops (listed.setIfInBounds (n + 4) true) := by rw [hq]; exact List.mem_cons_self
            obtain ⟨hju, oj, hoj, _⟩ := mem_ready.1 hj
            have := hall j (by rw [← hsz]; exact (Array.getElem?_eq_some_iff.1 hoj).1)
            rw [hju] at this; cases this
        · refine hend ρ _ _ ?_ hn5 hd
          have := (show Inv C ρ ⟨env, setM (setM M t (.map (ensS ka es))) t (.map (setS ka (.int .i64 (IntKind.i64.wrap (valS ka es + 1))) (ensS ka es)))⟩ a.tmps _ from hI2)
          rw [setM_setM] at this
          exact this

theorem unl_succ (n : Nat) (listed : Array Bool) : unl (n + 1) listed = unl n listed + (if listed.getD n true = true then 0 else 1) := by
  unfold unl
  rw [List.range_succ, List.countP_append]
  simp only [List.countP_cons, List.countP_nil]
  cases listed.getD n true <;> simp
def dropE (ds : List Nat) (env : List (Nat × SV)) : List (Nat × SV) := env.filter fun e => !(ds.any fun d => Nat.beq d e.1)
theorem get_dropE {ds : List Nat} {env : List (Nat × SV)} {n : Nat} : get (dropE ds env) n = if (ds.any fun d => Nat.beq d n) = true then none else get env n := get_filterK (fun m => ds.any fun d => Nat.beq d m) n env
/-- All of the first ones come ahead of what looks up and of what makes the entry. -/
def aheadB (ops : Array Oper) (n : Nat) : Bool := (List.range n).all fun i => ((List.range n).any fun j => decide (i < j) && Region.waitsFor .any ops j i) || (Region.waitsFor .any ops n i && Region.waitsFor .any ops (n + 2) i)

theorem draw_anyI (hR : RSound P C.G R) {Q : Exit → Act → World → Prop} {ops : Array Oper} {nt n dl da de dx : Nat} {x k : AO} (F : Five P ops nt n dl da de dx x k) {hs : List Head} (hnh : hs.length = n)
    (hfit : ∀ (i : Nat) (h : Head), hs[i]? = some h → ∃ oper, ops.toList[i]? = some oper ∧ fitDst nt h.dst oper.dst = true ∧ fitGuard ops h.guard oper.guard = true ∧ fits P h.o oper.op = true)
    (hA : apartL hs = true) (hW : waitsB ops hs = true) (hah : aheadB ops n = true)
    {stF : St} {M : List (Nat × Blk)} (hMs : stF.M = M) (hfacts : ∀ (i : Nat) (h : Head), hs[i]? = some h → ∃ s, Yields C.G R (get stF.env) M h s ∧ (∀ d, h.dst = some d → get stF.env d = some s))
    {t : Nat} {ka : AV} {es : List (AV × AV)} (hM : get M t = some (.map es)) (hex : x.ev C.G ⟨dropE [dl, da, de, dx] stF.env, M⟩ = some (.mp t)) (hek : k.ev C.G ⟨dropE [dl, da, de, dx] stF.env, M⟩ = some (.imm ka)) (ha : keyS ka = true) (hn : knownS ka es = true)
    (hend : ∀ ρ a w, Inv C ρ ⟨dropE [dl, da, de, dx] stF.env, setM M t (.map (incS ka es))⟩ a.tmps w → a.tmps.size = nt → a.defers = [] → Q .normal a w) :
    ∀ (c : Nat) (listed : Array Bool) (a : Act) (w : World) (ρ : Rho), unl hs.length listed = c → HeadInv .any ops hs.length listed → Inv C ρ ⟨envL hs stF.env listed, M⟩ a.tmps w → a.tmps.size = nt → a.defers = [] →
      wpAny P .any ops Q (c + 5) listed a w := by
  have hsz := F.size
  have back := F.back
  have hK : backB ops hs.length = true := by
    unfold backB at back ⊢
    rw [List.all_eq_true] at back ⊢
    intro i hi
    exact back i (List.mem_range.2 (by have := List.mem_range.1 hi; omega))
  intro c
  induction c with
  | zero =>
    intro listed a w ρ hc inv hI hn' hd
    have hall : ∀ i, i < hs.length → listed.getD i true = true := by
      intro i hi
      unfold unl at hc
      rw [List.countP_eq_zero] at hc
      simpa using hc i (List.mem_range.2 hi)
    have htail : ∀ j, n ≤ j → j < n + 5 → listed.getD j true = false := fun j h1 h2 => inv.tail j (by omega) (by omega)
    have h5 : unl (n + 5) listed = 5 := by
      rw [hnh] at hc
      rw [unl_succ (n + 4), unl_succ (n + 3), unl_succ (n + 2), unl_succ (n + 1), unl_succ n, hc, htail n (by omega) (by omega), htail (n + 1) (by omega) (by omega), htail (n + 2) (by omega) (by omega), htail (n + 3) (by omega) (by omega), htail (n + 4) (by omega) (by omega)]
      rfl
    rw [Nat.zero_add]
    refine five_ok (C := C) F hM hex hek ha hn ⟨?_, ?_, ?_, ?_⟩ hend 5 listed a w ρ h5 ⟨inv.size, inv.closed, fun t h1 h2 => by omega⟩ (fun i hi => hall i (by omega)) (htail (n + 4) (by omega) (by omega)) ⟨?_, fun h => ?_, fun h => ?_, fun h => ?_, fun h => ?_⟩ hn' hd
    · rw [get_dropE]; simp
    · rw [get_dropE]; simp
    · rw [get_dropE]; simp
    · rw [get_dropE]; simp
    · rw [htail (n + 2) (by omega) (by omega)]
      simp only [Bool.false_eq_true, if_false]
      refine hI.weak rfl fun m s hs' => ?_
      simp only at hs'
      rw [get_dropE] at hs'
      split at hs'
      · cases hs'
      · show get (envL hs stF.env listed) m = some s
        rw [get_envL, if_neg]
        · exact hs'
        · intro hh
          obtain ⟨i, h, h1, h2, _⟩ := hidden_iff.1 hh
          rw [hall i (List.getElem?_eq_some_iff.1 h1).1] at h2; cases h2
    · rw [htail n (by omega) (by omega)] at h; cases h
    · rw [htail (n + 1) (by omega) (by omega)] at h; cases h
    · rw [htail (n + 2) (by omega) (by omega)] at h; cases h
    · rw [htail (n + 3) (by omega) (by omega)] at h; cases h
  | succ c ih =>
    intro listed a w ρ hc inv hI hn' hd
    rw [show c + 1 + 5 = (c + 5) + 1 by omega]
    have hex : ∃ i, i < hs.length ∧ listed.getD i true = false := by
      have : 0 < unl hs.length listed := by omega
      unfold unl at this
      rw [List.countP_pos_iff] at this
      obtain ⟨i, h1, h2⟩ := this
      exact ⟨i, List.mem_range.1 h1, by simpa using h2⟩
    have hmin : ∀ m, ∀ i, i ≤ m → i < hs.length → listed.getD i true = false → ∃ j, j ∈ Region.ready .any ops listed := by
      intro m
      induction m with
      | zero =>
        intro i hi hlt hu
        obtain rfl : i = 0 := by omega
        have hk := List.all_eq_true.1 hK 0 (List.mem_range.2 hlt)
        split at hk
        · rename_i o ho
          refine ⟨0, mem_ready.2 ⟨hu, o, ho, fun e he hb => ?_⟩⟩
          have := Array.all_eq_true'.1 hk e he
          simp [hb] at this
        · cases hk
      | succ m ihm =>
        intro i hi hlt hu
        have hk := List.all_eq_true.1 hK i (List.mem_range.2 hlt)
        split at hk
        · rename_i o ho
          by_cases hx : ∃ j, j < i ∧ listed.getD j true = false
          · obtain ⟨j, hj, hju⟩ := hx
            exact ihm j (by omega) (by omega) hju
          · refine ⟨i, mem_ready.2 ⟨hu, o, ho, fun e he hb => ?_⟩⟩
            have := Array.all_eq_true'.1 hk e he
            simp only [hb, Bool.not_true, Bool.false_or, decide_eq_true_eq] at this
            cases hle : listed.getD e.on false with
            | true => rfl
            | false =>
              exact absurd ⟨e.on, this, getD_in (by rw [inv.size]; omega) hle⟩ hx
        · cases hk
    obtain ⟨i0, hi0, hu0⟩ := hex
    refine ⟨fun h0 => ?_, fun i hi => ?_⟩
    · obtain ⟨j, hj⟩ := hmin i0 i0 (Nat.le_refl _) hi0 hu0
      rw [h0] at hj; cases hj
    obtain ⟨hiu, oper, hoper, hafter⟩ := mem_ready.1 hi
    have hisz : i < ops.size := (Array.getElem?_eq_some_iff.1 hoper).1
    have hin : i < hs.length := by
      rcases Nat.lt_or_ge i hs.length with h | h
      · exact h
      · exfalso
        have hltn : i < n + 5 := by rw [← hsz]; exact hisz
        have htail : ∀ j, n ≤ j → j < n + 5 → listed.getD j true = false := fun j h1 h2 => inv.tail j (by omega) (by omega)
        have hr : ∀ {j : Nat}, Region.waitsFor .any ops i j = true → listed.getD j true = true := by
          intro j hw
          obtain ⟨oj, hoj, e, he, hb, hon⟩ := Region.waitsFor_spec hw
          rw [hoper] at hoj
          simp only [Option.some.injEq] at hoj
          subst hoj
          have := hafter e he hb
          rw [hon] at this
          cases hq : listed.getD j true with
          | true => rfl
          | false => rw [getD_both hq] at this; cases this
        have hw2 : ∀ {j q : Nat}, Region.waitsFor .any ops j q = true → listed.getD j true = true → j < n → listed.getD q true = true := by
          intro j q hw hj hjn
          obtain ⟨oj, hoj, e, he, hb, hon⟩ := Region.waitsFor_spec hw
          have hjs : j < listed.size := by rw [inv.size]; exact (Array.getElem?_eq_some_iff.1 hoj).1
          have hlf : listed.getD j false = true := by simp [hjs] at hj ⊢; exact hj
          have := inv.closed j oj hoj hlf e he hb
          rw [hon] at this
          cases hq : listed.getD q true with
          | true => rfl
          | false => rw [getD_both hq] at this; cases this
        have hahead : ∀ (m q : Nat), n ≤ q + m → q < n → (i = n ∨ i = n + 2) → listed.getD q true = true := by
          intro m
          induction m with
          | zero => intro q h1 h2 _; omega
          | succ m ihm =>
            intro q h1 h2 h3
            have := List.all_eq_true.1 hah q (List.mem_range.2 h2)
            simp only [Bool.or_eq_true, Bool.and_eq_true, List.any_eq_true, List.mem_range, decide_eq_true_eq] at this
            rcases this with ⟨j, hj, hqj, hw⟩ | ⟨w1, w2⟩
            · exact hw2 hw (ihm j (by omega) hj h3) hj
            · rcases h3 with rfl | rfl
              · exact hr w1
              · exact hr w2
        have hcase : i = n ∨ i = n + 1 ∨ i = n + 2 ∨ i = n + 3 ∨ i = n + 4 := by omega
        rcases hcase with e | e | e | e | e
        · have := hahead n i0 (by omega) (by omega) (.inl e); rw [this] at hu0; cases hu0
        · have := hr (by rw [e]; exact F.wA); rw [htail n (by omega) (by omega)] at this; cases this
        · have := hahead n i0 (by omega) (by omega) (.inr e); rw [this] at hu0; cases hu0
        · have := hr (by rw [e]; exact F.wX); rw [htail (n + 2) (by omega) (by omega)] at this; cases this
        · have := hr (by rw [e]; exact F.wSA); rw [htail (n + 1) (by omega) (by omega)] at this; cases this
    obtain ⟨hd', hhd⟩ : ∃ h, hs[i]? = some h := ⟨hs[i], by simp [hin]⟩
    obtain ⟨oper', ho', hfd, hfg, hfo⟩ := hfit i hd' hhd
    obtain rfl : oper' = oper := by rw [Array.getElem?_toList, hoper] at ho'; simpa using ho'.symm
    obtain ⟨s, hy, hsd⟩ := hfacts i hd' hhd
    have hsee : ∀ n ∈ hd'.reads, get (envL hs stF.env listed) n = get stF.env n := by
      intro n hn
      rw [get_envL, if_neg]
      intro hh
      obtain ⟨j, hj, h1, h2, h3⟩ := hidden_iff.1 hh
      by_cases hij : i ≤ j
      · exact apartL_spec hA i j hd' hj hij hhd h1 n hn h3
      · have hw := waitsB_spec hW (by omega) hhd h1 hn h3
        obtain ⟨oj, hoj, e, he, hb, hon⟩ := Region.waitsFor_spec hw
        obtain rfl : oj = oper' := by rw [hoper] at hoj; simpa using hoj.symm
        have := hafter e he hb
        rw [hon, getD_both h2] at this; cases this
    have hfin : ∀ ρ' s' v w', Inv C ρ' ⟨envL hs stF.env listed, M⟩ a.tmps w' → RelS w' (bad C.Bo ρ' M) ρ' M s' v → (∀ d, hd'.dst = some d → get stF.env d = some s') →
        wpAny P .any ops Q (c + 5) (listed.setIfInBounds i true) (a.put oper'.dst v) w' := by
      intro ρ' s' v w' g1 g2 g3
      obtain ⟨k1, k2, k3⟩ := g1.putD (s := s') (v := v) hfd hn' g2
      refine ih _ _ _ ρ' (by have := unl_set hin hiu; omega) (inv.set hi hin) (k1.weak (by rw [putD_M]) fun n x hx => ?_) k2 (by rw [k3]; exact hd)
      show get (putD ⟨envL hs stF.env listed, M⟩ hd'.dst s').env n = some x
      simp only at hx
      rw [get_envL] at hx
      split at hx
      · cases hx
      · rename_i hnh
        rw [get_putD]
        by_cases hdn : hd'.dst = some n
        · rw [if_pos hdn, ← hx]; exact (g3 n hdn).symm
        · rw [if_neg hdn]
          show get (envL hs stF.env listed) n = some x
          rw [get_envL, if_neg]
          · exact hx
          · intro hh
            obtain ⟨j, hj, h1, h2, h3⟩ := hidden_iff.1 hh
            refine hnh (hidden_iff.2 ⟨j, hj, h1, ?_, h3⟩)
            have hji : i ≠ j := by intro e; subst e; rw [hhd] at h1; simp only [Option.some.injEq] at h1; subst h1; exact hdn h3
            rw [Go.getD_set_ne true hji]; exact h2
    have hrun : Runs C.G R (get stF.env) M hd'.o s → step C.G R hd'.o ⟨envL hs stF.env listed, M⟩ (fun s st' => some (s, st')) = some (s, ⟨envL hs stF.env listed, M⟩) := fun hr =>
      hr _ (.inl rfl) fun n hn => hsee n (by simp [Head.reads, hn])
    have hgo : Runs C.G R (get stF.env) M hd'.o s → oper'.wp P a w (wpAny P .any ops Q (c + 5) (listed.setIfInBounds i true)) Q := fun hr =>
      (step_ok hR hI (hrun hr) hfo).wp fun v w' ⟨ρ', g1, g2⟩ => hfin ρ' s v w' g1 g2 hsd
    unfold wpOp
    simp only [hoper]
    unfold Yields at hy
    cases hgd : hd'.guard with
    | none =>
      rw [hgd] at hy hfg
      have hgo' : oper'.guard = none := by
        cases hh : oper'.guard with
        | none => rfl
        | some x => rw [hh] at hfg; simp [fitGuard] at hfg
      rw [if_pos (by simp [Region.wanted, hgo'])]
      exact .inl (hgo hy)
    | some gw =>
      obtain ⟨g, want⟩ := gw
      rw [hgd] at hy hfg
      obtain ⟨b, hb, hy⟩ := hy
      have hb' : wantsNow (get (envL hs stF.env listed) g) want = some b := by rw [hsee g (by simp [Head.reads, hgd])]; exact hb
      have hw := guard_ok hI hfg hb' (o := oper') rfl
      cases b
      · rw [if_neg (by rw [hw]; simp)]
        refine hfin ρ (.imm (.tup [])) undef w hI skip_rel fun d hdd => ?_
        rw [if_neg (by simp)] at hy
        rw [← hy]; exact hsd d hdd
      · rw [if_pos hw]
        rw [if_pos rfl] at hy
        exact .inl (hgo hy)

/-- Are these the five? -/
def fiveB (P : Program) (ops : Array Oper) (nt n dl da de dx : Nat) (x k : AO) : List Oper → Bool
  | [oL, oA, oE, oX, oS] =>
    (match oL.op, oA.op, oE.op, oX.op, oS.op with
    | .lookup T xL kL false, .binOp .add _ (.tmp d1) (.const (.int .i64 n1)) _, .mapEntry T2 xE kE, .extract (.tmp e1) j1, .entryStore T3 xS (.tmp s1) (.tmp s2) =>
      Nat.beq T T2 && Nat.beq T T3 && Nat.beq d1 dl && decide (n1 = 1) && Nat.beq e1 de && Nat.beq j1 1 && Nat.beq s1 dx && Nat.beq s2 da && fitO x xL && fitO x xE && fitO x xS && fitO k kL && fitO k kE &&
        (match P.underlying T with | some (.map kk _) => structOk P kk [2, 2] | _ => false) && lookTy P T (.int .i64 0)
    | _, _, _, _, _ => false) &&
    fitDst nt (some dl) oL.dst && fitDst nt (some da) oA.dst && fitDst nt (some de) oE.dst && fitDst nt (some dx) oX.dst && fitDst nt none oS.dst &&
    oL.guard.isNone && oA.guard.isNone && oE.guard.isNone && oX.guard.isNone && oS.guard.isNone
  | _ => false
def incB (P : Program) (ops : Array Oper) (nt n dl da de dx : Nat) (x k : AO) : Bool :=
  fiveB P ops nt n dl da de dx x k (ops.toList.drop n) && (!Nat.beq dl da && !Nat.beq dl de && !Nat.beq dl dx && !Nat.beq da de && !Nat.beq da dx && !Nat.beq de dx) &&
    Region.waitsFor .any ops (n + 1) n && Region.waitsFor .any ops (n + 3) (n + 2) && Region.waitsFor .any ops (n + 4) (n + 1) && Region.waitsFor .any ops (n + 4) (n + 3) && backB ops (n + 5) && aheadB ops n
theorem fitDst_some {nt d : Nat} {o : Option Nat} (h : fitDst nt (some d) o = true) : o = some d ∧ d < nt := by
  cases o with
  | none => simp [fitDst] at h
  | some v =>
    simp only [fitDst, Bool.and_eq_true] at h
    exact ⟨by rw [Nat.eq_of_beq_eq_true h.1], Nat.le_of_ble_eq_true h.2⟩
theorem incB_ok {ops : Array Oper} {nt n dl da de dx : Nat} {x k : AO} (h : incB P ops nt n dl da de dx x k = true) : Nonempty (Five P ops nt n dl da de dx x k) ∧ aheadB ops n = true := by
  simp only [incB, Bool.and_eq_true, Bool.not_eq_true'] at h
  obtain ⟨⟨⟨⟨⟨⟨⟨h1, h2⟩, h3⟩, h4⟩, h5⟩, h6⟩, h7⟩, h8⟩ := h
  refine ⟨?_, h8⟩
  have nb : ∀ {u v : Nat}, Nat.beq u v = false → u ≠ v := fun h e => by rw [e, Nat.beq_refl] at h; cases h
  generalize hd : ops.toList.drop n = l at h1
  unfold fiveB at h1
  split at h1
  · rename_i oL oA oE oX oS
    simp only [Bool.and_eq_true, Option.isNone_iff_eq_none] at h1
    obtain ⟨⟨⟨⟨⟨⟨⟨⟨⟨⟨m0, d1⟩, d2⟩, d3⟩, d4⟩, d5⟩, g1⟩, g2⟩, g3⟩, g4⟩, g5⟩ := h1
    have at_ : ∀ (j : Nat) (o : Oper), [oL, oA, oE, oX, oS][j]? = some o → ops[n + j]? = some o := by
      intro j o hj
      rw [← hd, List.getElem?_drop, Array.getElem?_toList] at hj
      exact hj
    have hsz : ops.size = n + 5 := by
      have := congrArg List.length hd
      rw [List.length_drop, Array.length_toList] at this
      simp at this
      omega
    split at m0
    · rename_i T xL kL tA e1' n1 uA T2 xE kE e1 j1 T3 xS s1 s2 q1 q2 q3 q4 q5
      simp only [Bool.and_eq_true, decide_eq_true_eq] at m0
      obtain ⟨⟨⟨⟨⟨⟨⟨⟨⟨⟨⟨⟨⟨⟨z1, z2⟩, z3⟩, z4⟩, z5⟩, z6⟩, z7⟩, z8⟩, z9⟩, z10⟩, z11⟩, z12⟩, z13⟩, z14⟩, z15⟩ := m0
      have z1 := Nat.eq_of_beq_eq_true z1; have z2 := Nat.eq_of_beq_eq_true z2; have z3 := Nat.eq_of_beq_eq_true z3; have z5 := Nat.eq_of_beq_eq_true z5
      have z6 := Nat.eq_of_beq_eq_true z6; have z7 := Nat.eq_of_beq_eq_true z7; have z8 := Nat.eq_of_beq_eq_true z8
      subst z1; subst z2; subst z3; subst z4; subst z5; subst z6; subst z7; subst z8
      split at z14
      · rename_i kk e hT
        obtain ⟨a1, b1⟩ := fitDst_some d1
        obtain ⟨a2, b2⟩ := fitDst_some d2
        obtain ⟨a3, b3⟩ := fitDst_some d3
        obtain ⟨a4, b4⟩ := fitDst_some d4
        have a5 : oS.dst = none := by
          cases hq : oS.dst with
          | none => rfl
          | some v => rw [hq] at d5; simp [fitDst] at d5
        exact ⟨{ T := _, kk := kk, e := e, xL := xL, kL := kL, xE := xE, kE := kE, xS := xS, oL := oL, oA := oA, oE := oE, oX := oX, oS := oS, iL := at_ 0 _ rfl, iA := at_ 1 _ rfl, iE := at_ 2 _ rfl, iX := at_ 3 _ rfl, iS := at_ 4 _ rfl, size := hsz, pL := ⟨q1, a1, g1⟩, tA := _, uA := _, pA := ⟨q2, a2, g2⟩, pE := ⟨q3, a3, g3⟩, pX := ⟨q4, a4, g4⟩, pS := ⟨q5, a5, g5⟩, hT := hT, hk := z14, he := z15, fx := ⟨z9, z10, z11⟩, fk := ⟨z12, z13⟩, lt := ⟨b1, b2, b3, b4⟩, ne := ⟨nb h2.1.1.1.1.1, nb h2.1.1.1.1.2, nb h2.1.1.1.2, nb h2.1.1.2, nb h2.1.2, nb h2.2⟩, wA := h3, wX := h4, wSA := h5, wSX := h6, back := h7 }⟩
      · cases z14
    · cases m0
  · cases h1

/-- `m[k]++` among operations that leave the memory alone: what follows sees the map with one more at the key. -/
def evI {α : Type} (G : List (Nat × List AV)) (R : Nat → List AV → Option Res) (dl da de dx : Nat) (x k : AO) (q : List AStep) (st : St) (K : St → Option α) : Option α :=
  evQ G R q st fun st' => (x.ev G ⟨dropE [dl, da, de, dx] st'.env, st'.M⟩).bind fun s => (k.ev G ⟨dropE [dl, da, de, dx] st'.env, st'.M⟩).bind fun u => match s, u with
    | .mp t, .imm ka => (get st'.M t).bind fun b => (match b with
      | .map es => need (keyS ka && knownS ka es) (K ⟨dropE [dl, da, de, dx] st'.env, setM st'.M t (.map (incS ka es))⟩)
      | _ => none)
    | _, _ => none
theorem draw_okI (hm : P.follows .mixedOrders = true) (hR : RSound P C.G R) {nt id dl da de dx : Nat} {x k : AO} {ops : Array Oper} {Q : Exit → Act → World → Prop} {q : List AStep} (hf : fitSteps P nt ops q (ops.toList.take (headsOf q).length) = true) (hA : apartL (headsOf q) = true) (hW : waitsB ops (headsOf q) = true) (hB : incB P ops nt (headsOf q).length dl da de dx x k = true)
    {α : Type} {K : St → Option α} {r : α} {ρ : Rho} {st : St} {a : Act} {w : World} (hI : Inv C ρ st a.tmps w) (hn : a.tmps.size = nt) (hd : a.defers = [])
    (h : evI C.G R dl da de dx x k q st K = some r) (hk : ∀ ρ' st' a' w', K st' = some r → Inv C ρ' st' a'.tmps w' → a'.tmps.size = nt → a'.defers = [] → Q .normal a' w') :
    (Code.region id ops true).wp P Q a w := by
  obtain ⟨⟨F⟩, hah⟩ := incB_ok hB
  have hsz := F.size
  unfold evI at h
  obtain ⟨stF, h1, h2, h3, h4⟩ := evQ_facts hA h
  simp only [Option.bind_eq_some_iff] at h1
  obtain ⟨s, hs, u, hu, h1⟩ := h1
  split at h1
  case h_2 => cases h1
  rename_i t ka
  simp only [Option.bind_eq_some_iff] at h1
  obtain ⟨blk, hblk, h1⟩ := h1
  split at h1
  case h_2 => cases h1
  rename_i es
  obtain ⟨hne, h1⟩ := need_some h1
  simp only [Bool.and_eq_true] at hne
  have hfit := (fitSteps_heads (q := q) (tail := []) (os := ops.toList.take (headsOf q).length) (by simpa using hf)).1
  refine wp_region_any hm ?_
  have hI' : Inv C ρ st a.tmps { w with drawn := w.drawn + 1 } := hI.grow ⟨Nat.le_refl _, fun _ _ _ => rfl, ⟨rfl, rfl, rfl⟩⟩
  have hun : unl (headsOf q).length (Array.replicate ops.size false) = (headsOf q).length := by
    unfold unl
    rw [List.countP_eq_length.2]
    · simp
    · intro i hi
      have := List.mem_range.1 hi
      simp [show i < ops.size by omega]
  have := draw_anyI (Q := Q) (M := stF.M) hR F rfl (fun i h hi => by
      obtain ⟨oper, ho, hrest⟩ := hfit i h hi
      refine ⟨oper, ?_, hrest⟩
      rw [List.getElem?_take] at ho
      split at ho
      · exact ho
      · cases ho) hA hW hah rfl (fun i h hi => by rw [h2]; exact h3 i h hi) hblk hs hu hne.1 hne.2 (fun ρ' a' w' k1 k2 k3 => hk ρ' _ a' w' h1 k1 k2 k3)
    (headsOf q).length (Array.replicate ops.size false) a { w with drawn := w.drawn + 1 } ρ hun
    ⟨by simp, fun j oj _ hl => (by rw [getD_replicate_false] at hl; cases hl), fun t _ ht => getD_in (by simpa using ht) (getD_replicate_false _ _)⟩
    (hI'.weak h2 fun n s hs => ?_) hn hd
  · exact (congrArg (fun m => wpAny P .any ops Q m (Array.replicate ops.size false) a { w with drawn := w.drawn + 1 }) hsz).mpr this
  · simp only at hs
    rw [get_envL] at hs
    split at hs
    · cases hs
    · rename_i hnh
      rw [← h4 n fun k hk hkd => ?_]
      · exact hs
      · obtain ⟨i, hi⟩ := List.mem_iff_getElem?.1 hk
        refine hnh (hidden_iff.2 ⟨i, k, hi, ?_, hkd⟩)
        have := (List.getElem?_eq_some_iff.1 hi).1
        simp [show i < ops.size by omega]
end five

def rptrO (G : List (Nat × List AV)) (st : St) (x : AO) : Bool := match x.ev G st with | some (.rptr _) => true | _ => false
/-- Does it leave the memory that may change alone altogether? -/
def isCalm (G : List (Nat × List AV)) (st : St) : AOp → Bool
  | .iaddr x _ _ _ => immO G st x
  | .load x _ _ => rptrO G st x
  | .fld _ _ _ => true
  | .faddr _ _ => true
  | .len _ _ => true
  | .bslice _ _ _ => true
  | .call _ _ _ => true
  | o => isFree o
theorem rptrO_some {G : List (Nat × List AV)} {st : St} {x : AO} (h : rptrO G st x = true) : ∃ v, x.ev G st = some (.rptr v) := by
  unfold rptrO at h; split at h
  · exact ⟨_, by assumption⟩
  · cases h
theorem calm_two {β : Type} {G : List (Nat × List AV)} {R : Nat → List AV → Option Res} {o : AOp} {st st2 : St} {K : SV → St → Option β} (hq : quietNow G st o = true) (hf : isCalm G st o = true) (hr : ∀ n ∈ o.reads, get st2.env n = get st.env n) :
    step G R o st2 K = (step G R o st fun s st' => some (s, st')).bind fun p => K p.1 st2 := by
  by_cases hfree : isFree o = true
  · exact free_two hq hfree hr
  have leaf : ∀ s, K s st2 = (some (s, st)).bind fun p : SV × St => K p.1 st2 := fun _ => rfl
  have leaf' : ∀ s, K s (st2.withM st2.M) = (some (s, st.withM st.M)).bind fun p : SV × St => K p.1 st2 := fun _ => rfl
  cases o <;> simp only [isCalm] at hf <;> try exact absurd hf hfree
  case fld x off sz =>
    simp only [AOp.reads] at hr
    simp only [step]
    repeat' first
      | contradiction | exact leaf _ | exact p_none
      | (refine p_ev (fun n hn => hr n (by simp [hn])) fun _ => ?_)
      | (with_reducible refine p_bind fun _ => ?_) | (with_reducible refine p_need ?_) | split
  case faddr x off =>
    simp only [AOp.reads] at hr
    simp only [step]
    repeat' first
      | contradiction | exact leaf _ | exact p_none
      | (refine p_ev (fun n hn => hr n (by simp [hn])) fun _ => ?_)
      | (with_reducible refine p_bind fun _ => ?_) | (with_reducible refine p_need ?_) | split
  case len x str =>
    simp only [AOp.reads] at hr
    simp only [step]
    repeat' first
      | contradiction | exact leaf _ | exact p_none
      | (refine p_ev (fun n hn => hr n (by simp [hn])) fun _ => ?_)
      | (with_reducible refine p_cond ?_ ?_) | split
  case load x sz ty =>
    simp only [AOp.reads] at hr
    obtain ⟨v, hv⟩ := rptrO_some hf
    simp only [step]
    rw [ev_reads (st := st) (st2 := st2) hr, hv]
    simp only [Option.bind_some]
    repeat' first
      | contradiction | exact leaf _ | exact p_none
      | (with_reducible refine p_bind fun _ => ?_) | (with_reducible refine p_need ?_) | (with_reducible refine p_asTy _ _ fun _ => ?_) | split
  case iaddr x i sz ty =>
    simp only [AOp.reads, List.mem_append] at hr
    obtain ⟨v, hv⟩ := immO_some hf
    simp only [step]
    rw [ev_reads (st := st) (st2 := st2) (x := x) (fun n hn => hr n (by simp [hn])), hv, ev_reads (st := st) (st2 := st2) (x := i) (fun n hn => hr n (by simp [hn]))]
    simp only [Option.bind_some]
    repeat' first
      | contradiction | exact leaf _ | exact p_none
      | (with_reducible refine p_bind fun _ => ?_) | (with_reducible refine p_need ?_) | (with_reducible refine p_cond ?_ ?_) | (with_reducible refine p_asTy _ _ fun _ => ?_) | split
  case bslice parts sz by_ =>
    simp only [AOp.reads] at hr
    simp only [quietNow] at hq
    simp only [step]
    refine giveL_two (st := st) (st2 := st2) hq hr fun vs => ?_
    repeat' first
      | contradiction | exact leaf' _ | exact leaf _ | exact p_none
      | (with_reducible refine p_rowOf fun _ => ?_)
      | (with_reducible refine p_bind fun _ => ?_) | (with_reducible refine p_need ?_) | (with_reducible refine p_cond ?_ ?_) | split
  case call f xs ty =>
    simp only [AOp.reads] at hr
    simp only [quietNow] at hq
    simp only [step]
    refine giveL_two (st := st) (st2 := st2) hq hr fun vs => ?_
    repeat' first
      | contradiction | exact leaf' _ | exact leaf _ | exact p_none
      | (with_reducible refine p_bind fun _ => ?_) | (with_reducible refine p_need ?_) | (with_reducible refine p_cond ?_ ?_) | (with_reducible refine p_asTy _ _ fun _ => ?_) | split

/-- What holds looks at the memory tag by tag. -/
theorem RelS.sameM {w : World} {B : Nat → Prop} {ρ : Rho} {M M' : List (Nat × Blk)} (hM : ∀ t, get M' t = get M t) {s : SV} {v : Value} (h : RelS w B ρ M s v) : RelS w B ρ M' s v := by
  cases h with
  | imm v x h => exact .imm _ _ h
  | own t off len cap b o cp c blk hm hr hc hl hn => exact .own t off len cap b o cp c blk (by rw [hM]; exact hm) hr hc hl hn
  | ownNil t cap blk hm hr => exact .ownNil t cap blk (by rw [hM]; exact hm) hr
  | ptr t i off b o cp blk hm hr => exact .ptr t i off b o cp blk (by rw [hM]; exact hm) hr
  | rptr cs vs b o hb hB hr hs => exact .rptr cs vs b o hb hB hr hs
  | tupO t len rest vs b o cp c blk hm hr hc hl hn hv => exact .tupO t len rest vs b o cp c blk (by rw [hM]; exact hm) hr hc hl hn hv
  | tupNil t rest vs blk hm hr hv => exact .tupNil t rest vs blk (by rw [hM]; exact hm) hr hv
  | mp t b o cp blk hm hr => exact .mp t b o cp blk (by rw [hM]; exact hm) hr
  | dead v => exact .dead v
theorem bad_sameM {Bo : Nat → Prop} {ρ : Rho} {M M' : List (Nat × Blk)} (hM : ∀ t, get M' t = get M t) : bad Bo ρ M' = bad Bo ρ M := by
  funext b
  unfold bad
  simp only [hM]
theorem RelBlk.sameM {w : World} {B : Nat → Prop} {ρ : Rho} {M M' : List (Nat × Blk)} (hM : ∀ t, get M' t = get M t) {b o cp : Nat} {blk : Blk} (h : RelBlk w B ρ M b o cp blk) : RelBlk w B ρ M' b o cp blk := by
  cases blk with
  | box cs =>
    obtain ⟨cells, e, fr, h1, h2, h3, h4⟩ := h
    exact ⟨cells, e, fr, h1, h2, h3, fun j s hs => let ⟨v, a, b⟩ := h4 j s hs; ⟨v, a, b.sameM hM⟩⟩
  | _ => exact h
theorem Inv.sameM {C : Cx} {ρ : Rho} {env : List (Nat × SV)} {M M' : List (Nat × Blk)} {tm : Array Value} {w : World} (h : Inv C ρ ⟨env, M⟩ tm w) (hM : ∀ t, get M' t = get M t) : Inv C ρ ⟨env, M'⟩ tm w where
  ext := h.ext
  env := fun n s hn => by
    obtain ⟨h1, h2⟩ := h.env n s hn
    refine ⟨h1, ?_⟩
    show RelS w (bad C.Bo ρ M') ρ M' s _
    rw [bad_sameM hM]; exact h2.sameM hM
  mem := fun t blk ht => by
    have ht' : get M t = some blk := by rw [← hM]; exact ht
    rcases h.mem t blk ht' with ⟨b, o, cp, h1, h2, h3, h4⟩ | h1
    · refine .inl ⟨b, o, cp, h1, ?_, h3, h4⟩
      show RelBlk w (bad C.Bo ρ M') ρ M' b o cp blk
      rw [bad_sameM hM]; exact h2.sameM hM
    · exact .inr h1
  inj := fun t t' blk blk' b o cp b' o' cp' h1 h2 => h.inj t t' blk blk' b o cp b' o' cp' (by rw [← hM]; exact h1) (by rw [← hM]; exact h2)
  glob := by show GOk C.G (bad C.Bo ρ M') w; rw [bad_sameM hM]; exact h.glob
  bo := h.bo
  pin := fun t blk ht hg => h.pin t blk ht (by rw [← hM]; exact hg)
def hidT (ct : Nat → Option Nat) (n : Nat) (listed : Array Bool) (u : Nat) : Bool := (List.range n).any fun i => !listed.getD i true && (match ct i with | some t => Nat.beq t u | none => false)
theorem hidT_iff {ct : Nat → Option Nat} {n : Nat} {listed : Array Bool} {u : Nat} : hidT ct n listed u = true ↔ ∃ i, i < n ∧ listed.getD i true = false ∧ ct i = some u := by
  unfold hidT
  rw [List.any_eq_true]
  constructor
  · rintro ⟨i, hi, h⟩
    simp only [Bool.and_eq_true, Bool.not_eq_true'] at h
    refine ⟨i, List.mem_range.1 hi, h.1, ?_⟩
    have h2 := h.2
    split at h2
    · rename_i t ht; rw [ht, Nat.eq_of_beq_eq_true h2]
    · cases h2
  · rintro ⟨i, hi, h1, h2⟩
    refine ⟨i, List.mem_range.2 hi, ?_⟩
    rw [h1, h2]; simp
/-- The memory, as far as it is made. -/
def madeL (ct : Nat → Option Nat) (n : Nat) (M : List (Nat × Blk)) (listed : Array Bool) : List (Nat × Blk) := M.filter fun e => !hidT ct n listed e.1
theorem get_madeL {ct : Nat → Option Nat} {n : Nat} {M : List (Nat × Blk)} {listed : Array Bool} {u : Nat} : get (madeL ct n M listed) u = if hidT ct n listed u = true then none else get M u := get_filterK _ _ _
/-- An operation that makes a row or a variable, whatever else there is. -/
def Makes (G : List (Nat × List AV)) (R : Nat → List AV → Option Res) (E : Nat → Option SV) (o : AOp) (t : Nat) (s : SV) (b : Blk) : Prop :=
  ∀ st2 : St, (∀ n ∈ o.reads, get st2.env n = E n) → step G R o st2 (fun s st' => some (s, st')) = some (s, ⟨killE t st2.env, (t, b) :: killM t st2.M⟩)
def RunsC (G : List (Nat × List AV)) (R : Nat → List AV → Option Res) (E : Nat → Option SV) (o : AOp) (s : SV) : Prop :=
  ∀ st2 : St, (∀ n ∈ o.reads, get st2.env n = E n) → step G R o st2 (fun s st' => some (s, st')) = some (s, st2)
def YieldsC (G : List (Nat × List AV)) (R : Nat → List AV → Option Res) (E : Nat → Option SV) (h : Head) (s : SV) : Prop :=
  match h.guard with
  | none => RunsC G R E h.o s
  | some (g, want) => ∃ b, wantsNow (E g) want = some b ∧ (if b = true then RunsC G R E h.o s else s = .imm (.tup []))
theorem get_killMX (t u : Nat) (M : List (Nat × Blk)) : get (killM t M) u = if u = t then none else (get M u).map (Blk.kill t) := by
  unfold killM
  induction M with
  | nil => simp [get]
  | cons e r ih =>
    obtain ⟨k, b⟩ := e
    rw [List.filter_cons]
    by_cases hk : k = t
    · subst hk
      simp only [Nat.beq_refl, Bool.not_true, Bool.false_eq_true, if_false]
      rw [ih, get_cons]
      by_cases hu : u = k
      · simp [hu]
      · simp [hu]
    · have hb : (!(Nat.beq k t)) = true := by rw [Bool.not_eq_true']; cases h : Nat.beq k t; rfl; exact absurd (Nat.eq_of_beq_eq_true h) hk
      simp only [hb, if_true, List.map_cons]
      rw [get_cons, get_cons, ih]
      by_cases hu : u = k
      · subst hu; simp [hk]
      · simp [hu]

section code
variable {P : Program} {C : Cx} {R : Nat → List AV → Option Res}

theorem draw_anyX (hR : RSound P C.G R) {nt : Nat} {ops : Array Oper} {Q : Exit → Act → World → Prop} {hs : List Head} {p0 : Nat} {d0 : Option Nat} {o0 : AOp} {ct : Nat → Option Nat}
    (hfit : ∀ (i : Nat) (h : Head), hs[i]? = some h → ∃ oper, ops.toList[i]? = some oper ∧ fitDst nt h.dst oper.dst = true ∧ fitGuard ops h.guard oper.guard = true ∧ fits P h.o oper.op = true)
    (hB : drawB ops hs = true)
    (hp0 : hs[p0]? = some ⟨d0, none, o0⟩) (hc0 : ct p0 = none)
    {E0 : List (Nat × SV)} {MF M1 : List (Nat × Blk)} {kl : List (Nat × SV) → List (Nat × SV)} {κ : SV → SV} (hkl : ∀ env n, get (kl env) n = (get env n).map κ)
    (hgrow : ∀ (i : Nat) (h : Head), i ≠ p0 → hs[i]? = some h → (∀ d, d0 = some d → d ∉ h.reads) ∧ (Region.waitsFor .any ops p0 i = true ∨ (ct i = none ∧ (∀ n ∈ h.reads, ∀ s, get E0 n = some s → κ s = s) ∧ (∀ d, h.dst = some d → ∀ s, get E0 d = some s → κ s = s))))
    (hfacts : ∀ (i : Nat) (h : Head), i ≠ p0 → hs[i]? = some h → ct i = none → ∃ s, YieldsC C.G R (get E0) h s ∧ (∀ d, h.dst = some d → get E0 d = some s))
    (hmake : ∀ (i : Nat) (h : Head) (t : Nat), hs[i]? = some h → ct i = some t → ∃ s b d, Makes C.G R (get E0) h.o t s b ∧ h.guard = none ∧ h.dst = some d ∧ get E0 d = some s ∧ get MF t = some b ∧ (∀ n x, get E0 n = some x → n ≠ d → x.kill t = x) ∧ (∀ u x, get MF u = some x → x.kill t = x))
    (hdist : ∀ i j t, ct i = some t → ct j = some t → i = j)
    {s1 : SV} (hspec : ∀ env2, (∀ n ∈ o0.reads, get env2 n = get E0 n) → step C.G R o0 ⟨env2, MF⟩ (fun s st' => some (s, st')) = some (s1, ⟨kl env2, M1⟩))
    (hend : ∀ ρ a w, Inv C ρ ⟨(putD ⟨kl E0, M1⟩ d0 s1).env, M1⟩ a.tmps w → a.tmps.size = nt → a.defers = [] → wpList P ops Q (ops.toList.drop hs.length) a w) :
    ∀ (c : Nat) (listed : Array Bool) (a : Act) (w : World) (ρ : Rho), unl hs.length listed = c → HeadInv .any ops hs.length listed →
      Inv C ρ ⟨envL hs (if listed.getD p0 true = true then (putD ⟨kl E0, M1⟩ d0 s1).env else E0) listed, if listed.getD p0 true = true then M1 else madeL ct hs.length MF listed⟩ a.tmps w → a.tmps.size = nt → a.defers = [] →
      wpAny P .any ops Q (c + (ops.size - hs.length)) listed a w := by
  simp only [drawB, Bool.and_eq_true, Bool.or_eq_true] at hB
  obtain ⟨⟨⟨⟨⟨hA, hW⟩, hK⟩, hle⟩, hT⟩, hS⟩ := hB
  have hle := Nat.le_of_ble_eq_true hle
  have hp0l : p0 < hs.length := (List.getElem?_eq_some_iff.1 hp0).1
  intro c
  induction c with
  | zero =>
    intro listed a w ρ hc inv hI hn hd
    have hall : ∀ i, i < hs.length → listed.getD i true = true := by
      intro i hi
      unfold unl at hc
      rw [List.countP_eq_zero] at hc
      simpa using hc i (List.mem_range.2 hi)
    have hL : listed = doneL hs.length (ops.size - hs.length) := by
      apply Array.ext
      · rw [inv.size]; simp [doneL]; omega
      · intro i h1 h2
        have h3 : listed[i] = listed.getD i true := by simp [h1]
        rw [h3]
        by_cases hi : i < hs.length
        · rw [hall i hi]; simp [doneL, List.getElem_append, hi]
        · rw [inv.tail i (by omega) (by rw [← inv.size]; exact h1)]; simp [doneL, List.getElem_append, hi]
    rw [Nat.zero_add]
    have hln : ops.size - hs.length = (ops.toList.drop hs.length).length := by simp
    rw [hln]
    refine wpAny_of_seq (ops.toList.drop hs.length) hs.length listed a w (fun j => by rw [List.getElem?_drop, Array.getElem?_toList]) (by rw [hL, ← hln]; exact hS) ?_
    rw [hall p0 hp0l] at hI
    simp only [if_true] at hI
    refine hend ρ a w (hI.weak rfl fun n s hs' => ?_) hn hd
    show get (envL hs (putD ⟨kl E0, M1⟩ d0 s1).env listed) n = some s
    rw [get_envL, if_neg]
    · exact hs'
    · intro hh
      obtain ⟨i, h, h1, h2, _⟩ := hidden_iff.1 hh
      rw [hall i (List.getElem?_eq_some_iff.1 h1).1] at h2; cases h2
  | succ c ih =>
    intro listed a w ρ hc inv hI hn hd
    rw [show c + 1 + (ops.size - hs.length) = (c + (ops.size - hs.length)) + 1 by omega]
    have hex : ∃ i, i < hs.length ∧ listed.getD i true = false := by
      have : 0 < unl hs.length listed := by omega
      unfold unl at this
      rw [List.countP_pos_iff] at this
      obtain ⟨i, h1, h2⟩ := this
      exact ⟨i, List.mem_range.1 h1, by simpa using h2⟩
    have hmin : ∀ m, ∀ i, i ≤ m → i < hs.length → listed.getD i true = false → ∃ j, j ∈ Region.ready .any ops listed := by
      intro m
      induction m with
      | zero =>
        intro i hi hlt hu
        obtain rfl : i = 0 := by omega
        have hk := List.all_eq_true.1 hK 0 (List.mem_range.2 hlt)
        split at hk
        · rename_i o ho
          refine ⟨0, mem_ready.2 ⟨hu, o, ho, fun e he hb => ?_⟩⟩
          have := Array.all_eq_true'.1 hk e he
          simp [hb] at this
        · cases hk
      | succ m ihm =>
        intro i hi hlt hu
        have hk := List.all_eq_true.1 hK i (List.mem_range.2 hlt)
        split at hk
        · rename_i o ho
          by_cases hx : ∃ j, j < i ∧ listed.getD j true = false
          · obtain ⟨j, hj, hju⟩ := hx
            exact ihm j (by omega) (by omega) hju
          · refine ⟨i, mem_ready.2 ⟨hu, o, ho, fun e he hb => ?_⟩⟩
            have := Array.all_eq_true'.1 hk e he
            simp only [hb, Bool.not_true, Bool.false_or, decide_eq_true_eq] at this
            cases hle : listed.getD e.on false with
            | true => rfl
            | false =>
              exact absurd ⟨e.on, this, getD_in (by rw [inv.size]; omega) hle⟩ hx
        · cases hk
    obtain ⟨i0, hi0, hu0⟩ := hex
    refine ⟨fun h0 => ?_, fun i hi => ?_⟩
    · obtain ⟨j, hj⟩ := hmin i0 i0 (Nat.le_refl _) hi0 hu0
      rw [h0] at hj; cases hj
    obtain ⟨hiu, oper, hoper, hafter⟩ := mem_ready.1 hi
    have hisz : i < ops.size := (Array.getElem?_eq_some_iff.1 hoper).1
    have hin : i < hs.length := by
      rcases Nat.lt_or_ge i hs.length with h | h
      · exact h
      · rcases hT with hT | hT
        · have := Nat.eq_of_beq_eq_true hT; omega
        · exact absurd hi (tail_waits hT.1 hT.2 (by omega) inv _ i0 rfl hi0 hu0 i h)
    obtain ⟨hd', hhd⟩ : ∃ h, hs[i]? = some h := ⟨hs[i], by simp [hin]⟩
    obtain ⟨oper', ho', hfd, hfg, hfo⟩ := hfit i hd' hhd
    obtain rfl : oper' = oper := by rw [Array.getElem?_toList, hoper] at ho'; simpa using ho'.symm
    have hsee : ∀ (E : List (Nat × SV)), ∀ n ∈ hd'.reads, get (envL hs E listed) n = get E n := by
      intro E n hn
      rw [get_envL, if_neg]
      intro hh
      obtain ⟨j, hj, h1, h2, h3⟩ := hidden_iff.1 hh
      by_cases hij : i ≤ j
      · exact apartL_spec hA i j hd' hj hij hhd h1 n hn h3
      · have hw := waitsB_spec hW (by omega) hhd h1 hn h3
        obtain ⟨oj, hoj, e, he, hb, hon⟩ := Region.waitsFor_spec hw
        obtain rfl : oj = oper' := by rw [hoper] at hoj; simpa using hoj.symm
        have := hafter e he hb
        rw [hon, getD_both h2] at this; cases this
    -- one more is done
    have hfin : ∀ (E' : List (Nat × SV)) (M : List (Nat × Blk)) ρ' s' v w' (envX : List (Nat × SV)),
        E' = (if (listed.setIfInBounds i true).getD p0 true = true then (putD ⟨kl E0, M1⟩ d0 s1).env else E0) → (∀ u, get (if (listed.setIfInBounds i true).getD p0 true = true then M1 else madeL ct hs.length MF (listed.setIfInBounds i true)) u = get M u) →
        Inv C ρ' ⟨envX, M⟩ a.tmps w' → RelS w' (bad C.Bo ρ' M) ρ' M s' v → (∀ d, hd'.dst = some d → get E' d = some s') → (∀ n x, hd'.dst ≠ some n → hidden hs listed n = false → get E' n = some x → get envX n = some x) →
        wpAny P .any ops Q (c + (ops.size - hs.length)) (listed.setIfInBounds i true) (a.put oper'.dst v) w' := by
      intro E' M ρ' s' v w' envX hE hM g1 g2 g3 g4
      obtain ⟨k1, k2, k3⟩ := g1.putD (s := s') (v := v) hfd hn g2
      have k1' : Inv C ρ' ⟨(putD ⟨envX, M⟩ hd'.dst s').env, _⟩ _ _ := Inv.sameM (M := M) (by have hput : putD ⟨envX, M⟩ hd'.dst s' = ⟨(putD ⟨envX, M⟩ hd'.dst s').env, M⟩ := by { cases hd'.dst <;> rfl }; rw [hput] at k1; exact k1) hM
      refine ih _ _ _ ρ' (by have := unl_set hin hiu; omega) (inv.set hi hin) (k1'.weak rfl fun n x hx => ?_) k2 (by rw [k3]; exact hd)
      rw [← hE] at hx
      show get (putD ⟨envX, M⟩ hd'.dst s').env n = some x
      simp only at hx
      rw [get_envL] at hx
      split at hx
      · cases hx
      · rename_i hnh
        rw [get_putD]
        by_cases hdn : hd'.dst = some n
        · rw [if_pos hdn, ← hx]; exact (g3 n hdn).symm
        · rw [if_neg hdn]
          refine g4 n x hdn ?_ hx
          rw [← Bool.not_eq_true]
          intro hh
          obtain ⟨j, hj, h1, h2, h3⟩ := hidden_iff.1 hh
          refine hnh (hidden_iff.2 ⟨j, hj, h1, ?_, h3⟩)
          have hji : i ≠ j := by intro e; subst e; rw [hhd] at h1; simp only [Option.some.injEq] at h1; subst h1; exact hdn h3
          rw [Go.getD_set_ne true hji]; exact h2
    have hp0in : ∀ j : Nat, Region.waitsFor .any ops p0 j = true → listed.getD j true = false → listed.getD p0 true = false := by
      intro j hw hj
      cases hl : listed.getD p0 true with
      | false => rfl
      | true =>
        obtain ⟨oj, hoj, e, he, hb, hon⟩ := Region.waitsFor_spec hw
        have hjs : p0 < listed.size := by rw [inv.size]; omega
        have hlf : listed.getD p0 false = true := by simp [hjs] at hl ⊢; exact hl
        have := inv.closed p0 oj hoj hlf e he hb
        rw [hon, getD_both hj] at this; cases this
    have hwant : hd'.guard = none → Region.wanted oper' (yielded ops a.tmps) = true := by
      intro hg
      have hgo' : oper'.guard = none := by
        cases hh : oper'.guard with
        | none => rfl
        | some x => rw [hg, hh] at hfg; simp [fitGuard] at hfg
      simp [Region.wanted, hgo']
    unfold wpOp
    simp only [hoper]
    by_cases hip : i = p0
    · subst hip
      rw [hp0] at hhd
      simp only [Option.some.injEq] at hhd
      subst hhd
      rw [hiu] at hI
      simp only [Bool.false_eq_true, if_false] at hI
      have hall : ∀ u, hidT ct hs.length listed u = false := by
        intro u
        rw [← Bool.not_eq_true]
        intro hh
        obtain ⟨j, hj, h1, h2⟩ := hidT_iff.1 hh
        have hji : j ≠ i := by rintro rfl; rw [hc0] at h2; cases h2
        obtain ⟨hj', hhj⟩ : ∃ h, hs[j]? = some h := ⟨hs[j], by simp [hj]⟩
        rcases (hgrow j hj' hji hhj).2 with hw | ⟨hn0, _⟩
        · obtain ⟨oj, hoj, e, he, hb, hon⟩ := Region.waitsFor_spec hw
          obtain rfl : oj = oper' := by rw [hoper] at hoj; simpa using hoj.symm
          have := hafter e he hb
          rw [hon, getD_both h1] at this; cases this
        · rw [hn0] at h2; cases h2
      have hI2 : Inv C ρ ⟨envL hs E0 listed, MF⟩ a.tmps w := hI.sameM fun u => by rw [get_madeL, hall u]; simp
      have h1 := hspec (envL hs E0 listed) fun n hn => hsee E0 n (by simp [Head.reads, hn])
      rw [if_pos (hwant rfl)]
      have hset : (listed.setIfInBounds i true).getD i true = true := getD_set_true' (by rw [inv.size]; omega)
      refine .inl ((step_ok hR hI2 h1 hfo).wp fun v w' ⟨ρ', g1, g2⟩ => hfin _ M1 ρ' s1 v w' _ rfl (by rw [hset]; intro u; rfl) g1 g2 ?_ ?_)
      · intro d hdd
        simp only at hdd
        rw [hset]
        simp only [if_true]
        rw [get_putD, if_pos hdd]
      · intro n x hdn hnh hx'
        rw [hset] at hx'
        simp only [if_true] at hx'
        rw [get_putD, if_neg hdn] at hx'
        show get (kl (envL hs E0 listed)) n = some x
        rw [hkl, get_envL, if_neg (by rw [hnh]; simp), ← hkl]; exact hx'
    have hpset : (listed.setIfInBounds i true).getD p0 true = listed.getD p0 true := Go.getD_set_ne true hip
    obtain ⟨hr0, hgr⟩ := hgrow i hd' hip hhd
    have hnd0 : ∀ d, hd'.dst = some d → d0 ≠ some d := fun d hdd e => apartL_dst hA p0 i _ hd' (fun e => hip e.symm) hp0 hhd d e hdd
    cases hct : ct i with
    | some t =>
      -- something is made
      obtain ⟨s, b, d, m1, m2, m3, m4, m5, m6, m7⟩ := hmake i hd' t hhd hct
      have hl : listed.getD p0 true = false := by
        rcases hgr with hw | ⟨hn0, _⟩
        · exact hp0in i hw hiu
        · rw [hct] at hn0; cases hn0
      rw [hl] at hI
      simp only [Bool.false_eq_true, if_false] at hI
      have h1 := m1 ⟨envL hs E0 listed, madeL ct hs.length MF listed⟩ fun n hn => hsee E0 n (by simp [Head.reads, hn])
      rw [if_pos (hwant m2)]
      refine .inl ((step_ok hR hI h1 hfo).wp fun v w' ⟨ρ', g1, g2⟩ => hfin E0 _ ρ' s v w' _ (by rw [hpset, hl]; rfl) ?_ g1 g2 ?_ ?_)
      · intro u
        rw [hpset, hl]
        simp only [Bool.false_eq_true, if_false]
        rw [get_madeL, get_cons, get_killMX, get_madeL]
        have hlen : i < hs.length := hin
        by_cases hu : u = t
        · subst hu
          rw [if_pos rfl, if_neg]
          · exact m5
          · intro hh
            obtain ⟨j, hj, h1, h2⟩ := hidT_iff.1 hh
            obtain rfl := hdist i j u hct h2
            rw [getD_set_true' (by rw [inv.size]; omega)] at h1; cases h1
        · rw [if_neg hu, if_neg hu]
          have e : hidT ct hs.length (listed.setIfInBounds i true) u = hidT ct hs.length listed u := by
            rw [Bool.eq_iff_iff, hidT_iff, hidT_iff]
            constructor
            · rintro ⟨j, hj, h1, h2⟩
              have hji : i ≠ j := by rintro rfl; rw [hct] at h2; exact hu (Option.some.inj h2).symm
              exact ⟨j, hj, by rw [Go.getD_set_ne true hji] at h1; exact h1, h2⟩
            · rintro ⟨j, hj, h1, h2⟩
              have hji : i ≠ j := by rintro rfl; rw [hct] at h2; exact hu (Option.some.inj h2).symm
              exact ⟨j, hj, by rw [Go.getD_set_ne true hji]; exact h1, h2⟩
          rw [e]
          by_cases hh : hidT ct hs.length listed u = true
          · rw [if_pos hh]; rfl
          · rw [if_neg hh]
            cases hg : get MF u with
            | none => rfl
            | some z => rw [Option.map_some, m7 u z hg]
      · intro d' hd2
        rw [m3] at hd2
        simp only [Option.some.injEq] at hd2
        subst hd2
        exact m4
      · intro n x hdn hnh hx'
        show get (killE t (envL hs E0 listed)) n = some x
        rw [get_killE, get_envL, if_neg (by rw [hnh]; simp), hx', Option.map_some]
        have : x.kill t = x := m6 n x hx' fun e => hdn (by rw [m3, e])
        rw [this]
    | none =>
      obtain ⟨s, hy, hsd⟩ := hfacts i hd' hip hhd hct
      -- what is read and what is given is the same, ahead of it and behind it
      obtain ⟨E, M, hE, hM, hEr, hEd⟩ : ∃ (E : List (Nat × SV)) (M : List (Nat × Blk)), E = (if listed.getD p0 true = true then (putD ⟨kl E0, M1⟩ d0 s1).env else E0) ∧ M = (if listed.getD p0 true = true then M1 else madeL ct hs.length MF listed) ∧
          (∀ n ∈ hd'.reads, get E n = get E0 n) ∧ (∀ d, hd'.dst = some d → get E d = get E0 d) := by
        cases hl : listed.getD p0 true with
        | false => exact ⟨E0, _, rfl, rfl, fun _ _ => rfl, fun _ _ => rfl⟩
        | true =>
          refine ⟨_, M1, rfl, rfl, ?_⟩
          rcases hgr with hw | ⟨_, hc1, hc2⟩
          · rw [hp0in i hw hiu] at hl; cases hl
          · refine ⟨fun n hn => ?_, fun d hdd => ?_⟩
            · simp only [if_true]
              rw [get_putD, if_neg (fun e => hr0 n e hn), hkl]
              cases hg : get E0 n with
              | none => rfl
              | some z => rw [Option.map_some, hc1 n hn z hg]
            · simp only [if_true]
              rw [get_putD, if_neg (hnd0 d hdd), hkl]
              cases hg : get E0 d with
              | none => rfl
              | some z => rw [Option.map_some, hc2 d hdd z hg]
      rw [← hE, ← hM] at hI
      have hMs : ∀ u, get (if (listed.setIfInBounds i true).getD p0 true = true then M1 else madeL ct hs.length MF (listed.setIfInBounds i true)) u = get M u := by
        intro u
        rw [hpset, hM]
        split
        · rfl
        · rw [get_madeL, get_madeL]
          have e : hidT ct hs.length (listed.setIfInBounds i true) u = hidT ct hs.length listed u := by
            rw [Bool.eq_iff_iff, hidT_iff, hidT_iff]
            constructor
            · rintro ⟨j, hj, h1, h2⟩
              have hji : i ≠ j := by rintro rfl; rw [hct] at h2; cases h2
              exact ⟨j, hj, by rw [Go.getD_set_ne true hji] at h1; exact h1, h2⟩
            · rintro ⟨j, hj, h1, h2⟩
              have hji : i ≠ j := by rintro rfl; rw [hct] at h2; cases h2
              exact ⟨j, hj, by rw [Go.getD_set_ne true hji]; exact h1, h2⟩
          rw [e]
      have hgo2 : ∀ s' v w' ρ', Inv C ρ' ⟨envL hs E listed, M⟩ a.tmps w' → RelS w' (bad C.Bo ρ' M) ρ' M s' v → (∀ d, hd'.dst = some d → get E0 d = some s') →
          wpAny P .any ops Q (c + (ops.size - hs.length)) (listed.setIfInBounds i true) (a.put oper'.dst v) w' := by
        intro s' v w' ρ' g1 g2 g3
        refine hfin E M ρ' s' v w' _ (by rw [hpset]; exact hE) hMs g1 g2 (fun d hdd => by rw [hEd d hdd]; exact g3 d hdd) fun n x hdn hnh hx' => ?_
        rw [get_envL, if_neg (by rw [hnh]; simp)]; exact hx'
      have hrun : RunsC C.G R (get E0) hd'.o s → step C.G R hd'.o ⟨envL hs E listed, M⟩ (fun s st' => some (s, st')) = some (s, ⟨envL hs E listed, M⟩) := fun hr =>
        hr _ fun n hn => by
          show get (envL hs E listed) n = get E0 n
          rw [hsee E n (by simp [Head.reads, hn]), hEr n (by simp [Head.reads, hn])]
      have hgo : RunsC C.G R (get E0) hd'.o s → oper'.wp P a w (wpAny P .any ops Q (c + (ops.size - hs.length)) (listed.setIfInBounds i true)) Q := fun hr =>
        (step_ok hR hI (hrun hr) hfo).wp fun v w' ⟨ρ', g1, g2⟩ => hgo2 s v w' ρ' g1 g2 hsd
      unfold YieldsC at hy
      cases hgd : hd'.guard with
      | none =>
        rw [hgd] at hy
        rw [if_pos (hwant hgd)]
        exact .inl (hgo hy)
      | some gw =>
        obtain ⟨g, want⟩ := gw
        rw [hgd] at hy hfg
        obtain ⟨b, hb, hy⟩ := hy
        have hb' : wantsNow (get (envL hs E listed) g) want = some b := by rw [hsee E g (by simp [Head.reads, hgd]), hEr g (by simp [Head.reads, hgd])]; exact hb
        have hw := guard_ok hI hfg hb' (o := oper') rfl
        cases b
        · rw [if_neg (by rw [hw]; simp)]
          refine hgo2 (.imm (.tup [])) undef w ρ hI skip_rel fun d hdd => ?_
          rw [if_neg (by simp)] at hy
          rw [← hy]; exact hsd d hdd
        · rw [if_pos hw]
          rw [if_pos rfl] at hy
          exact .inl (hgo hy)
end code

def makeTag : AOp → Option Nat
  | .alloc t _ => some t
  | .callOwn t _ _ _ _ _ => some t
  | _ => none
def makeNow (G : List (Nat × List AV)) (st : St) : AOp → Bool
  | .alloc _ _ => true
  | .callOwn _ _ xs _ _ _ => immsL G st xs
  | _ => false
def ownR (t sz : Nat) (by_ : Bool) (st : St) (M : List (Nat × Blk)) (v : AV) : Option (SV × St) := match by_, v with
  | true, .bytes s => some (.own t 0 s.length none, (st.kill t).withM ((t, .bytes s false) :: killM t st.M))
  | false, .row z s => need (Nat.beq z sz) (some (.own t 0 s.length none, ((st.withM M).kill t).withM ((t, .row sz s false) :: killM t M)))
  | _, _ => none
theorem make_two {G : List (Nat × List AV)} {R : Nat → List AV → Option Res} {o : AOp} {t : Nat} {st : St} (ht : makeTag o = some t) (hq : makeNow G st o = true) {s : SV} {st1 : St} (h : step G R o st (fun s st' => some (s, st')) = some (s, st1)) :
    ∃ b, st1 = ⟨killE t st.env, (t, b) :: killM t st.M⟩ ∧ Makes G R (get st.env) o t s b := by
  cases o <;> simp only [makeTag, reduceCtorEq, Option.some.injEq] at ht
  case alloc t' z =>
    subst ht
    simp only [step, Option.some.injEq, Prod.mk.injEq] at h
    obtain ⟨rfl, rfl⟩ := h
    exact ⟨_, rfl, fun st2 hr => rfl⟩
  case callOwn t' f xs sz ty by_ =>
    subst ht
    simp only [makeNow] at hq
    have st2eq : ∀ st2 : St, step G R (.callOwn t' f xs sz ty by_) st2 (fun s st' => some (s, st')) = giveL G st2.env st2.M xs fun vs M => (R f vs).bind fun r => bif r.own then ownR t' sz by_ st2 M r.v else none := fun _ => rfl
    rw [st2eq, giveL_imm (M := st.M) (M0 := st.M) (env := st.env) (xs := xs) hq, Option.bind_eq_some_iff] at h
    obtain ⟨vs, hvs, h⟩ := h
    rw [Option.bind_eq_some_iff] at h
    obtain ⟨r, hr, h⟩ := h
    cases ho : r.own
    · rw [ho] at h; cases h
    rw [ho] at h
    simp only [cond_true] at h
    have two : ∀ st2 : St, (∀ n ∈ (AOp.callOwn t' f xs sz ty by_).reads, get st2.env n = get st.env n) → step G R (.callOwn t' f xs sz ty by_) st2 (fun s st' => some (s, st')) = ownR t' sz by_ st2 st2.M r.v := by
      intro st2 hrd
      simp only [AOp.reads] at hrd
      rw [st2eq, giveL_imm (M := st2.M) (M0 := st2.M) (env := st2.env) (xs := xs) (by rw [← hq]; exact immsL_reads hrd)]
      rw [show immL G ⟨st2.env, st2.M⟩ xs = immL G ⟨st.env, st.M⟩ xs from immL_reads hrd, hvs, Option.bind_some, hr, Option.bind_some, ho]
      rfl
    generalize r.v = v at h two
    have fin : ∀ b : Blk, (∀ st2 : St, ownR t' sz by_ st2 st2.M v = some (s, ⟨killE t' st2.env, (t', b) :: killM t' st2.M⟩)) → st1 = ⟨killE t' st.env, (t', b) :: killM t' st.M⟩ → ∃ b, st1 = ⟨killE t' st.env, (t', b) :: killM t' st.M⟩ ∧ Makes G R (get st.env) (.callOwn t' f xs sz ty by_) t' s b :=
      fun b h1 h2 => ⟨b, h2, fun st2 hrd => (two st2 hrd).trans (h1 st2)⟩
    cases by_ <;> cases v <;> first | (cases h; done) | skip
    · have h' := h
      simp only [ownR] at h'
      obtain ⟨hz, h'⟩ := need_some h'
      simp only [Option.some.injEq, Prod.mk.injEq] at h'
      obtain ⟨rfl, rfl⟩ := h'
      refine fin _ (fun st2 => ?_) rfl
      simp only [ownR, need, hz, cond_true]
      rfl
    · simp only [ownR, Option.some.injEq, Prod.mk.injEq] at h
      obtain ⟨rfl, rfl⟩ := h
      exact fin _ (fun st2 => rfl) rfl

def blkOff (t : Nat) : Blk → Bool
  | .box cs => cs.all fun s => !s.ment t
  | _ => true
theorem blkOff_kill {t : Nat} {b : Blk} (h : blkOff t b = true) : b.kill t = b := by
  cases b with
  | box cs =>
    simp only [blkOff, List.all_eq_true, Bool.not_eq_true'] at h
    show Blk.box (cs.map (SV.kill t)) = _
    have e : cs.map (SV.kill t) = cs.map id := List.map_congr_left fun s hs => kill_of (h s hs)
    rw [e, List.map_id]
  | _ => rfl
def freshB (t : Nat) (st : St) : Bool := st.env.all (fun e => !e.2.ment t) && st.M.all fun e => !Nat.beq e.1 t && blkOff t e.2
theorem killE_id {t : Nat} {env : List (Nat × SV)} (h : env.all (fun e => !e.2.ment t) = true) : killE t env = env := by
  simp only [List.all_eq_true, Bool.not_eq_true'] at h
  have e : (env.map fun e => (e.1, e.2.kill t)) = env.map id := List.map_congr_left fun e he => by
    show (e.1, e.2.kill t) = e
    rw [kill_of (h e he)]
  exact e.trans (List.map_id _)
theorem killM_id {t : Nat} {M : List (Nat × Blk)} (h : M.all (fun e => !Nat.beq e.1 t && blkOff t e.2) = true) : killM t M = M := by
  simp only [List.all_eq_true, Bool.and_eq_true] at h
  unfold killM
  rw [List.filter_eq_self.2 fun e he => (h e he).1]
  have e : (M.map fun e => (e.1, e.2.kill t)) = M.map id := List.map_congr_left fun e he => by
    show (e.1, e.2.kill t) = e
    rw [blkOff_kill (h e he).2]
  exact e.trans (List.map_id _)
theorem get_off {t : Nat} {M : List (Nat × Blk)} (h : M.all (fun e => !Nat.beq e.1 t && blkOff t e.2) = true) : get M t = none := by
  cases hg : get M t with
  | none => rfl
  | some b =>
    have := congrArg (fun M => get M t) (killM_id h)
    simp only [get_killMX, if_true] at this
    rw [hg] at this; cases this

/-- Calm operations, and operations that make rows and variables, one behind the other. -/
def evX {α : Type} (G : List (Nat × List AV)) (R : Nat → List AV → Option Res) : List AStep → St → (St → Option α) → Option α
  | [], st, K => K st
  | .split g :: r, st, K => match get st.env g with
    | some (.imm (.bool b)) => bif b then evX G R r (st.put g (.imm (.bool true))) K else evX G R r (st.put g (.imm (.bool false))) K
    | some (.imm (.tup [])) => evX G R r st K
    | _ => none
  | .op dst none o :: r, st, K => match makeTag o with
    | some t => need (makeNow G st o && freshB t st) (step G R o st fun s st' => after o st' dst s fun st'' => evX G R r st'' K)
    | none => need (quietNow G st o && isCalm G st o) (step G R o st fun s st' => after o st dst s fun st'' => evX G R r st'' K)
  | .op dst (some (g, want)) o :: r, st, K => match makeTag o, wantsNow (get st.env g) want with
    | none, some true => need (quietNow G st o && isCalm G st o) (step G R o st fun s st' => after o st dst s fun st'' => evX G R r st'' K)
    | none, some false => evX G R r (putD st dst (.imm (.tup []))) K
    | _, _ => none

theorem calm_runs {α : Type} {G : List (Nat × List AV)} {R : Nat → List AV → Option Res} {o : AOp} {st : St} {K : SV → St → Option α} {r : α} (hq : quietNow G st o = true) (hc : isCalm G st o = true) (h : step G R o st K = some r) :
    ∃ s, K s st = some r ∧ RunsC G R (get st.env) o s := by
  rw [calm_two (st2 := st) hq hc fun _ _ => rfl, Option.bind_eq_some_iff] at h
  obtain ⟨⟨s, st'⟩, h1, h2⟩ := h
  refine ⟨s, h2, fun st2 hr => ?_⟩
  rw [calm_two (st := st) hq hc hr, h1]; rfl

def FactX (G : List (Nat × List AV)) (R : Nat → List AV → Option Res) (E : Nat → Option SV) (M : List (Nat × Blk)) (h : Head) : Prop := match makeTag h.o with
  | none => ∃ s, YieldsC G R E h s ∧ ∀ d, h.dst = some d → E d = some s
  | some t => h.guard = none ∧ ∃ s b, Makes G R E h.o t s b ∧ (∀ d, h.dst = some d → E d = some s) ∧ get M t = some b

def OutX {α : Type} (G : List (Nat × List AV)) (R : Nat → List AV → Option Res) (K : St → Option α) (r : α) (hs : List Head) (st : St) : Prop :=
  ∃ stF, K stF = some r ∧ (∀ (i : Nat) (h : Head), hs[i]? = some h → FactX G R (get stF.env) stF.M h) ∧ (∀ n, (∀ h ∈ hs, h.dst ≠ some n) → get stF.env n = get st.env n) ∧
    (∀ t, (∀ h ∈ hs, makeTag h.o ≠ some t) → get stF.M t = get st.M t) ∧ (∀ h ∈ hs, ∀ t, makeTag h.o = some t → get st.M t = none)

theorem evX_facts {α : Type} {G : List (Nat × List AV)} {R : Nat → List AV → Option Res} {K : St → Option α} {r : α} : ∀ {q : List AStep} {st : St}, apartL (headsOf q) = true → evX G R q st K = some r → OutX G R K r (headsOf q) st
  | [], st, _, h => ⟨st, h, by simp [headsOf], fun _ _ => rfl, fun _ _ => rfl, by simp [headsOf]⟩
  | .split g :: q, st, hA, h => by
    simp only [evX] at h
    split at h
    · rename_i b hb
      have key : ∀ b', b' = b → evX G R q (st.put g (.imm (.bool b'))) K = some r → OutX G R K r (headsOf q) st := by
        intro b' hb' hh
        subst hb'
        obtain ⟨stF, h1, h2, h3, h4, h5⟩ := evX_facts (q := q) hA hh
        refine ⟨stF, h1, h2, fun n hn => (h3 n hn).trans ?_, h4, h5⟩
        rw [get_put]
        by_cases hng : n = g
        · subst hng; rw [if_pos rfl, hb]
        · rw [if_neg hng]
      cases b
      · exact key false rfl h
      · exact key true rfl h
    · exact evX_facts (q := q) hA h
    · cases h
  | .op dst gd o :: q, st, hA, h => by
    simp only [headsOf, apartL, Bool.and_eq_true, List.all_eq_true, Bool.not_eq_true'] at hA
    obtain ⟨⟨hA1, hA2⟩, hA3⟩ := hA
    have far : ∀ {stF : St} {env : List (Nat × SV)} {M : List (Nat × Blk)} {s : SV}, (∀ n, (∀ h ∈ headsOf q, h.dst ≠ some n) → get stF.env n = get (putD ⟨env, M⟩ dst s).env n) → (∀ n ∈ (⟨dst, gd, o⟩ : Head).reads, get stF.env n = get env n) ∧ (∀ d, dst = some d → get stF.env d = some s) := by
      intro stF env M s h4
      refine ⟨fun n hn => ?_, fun d hd => ?_⟩
      · rw [h4 n fun k hk => isD_false.1 (hA1 k (List.mem_cons_of_mem _ hk) n hn), get_putD, if_neg]
        exact isD_false.1 (hA1 ⟨dst, gd, o⟩ List.mem_cons_self n hn)
      · subst hd
        rw [h4 d fun k hk => isD_false.1 (by simpa using hA2 k hk), get_putD, if_pos rfl]
    have key : ∀ s, makeTag o = none → evX G R q (putD st dst s) K = some r → YieldsC G R (get st.env) ⟨dst, gd, o⟩ s → OutX G R K r (headsOf (.op dst gd o :: q)) st := by
      intro s hmt h hy
      obtain ⟨stF, h1, h2, h3, h4, h5⟩ := evX_facts (q := q) hA3 h
      obtain ⟨f1, f2⟩ := far (stF := stF) (env := st.env) (M := st.M) (s := s) h3
      rw [putD_M] at h4 h5
      refine ⟨stF, h1, fun i h hi => ?_, fun n hn => ?_, fun t ht => h4 t fun k hk => ht k (by simp [headsOf, hk]), fun k hk t ht => ?_⟩
      · cases i with
        | zero =>
          simp only [headsOf, List.getElem?_cons_zero, Option.some.injEq] at hi
          subst hi
          unfold FactX
          rw [show makeTag (⟨dst, gd, o⟩ : Head).o = none from hmt]
          refine ⟨s, ?_, f2⟩
          unfold YieldsC at hy ⊢
          cases gd with
          | none => exact fun st2 hr => hy st2 fun n hn => (hr n hn).trans (f1 n (by simp [Head.reads, hn]))
          | some gw =>
            obtain ⟨g, want⟩ := gw
            obtain ⟨b, hb, hy⟩ := hy
            refine ⟨b, by rw [f1 g (by simp [Head.reads])]; exact hb, ?_⟩
            split
            · rename_i hbw; rw [if_pos hbw] at hy; exact fun st2 hr => hy st2 fun n hn => (hr n hn).trans (f1 n (by simp [Head.reads, hn]))
            · rename_i hbw; rw [if_neg hbw] at hy; exact hy
        | succ i => simp only [headsOf, List.getElem?_cons_succ] at hi; exact h2 i h hi
      · rw [h3 n fun k hk => hn k (by simp [headsOf, hk]), get_putD, if_neg]
        exact hn ⟨dst, gd, o⟩ (by simp [headsOf])
      · simp only [headsOf, List.mem_cons] at hk
        rcases hk with rfl | hk
        · rw [show makeTag (⟨dst, gd, o⟩ : Head).o = none from hmt] at ht; cases ht
        · exact h5 k hk t ht
    cases gd with
    | none =>
      simp only [evX, after_eq] at h
      cases hmt : makeTag o with
      | none =>
        rw [hmt] at h
        obtain ⟨hq, h⟩ := need_some h
        rw [Bool.and_eq_true] at hq
        obtain ⟨s, h1, h2⟩ := calm_runs hq.1 hq.2 h
        exact key s hmt h1 h2
      | some t =>
        rw [hmt] at h
        obtain ⟨hq, h⟩ := need_some h
        rw [Bool.and_eq_true] at hq
        have hfr := hq.2
        unfold freshB at hfr
        rw [Bool.and_eq_true] at hfr
        rw [step_par, Option.bind_eq_some_iff] at h
        obtain ⟨⟨s, st1⟩, g1, g2⟩ := h
        obtain ⟨b, rfl, hmk⟩ := make_two hmt hq.1 g1
        rw [killE_id hfr.1, killM_id hfr.2] at g2
        obtain ⟨stF, h1, h2, h3, h4, h5⟩ := evX_facts (q := q) hA3 g2
        obtain ⟨f1, f2⟩ := far (stF := stF) (env := st.env) (M := (t, b) :: st.M) (s := s) h3
        rw [putD_M] at h4 h5
        have hnt : ∀ k ∈ headsOf q, makeTag k.o ≠ some t := fun k hk e => by
          have := h5 k hk t e
          simp [get_cons] at this
        refine ⟨stF, h1, fun i h hi => ?_, fun n hn => ?_, fun u hu => ?_, fun k hk u hu => ?_⟩
        · cases i with
          | zero =>
            simp only [headsOf, List.getElem?_cons_zero, Option.some.injEq] at hi
            subst hi
            unfold FactX
            rw [show makeTag (⟨dst, none, o⟩ : Head).o = some t from hmt]
            exact ⟨rfl, s, b, fun st2 hr => hmk st2 fun n hn => (hr n hn).trans (f1 n (by simp [Head.reads, hn])), f2, by rw [h4 t hnt]; simp [get_cons]⟩
          | succ i => simp only [headsOf, List.getElem?_cons_succ] at hi; exact h2 i h hi
        · rw [h3 n fun k hk => hn k (by simp [headsOf, hk]), get_putD, if_neg]
          exact hn ⟨dst, none, o⟩ (by simp [headsOf])
        · rw [h4 u fun k hk => hu k (by simp [headsOf, hk]), get_cons, if_neg]
          rintro rfl
          exact hu ⟨dst, none, o⟩ (by simp [headsOf]) hmt
        · simp only [headsOf, List.mem_cons] at hk
          rcases hk with rfl | hk
          · rw [show makeTag (⟨dst, none, o⟩ : Head).o = some t from hmt] at hu
            simp only [Option.some.injEq] at hu
            subst hu
            exact get_off hfr.2
          · have := h5 k hk u hu
            rw [get_cons] at this
            split at this
            · cases this
            · exact this
    | some gw =>
      obtain ⟨g, want⟩ := gw
      simp only [evX, after_eq] at h
      split at h
      · rename_i hmt hb
        obtain ⟨hq, h⟩ := need_some h
        rw [Bool.and_eq_true] at hq
        obtain ⟨s, h1, h2⟩ := calm_runs hq.1 hq.2 h
        exact key s hmt h1 ⟨true, hb, by rw [if_pos rfl]; exact h2⟩
      · rename_i hmt hb
        exact key _ hmt h ⟨false, hb, by rw [if_neg (by simp)]⟩
      · cases h

/-- The one special operation. -/
def specNow (G : List (Nat × List AV)) (st : St) : AOp → Bool
  | .app t x _ _ _ _ => ownIs G st x t
  | .store _ _ _ => true
  | _ => false
def cleanX (ws : List Nat) (o : AOp) (env : List (Nat × SV)) (hs : List Head) : Bool := match o with
  | .app t _ _ _ _ _ => cleanA ws t env hs
  | _ => true
def offX (st : St) (hs : List Head) : Bool := hs.all fun h => match makeTag h.o with
  | some t => (match h.dst with | some d => st.env.all (fun e => Nat.beq e.1 d || !e.2.ment t) && st.M.all (fun e => blkOff t e.2) | none => false)
  | none => true
def tagAt (hs : List Head) (i : Nat) : Option Nat := match hs[i]? with | some h => makeTag h.o | none => none
def growX (ops : Array Oper) (ws : List Nat) (p0 : Nat) (dst : Option Nat) (hs : List Head) : Bool :=
  drawB ops hs && (List.range hs.length).all (fun i => (List.range hs.length).all fun j => Nat.beq i j || (match tagAt hs i, tagAt hs j with | some t, some u => !Nat.beq t u | _, _ => true)) &&
    (List.range hs.length).all fun i => Nat.beq i p0 || (match hs[i]? with
      | some h => (match dst with | some d => h.reads.all fun n => !Nat.beq n d | none => true) && (Region.waitsFor .any ops p0 i || ((makeTag h.o).isNone && !inW ws h))
      | none => false)
theorem mem_get {α : Type} : ∀ {l : List (Nat × α)} {n : Nat} {x : α}, get l n = some x → (n, x) ∈ l
  | [], n, x, h => by simp [get] at h
  | (k, b) :: r, n, x, h => by
    rw [get_cons] at h
    split at h
    · rename_i e
      simp only [Option.some.injEq] at h
      subst h; subst e
      exact List.mem_cons_self
    · exact List.mem_cons_of_mem _ (mem_get h)

section code
variable {P : Program} {C : Cx} {R : Nat → List AV → Option Res}
theorem draw_okX (hm : P.follows .mixedOrders = true) (hR : RSound P C.G R) {nt id : Nat} {ops : Array Oper} {Q : Exit → Act → World → Prop} {q1 q2 tail : List AStep} {ws : List Nat} {dst : Option Nat} {o0 : AOp}
    (hf : fitSteps P nt ops ((q1 ++ .op dst none o0 :: q2) ++ tail) ops.toList = true) (hG : growX ops ws (headsOf q1).length dst (headsOf q1 ++ (⟨dst, none, o0⟩ : Head) :: headsOf q2) = true)
    {α : Type} {K : St → Option α} {r : α} {ρ : Rho} {st : St} {a : Act} {w : World} (hI : Inv C ρ st a.tmps w) (hn : a.tmps.size = nt) (hd : a.defers = [])
    (h : evX C.G R (q1 ++ q2) st (fun st' => need (specNow C.G st' o0 && cleanX ws o0 st'.env (headsOf (q1 ++ q2)) && offX st' (headsOf (q1 ++ q2))) (evOps C.G R (.op dst none o0 :: tail) st' K)) = some r) (hk : ∀ ρ' st' a' w', K st' = some r → Inv C ρ' st' a'.tmps w' → a'.tmps.size = nt → a'.defers = [] → Q .normal a' w') :
    (Code.region id ops true).wp P Q a w := by
  simp only [growX, Bool.and_eq_true] at hG
  obtain ⟨⟨hB, hDis⟩, hG⟩ := hG
  obtain ⟨hfit0, hfitT⟩ := fitSteps_heads hf
  have hcut : headsOf (q1 ++ .op dst none o0 :: q2) = headsOf q1 ++ (⟨dst, none, o0⟩ : Head) :: headsOf q2 := by rw [headsOf_append]; rfl
  have hA : apartL (headsOf q1 ++ (⟨dst, none, o0⟩ : Head) :: headsOf q2) = true := by have h := hB; simp only [drawB, Bool.and_eq_true] at h; exact h.1.1.1.1.1
  have hle : (headsOf q1 ++ (⟨dst, none, o0⟩ : Head) :: headsOf q2).length ≤ ops.size := by have h := hB; simp only [drawB, Bool.and_eq_true] at h; exact Nat.le_of_ble_eq_true h.1.1.2
  obtain ⟨stF, h1, h3, h4, h5, h6⟩ := evX_facts (by rw [headsOf_append]; exact apartL_drop hA) h
  obtain ⟨hneed, h1⟩ := need_some h1
  simp only [Bool.and_eq_true] at hneed
  obtain ⟨⟨hspecN, hclean⟩, hoff⟩ := hneed
  rw [headsOf_append] at h3 h4 h5 h6 hclean hoff
  rw [evOps] at h1
  rw [step_par, Option.bind_eq_some_iff] at h1
  obtain ⟨⟨s1, st1⟩, g1, g2⟩ := h1
  simp only [after_eq] at g2
  obtain ⟨eF, MF⟩ := stF
  obtain ⟨kl, κ, M1, hkl, hspec, hst1, hmt0, hκ⟩ : ∃ (kl : List (Nat × SV) → List (Nat × SV)) (κ : SV → SV) (M1 : List (Nat × Blk)), (∀ env n, get (kl env) n = (get env n).map κ) ∧ (∀ env2, (∀ n ∈ o0.reads, get env2 n = get eF n) → step C.G R o0 ⟨env2, MF⟩ (fun s st' => some (s, st')) = some (s1, ⟨kl env2, M1⟩)) ∧ st1 = ⟨kl eF, M1⟩ ∧ makeTag o0 = none ∧
      (∀ h ∈ headsOf q1 ++ headsOf q2, inW ws h = false → (∀ n ∈ h.reads, ∀ s, get eF n = some s → κ s = s) ∧ (∀ d, h.dst = some d → ∀ s, get eF d = some s → κ s = s)) := by
    cases o0 <;> simp only [specNow, Bool.false_eq_true] at hspecN
    case store x y sz =>
      have genv := store_env g1
      refine ⟨fun e => e, fun s => s, st1.M, fun env n => by cases get env n <;> rfl, fun env2 hr => store_two (st := ⟨eF, MF⟩) (st2 := ⟨env2, MF⟩) rfl hr g1, ?_, rfl, fun _ _ _ => ⟨fun _ _ _ _ => rfl, fun _ _ _ _ => rfl⟩⟩
      obtain ⟨e1, M1⟩ := st1
      simp only at genv
      rw [genv]
    case app t x y sz ty by_ =>
      obtain ⟨off, len, cap, hx⟩ : ∃ off len cap, x.ev C.G ⟨eF, MF⟩ = some (.own t off len cap) := by
        unfold ownIs at hspecN
        split at hspecN
        · rename_i u off len cap heq
          have := Nat.eq_of_beq_eq_true hspecN
          subst this
          exact ⟨off, len, cap, heq⟩
        · cases hspecN
      have genv := (app_two rfl (fun _ _ => rfl) hx g1).2
      refine ⟨fun e => killE t (killE t e), SV.kill t, st1.M, fun env n => get_killE2 t n env, fun env2 hr => (app_two (st := ⟨eF, MF⟩) (st2 := ⟨env2, MF⟩) rfl hr hx g1).1, ?_, rfl, fun k hk hw => ?_⟩
      · obtain ⟨e1, M1⟩ := st1
        simp only at genv
        rw [genv]
      · simp only [cleanX] at hclean
        have hc := List.all_eq_true.1 hclean k hk
        rw [hw] at hc
        simp only [Bool.false_or, Bool.and_eq_true, List.all_eq_true] at hc
        refine ⟨fun n hn s hs => kill_of ?_, fun d hdd s hs => kill_of ?_⟩
        · have := hc.1 n hn
          unfold cleanS at this
          simp only [hs] at this
          simpa using this
        · have := hc.2
          rw [hdd] at this
          simp only at this
          unfold cleanS at this
          simp only [hs] at this
          simpa using this
  subst hst1
  have hend : ∀ ρ' a' w', Inv C ρ' ⟨(putD ⟨kl eF, M1⟩ dst s1).env, M1⟩ a'.tmps w' → a'.tmps.size = nt → a'.defers = [] → wpList P ops Q (ops.toList.drop (headsOf q1 ++ (⟨dst, none, o0⟩ : Head) :: headsOf q2).length) a' w' := by
    intro ρ' a' w' k1 k2 k3
    have e : (headsOf q1 ++ (⟨dst, none, o0⟩ : Head) :: headsOf q2).length = (headsOf (q1 ++ .op dst none o0 :: q2)).length := by rw [hcut]
    have e2 : putD ⟨kl eF, M1⟩ dst s1 = ⟨(putD ⟨kl eF, M1⟩ dst s1).env, M1⟩ := by cases dst <;> rfl
    rw [e]
    rw [← e2] at k1
    exact evOps_ok hR hfitT k1 k2 g2 fun ρ2 st2 a2 w2 m1 m2 m3 m4 => hk ρ2 st2 a2 w2 m1 m2 m3 (m4.trans k3)
  rw [hcut] at hfit0
  generalize hs1 : headsOf q1 = l1 at *
  generalize hs2 : headsOf q2 = l2 at *
  have hs0 : (l1 ++ (⟨dst, none, o0⟩ : Head) :: l2)[l1.length]? = some (⟨dst, none, o0⟩ : Head) := by simp
  have shift : ∀ (i : Nat) (h : Head), i ≠ l1.length → (l1 ++ (⟨dst, none, o0⟩ : Head) :: l2)[i]? = some h → ∃ j : Nat, (l1 ++ l2)[j]? = some h := by
    intro i h hi hh
    by_cases hlt : i < l1.length
    · rw [List.getElem?_append_left hlt] at hh
      exact ⟨i, by rw [List.getElem?_append_left hlt]; exact hh⟩
    · rw [List.getElem?_append_right (by omega)] at hh
      obtain ⟨k, hk⟩ : ∃ k, i - l1.length = k + 1 := ⟨i - l1.length - 1, by omega⟩
      rw [hk, List.getElem?_cons_succ] at hh
      exact ⟨l1.length + k, by rw [List.getElem?_append_right (by omega), Nat.add_sub_cancel_left]; exact hh⟩
  have back : ∀ (j : Nat) (h : Head), (l1 ++ l2)[j]? = some h → ∃ i : Nat, (l1 ++ (⟨dst, none, o0⟩ : Head) :: l2)[i]? = some h := by
    intro j h hj
    by_cases hlt : j < l1.length
    · exact ⟨j, by rw [List.getElem?_append_left hlt] at hj ⊢; exact hj⟩
    · rw [List.getElem?_append_right (by omega)] at hj
      exact ⟨j + 1, by rw [List.getElem?_append_right (by omega), show j + 1 - l1.length = (j - l1.length) + 1 by omega, List.getElem?_cons_succ]; exact hj⟩
  refine wp_region_any hm ?_
  have hI' : Inv C ρ st a.tmps { w with drawn := w.drawn + 1 } := hI.grow ⟨Nat.le_refl _, fun _ _ _ => rfl, ⟨rfl, rfl, rfl⟩⟩
  generalize hhs : l1 ++ (⟨dst, none, o0⟩ : Head) :: l2 = hs at *
  have hun : unl hs.length (Array.replicate ops.size false) = hs.length := by
    unfold unl
    rw [List.countP_eq_length.2]
    · simp
    · intro i hi
      have := List.mem_range.1 hi
      simp [show i < ops.size by omega]
  have hl0 : l1.length < hs.length := (List.getElem?_eq_some_iff.1 hs0).1
  have hfl : (Array.replicate ops.size false).getD l1.length true = false := getD_in (by simp; omega) (getD_replicate_false _ _)
  have htag : ∀ i h, hs[i]? = some h → tagAt hs i = makeTag h.o := fun i h hh => by unfold tagAt; rw [hh]
  have := draw_anyX (Q := Q) (ct := tagAt hs) (MF := MF) (M1 := M1) (E0 := eF) hR hfit0 hB hs0 (by rw [htag _ _ hs0]; exact hmt0) hkl (fun i h hi hh => by
      have hq := List.all_eq_true.1 hG i (List.mem_range.2 (List.getElem?_eq_some_iff.1 hh).1)
      rw [hh] at hq
      simp only [Bool.or_eq_true, Bool.and_eq_true, Bool.not_eq_true', Option.isNone_iff_eq_none] at hq
      rcases hq with hq | ⟨hq1, hq2⟩
      · exact absurd (Nat.eq_of_beq_eq_true hq) hi
      refine ⟨fun d hdd hmem => ?_, ?_⟩
      · rw [hdd] at hq1
        simp only [List.all_eq_true] at hq1
        have := hq1 d hmem
        rw [Nat.beq_refl] at this; cases this
      · rcases hq2 with hq2 | ⟨hq2, hq3⟩
        · exact .inl hq2
        · obtain ⟨j, hj⟩ := shift i h hi hh
          obtain ⟨c1, c2⟩ := hκ h (List.mem_of_getElem? hj) hq3
          exact .inr ⟨by rw [htag i h hh]; exact hq2, c1, c2⟩) (fun i h hi hh hct => by
      obtain ⟨j, hj⟩ := shift i h hi hh
      have hx := h3 j h hj
      rw [htag i h hh] at hct
      unfold FactX at hx
      rw [hct] at hx
      exact hx) (fun i h t hh hct => by
      have hi : i ≠ l1.length := by
        rintro rfl
        rw [hs0] at hh
        simp only [Option.some.injEq] at hh
        subst hh
        rw [htag _ _ hs0, hmt0] at hct; cases hct
      obtain ⟨j, hj⟩ := shift i h hi hh
      have hx := h3 j h hj
      rw [htag i h hh] at hct
      unfold FactX at hx
      rw [hct] at hx
      obtain ⟨x1, s, b, x2, x3, x4⟩ := hx
      have ho := List.all_eq_true.1 hoff h (List.mem_of_getElem? hj)
      rw [hct] at ho
      simp only at ho
      split at ho
      · rename_i d hdd
        simp only [Bool.and_eq_true, List.all_eq_true, Bool.or_eq_true, Bool.not_eq_true'] at ho
        refine ⟨s, b, d, x2, x1, hdd, x3 d hdd, x4, fun n x hg hnd => kill_of ?_, fun u x hg => blkOff_kill (ho.2 _ (mem_get hg))⟩
        rcases ho.1 _ (mem_get hg) with e | e
        · exact absurd (Nat.eq_of_beq_eq_true e) hnd
        · exact e
      · cases ho) (fun i j t hi hj => by
      by_cases e : i = j
      · exact e
      have hil : i < hs.length := by
        unfold tagAt at hi; split at hi
        · rename_i h hh; exact (List.getElem?_eq_some_iff.1 hh).1
        · cases hi
      have hjl : j < hs.length := by
        unfold tagAt at hj; split at hj
        · rename_i h hh; exact (List.getElem?_eq_some_iff.1 hh).1
        · cases hj
      have := List.all_eq_true.1 (List.all_eq_true.1 hDis i (List.mem_range.2 hil)) j (List.mem_range.2 hjl)
      rw [hi, hj] at this
      simp only [Nat.beq_refl, Bool.not_true, Bool.or_false] at this
      exact Nat.eq_of_beq_eq_true this) hspec hend
    hs.length (Array.replicate ops.size false) a { w with drawn := w.drawn + 1 } ρ hun
    ⟨by simp, fun j oj _ hl => (by rw [getD_replicate_false] at hl; cases hl), fun t _ ht => getD_in (by simpa using ht) (getD_replicate_false _ _)⟩
    (by
      rw [hfl]
      simp only [Bool.false_eq_true, if_false]
      have hMs : ∀ u, get (madeL (tagAt hs) hs.length MF (Array.replicate ops.size false)) u = get st.M u := by
        intro u
        rw [get_madeL]
        by_cases hh : hidT (tagAt hs) hs.length (Array.replicate ops.size false) u = true
        · rw [if_pos hh]
          obtain ⟨i, hi, _, h2⟩ := hidT_iff.1 hh
          obtain ⟨k, hk⟩ : ∃ h, hs[i]? = some h := ⟨hs[i], by simp [hi]⟩
          rw [htag i k hk] at h2
          have hne : i ≠ l1.length := by
            rintro rfl
            rw [hs0] at hk
            simp only [Option.some.injEq] at hk
            subst hk
            rw [hmt0] at h2; cases h2
          obtain ⟨j, hj⟩ := shift i k hne hk
          exact (h6 k (List.mem_of_getElem? hj) u h2).symm
        · rw [if_neg hh]
          refine h5 u fun k hk e => hh ?_
          obtain ⟨j, hj⟩ := List.mem_iff_getElem?.1 hk
          obtain ⟨i, hi⟩ := back j k hj
          have hil := (List.getElem?_eq_some_iff.1 hi).1
          exact hidT_iff.2 ⟨i, hil, by simp [show i < ops.size by omega], by rw [htag i k hi]; exact e⟩
      have hI2 : Inv C ρ ⟨st.env, madeL (tagAt hs) hs.length MF (Array.replicate ops.size false)⟩ a.tmps { w with drawn := w.drawn + 1 } := Inv.sameM (M := st.M) hI' hMs
      refine hI2.weak rfl fun n s hss => ?_
      simp only at hss
      rw [get_envL] at hss
      split at hss
      · cases hss
      · rename_i hnh
        show get st.env n = some s
        rw [← h4 n fun k hk hkd => ?_]
        · exact hss
        · obtain ⟨j, hj⟩ := List.mem_iff_getElem?.1 hk
          obtain ⟨i, hi⟩ := back j k hj
          refine hnh (hidden_iff.2 ⟨i, k, hi, ?_, hkd⟩)
          have := (List.getElem?_eq_some_iff.1 hi).1
          simp [show i < ops.size by omega]) hn hd
  rw [show hs.length + (ops.size - hs.length) = ops.size by omega] at this
  exact this
end code

/-- A variable's cells, told anew. -/
theorem Inv.rebox {C : Cx} {ρ : Rho} {st : St} {tm : Array Value} {w : World} (h : Inv C ρ st tm w) {u : Nat} {cs cs2 : List SV} (hm : get st.M u = some (.box cs)) (hl : cs2.length = cs.length)
    (hc : ∀ b o cp cells e fr, ρ u = some (b, o, cp) → w.heap[b]? = some (.cells cells e fr) → (∀ (j : Nat) (s : SV), cs[j]? = some s → ∃ v, cells[o + j]? = some v ∧ RelS w (bad C.Bo ρ st.M) ρ st.M s v) →
      ∀ (j : Nat) (s2 : SV), cs2[j]? = some s2 → ∃ v, cells[o + j]? = some v ∧ RelS w (bad C.Bo ρ st.M) ρ st.M s2 v) : Inv C ρ (st.withM (setM st.M u (.box cs2))) tm w := by
  have hsh : SameShape st.M (setM st.M u (.box cs2)) := shape_setM hm rfl rfl
  have hbad : ∀ x, bad C.Bo ρ (setM st.M u (.box cs2)) x → bad C.Bo ρ st.M x := fun x hx => bad_setM hm rfl x hx
  have back : ∀ t blk, get (setM st.M u (.box cs2)) t = some blk → ∃ blk0, get st.M t = some blk0 ∧ blk0.fz = blk.fz := by
    intro t blk ht
    rw [get_setM] at ht
    by_cases htu : t = u
    · subst htu
      rw [if_pos rfl] at ht
      simp only [Option.some.injEq] at ht
      subst ht
      exact ⟨_, hm, rfl⟩
    · rw [if_neg htu] at ht; exact ⟨_, ht, rfl⟩
  refine ⟨h.ext, fun n s hn => ?_, fun t blk ht => ?_, ?_, h.glob.mono (Agree.refl _ _) fun x _ hx => hbad x hx, h.bo, fun t blk ht hg => ?_⟩
  · exact ⟨(h.env n s hn).1, ((h.env n s hn).2.mono (Agree.refl _ _) fun x _ hx => hbad x hx).shape hsh⟩
  · have ht' := ht
    simp only [St.withM] at ht
    rw [get_setM] at ht
    by_cases htu : t = u
    · subst htu
      rw [if_pos rfl] at ht
      simp only [Option.some.injEq] at ht
      subst ht
      rcases h.mem t _ hm with ⟨b, o, cp, h1, h2, h3, h4⟩ | h1
      · obtain ⟨cells, e, fr, k1, k2, k3, k4⟩ := h2
        refine .inl ⟨b, o, cp, h1, ⟨cells, e, fr, k1, k2, by omega, fun j s hs => ?_⟩, h3, fun _ => h4 rfl⟩
        obtain ⟨v, g1, g2⟩ := hc b o cp cells e fr h1 k1 k4 j s hs
        exact ⟨v, g1, (g2.mono (Agree.refl _ _) fun x _ hx => hbad x hx).shape hsh⟩
      · exact h1.2.elim
    · rw [if_neg htu] at ht
      rcases h.mem t blk ht with ⟨b, o, cp, h1, h2, h3, h4⟩ | h1
      · exact .inl ⟨b, o, cp, h1, (h2.mono (Agree.refl _ _) (fun x _ hx => hbad x hx) rfl).shape hsh, h3, h4⟩
      · exact .inr h1
  · intro t t' blk blk' b o cp b' o' cp' h1 h2 h3 h4 h5 h6
    obtain ⟨blk0, g1, g2⟩ := back t blk h1
    obtain ⟨blk0', g3, g4⟩ := back t' blk' h2
    exact h.inj t t' blk0 blk0' b o cp b' o' cp' g1 g3 (by rw [g2]; exact h3) h4 h5 h6
  · obtain ⟨blk0, g1, g2⟩ := back t blk hg
    exact h.pin t blk0 ht g1

def isNilR (z : Nat) : Option SV → Bool
  | some (.imm (.nilR z')) => Nat.beq z' z
  | _ => false
/-- A row in a variable that is known to be nil becomes a row of one's own. -/
def ownzS (n off t z : Nat) (st : St) : Option St := (get st.env n).bind fun s => match s with
  | .ptr u _ _ => (get st.M u).bind fun b => match b with
    | .box cs => need (isNilR z cs[off]? && !Nat.beq u t && Nat.ble (t + 1) 900000) (some ⟨killE t st.env, setM ((t, .row z [] false) :: killM t st.M) u (.box ((cs.map (SV.kill t)).set off (.own t 0 0 none)))⟩)
    | _ => none
  | _ => none
theorem ownz_ok {C : Cx} {ρ : Rho} {st st' : St} {tm : Array Value} {w : World} {n off t z : Nat} (hI : Inv C ρ st tm w) (h : ownzS n off t z st = some st') : ∃ ρ', Inv C ρ' st' tm w := by
  unfold ownzS at h
  rw [Option.bind_eq_some_iff] at h
  obtain ⟨s, hs, h⟩ := h
  split at h
  case h_2 => cases h
  rename_i u i o
  rw [Option.bind_eq_some_iff] at h
  obtain ⟨b, hb, h⟩ := h
  split at h
  case h_2 => cases h
  rename_i cs
  obtain ⟨hn, h⟩ := need_some h
  simp only [Bool.and_eq_true, Bool.not_eq_true'] at hn
  obtain ⟨⟨h1, h2⟩, h3⟩ := hn
  have hne : ¬ u = t := fun e => by subst e; simp at h2
  have ht : t < rT := Nat.le_of_ble_eq_true h3
  simp only [Option.some.injEq] at h
  subst h
  have hoff : cs[off]? = some (.imm (.nilR z)) := by
    unfold isNilR at h1
    split at h1
    · rename_i z' hz
      have := Nat.eq_of_beq_eq_true h1
      subst this
      exact hz
    · cases h1
  have g1 := hI.kill t none
  have g2 := g1.virt (t := t) (blk := .row z [] false) ht get_kill1 (by simp [upd]) rfl
  have hm : get ((st.kill t).withM ((t, .row z [] false) :: (st.kill t).M)).M u = some (.box (cs.map (SV.kill t))) := by
    show get ((t, .row z [] false) :: killM t st.M) u = _
    rw [get_cons, if_neg hne, get_killMX, if_neg hne, hb]; rfl
  refine ⟨upd ρ t none, g2.rebox (cs2 := (cs.map (SV.kill t)).set off (.own t 0 0 none)) hm (by simp) ?_⟩
  intro b' o' cp cells e fr k1 k2 k3 j s2 hs2
  rw [List.getElem?_set] at hs2
  by_cases hj : off = j
  · subst hj
    rw [if_pos rfl] at hs2
    have hlt : off < (cs.map (SV.kill t)).length := by
      rw [List.length_map]
      exact (List.getElem?_eq_some_iff.1 hoff).1
    rw [if_pos hlt] at hs2
    simp only [Option.some.injEq] at hs2
    subst hs2
    obtain ⟨v, q1, q2⟩ := k3 off (.imm (.nilR z)) (by rw [List.getElem?_map, hoff]; rfl)
    refine ⟨v, q1, ?_⟩
    cases q2 with
    | imm _ _ q2 =>
    cases q2
    exact .ownNil t none (.row z [] false) (by show get ((t, .row z [] false) :: killM t st.M) t = _; rw [get_cons, if_pos rfl]) (by simp [upd])
  · rw [if_neg hj] at hs2
    exact k3 j s2 hs2

/-- A row of one's own in a variable is handed away. -/
def freezeBS (n off : Nat) (st : St) : Option St := (get st.env n).bind fun s => match s with
  | .ptr u _ _ => (get st.M u).bind fun b => match b with
    | .box cs => (cs[off]?).bind fun s => (give st.M s).bind fun p => (get p.2 u).bind fun b2 => match b2 with
      | .box cs2 => need (Nat.beq cs2.length cs.length) (some ⟨st.env, setM p.2 u (.box (cs2.set off (.imm p.1)))⟩)
      | _ => none
    | _ => none
  | _ => none
theorem freezeB_ok {C : Cx} {ρ : Rho} {st st' : St} {tm : Array Value} {w : World} {n off : Nat} (hI : Inv C ρ st tm w) (h : freezeBS n off st = some st') : ∃ ρ', Inv C ρ' st' tm w := by
  unfold freezeBS at h
  rw [Option.bind_eq_some_iff] at h
  obtain ⟨s, hs, h⟩ := h
  split at h
  case h_2 => cases h
  rename_i u i o
  rw [Option.bind_eq_some_iff] at h
  obtain ⟨b, hb, h⟩ := h
  split at h
  case h_2 => cases h
  rename_i cs
  simp only [Option.bind_eq_some_iff] at h
  obtain ⟨s0, hs0, p, hp, b2, hb2, h⟩ := h
  split at h
  case h_2 => cases h
  rename_i cs2
  obtain ⟨hn, h⟩ := need_some h
  have hlen := Nat.eq_of_beq_eq_true hn
  simp only [Option.some.injEq] at h
  subst h
  rcases hI.mem u _ hb with ⟨b', o', cp, h1, h2, h3, h4⟩ | h1
  · obtain ⟨cells, e, fr, k1, k2, k3, k4⟩ := h2
    obtain ⟨v, q1, q2⟩ := k4 off s0 hs0
    obtain ⟨g1, g2, g3, g4⟩ := give_ok hI q2 hp
    refine ⟨ρ, g1.rebox (cs2 := cs2.set off (.imm p.1)) hb2 (by simp) ?_⟩
    intro b1 o1 cp1 cells1 e1 fr1 r1 r2 r3 j s2 hs2
    rw [h1] at r1
    simp only [Option.some.injEq, Prod.mk.injEq] at r1
    obtain ⟨rfl, rfl, rfl⟩ := r1
    rw [k1] at r2
    simp only [Option.some.injEq, Obj.cells.injEq] at r2
    obtain ⟨rfl, rfl, rfl⟩ := r2
    rw [List.getElem?_set] at hs2
    by_cases hj : off = j
    · subst hj
      rw [if_pos rfl] at hs2
      split at hs2
      · simp only [Option.some.injEq] at hs2
        subst hs2
        exact ⟨v, q1, .imm _ _ g2⟩
      · cases hs2
    · rw [if_neg hj] at hs2
      exact r3 j s2 hs2
  · exact h1.2.elim

/-- Annotated code. `loop`, `exit`, `join`: the slots and the tags that are looked at from there on. -/
inductive AC where
  | skip
  | stuck
  | freeze (n : Nat) (x : AC)
  | ownz (n off t z : Nat) (x : AC)
  | freezeB (n off : Nat) (x : AC)
  | ret (live tags : List Nat)
  | region (l : List AStep)
  | regionD (live tags : List Nat) (q tail : List AStep)
  | regionS (live tags : List Nat) (q1 : List AStep) (x y : AO) (sz : Nat) (q2 : List AStep)
  | regionM (x : AO) (d : Nat) (tk tv : Ty) (rest : List AStep)
  | regionI (live tags : List Nat) (q : List AStep) (dl da de dx : Nat) (x k : AO)
  | regionE (q : List AStep) (x : AO) (d : Nat) (ng : Bool)
  | regionX (live tags ws : List Nat) (q1 : List AStep) (dst : Option Nat) (o0 : AOp) (q2 tail : List AStep)
  | seq (a b : AC)
  | cond (c : AO) (x y : AC)
  | block (id : Nat) (x : AC)
  | loop (live tags : List Nat) (x : AC)
  | exit (id : Nat) (live tags : List Nat)
  | join (live tags : List Nat) (x : AC)
  | meet (live tags : List Nat) (x : AC)

inductive Ex where
  | normal
  | exit (id : Nat)
  | ret

def Kseq (k : St → Option Res) (K : Ex → St → Option Res) : Ex → St → Option Res
  | .normal, st => k st
  | e, st => K e st
def Kblock (id : Nat) (K : Ex → St → Option Res) : Ex → St → Option Res
  | .exit j, st => bif Nat.beq j id then K .normal st else K (.exit j) st
  | e, st => K e st
def Kjoin (live tags : List Nat) (K : Ex → St → Option Res) : Ex → St → Option Res
  | .normal, st => K .normal (prune live tags st)
  | e, st => K e st

/-- Whatever comes, the answer is the same. -/
noncomputable def anyN {α : Type} (n : Nat) (f : Nat → Option α) : Option α := open Classical in
  (f 0).bind fun r => if ∀ j, j < n → f j = some r then some r else none
theorem anyN_some {α : Type} {n : Nat} {f : Nat → Option α} {r : α} (h : anyN n f = some r) : ∀ j, j < n → f j = some r := by
  unfold anyN at h
  rw [Option.bind_eq_some_iff] at h
  obtain ⟨q, h1, h2⟩ := h
  split at h2
  · rename_i h3
    cases h2; exact h3
  · cases h2
theorem anyN_of {α : Type} {n : Nat} {f : Nat → Option α} {r : α} (hn : 0 < n) (h : ∀ j, j < n → f j = some r) : anyN n f = some r := by
  unfold anyN
  rw [h 0 hn]
  exact if_pos h
/-- A step over a map: it is at its end, or it gives whichever entry is left. -/
noncomputable def evN {α : Type} (G : List (Nat × List AV)) (x : AO) (d : Nat) (tk tv : Ty) (st : St) (K : St → Option α) : Option α :=
  (x.ev G st).bind fun s => match s with
    | .ptr t i off => (get st.M t).bind fun blk => (match blk with
      | .miter es _ => need (Nat.beq i 0 && Nat.beq off 0) (bif Nat.beq es.length 0 then K (st.put d (.imm (.tup [.bool false])))
          else anyN es.length fun j => (es[j]?).bind fun p => asTy tk p.1 fun k => asTy tv p.2 fun v => K (St.put (st.withM (setM st.M t (.miter (es.eraseIdx j) (some (k, v))))) d (.imm (.tup [.bool true, k, v]))))
      | _ => none)
    | _ => none

/-- Is a row nil? Of an empty one we cannot say; both answers must come to the same. -/
noncomputable def evE {α : Type} (G : List (Nat × List AV)) (x : AO) (d : Nat) (ng : Bool) (st : St) (K : St → Option α) : Option α :=
  (x.ev G st).bind fun s => match s with
    | .imm (.row _ b) => bif Nat.beq b.length 0 then anyN 2 fun j => K (st.put d (.imm (.bool (Nat.beq j 0)))) else K (st.put d (.imm (.bool ng)))
    | _ => none

/-- Rounds of a loop. -/
def rounds (live tags : List Nat) (body : (Ex → St → Option Res) → St → Option Res) (K : Ex → St → Option Res) : Nat → St → Option Res
  | 0, _ => none
  | n + 1, st => body (Kseq (fun st' => rounds live tags body K n (prune live tags st')) K) st

/-- What is looked at behind a part. -/
def runJ (live tags : List Nat) (body : (Ex → St → Option Res) → St → Option Res) (K : Ex → St → Option Res) : Nat → St → Option Res
  | 0, _ => none
  | _ + 1, st => body (Kjoin live tags K) st
def posN {α : Type} : Nat → Option α → Option α
  | 0, _ => none
  | _ + 1, x => x
theorem runJ_eq (live tags : List Nat) (body : (Ex → St → Option Res) → St → Option Res) (K : Ex → St → Option Res) (N : Nat) (st : St) : runJ live tags body K N st = posN N (body (Kjoin live tags K) st) := by
  cases N <;> rfl
theorem posN_pos {α : Type} {N : Nat} {x : Option α} (h : 0 < N) : posN N x = x := by
  cases N with
  | zero => omega
  | succ n => rfl
theorem runJ_some {live tags : List Nat} {body : (Ex → St → Option Res) → St → Option Res} {K : Ex → St → Option Res} {N : Nat} {st : St} {r : Res} (h : runJ live tags body K N st = some r) : 0 < N ∧ body (Kjoin live tags K) st = some r := by
  cases N with
  | zero => cases h
  | succ n => exact ⟨Nat.succ_pos _, h⟩

noncomputable def evC (G : List (Nat × List AV)) (R : Nat → List AV → Option Res) (N : Nat) : AC → (Ex → St → Option Res) → St → Option Res
  | .skip, K, st => K .normal st
  | .stuck, _, _ => none
  | .freeze n x, K, st => (get st.env n).bind fun s => (give st.M s).bind fun p => evC G R N x K ⟨(n, .imm p.1) :: st.env, p.2⟩
  | .ownz n off t z x, K, st => (ownzS n off t z st).bind fun st' => norm st' (evC G R N x K)
  | .freezeB n off x, K, st => (freezeBS n off st).bind fun st' => norm st' (evC G R N x K)
  | .ret live tags, K, st => norm (prune live tags st) (K .ret)
  | .region l, K, st => evOps G R l st (K .normal)
  | .regionD live tags q tail, K, st => evQ G R q st fun st' => evOps G R tail st' fun st' => norm (prune live tags st') (K .normal)
  | .regionS live tags q1 x y sz q2, K, st => evQ G R (q1 ++ q2) st fun st' => evOps G R [.op none none (.store x y sz)] st' fun st' => norm (prune live tags st') (K .normal)
  | .regionI live tags q dl da de dx x k, K, st => evI G R dl da de dx x k q st fun st' => norm (prune live tags st') (K .normal)
  | .regionM x d tk tv rest, K, st => evN G x d tk tv st fun st' => evOps G R rest st' (K .normal)
  | .regionX live tags ws q1 dst o0 q2 tail, K, st => evX G R (q1 ++ q2) st fun st' => need (specNow G st' o0 && cleanX ws o0 st'.env (headsOf (q1 ++ q2)) && offX st' (headsOf (q1 ++ q2))) (evOps G R (.op dst none o0 :: tail) st' fun st' => norm (prune live tags st') (K .normal))
  | .regionE q x d ng, K, st => evOps G R q st fun st' => evE G x d ng st' (K .normal)
  | .seq a b, K, st => evC G R N a (Kseq (evC G R N b K) K) st
  | .cond c x y, K, st => match c.ev G st with
    | some (.imm (.bool b)) => bif b then evC G R N x K st else evC G R N y K st
    | _ => none
  | .block id x, K, st => evC G R N x (Kblock id K) st
  | .loop live tags x, K, st => rounds live tags (evC G R N x) K N (prune live tags st)
  | .exit id live tags, K, st => norm (prune live tags st) (K (.exit id))
  | .join live tags x, K, st => evC G R N x (Kjoin live tags K) st
  | .meet live tags x, K, st => runJ live tags (evC G R N x) K N st

/-- What follows a first part. -/
noncomputable def Kthen (G : List (Nat × List AV)) (R : Nat → List AV → Option Res) (N : Nat) (b : AC) (K : Ex → St → Option Res) : Ex → St → Option Res := Kseq (evC G R N b K) K

def headsN : List AStep → Nat
  | [] => 0
  | .split _ :: r => headsN r
  | .op _ _ _ :: r => headsN r + 1

/-- Is it the program's code? -/
def fitC (P : Program) (nt : Nat) : AC → Code → Bool
  | .skip, .skip => true
  | .stuck, _ => true
  | .freeze _ x, c => fitC P nt x c
  | .ownz _ _ _ _ x, c => fitC P nt x c
  | .freezeB _ _ x, c => fitC P nt x c
  | .ret _ _, .ret => true
  | .region l, .region _ ops d => !d && fitSteps P nt ops l ops.toList
  | .regionD _ _ q tail, .region _ ops d => d && fitSteps P nt ops (q ++ tail) ops.toList && drawB ops (headsOf q)
  | .regionS _ _ q1 x y sz q2, .region _ ops d => d && fitSteps P nt ops (q1 ++ .op none none (.store x y sz) :: q2) ops.toList && drawS ops (headsOf q1) (headsOf q2) x y sz
  | .regionI _ _ q dl da de dx x k, .region _ ops d => d && fitSteps P nt ops q (ops.toList.take (headsOf q).length) && apartL (headsOf q) && waitsB ops (headsOf q) && incB P ops nt (headsOf q).length dl da de dx x k
  | .regionM x d _ _ rest, .region _ ops dr => !dr && (match ops.toList with
      | o :: os => fitDst nt (some d) o.dst && o.guard.isNone && (match o.op with | .next x' false => fitO x x' | _ => false) && fitSteps P nt ops rest os
      | [] => false)
  | .regionX _ _ ws q1 dst o0 q2 tail, .region _ ops d => d && fitSteps P nt ops ((q1 ++ .op dst none o0 :: q2) ++ tail) ops.toList && growX ops ws (headsOf q1).length dst (headsOf q1 ++ (⟨dst, none, o0⟩ : Head) :: headsOf q2)
  | .regionE q x d ng, .region _ ops dr => !dr && fitSteps P nt ops q (ops.toList.take (headsN q)) && (match ops.toList.drop (headsN q) with
      | [o] => fitDst nt (some d) o.dst && o.guard.isNone && (match o.op with | .binOp b t x' y' _ => decide (b = (bif ng then BinOp.neq else BinOp.eql)) && fitO x x' && nilOpd false y' && nilTy P false t | _ => false)
      | _ => false)
  | .seq a b, .seq x y => fitC P nt a x && fitC P nt b y
  | .cond c x y, .cond c' x' y' => fitO c c' && fitC P nt x x' && fitC P nt y y'
  | .block id x, .block id' x' => Nat.beq id id' && fitC P nt x x'
  | .loop _ _ x, .loop x' => fitC P nt x x'
  | .exit id _ _, .exit id' => Nat.beq id id'
  | .join _ _ x, c => fitC P nt x c
  | .meet _ _ x, c => fitC P nt x c
  | _, _ => false

section code
variable {P : Program} {C : Cx} {R : Nat → List AV → Option Res}

def Ex.to : Ex → Exit
  | .normal => .normal
  | .exit id => .exit id
  | .ret => .ret

/-- What the continuation promises is what the rest needs. -/
def Ends (C : Cx) (nt : Nat) (K : Ex → St → Option Res) (r : Res) (Q : Exit → Act → World → Prop) : Prop :=
  ∀ e ρ st a w, K e st = some r → Inv C ρ st a.tmps w → a.tmps.size = nt → a.defers = [] → Q e.to a w

theorem perm_born {e : MapEntry} : ∀ {L : List MapEntry}, (L.map (·.born)).Nodup → e ∈ L → L.Perm (e :: L.filter fun x => !(x.born == e.born))
  | [], _, h => by cases h
  | x :: L, hn, h => by
    rw [List.map_cons, List.nodup_cons] at hn
    by_cases hx : x.born = e.born
    · have hxe : e = x := by
        rcases List.mem_cons.1 h with rfl | h'
        · rfl
        · exact absurd (List.mem_map.2 ⟨e, h', hx.symm⟩) hn.1
      subst hxe
      rw [List.filter_cons, if_neg (by simp)]
      have : L.filter (fun x => !(x.born == e.born)) = L := List.filter_eq_self.2 fun y hy => by
        simp only [Bool.not_eq_true', beq_eq_false_iff_ne, ne_eq]
        exact fun ey => hn.1 (List.mem_map.2 ⟨y, hy, ey⟩)
      rw [this]
    · rcases List.mem_cons.1 h with rfl | h'
      · exact absurd rfl hx
      · rw [List.filter_cons, if_pos (by simpa using hx)]
        exact ((perm_born hn.2 h').cons x).trans (List.Perm.swap ..)
theorem leftOf_push {mes : Array MapEntry} {seen : Array Nat} {e : MapEntry} (hn : (mes.toList.map (·.born)).Nodup) (he : e ∈ (leftOf mes seen).toList) : (leftOf mes seen).toList.Perm (e :: (leftOf mes (seen.push e.born)).toList) := by
  have h1 : (leftOf mes (seen.push e.born)).toList = (leftOf mes seen).toList.filter fun x => !(x.born == e.born) := by
    unfold leftOf
    rw [Array.toList_filter, Array.toList_filter, List.filter_filter]
    apply List.filter_congr
    intro x _
    simp only [Array.contains_push, Bool.not_or]
    rw [Bool.and_comm]
  rw [h1]
  refine perm_born ?_ he
  unfold leftOf
  rw [Array.toList_filter]
  exact (List.filter_sublist.map _).nodup hn
theorem perm_eraseIdx {α : Type} : ∀ {l : List α} {j : Nat} {p : α}, l[j]? = some p → l.Perm (p :: l.eraseIdx j)
  | [], j, p, h => by simp at h
  | x :: l, 0, p, h => by simp at h; subst h; simp
  | x :: l, j + 1, p, h => by
    simp only [List.getElem?_cons_succ] at h
    simp only [List.eraseIdx_cons_succ]
    exact ((perm_eraseIdx h).cons x).trans (List.Perm.swap ..)
theorem asTy_bind {α : Type} (ty : Ty) (v : AV) (K : AV → Option α) : asTy ty v K = (asTy ty v some).bind K := p_asTy ty v fun _ => rfl
theorem asTy_same {ty : Ty} {v u : AV} (h : asTy ty v some = some u) : u = v := by
  have := asTy_some ty v some u h
  simpa using this.symm
theorem asTy_of {α : Type} {ty : Ty} {v : AV} {K : AV → Option α} {r : α} (h : asTy ty v K = some r) : asTy ty v some = some v ∧ K v = some r := by
  have h2 := asTy_some ty v K r h
  refine ⟨?_, h2⟩
  rw [asTy_bind, Option.bind_eq_some_iff] at h
  obtain ⟨u, h3, _⟩ := h
  have := asTy_same h3
  rw [this] at h3; exact h3

theorem evN_ok {nt : Nat} {ops : Array Oper} {Q : Exit → Act → World → Prop} {oper : Oper} {os : List Oper} {ρ : Rho} {st : St} {a : Act} {w : World} {x : AO} {d : Nat} {tk tv : Ty} {α : Type} {K : St → Option α} {r : α} {x' : Operand}
    (hI : Inv C ρ st a.tmps w) (hn : a.tmps.size = nt) (hd : fitDst nt (some d) oper.dst = true) (hg : oper.guard = none) (ho : oper.op = .next x' false) (hx : fitO x x' = true) (h : evN C.G x d tk tv st K = some r)
    (hk : ∀ ρ' st' a' w', K st' = some r → Inv C ρ' st' a'.tmps w' → a'.tmps.size = nt → a'.defers = a.defers → wpList P ops Q os a' w') : wpList P ops Q (oper :: os) a w := by
  have hwt : Region.wanted oper (yielded ops a.tmps) = true := by simp [Region.wanted, hg]
  simp only [wpList, hwt, if_true]
  have main : Does P oper a w fun v w' => ∃ s st' ρ', K (putD st' (some d) s) = some r ∧ Inv C ρ' st' a.tmps w' ∧ RelS w' (bad C.Bo ρ' st'.M) ρ' st'.M s v := by
    unfold evN at h
    rw [Option.bind_eq_some_iff] at h
    obtain ⟨u, hu, h⟩ := h
    have h1 := fitO_sound hI hx hu
    split at h
    case h_2 => cases h
    rename_i t i off
    rw [Option.bind_eq_some_iff] at h
    obtain ⟨blk, hblk, h⟩ := h
    split at h
    case h_2 => cases h
    rename_i es cur
    obtain ⟨hn2, hh⟩ := need_some h
    replace h := hh
    simp only [Bool.and_eq_true] at hn2
    have e1 := Nat.eq_of_beq_eq_true hn2.1
    have e2 := Nat.eq_of_beq_eq_true hn2.2
    subst e1; subst e2
    generalize hv : a.eval x' = v1 at h1
    cases h1 with
    | ptr _ _ _ bb o cp blk0 hm hr =>
    obtain rfl : blk0 = .miter es cur := by rw [hblk] at hm; simpa using hm.symm
    obtain ⟨b0, o0, cp0, k1, k2, k3, k4⟩ := (hI.mem t _ hm).resolve_right fun hh => by rw [hr] at hh; cases hh.1
    rw [hr] at k1; simp only [Option.some.injEq, Prod.mk.injEq] at k1; obtain ⟨rfl, rfl, rfl⟩ := k1
    obtain ⟨rfl, bm, since, seen, c0, mes, clock, q1, q2, q3, q4, q5, q6, q61, q7, q8, q9, _⟩ := k2
    have hadr : (⟨bb, 0 + 0 * (Blk.miter es cur).sz + 0, none⟩ : Addr) = ⟨bb, 0, none⟩ := by simp
    rw [hadr] at hv
    rcases run_next_at (P := P) w oper.type bb bm since c0 seen mes clock q1 q4 q5 q6 with ⟨n1, n2⟩ | ⟨e, n1, w1, n2, n3⟩
    · have hes : es = [] := by
        have : (leftOf mes seen).toList = [] := List.length_eq_zero_iff.1 (by simpa using n1)
        rw [this, List.map_nil] at q8
        simpa using q8.symm.eq_nil
      subst hes
      simp only [List.length_nil, Nat.beq_refl, cond_true] at h
      refine Does.value (w' := w) (v := .tuple #[.bool false]) ?_ ⟨_, st, ρ, h, hI, .imm _ _ (.tup [_] [_] (.cons _ _ _ _ (.bool _) .nil))⟩
      rw [ex_next ho, hv]
      exact run_v n2
    · have hmem : entV e ∈ es.map entA := q8.mem_iff.1 (List.mem_map.2 ⟨e, n1, rfl⟩)
      obtain ⟨p, hp, hpe⟩ := List.mem_map.1 hmem
      obtain ⟨j, hj⟩ := List.mem_iff_getElem?.1 hp
      have hjl : j < es.length := (List.getElem?_eq_some_iff.1 hj).1
      have hne : Nat.beq es.length 0 = false := by cases hb : Nat.beq es.length 0; rfl; have := Nat.eq_of_beq_eq_true hb; omega
      rw [hne, cond_false] at h
      have h' := anyN_some h j hjl
      rw [hj] at h'
      simp only [Option.bind_some] at h'
      have h2 := (asTy_of (asTy_of h').2).2
      simp only [entV, entA, Prod.mk.injEq] at hpe
      have hplain := q9 p hp
      have hbb : bm ≠ bb := by rintro rfl; rw [q1] at q4; cases q4
      have hw1 : w1.heap = w.heap ∧ w1.os = w.os ∧ w1.tape = w.tape ∧ w1.output = w.output := by rcases n2 with rfl | rfl <;> exact ⟨rfl, rfl, rfl, rfl⟩
      have hbl := lt_of_get q1
      have hA : Agree (fun y => y = bb) w (ChangeMaps.setBlock w1 bb (.mapIter (some bm) since (seen.push e.born) clock)) := by
        refine ⟨?_, fun y hy hne => ?_, hw1.2⟩
        · show w.heap.size ≤ (w1.heap.setIfInBounds bb _).size
          rw [Array.size_setIfInBounds, hw1.1]; exact Nat.le_refl _
        · show (w1.heap.setIfInBounds bb _)[y]? = _
          rw [Array.getElem?_setIfInBounds, if_neg (fun e => hne e.symm), hw1.1]
      refine Does.value (v := .tuple #[.bool true, e.key, e.val]) ?_ ⟨_, _, ρ, h2, hI.write hm rfl hr rfl rfl hA ⟨rfl, bm, since, seen.push e.born, clock, mes, clock, ?_, ?_, ?_, ?_, q5, q61, q61, q7, ?_, ?_, ?_⟩, ?_⟩
      · rw [ex_next ho, hv]
        exact run_v n3
      · show (w1.heap.setIfInBounds bb _)[bb]? = _
        rw [Array.getElem?_setIfInBounds, if_pos rfl, if_pos (by rw [hw1.1]; exact hbl)]
      · exact Nat.lt_of_lt_of_le q2 hA.1
      · exact fun hh => q3 (bad_setM hm rfl _ hh)
      · rw [hA.2 bm q2 hbb]; exact q4
      · have g1 := (leftOf_push q7 n1).map entV
        have g2 := (perm_eraseIdx hj).map entA
        rw [List.map_cons] at g1 g2
        have g3 := g1.symm.trans (q8.trans g2)
        rw [show entV e = entA p by simp only [entV, entA, hpe]] at g3
        exact g3.cons_inv
      · exact fun p' hp' => q9 p' ((List.eraseIdx_sublist _ _).subset hp')
      · intro p' hp'
        simp only [Option.some.injEq] at hp'
        subst hp'
        have hem : e ∈ mes.toList := by
          have := n1
          unfold leftOf at this
          rw [Array.toList_filter] at this
          exact (List.mem_filter.1 this).1
        exact ⟨seen, e, rfl, rfl, hem, by simp only [entV, entA, hpe], hplain.1, hplain.2⟩
      · rw [← hpe.1, ← hpe.2]
        exact .imm _ _ (.tup [_, _, _] [_, _, _] (.cons _ _ _ _ (.bool _) (.cons _ _ _ _ (AV.pv_rel hplain.1) (.cons _ _ _ _ (AV.pv_rel hplain.2) .nil))))
  refine .inl (main.wp fun v w' ⟨s, st', ρ', m1, m2, m3⟩ => ?_)
  obtain ⟨k1, k2, k3⟩ := m2.putD hd hn m3
  exact hk ρ' _ _ w' m1 k1 k2 k3

theorem evOps_okT {α : Type} (hR : RSound P C.G R) {nt : Nat} {ops : Array Oper} {Q : Exit → Act → World → Prop} {K : St → Option α} {r : α} {os2 : List Oper} : ∀ {l : List AStep} {os : List Oper} {ρ : Rho} {st : St} {a : Act} {w : World}, fitSteps P nt ops l os = true → Inv C ρ st a.tmps w → a.tmps.size = nt →
    evOps C.G R l st K = some r → (∀ ρ' st' a' w', K st' = some r → Inv C ρ' st' a'.tmps w' → a'.tmps.size = nt → a'.defers = a.defers → wpList P ops Q os2 a' w') → wpList P ops Q (os ++ os2) a w
  | [], [], ρ, st, a, w, _, hI, hn, h, hk => hk ρ st a w h hI hn rfl
  | .split g :: l, os, ρ, st, a, w, hf, hI, hn, h, hk => by
    simp only [evOps, after_eq] at h
    split at h
    · rename_i b hb
      obtain ⟨h2, h3⟩ := hI.env g _ hb
      have hI' : Inv C ρ (st.put g (.imm (.bool b))) a.tmps w := by
        have := hI.put (d := g) (s := .imm (.bool b)) (v := a.tmps.getD g undef) h2 h3
        have he : a.tmps.setIfInBounds g (a.tmps.getD g undef) = a.tmps := by
          apply Array.ext_getElem?
          intro k
          rw [Array.getElem?_setIfInBounds]
          by_cases hk : g = k
          · subst hk; rw [if_pos rfl, if_pos h2, Array.getD_eq_getD_getElem?, Array.getElem?_eq_getElem h2]; rfl
          · simp [hk]
        rwa [he] at this
      cases b
      · exact evOps_okT hR (by simpa [fitSteps] using hf) hI' hn h hk
      · exact evOps_okT hR (by simpa [fitSteps] using hf) hI' hn h hk
    · exact evOps_okT hR (by simpa [fitSteps] using hf) hI hn h hk
    · cases h
  | .op dst none o :: l, oper :: os, ρ, st, a, w, hf, hI, hn, h, hk => by
    simp only [fitSteps, Bool.and_eq_true] at hf
    obtain ⟨⟨⟨hd, hg⟩, hfo⟩, hfl⟩ := hf
    simp only [evOps, after_eq] at h
    rw [step_par, Option.bind_eq_some_iff] at h
    obtain ⟨⟨s, st'⟩, h1, h⟩ := h
    have hgo : oper.guard = none := by
      cases hh : oper.guard with
      | none => rfl
      | some x => rw [hh] at hg; simp [fitGuard] at hg
    have hw : Region.wanted oper (yielded ops a.tmps) = true := by simp [Region.wanted, hgo]
    simp only [List.cons_append, wpList, hw, if_true]
    refine .inl ((step_ok hR hI h1 hfo).wp fun v w' ⟨ρ', g1, g2⟩ => ?_)
    obtain ⟨k1, k2, k3⟩ := g1.putD hd hn g2
    exact evOps_okT hR hfl k1 k2 h fun ρ2 st2 a2 w2 m1 m2 m3 m4 => hk ρ2 st2 a2 w2 m1 m2 m3 (m4.trans k3)
  | .op dst (some (g, want)) o :: l, oper :: os, ρ, st, a, w, hf, hI, hn, h, hk => by
    simp only [fitSteps, Bool.and_eq_true] at hf
    obtain ⟨⟨⟨hd, hg⟩, hfo⟩, hfl⟩ := hf
    simp only [evOps, after_eq] at h
    split at h
    · rename_i hb
      have hw := guard_ok hI hg hb (o := oper) rfl
      rw [step_par, Option.bind_eq_some_iff] at h
      obtain ⟨⟨s, st'⟩, h1, h⟩ := h
      simp only [List.cons_append, wpList, hw, if_true]
      refine .inl ((step_ok hR hI h1 hfo).wp fun v w' ⟨ρ', g1, g2⟩ => ?_)
      obtain ⟨k1, k2, k3⟩ := g1.putD hd hn g2
      exact evOps_okT hR hfl k1 k2 h fun ρ2 st2 a2 w2 m1 m2 m3 m4 => hk ρ2 st2 a2 w2 m1 m2 m3 (m4.trans k3)
    · rename_i hb
      have hw := guard_ok hI hg hb (o := oper) rfl
      simp only [List.cons_append, wpList, hw, Bool.false_eq_true, if_false]
      obtain ⟨k1, k2, k3⟩ := hI.putD (s := .imm (.tup [])) (v := undef) hd hn skip_rel
      exact evOps_okT hR hfl k1 k2 h fun ρ2 st2 a2 w2 m1 m2 m3 m4 => hk ρ2 st2 a2 w2 m1 m2 m3 (m4.trans k3)
    · cases h
  | [], _ :: _, ρ, st, a, w, hf, _, _, _, _ => by simp [fitSteps] at hf
  | .op _ _ _ :: _, [], ρ, st, a, w, hf, _, _, _, _ => by simp [fitSteps] at hf

theorem evE_ok {nt : Nat} {ops : Array Oper} {Q : Exit → Act → World → Prop} {oper : Oper} {ρ : Rho} {st : St} {a : Act} {w : World} {x : AO} {d : Nat} {ng : Bool} {α : Type} {K : St → Option α} {r : α} {t u : TypeId} {x' y' : Operand}
    (hI : Inv C ρ st a.tmps w) (hn : a.tmps.size = nt) (hd : fitDst nt (some d) oper.dst = true) (hg : oper.guard = none) (ho : oper.op = .binOp (bif ng then .neq else .eql) t x' y' u) (hx : fitO x x' = true) (hy : nilOpd false y' = true) (ht : nilTy P false t = true) (h : evE C.G x d ng st K = some r)
    (hk : ∀ ρ' st' a' w', K st' = some r → Inv C ρ' st' a'.tmps w' → a'.tmps.size = nt → a'.defers = a.defers → Q .normal a' w') : wpList P ops Q [oper] a w := by
  have hwt : Region.wanted oper (yielded ops a.tmps) = true := by simp [Region.wanted, hg]
  simp only [wpList, hwt, if_true]
  have fin : ∀ {v1 : Value} {b : Bool}, a.eval x' = v1 → (eqGuard (bif ng then .neq else .eql) t x' y' v1 (a.eval y')).run P w = .ok () w → (Op.equal t v1 (a.eval y')).run P w = .ok b w → binOp .eql t v1 (a.eval y') = (Op.equal t v1 (a.eval y') >>= fun q => pure (.bool q)) → binOp .neq t v1 (a.eval y') = (Op.equal t v1 (a.eval y') >>= fun q => pure (.bool !q)) → K (st.put d (.imm (.bool (bif ng then !b else b)))) = some r → Does P oper a w fun v w' => ∃ b, w' = w ∧ v = .bool b ∧ K (st.put d (.imm (.bool b))) = some r := by
    intro v1 b e1 e2 e3 e4 e4' e5
    refine Does.value (w' := w) (v := .bool (bif ng then !b else b)) ?_ ⟨_, rfl, rfl, e5⟩
    rw [ex_bin ho, e1]
    refine run_v ?_
    rw [run_bind_ok e2]
    cases ng
    · show (binOp .eql t v1 (a.eval y')).run P w = _
      rw [e4, run_bind_ok e3]; rfl
    · show (binOp .neq t v1 (a.eval y')).run P w = _
      rw [e4', run_bind_ok e3]; rfl
  have main : Does P oper a w fun v w' => ∃ b, w' = w ∧ v = .bool b ∧ K (st.put d (.imm (.bool b))) = some r := by
    unfold evE at h
    rw [Option.bind_eq_some_iff] at h
    obtain ⟨sv, hsv, h⟩ := h
    have h1 := fitO_sound hI hx hsv
    split at h
    case h_2 => cases h
    rename_i z b
    simp only [nilOpd, nilTy, cond_false] at hy ht
    obtain ⟨n, c, rfl, hn⟩ : ∃ n c, y' = .const (.slice none n c) ∧ (Nat.beq n 0 && Nat.beq c 0) = true := by
      split at hy
      · exact ⟨_, _, rfl, hy⟩
      · cases hy
    simp only [Bool.and_eq_true] at hn
    obtain rfl := Nat.eq_of_beq_eq_true hn.1
    obtain rfl := Nat.eq_of_beq_eq_true hn.2
    split at ht
    case h_2 => cases ht
    rename_i m hm
    have both : Nat.beq b.length 0 = true → ∀ q, K (st.put d (.imm (.bool q))) = some r := by
      intro hb q
      rw [hb, cond_true] at h
      have h' := anyN_some h
      cases q
      · exact h' 1 (by omega)
      · exact h' 0 (by omega)
    cases h1 with
    | imm _ _ h1 =>
    generalize hv : a.eval x' = v1 at h1
    cases h1 with
    | rnil _ pa =>
      cases pa with
      | none =>
        refine fin (b := true) hv ?_ ?_ rfl rfl (both rfl _)
        · cases ng <;> rfl
        · show (Op.equalIn 10000 t (.slice none 0 _) (.slice none 0 0)).run P w = _
          unfold Op.equalIn
          rw [run_bind_ok (run_underlying hm)]; rfl
      | some p =>
        refine fin (b := false) hv ?_ ?_ rfl rfl (both rfl _)
        · cases ng <;> rfl
        · show (Op.equalIn 10000 t (.slice (some p) 0 _) (.slice none 0 0)).run P w = _
          unfold Op.equalIn
          rw [run_bind_ok (run_underlying hm)]; rfl
    | row =>
      refine fin (b := false) hv ?_ ?_ rfl rfl ?_
      · cases ng <;> rfl
      · show (Op.equalIn 10000 t (.slice (some _) _ _) (.slice none 0 0)).run P w = _
        unfold Op.equalIn
        rw [run_bind_ok (run_underlying hm)]; rfl
      · cases hb : Nat.beq b.length 0
        · rw [hb, cond_false] at h; cases ng <;> exact h
        · exact both hb _
  refine .inl (main.wp fun v w' ⟨b, e1, e2, e3⟩ => ?_)
  subst e1; subst e2
  obtain ⟨k1, k2, k3⟩ := hI.putD (s := .imm (.bool b)) (v := .bool b) hd hn (.imm _ _ (.bool _))
  exact hk ρ _ _ _ e3 k1 k2 k3

theorem evC_ok (hm : P.follows .mixedOrders = true) (hR : RSound P C.G R) {nt N : Nat} : ∀ {ac : AC} {c : Code} {K : Ex → St → Option Res} {r : Res} {Q : Exit → Act → World → Prop} {ρ : Rho} {st : St} {a : Act} {w : World}, fitC P nt ac c = true → Inv C ρ st a.tmps w → a.tmps.size = nt → a.defers = [] →
    evC C.G R N ac K st = some r → Ends C nt K r Q → c.wp P Q a w := by
  intro ac
  induction ac with
  | skip =>
    intro c K r Q ρ st a w hf hI hn hd h hE
    cases c <;> simp only [fitC, Bool.false_eq_true] at hf
    exact wp_skip (hE .normal ρ st a w h hI hn hd)
  | stuck =>
    intro c K r Q ρ st a w hf hI hn hd h hE
    simp only [evC, reduceCtorEq] at h
  | freeze n x ih =>
    intro c K r Q ρ st a w hf hI hn hd h hE
    simp only [fitC] at hf
    simp only [evC, Option.bind_eq_some_iff] at h
    obtain ⟨s, hs, p, hp, h⟩ := h
    obtain ⟨h1, h2⟩ := hI.env n s hs
    obtain ⟨g1, g2, _, _⟩ := give_ok hI h2 hp
    have h3 := g1.put (d := n) h1 (RelS.imm _ _ g2)
    have e : a.tmps.setIfInBounds n (a.tmps.getD n undef) = a.tmps := by
      apply Array.ext
      · simp
      · intro i h1' h2'
        rw [Array.getElem_setIfInBounds]
        split
        · rename_i he; subst he; simp [Array.getD_eq_getD_getElem?, h2']
        · rfl
    rw [e] at h3
    exact ih hf h3 hn hd h hE
  | ownz n off t z x ih =>
    intro c K r Q ρ st a w hf hI hn hd h hE
    simp only [fitC] at hf
    simp only [evC, norm_eq, Option.bind_eq_some_iff] at h
    obtain ⟨st', hs, h⟩ := h
    obtain ⟨ρ', g⟩ := ownz_ok hI hs
    exact ih hf g hn hd h hE
  | freezeB n off x ih =>
    intro c K r Q ρ st a w hf hI hn hd h hE
    simp only [fitC] at hf
    simp only [evC, norm_eq, Option.bind_eq_some_iff] at h
    obtain ⟨st', hs, h⟩ := h
    obtain ⟨ρ', g⟩ := freezeB_ok hI hs
    exact ih hf g hn hd h hE
  | ret live tags =>
    intro c K r Q ρ st a w hf hI hn hd h hE
    cases c <;> simp only [fitC, Bool.false_eq_true] at hf
    simp only [evC, norm_eq] at h
    exact wp_ret (hE .ret ρ _ a w h (hI.prune live tags) hn hd)
  | region l =>
    intro c K r Q ρ st a w hf hI hn hd h hE
    cases c <;> simp only [fitC, Bool.false_eq_true, Bool.and_eq_true, Bool.not_eq_true'] at hf
    obtain ⟨rfl, hf⟩ := hf
    exact wp_region_list (evOps_ok hR hf hI hn h fun ρ' st' a' w' m1 m2 m3 m4 => hE .normal ρ' st' a' w' m1 m2 m3 (m4.trans hd))
  | regionD live tags q tail =>
    intro c K r Q ρ st a w hf hI hn hd h hE
    cases c <;> simp only [fitC, Bool.false_eq_true, Bool.and_eq_true] at hf
    obtain ⟨⟨rfl, hf⟩, hB⟩ := hf
    simp only [evC, norm_eq] at h
    exact draw_ok hm hR hf hB hI hn hd h fun ρ' st' a' w' m1 m2 m3 m4 => hE .normal ρ' _ a' w' m1 (m2.prune live tags) m3 m4
  | regionS live tags q1 x y sz q2 =>
    intro c K r Q ρ st a w hf hI hn hd h hE
    cases c <;> simp only [fitC, Bool.false_eq_true, Bool.and_eq_true] at hf
    obtain ⟨⟨rfl, hf⟩, hB⟩ := hf
    simp only [evC, norm_eq] at h
    exact draw_okS hm hR hf hB hI hn hd h fun ρ' st' a' w' m1 m2 m3 m4 => hE .normal ρ' _ a' w' m1 (m2.prune live tags) m3 m4
  | regionI live tags q dl da de dx x k =>
    intro c K r Q ρ st a w hf hI hn hd h hE
    cases c <;> simp only [fitC, Bool.false_eq_true, Bool.and_eq_true] at hf
    obtain ⟨⟨⟨⟨rfl, hf⟩, hA⟩, hW⟩, hB⟩ := hf
    simp only [evC, norm_eq] at h
    exact draw_okI hm hR hf hA hW hB hI hn hd h fun ρ' st' a' w' m1 m2 m3 m4 => hE .normal ρ' _ a' w' m1 (m2.prune live tags) m3 m4
  | regionM x d tk tv rest =>
    intro c K r Q ρ st a w hf hI hn hd h hE
    cases c <;> simp only [fitC, Bool.false_eq_true, Bool.and_eq_true, Bool.not_eq_true'] at hf
    obtain ⟨rfl, hf⟩ := hf
    split at hf
    case h_2 => cases hf
    rename_i o os hops
    simp only [Bool.and_eq_true] at hf
    obtain ⟨⟨⟨hfd, hfg⟩, hfo⟩, hfs⟩ := hf
    split at hfo
    case h_2 => cases hfo
    rename_i x' hop
    simp only [evC] at h
    refine wp_region_list ?_
    rw [hops]
    exact evN_ok hI hn hfd (by simpa using hfg) hop hfo h fun ρ' st' a' w' m1 m2 m3 m4 => evOps_ok hR hfs m2 m3 m1 fun ρ2 st2 a2 w2 u1 u2 u3 u4 => hE .normal ρ2 st2 a2 w2 u1 u2 u3 (u4.trans (m4.trans hd))
  | regionX live tags ws q1 dst o0 q2 tail =>
    intro c K r Q ρ st a w hf hI hn hd h hE
    cases c <;> simp only [fitC, Bool.false_eq_true, Bool.and_eq_true] at hf
    obtain ⟨⟨rfl, hf⟩, hB⟩ := hf
    simp only [evC, norm_eq] at h
    exact draw_okX hm hR hf hB hI hn hd h fun ρ' st' a' w' m1 m2 m3 m4 => hE .normal ρ' _ a' w' m1 (m2.prune live tags) m3 m4
  | regionE q x d ng =>
    intro c K r Q ρ st a w hf hI hn hd h hE
    cases c <;> simp only [fitC, Bool.false_eq_true, Bool.and_eq_true, Bool.not_eq_true'] at hf
    obtain ⟨⟨rfl, hfs⟩, hf⟩ := hf
    split at hf
    case h_2 => cases hf
    rename_i o hops
    simp only [Bool.and_eq_true] at hf
    obtain ⟨⟨hfd, hfg⟩, hfo⟩ := hf
    split at hfo
    case h_2 => cases hfo
    rename_i b' t x' y' u hop
    simp only [Bool.and_eq_true, decide_eq_true_eq] at hfo
    obtain ⟨⟨⟨hb, hx⟩, hy⟩, ht⟩ := hfo
    subst hb
    simp only [evC] at h
    refine wp_region_list ?_
    rw [← List.take_append_drop (headsN q) (Array.toList _), hops]
    exact evOps_okT hR hfs hI hn h fun ρ' st' a' w' m1 m2 m3 m4 => evE_ok m2 m3 hfd (by simpa using hfg) hop hx hy ht m1 fun ρ2 st2 a2 w2 u1 u2 u3 u4 => hE .normal ρ2 st2 a2 w2 u1 u2 u3 (u4.trans (m4.trans hd))
  | seq x y ihx ihy =>
    intro c K r Q ρ st a w hf hI hn hd h hE
    cases c <;> simp only [fitC, Bool.false_eq_true, Bool.and_eq_true] at hf
    refine wp_seq (ihx hf.1 hI hn hd h ?_)
    intro e ρ' st' a' w' m1 m2 m3 m4
    cases e with
    | normal => exact ihy hf.2 m2 m3 m4 m1 hE
    | exit id => exact hE (.exit id) ρ' st' a' w' m1 m2 m3 m4
    | ret => exact hE .ret ρ' st' a' w' m1 m2 m3 m4
  | cond cc x y ihx ihy =>
    intro c K r Q ρ st a w hf hI hn hd h hE
    cases c <;> simp only [fitC, Bool.false_eq_true, Bool.and_eq_true] at hf
    simp only [evC] at h
    split at h
    · rename_i b hb
      have h1 := fitO_sound hI hf.1.1 hb
      cases h1 with
      | imm _ _ h1 =>
      refine wp_cond (t := b) (h1.bool_eq) ?_
      cases b
      · exact ihy hf.2 hI hn hd h hE
      · exact ihx hf.1.2 hI hn hd h hE
    · cases h
  | block id x ih =>
    intro c K r Q ρ st a w hf hI hn hd h hE
    cases c <;> simp only [fitC, Bool.false_eq_true, Bool.and_eq_true] at hf
    have e1 := Nat.eq_of_beq_eq_true hf.1
    subst e1
    refine wp_block (ih hf.2 hI hn hd h ?_)
    intro e ρ' st' a' w' m1 m2 m3 m4
    cases e with
    | normal => exact hE .normal ρ' st' a' w' m1 m2 m3 m4
    | ret => exact hE .ret ρ' st' a' w' m1 m2 m3 m4
    | exit j =>
      simp only [Kblock] at m1
      simp only [Ex.to, Exit.inBlock]
      cases hj : Nat.beq j id
      · rw [hj] at m1
        have : ¬ j = id := by intro e; subst e; simp at hj
        rw [if_neg this]
        exact hE (.exit j) ρ' st' a' w' m1 m2 m3 m4
      · rw [hj] at m1
        have e := Nat.eq_of_beq_eq_true hj
        subst e
        rw [if_pos rfl]
        exact hE .normal ρ' st' a' w' m1 m2 m3 m4
  | loop live tags x ih =>
    intro c K r Q ρ st a w hf hI hn hd h hE
    cases c <;> simp only [fitC, Bool.false_eq_true] at hf
    rename_i body
    refine wp_loop_rounds N ?_
    simp only [evC] at h
    have key : ∀ n ρ st a w, Inv C ρ st a.tmps w → a.tmps.size = nt → a.defers = [] → rounds live tags (evC C.G R N x) K n st = some r → Code.rounds P body Q n a w := by
      intro n
      induction n with
      | zero => intro ρ st a w _ _ _ h; simp [rounds] at h
      | succ n ihn =>
        intro ρ st a w hI hn hd h
        simp only [rounds] at h
        rw [rounds_succ]
        refine ih hf hI hn hd h ?_
        intro e ρ' st' a' w' m1 m2 m3 m4
        cases e with
        | normal => exact ihn ρ' _ a' w' (m2.prune live tags) m3 m4 m1
        | exit id => exact hE (.exit id) ρ' st' a' w' m1 m2 m3 m4
        | ret => exact hE .ret ρ' st' a' w' m1 m2 m3 m4
    exact key N ρ _ a w (hI.prune live tags) hn hd h
  | exit id live tags =>
    intro c K r Q ρ st a w hf hI hn hd h hE
    cases c <;> simp only [fitC, Bool.false_eq_true] at hf
    have e1 := Nat.eq_of_beq_eq_true hf
    subst e1
    simp only [evC, norm_eq] at h
    exact wp_exit (hE (.exit id) ρ _ a w h (hI.prune live tags) hn hd)
  | join live tags x ih =>
    intro c K r Q ρ st a w hf hI hn hd h hE
    simp only [fitC] at hf
    refine ih hf hI hn hd h ?_
    intro e ρ' st' a' w' m1 m2 m3 m4
    cases e with
    | normal => exact hE .normal ρ' _ a' w' m1 (m2.prune live tags) m3 m4
    | exit id => exact hE (.exit id) ρ' st' a' w' m1 m2 m3 m4
    | ret => exact hE .ret ρ' st' a' w' m1 m2 m3 m4
  | meet live tags x ih =>
    intro c K r Q ρ st a w hf hI hn hd h hE
    simp only [fitC] at hf
    refine ih hf hI hn hd (runJ_some h).2 ?_
    intro e ρ' st' a' w' m1 m2 m3 m4
    cases e with
    | normal => exact hE .normal ρ' _ a' w' m1 (m2.prune live tags) m3 m4
    | exit id => exact hE (.exit id) ρ' st' a' w' m1 m2 m3 m4
    | ret => exact hE .ret ρ' st' a' w' m1 m2 m3 m4

end code

end Go.Proofs.YthdefengmkcacaaDoor.Vf
