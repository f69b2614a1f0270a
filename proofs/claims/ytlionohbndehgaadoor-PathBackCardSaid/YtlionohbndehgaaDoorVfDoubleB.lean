
/- Scalars in double quotes: taking, putting, and texts as runes. No condition but sizes. -/
import Derived.Test.YtlionohbndehgaaDoorVfDouble
namespace Go.Proofs.YtlionohbndehgaaDoor.Vf
set_option linter.unusedVariables false
set_option linter.unusedSimpArgs false

/-- What is taken behind a quote: the text, and where it ends. -/
def dtake : Nat → List UInt8 → Nat → List UInt8 → Option (List UInt8 × Nat)
  | 0, _, _, _ => none
  | _ + 1, [], _, _ => none
  | k + 1, c :: r, i, out =>
    if c.toNat = 10 ∨ c.toNat = 13 then none
    else if c.toNat = 34 then some (out, i + 1)
    else if c.toNat = 92 then (match escL r with | none => none | some (u, m) => dtake k (r.drop m) (i + 1 + m) (out ++ Lib.encodeRune (u : Int)))
    else dtake k r (i + 1) (out ++ [c])
theorem dtake_fuel : ∀ (n m : Nat) (l : List UInt8) (i : Nat) (out : List UInt8), l.length < n → l.length < m → dtake n l i out = dtake m l i out := by
  intro n
  induction n with
  | zero => intro m l i out h; omega
  | succ n ih =>
    intro m l i out h h'
    obtain ⟨m, rfl⟩ : ∃ k, m = k + 1 := ⟨m - 1, by omega⟩
    cases l with
    | nil => rfl
    | cons c r =>
      simp only [List.length_cons] at h h'
      simp only [dtake]
      rw [ih m r _ _ (by omega) (by omega)]
      cases he : escL r with
      | none => rfl
      | some um =>
        obtain ⟨u, k⟩ := um
        have := (escL_rune he).2
        simp only
        rw [ih m (r.drop k) _ _ (by rw [List.length_drop]; omega) (by rw [List.length_drop]; omega)]
def dt (l : List UInt8) (i : Nat) (out : List UInt8) : Option (List UInt8 × Nat) := dtake (l.length + 1) l i out
theorem dt_nil (i : Nat) (out : List UInt8) : dt [] i out = none := rfl
theorem dt_cons (c : UInt8) (r : List UInt8) (i : Nat) (out : List UInt8) : dt (c :: r) i out =
    if c.toNat = 10 ∨ c.toNat = 13 then none
    else if c.toNat = 34 then some (out, i + 1)
    else if c.toNat = 92 then (match escL r with | none => none | some (u, m) => dt (r.drop m) (i + 1 + m) (out ++ Lib.encodeRune (u : Int)))
    else dt r (i + 1) (out ++ [c]) := by
  show dtake (r.length + 1 + 1) (c :: r) i out = _
  simp only [dtake]
  cases he : escL r with
  | none => rfl
  | some um =>
    obtain ⟨u, k⟩ := um
    have := (escL_rune he).2
    simp only
    rw [dtake_fuel (r.length + 1) ((r.drop k).length + 1) (r.drop k) _ _ (by rw [List.length_drop]; omega) (by omega)]
    rfl
def dtakeP : List UInt8 → Option (List UInt8 × Nat)
  | [] => none
  | c :: r => if c.toNat = 34 then dt r 1 [] else none
def dR (x : Option (List UInt8 × Nat)) : Option Res := some ⟨.tup [.str (x.getD ([], 0)).1, .int .i64 (((x.getD ([], 0)).2 : Nat) : Int), .bool x.isSome], false, []⟩

theorem take6_loop (s : List UInt8) (hs : s.length ≤ 100000) (N : Nat) (k0 : List UInt8 → Int → Bool → Option Res) (k1 : Option Res) (hk0 : k0 [] 0 false = dR none) (hk0' : ∀ (out : List UInt8) (n : Nat), k0 out n true = dR (some (out, n))) (hk1 : k1 = dR none) : ∀ (f i : Nat) (out : List UInt8), s.length < i + f → i ≤ s.length → out.length ≤ 4 * i →
    doubleTake_L1 D N k0 k1 f s i out = dR (dt (s.drop i) i out) := by
  intro f
  induction f with
  | zero => intro i out h; omega
  | succ f ih =>
    intro i out h hi ho
    simp only [doubleTake_L1, doubleTake_L1s]
    by_cases hlt : i < s.length
    · rw [cond_d (by omega), need_d (by omega)]
      simp only [Int.toNat_natCast]
      rw [get_bn hlt, drop_step hlt, dt_cons]
      have hb := byte_lt (s.getD i 0)
      simp only [need_d (show (0 : Int) ≤ (i : Int) by omega), get_bn hlt, Int.toNat_natCast, UInt8.ofNat_toNat]
      generalize s.getD i 0 = c at hb
      have w1 : IntKind.i64.wrap ((i : Int) + 1) = ((i + 1 : Nat) : Int) := by rw [wrap_i64 (by omega) (by omega)]; omega
      rw [w1]
      simp only [List.drop_zero, List.take_length, Int.toNat_natCast]
      by_cases h10 : c.toNat = 10
      · rw [cond_eq (by omega), cond_eq (by omega), if_pos (.inl h10)]; exact hk0
      rw [cond_ne (by omega)]
      by_cases h13 : c.toNat = 13
      · rw [cond_eq (by omega), if_pos (.inr h13)]; exact hk0
      rw [cond_ne (by omega), if_neg (by omega)]
      by_cases h34 : c.toNat = 34
      · rw [cond_eq (by omega), if_pos h34]; exact hk0' _ _
      rw [cond_ne (by omega), if_neg h34]
      by_cases h92 : c.toNat = 92
      · rw [cond_eq (by omega), if_pos h92, need_d2 (by omega) (by omega), D_escape _ (by rw [List.length_drop]; omega)]
        cases he : escL (s.drop (i + 1)) with
        | none => exact hk0
        | some um =>
          obtain ⟨u, m⟩ := um
          obtain ⟨hu, hm1, hm2⟩ := escL_rune he
          rw [List.length_drop] at hm2
          simp only [escR, Option.getD_some, Option.isSome_some, Option.bind_some, asJIBT, asT_t, asC_c, asI_i, asB_b, asN_n, Bool.not_true, cond_false, Nat.beq_refl, need_true]
          rw [D_AppendRune out u (by omega) hu]
          simp only [Option.bind_some, asC_c, asN_n, asY_y, need_true]
          have h4 : (Lib.encodeRune (u : Int)).length ≤ 4 := by rw [← Lib.runeCells_length]; exact (Lib.runeCells_le _).2
          rw [wrap_i64 (x := (i : Int) + (m : Int)) (by omega) (by omega), wrap_i64 (by omega) (by omega), show (i : Int) + (m : Int) + 1 = ((i + 1 + m : Nat) : Int) by omega, ih _ _ (by omega) (by omega) (by rw [List.length_append]; omega), List.drop_drop]
      · rw [cond_ne (by omega), if_neg h92, need_d2 (by omega) (by omega), need_d (by simp; omega)]
        exact ih _ _ (by omega) (by omega) (by rw [List.length_append, List.length_singleton]; omega)
    · rw [cond_nd (by omega), List.drop_eq_nil_of_le (by omega)]; exact hk1
theorem D_Take6 (s : List UInt8) (hs : s.length ≤ 100000) : D id_doubleTake [.bytes s] = dR (dtakeP s) := by
  refine den_fn (N := s.length + 1) (F := doubleTake) rfl rfl ?_
  rw [doubleTake_eq]
  show doubleTaker D _ s = _
  unfold doubleTaker
  cases s with
  | nil => rfl
  | cons c r =>
    rw [cond_ne (by simp only [List.length_cons]; omega), need_d (by omega)]
    simp only [show Int.toNat 0 = 0 from rfl, List.getElem?_cons_zero, Option.bind_some, dtakeP]
    by_cases h : c.toNat = 34
    · rw [cond_beq (by omega), if_pos h]
      refine (take6_loop (c :: r) hs _ _ _ rfl (fun _ _ => rfl) rfl ((c :: r).length + 1) 1 [] (by omega) (by simp) (by simp)).trans ?_
      rfl
    · rw [cond_bne (by omega), if_neg h]; rfl

/-! Texts as runes -/
theorem dec6 (l : List UInt8) (h : l ≠ []) : Lib.decodeL l = dec l := by
  rw [Lib.decodeL_N]; unfold dec; rw [if_neg h]
theorem isRune_dec (l : List UInt8) (h : l ≠ []) (hv : ¬ ((dec l).1 = 65533 ∧ (dec l).2 = 1)) : isRune (dec l).1 ∧ 1 ≤ (dec l).2 := by
  have k0 := (l.getD 0 0).toNat_lt
  have k1 := (l.getD 1 0).toNat_lt
  have k2 := (l.getD 2 0).toNat_lt
  have k3 := (l.getD 3 0).toNat_lt
  unfold dec at *
  rw [if_neg h] at *
  unfold isRune
  rcases Lib.decodeN_shape l.length (l.getD 0 0).toNat (l.getD 1 0).toNat (l.getD 2 0).toNat (l.getD 3 0).toNat with ⟨c, e⟩ | ⟨c1, c2, c3, cv, e⟩ | ⟨c1, c2, c3, c4, cv, cs, e⟩ | ⟨c1, c2, c3, c4, c5, cv, cw, e⟩ | e <;> rw [e] at hv ⊢ <;> dsimp only at * <;> omega
theorem ofNat8 {n : Nat} (h : n < 256) : (UInt8.ofNat n).toNat = n := by rw [UInt8.toNat_ofNat']; exact Nat.mod_eq_of_lt h
theorem rune_enc6 (r : Nat) (hv : isRune r) (t : List UInt8) : rune (Lib.encodeRune (r : Int) ++ t) = (r, (Lib.encodeRune (r : Int)).length, true) := by
  unfold isRune at hv
  by_cases h1 : r < 128
  · rw [enc1 h1, List.cons_append, rune_cons, runeN_1 (by rw [ofNat8 (by omega)]; exact h1), ofNat8 (by omega)]; rfl
  by_cases h2 : r < 2048
  · rw [enc2 (by omega) h2]
    have e0 := ofNat8 (n := 192 + r / 64) (by omega)
    have e1 := ofNat8 (n := 128 + r % 64) (by omega)
    show rune (UInt8.ofNat (192 + r / 64) :: (UInt8.ofNat (128 + r % 64) :: t)) = _
    rw [rune_cons, e0]
    show runeN _ _ (UInt8.ofNat (128 + r % 64)).toNat _ _ = _
    rw [e1, runeN_2 (by omega) (by omega), if_pos ⟨by omega, by simp, by omega⟩]
    have : (192 + r / 64) % 32 * 64 + (128 + r % 64) % 64 = r := by omega
    rw [this]; rfl
  by_cases h3 : r < 65536
  · rw [enc3 (by omega)]
    have e0 := ofNat8 (n := 224 + r / 4096) (by omega)
    have e1 := ofNat8 (n := 128 + r / 64 % 64) (by omega)
    have e2 := ofNat8 (n := 128 + r % 64) (by omega)
    show rune (UInt8.ofNat (224 + r / 4096) :: (UInt8.ofNat (128 + r / 64 % 64) :: UInt8.ofNat (128 + r % 64) :: t)) = _
    rw [rune_cons, e0]
    show runeN _ _ (UInt8.ofNat (128 + r / 64 % 64)).toNat (UInt8.ofNat (128 + r % 64)).toNat _ = _
    have : (224 + r / 4096) % 16 * 4096 + (128 + r / 64 % 64) % 64 * 64 + (128 + r % 64) % 64 = r := by omega
    rw [e1, e2, runeN_3 (by omega) (by omega), if_pos ⟨by simp, by omega, by omega, by omega, by omega⟩, this]; rfl
  · rw [enc4 (by omega) (by omega)]
    have e0 := ofNat8 (n := 240 + r / 262144) (by omega)
    have e1 := ofNat8 (n := 128 + r / 4096 % 64) (by omega)
    have e2 := ofNat8 (n := 128 + r / 64 % 64) (by omega)
    have e3 := ofNat8 (n := 128 + r % 64) (by omega)
    show rune (UInt8.ofNat (240 + r / 262144) :: (UInt8.ofNat (128 + r / 4096 % 64) :: UInt8.ofNat (128 + r / 64 % 64) :: UInt8.ofNat (128 + r % 64) :: t)) = _
    rw [rune_cons, e0]
    show runeN _ _ (UInt8.ofNat (128 + r / 4096 % 64)).toNat (UInt8.ofNat (128 + r / 64 % 64)).toNat (UInt8.ofNat (128 + r % 64)).toNat = _
    have : (240 + r / 262144) % 8 * 262144 + (128 + r / 4096 % 64) % 64 * 4096 + (128 + r / 64 % 64) % 64 * 64 + (128 + r % 64) % 64 = r := by omega
    rw [e1, e2, e3, runeN_4 (by omega) (by omega), if_pos ⟨by simp, by omega, by omega, by omega, by omega, by omega⟩, this]; rfl
theorem enc_len6 (r : Int) : 1 ≤ (Lib.encodeRune r).length ∧ (Lib.encodeRune r).length ≤ 4 := by rw [← Lib.runeCells_length]; exact Lib.runeCells_le _
theorem dec_enc6 (r : Nat) (hv : isRune r) (t : List UInt8) : dec (Lib.encodeRune (r : Int) ++ t) = (r, (Lib.encodeRune (r : Int)).length) ∧ ¬ ((dec (Lib.encodeRune (r : Int) ++ t)).1 = 65533 ∧ (dec (Lib.encodeRune (r : Int) ++ t)).2 = 1) := by
  have h := rune_enc6 r hv t
  unfold rune at h
  split at h
  · simp at h
  · rename_i hn
    simp only [Prod.mk.injEq, and_true] at h
    exact ⟨Prod.ext h.1 h.2, fun e => hn ⟨e.1, by omega⟩⟩

def txt (rs : List Nat) : List UInt8 := rs.flatMap fun r : Nat => Lib.encodeRune (r : Int)
def dq (rs : List Nat) : List UInt8 := rs.flatMap oneL
theorem txt_cons (r : Nat) (rs : List Nat) : txt (r :: rs) = Lib.encodeRune (r : Int) ++ txt rs := rfl
theorem dq_cons (r : Nat) (rs : List Nat) : dq (r :: rs) = oneL r ++ dq rs := rfl
theorem txt_append (a b : List Nat) : txt (a ++ b) = txt a ++ txt b := List.flatMap_append
theorem dq_append (a b : List Nat) : dq (a ++ b) = dq a ++ dq b := List.flatMap_append
theorem valid_txt : ∀ (rs : List Nat) (n : Nat), (∀ r ∈ rs, isRune r) → Lib.validGoD n (txt rs) = true
  | _, 0, _ => rfl
  | [], n + 1, _ => rfl
  | r :: rs, n + 1, h => by
    have hr := h r (List.mem_cons_self ..)
    obtain ⟨e, hn⟩ := dec_enc6 r hr (txt rs)
    have h1 := (enc_len6 r).1
    have hne : Lib.encodeRune (r : Int) ++ txt rs ≠ [] := fun e => by have := congrArg List.length e; rw [List.length_append, List.length_nil] at this; omega
    rw [txt_cons]
    simp only [Lib.validGoD]
    rw [if_neg hne, dec6 _ hne, if_neg hn, e, List.drop_left]
    exact valid_txt rs n fun r hr => h r (List.mem_cons_of_mem _ hr)
theorem put_txt : ∀ (rs : List Nat) (k : Nat), (∀ r ∈ rs, isRune r) → (txt rs).length ≤ k → putGo k (txt rs) = dq rs
  | [], 0, _, _ => rfl
  | [], k + 1, _, _ => rfl
  | r :: rs, k, h, hk => by
    have hr := h r (List.mem_cons_self ..)
    obtain ⟨e, hn⟩ := dec_enc6 r hr (txt rs)
    have h1 := (enc_len6 r).1
    rw [txt_cons, List.length_append] at hk
    obtain ⟨k, rfl⟩ : ∃ j, k = j + 1 := ⟨k - 1, by omega⟩
    have hne : Lib.encodeRune (r : Int) ++ txt rs ≠ [] := fun e => by have := congrArg List.length e; rw [List.length_append, List.length_nil] at this; omega
    rw [txt_cons]
    simp only [putGo]
    rw [if_neg hne, e, List.drop_left, put_txt rs k (fun r hr => h r (List.mem_cons_of_mem _ hr)) (by omega)]
    rfl
theorem runes_of : ∀ (n : Nat) (l : List UInt8), l.length ≤ n → Lib.validGoD n l = true → ∃ rs : List Nat, (∀ r ∈ rs, isRune r) ∧ l = txt rs
  | 0, l, h, _ => ⟨[], by simp, by rw [List.eq_nil_of_length_eq_zero (show l.length = 0 by omega)]; rfl⟩
  | n + 1, l, h, hv => by
    by_cases hl : l = []
    · exact ⟨[], by simp, by rw [hl]; rfl⟩
    simp only [Lib.validGoD] at hv
    rw [if_neg hl, dec6 l hl] at hv
    by_cases hb : (dec l).1 = 65533 ∧ (dec l).2 = 1
    · rw [if_pos hb] at hv; cases hv
    rw [if_neg hb] at hv
    obtain ⟨h1, h2⟩ := isRune_dec l hl hb
    obtain ⟨rs, h3, h4⟩ := runes_of n (l.drop (dec l).2) (by rw [List.length_drop]; have := length_pos_of hl; omega) hv
    have h5 := Lib.encode_decode l hl (by rw [dec6 l hl]; exact hb)
    rw [dec6 l hl] at h5
    refine ⟨(dec l).1 :: rs, fun r hr => ?_, ?_⟩
    · rcases List.mem_cons.1 hr with rfl | hr
      · exact h1
      · exact h3 r hr
    · rw [txt_cons, h5, ← h4, List.take_append_drop]
theorem valid_iff (l : List UInt8) (h : Lib.validD l = true) : ∃ rs : List Nat, (∀ r ∈ rs, isRune r) ∧ l = txt rs ∧ putL l = 34 :: dq rs ++ [34] := by
  obtain ⟨rs, h1, rfl⟩ := runes_of l.length l (Nat.le_refl _) h
  exact ⟨rs, h1, rfl, by unfold putL; rw [put_txt rs _ h1 (Nat.le_refl _)]⟩
theorem valid_of (rs : List Nat) (h : ∀ r ∈ rs, isRune r) : Lib.validD (txt rs) = true ∧ putL (txt rs) = 34 :: dq rs ++ [34] := ⟨valid_txt rs _ h, by unfold putL; rw [put_txt rs _ h (Nat.le_refl _)]⟩

/-! What is put is taken -/
theorem t92 : (92 : UInt8).toNat = 92 := rfl
theorem t34 : (34 : UInt8).toNat = 34 := rfl
def quiet (c : UInt8) : Prop := c.toNat ≠ 10 ∧ c.toNat ≠ 13 ∧ c.toNat ≠ 34 ∧ c.toNat ≠ 92
theorem dt_quiet (rest : List UInt8) : ∀ (w : List UInt8) (i : Nat) (out : List UInt8), (∀ c ∈ w, quiet c) → dt (w ++ rest) i out = dt rest (i + w.length) (out ++ w)
  | [], i, out, _ => by simp
  | c :: w, i, out, h => by
    obtain ⟨h1, h2, h3, h4⟩ := h c (List.mem_cons_self ..)
    rw [List.cons_append, dt_cons, if_neg (by omega), if_neg h3, if_neg h4, dt_quiet rest w _ _ fun c hc => h c (List.mem_cons_of_mem _ hc)]
    rw [List.append_assoc, List.singleton_append, List.length_cons, show i + 1 + w.length = i + (w.length + 1) by omega]
theorem enc_bytes (r : Nat) (hv : isRune r) : r < 128 ∧ Lib.encodeRune (r : Int) = [UInt8.ofNat r] ∨ 128 ≤ r ∧ ∀ c ∈ Lib.encodeRune (r : Int), 128 ≤ c.toNat := by
  unfold isRune at hv
  by_cases h1 : r < 128
  · exact .inl ⟨h1, enc1 h1⟩
  refine .inr ⟨by omega, ?_⟩
  by_cases h2 : r < 2048
  · rw [enc2 (by omega) h2]
    intro c hc
    simp only [List.mem_cons, List.not_mem_nil, or_false] at hc
    rcases hc with rfl | rfl <;> rw [ofNat8 (by omega)] <;> omega
  by_cases h3 : r < 65536
  · rw [enc3 (by omega)]
    intro c hc
    simp only [List.mem_cons, List.not_mem_nil, or_false] at hc
    rcases hc with rfl | rfl | rfl <;> rw [ofNat8 (by omega)] <;> omega
  · rw [enc4 (by omega) (by omega)]
    intro c hc
    simp only [List.mem_cons, List.not_mem_nil, or_false] at hc
    rcases hc with rfl | rfl | rfl | rfl <;> rw [ofNat8 (by omega)] <;> omega
theorem hexC_val : ∀ d : Fin 16, hexV (hexC d.1) = some d.1 ∧ ((48 ≤ (hexC d.1).toNat ∧ (hexC d.1).toNat ≤ 57) ∨ (65 ≤ (hexC d.1).toNat ∧ (hexC d.1).toNat ≤ 70)) := by decide
theorem numL_snoc : ∀ (l : List UInt8) (c : UInt8) (a u d : Nat), numL l a = some u → hexV c = some d → numL (l ++ [c]) a = some (u * 16 + d)
  | [], c, a, u, d, h, hc => by simp only [numL, Option.some.injEq] at h; subst h; simp only [List.nil_append, numL, hc]
  | e :: l, c, a, u, d, h, hc => by
    simp only [List.cons_append, numL] at h ⊢
    cases he : hexV e with
    | none => rw [he] at h; cases h
    | some x => rw [he] at h; exact numL_snoc l c _ u d h hc
theorem hexL_length : ∀ (k n : Nat), (hexL k n).length = k
  | 0, _ => rfl
  | k + 1, n => by simp only [hexL, List.length_append, hexL_length k (n / 16), List.length_singleton]
theorem numL_hex : ∀ (k n : Nat), numL (hexL k n) 0 = some (n % 16 ^ k)
  | 0, n => by simp [hexL, numL, Nat.mod_one]
  | k + 1, n => by
    simp only [hexL]
    rw [numL_snoc _ _ _ _ _ (numL_hex k (n / 16)) (hexC_val ⟨n % 16, Nat.mod_lt _ (by omega)⟩).1]
    congr 1
    have h1 : n % 16 ^ (k + 1) = n / 16 % 16 ^ k * 16 + n % 16 := by
      rw [Nat.pow_succ, Nat.mul_comm (16 ^ k) 16, Nat.mod_mul]; omega
    exact h1.symm
theorem escTab_in : ∀ p ∈ escTab, inOf inTab p.2.toNat = some p.1 ∧ 32 ≤ p.2.toNat ∧ p.2.toNat ≤ 126 := by decide
theorem escOf_mem : ∀ (t : List (Nat × UInt8)) (r : Nat) (c : UInt8), escOf t r = some c → (r, c) ∈ t
  | [], r, c, h => by cases h
  | (k, d) :: t, r, c, h => by
    simp only [escOf] at h
    split at h
    · rename_i hk; cases h; subst hk; exact List.mem_cons_self ..
    · exact List.mem_cons_of_mem _ (escOf_mem t r c h)
theorem escOf_not {r : Nat} (h : escOf escTab r = none) : r ≠ 0 ∧ r ≠ 7 ∧ r ≠ 8 ∧ r ≠ 9 ∧ r ≠ 10 ∧ r ≠ 11 ∧ r ≠ 12 ∧ r ≠ 13 ∧ r ≠ 27 ∧ r ≠ 133 ∧ r ≠ 160 ∧ r ≠ 8232 ∧ r ≠ 8233 := by
  refine ⟨?_, ?_, ?_, ?_, ?_, ?_, ?_, ?_, ?_, ?_, ?_, ?_, ?_⟩ <;> intro e <;> subst e <;> revert h <;> decide

/-- What one of the ways to write a rune by number is taken as. -/
theorem dt_hex (r k : Nat) (c : UInt8) (hr : isRune r) (hc : inOf inTab c.toNat = none) (hk : digs c.toNat = k) (hk0 : k ≠ 0) (hlt : r < 16 ^ k) (w : List UInt8) (hw : w.length = k) (hn : numL w 0 = some r) (rest : List UInt8) (i : Nat) (out : List UInt8) :
    dt (92 :: c :: w ++ rest) i out = dt rest (i + (92 :: c :: w).length) (out ++ Lib.encodeRune (r : Int)) := by
  have he : escL (c :: (w ++ rest)) = some (r, k + 1) := by
    simp only [escL]
    rw [hc, hk]
    simp only
    rw [if_neg hk0, if_neg (by rw [List.length_append]; omega), List.take_left' hw, hn]
    simp only
    rw [if_pos (show r < 55296 ∨ (57343 < r ∧ r ≤ 1114111) from hr)]
  show dt (92 :: (c :: (w ++ rest))) i out = _
  rw [dt_cons, if_neg (by decide), if_neg (by decide), if_pos t92, he]
  simp only [List.drop_succ_cons, List.length_cons]
  rw [List.drop_left' hw, hw, show i + 1 + (k + 1) = i + (k + 1 + 1) by omega]
theorem dt_one (r : Nat) (hr : isRune r) (rest : List UInt8) (i : Nat) (out : List UInt8) : dt (oneL r ++ rest) i out = dt rest (i + (oneL r).length) (out ++ Lib.encodeRune (r : Int)) := by
  have hr' := hr
  unfold isRune at hr'
  unfold oneL
  cases he : escOf escTab r with
  | some c =>
    obtain ⟨h1, h2, h3⟩ := escTab_in _ (escOf_mem _ _ _ he)
    have hE : escL (c :: rest) = some (r, 1) := by simp only [escL]; rw [h1]
    show dt (92 :: (c :: rest)) i out = _
    rw [dt_cons, if_neg (by decide), if_neg (by decide), if_pos t92, hE]
    rfl
  | none =>
    have hn := escOf_not he
    simp only
    by_cases hq : r = 34 ∨ r = 92
    · rw [if_pos hq]
      rcases hq with rfl | rfl
      · show dt (92 :: (34 :: rest)) i out = _
        rw [dt_cons, if_neg (by decide), if_neg (by decide), if_pos t92]
        have hE : escL (34 :: rest) = some (34, 1) := rfl
        rw [hE]; rfl
      · show dt (92 :: (92 :: rest)) i out = _
        rw [dt_cons, if_neg (by decide), if_neg (by decide), if_pos t92]
        have hE : escL (92 :: rest) = some (92, 1) := rfl
        rw [hE]; rfl
    · rw [if_neg hq]
      by_cases hp : prints r = true
      · rw [if_pos hp]
        refine dt_quiet rest _ i out fun c hc => ?_
        unfold quiet
        rcases enc_bytes r hr with ⟨h1, h2⟩ | ⟨h1, h2⟩
        · rw [h2, List.mem_singleton] at hc
          subst hc
          rw [ofNat8 (by omega)]; omega
        · have := h2 c hc; omega
      · rw [if_neg hp]
        by_cases h1 : r < 256
        · rw [if_pos h1]
          exact dt_hex r 2 120 hr rfl rfl (by omega) (by omega) (hexL 2 r) (hexL_length 2 r) (by rw [numL_hex, Nat.mod_eq_of_lt (by omega)]) rest i out
        · rw [if_neg h1]
          by_cases h2 : r < 65536
          · rw [if_pos h2]
            exact dt_hex r 4 117 hr rfl rfl (by omega) (by omega) (hexL 4 r) (hexL_length 4 r) (by rw [numL_hex, Nat.mod_eq_of_lt (by omega)]) rest i out
          · rw [if_neg h2]
            exact dt_hex r 8 85 hr rfl rfl (by omega) (by omega) (hexL 8 r) (hexL_length 8 r) (by rw [numL_hex, Nat.mod_eq_of_lt (by omega)]) rest i out
theorem dt_dq (rest : List UInt8) : ∀ (rs : List Nat) (i : Nat) (out : List UInt8), (∀ r ∈ rs, isRune r) → dt (dq rs ++ rest) i out = dt rest (i + (dq rs).length) (out ++ txt rs)
  | [], i, out, _ => by simp [dq, txt]
  | r :: rs, i, out, h => by
    rw [dq_cons, txt_cons, List.append_assoc, dt_one r (h r (List.mem_cons_self ..)), dt_dq rest rs _ _ fun r hr => h r (List.mem_cons_of_mem _ hr), List.append_assoc, List.length_append, Nat.add_assoc]
theorem take_put (rs : List Nat) (h : ∀ r ∈ rs, isRune r) (tail : List UInt8) : dtakeP ((34 :: dq rs ++ [34]) ++ tail) = some (txt rs, (34 :: dq rs ++ [34]).length) := by
  show dtakeP (34 :: ((dq rs ++ [34]) ++ tail)) = _
  simp only [dtakeP]
  rw [if_pos t34, List.append_assoc, dt_dq _ rs _ _ h]
  show dt (34 :: tail) _ _ = _
  rw [dt_cons, if_neg (by decide), if_pos t34]
  simp only [List.nil_append, List.length_append, List.length_cons, List.length_nil]
  rw [show 1 + (dq rs).length + 1 = (dq rs).length + 1 + (0 + 1) by omega]
theorem take_open (rs : List Nat) (h : ∀ r ∈ rs, isRune r) : dtakeP (34 :: dq rs) = none := by
  simp only [dtakeP]
  have := dt_dq [] rs 1 [] h
  rw [List.append_nil] at this
  rw [if_pos t34, this]; rfl

theorem D_Put6 (s : List UInt8) (hs : s.length ≤ 1000000) : D id_doublePut [.str s] = some ⟨.tup [.str (if Lib.validD s = true then putL s else []), .bool (Lib.validD s)], false, []⟩ := by
  refine D_ext ?_
  have h : X id_doublePut [.str s] = bif decide (s.length ≤ 1000000) then some (⟨.tup [.str (if Lib.validD s = true then putL s else []), .bool (Lib.validD s)], false, []⟩ : Res) else none := rfl
  rw [h, cond_d hs]
end Go.Proofs.YtlionohbndehgaaDoor.Vf
