
/- The law FoldBlocks comes to true, whatever the input. No condition but the rows' kind. -/
import Derived.Test.YtpjpmfchcijikaaDoorVfFoldD
namespace Go.Proofs.YtpjpmfchcijikaaDoor.Vf
set_option linter.unusedVariables false
set_option linter.unusedSimpArgs false

/-- A break. -/
def brk2 (cr : Bool) : List UInt8 := bif cr then [13, 10] else [10]
theorem idx_app {c : UInt8} : ∀ {t : List UInt8} {r : List UInt8}, (∀ x ∈ t, x ≠ c) → Lib.indexByte (t ++ c :: r) c = t.length
  | [], r, h => by
    show (if (c == c) = true then (0 : Int) else (if (Lib.indexByte r c == -1) = true then -1 else Lib.indexByte r c + 1)) = _
    rw [if_pos (by simp)]; rfl
  | x :: t, r, h => by
    have ih := idx_app (t := t) (r := r) (fun y hy => h y (.tail _ hy))
    show (if (x == c) = true then (0 : Int) else if (Lib.indexByte (t ++ c :: r) c == -1) = true then -1 else Lib.indexByte (t ++ c :: r) c + 1) = _
    rw [ih, if_neg (by simpa using h x (.head _)), if_neg (by simp)]
    simp

/-- One line of a text. -/
theorem split_step (pre t rest : List UInt8) (cr : Bool) (h : ∀ c ∈ t, c ≠ 10 ∧ c ≠ 13) (k : Nat) : splitFrom (pre ++ (t ++ (brk2 cr ++ rest))) (k + 1) pre.length =
    ⟨pre.length, pre.length + t.length, pre.length + t.length + (brk2 cr).length⟩ :: splitFrom (pre ++ (t ++ (brk2 cr ++ rest))) k (pre.length + t.length + (brk2 cr).length) := by
  simp only [splitFrom]
  have hd : (pre ++ (t ++ (brk2 cr ++ rest))).drop pre.length = t ++ (brk2 cr ++ rest) := by simp
  have hb : 1 ≤ (brk2 cr).length := by cases cr <;> decide
  rw [if_pos (by simp; omega), hd]
  cases cr
  · have hi : Lib.indexByte (t ++ (brk2 false ++ rest)) 10 = (t.length : Nat) := idx_app (fun x hx => (h x hx).1)
    rw [hi, if_neg (by omega)]
    simp only [Int.toNat_natCast]
    have h13 : ¬ (0 < t.length ∧ (pre ++ (t ++ (brk2 false ++ rest)))[pre.length + t.length - 1]? = some 13) := by
      rintro ⟨h1, h2⟩
      rw [List.getElem?_append_right (by omega), show pre.length + t.length - 1 - pre.length = t.length - 1 by omega, List.getElem?_append_left (by omega)] at h2
      exact (h 13 (List.mem_of_getElem? h2)).2 rfl
    rw [if_neg h13]
    rfl
  · have e : t ++ (brk2 true ++ rest) = (t ++ [13]) ++ 10 :: rest := by simp [brk2]
    have hi : Lib.indexByte (t ++ (brk2 true ++ rest)) 10 = (t.length + 1 : Nat) := by
      rw [e, idx_app (fun x hx => ?_)]
      · simp
      · rcases List.mem_append.1 hx with hx | hx
        · exact (h x hx).1
        · simp only [List.mem_singleton] at hx; rw [hx]; decide
    rw [hi, if_neg (by omega)]
    simp only [Int.toNat_natCast]
    have h13 : 0 < t.length + 1 ∧ (pre ++ (t ++ (brk2 true ++ rest)))[pre.length + (t.length + 1) - 1]? = some 13 := by
      refine ⟨by omega, ?_⟩
      rw [List.getElem?_append_right (by omega), show pre.length + (t.length + 1) - 1 - pre.length = t.length by omega, List.getElem?_append_right (Nat.le_refl _)]
      simp [brk2]
    rw [if_pos h13]
    have e2 : pre.length + (t.length + 1) - 1 = pre.length + t.length := by omega
    have e3 : pre.length + (t.length + 1) + 1 = pre.length + t.length + (brk2 true).length := by show _ = pre.length + t.length + 2; omega
    rw [e2, e3]

/-- A row that may be written. -/
def RowOk (t : List UInt8) : Prop := (∀ c ∈ t, c ≠ 10 ∧ c ≠ 13) ∧ (t = [] ∨ (t.getD 0 0).toNat ≠ 32)
def lineOf (col : Nat) (t : List UInt8) : List UInt8 := if t = [] then [] else List.replicate col 32 ++ t
def textOf (col : Nat) (cr : Bool) : List (List UInt8) → List UInt8
  | [] => []
  | t :: r => lineOf col t ++ (brk2 cr ++ textOf col cr r)
theorem textOf_snoc (col : Nat) (cr : Bool) (t : List UInt8) : ∀ r, textOf col cr (r ++ [t]) = textOf col cr r ++ (lineOf col t ++ brk2 cr)
  | [] => by simp [textOf]
  | x :: r => by simp only [List.cons_append, textOf, textOf_snoc col cr t r, List.append_assoc]
def endOf (cr : Bool) : List UInt8 := [101, 110, 100] ++ brk2 cr

theorem lead_rep2 (m : Nat) (u : List UInt8) (hu : u = [] ∨ (u.getD 0 0).toNat ≠ 32) : lead (List.replicate m 32 ++ u) = m := by
  induction m with
  | zero =>
    cases u with
    | nil => rfl
    | cons c u =>
      simp only [List.replicate_zero, List.nil_append, lead]
      rcases hu with hu | hu
      · cases hu
      · exact if_neg hu
  | succ m ih =>
    rw [List.replicate_succ]
    simp only [List.cons_append, lead]
    rw [ih]; rfl

theorem body_rows (col : Nat) (hcol : 1 ≤ col) (cr : Bool) : ∀ (rows : List (List UInt8)) (pre b : List UInt8) (k : Nat), (∀ t ∈ rows, RowOk t) → b = pre ++ (textOf col cr rows ++ endOf cr) → rows.length < k →
    bodyGo b col true (splitFrom b k pre.length) = some (rows, rows.length)
  | [], pre, b, k, _, hb, hk => by
    obtain ⟨k, rfl⟩ : ∃ m, k = m + 1 := ⟨k - 1, by simp at hk; omega⟩
    have e : b = pre ++ ([101, 110, 100] ++ (brk2 cr ++ [])) := by rw [hb]; simp [textOf, endOf]
    rw [e, split_step pre [101, 110, 100] [] cr (by decide) k]
    simp only [bodyGo]
    have el : lineB (pre ++ ([101, 110, 100] ++ (brk2 cr ++ []))) ⟨pre.length, pre.length + 3, pre.length + 3 + (brk2 cr).length⟩ = [101, 110, 100] := by
      unfold lineB
      show ((pre ++ ([101, 110, 100] ++ (brk2 cr ++ []))).take (pre.length + 3)).drop pre.length = _
      rw [show pre.length + 3 = pre.length + ([101, 110, 100] : List UInt8).length from rfl, List.take_length_add_append, List.drop_append_of_le_length (by simp)]
      simp
    have el' : lineB (pre ++ ([101, 110, 100] ++ (brk2 cr ++ []))) ⟨pre.length, pre.length + ([101, 110, 100] : List UInt8).length, pre.length + ([101, 110, 100] : List UInt8).length + (brk2 cr).length⟩ = [101, 110, 100] := el
    have hs3 : pre.length + ([101, 110, 100] : List UInt8).length - pre.length = 3 := by simp
    rw [el', hs3, if_neg (by decide), if_pos (.inr (.inr (show lead [101, 110, 100] < col from hcol)))]
    rfl
  | t :: rows, pre, b, k, hr, hb, hk => by
    obtain ⟨k, rfl⟩ : ∃ m, k = m + 1 := ⟨k - 1, by simp at hk; omega⟩
    obtain ⟨h1, h2⟩ := hr t (.head _)
    have hline : ∀ c ∈ lineOf col t, c ≠ 10 ∧ c ≠ 13 := by
      intro c hc
      unfold lineOf at hc
      split at hc
      · cases hc
      · rcases List.mem_append.1 hc with hc | hc
        · rw [List.eq_of_mem_replicate hc]; decide
        · exact h1 c hc
    have e : b = pre ++ (lineOf col t ++ (brk2 cr ++ (textOf col cr rows ++ endOf cr))) := by rw [hb]; simp only [textOf, List.append_assoc]
    have e2 : b = (pre ++ (lineOf col t ++ brk2 cr)) ++ (textOf col cr rows ++ endOf cr) := by rw [e]; simp only [List.append_assoc]
    have ih := body_rows col hcol cr rows (pre ++ (lineOf col t ++ brk2 cr)) b k (fun t ht => hr t (.tail _ ht)) e2 (by simp at hk; omega)
    have el : lineB b ⟨pre.length, pre.length + (lineOf col t).length, pre.length + (lineOf col t).length + (brk2 cr).length⟩ = lineOf col t := by
      unfold lineB
      rw [e]
      show ((pre ++ (lineOf col t ++ (brk2 cr ++ (textOf col cr rows ++ endOf cr)))).take (pre.length + (lineOf col t).length)).drop pre.length = _
      rw [List.take_length_add_append, List.drop_append_of_le_length (by simp)]
      simp
    have es : splitFrom b (k + 1) pre.length = ⟨pre.length, pre.length + (lineOf col t).length, pre.length + (lineOf col t).length + (brk2 cr).length⟩ :: splitFrom b k (pre.length + (lineOf col t).length + (brk2 cr).length) := by
      rw [e]; exact split_step pre (lineOf col t) (textOf col cr rows ++ endOf cr) cr hline k
    have elen : (pre ++ (lineOf col t ++ brk2 cr)).length = pre.length + (lineOf col t).length + (brk2 cr).length := by simp; omega
    rw [elen] at ih
    rw [es]
    simp only [bodyGo, el, ih, Option.map_some, List.length_cons]
    have hsub : pre.length + (lineOf col t).length - pre.length = (lineOf col t).length := by omega
    rw [hsub]
    by_cases ht : t = []
    · subst ht
      have e0 : lineOf col [] = [] := rfl
      rw [e0]; simp [lead]
    · have e1 : lineOf col t = List.replicate col 32 ++ t := if_neg ht
      have hl := lead_rep2 col t h2
      have htl : 0 < t.length := List.length_pos_iff.2 ht
      rw [e1, hl, if_neg (by simp; omega)]
      have hp : partsP (List.replicate col 32 ++ t) = false := by
        obtain ⟨m, rfl⟩ : ∃ m, col = m + 1 := ⟨col - 1, by omega⟩
        rw [List.replicate_succ]
        unfold partsP mark3
        have a1 : ∀ x : UInt8, x ≠ 32 → (((32 :: List.replicate m 32 ++ t : List UInt8)).take 3 == [x, x, x]) = false := by
          intro x hx
          rw [beq_eq_false_iff_ne]; intro e
          rw [List.cons_append, List.take_succ_cons] at e
          exact hx (List.cons.inj e).1.symm
        rw [a1 45 (by decide), a1 46 (by decide)]; simp
      rw [if_neg (by rw [hp]; simp)]
      have hd : (List.replicate col 32 ++ t).drop col = t := by
        rw [List.drop_append_of_le_length (by simp)]; simp
      rw [hd]

theorem blocks_in (N : Nat) (k0) (l : List AV) (p : Int) (br : List UInt8) (col : Nat) (hcol : col ≤ 100) : ∀ (n i : Nat) (acc : List UInt8), col < i + n → i ≤ col → acc.length ≤ i →
    law07FoldBlocks_L1 D N k0 n l p (col : Nat) br acc i = k0 l p (col : Nat) br (acc ++ List.replicate (col - i) 32) := by
  intro n
  induction n with
  | zero => intro i acc h h'; omega
  | succ n ih =>
    intro i acc h h' ha
    simp only [law07FoldBlocks_L1, law07FoldBlocks_L1s]
    by_cases hi : i < col
    · rw [cond_d (by omega), need_d (by simp; omega), wrap_i64 (by omega) (by omega), show (i : Int) + 1 = ((i + 1 : Nat) : Int) by omega, ih (i + 1) _ (by omega) (by omega) (by simp; omega), show col - i = (col - (i + 1)) + 1 by omega, List.replicate_succ]
      simp
    · rw [cond_nd (by omega), show col - i = 0 by omega]; simp

theorem blocks_chars (N : Nat) (k0) (l : List AV) (p c : Int) (s1 s2 s3 : List UInt8) (z : Int) (m : List AV) (u : List UInt8) (hu : u.length ≤ 100) : ∀ (n i : Nat) (t : List UInt8), u.length < i + n → i ≤ u.length → RowOk t → t.length ≤ i →
    ∃ t', RowOk t' ∧ t'.length ≤ u.length ∧ law07FoldBlocks_L3 D N k0 n l p c s1 s2 s3 z t u (u.length : Nat) i m = k0 l p c s1 s2 s3 z t' m := by
  intro n
  induction n with
  | zero => intro i t h h'; omega
  | succ n ih =>
    intro i t h h' ht hl
    simp only [law07FoldBlocks_L3, law07FoldBlocks_L3s]
    by_cases hi : i < u.length
    · have hc := byte_lt (u.getD i 0)
      rw [cond_d (by omega), need_d (by omega)]
      simp only [Int.toNat_natCast]
      rw [get_bn hi, wrap_i64 (by omega) (by omega), show (i : Int) + 1 = ((i + 1 : Nat) : Int) by omega]
      have ho : UInt8.ofNat (u.getD i 0).toNat = u.getD i 0 := by simp
      have no := ih (i + 1) t (by omega) (by omega) ht (by omega)
      have put : (u.getD i 0).toNat ≠ 10 → (u.getD i 0).toNat ≠ 13 → ((u.getD i 0).toNat ≠ 32 ∨ t ≠ []) → ∃ t', RowOk t' ∧ t'.length ≤ u.length ∧ (need (decide (0 ≤ (((u.getD i 0).toNat : Int) : Int)) && decide ((((u.getD i 0).toNat : Int) : Int) < 256)) <|
          need (decide (t.length + ([UInt8.ofNat (u.getD i 0).toNat] : List UInt8).length ≤ 9223372036854775807)) <|
          law07FoldBlocks_L3 D N k0 n l p c s1 s2 s3 z (t ++ [UInt8.ofNat (u.getD i 0).toNat]) u (u.length : Nat) ((i + 1 : Nat) : Int) m) = k0 l p c s1 s2 s3 z t' m := by
        intro h1 h2 h3
        rw [need_d2 (by omega) (by omega), need_d (by simp; omega), ho]
        refine ih (i + 1) (t ++ [u.getD i 0]) (by omega) (by omega) ⟨fun x hx => ?_, ?_⟩ (by simp; omega)
        · rcases List.mem_append.1 hx with hx | hx
          · exact ht.1 x hx
          · simp only [List.mem_singleton] at hx
            subst hx
            exact ⟨fun e => h1 (by rw [e]; rfl), fun e => h2 (by rw [e]; rfl)⟩
        · right
          cases t with
          | nil =>
            rcases h3 with h3 | h3
            · exact h3
            · exact absurd rfl h3
          | cons a t =>
            rcases ht.2 with h4 | h4
            · cases h4
            · exact h4
      by_cases h10 : (u.getD i 0).toNat = 10
      · rw [cond_beq (by omega)]; exact no
      by_cases h13 : (u.getD i 0).toNat = 13
      · rw [cond_bne (by omega), cond_beq (by omega)]; exact no
      by_cases h32 : (u.getD i 0).toNat = 32
      · rw [cond_bne (by omega), cond_bne (by omega), cond_beq (by omega)]
        by_cases ht0 : t = []
        · subst ht0
          rw [show (!(([] : List UInt8) == [])) = false from rfl]
          simp only [cond_false]
          exact no
        · rw [beq_false_of_ne ht0]
          simp only [Bool.not_false, cond_true]
          exact put h10 h13 (.inr ht0)
      · rw [cond_bne (by omega), cond_bne (by omega), cond_bne (by omega)]; exact put h10 h13 (.inl h32)
    · rw [cond_nd (by omega)]; exact ⟨t, ht, by omega, rfl⟩

theorem blocks_trim (N : Nat) (k0) (l : List AV) (p c : Int) (s1 s2 s3 : List UInt8) (z : Int) (m : List AV) : ∀ (n : Nat) (t : List UInt8), t.length < n → t.length ≤ 1000 → RowOk t →
    ∃ t', RowOk t' ∧ t'.length ≤ t.length ∧ law07FoldBlocks_L4 D N k0 n l p c s1 s2 s3 z t m = k0 l p c s1 s2 s3 z t' m := by
  intro n
  induction n with
  | zero => intro t h; omega
  | succ n ih =>
    intro t h hb ht
    simp only [law07FoldBlocks_L4, law07FoldBlocks_L4s]
    by_cases h0 : 0 < t.length
    · have w1 : IntKind.i64.wrap (((t.length : Nat) : Int) - 1) = ((t.length - 1 : Nat) : Int) := by rw [wrap_i64 (by omega) (by omega)]; omega
      rw [cond_d (by omega)]
      simp only [w1, need_d (show (0 : Int) ≤ ((t.length - 1 : Nat) : Int) by omega), Int.toNat_natCast]
      rw [get_bn (by omega)]
      by_cases h32 : (t.getD (t.length - 1) 0).toNat = 32
      · rw [cond_eq (by omega), need_d2 (by omega) (by omega), List.drop_zero]
        have hl : (t.take (t.length - 1)).length = t.length - 1 := by rw [List.length_take]; omega
        obtain ⟨t', h1, h2, h3⟩ := ih (t.take (t.length - 1)) (by omega) (by omega) ⟨fun x hx => ht.1 x (List.mem_of_mem_take hx), by
          by_cases h1 : t.length - 1 = 0
          · left; exact List.length_eq_zero_iff.1 (by omega)
          · right
            rcases ht.2 with h2 | h2
            · rw [h2] at h0; simp at h0
            · simp only [List.getD, List.getElem?_take, if_pos (show 0 < t.length - 1 by omega)]; exact h2⟩
        exact ⟨t', h1, by omega, h3⟩
      · rw [cond_ne (by omega)]; exact ⟨t, ht, Nat.le_refl _, rfl⟩
    · rw [cond_nd (by omega)]; exact ⟨t, ht, Nat.le_refl _, rfl⟩

theorem textOf_len (col : Nat) (cr : Bool) : ∀ rows : List (List UInt8), rows.length ≤ (textOf col cr rows).length ∧ (textOf col cr rows).length ≤ (rows.map List.length).sum + rows.length * (col + 2)
  | [] => by simp [textOf]
  | t :: r => by
    obtain ⟨h1, h2⟩ := textOf_len col cr r
    have hb : 1 ≤ (brk2 cr).length ∧ (brk2 cr).length ≤ 2 := by cases cr <;> decide
    have hl : (lineOf col t).length ≤ t.length + col := by unfold lineOf; split <;> simp; omega
    simp only [textOf, List.length_append, List.length_cons, List.map_cons, List.sum_cons, Nat.succ_mul]
    omega

theorem blocks_rows (N : Nat) (hN : 20 ≤ N) (k0) (ws : List (List UInt8)) (p : Int) (col : Nat) (hcol : 1 ≤ col) (hcol2 : col ≤ 100) (cr : Bool) : ∀ (n j : Nat) (acc : List (List UInt8)), 6 < j + n → j ≤ 6 → acc.length = j → (∀ t ∈ acc, RowOk t ∧ t.length ≤ 13) → (acc.map List.length).sum ≤ 13 * j → (acc = [] ∨ acc.getD 0 [] ≠ []) →
    ∃ rows : List (List UInt8), rows.length ≤ 6 ∧ (∀ t ∈ rows, RowOk t ∧ t.length ≤ 13) ∧ (rows.map List.length).sum ≤ 78 ∧ (rows = [] ∨ rows.getD 0 [] ≠ []) ∧
      law07FoldBlocks_L2 D N k0 n (ws.map AV.str) p (col : Nat) (brk2 cr) (List.replicate col 32) (textOf col cr acc) j (acc.map AV.str) = k0 p (col : Nat) (brk2 cr) (textOf col cr rows) (rows.map AV.str) := by
  intro n
  induction n with
  | zero => intro j acc h h'; omega
  | succ n ih =>
    intro j acc h h' ha hok hsum hfirst
    simp only [law07FoldBlocks_L2, law07FoldBlocks_L2s]
    by_cases hj : j < ws.length
    · rw [cond_d (by simp; omega)]
      by_cases h6 : j < 6
      · rw [cond_d (by omega), need_d (by omega)]
        simp only [Int.toNat_natCast]
        rw [get_row hj, asS_s, show (12 : Int) = ((12 : Nat) : Int) from rfl, D_Text _ 12 (by omega)]
        simp only [Option.bind_some, asS_s]
        have h12 : ((ws.getD j []).take 12).length ≤ 12 := by rw [List.length_take]; omega
        generalize (ws.getD j []).take 12 = u at h12
        obtain ⟨t1, r1, l1, e1⟩ := blocks_chars N _ (ws.map AV.str) p (col : Nat) (brk2 cr) (List.replicate col 32) (textOf col cr acc) (j : Nat) (acc.map AV.str) u (by omega) N 0 [] (by omega) (by omega) ⟨(fun c hc => by cases hc), .inl rfl⟩ (by simp)
        rw [show ((0 : Nat) : Int) = 0 from rfl] at e1
        rw [e1]
        clear e1
        obtain ⟨t2, r2, l2, e2⟩ := blocks_trim N _ (ws.map AV.str) p (col : Nat) (brk2 cr) (List.replicate col 32) (textOf col cr acc) (j : Nat) (acc.map AV.str) N t1 (by omega) (by omega) r1
        rw [e2]
        clear e2
        obtain ⟨tl1, tl2⟩ := textOf_len col cr acc
        have hmul : acc.length * (col + 2) ≤ 6 * 102 := Nat.mul_le_mul (by omega) (by omega)
        have hbr : (brk2 cr).length ≤ 2 := by cases cr <;> decide
        rw [wrap_i64 (x := (j : Int) + 1) (by omega) (by omega), show (j : Int) + 1 = ((j + 1 : Nat) : Int) by omega]
        simp only [List.drop_zero, List.take_length]
        -- a row put
        have go : ∀ x : List UInt8, RowOk x → x.length ≤ 13 → (acc = [] → x ≠ []) → ∃ rows : List (List UInt8), rows.length ≤ 6 ∧ (∀ t ∈ rows, RowOk t ∧ t.length ≤ 13) ∧ (rows.map List.length).sum ≤ 78 ∧ (rows = [] ∨ rows.getD 0 [] ≠ []) ∧
            (need (decide ((acc.map AV.str).length + [AV.str x].length ≤ 1099511627776)) <|
              bif !(x == ([] : List UInt8)) then
                (need (decide ((List.replicate col (32 : UInt8)).length + x.length ≤ 9223372036854775807)) <|
                need (decide ((textOf col cr acc).length + (List.replicate col 32 ++ x).length ≤ 9223372036854775807)) <|
                need (decide ((textOf col cr acc ++ (List.replicate col 32 ++ x)).length + (brk2 cr).length ≤ 9223372036854775807)) <|
                law07FoldBlocks_L2 D N k0 n (ws.map AV.str) p (col : Nat) (brk2 cr) (List.replicate col 32) ((textOf col cr acc ++ (List.replicate col 32 ++ x)) ++ brk2 cr) ((j + 1 : Nat) : Int) (acc.map AV.str ++ [AV.str x]))
              else
                need (decide ((textOf col cr acc).length + (brk2 cr).length ≤ 9223372036854775807)) <|
                law07FoldBlocks_L2 D N k0 n (ws.map AV.str) p (col : Nat) (brk2 cr) (List.replicate col 32) (textOf col cr acc ++ brk2 cr) ((j + 1 : Nat) : Int) (acc.map AV.str ++ [AV.str x])) = k0 p (col : Nat) (brk2 cr) (textOf col cr rows) (rows.map AV.str) := by
          intro x hx hxl hx0
          have ea : acc.map AV.str ++ [AV.str x] = (acc ++ [x]).map AV.str := by simp
          obtain ⟨rows, q1, q2, q3, q4, q5⟩ := ih (j + 1) (acc ++ [x]) (by omega) (by omega) (by simp; omega) (fun t ht => by
              rcases List.mem_append.1 ht with ht | ht
              · exact hok t ht
              · simp only [List.mem_singleton] at ht; subst ht; exact ⟨hx, hxl⟩)
            (by simp only [List.map_append, List.sum_append, List.map_cons, List.map_nil, List.sum_cons, List.sum_nil]; omega)
            (by
              right
              cases acc with
              | nil => exact hx0 rfl
              | cons a r =>
                rcases hfirst with hf | hf
                · cases hf
                · exact hf)
          refine ⟨rows, q1, q2, q3, q4, ?_⟩
          rw [need_d (by simp; omega), ea, ← q5, textOf_snoc]
          by_cases he : x = []
          · subst he
            rw [show (!(([] : List UInt8) == [])) = false from rfl, cond_false, need_d (by omega)]
            rfl
          · have el : lineOf col x = List.replicate col 32 ++ x := if_neg he
            rw [beq_false_of_ne he, need_d (by simp; omega), need_d (by simp; omega), need_d (by simp; omega), el]
            simp only [Bool.not_false, cond_true, List.append_assoc]
        by_cases hj0 : j = 0
        · rw [cond_eq (by omega), need_d (by simp; omega)]
          refine go ([120] ++ t2) ⟨fun c hc => ?_, .inr (show (120 : UInt8).toNat ≠ 32 by decide)⟩ (by simp; omega) (fun _ => by simp)
          rcases List.mem_append.1 hc with hc | hc
          · simp only [List.mem_singleton] at hc; subst hc; decide
          · exact r2.1 c hc
        · rw [cond_ne (by omega)]
          exact go t2 r2 (by omega) (fun e => by rw [e] at ha; simp at ha; omega)
      · rw [cond_nd (by omega)]; exact ⟨acc, by omega, hok, by omega, hfirst, rfl⟩
    · rw [cond_nd (by simp; omega)]; exact ⟨acc, by omega, hok, by omega, hfirst, rfl⟩

/-- What Body answers for rows that were written. -/
theorem body_written (col : Nat) (hcol : 1 ≤ col) (cr : Bool) (rows : List (List UInt8)) (hok : ∀ t ∈ rows, RowOk t) (hne : rows ≠ []) (hfirst : rows.getD 0 [] ≠ []) (parent : Int) (dg : Nat) (hd : (0 < dg ∧ parent.toNat + dg = col) ∨ (dg = 0 ∧ parent < col)) :
    bodyRes (textOf col cr rows ++ endOf cr) (splitL (textOf col cr rows ++ endOf cr)) 0 parent dg = ⟨.tup [.row 1 (rows.map AV.str), .int .i64 (rows.length : Nat), .bool true], false, []⟩ := by
  obtain ⟨t, r, rfl⟩ : ∃ t r, rows = t :: r := by
    cases rows with
    | nil => exact absurd rfl hne
    | cons t r => exact ⟨t, r, rfl⟩
  have ht : t ≠ [] := hfirst
  obtain ⟨h1, h2⟩ := hok t (.head _)
  have el : lineOf col t = List.replicate col 32 ++ t := if_neg ht
  have e : textOf col cr (t :: r) ++ endOf cr = [] ++ (lineOf col t ++ (brk2 cr ++ (textOf col cr r ++ endOf cr))) := by simp [textOf]
  have hbom : bomAt (textOf col cr (t :: r) ++ endOf cr) = 0 := by
    unfold bomAt
    rw [if_neg]
    rintro ⟨_, h⟩
    rw [e, el] at h
    obtain ⟨m, rfl⟩ : ∃ m, col = m + 1 := ⟨col - 1, by omega⟩
    rw [List.replicate_succ] at h
    simp at h
  have hlen : (t :: r).length < (textOf col cr (t :: r) ++ endOf cr).length + 1 := by
    have := (textOf_len col cr (t :: r)).1
    simp only [List.length_append]; omega
  have hgo := body_rows col hcol cr (t :: r) [] (textOf col cr (t :: r) ++ endOf cr) ((textOf col cr (t :: r) ++ endOf cr).length + 1) hok rfl hlen
  have hsp : splitL (textOf col cr (t :: r) ++ endOf cr) = splitFrom (textOf col cr (t :: r) ++ endOf cr) ((textOf col cr (t :: r) ++ endOf cr).length + 1) ([] : List UInt8).length := by
    unfold splitL; rw [hbom]; rfl
  have hcl : colL (textOf col cr (t :: r) ++ endOf cr) parent dg (splitL (textOf col cr (t :: r) ++ endOf cr)) = (col, true) := by
    unfold colL
    rcases hd with ⟨h3, h4⟩ | ⟨h3, h4⟩
    · rw [if_pos h3, h4]
    · rw [if_neg (by omega), hsp]
      have hline : ∀ c ∈ lineOf col t, c ≠ 10 ∧ c ≠ 13 := by
        intro c hc
        rw [el] at hc
        rcases List.mem_append.1 hc with hc | hc
        · rw [List.eq_of_mem_replicate hc]; decide
        · exact h1 c hc
      have st := split_step [] (lineOf col t) (textOf col cr r ++ endOf cr) cr hline (textOf col cr (t :: r) ++ endOf cr).length
      rw [← e] at st
      rw [st]
      have ell : lineB (textOf col cr (t :: r) ++ endOf cr) ⟨([] : List UInt8).length, ([] : List UInt8).length + (lineOf col t).length, ([] : List UInt8).length + (lineOf col t).length + (brk2 cr).length⟩ = lineOf col t := by
        unfold lineB
        rw [e]
        show (([] ++ (lineOf col t ++ (brk2 cr ++ (textOf col cr r ++ endOf cr)))).take (0 + (lineOf col t).length)).drop 0 = _
        rw [List.nil_append, Nat.zero_add, List.drop_zero, List.take_append_of_le_length (Nat.le_refl _), List.take_length]
      simp only [colGo, ell]
      have hl := lead_rep2 col t h2
      have htl : 0 < t.length := List.length_pos_iff.2 ht
      rw [el, hl, if_neg (by simp; omega)]
      have hp : partsP (List.replicate col 32 ++ t) = false := by
        obtain ⟨m, rfl⟩ : ∃ m, col = m + 1 := ⟨col - 1, by omega⟩
        rw [List.replicate_succ]
        unfold partsP mark3
        have a1 : ∀ x : UInt8, x ≠ 32 → (((32 :: List.replicate m 32 ++ t : List UInt8)).take 3 == [x, x, x]) = false := by
          intro x hx
          rw [beq_eq_false_iff_ne]; intro e
          rw [List.cons_append, List.take_succ_cons] at e
          exact hx (List.cons.inj e).1.symm
        rw [a1 45 (by decide), a1 46 (by decide)]; simp
      rw [if_neg (by rw [hp]; simp; omega)]
  unfold bodyRes
  rw [List.drop_zero, hcl]
  dsimp only
  rw [hsp, hgo]
  dsimp only
  rw [Nat.zero_add]

/-- The law's last part. -/
noncomputable def blocksFin (br s : List UInt8) (p col : Int) (l : List AV) : Option Res :=
  need (decide (s.length + (([101, 110, 100] : List UInt8) : List UInt8).length ≤ 9223372036854775807)) <|
  need (decide ((s ++ ([101, 110, 100] : List UInt8)).length + br.length ≤ 9223372036854775807)) <|
  (D id_linesSplit [AV.bytes ((s ++ ([101, 110, 100] : List UInt8)) ++ br)]).bind fun r4 =>
  asR 3 r4.v fun l27 =>
  bif (((l.length : Nat) : Int) : Int) == 0 then
    ((D id_law07Wakes []).bind fun r5 =>
    asB r5.v fun b2 =>
    some ⟨AV.bool b2, false, []⟩)
  else
    (D id_foldBody [AV.bytes ((s ++ ([101, 110, 100] : List UInt8)) ++ br), AV.row 3 l27, AV.int .i64 0, AV.int .i64 p, AV.agg [AV.bool false, AV.bool false, AV.bool false, AV.int .i64 (IntKind.i64.wrap (col - (if 0 > p then 0 else p)))]]).bind fun r6 =>
    asRIBT r6.v fun l28 i49 b3 =>
    (D id_foldBody [AV.bytes ((s ++ ([101, 110, 100] : List UInt8)) ++ br), AV.row 3 l27, AV.int .i64 0, AV.int .i64 p, AV.agg [AV.bool false, AV.bool false, AV.bool false, AV.int .i64 0]]).bind fun r7 =>
    asRIBT r7.v fun l29 i50 b4 =>
    bif b3 then
      (bif b4 then
        (bif (i49 : Int) == ((l.length : Nat) : Int) then
          (bif (i50 : Int) == ((l.length : Nat) : Int) then
            ((D id_keepSameString [AV.row 1 l28, AV.row 1 ((l.drop 0).take l.length)]).bind fun r8 =>
            asB r8.v fun b5 =>
            bif b5 then
              ((D id_keepSameString [AV.row 1 l29, AV.row 1 ((l.drop 0).take l.length)]).bind fun r9 =>
              asB r9.v fun b6 =>
              bif b6 then
                ((D id_law07Wakes []).bind fun r10 =>
                asB r10.v fun b7 =>
                some ⟨AV.bool b7, false, []⟩)
              else
                some ⟨AV.bool false, false, []⟩)
            else
              some ⟨AV.bool false, false, []⟩)
          else
            some ⟨AV.bool false, false, []⟩)
        else
          some ⟨AV.bool false, false, []⟩)
      else
        some ⟨AV.bool false, false, []⟩)
    else
      some ⟨AV.bool false, false, []⟩

theorem blocks_fin (col : Nat) (hcol : 1 ≤ col) (hcol2 : col ≤ 100) (cr : Bool) (p : Int) (hp : -1 ≤ p) (hp2 : p ≤ 10) (hpc : p.toNat + 1 ≤ col) (rows : List (List UInt8)) (h6 : rows.length ≤ 6) (hok : ∀ t ∈ rows, RowOk t ∧ t.length ≤ 13) (hsum : (rows.map List.length).sum ≤ 78) (hf : rows = [] ∨ rows.getD 0 [] ≠ []) :
    blocksFin (brk2 cr) (textOf col cr rows) p col (rows.map AV.str) = some ⟨.bool true, false, []⟩ := by
  unfold blocksFin
  obtain ⟨_, hl⟩ := textOf_len col cr rows
  have hmul : rows.length * (col + 2) ≤ 6 * 102 := Nat.mul_le_mul h6 (by omega)
  have hbr : (brk2 cr).length ≤ 2 := by cases cr <;> decide
  have eb : (textOf col cr rows ++ ([101, 110, 100] : List UInt8)) ++ brk2 cr = textOf col cr rows ++ endOf cr := by simp [endOf]
  have hbl : (textOf col cr rows ++ endOf cr).length ≤ 1000 := by simp [endOf]; omega
  rw [need_d (by simp; omega), need_d (by simp; omega), eb, D_Split _ (by omega)]
  simp only [Option.bind_some, asR_r, List.length_map, List.drop_zero]
  have htk : (rows.map AV.str).take rows.length = rows.map AV.str := List.take_of_length_le (by simp)
  by_cases h0 : rows.length = 0
  · rw [cond_eq (by omega), D_wakes07]; rfl
  · have hne : rows ≠ [] := fun e => h0 (by rw [e]; rfl)
    have hfirst := hf.resolve_left hne
    rw [cond_ne (by omega)]
    have hin : ∀ y ∈ splitL (textOf col cr rows ++ endOf cr), y.f ≤ y.t ∧ y.t ≤ (textOf col cr rows ++ endOf cr).length := fun y hy => by have := (tiled (textOf col cr rows ++ endOf cr)).inside y hy; omega
    have hsl : (splitL (textOf col cr rows ++ endOf cr)).length ≤ 1001 := by have := splitFrom_len (textOf col cr rows ++ endOf cr) ((textOf col cr rows ++ endOf cr).length + 1) (bomAt (textOf col cr rows ++ endOf cr)); unfold splitL; omega
    have e0 : (if 0 > p then 0 else p) = ((p.toNat : Nat) : Int) := by split <;> omega
    have ew : IntKind.i64.wrap ((col : Int) - (if 0 > p then 0 else p)) = ((col - p.toNat : Nat) : Int) := by rw [e0, wrap_i64 (by omega) (by omega)]; omega
    have b1 := D_Body _ (by omega) _ (by omega) hin 0 (by omega) p hp (by omega) false false false (col - p.toNat) (by omega)
    have b2 := D_Body _ (by omega) _ (by omega) hin 0 (by omega) p hp (by omega) false false false 0 (by omega)
    rw [body_written col hcol cr rows (fun t ht => (hok t ht).1) hne hfirst p (col - p.toNat) (.inl ⟨by omega, by omega⟩)] at b1
    rw [body_written col hcol cr rows (fun t ht => (hok t ht).1) hne hfirst p 0 (.inr ⟨rfl, by omega⟩)] at b2
    have z0 : ((0 : Nat) : Int) = 0 := rfl
    rw [z0] at b1 b2
    rw [ew, b1, b2]
    have es := D_SameString rows rows (by omega)
    simp only [Option.bind_some, asRIBT_av, cond_true, beq_self_eq_true, htk, es, decide_true, asB_b, D_wakes07]

theorem D_FoldBlocks (ws : List (List UInt8)) (v u : Int) (cr : Bool) : D id_law07FoldBlocks [.row 1 (ws.map AV.str), .int .i64 v, .int .i64 u, .bool cr] = some ⟨.bool true, false, []⟩ := by
  refine den_fn (N := 20) (F := law07FoldBlocks) rfl rfl ?_
  rw [law07FoldBlocks_eq]
  show law07FoldBlocksr D 20 _ v u cr = _
  unfold law07FoldBlocksr
  rw [D_Within v 5 (by omega) (by omega), D_Within u 3 (by omega) (by omega)]
  have g0 := Int.emod_nonneg v (b := 5) (by omega)
  have g1 := Int.emod_lt_of_pos v (b := 5) (by omega)
  have g2 := Int.emod_nonneg u (b := 3) (by omega)
  have g3 := Int.emod_lt_of_pos u (b := 3) (by omega)
  generalize v % 5 = a at g0 g1
  generalize u % 3 = c at g2 g3
  simp only [Option.bind_some, asI_i]
  have wa : IntKind.i64.wrap (a - 1) = a - 1 := wrap_i64 (by omega) (by omega)
  have em : (if 0 > a - 1 then 0 else a - 1) = (((a - 1).toNat : Nat) : Int) := by split <;> omega
  obtain ⟨col, hcol⟩ : ∃ col : Nat, IntKind.i64.wrap ((IntKind.i64.wrap ((if 0 > (IntKind.i64.wrap (a - 1)) then 0 else (IntKind.i64.wrap (a - 1))) + 1)) + c) = col ∧ col = (a - 1).toNat + 1 + c.toNat := by
    refine ⟨(a - 1).toNat + 1 + c.toNat, ?_, rfl⟩
    rw [wa, em, wrap_i64 (x := (((a - 1).toNat : Nat) : Int) + 1) (by omega) (by omega), wrap_i64 (by omega) (by omega)]; omega
  rw [hcol.1, wa]
  have hc2 := hcol.2
  have fin : ∀ br : List UInt8, br = brk2 cr → law07FoldBlocks_L1 D 20
      (fun l5 i12 i13 s7 s8 => law07FoldBlocks_L2 D 20 (fun i47 i48 s51 s52 l26 => blocksFin s51 s52 i47 i48 l26) 20 l5 i12 i13 s7 s8 ([] : List UInt8) 0 [])
      20 (ws.map AV.str) (a - 1) (col : Nat) br ([] : List UInt8) 0 = some ⟨.bool true, false, []⟩ := by
    rintro br rfl
    refine (blocks_in 20 _ (ws.map AV.str) (a - 1) (brk2 cr) col (by omega) 20 0 [] (by omega) (by omega) (by simp)).trans ?_
    obtain ⟨rows, r1, r2, r3, r4, r5⟩ := blocks_rows 20 (by omega) (fun i47 i48 s51 s52 l26 => blocksFin s51 s52 i47 i48 l26) ws (a - 1) col (by omega) (by omega) cr 20 0 [] (by omega) (by omega) rfl (fun t ht => by cases ht) (by simp) (.inl rfl)
    rw [List.nil_append, Nat.sub_zero]
    refine Eq.trans r5 ?_
    exact blocks_fin col (by omega) (by omega) cr (a - 1) (by omega) (by omega) (by omega) rows r1 r2 r3 r4
  cases cr
  · exact fin [10] rfl
  · exact fin [13, 10] rfl
end Go.Proofs.YtpjpmfchcijikaaDoor.Vf
