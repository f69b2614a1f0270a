
/- The laws of chapter 10: props are told and put as the document says; put, they are taken as they were; how long they may be; what an alias is. -/
import Derived.Test.YtmpjohnbddnehaaDoorVfPropsB
namespace Go.Proofs.YtmpjohnbddnehaaDoor.Vf
set_option linter.unusedVariables false
set_option linter.unusedSimpArgs false

def pieces10 : List (List UInt8) := [[38, 97], [38, 98, 45, 49], [33], [33, 120], [33, 33, 115, 116, 114], [33, 33], [38], [32], [32], [32, 32], [120], [42, 97], [42], [44], [38, 97, 33], [33, 97, 38]]
theorem piece10 (j : Nat) (h : j < 16) : (pieces10.map AV.str)[j]? = some (.str (pieces10.getD j [])) ∧ (pieces10.getD j []).length ≤ 5 := by
  have : ∀ j, j < 16 → (pieces10.getD j []).length ≤ 5 := by decide
  refine ⟨?_, this j h⟩
  rw [List.getElem?_map, List.getD_eq_getElem?_getD]
  have : j < pieces10.length := h
  rw [List.getElem?_eq_getElem this]; rfl

theorem text10_loop (zs : List Int) (N : Nat) (k0 : List UInt8 → Option Res) : ∀ (n i : Nat) (t : List UInt8), 8 ≤ n + i → i ≤ 7 → t.length ≤ 5 * i →
    ∃ t' : List UInt8, t'.length ≤ 40 ∧ law10Text_L1 D N k0 n (zs.map (AV.int .i64)) (pieces10.map AV.str) t i = k0 t' := by
  intro n
  induction n with
  | zero => intro i t h h7 _; omega
  | succ n ih =>
    intro i t h h7 ht
    simp only [law10Text_L1, law10Text_L1s, List.length_map]
    by_cases hlt : i < zs.length
    · rw [cond_d (by omega)]
      by_cases hl7 : i < 7
      · rw [cond_d (by omega), need_d (by omega)]
        simp only [Int.toNat_natCast]
        have e1 : (zs.map (AV.int .i64))[i]? = some (.int .i64 zs[i]) := by rw [List.getElem?_map, List.getElem?_eq_getElem hlt]; rfl
        rw [e1, show ((pieces10.length : Nat) : Int) = 16 from rfl]
        simp only [Option.bind_some, asI_i]
        rw [D_Within _ 16 (by omega) (by omega)]
        simp only [Option.bind_some, asI_i]
        obtain ⟨j, hj, ej⟩ : ∃ j : Nat, j < 16 ∧ zs[i] % 16 = (j : Int) := ⟨(zs[i] % 16).toNat, by omega, by omega⟩
        rw [ej, need_d (by omega)]
        simp only [Int.toNat_natCast]
        obtain ⟨e2, e3⟩ := piece10 j hj
        rw [e2]
        simp only [Option.bind_some, asS_s]
        rw [need_d (by omega), wrap_i64 (by omega) (by omega), show (i : Int) + 1 = ((i + 1 : Nat) : Int) by omega]
        exact ih (i + 1) _ (by omega) (by omega) (by rw [List.length_append]; omega)
      · rw [cond_nd (by omega)]
        exact ⟨t, by omega, rfl⟩
    · rw [cond_nd (by omega)]
      exact ⟨t, by omega, rfl⟩
theorem D_text10 (s : List UInt8) (zs : List Int) (raw : Bool) : ∃ t : List UInt8, t.length ≤ 40 ∧ D id_law10Text [.str s, .row 1 (zs.map (AV.int .i64)), .bool raw] = some ⟨.str t, false, []⟩ := by
  cases raw
  · obtain ⟨t', h, e⟩ := text10_loop zs 100 (fun s7 => some ⟨.str s7, false, []⟩) 100 0 [] (by omega) (by omega) (by simp)
    refine ⟨t', h, den_fn (N := 100) (F := law10Text) rfl rfl ?_⟩
    rw [law10Text_eq]
    exact e
  · refine ⟨s.take 40, by rw [List.length_take]; omega, den_fn (N := 0) (F := law10Text) rfl rfl ?_⟩
    rw [law10Text_eq]
    show law10Textr D 0 s _ true = _
    unfold law10Textr
    rw [show (40 : Int) = ((40 : Nat) : Int) from rfl, cond_true, D_Text _ 40 (by omega)]
    rfl

theorem D_PropsTell (s : List UInt8) (zs : List Int) (raw : Bool) (anchor tag : List UInt8) : D id_law10PropsTell [.str s, .row 1 (zs.map (AV.int .i64)), .bool raw, .str anchor, .str tag] = some ⟨.bool true, false, []⟩ := by
  refine den_fn (N := 0) (F := law10PropsTell) rfl rfl ?_
  rw [law10PropsTell_eq]
  show law10PropsTellr D 0 s _ raw anchor tag = _
  unfold law10PropsTellr
  obtain ⟨t, ht, e⟩ := D_text10 s zs raw
  have ha : (anchor.take 10).length ≤ 10 := by rw [List.length_take]; omega
  have htg : (tag.take 10).length ≤ 10 := by rw [List.length_take]; omega
  rw [e]
  simp only [Option.bind_some, asS_s]
  rw [D_Lend t (by omega)]
  simp only [Option.bind_some, asL_l]
  rw [D_Take t (by omega), D_refTakeProps t (by omega), D_TakeAlias t (by omega), D_refTakeAlias t (by omega), show (10 : Int) = ((10 : Nat) : Int) from rfl, D_Text _ 10 (by omega), D_Text _ 10 (by omega),
    D_ValidTag t (by omega), D_refValidTag t (by omega)]
  simp only [Option.bind_some, asAIBT, asSIBT, asT_t, asC_c, asA_a, asS_s, asI_i, asB_b, asN_n]
  rw [D_Put _ _ (by omega) (by omega), D_refPut _ _ (by omega) (by omega), D_Intact _ _ (by omega), D_wakes10]
  simp [asS, asB]

theorem wlen_tail (T : List UInt8) : ∀ l : List UInt8, wlen (l ++ 32 :: T) = wlen l
  | [] => by simp [wlen]
  | c :: r => by simp only [List.cons_append, wlen, wlen_tail T r]
theorem lead_tail (T : List UInt8) : ∀ l : List UInt8, lead l < l.length → lead (l ++ 32 :: T) = lead l
  | [], h => by simp at h
  | c :: r, h => by
    simp only [List.cons_append, lead] at h ⊢
    by_cases hc : c.toNat = 32
    · rw [if_pos hc] at h ⊢; rw [if_pos hc, lead_tail T r (by simp at h; omega)]
    · rw [if_neg hc, if_neg hc]
def plainTail (T : List UInt8) : Prop := (T.getD 0 0).toNat ≠ 38 ∧ (T.getD 0 0).toNat ≠ 33 ∧ (T.getD 0 0).toNat ≠ 32
theorem lead_plain {T : List UInt8} (h : plainTail T) : lead T = 0 := by
  cases T with
  | nil => rfl
  | cons c r => have := h.2.2; simp only [List.getD_cons_zero] at this; simp only [lead]; rw [if_neg this]
theorem takeL_nil (f x i : Nat) (t a : List UInt8) : takeL f [] x i t a = (t, a, x, true) := by
  cases f with
  | zero => rfl
  | succ f => simp [takeL]
theorem takeL_tail {T : List UInt8} (hT : plainTail T) : ∀ (f g : Nat) (l : List UInt8) (x i : Nat) (t a t' a' : List UInt8), l.length < f → l.length + T.length + 1 < g → x ≤ i → l ≠ [] → takeL f l x i t a = (t', a', i + l.length, true) → takeL g (l ++ 32 :: T) x i t a = (t', a', i + l.length, true) := by
  intro f
  induction f with
  | zero => intro g l x i t a t' a' h; omega
  | succ f ih =>
    intro g l x i t a t' a' h hg hx hne heq
    obtain ⟨g, rfl⟩ : ∃ k, g = k + 1 := ⟨g - 1, by omega⟩
    have hlen := length_pos_of hne
    have hg0 : (l ++ 32 :: T).getD 0 0 = l.getD 0 0 := by obtain ⟨c, r, rfl⟩ := List.exists_cons_of_ne_nil hne; rfl
    simp only [takeL, hg0, wlen_tail] at heq ⊢
    by_cases hc : (l.getD 0 0).toNat = 38 ∨ (l.getD 0 0).toNat = 33
    · rw [if_pos hc] at heq ⊢
      have hwl := wlen_le l
      have hw1 : 1 ≤ wlen l := by
        obtain ⟨c, r, rfl⟩ := List.exists_cons_of_ne_nil hne
        exact wlen_pos (by simp only [List.getD_cons_zero] at hc; omega)
      rw [List.take_append_of_le_length hwl, List.drop_append_of_le_length hwl]
      cases hadd : addP t a (l.take (wlen l)) with
      | none => rw [hadd] at heq; simp at heq
      | some ta =>
        rw [hadd] at heq
        obtain ⟨t1, a1⟩ := ta
        simp only at heq ⊢
        by_cases hR : l.drop (wlen l) = []
        · have hwe : wlen l = l.length := by have := congrArg List.length hR; simp at this; omega
          rw [hR] at heq ⊢
          simp only [List.nil_append, lead, show (32 : UInt8).toNat = 32 from rfl, if_true, lead_plain hT, List.drop_nil] at heq ⊢
          rw [takeL_nil] at heq
          obtain ⟨g, rfl⟩ : ∃ k, g = k + 1 := ⟨g - 1, by omega⟩
          simp only [takeL, List.drop_succ_cons, List.drop_zero] at heq ⊢
          rw [if_neg (fun h => h.elim hT.1 hT.2.1)]
          simp only [Prod.mk.injEq, and_true] at heq
          obtain ⟨rfl, rfl, _⟩ := heq
          rw [hwe]
        · have hRl : (l.drop (wlen l)).length = l.length - wlen l := List.length_drop
          have hRp := length_pos_of hR
          have hle := lead_le (l.drop (wlen l))
          by_cases hlt : lead (l.drop (wlen l)) < (l.drop (wlen l)).length
          · rw [lead_tail T _ hlt, List.drop_append_of_le_length (by omega)]
            have hRR : ((l.drop (wlen l)).drop (lead (l.drop (wlen l)))).length = (l.drop (wlen l)).length - lead (l.drop (wlen l)) := List.length_drop
            have e : i + l.length = i + wlen l + lead (l.drop (wlen l)) + ((l.drop (wlen l)).drop (lead (l.drop (wlen l)))).length := by omega
            rw [e] at heq ⊢
            exact ih _ _ _ _ _ _ _ _ (by omega) (by omega) (by omega) (fun h => by rw [h] at hRR; simp at hRR; omega) heq
          · exfalso
            have hdn : (l.drop (wlen l)).drop (lead (l.drop (wlen l))) = [] := List.drop_eq_nil_of_le (by omega)
            rw [hdn, takeL_nil] at heq
            simp only [Prod.mk.injEq, and_true] at heq
            omega
    · rw [if_neg hc] at heq
      simp only [Prod.mk.injEq, and_true] at heq
      omega
theorem takeP_tail {T S t a : List UInt8} (hT : plainTail T) (hS : S ≠ []) (h : takeP S = (t, a, S.length, true)) : takeP ((S ++ [32]) ++ T) = (t, a, S.length, true) := by
  unfold takeP at *
  rw [List.append_assoc, List.singleton_append]
  have := takeL_tail hT (S.length + 1) ((S ++ 32 :: T).length + 1) S 0 0 [] [] t a (by omega) (by simp) (Nat.le_refl 0) hS (by rw [Nat.zero_add]; exact h)
  rwa [Nat.zero_add] at this

def tags10 : List (List UInt8) := [[], [33], [33, 120], [33, 33, 115, 116, 114], [33, 33, 109, 97, 112]]
def anchor10 : List UInt8 := [97, 110, 99, 104, 111, 114, 45, 49, 95, 120]
theorem tag10 (j : Nat) (h : j < 5) : ([AV.str [], AV.str [33], AV.str [33, 120], AV.str [33, 33, 115, 116, 114], AV.str [33, 33, 109, 97, 112]] : List AV)[j]? = some (.str (tags10.getD j [])) := by
  obtain rfl | rfl | rfl | rfl | rfl : j = 0 ∨ j = 1 ∨ j = 2 ∨ j = 3 ∨ j = 4 := by omega
  all_goals rfl
theorem put10F : ∀ k : Fin 11, ∀ j : Fin 5, takeP (putP (tags10.getD j.1 []) (anchor10.take k.1)) = (tags10.getD j.1 [], anchor10.take k.1, (putP (tags10.getD j.1 []) (anchor10.take k.1)).length, true) := by decide +kernel
theorem put10 (k : Nat) (hk : k < 11) (j : Nat) (hj : j < 5) : takeP (putP (tags10.getD j []) (anchor10.take k)) = (tags10.getD j [], anchor10.take k, (putP (tags10.getD j []) (anchor10.take k)).length, true) := put10F ⟨k, hk⟩ ⟨j, hj⟩
theorem turn10F : ∀ k : Fin 11, ∀ j : Fin 5, anchor10.take k.1 ≠ [] → tags10.getD j.1 [] ≠ [] → takeP ((tags10.getD j.1 [] ++ [32, 32, 38]) ++ anchor10.take k.1) = (tags10.getD j.1 [], anchor10.take k.1, ((tags10.getD j.1 [] ++ [32, 32, 38]) ++ anchor10.take k.1).length, true) := by decide +kernel
theorem turn10 (k : Nat) (hk : k < 11) (j : Nat) (hj : j < 5) : anchor10.take k ≠ [] → tags10.getD j [] ≠ [] → takeP ((tags10.getD j [] ++ [32, 32, 38]) ++ anchor10.take k) = (tags10.getD j [], anchor10.take k, ((tags10.getD j [] ++ [32, 32, 38]) ++ anchor10.take k).length, true) := turn10F ⟨k, hk⟩ ⟨j, hj⟩
theorem putP_nil {t a : List UInt8} (h : putP t a = []) : t = [] ∧ a = [] := by
  unfold putP at h
  split at h
  · rename_i ha; exact ⟨h, ha⟩
  · split at h <;> simp at h
theorem putP_len (t a : List UInt8) : (putP t a).length ≤ t.length + a.length + 2 := by
  unfold putP
  split
  · omega
  · split <;> simp <;> omega

theorem back_fin (S T A Tl : List UInt8) (hS : takeP S = (T, A, S.length, true)) (hl : S.length ≤ 1000) (hTl : Tl.length ≤ 1000) (hp : plainTail Tl) :
    (need (decide (S.length + (([32] : List UInt8) : List UInt8).length ≤ 9223372036854775807)) <|
      need (decide ((S ++ ([32] : List UInt8)).length + Tl.length ≤ 9223372036854775807)) <|
      (D id_propsTake [AV.bytes ((S ++ ([32] : List UInt8)) ++ Tl)]).bind fun r27 =>
      asAIBT r27.v fun s27 s28 i15 b22 =>
      (D id_propsTake [AV.bytes S]).bind fun r28 =>
      asAIBT r28.v fun s29 s30 i16 b23 =>
      bif S == ([] : List UInt8) then
        (bif b23 then
          (bif (i16 : Int) == 0 then
            (bif (s29 == T) && ((s30 == A) && (true)) then
              ((D id_law10Wakes []).bind fun r29 =>
              asB r29.v fun b24 =>
              some (⟨AV.bool b24, false, []⟩ : Res))
            else
              some ⟨AV.bool false, false, []⟩)
          else
            some ⟨AV.bool false, false, []⟩)
        else
          some ⟨AV.bool false, false, []⟩)
      else
        bif b22 then
          (bif b23 then
            (bif (s27 == T) && ((s28 == A) && (true)) then
              (bif (s29 == T) && ((s30 == A) && (true)) then
                (bif (i15 : Int) == ((S.length : Nat) : Int) then
                  (bif (i16 : Int) == ((S.length : Nat) : Int) then
                    ((D id_law10Wakes []).bind fun r30 =>
                    asB r30.v fun b25 =>
                    some ⟨AV.bool b25, false, []⟩)
                  else
                    some ⟨AV.bool false, false, []⟩)
                else
                  some ⟨AV.bool false, false, []⟩)
              else
                some ⟨AV.bool false, false, []⟩)
            else
              some ⟨AV.bool false, false, []⟩)
          else
            some ⟨AV.bool false, false, []⟩)
        else
          some ⟨AV.bool false, false, []⟩) = some ⟨.bool true, false, []⟩ := by
  rw [need_d (by simp; omega), need_d (by simp; omega), D_Take _ (by simp; omega), D_Take S (by omega), D_wakes10, hS]
  simp only [Option.bind_some, asAIBT, asSIBT, asT_t, asC_c, asA_a, asS_s, asI_i, asB_b, asN_n]
  cases hn : (S == ([] : List UInt8))
  · have hne : S ≠ [] := fun e => by subst e; simp at hn
    rw [takeP_tail hp hne hS]
    simp
  · have : S = [] := by simpa using hn
    subst this
    simp

theorem back_tail (S T A d : List UInt8) (hS : takeP S = (T, A, S.length, true)) (hl : S.length ≤ 1000) (hd : d.length ≤ 10) :
    (bif decide ((((d.length : Nat) : Int) : Int) > 0) then
        (need (decide (0 ≤ (0 : Int))) <|
        (d[Int.toNat 0]?).bind fun c4 =>
        bif ((c4.toNat : Int) : Int) == 38 then
          (need (decide ((([120] : List UInt8) : List UInt8).length + d.length ≤ 9223372036854775807)) <|
          need (decide (S.length + (([32] : List UInt8) : List UInt8).length ≤ 9223372036854775807)) <|
          need (decide ((S ++ ([32] : List UInt8)).length + (([120] : List UInt8) ++ d : List UInt8).length ≤ 9223372036854775807)) <|
          (D id_propsTake [AV.bytes ((S ++ ([32] : List UInt8)) ++ (([120] : List UInt8) ++ d))]).bind fun r27 =>
          asAIBT r27.v fun s27 s28 i15 b22 =>
          (D id_propsTake [AV.bytes S]).bind fun r28 =>
          asAIBT r28.v fun s29 s30 i16 b23 =>
          bif S == ([] : List UInt8) then
            (bif b23 then
              (bif (i16 : Int) == 0 then
                (bif (s29 == T) && ((s30 == A) && (true)) then
                  ((D id_law10Wakes []).bind fun r29 =>
                  asB r29.v fun b24 =>
                  some ⟨AV.bool b24, false, []⟩)
                else
                  some ⟨AV.bool false, false, []⟩)
              else
                some ⟨AV.bool false, false, []⟩)
            else
              some ⟨AV.bool false, false, []⟩)
          else
            bif b22 then
              (bif b23 then
                (bif (s27 == T) && ((s28 == A) && (true)) then
                  (bif (s29 == T) && ((s30 == A) && (true)) then
                    (bif (i15 : Int) == ((S.length : Nat) : Int) then
                      (bif (i16 : Int) == ((S.length : Nat) : Int) then
                        ((D id_law10Wakes []).bind fun r30 =>
                        asB r30.v fun b25 =>
                        some ⟨AV.bool b25, false, []⟩)
                      else
                        some ⟨AV.bool false, false, []⟩)
                    else
                      some ⟨AV.bool false, false, []⟩)
                  else
                    some ⟨AV.bool false, false, []⟩)
                else
                  some ⟨AV.bool false, false, []⟩)
              else
                some ⟨AV.bool false, false, []⟩)
            else
              some ⟨AV.bool false, false, []⟩)
        else
          need (decide (0 ≤ (0 : Int))) <|
          (d[Int.toNat 0]?).bind fun c5 =>
          bif ((c5.toNat : Int) : Int) == 33 then
            (need (decide ((([120] : List UInt8) : List UInt8).length + d.length ≤ 9223372036854775807)) <|
            need (decide (S.length + (([32] : List UInt8) : List UInt8).length ≤ 9223372036854775807)) <|
            need (decide ((S ++ ([32] : List UInt8)).length + (([120] : List UInt8) ++ d : List UInt8).length ≤ 9223372036854775807)) <|
            (D id_propsTake [AV.bytes ((S ++ ([32] : List UInt8)) ++ (([120] : List UInt8) ++ d))]).bind fun r31 =>
            asAIBT r31.v fun s31 s32 i17 b26 =>
            (D id_propsTake [AV.bytes S]).bind fun r32 =>
            asAIBT r32.v fun s33 s34 i18 b27 =>
            bif S == ([] : List UInt8) then
              (bif b27 then
                (bif (i18 : Int) == 0 then
                  (bif (s33 == T) && ((s34 == A) && (true)) then
                    ((D id_law10Wakes []).bind fun r33 =>
                    asB r33.v fun b28 =>
                    some ⟨AV.bool b28, false, []⟩)
                  else
                    some ⟨AV.bool false, false, []⟩)
                else
                  some ⟨AV.bool false, false, []⟩)
              else
                some ⟨AV.bool false, false, []⟩)
            else
              bif b26 then
                (bif b27 then
                  (bif (s31 == T) && ((s32 == A) && (true)) then
                    (bif (s33 == T) && ((s34 == A) && (true)) then
                      (bif (i17 : Int) == ((S.length : Nat) : Int) then
                        (bif (i18 : Int) == ((S.length : Nat) : Int) then
                          ((D id_law10Wakes []).bind fun r34 =>
                          asB r34.v fun b29 =>
                          some ⟨AV.bool b29, false, []⟩)
                        else
                          some ⟨AV.bool false, false, []⟩)
                      else
                        some ⟨AV.bool false, false, []⟩)
                    else
                      some ⟨AV.bool false, false, []⟩)
                  else
                    some ⟨AV.bool false, false, []⟩)
                else
                  some ⟨AV.bool false, false, []⟩)
              else
                some ⟨AV.bool false, false, []⟩)
          else
            need (decide (0 ≤ (0 : Int))) <|
            (d[Int.toNat 0]?).bind fun c6 =>
            bif ((c6.toNat : Int) : Int) == 32 then
              (need (decide ((([120] : List UInt8) : List UInt8).length + d.length ≤ 9223372036854775807)) <|
              need (decide (S.length + (([32] : List UInt8) : List UInt8).length ≤ 9223372036854775807)) <|
              need (decide ((S ++ ([32] : List UInt8)).length + (([120] : List UInt8) ++ d : List UInt8).length ≤ 9223372036854775807)) <|
              (D id_propsTake [AV.bytes ((S ++ ([32] : List UInt8)) ++ (([120] : List UInt8) ++ d))]).bind fun r35 =>
              asAIBT r35.v fun s35 s36 i19 b30 =>
              (D id_propsTake [AV.bytes S]).bind fun r36 =>
              asAIBT r36.v fun s37 s38 i20 b31 =>
              bif S == ([] : List UInt8) then
                (bif b31 then
                  (bif (i20 : Int) == 0 then
                    (bif (s37 == T) && ((s38 == A) && (true)) then
                      ((D id_law10Wakes []).bind fun r37 =>
                      asB r37.v fun b32 =>
                      some ⟨AV.bool b32, false, []⟩)
                    else
                      some ⟨AV.bool false, false, []⟩)
                  else
                    some ⟨AV.bool false, false, []⟩)
                else
                  some ⟨AV.bool false, false, []⟩)
              else
                bif b30 then
                  (bif b31 then
                    (bif (s35 == T) && ((s36 == A) && (true)) then
                      (bif (s37 == T) && ((s38 == A) && (true)) then
                        (bif (i19 : Int) == ((S.length : Nat) : Int) then
                          (bif (i20 : Int) == ((S.length : Nat) : Int) then
                            ((D id_law10Wakes []).bind fun r38 =>
                            asB r38.v fun b33 =>
                            some ⟨AV.bool b33, false, []⟩)
                          else
                            some ⟨AV.bool false, false, []⟩)
                        else
                          some ⟨AV.bool false, false, []⟩)
                      else
                        some ⟨AV.bool false, false, []⟩)
                    else
                      some ⟨AV.bool false, false, []⟩)
                  else
                    some ⟨AV.bool false, false, []⟩)
                else
                  some ⟨AV.bool false, false, []⟩)
            else
              need (decide (S.length + (([32] : List UInt8) : List UInt8).length ≤ 9223372036854775807)) <|
              need (decide ((S ++ ([32] : List UInt8)).length + d.length ≤ 9223372036854775807)) <|
              (D id_propsTake [AV.bytes ((S ++ ([32] : List UInt8)) ++ d)]).bind fun r39 =>
              asAIBT r39.v fun s39 s40 i21 b34 =>
              (D id_propsTake [AV.bytes S]).bind fun r40 =>
              asAIBT r40.v fun s41 s42 i22 b35 =>
              bif S == ([] : List UInt8) then
                (bif b35 then
                  (bif (i22 : Int) == 0 then
                    (bif (s41 == T) && ((s42 == A) && (true)) then
                      ((D id_law10Wakes []).bind fun r41 =>
                      asB r41.v fun b36 =>
                      some ⟨AV.bool b36, false, []⟩)
                    else
                      some ⟨AV.bool false, false, []⟩)
                  else
                    some ⟨AV.bool false, false, []⟩)
                else
                  some ⟨AV.bool false, false, []⟩)
              else
                bif b34 then
                  (bif b35 then
                    (bif (s39 == T) && ((s40 == A) && (true)) then
                      (bif (s41 == T) && ((s42 == A) && (true)) then
                        (bif (i21 : Int) == ((S.length : Nat) : Int) then
                          (bif (i22 : Int) == ((S.length : Nat) : Int) then
                            ((D id_law10Wakes []).bind fun r42 =>
                            asB r42.v fun b37 =>
                            some ⟨AV.bool b37, false, []⟩)
                          else
                            some ⟨AV.bool false, false, []⟩)
                        else
                          some ⟨AV.bool false, false, []⟩)
                      else
                        some ⟨AV.bool false, false, []⟩)
                    else
                      some ⟨AV.bool false, false, []⟩)
                  else
                    some ⟨AV.bool false, false, []⟩)
                else
                  some ⟨AV.bool false, false, []⟩)
      else
        need (decide (S.length + (([32] : List UInt8) : List UInt8).length ≤ 9223372036854775807)) <|
        need (decide ((S ++ ([32] : List UInt8)).length + d.length ≤ 9223372036854775807)) <|
        (D id_propsTake [AV.bytes ((S ++ ([32] : List UInt8)) ++ d)]).bind fun r43 =>
        asAIBT r43.v fun s43 s44 i23 b38 =>
        (D id_propsTake [AV.bytes S]).bind fun r44 =>
        asAIBT r44.v fun s45 s46 i24 b39 =>
        bif S == ([] : List UInt8) then
          (bif b39 then
            (bif (i24 : Int) == 0 then
              (bif (s45 == T) && ((s46 == A) && (true)) then
                ((D id_law10Wakes []).bind fun r45 =>
                asB r45.v fun b40 =>
                some ⟨AV.bool b40, false, []⟩)
              else
                some ⟨AV.bool false, false, []⟩)
            else
              some ⟨AV.bool false, false, []⟩)
          else
            some ⟨AV.bool false, false, []⟩)
        else
          bif b38 then
            (bif b39 then
              (bif (s43 == T) && ((s44 == A) && (true)) then
                (bif (s45 == T) && ((s46 == A) && (true)) then
                  (bif (i23 : Int) == ((S.length : Nat) : Int) then
                    (bif (i24 : Int) == ((S.length : Nat) : Int) then
                      ((D id_law10Wakes []).bind fun r46 =>
                      asB r46.v fun b41 =>
                      some ⟨AV.bool b41, false, []⟩)
                    else
                      some ⟨AV.bool false, false, []⟩)
                  else
                    some ⟨AV.bool false, false, []⟩)
                else
                  some ⟨AV.bool false, false, []⟩)
              else
                some ⟨AV.bool false, false, []⟩)
            else
              some ⟨AV.bool false, false, []⟩)
          else
            some ⟨AV.bool false, false, []⟩ : Option Res) = some ⟨.bool true, false, []⟩ := by
  have fin := fun Tl h => back_fin S T A Tl hS hl h
  have p0 : plainTail ([] : List UInt8) := by refine ⟨?_, ?_, ?_⟩ <;> decide
  have px : ∀ l : List UInt8, plainTail ([120] ++ l) := fun l => ⟨show (120 : UInt8).toNat ≠ 38 by decide, show (120 : UInt8).toNat ≠ 33 by decide, show (120 : UInt8).toNat ≠ 32 by decide⟩
  cases d with
  | nil =>
    rw [cond_nd (by simp)]
    exact fin [] (by simp) p0
  | cons c r =>
    simp only [List.length_cons] at hd
    rw [cond_d (by simp only [List.length_cons]; omega)]
    simp only [need_d (show (0 : Int) ≤ 0 by omega), show Int.toNat 0 = 0 from rfl, List.getElem?_cons_zero, Option.bind_some]
    by_cases h1 : c.toNat = 38
    · rw [cond_eq (by omega), need_d (by simp; omega)]
      exact fin _ (by simp; omega) (px _)
    · rw [cond_ne (by omega)]
      by_cases h2 : c.toNat = 33
      · rw [cond_eq (by omega), need_d (by simp; omega)]
        exact fin _ (by simp; omega) (px _)
      · rw [cond_ne (by omega)]
        by_cases h3 : c.toNat = 32
        · rw [cond_eq (by omega), need_d (by simp; omega)]
          exact fin _ (by simp; omega) (px _)
        · rw [cond_ne (by omega)]
          exact fin _ (by simp; omega) ⟨h1, h2, h3⟩

theorem D_PropsBack (i1 i2 : Int) (b1 : Bool) (s1 : List UInt8) : D id_law10PropsBack [.int .i64 i1, .int .i64 i2, .bool b1, .str s1] = some ⟨.bool true, false, []⟩ := by
  refine den_fn (N := 0) (F := law10PropsBack) rfl rfl ?_
  rw [law10PropsBack_eq]
  show law10PropsBackr D 0 i1 i2 b1 s1 = _
  unfold law10PropsBackr
  rw [need_nd (by decide), D_Within i1 10 (by omega) (by omega), D_Within i2 5 (by omega) (by omega)]
  obtain ⟨j, hj, ej⟩ : ∃ j : Nat, j < 5 ∧ i2 % 5 = (j : Int) := ⟨(i2 % 5).toNat, by omega, by omega⟩
  obtain ⟨k, hk, ek⟩ : ∃ k : Nat, k < 10 ∧ i1 % 10 = (k : Int) := ⟨(i1 % 10).toNat, by omega, by omega⟩
  have hd : (s1.take 10).length ≤ 10 := by rw [List.length_take]; omega
  have hTj : (tags10.getD j []).length ≤ 5 := (show ∀ j, j < 5 → (tags10.getD j []).length ≤ 5 by decide) j hj
  have w1 : IntKind.i64.wrap (1 + (k : Int)) = ((k + 1 : Nat) : Int) := by rw [wrap_i64 (by omega) (by omega)]; omega
  have hAk : ∀ m : Nat, (anchor10.take m).length ≤ 10 := fun m => by rw [List.length_take]; exact Nat.min_le_right _ _
  have hp0 := fun m => putP_len (tags10.getD j []) (anchor10.take m)
  have ten : (10 : Int) = ((10 : Nat) : Int) := rfl
  simp only [Option.bind_some, asI_i, ej, ek, w1]
  have eT : D id_keepText [.str s1, .int .i64 10] = some ⟨.str (s1.take 10), false, []⟩ := D_Text s1 10 (by omega)
  have eA : ∀ m : Nat, m ≤ 10 → D id_keepText [.str [97, 110, 99, 104, 111, 114, 45, 49, 95, 120], .int .i64 (m : Nat)] = some ⟨.str (anchor10.take m), false, []⟩ := fun m hm => D_Text anchor10 m (by omega)
  have eP : ∀ m : Nat, D id_propsPut [.agg [.str (tags10.getD j []), .str (anchor10.take m)]] = some ⟨.str (putP (tags10.getD j []) (anchor10.take m)), false, []⟩ := fun m => by
    have := hAk m
    exact D_Put _ _ (by omega) (by omega)
  have eG := tag10 j hj
  have hput := fun m hm => put10 m hm j hj
  have hturn := fun m hm => turn10 m hm j hj
  generalize tags10.getD j [] = T at *
  by_cases h3 : Int.tmod i1 3 = 0
  · rw [cond_beq h3, need_d (by omega)]
    simp only [Int.toNat_natCast]
    rw [eG]
    simp only [Option.bind_some, asS_s]
    have e0 := eP 0
    have hS := hput 0 (by omega)
    have hl := hp0 0
    simp only [List.take_zero, List.length_nil] at e0 hS hl
    rw [e0]
    simp only [Option.bind_some, asS_s, eT, show (([] : List UInt8) == []) = true from rfl, Bool.not_true, cond_false]
    generalize putP T [] = S at *
    have fin := back_tail S T [] (s1.take 10) hS (by omega) hd
    cases b1 <;> exact fin
  · rw [cond_bne h3, eA (k + 1) (by omega)]
    simp only [Option.bind_some, asS_s]
    rw [need_d (by omega)]
    simp only [Int.toNat_natCast]
    rw [eG]
    simp only [Option.bind_some, asS_s]
    rw [eP (k + 1)]
    have hS := hput (k + 1) (by omega)
    have hU := hturn (k + 1) (by omega)
    have hl := hp0 (k + 1)
    have hAl := hAk (k + 1)
    generalize anchor10.take (k + 1) = A at *
    simp only [Option.bind_some, asS_s, eT]
    generalize putP T A = S at *
    have fin := back_tail S T A (s1.take 10) hS (by omega) hd
    cases b1
    · exact fin
    · cases hA : (A == ([] : List UInt8))
      · cases hT : (T == ([] : List UInt8))
        · simp only [Bool.not_false, cond_true]
          rw [need_d (by simp; omega), need_d (by simp; omega)]
          exact back_tail ((T ++ [32, 32, 38]) ++ A) T A (s1.take 10) (hU (fun e => by subst e; simp at hA) (fun e => by subst e; simp at hT)) (by simp; omega) hd
        · exact fin
      · exact fin
end Go.Proofs.YtmpjohnbddnehaaDoor.Vf
