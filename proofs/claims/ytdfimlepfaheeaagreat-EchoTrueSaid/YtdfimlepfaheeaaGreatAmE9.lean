/- AmE9: IT COMES TRUE: the law's run. -/
import Derived.Test.YtdfimlepfaheeaaGreatAmE8
set_option linter.unusedVariables false
set_option linter.unusedSimpArgs false
namespace Go.AM

theorem EchoTrue_bad {S : St} {cols : Int} {text ahead : Value} (hc : ¬ (1 ≤ cols ∧ cols ≤ 40)) : Ok (cs n_law35_EchoTrue [.int .i64 cols, text, ahead] S) fun q => q.1 = .bool true := by
  apply csOk is_law35_EchoTrue rfl rfl
  simp [funA_run, a_law35_EchoTrue]
  simp only [Ok_endR, Ok_seqR, Ok_blockR, Ok_opsR, Ok_runL, Ok_runPl, Ok_againR, Ok_putR, Ok_loopR]
  refine (term_New_bad hc).mono ?_
  rintro ⟨v, S2⟩ rfl
  by_cases h1 : cols < 1
  · simp [alive_hook, h1]
  · have h2 : 40 < cols := by omega
    simp [alive_hook, h1, h2]

/-- The blocks of a terminal. -/
def TBlock (T r p : Nat) (G : GL) (rows : Nat) (n : Nat) : Prop := n = T ∨ n = r ∨ n = p ∨ n = G.g ∨ n = G.L ∨ (∃ i, i < rows ∧ n = G.R i)
theorem TermAt.lt {S : St} {T r p : Nat} {G : GL} {cols rows row col : Nat} {cell : Nat → Nat → CV} (h : TermAt S T r p G cols rows row col cell) {n : Nat} (hn : TBlock T r p G rows n) : n < S.cnt ∧ S.base ≤ n := by
  obtain ⟨c, hg, hc⟩ := h.g
  rcases hn with rfl | rfl | rfl | rfl | rfl | ⟨i, hi, rfl⟩
  · exact ⟨hg.b.2, hg.b.1⟩
  · exact ⟨h.rb.2, h.rb.1⟩
  · exact ⟨h.pb.2, h.pb.1⟩
  · exact ⟨hg.grid.gb.2, hg.grid.gb.1⟩
  · exact ⟨hg.grid.lb.2, hg.grid.lb.1⟩
  · exact ⟨(hg.grid.rb i hi).2, (hg.grid.rb i hi).1⟩

set_option maxHeartbeats 4000000 in
set_option maxRecDepth 8000 in
theorem EchoTrue_good {S : St} (hw : S.base ≤ S.cnt) {cols : Nat} (hc : 1 ≤ cols ∧ cols ≤ 40) {text ahead : Value} {nt na : Nat} {tb ab : Nat → Int} (ht : Bytes S text nt tb) (ha : Bytes S ahead na ab) : Ok (cs n_law35_EchoTrue [.int .i64 cols, text, ahead] S) fun q => q.1 = .bool true := by
  have hkey : ∀ i, i < nt → 32 ≤ keyOf (tb i) ∧ keyOf (tb i) < 127 := fun i hi => keyOf_b (ht.byte i hi).1
  generalize hkk : (fun i => keyOf (tb i)) = key
  have hkey' : ∀ i, i < nt → 32 ≤ key i ∧ key i < 127 := by rw [← hkk]; exact hkey
  have hkeyi : ∀ i, keyOf (tb i) = key i := fun i => by rw [← hkk]
  apply csOk is_law35_EchoTrue rfl rfl
  simp [funA_run, a_law35_EchoTrue]
  simp only [Ok_endR, Ok_seqR, Ok_blockR, Ok_opsR, Ok_runL, Ok_runPl, Ok_againR, Ok_putR, Ok_loopR]
  refine (term_New (S := S) hw (rows := 2) ⟨by decide, by decide⟩ hc).mono ?_
  rintro ⟨v, S1⟩ ⟨T, r, p, G, rfl, hT1, hs1⟩
  dsimp only at hT1 hs1
  have b1 : S1.base = S.base := hs1.base
  have m1 := hs1.cnt
  have hw1 : S1.base ≤ S1.cnt := by omega
  simp
  simp only [Ok_endR, Ok_seqR, Ok_blockR, Ok_opsR, Ok_runL, Ok_runPl, Ok_againR, Ok_putR, Ok_loopR]
  refine (echo_New hw1 key).mono ?_
  rintro ⟨v, S2⟩ ⟨X, e, rfl, hE2, hX2, hs2⟩
  dsimp only at hE2 hs2
  have b2 : S2.base = S1.base := hs2.base
  have m2 := hs2.cnt
  have hT2 := hT1.stays hs2 (fun _ _ q => q)
  simp
  simp only [Ok_endR, Ok_seqR, Ok_blockR, Ok_opsR, Ok_runL, Ok_runPl, Ok_againR, Ok_putR, Ok_loopR]
  refine (reg_Of hT2 ⟨by decide, by decide⟩ hc).mono ?_
  rintro ⟨v, S3⟩ ⟨L3, rfl, hL3, n3, l3, hs3⟩
  dsimp only at hL3 l3 hs3
  have b3 : S3.base = S2.base := hs3.base
  have m3 := hs3.cnt
  have hw3 : S3.base ≤ S3.cnt := by omega
  rw [state2]
  have hs4 : Stays S3 (S3.push (.cells [.int .i64 2, .int .i64 cols, .slice (some ⟨L3, 0, none⟩) (2 * cols) capx, .int .i64 0, .int .i64 0, .bool true, .string .empty, .string .empty, .int .u64 0, .int .u64 0] t_reg_State 0 false)) (fun _ => False) := Stays.push hw3
  simp [hw3, putL]
  have hE4 := (hE2.stays hs3 (fun q => q) (fun _ q => q)).stays hs4 (fun q => q) (fun _ q => q)
  have hT4 := (hT2.stays hs3 (fun _ _ q => q)).stays hs4 (fun _ _ q => q)
  have gL4 := (hs4.get L3 l3 (fun q => q)).trans hL3
  have hX2' := hE2.b
  have hsee : Ok (cs n_echo_Echo_See [.pointer (some ⟨X, 0, none⟩), .agg #[.int .i64 2, .int .i64 cols, .slice (some ⟨L3, 0, none⟩) (2 * cols) capx, .int .i64 0, .int .i64 0, .bool true, .string .empty, .string .empty, .int .u64 0, .int .u64 0], .int .u64 0] (S3.push (.cells [.int .i64 2, .int .i64 cols, .slice (some ⟨L3, 0, none⟩) (2 * cols) capx, .int .i64 0, .int .i64 0, .bool true, .string .empty, .string .empty, .int .u64 0, .int .u64 0] t_reg_State 0 false))) _ :=
    echo_See (t := 0) (j := 0) hE4 (Nat.le_refl _) rfl hc (by omega) (n := L3) (Nat.lt_succ_of_lt l3) (by omega) gL4 (fun i _ => by rw [← cellF_0 key]; exact (cellF_ok (fun i hi => by omega) i).1) (fun i hi => by omega)
  have b4 : (S3.push (.cells [.int .i64 2, .int .i64 cols, .slice (some ⟨L3, 0, none⟩) (2 * cols) capx, .int .i64 0, .int .i64 0, .bool true, .string .empty, .string .empty, .int .u64 0, .int .u64 0] t_reg_State 0 false)).base = S.base := by rw [hs4.base]; omega
  have m4 := hs4.cnt
  have hs04 : Stays S1 (S3.push (.cells [.int .i64 2, .int .i64 cols, .slice (some ⟨L3, 0, none⟩) (2 * cols) capx, .int .i64 0, .int .i64 0, .bool true, .string .empty, .string .empty, .int .u64 0, .int .u64 0] t_reg_State 0 false)) (fun _ => False) := (hs2.trans hs3 (fun _ _ q => q)).trans hs4 (fun _ _ q => q)
  clear hs4
  generalize (S3.push (.cells [.int .i64 2, .int .i64 cols, .slice (some ⟨L3, 0, none⟩) (2 * cols) capx, .int .i64 0, .int .i64 0, .bool true, .string .empty, .string .empty, .int .u64 0, .int .u64 0] t_reg_State 0 false)) = S4 at hE4 hT4 gL4 hsee b4 m4 hs04 ⊢
  simp only [Ok_endR, Ok_seqR, Ok_blockR, Ok_opsR, Ok_runL, Ok_runPl, Ok_againR, Ok_putR, Ok_loopR]
  refine hsee.mono ?_
  rintro ⟨v, S5⟩ ⟨rfl, L5, C5, e5, hE5, hN5, nC5, nL5, hs5⟩
  dsimp only at hE5 hN5 hs5
  have m5 := hs5.cnt
  have b5 : S5.base = S.base := hs5.base.trans b4
  have hw5 : S5.base ≤ S5.cnt := by omega
  have hTX : ∀ n, TBlock T r p G 2 n → n < S1.cnt := fun n hn => (hT1.lt hn).1
  have hT5 := hT4.stays hs5 (fun n hn q => by have := hTX n hn; omega)
  have ht5 := (((ht.stays hw hs1 (fun _ _ q => q)).stays hw1 hs04 (fun _ _ q => q))).stays (by omega) hs5 (fun m hm q => by omega)
  have ha5 := (((ha.stays hw hs1 (fun _ _ q => q)).stays hw1 hs04 (fun _ _ q => q))).stays (by omega) hs5 (fun m hm q => by omega)
  simp
  obtain ⟨nk, hnk⟩ : ∃ nk, nk = min nt (cols - 1) := ⟨_, rfl⟩
  simp only [Ok_endR, Ok_seqR, Ok_blockR, Ok_opsR, Ok_runL, Ok_runPl, Ok_againR, Ok_putR, Ok_loopR]
  refine Ok.mono (Q := fun q => q.1 = .exit 0 ∧ ∃ K, q.2.1 0 = .int .i64 cols ∧ q.2.1 2 = ahead ∧ q.2.1 7 = .pointer (some ⟨T, 0, none⟩) ∧ q.2.1 9 = .pointer (some ⟨X, 0, none⟩) ∧ q.2.1 12 = slOf K nk ∧
    (0 < nk → q.2.2.get K = some (.cells (flat nk fun j => [.int .u8 (key j)]) t_uint8 1 false) ∧ q.2.2.base ≤ K ∧ K < q.2.2.cnt ∧ S5.cnt ≤ K) ∧ Stays S5 q.2.2 (fun _ => False)) (loop_ok (fun k ρ S6 => ∃ i K, k = nk - i ∧ i ≤ nk ∧ ρ 0 = .int .i64 cols ∧ ρ 1 = text ∧ ρ 2 = ahead ∧ ρ 7 = .pointer (some ⟨T, 0, none⟩) ∧ ρ 9 = .pointer (some ⟨X, 0, none⟩) ∧ ρ 12 = slOf K i ∧ ρ 13 = .int .i64 (i : Nat) ∧
    (0 < i → S6.get K = some (.cells (flat i fun j => [.int .u8 (key j)]) t_uint8 1 false) ∧ S6.base ≤ K ∧ K < S6.cnt ∧ S5.cnt ≤ K) ∧ Stays S5 S6 (fun _ => False)) ?_ (n := nk) ⟨0, 0, rfl, Nat.zero_le _, ?_⟩) ?_
  · rintro k ρ S6 ⟨i, K, rfl, hi, r0, r1, r2, r7, r9, r12, r13, q1, q2⟩
    have b6 : S6.base = S.base := q2.base.trans b5
    have m6 := q2.cnt
    have hw6 : S6.base ≤ S6.cnt := by omega
    have hw61 : S6.base ≤ S6.cnt + 1 := by omega
    have ht6 := ht5.stays hw5 q2 (fun _ _ q => q)
    have w1 : IntKind.wrap .i64 ((cols : Int) - 1) = cols - 1 := wrap64 (by omega) (by omega)
    by_cases hlt : i < nk
    · have l1 : (i : Int) < nt := by omega
      have l1' : i < nt := by omega
      have l2 : (i : Int) < cols - 1 := by omega
      obtain ⟨m, off, hix, hrw⟩ := ht6.idx l1'
      have hrem : (tb i).tmod 95 = key i - 32 := by have := hkeyi i; unfold keyOf at this; omega
      have w2 : IntKind.wrap .u8 (32 + (tb i).tmod 95) = key i := by rw [IntWalk.u8_in _ (by have := hkey' i l1'; omega)]; omega
      have hbs := buildSliceV_1 (S := S6) (v := .int .u8 (key i)) e_S_uint8 (by decide) rfl
      have hsP : Stays S6 (S6.push (.cells [.int .u8 (key i)] t_uint8 0 false)) (fun _ => False) := Stays.push hw6
      obtain ⟨S7, ha7, hg7, hn7, hb7, hk7⟩ := append_key (S5 := S6.push (.cells [.int .u8 (key i)] t_uint8 0 false)) (i := i) (K := K) (b := S6.cnt) (key := key) hw61 (by omega)
        (fun hp => by obtain ⟨a1, a2, a3, a4⟩ := q1 hp; exact ⟨by rw [hsP.get K a3 (fun q => q)]; exact a1, a2, Nat.lt_succ_of_lt a3⟩) (by rw [St.get_push _ _ _ hw6, if_pos rfl])
      simp only [St.push_cntQ] at ha7 hg7 hn7 hk7
      have w3 : IntKind.wrap .i64 ((i : Int) + 1) = i + 1 := wrap64 (by omega) (by omega)
      simp [r0, r1, r2, r7, r9, r12, r13, ht6.len, l1, l1', w1, l2, hix, hrw, w2, hbs, ha7, w3]
      refine ⟨nk - (i + 1), by omega, i + 1, rfl, by omega, S6.cnt + 1, (slOf_pos _ (by omega)).symm, by simp, fun _ => ⟨hg7, ?_, by omega, by omega⟩, ?_⟩
      · rw [hb7]; exact Nat.le_succ_of_le hw6
      · refine ⟨hb7.trans q2.base, by omega, fun x hx _ => ?_⟩
        rw [hk7 x (by omega) (fun hp => by have := (q1 hp).2.2.2; omega), hsP.get x (by omega) (fun q => q), q2.get x hx (fun q => q)]
    · have hie : i = nk := by omega
      subst hie
      by_cases l1' : i < nt
      · have l1 : (i : Int) < nt := by omega
        have l2 : ¬ (i : Int) < cols - 1 := by omega
        simp [r0, r1, r2, r7, r9, r12, r13, ht6.len, l1, l1', w1, l2]
        exact ⟨K, rfl, q1, q2⟩
      · have l1 : ¬ (i : Int) < nt := by omega
        simp [r0, r1, r2, r7, r9, r12, r13, ht6.len, l1, l1', w1]
        exact ⟨K, rfl, q1, q2⟩
  · simp [slOf_0]
    exact Stays.refl _ _
  · rintro ⟨x, ρ, S6⟩ ⟨rfl, K, r0, r2, r7, r9, r12, hK6, hs6⟩
    dsimp only at r0 r2 r7 r9 r12 hK6 hs6
    have b6 : S6.base = S.base := hs6.base.trans b5
    have m6 := hs6.cnt
    have hw6 : S6.base ≤ S6.cnt := by omega
    simp [r0, r2, r7, r9, r12]
    simp only [Ok_endR, Ok_seqR, Ok_blockR, Ok_opsR, Ok_runL, Ok_runPl, Ok_againR, Ok_putR, Ok_loopR]
    have hT6 := hT5.stays hs6 (fun _ _ q => q)
    have hE6 := hE5.stays hs6 (fun q => q) (fun _ q => q)
    refine Ok.mono (Q := fun q => q.1 = .exit 2) (loop_ok (fun k ρ S7 => ∃ (i took L : Nat) (e : Nat → Value), k = nk - i ∧ i ≤ nk ∧ took ≤ i ∧ ρ 2 = ahead ∧ ρ 7 = .pointer (some ⟨T, 0, none⟩) ∧ ρ 9 = .pointer (some ⟨X, 0, none⟩) ∧ ρ 12 = slOf K nk ∧ ρ 14 = .int .i64 (took : Nat) ∧ ρ 15 = .int .i64 (i : Nat) ∧
      TermAt S7 T r p G cols 2 0 took (cellF key took) ∧ EchoAt S7 X L e took (i - took) key ∧ e 2 = .int .i64 cols ∧ (0 < i - took → S1.cnt ≤ L) ∧ Stays S6 S7 (fun n => n = X ∨ TBlock T r p G 2 n)) ?_ (n := nk) ⟨0, 0, L5, e5, rfl, Nat.zero_le _, Nat.le_refl _, ?_⟩) ?_
    · rintro k ρ S7 ⟨i, took, L7, e7, rfl, hi, htk, r2, r7, r9, r12, r14, r15, hT7, hE7, he72, hL7, hs7⟩
      have b7 : S7.base = S.base := hs7.base.trans b6
      have m7 := hs7.cnt
      have hw7 : S7.base ≤ S7.cnt := by omega
      by_cases hlt : i < nk
      · obtain ⟨k1, k2, k3, k4⟩ := hK6 (by omega)
        have hil : (i : Int) < nk := by omega
        rw [slOf_pos K (by omega)] at r12
        have hX1 : S1.cnt ≤ X := hX2
        have hKX : K ≠ X := by have := hE5.b.2; omega
        have hKT : ¬ TBlock T r p G 2 K := fun q => by have := hTX K q; omega
        have gK7 := (hs7.get K k3 (by rintro (q | q); exact hKX q; exact hKT q)).trans k1
        have hik : took + (i - took) = i := by omega
        have hty := echo_Type (k := key i) (cap := capx) hE7 he72 hc.2 (by omega) (by have := hkey' i (by omega); omega) (by rw [hik]) (key_row gK7 hlt)
        have w1 : IntKind.wrap .i64 ((i : Int) + 1) = i + 1 := wrap64 (by omega) (by omega)
        simp [r2, r7, r9, r12, r14, r15, hil, hlt, w1, key_slice gK7 hlt]
        simp only [Ok_endR, Ok_seqR, Ok_blockR, Ok_opsR, Ok_runL, Ok_runPl, Ok_againR, Ok_putR, Ok_loopR]
        refine hty.mono ?_
        rintro ⟨v, S8⟩ ⟨rfl, L8, e8, hE8, he8, hL8, hs8⟩
        dsimp only at hE8 hs8
        have b8 : S8.base = S.base := hs8.base.trans b7
        have m8 := hs8.cnt
        have hw8 : S8.base ≤ S8.cnt := by omega
        have hq := echo_Quiet hE8
        have hT8 := hT7.stays hs8 (fun n hn q => by have := hTX n hn; omega)
        have gK8 := (hs8.get K (by omega) hKX).trans gK7
        have ha8 : Bytes S8 ahead na ab := ((ha5.stays hw5 hs6 (fun _ _ q => q)).stays hw6 hs7 (fun m hm q => by
          rcases q with q | q
          · omega
          · have := (hT1.lt q).2; omega)).stays hw7 hs8 (fun m hm q => by omega)
        simp [r2, r7, r9, r12, r14, r15, hq, ha8.len]
        refine ⟨fun hna => ?_, fun hna => ?_⟩
        · obtain ⟨mm, moff, hix, hrw⟩ := ha8.idx hna
          have w3 : IntKind.wrap .i64 (andI .u8 (ab i) 3) = andI .u8 (ab i) 3 := wrap64 (by have := andI_3 (ab i); omega) (by have := andI_3 (ab i); omega)
          simp [r2, r7, r9, r12, r14, r15, hix, hrw, convW_int u_uint8 u_int, w3]
          simp only [Ok_endR, Ok_seqR, Ok_blockR, Ok_opsR, Ok_runL, Ok_runPl, Ok_againR, Ok_putR, Ok_loopR]
          refine Ok.mono (Q := fun q => q.1 = .exit 4 ∧ ∃ tk : Nat, took ≤ tk ∧ tk ≤ i + 1 ∧ q.2.1 2 = ahead ∧ q.2.1 7 = .pointer (some ⟨T, 0, none⟩) ∧ q.2.1 9 = .pointer (some ⟨X, 0, none⟩) ∧ q.2.1 12 = .slice (some ⟨K, 0, none⟩) nk capx ∧ q.2.1 14 = .int .i64 tk ∧ q.2.1 15 = .int .i64 i ∧ TermAt q.2.2 T r p G cols 2 0 tk (cellF key tk) ∧ Stays S8 q.2.2 (TBlock T r p G 2))
            (loop_ok (fun k ρ S9 => ∃ (tk : Nat) (nn kk : Int), k = i + 1 - tk ∧ took ≤ tk ∧ tk ≤ i + 1 ∧ ρ 2 = ahead ∧ ρ 7 = .pointer (some ⟨T, 0, none⟩) ∧ ρ 9 = .pointer (some ⟨X, 0, none⟩) ∧ ρ 12 = .slice (some ⟨K, 0, none⟩) nk capx ∧ ρ 14 = .int .i64 tk ∧ ρ 15 = .int .i64 i ∧ ρ 16 = .int .i64 nn ∧ ρ 17 = .int .i64 kk ∧ TermAt S9 T r p G cols 2 0 tk (cellF key tk) ∧ Stays S8 S9 (TBlock T r p G 2)) ?_ (n := i + 1 - took) ⟨took, _, 0, rfl, Nat.le_refl _, by omega, by simp [r2], by simp [r7], by simp [r9], by simp [r12], by simp [r14], by simp [r15], by simp; rfl, by simp, hT8, Stays.refl _ _⟩) ?_
          · rintro k ρ S9 ⟨tk, nn, kk, rfl, t1, t2, r2, r7, r9, r12, r14, r15, r16, r17, hT9, hs9⟩
            by_cases hkn : kk < nn
            · by_cases hti : tk ≤ i
              · have hti' : (tk : Int) ≤ i := by omega
                have gK9 := (hs9.get K (by omega) hKT).trans gK8
                have hfd := term_Feed (cap := capx) hT9 (show 0 < 2 by decide) (by omega) (key_row gK9 (show tk < nk by omega)) (by have := hkey' tk (by omega); omega)
                have w4 : IntKind.wrap .i64 ((tk : Int) + 1) = tk + 1 := wrap64 (by omega) (by omega)
                simp [r2, r7, r9, r12, r14, r15, r16, r17, hkn, hti, hti', w4, key_slice gK9 (show tk < nk by omega)]
                simp only [Ok_endR, Ok_seqR, Ok_blockR, Ok_opsR, Ok_runL, Ok_runPl, Ok_againR, Ok_putR, Ok_loopR]
                refine hfd.mono ?_
                rintro ⟨v, S10⟩ ⟨rfl, hT10, hs10⟩
                dsimp only at hT10 hs10
                rw [cellF_step] at hT10
                simp [r2, r7, r9, r12, r14, r15, r16, r17, w4]
                exact ⟨i + 1 - (tk + 1), by omega, tk + 1, rfl, by omega, by omega, by simp, hT10, hs9.trans hs10 (fun n _ q => by
                  rcases q with q | q
                  · exact Or.inl q
                  · exact Or.inr (Or.inr (Or.inr (Or.inr (Or.inr ⟨0, by decide, q⟩)))))⟩
              · have hti' : ¬ (tk : Int) ≤ i := by omega
                simp [r2, r7, r9, r12, r14, r15, r16, r17, hkn, hti, hti']
                exact ⟨tk, t1, t2, rfl, hT9, hs9⟩
            · simp [r2, r7, r9, r12, r14, r15, r16, r17, hkn]
              exact ⟨tk, t1, t2, rfl, hT9, hs9⟩
          · rintro ⟨x, ρ, S9⟩ ⟨rfl, tk, t1, t2, r2, r7, r9, r12, r14, r15, hT9, hs9⟩
            dsimp only at r2 r7 r9 r12 r14 r15 hT9 hs9
            have b9 : S9.base = S.base := hs9.base.trans b8
            have m9 := hs9.cnt
            have hXT : ¬ TBlock T r p G 2 X := fun q => by have := hTX X q; omega
            have hE9 := hE8.stays hs9 hXT (fun _ q => by have := hTX _ q; omega)
            simp [r2, r7, r9, r12, r14, r15]
            simp only [Ok_endR, Ok_seqR, Ok_blockR, Ok_opsR, Ok_runL, Ok_runPl, Ok_againR, Ok_putR, Ok_loopR]
            refine (reg_Of hT9 ⟨by decide, by decide⟩ hc).mono ?_
            rintro ⟨v, S10⟩ ⟨La, rfl, hLa, n10, l10, hs10⟩
            dsimp only at hLa l10 hs10
            have b10 : S10.base = S.base := hs10.base.trans b9
            have m10 := hs10.cnt
            have hw10 : S10.base ≤ S10.cnt := by omega
            rw [state2]
            have hs11 : Stays S10 (S10.push (.cells [.int .i64 2, .int .i64 cols, .slice (some ⟨La, 0, none⟩) (2 * cols) capx, .int .i64 0, .int .i64 tk, .bool true, .string .empty, .string .empty, .int .u64 0, .int .u64 0] t_reg_State 0 false)) (fun _ => False) := Stays.push hw10
            have hE11 := (hE9.stays hs10 (fun q => q) (fun _ q => q)).stays hs11 (fun q => q) (fun _ q => q)
            have gLa := (hs11.get La l10 (fun q => q)).trans hLa
            have hkt : ∀ x, x < tk → 32 ≤ key x ∧ key x < 127 := fun x hx => hkey' x (by omega)
            have hsee := echo_See (t := tk) (j := tk - took) hE11 (by omega) (by omega) hc (by omega) (n := La) (Nat.lt_succ_of_lt l10) (by have := hE9.b.2; omega) gLa (fun k _ => (cellF_ok hkt k).1) (fun x hx => cellF_p (by omega) (by omega))
            rw [state2] at hsee
            have w5 : IntKind.wrap .u64 (tk : Int) = tk := IntWalk.u64_in _ (by omega)
            have nX10 : ¬ X = S10.cnt := by have := hE9.b.2; omega
            simp [hw10, putL, r2, r7, r9, r12, r14, r15, convW_int u_int u_uint64, w5]
            simp only [Ok_endR, Ok_seqR, Ok_blockR, Ok_opsR, Ok_runL, Ok_runPl, Ok_againR, Ok_putR, Ok_loopR]
            refine hsee.mono ?_
            rintro ⟨v, S12⟩ ⟨rfl, L12, C12, e12, hE12, hN12, nC12, nL12, hs12⟩
            dsimp only at hE12 hN12 hs12
            have hmm : i - took + 1 - (tk - took) = i + 1 - tk := by omega
            rw [hmm] at hE12 nL12
            have b12 : S12.base = S.base := hs12.base.trans b10
            have m12 := hs12.cnt
            simp only [St.push_cntQ] at m12 nC12
            simp [r2, r7, r9, r12, r14, r15, echo_Hits hE12, echo_Misses hE12]
            simp only [Ok_endR, Ok_seqR, Ok_blockR, Ok_opsR, Ok_runL, Ok_runPl, Ok_againR, Ok_putR, Ok_loopR]
            refine (echo_Guesses hE12 (by omega)).mono ?_
            rintro ⟨v, S13⟩ ⟨hlen, hs13⟩
            dsimp only at hlen hs13
            have hcast : ((i + 1 - tk : Nat) : Int) = (i : Int) + 1 - tk := by omega
            rw [hcast] at hlen
            have w6 : IntKind.wrap .i64 ((i : Int) + 1 - tk) = (i : Int) + 1 - tk := wrap64 (by omega) (by omega)
            have b13 : S13.base = S.base := hs13.base.trans b12
            have m13 := hs13.cnt
            have hE13 := hE12.stays hs13 (fun q => q) (fun _ q => q)
            have hN13 := hN12.stays hs13 (fun q => q)
            simp [r2, r7, r9, r12, r14, r15, hlen, w1, w6]
            simp only [Ok_endR, Ok_seqR, Ok_blockR, Ok_opsR, Ok_runL, Ok_runPl, Ok_againR, Ok_putR, Ok_loopR]
            refine (echo_Show hE13 hN13 hc (by omega) (fun k _ => (cellF_ok hkt k).2)).mono ?_
            rintro ⟨v, S14⟩ ⟨C14, rfl, gC14, nC14, lC14, hs14⟩
            dsimp only at gC14 lC14 hs14
            have b14 : S14.base = S.base := hs14.base.trans b13
            have m14 := hs14.cnt
            have hw14 : S14.base ≤ S14.cnt := by omega
            have hcast2 : ((tk + (i + 1 - tk) : Nat) : Int) = (i : Int) + 1 := by omega
            rw [hcast2]
            have hs15 : Stays S14 (S14.push (.cells [.int .i64 2, .int .i64 cols, .slice (some ⟨C14, 0, none⟩) (2 * cols) capx, .int .i64 0, .int .i64 ((i : Int) + 1), .bool true] t_view_View 0 false)) (fun _ => False) := Stays.push hw14
            have hi2c : i < 2 * cols := by omega
            have hp14 : (shownC (cellsAt cols (cellF key tk)) key tk (i + 1 - tk) i).p = key i := by
              unfold shownC
              by_cases q : tk ≤ i
              · rw [if_pos (by omega)]
              · rw [if_neg (by omega)]; exact cellF_p (by omega) (by omega)
            have row14 : rowO (S14.get C14) (i * 4) 1 = some [.int .i32 (key i)] := by rw [gC14, rowO_p hi2c, hp14]
            have hix14 : idxSV 4 (.slice (some ⟨C14, 0, none⟩) (2 * cols) capx) (.int .i64 (i : Int)) = some (.pointer (some ⟨C14, i * 4, none⟩)) := by rw [idxSV_ok (by omega) (by omega)]; simp
            have sK : Stays S8 S14 (fun n => n = X ∨ TBlock T r p G 2 n) :=
              ((((hs9.mono fun _ q => Or.inr q).trans (hs10.mono (B := fun n => n = X ∨ TBlock T r p G 2 n) fun _ q => q.elim) (fun _ _ q => q)).trans (hs11.mono (B := fun n => n = X ∨ TBlock T r p G 2 n) fun _ q => q.elim) (fun _ _ q => q)).trans (hs12.mono (B := fun n => n = X ∨ TBlock T r p G 2 n) fun _ q => Or.inl q) (fun _ _ q => q)).trans ((hs13.trans hs14 (fun _ _ q => q)).mono (B := fun n => n = X ∨ TBlock T r p G 2 n) fun _ q => q.elim) (fun _ _ q => q)
            have gK14 := (sK.get K (by omega) (by rintro (q | q); exact hKX q; exact hKT q)).trans gK8
            have rowK := key_row gK14 hlt
            have w7 : IntKind.wrap .i32 (key i) = key i := IntWalk.i32_in _ (by have := hkey' i (by omega); omega)
            have nC15 : ¬ C14 = S14.cnt := by omega
            have nK15 : ¬ K = S14.cnt := by omega
            have c1 : ¬ (2 * (cols : Int)) ≤ i := by omega
            have c2 : ¬ 2 * cols ≤ i := by omega
            simp [r2, r7, r9, r12, r14, r15, hw14, putL, w1, hix14, row14, key_idx hlt, rowK, convW_int u_uint8 u_int32, w7, nC15, nK15, c1, c2]
            have hT14 := (((((hT9.stays hs10 (fun _ _ q => q)).stays hs11 (fun _ _ q => q)).stays hs12 (fun n hn q => by have := hTX n hn; omega)).stays hs13 (fun _ _ q => q)).stays hs14 (fun _ _ q => q)).stays hs15 (fun _ _ q => q)
            have hE15 := (hE13.stays hs14 (fun q => q) (fun _ q => q)).stays hs15 (fun q => q) (fun _ q => q)
            refine ⟨nk - (i + 1), by omega, i + 1, rfl, by omega, tk, by omega, (slOf_pos K (by omega)).symm, rfl, by simp, hT14, L12, e12, hE15, hN12.f2, fun hp => ?_, ?_⟩
            · rcases nL12 hp with q | q
              · omega
              · have q : S10.cnt + 1 ≤ L12 := q
                omega
            · exact ((hs7.trans (hs8.mono (B := fun n => n = X ∨ TBlock T r p G 2 n) fun _ q => Or.inl q) (fun _ _ q => q)).trans sK (fun _ _ q => q)).trans (hs15.mono (B := fun n => n = X ∨ TBlock T r p G 2 n) fun _ q => q.elim) (fun _ _ q => q)
        ·
          simp only [Ok_endR, Ok_seqR, Ok_blockR, Ok_opsR, Ok_runL, Ok_runPl, Ok_againR, Ok_putR, Ok_loopR]
          refine Ok.mono (Q := fun q => q.1 = .exit 4 ∧ ∃ tk : Nat, took ≤ tk ∧ tk ≤ i + 1 ∧ q.2.1 2 = ahead ∧ q.2.1 7 = .pointer (some ⟨T, 0, none⟩) ∧ q.2.1 9 = .pointer (some ⟨X, 0, none⟩) ∧ q.2.1 12 = .slice (some ⟨K, 0, none⟩) nk capx ∧ q.2.1 14 = .int .i64 tk ∧ q.2.1 15 = .int .i64 i ∧ TermAt q.2.2 T r p G cols 2 0 tk (cellF key tk) ∧ Stays S8 q.2.2 (TBlock T r p G 2))
            (loop_ok (fun k ρ S9 => ∃ (tk : Nat) (nn kk : Int), k = i + 1 - tk ∧ took ≤ tk ∧ tk ≤ i + 1 ∧ ρ 2 = ahead ∧ ρ 7 = .pointer (some ⟨T, 0, none⟩) ∧ ρ 9 = .pointer (some ⟨X, 0, none⟩) ∧ ρ 12 = .slice (some ⟨K, 0, none⟩) nk capx ∧ ρ 14 = .int .i64 tk ∧ ρ 15 = .int .i64 i ∧ ρ 16 = .int .i64 nn ∧ ρ 17 = .int .i64 kk ∧ TermAt S9 T r p G cols 2 0 tk (cellF key tk) ∧ Stays S8 S9 (TBlock T r p G 2)) ?_ (n := i + 1 - took) ⟨took, _, 0, rfl, Nat.le_refl _, by omega, by simp [r2], by simp [r7], by simp [r9], by simp [r12], by simp [r14], by simp [r15], by simp; rfl, by simp, hT8, Stays.refl _ _⟩) ?_
          · rintro k ρ S9 ⟨tk, nn, kk, rfl, t1, t2, r2, r7, r9, r12, r14, r15, r16, r17, hT9, hs9⟩
            by_cases hkn : kk < nn
            · by_cases hti : tk ≤ i
              · have hti' : (tk : Int) ≤ i := by omega
                have gK9 := (hs9.get K (by omega) hKT).trans gK8
                have hfd := term_Feed (cap := capx) hT9 (show 0 < 2 by decide) (by omega) (key_row gK9 (show tk < nk by omega)) (by have := hkey' tk (by omega); omega)
                have w4 : IntKind.wrap .i64 ((tk : Int) + 1) = tk + 1 := wrap64 (by omega) (by omega)
                simp [r2, r7, r9, r12, r14, r15, r16, r17, hkn, hti, hti', w4, key_slice gK9 (show tk < nk by omega)]
                simp only [Ok_endR, Ok_seqR, Ok_blockR, Ok_opsR, Ok_runL, Ok_runPl, Ok_againR, Ok_putR, Ok_loopR]
                refine hfd.mono ?_
                rintro ⟨v, S10⟩ ⟨rfl, hT10, hs10⟩
                dsimp only at hT10 hs10
                rw [cellF_step] at hT10
                simp [r2, r7, r9, r12, r14, r15, r16, r17, w4]
                exact ⟨i + 1 - (tk + 1), by omega, tk + 1, rfl, by omega, by omega, by simp, hT10, hs9.trans hs10 (fun n _ q => by
                  rcases q with q | q
                  · exact Or.inl q
                  · exact Or.inr (Or.inr (Or.inr (Or.inr (Or.inr ⟨0, by decide, q⟩)))))⟩
              · have hti' : ¬ (tk : Int) ≤ i := by omega
                simp [r2, r7, r9, r12, r14, r15, r16, r17, hkn, hti, hti']
                exact ⟨tk, t1, t2, rfl, hT9, hs9⟩
            · simp [r2, r7, r9, r12, r14, r15, r16, r17, hkn]
              exact ⟨tk, t1, t2, rfl, hT9, hs9⟩
          · rintro ⟨x, ρ, S9⟩ ⟨rfl, tk, t1, t2, r2, r7, r9, r12, r14, r15, hT9, hs9⟩
            dsimp only at r2 r7 r9 r12 r14 r15 hT9 hs9
            have b9 : S9.base = S.base := hs9.base.trans b8
            have m9 := hs9.cnt
            have hXT : ¬ TBlock T r p G 2 X := fun q => by have := hTX X q; omega
            have hE9 := hE8.stays hs9 hXT (fun _ q => by have := hTX _ q; omega)
            simp [r2, r7, r9, r12, r14, r15]
            simp only [Ok_endR, Ok_seqR, Ok_blockR, Ok_opsR, Ok_runL, Ok_runPl, Ok_againR, Ok_putR, Ok_loopR]
            refine (reg_Of hT9 ⟨by decide, by decide⟩ hc).mono ?_
            rintro ⟨v, S10⟩ ⟨La, rfl, hLa, n10, l10, hs10⟩
            dsimp only at hLa l10 hs10
            have b10 : S10.base = S.base := hs10.base.trans b9
            have m10 := hs10.cnt
            have hw10 : S10.base ≤ S10.cnt := by omega
            rw [state2]
            have hs11 : Stays S10 (S10.push (.cells [.int .i64 2, .int .i64 cols, .slice (some ⟨La, 0, none⟩) (2 * cols) capx, .int .i64 0, .int .i64 tk, .bool true, .string .empty, .string .empty, .int .u64 0, .int .u64 0] t_reg_State 0 false)) (fun _ => False) := Stays.push hw10
            have hE11 := (hE9.stays hs10 (fun q => q) (fun _ q => q)).stays hs11 (fun q => q) (fun _ q => q)
            have gLa := (hs11.get La l10 (fun q => q)).trans hLa
            have hkt : ∀ x, x < tk → 32 ≤ key x ∧ key x < 127 := fun x hx => hkey' x (by omega)
            have hsee := echo_See (t := tk) (j := tk - took) hE11 (by omega) (by omega) hc (by omega) (n := La) (Nat.lt_succ_of_lt l10) (by have := hE9.b.2; omega) gLa (fun k _ => (cellF_ok hkt k).1) (fun x hx => cellF_p (by omega) (by omega))
            rw [state2] at hsee
            have w5 : IntKind.wrap .u64 (tk : Int) = tk := IntWalk.u64_in _ (by omega)
            have nX10 : ¬ X = S10.cnt := by have := hE9.b.2; omega
            simp [hw10, putL, r2, r7, r9, r12, r14, r15, convW_int u_int u_uint64, w5]
            simp only [Ok_endR, Ok_seqR, Ok_blockR, Ok_opsR, Ok_runL, Ok_runPl, Ok_againR, Ok_putR, Ok_loopR]
            refine hsee.mono ?_
            rintro ⟨v, S12⟩ ⟨rfl, L12, C12, e12, hE12, hN12, nC12, nL12, hs12⟩
            dsimp only at hE12 hN12 hs12
            have hmm : i - took + 1 - (tk - took) = i + 1 - tk := by omega
            rw [hmm] at hE12 nL12
            have b12 : S12.base = S.base := hs12.base.trans b10
            have m12 := hs12.cnt
            simp only [St.push_cntQ] at m12 nC12
            simp [r2, r7, r9, r12, r14, r15, echo_Hits hE12, echo_Misses hE12]
            simp only [Ok_endR, Ok_seqR, Ok_blockR, Ok_opsR, Ok_runL, Ok_runPl, Ok_againR, Ok_putR, Ok_loopR]
            refine (echo_Guesses hE12 (by omega)).mono ?_
            rintro ⟨v, S13⟩ ⟨hlen, hs13⟩
            dsimp only at hlen hs13
            have hcast : ((i + 1 - tk : Nat) : Int) = (i : Int) + 1 - tk := by omega
            rw [hcast] at hlen
            have w6 : IntKind.wrap .i64 ((i : Int) + 1 - tk) = (i : Int) + 1 - tk := wrap64 (by omega) (by omega)
            have b13 : S13.base = S.base := hs13.base.trans b12
            have m13 := hs13.cnt
            have hE13 := hE12.stays hs13 (fun q => q) (fun _ q => q)
            have hN13 := hN12.stays hs13 (fun q => q)
            simp [r2, r7, r9, r12, r14, r15, hlen, w1, w6]
            simp only [Ok_endR, Ok_seqR, Ok_blockR, Ok_opsR, Ok_runL, Ok_runPl, Ok_againR, Ok_putR, Ok_loopR]
            refine (echo_Show hE13 hN13 hc (by omega) (fun k _ => (cellF_ok hkt k).2)).mono ?_
            rintro ⟨v, S14⟩ ⟨C14, rfl, gC14, nC14, lC14, hs14⟩
            dsimp only at gC14 lC14 hs14
            have b14 : S14.base = S.base := hs14.base.trans b13
            have m14 := hs14.cnt
            have hw14 : S14.base ≤ S14.cnt := by omega
            have hcast2 : ((tk + (i + 1 - tk) : Nat) : Int) = (i : Int) + 1 := by omega
            rw [hcast2]
            have hs15 : Stays S14 (S14.push (.cells [.int .i64 2, .int .i64 cols, .slice (some ⟨C14, 0, none⟩) (2 * cols) capx, .int .i64 0, .int .i64 ((i : Int) + 1), .bool true] t_view_View 0 false)) (fun _ => False) := Stays.push hw14
            have hi2c : i < 2 * cols := by omega
            have hp14 : (shownC (cellsAt cols (cellF key tk)) key tk (i + 1 - tk) i).p = key i := by
              unfold shownC
              by_cases q : tk ≤ i
              · rw [if_pos (by omega)]
              · rw [if_neg (by omega)]; exact cellF_p (by omega) (by omega)
            have row14 : rowO (S14.get C14) (i * 4) 1 = some [.int .i32 (key i)] := by rw [gC14, rowO_p hi2c, hp14]
            have hix14 : idxSV 4 (.slice (some ⟨C14, 0, none⟩) (2 * cols) capx) (.int .i64 (i : Int)) = some (.pointer (some ⟨C14, i * 4, none⟩)) := by rw [idxSV_ok (by omega) (by omega)]; simp
            have sK : Stays S8 S14 (fun n => n = X ∨ TBlock T r p G 2 n) :=
              ((((hs9.mono fun _ q => Or.inr q).trans (hs10.mono (B := fun n => n = X ∨ TBlock T r p G 2 n) fun _ q => q.elim) (fun _ _ q => q)).trans (hs11.mono (B := fun n => n = X ∨ TBlock T r p G 2 n) fun _ q => q.elim) (fun _ _ q => q)).trans (hs12.mono (B := fun n => n = X ∨ TBlock T r p G 2 n) fun _ q => Or.inl q) (fun _ _ q => q)).trans ((hs13.trans hs14 (fun _ _ q => q)).mono (B := fun n => n = X ∨ TBlock T r p G 2 n) fun _ q => q.elim) (fun _ _ q => q)
            have gK14 := (sK.get K (by omega) (by rintro (q | q); exact hKX q; exact hKT q)).trans gK8
            have rowK := key_row gK14 hlt
            have w7 : IntKind.wrap .i32 (key i) = key i := IntWalk.i32_in _ (by have := hkey' i (by omega); omega)
            have nC15 : ¬ C14 = S14.cnt := by omega
            have nK15 : ¬ K = S14.cnt := by omega
            have c1 : ¬ (2 * (cols : Int)) ≤ i := by omega
            have c2 : ¬ 2 * cols ≤ i := by omega
            simp [r2, r7, r9, r12, r14, r15, hw14, putL, w1, hix14, row14, key_idx hlt, rowK, convW_int u_uint8 u_int32, w7, nC15, nK15, c1, c2]
            have hT14 := (((((hT9.stays hs10 (fun _ _ q => q)).stays hs11 (fun _ _ q => q)).stays hs12 (fun n hn q => by have := hTX n hn; omega)).stays hs13 (fun _ _ q => q)).stays hs14 (fun _ _ q => q)).stays hs15 (fun _ _ q => q)
            have hE15 := (hE13.stays hs14 (fun q => q) (fun _ q => q)).stays hs15 (fun q => q) (fun _ q => q)
            refine ⟨nk - (i + 1), by omega, i + 1, rfl, by omega, tk, by omega, (slOf_pos K (by omega)).symm, rfl, by simp, hT14, L12, e12, hE15, hN12.f2, fun hp => ?_, ?_⟩
            · rcases nL12 hp with q | q
              · omega
              · have q : S10.cnt + 1 ≤ L12 := q
                omega
            · exact ((hs7.trans (hs8.mono (B := fun n => n = X ∨ TBlock T r p G 2 n) fun _ q => Or.inl q) (fun _ _ q => q)).trans sK (fun _ _ q => q)).trans (hs15.mono (B := fun n => n = X ∨ TBlock T r p G 2 n) fun _ q => q.elim) (fun _ _ q => q)
      · have hil : ¬ (i : Int) < nk := by omega
        simp [r2, r7, r9, r12, r14, r15, hil, slOf_len]
    · exact ⟨by simp [r2], by simp [r7], by simp [r9], by simp [r12], by simp, by simp, by rw [cellF_0]; exact hT6, hE6, hN5.f2, fun h => by simp at h, Stays.refl _ _⟩
    · rintro ⟨x, ρ, S7⟩ rfl
      simp [alive_hook]

end Go.AM
