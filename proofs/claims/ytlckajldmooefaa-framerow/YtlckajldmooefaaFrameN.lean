/- Frames: numbers and lists alone. -/
import Derived.Test.YtlckajldmooefaaFrame6
import Derived.Test.YtlckajldmooefaaPicks
set_option maxRecDepth 10000
set_option linter.unusedVariables false
set_option linter.unusedSimpArgs false
namespace Go.Proofs.Ytlckajldmooefaa
open Go.Tm Go.IntWalk Go.Crc

theorem take_put' {n : Nat} {u : Int} {rest : List Int} (hn1 : 1 ≤ n) (hn4 : n ≤ 4) (h0 : 0 ≤ u) (hu : u < ((256 ^ n : Nat) : Int)) (hr : isB rest) : takeS (bytesN n u ++ rest) (n : Int) = (u, true) := by
  obtain ⟨v, rfl⟩ := Int.eq_ofNat_of_zero_le h0
  rw [← ints_nats hr]
  exact take_put hn1 hn4 (by omega) (nats_lt hr)
theorem numS_put {n : Nat} {u : Int} {rest : List Int} (hn1 : 1 ≤ n) (hn4 : n ≤ 4) (h0 : 0 ≤ u) (hu : u < ((256 ^ n : Nat) : Int)) (hr : isB rest) : numS (bytesN n u ++ rest, false, ()) (n : Int) = (u, (rest, false, ())) := by
  have h := take_put' hn1 hn4 h0 hu hr
  rw [numS_ok rfl (by rw [h])]
  show ((takeS (bytesN n u ++ rest) n).1, ((bytesN n u ++ rest).drop (n : Int).toNat, false, ())) = _
  rw [h, Int.toNat_natCast, List.drop_left' (bytesN_len n u)]
def txt (s : ByteArray) : List Int := (s.size : Int) :: bytesOf s
theorem txt_len (s : ByteArray) : (txt s).length = 1 + s.size := by simp [txt, bytesOf_len]; omega
theorem isB_txt {s : ByteArray} (h : s.size ≤ 255) : isB (txt s) := isB_cons.2 ⟨by omega, isB_bytesOf s⟩
theorem textR_put {s : ByteArray} {rest : List Int} (hs : s.size ≤ 255) : textR (txt s ++ rest, false, ()) = (s, (rest, false, ())) := by
  have h : takeTextS (txt s ++ rest) = (s, 1 + (s.size : Int), true) := takeText_text hs rest
  rw [textR_ok rfl (by rw [h])]
  show ((takeTextS (txt s ++ rest)).1, ((txt s ++ rest).drop (takeTextS (txt s ++ rest)).2.1.toNat, false, ())) = _
  rw [h]
  simp only
  rw [List.drop_left' (by rw [txt_len]; omega)]

/-- What stands behind the number. -/
def cmdB (c : Cmd) (rest : List Int) : List Int :=
  bytesN 1 c.1 ++ (bytesN 4 c.2.1 ++ (bytesN 4 c.2.2.1 ++ (bytesN 4 c.2.2.2.2.2.1 ++ (bytesN 1 c.2.2.2.1 ++ (bytesN 1 c.2.2.2.2.1 ++ (txt c.2.2.2.2.2.2.1 ++ (txt c.2.2.2.2.2.2.2.1 ++ (txt c.2.2.2.2.2.2.2.2.1 ++ rest))))))))
structure Fine (c : Cmd) : Prop where mk ::
  out : (0 ≤ c.1 ∧ c.1 < 256) ∧ (0 ≤ c.2.1 ∧ c.2.1 < 4294967296) ∧ (0 ≤ c.2.2.1 ∧ c.2.2.1 < 4294967296) ∧ (0 ≤ c.2.2.2.1 ∧ c.2.2.2.1 < 256) ∧ (0 ≤ c.2.2.2.2.1 ∧ c.2.2.2.2.1 < 256) ∧ (0 ≤ c.2.2.2.2.2.1 ∧ c.2.2.2.2.2.1 < 4294967296) ∧
    c.2.2.2.2.2.2.1.size ≤ 255 ∧ c.2.2.2.2.2.2.2.1.size ≤ 255 ∧ c.2.2.2.2.2.2.2.2.1.size ≤ 255
theorem may_fine {c : Cmd} (h : mayS c = true) : Fine c := by
  have hk : ¬ (c.1 < 1 ∨ 9 < c.1) := fun e => by rw [may_kind e] at h; cases h
  unfold mayS nums okNum at h
  simp only [Bool.and_eq_true, decide_eq_true_eq] at h
  exact ⟨by omega, by omega, by omega, by omega, by omega, by omega, by omega, by omega, by omega⟩
theorem cmdS_put {c : Cmd} (h : Fine c) {rest : List Int} (hr : isB rest) : cmdS (cmdB c rest, false, ()) = (c, (rest, false, ())) := by
  obtain ⟨h1, h2, h3, h4, h5, h6, h7, h8, h9⟩ := h.out
  have r9 : isB (txt c.2.2.2.2.2.2.2.2.1 ++ rest) := isB_append.2 ⟨isB_txt h9, hr⟩
  have r8 := isB_append.2 ⟨isB_txt h8, r9⟩
  have r7 := isB_append.2 ⟨isB_txt h7, r8⟩
  have r6 := isB_append.2 ⟨isB_bytesN 1 c.2.2.2.2.1, r7⟩
  have r5 := isB_append.2 ⟨isB_bytesN 1 c.2.2.2.1, r6⟩
  have r4 := isB_append.2 ⟨isB_bytesN 4 c.2.2.2.2.2.1, r5⟩
  have r3 := isB_append.2 ⟨isB_bytesN 4 c.2.2.1, r4⟩
  have r2 := isB_append.2 ⟨isB_bytesN 4 c.2.1, r3⟩
  have e1 : numS (_, false, ()) (1 : Int) = _ := numS_put (n := 1) (by decide) (by decide) h1.1 h1.2 r2
  have e2 : numS (_, false, ()) (4 : Int) = _ := numS_put (n := 4) (by decide) (by decide) h2.1 h2.2 r3
  have e3 : numS (_, false, ()) (4 : Int) = _ := numS_put (n := 4) (by decide) (by decide) h3.1 h3.2 r4
  have e4 : numS (_, false, ()) (4 : Int) = _ := numS_put (n := 4) (by decide) (by decide) h6.1 h6.2 r5
  have e5 : numS (_, false, ()) (1 : Int) = _ := numS_put (n := 1) (by decide) (by decide) h4.1 h4.2 r6
  have e6 : numS (_, false, ()) (1 : Int) = _ := numS_put (n := 1) (by decide) (by decide) h5.1 h5.2 r7
  have e7 := textR_put (rest := txt c.2.2.2.2.2.2.2.1 ++ (txt c.2.2.2.2.2.2.2.2.1 ++ rest)) h7
  have e8 := textR_put (rest := txt c.2.2.2.2.2.2.2.2.1 ++ rest) h8
  have e9 := textR_put (rest := rest) h9
  unfold cmdS cmdB
  simp only [e1, e2, e3, e4, e5, e6, e7, e8, e9]
theorem headS_eq {seq : Int} {c : Cmd} (h : Fine c) : headS seq c = bytesN 2 seq ++ cmdB c [] := by
  obtain ⟨h1, h2, h3, h4, h5, h6, h7, h8, h9⟩ := h.out
  unfold headS cmdB txt
  rw [textS_small h9, textS_small h8, textS_small h7]
  simp [putS]
theorem cmdB_append (c : Cmd) (rest : List Int) : cmdB c [] ++ rest = cmdB c rest := by simp [cmdB]
theorem isB_cmdB {c : Cmd} (h : Fine c) {rest : List Int} (hr : isB rest) : isB (cmdB c rest) := by
  obtain ⟨h1, h2, h3, h4, h5, h6, h7, h8, h9⟩ := h.out
  exact isB_append.2 ⟨isB_bytesN _ _, isB_append.2 ⟨isB_bytesN _ _, isB_append.2 ⟨isB_bytesN _ _, isB_append.2 ⟨isB_bytesN _ _, isB_append.2 ⟨isB_bytesN _ _, isB_append.2 ⟨isB_bytesN _ _,
    isB_append.2 ⟨isB_txt h7, isB_append.2 ⟨isB_txt h8, isB_append.2 ⟨isB_txt h9, hr⟩⟩⟩⟩⟩⟩⟩⟩⟩
theorem cmdB_len (c : Cmd) : (cmdB c []).length = 18 + c.2.2.2.2.2.2.1.size + c.2.2.2.2.2.2.2.1.size + c.2.2.2.2.2.2.2.2.1.size := by
  simp only [cmdB, List.length_append, bytesN_len, txt_len, List.length_nil]
  omega
theorem ok_may {seq : Int} {c : Cmd} (h : okF seq c = true) : mayS c = true ∧ 0 ≤ seq ∧ seq ≤ 65535 := by
  unfold okF at h
  simp only [Bool.and_eq_true, decide_eq_true_eq] at h
  exact ⟨h.1.1, h.1.2, h.2⟩
theorem ok_of {seq : Int} {c : Cmd} (h : mayS c = true) (h0 : 0 ≤ seq) (h1 : seq ≤ 65535) : okF seq c = true := by
  unfold okF
  rw [h, decide_eq_true h0, decide_eq_true h1]; rfl
/-- The sum's bytes. -/
def tailS (seq : Int) (c : Cmd) : List Int := bytesN 4 (sum [longS (headS seq c)])
theorem frameS_eq {seq : Int} {c : Cmd} (h : Fine c) : frameS seq c = bytesN 2 ((headS seq c).length + 4) ++ (bytesN 2 seq ++ (cmdB c (tailS seq c))) := by
  have e1 : frameS seq c = longS (headS seq c) ++ tailS seq c := by simp [frameS, putS, tailS]
  have e2 : longS (headS seq c) = bytesN 2 ((headS seq c).length + 4) ++ headS seq c := by simp [longS, putS]
  rw [e1, e2, ← cmdB_append c (tailS seq c)]
  conv => lhs; arg 1; arg 2; rw [headS_eq h]
  simp only [List.append_assoc]
theorem head_len {seq : Int} {c : Cmd} (h : Fine c) : (headS seq c).length = 20 + c.2.2.2.2.2.2.1.size + c.2.2.2.2.2.2.2.1.size + c.2.2.2.2.2.2.2.2.1.size := by
  rw [headS_eq h, List.length_append, bytesN_len, cmdB_len]
  omega
theorem frame_len {seq : Int} {c : Cmd} (h : Fine c) : (frameS seq c).length = 26 + c.2.2.2.2.2.2.1.size + c.2.2.2.2.2.2.2.1.size + c.2.2.2.2.2.2.2.2.1.size := by
  rw [frameS_eq h, List.length_append, List.length_append, bytesN_len, bytesN_len, ← cmdB_append, List.length_append, cmdB_len, tailS, bytesN_len]
  omega
/-- What a frame says. -/
theorem front {seq : Int} {c : Cmd} (h : Fine c) {rest : List Int} (hr : isB rest) : takeS (frameS seq c ++ rest) 2 = (((frameS seq c).length : Int) - 2, true) := by
  obtain ⟨h1, h2, h3, h4, h5, h6, h7, h8, h9⟩ := h.out
  have hl := head_len (seq := seq) h
  have hf := frame_len (seq := seq) h
  have hb : isB ((bytesN 2 seq ++ cmdB c (tailS seq c)) ++ rest) := isB_append.2 ⟨isB_append.2 ⟨isB_bytesN _ _, isB_cmdB h (isB_bytesN _ _)⟩, hr⟩
  have := take_put' (n := 2) (u := (headS seq c).length + 4) (by decide) (by decide) (by omega) (by simp; omega) hb
  rw [hf]
  conv => lhs; rw [frameS_eq h, List.append_assoc]
  refine this.trans ?_
  rw [hl]
  simp only [Prod.mk.injEq, and_true]
  omega
theorem lenF_put {seq : Int} {c : Cmd} (h : Fine c) {rest : List Int} (hr : isB rest) : lenF (frameS seq c ++ rest) = (frameS seq c).length := by
  unfold lenF
  rw [front h hr]
  simp only
  omega
theorem rdF_put {seq : Int} {c : Cmd} (h : Fine c) (h0 : 0 ≤ seq) (h1 : seq ≤ 65535) {rest : List Int} (hr : isB rest) : rdF (frameS seq c ++ rest) = (c, (tailS seq c, false, ())) := by
  have hl := lenF_put (seq := seq) h hr
  have e : ((frameS seq c ++ rest).drop 2).take ((lenF (frameS seq c ++ rest)).toNat - 2) = bytesN 2 seq ++ cmdB c (tailS seq c) := by
    have hf : (frameS seq c).length = 2 + (bytesN 2 seq ++ cmdB c (tailS seq c)).length := by
      conv => lhs; rw [frameS_eq h, List.length_append, bytesN_len]
    rw [hl]
    conv => lhs; arg 2; rw [frameS_eq h, List.append_assoc, List.drop_left' (bytesN_len 2 _)]
    exact List.take_left' (by omega)
  unfold rdF
  rw [e]
  have e1 : numS (bytesN 2 seq ++ cmdB c (tailS seq c), false, ()) (2 : Int) = _ := numS_put (n := 2) (by decide) (by decide) h0 (by simp; omega) (isB_cmdB h (isB_bytesN _ _))
  rw [e1]
  exact cmdS_put h (isB_bytesN _ _)
theorem takeF_put {seq : Int} {c : Cmd} (h : okF seq c = true) {rest : List Int} (hr : isB rest) : takeF (frameS seq c ++ rest) seq = (c, ((frameS seq c).length : Int), 0) := by
  obtain ⟨hm, h0, h1⟩ := ok_may h
  have hf := may_fine hm
  have hl := lenF_put (seq := seq) hf hr
  rw [takeF_ok, rdF_put hf h0 h1 hr, hl]
  · rw [front hf hr, hl, List.length_append]
    simp only
    rintro (h | h)
    · cases h
    · omega
  · rw [rdF_put hf h0 h1 hr, hl]
    rintro (e | e | e)
    · cases e
    · exact Bool.noConfusion (e.symm.trans h)
    · exact e (by rw [putF, if_pos h, Int.toNat_natCast, List.take_left' rfl])
theorem takeF_other {seq seq' : Int} {c : Cmd} (h : okF seq c = true) (hne : seq' ≠ seq) {rest : List Int} (hr : isB rest) : takeF (frameS seq c ++ rest) seq' = (noCmd, 0, 9) := by
  obtain ⟨hm, h0, h1⟩ := ok_may h
  have hf := may_fine hm
  have hl := lenF_put (seq := seq) hf hr
  rw [takeF_form]
  · rw [front hf hr, hl, List.length_append]
    simp only
    rintro (h | h)
    · cases h
    · omega
  · rw [rdF_put hf h0 h1 hr, hl]
    cases hk : okF seq' c with
    | false => exact .inr (.inl rfl)
    | true =>
      obtain ⟨_, h2, h3⟩ := ok_may hk
      refine .inr (.inr fun e => hne ?_)
      rw [putF, if_pos hk, Int.toNat_natCast, List.take_left' rfl] at e
      have := congrArg (fun l => takeS (l.drop 2) 2) e
      simp only at this
      rw [frameS_eq hf, frameS_eq hf, List.drop_left' (bytesN_len 2 _), List.drop_left' (bytesN_len 2 _)] at this
      have e1 : takeS (bytesN 2 seq' ++ cmdB c (tailS seq' c)) (2 : Int) = _ := take_put' (n := 2) (by decide) (by decide) h2 (by simp; omega) (isB_cmdB hf (isB_bytesN _ _))
      have e2 : takeS (bytesN 2 seq ++ cmdB c (tailS seq c)) (2 : Int) = _ := take_put' (n := 2) (by decide) (by decide) h0 (by simp; omega) (isB_cmdB hf (isB_bytesN _ _))
      rw [e1, e2] at this
      exact (Prod.mk.injEq _ _ _ _ ▸ this).1
theorem takeF_cut {seq seq' : Int} {c : Cmd} (h : okF seq c = true) {k : Nat} (hk : k < (frameS seq c).length) : takeF ((frameS seq c).take k) seq' = (noCmd, 0, 2) := by
  obtain ⟨hm, h0, h1⟩ := ok_may h
  have hf := may_fine hm
  refine takeF_none ?_
  rcases Nat.lt_or_ge k 2 with h2 | h2
  · left
    unfold takeS
    rw [if_pos (.inr (by rw [List.length_take]; omega))]
  · right
    have e : (frameS seq c).take k = bytesN 2 ((headS seq c).length + 4) ++ ((bytesN 2 seq ++ cmdB c (tailS seq c)).take (k - 2)) := by
      rw [frameS_eq hf, List.take_append, bytesN_len, List.take_of_length_le (by rw [bytesN_len]; exact h2)]
    have hl := head_len (seq := seq) hf
    have hfl := frame_len (seq := seq) hf
    obtain ⟨g1, g2, g3, g4, g5, g6, g7, g8, g9⟩ := hf.out
    have := take_put' (n := 2) (u := (headS seq c).length + 4) (rest := (bytesN 2 seq ++ cmdB c (tailS seq c)).take (k - 2)) (by decide) (by decide) (by omega) (by simp; omega) (isB_take (isB_append.2 ⟨isB_bytesN _ _, isB_cmdB hf (isB_bytesN _ _)⟩) _)
    have e3 : takeS ((frameS seq c).take k) 2 = (((headS seq c).length : Int) + 4, true) := by rw [e]; exact this
    unfold lenF
    rw [e3, List.length_take]
    simp only
    omega
end Go.Proofs.Ytlckajldmooefaa
