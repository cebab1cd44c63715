/- Walks: senders, streams, what is over. -/
import Derived.Test.YtildklpahfbnpaaFactsV
import Derived.Test.YtildklpahfbnpaaOver
import Derived.Test.YtildklpahfbnpaaSh
import Derived.Test.YtildklpahfbnpaaSlq
import Derived.Test.YtildklpahfbnpaaSlh
import Derived.Test.YtildklpahfbnpaaElems
namespace Go.Proofs.Ytildklpahfbnpaa
open SL Go.RowKit
theorem laws_szIntS {w : World} {v : Value} {l : List Int} (hv : RdS w 1 (Pl intC) v l) (n : Int) : CV Try.prog 191 [v, .int .i64 n] w (.int .i64 (szLen l n)) := by
  obtain ⟨A, c, rfl, hA⟩ := hv
  refine cv_of Try.func191 rfl rfl rfl <| SQ <| RG <| AS rfl rfl <| ND <| SQ <| RG <| MV rfl rfl <| MV rfl rfl <| rw_len rfl tyE_S_int rfl <| rw_sub rfl rfl rfl <| AS rfl rfl <| ND <| SQ <| SQ <| RG <| MV rfl rfl <| rw_lss rfl rfl rfl <| ND <| ?_
  refine gw_cond rfl (fun h1 => ?_) (fun h1 => ?_)
  · refine SQ <| RG <| AS rfl rfl <| ND <| ret_cv Try.func191 (res1 Try.func191 rfl (rv_tmp rfl)) <| ?_
    simp only [szLen, h1] <;> rfl
  · refine SK <| SQ <| RG <| MV rfl rfl <| AS rfl rfl <| ND <| ret_cv Try.func191 (res1 Try.func191 rfl (rv_tmp rfl)) <| ?_
    simp only [szLen, h1] <;> rfl

theorem laws_szRing {w : World} {cs : List Value} {x : Ring} (hv : RdRing w cs x) (n : Int) (hb : x.le 9223372036854775807) (h0 : 0 ≤ n) (hn : n ≤ 1048576) : CV Try.prog 125 [.agg cs.toArray, .int .i64 n] w (.int .i64 (szRing x n)) := by
  obtain ⟨v0, rfl, k0⟩ := hv
  obtain ⟨A0, c0, rfl, hA0⟩ := k0
  have hb0 : x.cells.length ≤ 9223372036854775807 := hb
  refine cv_of Try.func125 rfl rfl rfl <| SQ <| RG <| BX [_, _, _, _] rfl rfl rfl <| fun b1 => AS rfl rfl <| ND <| SQ <| RG <| FA rfl tyF_laws_Ring_3 rfl <| LD (i := 0) rfl tyP_S_int rfl rfl rfl <| MV rfl rfl <| CV1 rfl fun_laws_szIntS rfl (fun w hs => laws_szIntS (hA0.s Pl.keeps hs) _) <| AS rfl rfl <| ND <| SQ <| SQ <| RG <| MV rfl rfl <| rw_lss rfl rfl rfl <| ND <| ?_
  refine gw_cond rfl (fun h1 => ?_) (fun h1 => ?_)
  · refine SQ <| RG <| AS rfl rfl <| ND <| ret_cv Try.func125 (res1 Try.func125 rfl (rv_tmp rfl)) <| ?_
    simp [szRing, id, thenSz, h1]
  · have hnn1 := nn_of h1
    obtain ⟨hle1, hz1_0⟩ := szLen_ok (by first | omega | assumption) (by omega) (by omega) hnn1
    refine SK <| SQ <| RG <| MV rfl rfl <| AS rfl rfl <| ND <| ret_cv Try.func125 (res1 Try.func125 rfl (rv_tmp rfl)) <| ?_
    simp [szRing, id, thenSz, h1]

theorem laws_szRangeS {w : World} {v : Value} {l : List Range} (hv : RdS w 2 (Pl Range.cells) v l) (n : Int) : CV Try.prog 126 [v, .int .i64 n] w (.int .i64 (szLen l n)) := by
  obtain ⟨A, c, rfl, hA⟩ := hv
  refine cv_of Try.func126 rfl rfl rfl <| SQ <| RG <| AS rfl rfl <| ND <| SQ <| RG <| MV rfl rfl <| MV rfl rfl <| rw_len rfl tyE_S_laws_Range rfl <| rw_sub rfl rfl rfl <| AS rfl rfl <| ND <| SQ <| SQ <| RG <| MV rfl rfl <| rw_lss rfl rfl rfl <| ND <| ?_
  refine gw_cond rfl (fun h1 => ?_) (fun h1 => ?_)
  · refine SQ <| RG <| AS rfl rfl <| ND <| ret_cv Try.func126 (res1 Try.func126 rfl (rv_tmp rfl)) <| ?_
    simp only [szLen, h1] <;> rfl
  · refine SK <| SQ <| RG <| MV rfl rfl <| AS rfl rfl <| ND <| ret_cv Try.func126 (res1 Try.func126 rfl (rv_tmp rfl)) <| ?_
    simp only [szLen, h1] <;> rfl

theorem laws_szSender {w : World} {cs : List Value} {x : Sender} (hv : RdSender w cs x) (n : Int) (hb : x.le 9223372036854775807) (h0 : 0 ≤ n) (hn : n ≤ 1048576) : CV Try.prog 48 [.agg cs.toArray, .int .i64 n] w (.int .i64 (szSender x n)) := by
  obtain ⟨v0, v1, v2, v3, rfl, k0, k1, k2, k3⟩ := hv
  obtain ⟨A0, c0, rfl, hA0⟩ := k0
  obtain ⟨A1, c1, rfl, hA1⟩ := k1
  obtain ⟨A2, c2, rfl, hA2⟩ := k2
  obtain ⟨A3, c3, rfl, hA3⟩ := k3
  obtain ⟨hb0, hb1, hb2, hb3⟩ := hb
  refine cv_of Try.func48 rfl rfl rfl <| SQ <| RG <| BX [_, _, _, _, _, _, _, _, _, _, _, _] rfl rfl rfl <| fun b1 => AS rfl rfl <| ND <| SQ <| RG <| FA rfl tyF_laws_Sender_1 rfl <| LS (i := 0) [_, _, _, _] rfl tyS_laws_Ring rfl rfl rfl rfl <| MV rfl rfl <| CV1 rfl fun_laws_szRing rfl (fun w hs => laws_szRing ⟨_, rfl, (hA0.s Pl.keeps hs)⟩ _ (show _ ≤ _ by first | omega | assumption) (by omega) (by omega)) <| AS rfl rfl <| ND <| SQ <| SQ <| RG <| MV rfl rfl <| rw_lss rfl rfl rfl <| ND <| ?_
  refine gw_cond rfl (fun h1 => ?_) (fun h1 => ?_)
  · refine SQ <| RG <| AS rfl rfl <| ND <| ret_cv Try.func48 (res1 Try.func48 rfl (rv_tmp rfl)) <| ?_
    simp [szSender, id, thenSz, h1]
  · have hnn1 := nn_of h1
    obtain ⟨hle1, hz1_0⟩ := szRing_ok (show _ ≤ _ by first | omega | assumption) (by omega) (by omega) hnn1
    replace hz1_0 : x.ring.cells.length ≤ 1048576 := hz1_0
    refine SK <| SQ <| RG <| FA rfl tyF_laws_Sender_2 rfl <| LD (i := 0) rfl tyP_S_laws_Range rfl rfl rfl <| MV rfl rfl <| CV1 rfl fun_laws_szRangeS rfl (fun w hs => laws_szRangeS (hA1.s Pl.keeps hs) _) <| AS rfl rfl <| ND <| SQ <| SQ <| RG <| MV rfl rfl <| rw_lss rfl rfl rfl <| ND <| ?_
    refine gw_cond rfl (fun h2 => ?_) (fun h2 => ?_)
    · refine SQ <| RG <| AS rfl rfl <| ND <| ret_cv Try.func48 (res1 Try.func48 rfl (rv_tmp rfl)) <| ?_
      simp [szSender, id, thenSz, h1, h2]
    · have hnn2 := nn_of h2
      obtain ⟨hle2, hz2_0⟩ := szLen_ok (by first | omega | assumption) (by omega) (by omega) hnn2
      refine SK <| SQ <| RG <| FA rfl tyF_laws_Sender_3 rfl <| LD (i := 0) rfl tyP_S_laws_Range rfl rfl rfl <| MV rfl rfl <| CV1 rfl fun_laws_szRangeS rfl (fun w hs => laws_szRangeS (hA2.s Pl.keeps hs) _) <| AS rfl rfl <| ND <| SQ <| SQ <| RG <| MV rfl rfl <| rw_lss rfl rfl rfl <| ND <| ?_
      refine gw_cond rfl (fun h3 => ?_) (fun h3 => ?_)
      · refine SQ <| RG <| AS rfl rfl <| ND <| ret_cv Try.func48 (res1 Try.func48 rfl (rv_tmp rfl)) <| ?_
        simp [szSender, id, thenSz, h1, h2, h3]
      · have hnn3 := nn_of h3
        obtain ⟨hle3, hz3_0⟩ := szLen_ok (by first | omega | assumption) (by omega) (by omega) hnn3
        refine SK <| SQ <| RG <| FA rfl tyF_laws_Sender_4 rfl <| LD (i := 0) rfl tyP_S_laws_Range rfl rfl rfl <| MV rfl rfl <| CV1 rfl fun_laws_szRangeS rfl (fun w hs => laws_szRangeS (hA3.s Pl.keeps hs) _) <| AS rfl rfl <| ND <| SQ <| SQ <| RG <| MV rfl rfl <| rw_lss rfl rfl rfl <| ND <| ?_
        refine gw_cond rfl (fun h4 => ?_) (fun h4 => ?_)
        · refine SQ <| RG <| AS rfl rfl <| ND <| ret_cv Try.func48 (res1 Try.func48 rfl (rv_tmp rfl)) <| ?_
          simp [szSender, id, thenSz, h1, h2, h3, h4]
        · have hnn4 := nn_of h4
          obtain ⟨hle4, hz4_0⟩ := szLen_ok (by first | omega | assumption) (by omega) (by omega) hnn4
          refine SK <| SQ <| RG <| MV rfl rfl <| AS rfl rfl <| ND <| ret_cv Try.func48 (res1 Try.func48 rfl (rv_tmp rfl)) <| ?_
          simp [szSender, id, thenSz, h1, h2, h3, h4]

theorem laws_szChunk (p : Chunk) (n : Int) (w : World) : CV Try.prog 213 [.agg p.cells.toArray, .int .i64 n] w (.int .i64 (szStr p.data n)) := by
  refine cv_of Try.func213 rfl rfl rfl <| SQ <| RG <| BX [_, _] rfl rfl rfl <| fun b1 => AS rfl rfl <| ND <| SQ <| RG <| MV rfl rfl <| FA rfl tyF_laws_Chunk_1 rfl <| LD (i := 0) rfl tyP_string rfl rfl rfl <| rw_lenS rfl (by kernel_rfl) rfl <| rw_sub rfl rfl rfl <| AS rfl rfl <| ND <| SQ <| SQ <| RG <| MV rfl rfl <| rw_lss rfl rfl rfl <| ND <| ?_
  refine gw_cond rfl (fun h1 => ?_) (fun h1 => ?_)
  · refine SQ <| RG <| AS rfl rfl <| ND <| ret_cv Try.func213 (res1 Try.func213 rfl (rv_tmp rfl)) <| ?_
    simp only [szStr, h1] <;> rfl
  · refine SK <| SQ <| RG <| MV rfl rfl <| AS rfl rfl <| ND <| ret_cv Try.func213 (res1 Try.func213 rfl (rv_tmp rfl)) <| ?_
    simp only [szStr, h1] <;> rfl

theorem laws_szChunkS {w : World} {v : Value} {l : List Chunk} (hv : RdS w 2 (Pl Chunk.cells) v l) (n : Int) (hb : l.length ≤ 9223372036854775807) (hp : ∀ y ∈ l, y.data.size ≤ 9223372036854775807) (h0 : 0 ≤ n) (hn : n ≤ 1048576) : CV Try.prog 192 [v, .int .i64 n] w (.int .i64 (szChunks l n)) := by
  obtain ⟨A, c, rfl, hA⟩ := hv
  refine cv_of Try.func192 rfl rfl rfl <| SQ <| RG <| AS rfl rfl <| ND <| SQ <| RG <| MV rfl rfl <| MV rfl rfl <| rw_len rfl tyE_S_laws_Chunk rfl <| rw_sub rfl rfl rfl <| AS rfl rfl <| ND <| SQ <| SQ <| RG <| MV rfl rfl <| rw_lss rfl rfl rfl <| ND <| ?_
  refine gw_cond rfl (fun h1 => ?_) (fun h1 => ?_)
  · refine SQ <| RG <| AS rfl rfl <| ND <| ret_cv Try.func192 (res1 Try.func192 rfl (rv_tmp rfl)) <| ?_
    exact congrArg _ (sz_neg h1 _).symm
  · refine SK <| SQ <| SQ <| RG <| AS rfl rfl <| ND <| BK <| ?_
    refine gw_loopC (α := Nat × Int) (fun z_ => z_.1 ≤ l.length ∧ (0 ≤ z_.2 ∧ z_.2 ≤ 1048576) ∧ szChunks l n = szAll (fun c a => szStr c.data a) (l.drop z_.1) z_.2) (fun z_ => l.length - z_.1) (fun e z_ => (5, .int .i64 (z_.1 : Int)) :: (1, .int .i64 z_.2) :: e) (0, w64 (n - l.length)) [(0, _)] (Sub.consE rfl rfl (Sub.consE rfl rfl (Sub.cons (i := 0) rfl (Sub.nil _)))) ?_ ?_
    · exact ⟨Nat.zero_le _, (sz_start hb h0 hn h1).1, (sz_start hb h0 hn h1).2 _⟩
    · rintro ⟨i, a⟩ hI1 ih1
      dsimp only at hI1
      dsimp only
      have hbn := (sz_start hb h0 hn h1).1
      obtain ⟨hle, ha, hI⟩ := hI1
      refine SQ <| SQ <| RG <| MV rfl rfl <| MV rfl rfl <| rw_len rfl tyE_S_laws_Chunk rfl <| rw_lss rfl rfl rfl <| ND <| ?_
      refine gw_cond rfl (fun h2 => ?_) (fun h2 => ?_)
      · have hi2 := lt_of_dec h2
        obtain ⟨x3, hx3⟩ := get_of_lt hi2
        have hd3 := drop_cons hx3
        refine SK <| SQ <| BK <| SQ <| RG <| MV rfl rfl <| MV rfl rfl <| ?_
        have hq4 := hA.plain hx3
        have ha4 := hp x3 (List.mem_of_getElem? hx3)
        refine rw_indexAddr (i) rfl tyE_S_laws_Chunk rfl rfl rfl (hA.some hi2) hi2 <| rw_loadX_s [_, _] rfl tyS_laws_Chunk rfl rfl (fun w hs => hq4.lds0 (n := 2) hs rfl) <| MV rfl rfl <| CV1 rfl fun_laws_szChunk rfl (fun w hs => laws_szChunk _ _ w) <| AS rfl rfl <| ND <| SQ <| RG <| MV rfl rfl <| rw_lss rfl rfl rfl <| ND <| ?_
        refine gw_cond rfl (fun h3 => ?_) (fun h3 => ?_)
        · refine SQ <| RG <| AS rfl rfl <| ND <| ret_cv Try.func192 (res1 Try.func192 rfl (rv_tmp rfl)) <| ?_
          rw [hI, hd3]; simp [szAll, thenSz, h3]
        · have hnn5 := nn_of h3
          obtain ⟨hle5, hz5_0⟩ := szStr_ok (by first | omega | assumption) (by omega) (by omega) hnn5
          refine SK <| IB <| RG <| MV rfl rfl <| rw_add rfl rfl rfl <| AS rfl rfl <| ND <| ?_
          refine gw_sub (Sub.consE (i := 5) rfl (int_succ (by omega)) (Sub.consE (i := 1) rfl rfl (Sub.cons (i := 0) rfl (Sub.nil _)))) (ih1 (i + 1, szStr x3.data a) ?_ ?_)
          · exact ⟨by omega, ⟨nn_of h3, by omega⟩, by rw [hI, hd3]; simp [szAll, thenSz, h3]⟩
          · show l.length - (i + 1) < l.length - i; omega
      · have hn6 := nil_of_dec h2
        refine EX rfl <| SQ <| RG <| MV rfl rfl <| AS rfl rfl <| ND <| ret_cv Try.func192 (res1 Try.func192 rfl (rv_tmp rfl)) <| ?_
        rw [hI, hn6]; rfl

theorem laws_szBuffer {w : World} {cs : List Value} {x : Buffer} (hv : RdBuffer w cs x) (n : Int) (hb : x.le 9223372036854775807) (h0 : 0 ≤ n) (hn : n ≤ 1048576) : CV Try.prog 127 [.agg cs.toArray, .int .i64 n] w (.int .i64 (szBuffer x n)) := by
  obtain ⟨v0, rfl, k0⟩ := hv
  obtain ⟨A0, c0, rfl, hA0⟩ := k0
  obtain ⟨hb0, hb1⟩ := hb
  refine cv_of Try.func127 rfl rfl rfl <| SQ <| RG <| BX [_, _] rfl rfl rfl <| fun b1 => AS rfl rfl <| ND <| SQ <| RG <| FA rfl tyF_laws_Buffer_1 rfl <| LD (i := 0) rfl tyP_S_laws_Chunk rfl rfl rfl <| MV rfl rfl <| CV1 rfl fun_laws_szChunkS rfl (fun w hs => laws_szChunkS (hA0.s Pl.keeps hs) _ (by first | omega | assumption) (by first | omega | assumption) (by omega) (by omega)) <| AS rfl rfl <| ND <| SQ <| SQ <| RG <| MV rfl rfl <| rw_lss rfl rfl rfl <| ND <| ?_
  refine gw_cond rfl (fun h1 => ?_) (fun h1 => ?_)
  · refine SQ <| RG <| AS rfl rfl <| ND <| ret_cv Try.func127 (res1 Try.func127 rfl (rv_tmp rfl)) <| ?_
    simp [szBuffer, id, thenSz, h1]
  · have hnn1 := nn_of h1
    obtain ⟨hle1, hz1_0, hz1_1⟩ := szChunks_ok (by first | omega | assumption) (by first | omega | assumption) (by omega) (by omega) hnn1
    refine SK <| SQ <| RG <| MV rfl rfl <| AS rfl rfl <| ND <| ret_cv Try.func127 (res1 Try.func127 rfl (rv_tmp rfl)) <| ?_
    simp [szBuffer, id, thenSz, h1]

theorem laws_szReceiver {w : World} {cs : List Value} {x : Receiver} (hv : RdReceiver w cs x) (n : Int) (hb : x.le 9223372036854775807) (h0 : 0 ≤ n) (hn : n ≤ 1048576) : CV Try.prog 49 [.agg cs.toArray, .int .i64 n] w (.int .i64 (szReceiver x n)) := by
  obtain ⟨v0, rfl, k0⟩ := hv
  obtain ⟨A0, c0, rfl, hA0⟩ := k0
  obtain ⟨hb0, hb1⟩ := hb
  refine cv_of Try.func49 rfl rfl rfl <| SQ <| RG <| BX [_, _, _, _, _, _] rfl rfl rfl <| fun b1 => AS rfl rfl <| ND <| SQ <| RG <| FA rfl tyF_laws_Receiver_1 rfl <| LS (i := 0) [_, _] rfl tyS_laws_Buffer rfl rfl rfl rfl <| MV rfl rfl <| CV1 rfl fun_laws_szBuffer rfl (fun w hs => laws_szBuffer ⟨_, rfl, (hA0.s Pl.keeps hs)⟩ _ ⟨by first | omega | assumption, by first | omega | assumption⟩ (by omega) (by omega)) <| AS rfl rfl <| ND <| SQ <| SQ <| RG <| MV rfl rfl <| rw_lss rfl rfl rfl <| ND <| ?_
  refine gw_cond rfl (fun h1 => ?_) (fun h1 => ?_)
  · refine SQ <| RG <| AS rfl rfl <| ND <| ret_cv Try.func49 (res1 Try.func49 rfl (rv_tmp rfl)) <| ?_
    simp [szReceiver, id, thenSz, h1]
  · have hnn1 := nn_of h1
    obtain ⟨hle1, hz1_0, hz1_1⟩ := szBuffer_ok ⟨by first | omega | assumption, by first | omega | assumption⟩ (by omega) (by omega) hnn1
    refine SK <| SQ <| RG <| MV rfl rfl <| AS rfl rfl <| ND <| ret_cv Try.func49 (res1 Try.func49 rfl (rv_tmp rfl)) <| ?_
    simp [szReceiver, id, thenSz, h1]

theorem laws_szStream {w : World} {cs : List Value} {x : Stream} (hv : RdStream w cs x) (n : Int) (hb : x.le 9223372036854775807) (h0 : 0 ≤ n) (hn : n ≤ 1048576) : CV Try.prog 9 [.agg cs.toArray, .int .i64 n] w (.int .i64 (szStream x n)) := by
  obtain ⟨v0, v1, v2, v3, v4, rfl, k0, k1, k2, k3, k4⟩ := hv
  obtain ⟨A0, c0, rfl, hA0⟩ := k0
  obtain ⟨A1, c1, rfl, hA1⟩ := k1
  obtain ⟨A2, c2, rfl, hA2⟩ := k2
  obtain ⟨A3, c3, rfl, hA3⟩ := k3
  obtain ⟨A4, c4, rfl, hA4⟩ := k4
  obtain ⟨hb0, hb1, hb2, hb3, hb4, hb5⟩ := hb
  refine cv_of Try.func9 rfl rfl rfl <| SQ <| RG <| BX [_, _, _, _, _, _, _, _, _, _, _, _, _, _, _, _, _, _, _, _, _, _, _, _, _, _, _, _, _, _, _, _, _, _, _, _, _, _, _] rfl rfl rfl <| fun b1 => AS rfl rfl <| ND <| SQ <| RG <| FA rfl tyF_laws_Stream_1 rfl <| LS (i := 0) [_, _, _, _, _, _, _, _, _, _, _, _] rfl tyS_laws_Sender rfl rfl rfl rfl <| MV rfl rfl <| CV1 rfl fun_laws_szSender rfl (fun w hs => laws_szSender ⟨_, _, _, _, rfl, (hA0.s Pl.keeps hs), (hA1.s Pl.keeps hs), (hA2.s Pl.keeps hs), (hA3.s Pl.keeps hs)⟩ _ ⟨by first | omega | assumption, by first | omega | assumption, by first | omega | assumption, by first | omega | assumption⟩ (by omega) (by omega)) <| ?_
  refine AS rfl rfl <| ND <| SQ <| SQ <| RG <| MV rfl rfl <| rw_lss rfl rfl rfl <| ND <| ?_
  refine gw_cond rfl (fun h1 => ?_) (fun h1 => ?_)
  · refine SQ <| RG <| AS rfl rfl <| ND <| ret_cv Try.func9 (res1 Try.func9 rfl (rv_tmp rfl)) <| ?_
    simp [szStream, id, thenSz, h1]
  · have hnn1 := nn_of h1
    obtain ⟨hle1, hz1_0, hz1_1, hz1_2, hz1_3⟩ := szSender_ok ⟨by first | omega | assumption, by first | omega | assumption, by first | omega | assumption, by first | omega | assumption⟩ (by omega) (by omega) hnn1
    refine SK <| SQ <| RG <| FA rfl tyF_laws_Stream_3 rfl <| LS (i := 0) [_, _, _, _, _, _] rfl tyS_laws_Receiver rfl rfl rfl rfl <| MV rfl rfl <| CV1 rfl fun_laws_szReceiver rfl (fun w hs => laws_szReceiver ⟨_, rfl, (hA4.s Pl.keeps hs)⟩ _ ⟨by first | omega | assumption, by first | omega | assumption⟩ (by omega) (by omega)) <| AS rfl rfl <| ND <| SQ <| SQ <| RG <| MV rfl rfl <| rw_lss rfl rfl rfl <| ND <| ?_
    refine gw_cond rfl (fun h2 => ?_) (fun h2 => ?_)
    · refine SQ <| RG <| AS rfl rfl <| ND <| ret_cv Try.func9 (res1 Try.func9 rfl (rv_tmp rfl)) <| ?_
      simp [szStream, id, thenSz, h1, h2]
    · have hnn2 := nn_of h2
      obtain ⟨hle2, hz2_0, hz2_1⟩ := szReceiver_ok ⟨by first | omega | assumption, by first | omega | assumption⟩ (by omega) (by omega) hnn2
      refine SK <| SQ <| RG <| MV rfl rfl <| AS rfl rfl <| ND <| ret_cv Try.func9 (res1 Try.func9 rfl (rv_tmp rfl)) <| ?_
      simp [szStream, id, thenSz, h1, h2]

theorem laws_toIntS {w : World} {v : Value} {l : List Int} (hv : RdS w 1 (Pl intC) v l) (hb : l.length ≤ 1048576) : CN Try.prog 196 [v] w (fun v ch => OwS 3 1 (PlO intC) v l ch) := by
  obtain ⟨A, c, rfl, hA⟩ := hv
  refine cn_of Try.func196 rfl rfl rfl <| SQ <| RG <| AS rfl rfl <| ND <| SQ <| RG <| MV rfl rfl <| rw_len rfl tyE_S_int rfl <| rw_make rfl tyM_S_int rfl rfl (by omega) <| fun b1 => AS rfl rfl <| ND <| SQ <| SQ <| RG <| AS rfl rfl <| ND <| BK <| ?_
  refine gw_loopX (α := Nat × List Value × List Ck) (fun z_ => z_.1 ≤ l.length ∧ Ows (PlO intC) (l.take z_.1) z_.2.1 z_.2.2) (fun z_ => l.length - z_.1) (fun e z_ => (4, .int .i64 (z_.1 : Int)) :: e) (fun B z_ => B.set 0 ⟨b1, 3, z_.2.1 ++ (List.replicate (l.length - z_.1) [.int .i64 0]).flatten⟩) (fun F z_ => z_.2.2 ++ F) (0, [], []) [(0, _), (2, _), (3, _)] (Sub.consE rfl rfl (Sub.cons (i := 0) rfl (Sub.cons (i := 2) rfl (Sub.cons (i := 3) rfl (Sub.nil _))))) rfl rfl ?_ ?_
  · exact ⟨Nat.zero_le _, .nil⟩
  · rintro ⟨i, cs, chs⟩ hI1 ih1
    dsimp only at hI1
    dsimp only [List.set]
    obtain ⟨hle, hO⟩ := hI1
    refine SQ <| SQ <| RG <| MV rfl rfl <| MV rfl rfl <| rw_len rfl tyE_S_int rfl <| rw_lss rfl rfl rfl <| ND <| ?_
    refine gw_cond rfl (fun h1 => ?_) (fun h1 => ?_)
    · have hi2 := lt_of_dec h1
      obtain ⟨x3, hx3⟩ := get_of_lt hi2
      have hd3 := drop_cons hx3
      refine SK <| SQ <| BK <| RG <| MV rfl rfl <| MV rfl rfl <| MV rfl rfl <| MV rfl rfl <| ?_
      have hq4 := hA.plain hx3
      refine rw_indexAddr (i) rfl tyE_S_int rfl rfl rfl (hA.some hi2) hi2 <| rw_loadX _ rfl tyP_int rfl (fun w hs => hq4.ld0 hs rfl) <| rw_indexAddrO (i) rfl tyE_S_int rfl rfl rfl hi2 <| rw_storeMade (j := 0) [_] tyP_int.sz rfl rfl rfl rfl rfl rfl (by rw [hO.length eInt, List.length_take]; congr 1; omega) hi2 (eInt.one ⟨rfl, rfl⟩) <| ND <| IB <| RG <| MV rfl rfl <| rw_add rfl rfl rfl <| AS rfl rfl <| ND <| ?_
      refine gw_sub (Sub.consE (i := 4) rfl (int_succ (by omega)) (Sub.cons (i := 0) rfl (Sub.cons (i := 2) rfl (Sub.cons (i := 3) rfl (Sub.nil _))))) (ih1 (i + 1, cs ++ (intC x3), chs) ?_ ?_)
      · exact ⟨by omega, by simpa using ows_step hO hx3 (ch := []) ⟨rfl, rfl⟩⟩
      · show l.length - (i + 1) < l.length - i; omega
    · have hn5 := nil_of_dec h1
      refine EX rfl <| SQ <| RG <| MV rfl rfl <| AS rfl rfl <| ND <| ?_
      refine ret_cn (⟨b1, 3, cs ++ (List.replicate (l.length - i) [.int .i64 0]).flatten⟩ :: chs) Try.func196 (res1 Try.func196 rfl (rv_tmp rfl)) ?_ ?_
      · exact ows_made eInt hO hle hn5 (by omega)
      · simp

theorem laws_toRing {w : World} {cs : List Value} {x : Ring} (hv : RdRing w cs x) (hb : x.le 1048576) : CN Try.prog 134 [.agg cs.toArray] w (OwV OwRing x) := by
  obtain ⟨v0, rfl, k0⟩ := hv
  obtain ⟨A0, c0, rfl, hA0⟩ := k0
  have hb0 : x.cells.length ≤ 1048576 := hb
  refine cn_of Try.func134 rfl rfl rfl <| SQ <| RG <| BX [_, _, _, _] rfl rfl rfl <| fun b1 => AL rfl tyZ_impl_Ring <| fun b2 => ND <| SQ <| RG <| AL rfl tyZ_impl_Ring <| fun b3 => ND <| SQ <| RG <| FA rfl tyF_laws_Ring_0 rfl <| LD (i := 2) rfl tyP_int rfl rfl rfl <| FA rfl tyF_impl_Ring_0 rfl <| ST (i := 0) [_] [_, _, _, _] tyP_int.sz rfl rfl rfl rfl rfl rfl rfl rfl <| ND <| SQ <| RG <| FA rfl tyF_laws_Ring_1 rfl <| LD (i := 2) rfl tyP_int rfl rfl rfl <| FA rfl tyF_impl_Ring_1 rfl <| ?_
  refine ST (i := 0) [_] [_, _, _, _] tyP_int.sz rfl rfl rfl rfl rfl rfl rfl rfl <| ND <| SQ <| RG <| FA rfl tyF_laws_Ring_2 rfl <| LD (i := 2) rfl tyP_int rfl rfl rfl <| FA rfl tyF_impl_Ring_2 rfl <| ST (i := 0) [_] [_, _, _, _] tyP_int.sz rfl rfl rfl rfl rfl rfl rfl rfl <| ND <| SQ <| RG <| FA rfl tyF_laws_Ring_3 rfl <| LD (i := 2) rfl tyP_S_int rfl rfl rfl <| CN1 rfl fun_laws_toIntS rfl (fun w hs => laws_toIntS (hA0.s Pl.keeps hs) (by omega)) <| fun v1 ch1 how1 => ?_
  obtain ⟨R1, rc1, rfl, hR1, hrd1⟩ := how1.shape eInt
  refine FA rfl tyF_impl_Ring_3 rfl <| ST (i := 0) [_] [_, _, _, _] tyP_S_int.sz rfl rfl rfl rfl rfl rfl rfl rfl <| ND <| SQ <| RG <| LS (i := 0) [_, _, _, _] rfl tyS_impl_Ring rfl rfl rfl rfl <| ST (i := 1) [_, _, _, _] [_, _, _, _] tyS_impl_Ring.sz rfl rfl rfl rfl rfl rfl rfl rfl <| ND <| ?_
  refine ret_cnP (ch := ch1) (G := ch1 ++ ([])) (F' := []) Try.func134 (res1 Try.func134 rfl (rv_s (i := 1) [_, _, _, _] tyS_impl_Ring rfl rfl rfl rfl)) ?_ ?_ ?_
  · exact ⟨_, rfl, _, _, rfl, how1, rfl⟩
  · exact ((List.Perm.refl _).trans ((List.Perm.refl _).append_left _))
  · simp only []

theorem laws_toRange (a : Range) (w : World) : CV Try.prog 197 [.agg a.cells.toArray] w (.agg a.cells.toArray) := by
  refine cv_of Try.func197 rfl rfl rfl <| SQ <| RG <| BX [_, _] rfl rfl rfl <| fun b1 => AL rfl tyZ_impl_Range <| fun b2 => ND <| SQ <| RG <| AL rfl tyZ_impl_Range <| fun b3 => ND <| SQ <| RG <| FA rfl tyF_laws_Range_0 rfl <| LD (i := 2) rfl tyP_int rfl rfl rfl <| FA rfl tyF_impl_Range_0 rfl <| ST (i := 0) [_] [_, _] tyP_int.sz rfl rfl rfl rfl rfl rfl rfl rfl <| ND <| SQ <| RG <| FA rfl tyF_laws_Range_1 rfl <| LD (i := 2) rfl tyP_int rfl rfl rfl <| FA rfl tyF_impl_Range_1 rfl <| ?_
  refine ST (i := 0) [_] [_, _] tyP_int.sz rfl rfl rfl rfl rfl rfl rfl rfl <| ND <| SQ <| RG <| LS (i := 0) [_, _] rfl tyS_impl_Range rfl rfl rfl rfl <| ST (i := 1) [_, _] [_, _] tyS_impl_Range.sz rfl rfl rfl rfl rfl rfl rfl rfl <| ND <| ret_cv Try.func197 (res1 Try.func197 rfl (rv_s (i := 1) [_, _] tyS_impl_Range rfl rfl rfl rfl)) <| ?_
  rfl

theorem laws_toRangeS {w : World} {v : Value} {l : List Range} (hv : RdS w 2 (Pl Range.cells) v l) (hb : l.length ≤ 1048576) : CN Try.prog 135 [v] w (fun v ch => OwS 156 2 (PlO Range.cells) v l ch) := by
  obtain ⟨A, c, rfl, hA⟩ := hv
  refine cn_of Try.func135 rfl rfl rfl <| SQ <| RG <| AS rfl rfl <| ND <| SQ <| RG <| MV rfl rfl <| rw_len rfl tyE_S_laws_Range rfl <| rw_make rfl tyM_S_impl_Range rfl rfl (by omega) <| fun b1 => AS rfl rfl <| ND <| SQ <| SQ <| RG <| AS rfl rfl <| ND <| BK <| ?_
  refine gw_loopX (α := Nat × List Value × List Ck) (fun z_ => z_.1 ≤ l.length ∧ Ows (PlO Range.cells) (l.take z_.1) z_.2.1 z_.2.2) (fun z_ => l.length - z_.1) (fun e z_ => (4, .int .i64 (z_.1 : Int)) :: e) (fun B z_ => B.set 0 ⟨b1, 156, z_.2.1 ++ (List.replicate (l.length - z_.1) [.int .i64 0, .int .i64 0]).flatten⟩) (fun F z_ => z_.2.2 ++ F) (0, [], []) [(0, _), (2, _), (3, _)] (Sub.consE rfl rfl (Sub.cons (i := 0) rfl (Sub.cons (i := 2) rfl (Sub.cons (i := 3) rfl (Sub.nil _))))) rfl rfl ?_ ?_
  · exact ⟨Nat.zero_le _, .nil⟩
  · rintro ⟨i, cs, chs⟩ hI1 ih1
    dsimp only at hI1
    dsimp only [List.set]
    obtain ⟨hle, hO⟩ := hI1
    refine SQ <| SQ <| RG <| MV rfl rfl <| MV rfl rfl <| rw_len rfl tyE_S_laws_Range rfl <| rw_lss rfl rfl rfl <| ND <| ?_
    refine gw_cond rfl (fun h1 => ?_) (fun h1 => ?_)
    · have hi2 := lt_of_dec h1
      obtain ⟨x3, hx3⟩ := get_of_lt hi2
      have hd3 := drop_cons hx3
      refine SK <| SQ <| BK <| RG <| MV rfl rfl <| MV rfl rfl <| MV rfl rfl <| MV rfl rfl <| ?_
      have hq4 := hA.plain hx3
      refine rw_indexAddr (i) rfl tyE_S_laws_Range rfl rfl rfl (hA.some hi2) hi2 <| rw_loadX_s [_, _] rfl tyS_laws_Range rfl rfl (fun w hs => hq4.lds0 (n := 2) hs rfl) <| CV1 rfl fun_laws_toRange rfl (fun w hs => laws_toRange _ w) <| rw_indexAddrO (i) rfl tyE_S_impl_Range rfl rfl rfl hi2 <| rw_storeMade (j := 0) [_, _] tyS_impl_Range.sz rfl rfl rfl rfl rfl rfl (by rw [hO.length eRange, List.length_take]; congr 1; omega) hi2 (eRange.one ⟨rfl, rfl⟩) <| ND <| IB <| RG <| MV rfl rfl <| rw_add rfl rfl rfl <| AS rfl rfl <| ND <| ?_
      refine gw_sub (Sub.consE (i := 4) rfl (int_succ (by omega)) (Sub.cons (i := 0) rfl (Sub.cons (i := 2) rfl (Sub.cons (i := 3) rfl (Sub.nil _))))) (ih1 (i + 1, cs ++ (Range.cells x3), chs) ?_ ?_)
      · exact ⟨by omega, by simpa using ows_step hO hx3 (ch := []) ⟨rfl, rfl⟩⟩
      · show l.length - (i + 1) < l.length - i; omega
    · have hn5 := nil_of_dec h1
      refine EX rfl <| SQ <| RG <| MV rfl rfl <| AS rfl rfl <| ND <| ?_
      refine ret_cn (⟨b1, 156, cs ++ (List.replicate (l.length - i) [.int .i64 0, .int .i64 0]).flatten⟩ :: chs) Try.func135 (res1 Try.func135 rfl (rv_tmp rfl)) ?_ ?_
      · exact ows_made eRange hO hle hn5 (by omega)
      · simp

theorem laws_toSender {w : World} {cs : List Value} {x : Sender} (hv : RdSender w cs x) (hb : x.le 1048576) : CN Try.prog 53 [.agg cs.toArray] w (OwV OwSender x) := by
  obtain ⟨v0, v1, v2, v3, rfl, k0, k1, k2, k3⟩ := hv
  obtain ⟨A0, c0, rfl, hA0⟩ := k0
  obtain ⟨A1, c1, rfl, hA1⟩ := k1
  obtain ⟨A2, c2, rfl, hA2⟩ := k2
  obtain ⟨A3, c3, rfl, hA3⟩ := k3
  obtain ⟨hb0, hb1, hb2, hb3⟩ := hb
  refine cn_of Try.func53 rfl rfl rfl <| SQ <| RG <| BX [_, _, _, _, _, _, _, _, _, _, _, _] rfl rfl rfl <| fun b1 => AL rfl tyZ_impl_Sender <| fun b2 => ND <| SQ <| RG <| AL rfl tyZ_impl_Sender <| fun b3 => ND <| SQ <| RG <| FA rfl tyF_laws_Sender_0 rfl <| LD (i := 2) rfl tyP_int rfl rfl rfl <| FA rfl tyF_impl_Sender_0 rfl <| rw_storeN (i := 0) [_] [_, _, _, _, _, _, _, _, _, _, _, _] [_, _, _] tyP_int.sz rfl rfl rfl rfl rfl rfl rfl rfl rfl <| ND <| SQ <| RG <| FA rfl tyF_laws_Sender_1 rfl <| LS (i := 2) [_, _, _, _] rfl tyS_laws_Ring rfl rfl rfl rfl <| ?_
  refine CN1 rfl fun_laws_toRing rfl (fun w hs => laws_toRing ⟨_, rfl, (hA0.s Pl.keeps hs)⟩ (show _ ≤ _ from hb0)) <| fun vv1 ch1 how1 => ?_
  obtain ⟨cs1, rfl, v1_0, c1_0, rfl, h1_0, rfl⟩ := how1
  obtain ⟨R1_0, b1_0, rfl, hR1_0, hrd1_0⟩ := h1_0.shape eInt
  refine FA rfl tyF_impl_Sender_1 rfl <| rw_storeN (i := 0) [_, _, _, _] [_, _, _, _, _, _, _, _, _, _, _, _] [_, _, _] tyS_impl_Ring.sz rfl rfl rfl rfl rfl rfl rfl rfl rfl <| ND <| SQ <| RG <| FA rfl tyF_laws_Sender_2 rfl <| LD (i := 2) rfl tyP_S_laws_Range rfl rfl rfl <| CN1 rfl fun_laws_toRangeS rfl (fun w hs => laws_toRangeS (hA1.s Pl.keeps hs) (by omega)) <| fun v2 ch2 how2 => ?_
  obtain ⟨R2, rc2, rfl, hR2, hrd2⟩ := how2.shape eRange
  refine FA rfl tyF_impl_Sender_2 rfl <| rw_storeN (i := 0) [_] [_, _, _, _, _, _, _, _, _, _, _, _] [_, _, _] tyP_S_impl_Range.sz rfl rfl rfl rfl rfl rfl rfl rfl rfl <| ND <| SQ <| RG <| FA rfl tyF_laws_Sender_3 rfl <| LD (i := 2) rfl tyP_S_laws_Range rfl rfl rfl <| CN1 rfl fun_laws_toRangeS rfl (fun w hs => laws_toRangeS (hA2.s Pl.keeps hs) (by omega)) <| fun v3 ch3 how3 => ?_
  obtain ⟨R3, rc3, rfl, hR3, hrd3⟩ := how3.shape eRange
  refine FA rfl tyF_impl_Sender_3 rfl <| rw_storeN (i := 0) [_] [_, _, _, _, _, _, _, _, _, _, _, _] [_, _, _] tyP_S_impl_Range.sz rfl rfl rfl rfl rfl rfl rfl rfl rfl <| ND <| SQ <| RG <| FA rfl tyF_laws_Sender_4 rfl <| LD (i := 2) rfl tyP_S_laws_Range rfl rfl rfl <| CN1 rfl fun_laws_toRangeS rfl (fun w hs => laws_toRangeS (hA3.s Pl.keeps hs) (by omega)) <| fun v4 ch4 how4 => ?_
  obtain ⟨R4, rc4, rfl, hR4, hrd4⟩ := how4.shape eRange
  refine FA rfl tyF_impl_Sender_4 rfl <| rw_storeN (i := 0) [_] [_, _, _, _, _, _, _, _, _, _, _, _] [_, _, _] tyP_S_impl_Range.sz rfl rfl rfl rfl rfl rfl rfl rfl rfl <| ND <| SQ <| RG <| FA rfl tyF_laws_Sender_5 rfl <| LD (i := 2) rfl tyP_int rfl rfl rfl <| FA rfl tyF_impl_Sender_5 rfl <| rw_storeN (i := 0) [_] [_, _, _, _, _, _, _, _, _, _, _, _] [_, _, _] tyP_int.sz rfl rfl rfl rfl rfl rfl rfl rfl rfl <| ND <| SQ <| RG <| FA rfl tyF_laws_Sender_6 rfl <| LD (i := 2) rfl tyP_int rfl rfl rfl <| FA rfl tyF_impl_Sender_6 rfl <| ?_
  refine rw_storeN (i := 0) [_] [_, _, _, _, _, _, _, _, _, _, _, _] [_, _, _] tyP_int.sz rfl rfl rfl rfl rfl rfl rfl rfl rfl <| ND <| SQ <| RG <| FA rfl tyF_laws_Sender_7 rfl <| LD (i := 2) rfl tyP_int rfl rfl rfl <| FA rfl tyF_impl_Sender_7 rfl <| rw_storeN (i := 0) [_] [_, _, _, _, _, _, _, _, _, _, _, _] [_, _, _] tyP_int.sz rfl rfl rfl rfl rfl rfl rfl rfl rfl <| ND <| SQ <| RG <| FA rfl tyF_laws_Sender_8 rfl <| LD (i := 2) rfl tyP_int rfl rfl rfl <| FA rfl tyF_impl_Sender_8 rfl <| rw_storeN (i := 0) [_] [_, _, _, _, _, _, _, _, _, _, _, _] [_, _, _] tyP_int.sz rfl rfl rfl rfl rfl rfl rfl rfl rfl <| ?_
  refine ND <| SQ <| RG <| LS (i := 0) [_, _, _, _, _, _, _, _, _, _, _, _] rfl tyS_impl_Sender rfl rfl rfl rfl <| rw_storeN (i := 1) [_, _, _, _, _, _, _, _, _, _, _, _] [_, _, _, _, _, _, _, _, _, _, _, _] [_, _, _] tyS_impl_Sender.sz rfl rfl rfl rfl rfl rfl rfl rfl rfl <| ND <| ?_
  refine ret_cnP (ch := ch1 ++ (ch2 ++ (ch3 ++ (ch4)))) (G := ch1 ++ (ch2 ++ (ch3 ++ (ch4 ++ ([]))))) (F' := []) Try.func53 (res1 Try.func53 rfl (rv_s (i := 1) [_, _, _, _, _, _, _, _, _, _, _, _] tyS_impl_Sender rfl rfl rfl rfl)) ?_ ?_ ?_
  · exact ⟨_, rfl, _, _, _, _, _, _, _, _, rfl, h1_0, how2, how3, how4, rfl⟩
  · exact (((((((((((List.Perm.refl _)).append_left _).trans (pullc _ _ _))).append_left _).trans (pullc _ _ _))).append_left _).trans (pullc _ _ _)).trans (((((((((List.Perm.refl _)).append_left _).trans (pullc _ _ _))).append_left _).trans (pullc _ _ _)).trans ((((((List.Perm.refl _)).append_left _).trans (pullc _ _ _)).trans (((List.Perm.refl _).trans ((List.Perm.refl _).append_left _)).append_left _)).append_left _)).append_left _))
  · simp only [List.append_assoc]

theorem laws_toCredit (a : Credit) (w : World) : CV Try.prog 54 [.agg a.cells.toArray] w (.agg a.cells.toArray) := by
  refine cv_of Try.func54 rfl rfl rfl <| SQ <| RG <| BX [_, _, _, _] rfl rfl rfl <| fun b1 => AL rfl tyZ_impl_Credit <| fun b2 => ND <| SQ <| RG <| AL rfl tyZ_impl_Credit <| fun b3 => ND <| SQ <| RG <| FA rfl tyF_laws_Credit_0 rfl <| LD (i := 2) rfl tyP_int rfl rfl rfl <| FA rfl tyF_impl_Credit_0 rfl <| ST (i := 0) [_] [_, _, _, _] tyP_int.sz rfl rfl rfl rfl rfl rfl rfl rfl <| ND <| SQ <| RG <| FA rfl tyF_laws_Credit_1 rfl <| LD (i := 2) rfl tyP_int rfl rfl rfl <| FA rfl tyF_impl_Credit_1 rfl <| ?_
  refine ST (i := 0) [_] [_, _, _, _] tyP_int.sz rfl rfl rfl rfl rfl rfl rfl rfl <| ND <| SQ <| RG <| FA rfl tyF_laws_Credit_2 rfl <| LD (i := 2) rfl tyP_int rfl rfl rfl <| FA rfl tyF_impl_Credit_2 rfl <| ST (i := 0) [_] [_, _, _, _] tyP_int.sz rfl rfl rfl rfl rfl rfl rfl rfl <| ND <| SQ <| RG <| FA rfl tyF_laws_Credit_3 rfl <| LD (i := 2) rfl tyP_int rfl rfl rfl <| FA rfl tyF_impl_Credit_3 rfl <| ST (i := 0) [_] [_, _, _, _] tyP_int.sz rfl rfl rfl rfl rfl rfl rfl rfl <| ND <| SQ <| RG <| ?_
  refine LS (i := 0) [_, _, _, _] rfl tyS_impl_Credit rfl rfl rfl rfl <| ST (i := 1) [_, _, _, _] [_, _, _, _] tyS_impl_Credit.sz rfl rfl rfl rfl rfl rfl rfl rfl <| ND <| ret_cv Try.func54 (res1 Try.func54 rfl (rv_s (i := 1) [_, _, _, _] tyS_impl_Credit rfl rfl rfl rfl)) <| ?_
  rfl

theorem laws_toChunk (a : Chunk) (w : World) : CV Try.prog 214 [.agg a.cells.toArray] w (.agg a.cells.toArray) := by
  refine cv_of Try.func214 rfl rfl rfl <| SQ <| RG <| BX [_, _] rfl rfl rfl <| fun b1 => AL rfl tyZ_impl_Chunk <| fun b2 => ND <| SQ <| RG <| AL rfl tyZ_impl_Chunk <| fun b3 => ND <| SQ <| RG <| FA rfl tyF_laws_Chunk_0 rfl <| LD (i := 2) rfl tyP_int rfl rfl rfl <| FA rfl tyF_impl_Chunk_0 rfl <| ST (i := 0) [_] [_, _] tyP_int.sz rfl rfl rfl rfl rfl rfl rfl rfl <| ND <| SQ <| RG <| FA rfl tyF_laws_Chunk_1 rfl <| LD (i := 2) rfl tyP_string rfl rfl rfl <| FA rfl tyF_impl_Chunk_1 rfl <| ?_
  refine ST (i := 0) [_] [_, _] tyP_string.sz rfl rfl rfl rfl rfl rfl rfl rfl <| ND <| SQ <| RG <| LS (i := 0) [_, _] rfl tyS_impl_Chunk rfl rfl rfl rfl <| ST (i := 1) [_, _] [_, _] tyS_impl_Chunk.sz rfl rfl rfl rfl rfl rfl rfl rfl <| ND <| ret_cv Try.func214 (res1 Try.func214 rfl (rv_s (i := 1) [_, _] tyS_impl_Chunk rfl rfl rfl rfl)) <| ?_
  rfl

theorem laws_toChunkS {w : World} {v : Value} {l : List Chunk} (hv : RdS w 2 (Pl Chunk.cells) v l) (hb : l.length ≤ 1048576) : CN Try.prog 198 [v] w (fun v ch => OwS 185 2 (PlO Chunk.cells) v l ch) := by
  obtain ⟨A, c, rfl, hA⟩ := hv
  refine cn_of Try.func198 rfl rfl rfl <| SQ <| RG <| AS rfl rfl <| ND <| SQ <| RG <| MV rfl rfl <| rw_len rfl tyE_S_laws_Chunk rfl <| rw_make rfl tyM_S_impl_Chunk rfl rfl (by omega) <| fun b1 => AS rfl rfl <| ND <| SQ <| SQ <| RG <| AS rfl rfl <| ND <| BK <| ?_
  refine gw_loopX (α := Nat × List Value × List Ck) (fun z_ => z_.1 ≤ l.length ∧ Ows (PlO Chunk.cells) (l.take z_.1) z_.2.1 z_.2.2) (fun z_ => l.length - z_.1) (fun e z_ => (4, .int .i64 (z_.1 : Int)) :: e) (fun B z_ => B.set 0 ⟨b1, 185, z_.2.1 ++ (List.replicate (l.length - z_.1) [.int .i64 0, .string ByteArray.empty]).flatten⟩) (fun F z_ => z_.2.2 ++ F) (0, [], []) [(0, _), (2, _), (3, _)] (Sub.consE rfl rfl (Sub.cons (i := 0) rfl (Sub.cons (i := 2) rfl (Sub.cons (i := 3) rfl (Sub.nil _))))) rfl rfl ?_ ?_
  · exact ⟨Nat.zero_le _, .nil⟩
  · rintro ⟨i, cs, chs⟩ hI1 ih1
    dsimp only at hI1
    dsimp only [List.set]
    obtain ⟨hle, hO⟩ := hI1
    refine SQ <| SQ <| RG <| MV rfl rfl <| MV rfl rfl <| rw_len rfl tyE_S_laws_Chunk rfl <| rw_lss rfl rfl rfl <| ND <| ?_
    refine gw_cond rfl (fun h1 => ?_) (fun h1 => ?_)
    · have hi2 := lt_of_dec h1
      obtain ⟨x3, hx3⟩ := get_of_lt hi2
      have hd3 := drop_cons hx3
      refine SK <| SQ <| BK <| RG <| MV rfl rfl <| MV rfl rfl <| MV rfl rfl <| MV rfl rfl <| ?_
      have hq4 := hA.plain hx3
      refine rw_indexAddr (i) rfl tyE_S_laws_Chunk rfl rfl rfl (hA.some hi2) hi2 <| rw_loadX_s [_, _] rfl tyS_laws_Chunk rfl rfl (fun w hs => hq4.lds0 (n := 2) hs rfl) <| CV1 rfl fun_laws_toChunk rfl (fun w hs => laws_toChunk _ w) <| rw_indexAddrO (i) rfl tyE_S_impl_Chunk rfl rfl rfl hi2 <| rw_storeMade (j := 0) [_, _] tyS_impl_Chunk.sz rfl rfl rfl rfl rfl rfl (by rw [hO.length eChunk, List.length_take]; congr 1; omega) hi2 (eChunk.one ⟨rfl, rfl⟩) <| ND <| IB <| RG <| MV rfl rfl <| rw_add rfl rfl rfl <| AS rfl rfl <| ND <| ?_
      refine gw_sub (Sub.consE (i := 4) rfl (int_succ (by omega)) (Sub.cons (i := 0) rfl (Sub.cons (i := 2) rfl (Sub.cons (i := 3) rfl (Sub.nil _))))) (ih1 (i + 1, cs ++ (Chunk.cells x3), chs) ?_ ?_)
      · exact ⟨by omega, by simpa using ows_step hO hx3 (ch := []) ⟨rfl, rfl⟩⟩
      · show l.length - (i + 1) < l.length - i; omega
    · have hn5 := nil_of_dec h1
      refine EX rfl <| SQ <| RG <| MV rfl rfl <| AS rfl rfl <| ND <| ?_
      refine ret_cn (⟨b1, 185, cs ++ (List.replicate (l.length - i) [.int .i64 0, .string ByteArray.empty]).flatten⟩ :: chs) Try.func198 (res1 Try.func198 rfl (rv_tmp rfl)) ?_ ?_
      · exact ows_made eChunk hO hle hn5 (by omega)
      · simp

theorem laws_toBuffer {w : World} {cs : List Value} {x : Buffer} (hv : RdBuffer w cs x) (hb : x.le 1048576) : CN Try.prog 136 [.agg cs.toArray] w (OwV OwBuffer x) := by
  obtain ⟨v0, rfl, k0⟩ := hv
  obtain ⟨A0, c0, rfl, hA0⟩ := k0
  obtain ⟨hb0, hb1⟩ := hb
  refine cn_of Try.func136 rfl rfl rfl <| SQ <| RG <| BX [_, _] rfl rfl rfl <| fun b1 => AL rfl tyZ_impl_Buffer <| fun b2 => ND <| SQ <| RG <| AL rfl tyZ_impl_Buffer <| fun b3 => ND <| SQ <| RG <| FA rfl tyF_laws_Buffer_0 rfl <| LD (i := 2) rfl tyP_int rfl rfl rfl <| FA rfl tyF_impl_Buffer_0 rfl <| ST (i := 0) [_] [_, _] tyP_int.sz rfl rfl rfl rfl rfl rfl rfl rfl <| ND <| SQ <| RG <| FA rfl tyF_laws_Buffer_1 rfl <| LD (i := 2) rfl tyP_S_laws_Chunk rfl rfl rfl <| CN1 rfl fun_laws_toChunkS rfl (fun w hs => laws_toChunkS (hA0.s Pl.keeps hs) (by omega)) <| fun v1 ch1 how1 => ?_
  obtain ⟨R1, rc1, rfl, hR1, hrd1⟩ := how1.shape eChunk
  refine FA rfl tyF_impl_Buffer_1 rfl <| ST (i := 0) [_] [_, _] tyP_S_impl_Chunk.sz rfl rfl rfl rfl rfl rfl rfl rfl <| ND <| SQ <| RG <| LS (i := 0) [_, _] rfl tyS_impl_Buffer rfl rfl rfl rfl <| ST (i := 1) [_, _] [_, _] tyS_impl_Buffer.sz rfl rfl rfl rfl rfl rfl rfl rfl <| ND <| ?_
  refine ret_cnP (ch := ch1) (G := ch1 ++ ([])) (F' := []) Try.func136 (res1 Try.func136 rfl (rv_s (i := 1) [_, _] tyS_impl_Buffer rfl rfl rfl rfl)) ?_ ?_ ?_
  · exact ⟨_, rfl, _, _, rfl, how1, rfl⟩
  · exact ((List.Perm.refl _).trans ((List.Perm.refl _).append_left _))
  · simp only []

theorem laws_toReceiver {w : World} {cs : List Value} {x : Receiver} (hv : RdReceiver w cs x) (hb : x.le 1048576) : CN Try.prog 55 [.agg cs.toArray] w (OwV OwReceiver x) := by
  obtain ⟨v0, rfl, k0⟩ := hv
  obtain ⟨A0, c0, rfl, hA0⟩ := k0
  obtain ⟨hb0, hb1⟩ := hb
  refine cn_of Try.func55 rfl rfl rfl <| SQ <| RG <| BX [_, _, _, _, _, _] rfl rfl rfl <| fun b1 => AL rfl tyZ_impl_Receiver <| fun b2 => ND <| SQ <| RG <| AL rfl tyZ_impl_Receiver <| fun b3 => ND <| SQ <| RG <| FA rfl tyF_laws_Receiver_0 rfl <| LD (i := 2) rfl tyP_int rfl rfl rfl <| FA rfl tyF_impl_Receiver_0 rfl <| ST (i := 0) [_] [_, _, _, _, _, _] tyP_int.sz rfl rfl rfl rfl rfl rfl rfl rfl <| ND <| SQ <| RG <| FA rfl tyF_laws_Receiver_1 rfl <| LS (i := 2) [_, _] rfl tyS_laws_Buffer rfl rfl rfl rfl <| ?_
  refine CN1 rfl fun_laws_toBuffer rfl (fun w hs => laws_toBuffer ⟨_, rfl, (hA0.s Pl.keeps hs)⟩ ⟨hb0, hb1⟩) <| fun vv1 ch1 how1 => ?_
  obtain ⟨cs1, rfl, v1_0, c1_0, rfl, h1_0, rfl⟩ := how1
  obtain ⟨R1_0, b1_0, rfl, hR1_0, hrd1_0⟩ := h1_0.shape eChunk
  refine FA rfl tyF_impl_Receiver_1 rfl <| ST (i := 0) [_, _] [_, _, _, _, _, _] tyS_impl_Buffer.sz rfl rfl rfl rfl rfl rfl rfl rfl <| ND <| SQ <| RG <| FA rfl tyF_laws_Receiver_2 rfl <| LD (i := 2) rfl tyP_int rfl rfl rfl <| FA rfl tyF_impl_Receiver_2 rfl <| ST (i := 0) [_] [_, _, _, _, _, _] tyP_int.sz rfl rfl rfl rfl rfl rfl rfl rfl <| ND <| SQ <| RG <| FA rfl tyF_laws_Receiver_3 rfl <| LD (i := 2) rfl tyP_int rfl rfl rfl <| FA rfl tyF_impl_Receiver_3 rfl <| ST (i := 0) [_] [_, _, _, _, _, _] tyP_int.sz rfl rfl rfl rfl rfl rfl rfl rfl <| ?_
  refine ND <| SQ <| RG <| FA rfl tyF_laws_Receiver_4 rfl <| LD (i := 2) rfl tyP_int rfl rfl rfl <| FA rfl tyF_impl_Receiver_4 rfl <| ST (i := 0) [_] [_, _, _, _, _, _] tyP_int.sz rfl rfl rfl rfl rfl rfl rfl rfl <| ND <| SQ <| RG <| LS (i := 0) [_, _, _, _, _, _] rfl tyS_impl_Receiver rfl rfl rfl rfl <| ST (i := 1) [_, _, _, _, _, _] [_, _, _, _, _, _] tyS_impl_Receiver.sz rfl rfl rfl rfl rfl rfl rfl rfl <| ND <| ?_
  refine ret_cnP (ch := ch1) (G := ch1 ++ ([])) (F' := []) Try.func55 (res1 Try.func55 rfl (rv_s (i := 1) [_, _, _, _, _, _] tyS_impl_Receiver rfl rfl rfl rfl)) ?_ ?_ ?_
  · exact ⟨_, rfl, _, _, rfl, h1_0, rfl⟩
  · exact ((List.Perm.refl _).trans ((List.Perm.refl _).append_left _))
  · simp only []

theorem laws_toWindow (a : Window) (w : World) : CV Try.prog 56 [.agg a.cells.toArray] w (.agg a.cells.toArray) := by
  refine cv_of Try.func56 rfl rfl rfl <| SQ <| RG <| BX [_, _, _, _, _, _] rfl rfl rfl <| fun b1 => AL rfl tyZ_impl_Window <| fun b2 => ND <| SQ <| RG <| AL rfl tyZ_impl_Window <| fun b3 => ND <| SQ <| RG <| FA rfl tyF_laws_Window_0 rfl <| LD (i := 2) rfl tyP_int rfl rfl rfl <| FA rfl tyF_impl_Window_0 rfl <| ST (i := 0) [_] [_, _, _, _, _, _] tyP_int.sz rfl rfl rfl rfl rfl rfl rfl rfl <| ND <| SQ <| RG <| FA rfl tyF_laws_Window_1 rfl <| LD (i := 2) rfl tyP_int rfl rfl rfl <| FA rfl tyF_impl_Window_1 rfl <| ?_
  refine ST (i := 0) [_] [_, _, _, _, _, _] tyP_int.sz rfl rfl rfl rfl rfl rfl rfl rfl <| ND <| SQ <| RG <| FA rfl tyF_laws_Window_2 rfl <| LD (i := 2) rfl tyP_int rfl rfl rfl <| FA rfl tyF_impl_Window_2 rfl <| ST (i := 0) [_] [_, _, _, _, _, _] tyP_int.sz rfl rfl rfl rfl rfl rfl rfl rfl <| ND <| SQ <| RG <| FA rfl tyF_laws_Window_3 rfl <| LD (i := 2) rfl tyP_int rfl rfl rfl <| FA rfl tyF_impl_Window_3 rfl <| ST (i := 0) [_] [_, _, _, _, _, _] tyP_int.sz rfl rfl rfl rfl rfl rfl rfl rfl <| ?_
  refine ND <| SQ <| RG <| FA rfl tyF_laws_Window_4 rfl <| LD (i := 2) rfl tyP_int rfl rfl rfl <| FA rfl tyF_impl_Window_4 rfl <| ST (i := 0) [_] [_, _, _, _, _, _] tyP_int.sz rfl rfl rfl rfl rfl rfl rfl rfl <| ND <| SQ <| RG <| FA rfl tyF_laws_Window_5 rfl <| LD (i := 2) rfl tyP_int rfl rfl rfl <| FA rfl tyF_impl_Window_5 rfl <| ST (i := 0) [_] [_, _, _, _, _, _] tyP_int.sz rfl rfl rfl rfl rfl rfl rfl rfl <| ND <| SQ <| RG <| LS (i := 0) [_, _, _, _, _, _] rfl tyS_impl_Window rfl rfl rfl rfl <| ?_
  refine ST (i := 1) [_, _, _, _, _, _] [_, _, _, _, _, _] tyS_impl_Window.sz rfl rfl rfl rfl rfl rfl rfl rfl <| ND <| ret_cv Try.func56 (res1 Try.func56 rfl (rv_s (i := 1) [_, _, _, _, _, _] tyS_impl_Window rfl rfl rfl rfl)) <| ?_
  rfl

theorem laws_toPriority (a : Priority) (w : World) : CV Try.prog 57 [.agg a.cells.toArray] w (.agg a.cells.toArray) := by
  refine cv_of Try.func57 rfl rfl rfl <| SQ <| RG <| BX [_, _] rfl rfl rfl <| fun b1 => AL rfl tyZ_impl_Priority <| fun b2 => ND <| SQ <| RG <| AL rfl tyZ_impl_Priority <| fun b3 => ND <| SQ <| RG <| FA rfl tyF_laws_Priority_0 rfl <| LD (i := 2) rfl tyP_int rfl rfl rfl <| FA rfl tyF_impl_Priority_0 rfl <| ST (i := 0) [_] [_, _] tyP_int.sz rfl rfl rfl rfl rfl rfl rfl rfl <| ND <| SQ <| RG <| FA rfl tyF_laws_Priority_1 rfl <| LD (i := 2) rfl tyP_bool rfl rfl rfl <| FA rfl tyF_impl_Priority_1 rfl <| ?_
  refine ST (i := 0) [_] [_, _] tyP_bool.sz rfl rfl rfl rfl rfl rfl rfl rfl <| ND <| SQ <| RG <| LS (i := 0) [_, _] rfl tyS_impl_Priority rfl rfl rfl rfl <| ST (i := 1) [_, _] [_, _] tyS_impl_Priority.sz rfl rfl rfl rfl rfl rfl rfl rfl <| ND <| ret_cv Try.func57 (res1 Try.func57 rfl (rv_s (i := 1) [_, _] tyS_impl_Priority rfl rfl rfl rfl)) <| ?_
  rfl

theorem laws_toStream {w : World} {cs : List Value} {x : Stream} (hv : RdStream w cs x) (hb : x.le 1048576) : CN Try.prog 11 [.agg cs.toArray] w (OwV OwStream x) := by
  obtain ⟨v0, v1, v2, v3, v4, rfl, k0, k1, k2, k3, k4⟩ := hv
  obtain ⟨A0, c0, rfl, hA0⟩ := k0
  obtain ⟨A1, c1, rfl, hA1⟩ := k1
  obtain ⟨A2, c2, rfl, hA2⟩ := k2
  obtain ⟨A3, c3, rfl, hA3⟩ := k3
  obtain ⟨A4, c4, rfl, hA4⟩ := k4
  obtain ⟨hb0, hb1, hb2, hb3, hb4, hb5⟩ := hb
  refine cn_of Try.func11 rfl rfl rfl <| SQ <| RG <| BX [_, _, _, _, _, _, _, _, _, _, _, _, _, _, _, _, _, _, _, _, _, _, _, _, _, _, _, _, _, _, _, _, _, _, _, _, _, _, _] rfl rfl rfl <| fun b1 => AL rfl tyZ_impl_Stream <| fun b2 => ND <| SQ <| RG <| AL rfl tyZ_impl_Stream <| fun b3 => ND <| SQ <| RG <| FA rfl tyF_laws_Stream_0 rfl <| LD (i := 2) rfl tyP_int rfl rfl rfl <| FA rfl tyF_impl_Stream_0 rfl <| rw_storeN (i := 0) [_] [_, _, _, _, _, _, _, _, _, _, _, _, _, _, _, _, _, _, _, _, _, _, _, _, _, _, _, _, _, _, _, _, _, _, _, _, _, _, _] [_, _, _] tyP_int.sz rfl rfl rfl rfl rfl rfl rfl rfl rfl <| ?_
  refine ND <| SQ <| RG <| FA rfl tyF_laws_Stream_1 rfl <| LS (i := 2) [_, _, _, _, _, _, _, _, _, _, _, _] rfl tyS_laws_Sender rfl rfl rfl rfl <| CN1 rfl fun_laws_toSender rfl (fun w hs => laws_toSender ⟨_, _, _, _, rfl, (hA0.s Pl.keeps hs), (hA1.s Pl.keeps hs), (hA2.s Pl.keeps hs), (hA3.s Pl.keeps hs)⟩ ⟨hb0, hb1, hb2, hb3⟩) <| fun vv1 ch1 how1 => ?_
  obtain ⟨cs1, rfl, v1_0, v1_1, v1_2, v1_3, c1_0, c1_1, c1_2, c1_3, rfl, h1_0, h1_1, h1_2, h1_3, rfl⟩ := how1
  refine rw_F (F' := c1_0 ++ (c1_1 ++ (c1_2 ++ (c1_3 ++ ([]))))) (by simp only [List.append_assoc]) <| ?_
  obtain ⟨R1_0, b1_0, rfl, hR1_0, hrd1_0⟩ := h1_0.shape eInt
  obtain ⟨R1_1, b1_1, rfl, hR1_1, hrd1_1⟩ := h1_1.shape eRange
  obtain ⟨R1_2, b1_2, rfl, hR1_2, hrd1_2⟩ := h1_2.shape eRange
  obtain ⟨R1_3, b1_3, rfl, hR1_3, hrd1_3⟩ := h1_3.shape eRange
  refine FA rfl tyF_impl_Stream_1 rfl <| rw_storeN (i := 0) [_, _, _, _, _, _, _, _, _, _, _, _] [_, _, _, _, _, _, _, _, _, _, _, _, _, _, _, _, _, _, _, _, _, _, _, _, _, _, _, _, _, _, _, _, _, _, _, _, _, _, _] [_, _, _] tyS_impl_Sender.sz rfl rfl rfl rfl rfl rfl rfl rfl rfl <| ND <| SQ <| RG <| FA rfl tyF_laws_Stream_2 rfl <| LS (i := 2) [_, _, _, _] rfl tyS_laws_Credit rfl rfl rfl rfl <| CV1 rfl fun_laws_toCredit rfl (fun w hs => laws_toCredit _ w) <| FA rfl tyF_impl_Stream_2 rfl <| rw_storeN (i := 0) [_, _, _, _] [_, _, _, _, _, _, _, _, _, _, _, _, _, _, _, _, _, _, _, _, _, _, _, _, _, _, _, _, _, _, _, _, _, _, _, _, _, _, _] [_, _, _] tyS_impl_Credit.sz rfl rfl rfl rfl rfl rfl rfl rfl rfl <| ?_
  refine ND <| SQ <| RG <| FA rfl tyF_laws_Stream_3 rfl <| LS (i := 2) [_, _, _, _, _, _] rfl tyS_laws_Receiver rfl rfl rfl rfl <| CN1 rfl fun_laws_toReceiver rfl (fun w hs => laws_toReceiver ⟨_, rfl, (hA4.s Pl.keeps hs)⟩ ⟨hb4, hb5⟩) <| fun vv2 ch2 how2 => ?_
  obtain ⟨cs2, rfl, v2_0, c2_0, rfl, h2_0, rfl⟩ := how2
  obtain ⟨R2_0, b2_0, rfl, hR2_0, hrd2_0⟩ := h2_0.shape eChunk
  refine FA rfl tyF_impl_Stream_3 rfl <| rw_storeN (i := 0) [_, _, _, _, _, _] [_, _, _, _, _, _, _, _, _, _, _, _, _, _, _, _, _, _, _, _, _, _, _, _, _, _, _, _, _, _, _, _, _, _, _, _, _, _, _] [_, _, _] tyS_impl_Receiver.sz rfl rfl rfl rfl rfl rfl rfl rfl rfl <| ND <| SQ <| RG <| FA rfl tyF_laws_Stream_4 rfl <| LS (i := 2) [_, _, _, _, _, _] rfl tyS_laws_Window rfl rfl rfl rfl <| CV1 rfl fun_laws_toWindow rfl (fun w hs => laws_toWindow _ w) <| FA rfl tyF_impl_Stream_4 rfl <| rw_storeN (i := 0) [_, _, _, _, _, _] [_, _, _, _, _, _, _, _, _, _, _, _, _, _, _, _, _, _, _, _, _, _, _, _, _, _, _, _, _, _, _, _, _, _, _, _, _, _, _] [_, _, _] tyS_impl_Window.sz rfl rfl rfl rfl rfl rfl rfl rfl rfl <| ?_
  refine ND <| SQ <| RG <| FA rfl tyF_laws_Stream_5 rfl <| LS (i := 2) [_, _] rfl tyS_laws_Priority rfl rfl rfl rfl <| CV1 rfl fun_laws_toPriority rfl (fun w hs => laws_toPriority _ w) <| FA rfl tyF_impl_Stream_5 rfl <| rw_storeN (i := 0) [_, _] [_, _, _, _, _, _, _, _, _, _, _, _, _, _, _, _, _, _, _, _, _, _, _, _, _, _, _, _, _, _, _, _, _, _, _, _, _, _, _] [_, _, _] tyS_impl_Priority.sz rfl rfl rfl rfl rfl rfl rfl rfl rfl <| ND <| SQ <| RG <| FA rfl tyF_laws_Stream_6 rfl <| LD (i := 2) rfl tyP_bool rfl rfl rfl <| FA rfl tyF_impl_Stream_6 rfl <| ?_
  refine rw_storeN (i := 0) [_] [_, _, _, _, _, _, _, _, _, _, _, _, _, _, _, _, _, _, _, _, _, _, _, _, _, _, _, _, _, _, _, _, _, _, _, _, _, _, _] [_, _, _] tyP_bool.sz rfl rfl rfl rfl rfl rfl rfl rfl rfl <| ND <| SQ <| RG <| FA rfl tyF_laws_Stream_7 rfl <| LD (i := 2) rfl tyP_bool rfl rfl rfl <| FA rfl tyF_impl_Stream_7 rfl <| rw_storeN (i := 0) [_] [_, _, _, _, _, _, _, _, _, _, _, _, _, _, _, _, _, _, _, _, _, _, _, _, _, _, _, _, _, _, _, _, _, _, _, _, _, _, _] [_, _, _] tyP_bool.sz rfl rfl rfl rfl rfl rfl rfl rfl rfl <| ND <| SQ <| RG <| FA rfl tyF_laws_Stream_8 rfl <| ?_
  refine LD (i := 2) rfl tyP_bool rfl rfl rfl <| FA rfl tyF_impl_Stream_8 rfl <| rw_storeN (i := 0) [_] [_, _, _, _, _, _, _, _, _, _, _, _, _, _, _, _, _, _, _, _, _, _, _, _, _, _, _, _, _, _, _, _, _, _, _, _, _, _, _] [_, _, _] tyP_bool.sz rfl rfl rfl rfl rfl rfl rfl rfl rfl <| ND <| SQ <| RG <| FA rfl tyF_laws_Stream_9 rfl <| LD (i := 2) rfl tyP_bool rfl rfl rfl <| FA rfl tyF_impl_Stream_9 rfl <| rw_storeN (i := 0) [_] [_, _, _, _, _, _, _, _, _, _, _, _, _, _, _, _, _, _, _, _, _, _, _, _, _, _, _, _, _, _, _, _, _, _, _, _, _, _, _] [_, _, _] tyP_bool.sz rfl rfl rfl rfl rfl rfl rfl rfl rfl <| ?_
  refine ND <| SQ <| RG <| FA rfl tyF_laws_Stream_10 rfl <| LD (i := 2) rfl tyP_bool rfl rfl rfl <| FA rfl tyF_impl_Stream_10 rfl <| rw_storeN (i := 0) [_] [_, _, _, _, _, _, _, _, _, _, _, _, _, _, _, _, _, _, _, _, _, _, _, _, _, _, _, _, _, _, _, _, _, _, _, _, _, _, _] [_, _, _] tyP_bool.sz rfl rfl rfl rfl rfl rfl rfl rfl rfl <| ND <| SQ <| RG <| FA rfl tyF_laws_Stream_11 rfl <| LD (i := 2) rfl tyP_bool rfl rfl rfl <| FA rfl tyF_impl_Stream_11 rfl <| rw_storeN (i := 0) [_] [_, _, _, _, _, _, _, _, _, _, _, _, _, _, _, _, _, _, _, _, _, _, _, _, _, _, _, _, _, _, _, _, _, _, _, _, _, _, _] [_, _, _] tyP_bool.sz rfl rfl rfl rfl rfl rfl rfl rfl rfl <| ?_
  refine ND <| SQ <| RG <| FA rfl tyF_laws_Stream_12 rfl <| LD (i := 2) rfl tyP_int rfl rfl rfl <| FA rfl tyF_impl_Stream_12 rfl <| rw_storeN (i := 0) [_] [_, _, _, _, _, _, _, _, _, _, _, _, _, _, _, _, _, _, _, _, _, _, _, _, _, _, _, _, _, _, _, _, _, _, _, _, _, _, _] [_, _, _] tyP_int.sz rfl rfl rfl rfl rfl rfl rfl rfl rfl <| ND <| SQ <| RG <| FA rfl tyF_laws_Stream_13 rfl <| LD (i := 2) rfl tyP_bool rfl rfl rfl <| FA rfl tyF_impl_Stream_13 rfl <| rw_storeN (i := 0) [_] [_, _, _, _, _, _, _, _, _, _, _, _, _, _, _, _, _, _, _, _, _, _, _, _, _, _, _, _, _, _, _, _, _, _, _, _, _, _, _] [_, _, _] tyP_bool.sz rfl rfl rfl rfl rfl rfl rfl rfl rfl <| ?_
  refine ND <| SQ <| RG <| LS (i := 0) [_, _, _, _, _, _, _, _, _, _, _, _, _, _, _, _, _, _, _, _, _, _, _, _, _, _, _, _, _, _, _, _, _, _, _, _, _, _, _] rfl tyS_impl_Stream rfl rfl rfl rfl <| rw_storeN (i := 1) [_, _, _, _, _, _, _, _, _, _, _, _, _, _, _, _, _, _, _, _, _, _, _, _, _, _, _, _, _, _, _, _, _, _, _, _, _, _, _] [_, _, _, _, _, _, _, _, _, _, _, _, _, _, _, _, _, _, _, _, _, _, _, _, _, _, _, _, _, _, _, _, _, _, _, _, _, _, _] [_, _, _] tyS_impl_Stream.sz rfl rfl rfl rfl rfl rfl rfl rfl rfl <| ND <| ?_
  refine ret_cnP (ch := c1_0 ++ (c1_1 ++ (c1_2 ++ (c1_3 ++ (ch2))))) (G := c1_0 ++ (c1_1 ++ (c1_2 ++ (c1_3 ++ (ch2 ++ ([])))))) (F' := []) Try.func11 (res1 Try.func11 rfl (rv_s (i := 1) [_, _, _, _, _, _, _, _, _, _, _, _, _, _, _, _, _, _, _, _, _, _, _, _, _, _, _, _, _, _, _, _, _, _, _, _, _, _, _] tyS_impl_Stream rfl rfl rfl rfl)) ?_ ?_ ?_
  · exact ⟨_, rfl, _, _, _, _, _, _, _, _, _, _, rfl, h1_0, h1_1, h1_2, h1_3, h2_0, rfl⟩
  · exact (((((List.Perm.refl _)).append_left _).trans (pullc _ _ _)).trans ((((((List.Perm.refl _)).append_left _).trans (pullc _ _ _)).trans ((((((List.Perm.refl _)).append_left _).trans (pullc _ _ _)).trans ((((((List.Perm.refl _)).append_left _).trans (pullc _ _ _)).trans (((List.Perm.refl _).trans ((List.Perm.refl _).append_left _)).append_left _)).append_left _)).append_left _)).append_left _))
  · simp only [List.append_assoc]

theorem spec_l1In (a b c : Int) (w : World) : CV Try.prog 96 [.int .i64 a, .int .i64 b, .int .i64 c] w (.bool (within a b c)) := by
  refine cv_of Try.func96 rfl rfl rfl <| SQ <| RG <| AS rfl rfl <| ND <| SQ <| RG <| MV rfl rfl <| MV rfl rfl <| rw_geq rfl rfl rfl <| MV rfl rfl <| ?_
  refine rw_case (j := 10) rfl (fun h1 => ?_) (fun h1 => ?_)
  · refine ON rfl rfl h1 <| MV rfl rfl <| ON rfl rfl h1 <| MV rfl rfl <| ON rfl rfl h1 <| rw_leq rfl rfl rfl <| PT rfl rfl h1 rfl <| AS rfl rfl <| ND <| ret_cv Try.func96 (res1 Try.func96 rfl (rv_tmp rfl)) <| ?_
    simp only [within, h1] <;> rfl
  · refine OF rfl rfl h1 rfl <| OF rfl rfl h1 rfl <| OF rfl rfl h1 rfl <| PF rfl rfl h1 rfl <| AS rfl rfl <| ND <| ret_cv Try.func96 (res1 Try.func96 rfl (rv_tmp rfl)) <| ?_
    simp only [within, h1] <;> rfl

theorem spec_l4Quic (a : Int) (w : World) : CV Try.prog 128 [.int .i64 a] w (.bool (isQuic a)) := by
  refine cv_of Try.func128 rfl rfl rfl <| SQ <| RG <| AS rfl rfl <| ND <| SQ <| RG <| MV rfl rfl <| CV1 rfl fun_spec_l1In rfl (fun w hs => spec_l1In _ _ _ w) <| AS rfl rfl <| ND <| ret_cv Try.func128 (res1 Try.func128 rfl (rv_tmp rfl)) <| ?_
  rfl

theorem spec_l8Power (a : Int) (w : World) : CV Try.prog 168 [.int .i64 a] w (.bool (isRingSize a)) := by
  refine cv_of Try.func168 rfl rfl rfl <| SQ <| RG <| AS rfl rfl <| ND <| SQ <| RG <| MV rfl rfl <| rw_gtr rfl rfl rfl <| MV rfl rfl <| ?_
  refine rw_case (j := 5) rfl (fun h1 => ?_) (fun h1 => ?_)
  · refine ON rfl rfl h1 <| MV rfl rfl <| ON rfl rfl h1 <| rw_leq rfl rfl rfl <| PT rfl rfl h1 rfl <| MV rfl rfl <| ?_
    refine rw_case (j := 9) rfl (fun h2 => ?_) (fun h2 => ?_)
    · refine ON rfl rfl h2 <| MV rfl rfl <| ON rfl rfl h2 <| MV rfl rfl <| ON rfl rfl h2 <| rw_sub rfl rfl rfl <| ON rfl rfl h2 <| rw_and rfl rfl rfl <| ON rfl rfl h2 <| EQ1 rfl rfl rfl <| PT rfl rfl h2 rfl <| AS rfl rfl <| ND <| ret_cv Try.func168 (res1 Try.func168 rfl (rv_tmp rfl)) <| ?_
      rw [ring_power]; simp only [h1, h2] <;> rfl
    · refine OF rfl rfl h2 rfl <| OF rfl rfl h2 rfl <| OF rfl rfl h2 rfl <| OF rfl rfl h2 rfl <| OF rfl rfl h2 rfl <| PF rfl rfl h2 rfl <| AS rfl rfl <| ND <| ret_cv Try.func168 (res1 Try.func168 rfl (rv_tmp rfl)) <| ?_
      rw [ring_power]; simp only [h1, h2] <;> rfl
  · refine OF rfl rfl h1 rfl <| OF rfl rfl h1 rfl <| PF rfl rfl h1 rfl <| MV rfl rfl <| OF rfl rfl rfl rfl <| OF rfl rfl rfl rfl <| OF rfl rfl rfl rfl <| OF rfl rfl rfl rfl <| OF rfl rfl rfl rfl <| PF rfl rfl rfl rfl <| AS rfl rfl <| ND <| ret_cv Try.func168 (res1 Try.func168 rfl (rv_tmp rfl)) <| ?_
    rw [ring_power]; simp only [h1] <;> rfl

theorem spec_IsRing {w : World} {cs : List Value} {x : Ring} (hv : RdRing w cs x) (hb : x.le 1048576) : CV Try.prog 171 [.agg cs.toArray] w (.bool (isRing x)) := by
  obtain ⟨v0, rfl, k0⟩ := hv
  obtain ⟨A0, c0, rfl, hA0⟩ := k0
  have hb0 : x.cells.length ≤ 1048576 := hb
  refine cv_of Try.func171 rfl rfl rfl <| SQ <| RG <| BX [_, _, _, _] rfl rfl rfl <| fun b1 => AS rfl rfl <| ND <| SQ <| SQ <| RG <| FA rfl tyF_impl_Ring_0 rfl <| LD (i := 0) rfl tyP_int rfl rfl rfl <| CV1 rfl fun_spec_l8Power rfl (fun w hs => spec_l8Power _ w) <| NT rfl rfl <| MV rfl rfl <| ?_
  refine rw_case (j := 8) rfl (fun h1 => ?_) (fun h1 => ?_)
  · replace h1 := of_not_T h1
    refine OF rfl rfl (not_F h1) rfl <| OF rfl rfl (not_F h1) rfl <| OF rfl rfl (not_F h1) rfl <| OF rfl rfl (not_F h1) rfl <| OF rfl rfl (not_F h1) rfl <| OF rfl rfl (not_F h1) rfl <| PT rfl rfl (not_F h1) rfl <| MV rfl rfl <| OF rfl rfl rfl rfl <| OF rfl rfl rfl rfl <| OF rfl rfl rfl rfl <| PT rfl rfl rfl rfl <| MV rfl rfl <| OF rfl rfl rfl rfl <| OF rfl rfl rfl rfl <| OF rfl rfl rfl rfl <| OF rfl rfl rfl rfl <| OF rfl rfl rfl rfl <| PT rfl rfl rfl rfl <| ?_
    refine MV rfl rfl <| OF rfl rfl rfl rfl <| OF rfl rfl rfl rfl <| OF rfl rfl rfl rfl <| OF rfl rfl rfl rfl <| OF rfl rfl rfl rfl <| OF rfl rfl rfl rfl <| OF rfl rfl rfl rfl <| OF rfl rfl rfl rfl <| PT rfl rfl rfl rfl <| MV rfl rfl <| OF rfl rfl rfl rfl <| OF rfl rfl rfl rfl <| OF rfl rfl rfl rfl <| PT rfl rfl rfl rfl <| ND <| CT rfl rfl <| SQ <| RG <| AS rfl rfl <| ND <| ret_cv Try.func171 (res1 Try.func171 rfl (rv_tmp rfl)) <| ?_
    rw [isRing_s]; simp [isRingS, maxQuic, h1]
  · replace h1 := of_not_F h1
    refine ON rfl rfl (not_T h1) <| FA rfl tyF_impl_Ring_3 rfl <| ON rfl rfl (not_T h1) <| LD (i := 0) rfl tyP_S_int rfl rfl rfl <| ON rfl rfl (not_T h1) <| rw_len rfl tyE_S_int rfl <| ON rfl rfl (not_T h1) <| FA rfl tyF_impl_Ring_0 rfl <| ON rfl rfl (not_T h1) <| LD (i := 0) rfl tyP_int rfl rfl rfl <| ON rfl rfl (not_T h1) <| rw_neq rfl rfl rfl <| PF rfl rfl (not_T h1) rfl <| MV rfl rfl <| ?_
    refine rw_case (j := 16) rfl (fun h2 => ?_) (fun h2 => ?_)
    · replace h2 := of_not_T h2
      refine OF rfl rfl (not_F h2) rfl <| OF rfl rfl (not_F h2) rfl <| OF rfl rfl (not_F h2) rfl <| PT rfl rfl (not_F h2) rfl <| MV rfl rfl <| OF rfl rfl rfl rfl <| OF rfl rfl rfl rfl <| OF rfl rfl rfl rfl <| OF rfl rfl rfl rfl <| OF rfl rfl rfl rfl <| PT rfl rfl rfl rfl <| MV rfl rfl <| OF rfl rfl rfl rfl <| OF rfl rfl rfl rfl <| OF rfl rfl rfl rfl <| OF rfl rfl rfl rfl <| OF rfl rfl rfl rfl <| OF rfl rfl rfl rfl <| OF rfl rfl rfl rfl <| ?_
      refine OF rfl rfl rfl rfl <| PT rfl rfl rfl rfl <| MV rfl rfl <| OF rfl rfl rfl rfl <| OF rfl rfl rfl rfl <| OF rfl rfl rfl rfl <| PT rfl rfl rfl rfl <| ND <| CT rfl rfl <| SQ <| RG <| AS rfl rfl <| ND <| ret_cv Try.func171 (res1 Try.func171 rfl (rv_tmp rfl)) <| ?_
      rw [isRing_s]; simp [isRingS, maxQuic, h1, h2]
    · replace h2 := of_not_F h2
      refine ON rfl rfl (not_T h2) <| FA rfl tyF_impl_Ring_1 rfl <| ON rfl rfl (not_T h2) <| LD (i := 0) rfl tyP_int rfl rfl rfl <| ON rfl rfl (not_T h2) <| rw_lss rfl rfl rfl <| PF rfl rfl (not_T h2) rfl <| MV rfl rfl <| ?_
      refine rw_case (j := 21) rfl (fun h3 => ?_) (fun h3 => ?_)
      · refine OF rfl rfl h3 rfl <| OF rfl rfl h3 rfl <| OF rfl rfl h3 rfl <| OF rfl rfl h3 rfl <| OF rfl rfl h3 rfl <| PT rfl rfl h3 rfl <| MV rfl rfl <| OF rfl rfl rfl rfl <| OF rfl rfl rfl rfl <| OF rfl rfl rfl rfl <| OF rfl rfl rfl rfl <| OF rfl rfl rfl rfl <| OF rfl rfl rfl rfl <| OF rfl rfl rfl rfl <| OF rfl rfl rfl rfl <| PT rfl rfl rfl rfl <| MV rfl rfl <| OF rfl rfl rfl rfl <| OF rfl rfl rfl rfl <| OF rfl rfl rfl rfl <| PT rfl rfl rfl rfl <| ?_
        refine ND <| CT rfl rfl <| SQ <| RG <| AS rfl rfl <| ND <| ret_cv Try.func171 (res1 Try.func171 rfl (rv_tmp rfl)) <| ?_
        rw [isRing_s]; simp [isRingS, maxQuic, h1, h2, h3]
      · refine ON rfl rfl h3 <| FA rfl tyF_impl_Ring_2 rfl <| ON rfl rfl h3 <| LD (i := 0) rfl tyP_int rfl rfl rfl <| ON rfl rfl h3 <| FA rfl tyF_impl_Ring_1 rfl <| ON rfl rfl h3 <| LD (i := 0) rfl tyP_int rfl rfl rfl <| ON rfl rfl h3 <| rw_lss rfl rfl rfl <| PF rfl rfl h3 rfl <| MV rfl rfl <| ?_
        refine rw_case (j := 28) rfl (fun h4 => ?_) (fun h4 => ?_)
        · refine OF rfl rfl h4 rfl <| OF rfl rfl h4 rfl <| OF rfl rfl h4 rfl <| OF rfl rfl h4 rfl <| OF rfl rfl h4 rfl <| OF rfl rfl h4 rfl <| OF rfl rfl h4 rfl <| OF rfl rfl h4 rfl <| PT rfl rfl h4 rfl <| MV rfl rfl <| OF rfl rfl rfl rfl <| OF rfl rfl rfl rfl <| OF rfl rfl rfl rfl <| PT rfl rfl rfl rfl <| ND <| CT rfl rfl <| SQ <| RG <| AS rfl rfl <| ND <| ret_cv Try.func171 (res1 Try.func171 rfl (rv_tmp rfl)) <| ?_
          rw [isRing_s]; simp [isRingS, maxQuic, h1, h2, h3, h4]
        · refine ON rfl rfl h4 <| FA rfl tyF_impl_Ring_2 rfl <| ON rfl rfl h4 <| LD (i := 0) rfl tyP_int rfl rfl rfl <| ON rfl rfl h4 <| FA rfl tyF_impl_Ring_1 rfl <| ON rfl rfl h4 <| LD (i := 0) rfl tyP_int rfl rfl rfl <| ON rfl rfl h4 <| rw_sub rfl rfl rfl <| ON rfl rfl h4 <| FA rfl tyF_impl_Ring_0 rfl <| ON rfl rfl h4 <| LD (i := 0) rfl tyP_int rfl rfl rfl <| ON rfl rfl h4 <| rw_gtr rfl rfl rfl <| PF rfl rfl h4 rfl <| MV rfl rfl <| ?_
          refine rw_case (j := 38) rfl (fun h5 => ?_) (fun h5 => ?_)
          · refine OF rfl rfl h5 rfl <| OF rfl rfl h5 rfl <| OF rfl rfl h5 rfl <| PT rfl rfl h5 rfl <| ND <| CT rfl rfl <| SQ <| RG <| AS rfl rfl <| ND <| ret_cv Try.func171 (res1 Try.func171 rfl (rv_tmp rfl)) <| ?_
            rw [isRing_s]; simp [isRingS, maxQuic, h1, h2, h3, h4, h5]
          · refine ON rfl rfl h5 <| FA rfl tyF_impl_Ring_2 rfl <| ON rfl rfl h5 <| LD (i := 0) rfl tyP_int rfl rfl rfl <| ON rfl rfl h5 <| rw_gtr rfl rfl rfl <| PF rfl rfl h5 rfl <| ND <| ?_
            refine gw_cond rfl (fun h6 => ?_) (fun h6 => ?_)
            · refine SQ <| RG <| AS rfl rfl <| ND <| ret_cv Try.func171 (res1 Try.func171 rfl (rv_tmp rfl)) <| ?_
              rw [isRing_s]; simp [isRingS, maxQuic, h1, h2, h3, h4, h5, h6]
            · refine SK <| SQ <| SQ <| RG <| AS rfl rfl <| ND <| BK <| ?_
              refine gw_loopC (α := Nat) (fun z_ => z_ ≤ x.cells.length ∧ isRingS x = (x.cells.drop z_).all (fun n => within n 0 255)) (fun z_ => x.cells.length - z_) (fun e z_ => (3, .int .i64 (z_ : Int)) :: e) 0 [(1, _)] (Sub.consE rfl rfl (Sub.cons (i := 1) rfl (Sub.nil _))) ?_ ?_
              · exact ⟨Nat.zero_le _, by simp [isRingS, maxQuic, h1, h2, h3, h4, h5, h6]⟩
              · rintro i hI1 ih1
                try dsimp only
                obtain ⟨hle, hI⟩ := hI1
                refine SQ <| SQ <| RG <| MV rfl rfl <| FA rfl tyF_impl_Ring_3 rfl <| LD (i := 0) rfl tyP_S_int rfl rfl rfl <| rw_len rfl tyE_S_int rfl <| rw_lss rfl rfl rfl <| ND <| ?_
                refine gw_cond rfl (fun h7 => ?_) (fun h7 => ?_)
                · have hi2 := lt_of_dec h7
                  obtain ⟨x3, hx3⟩ := get_of_lt hi2
                  have hd3 := drop_cons hx3
                  refine SK <| SQ <| BK <| SQ <| RG <| FA rfl tyF_impl_Ring_3 rfl <| LD (i := 0) rfl tyP_S_int rfl rfl rfl <| MV rfl rfl <| ?_
                  have hq4 := hA0.plain hx3
                  refine rw_indexAddr (i) rfl tyE_S_int rfl rfl rfl (hA0.some hi2) hi2 <| rw_loadX _ rfl tyP_int rfl (fun w hs => hq4.ld0 hs rfl) <| CV1 rfl fun_spec_l1In rfl (fun w hs => spec_l1In _ _ _ w) <| NT rfl rfl <| ND <| ?_
                  refine gw_cond rfl (fun h8 => ?_) (fun h8 => ?_)
                  · replace h8 := of_not_T h8
                    refine SQ <| RG <| AS rfl rfl <| ND <| ret_cv Try.func171 (res1 Try.func171 rfl (rv_tmp rfl)) <| ?_
                    rw [isRing_s, hI, hd3]; simp [h8]
                  · replace h8 := of_not_F h8
                    refine SK <| IB <| RG <| MV rfl rfl <| rw_add rfl rfl rfl <| AS rfl rfl <| ND <| ?_
                    refine gw_sub (Sub.consE (i := 3) rfl (int_succ (by omega)) (Sub.cons (i := 1) rfl (Sub.nil _))) (ih1 (i + 1) ?_ ?_)
                    · exact ⟨by omega, by rw [hI, hd3]; simp [h8]⟩
                    · show x.cells.length - (i + 1) < x.cells.length - i; omega
                · have hn5 := nil_of_dec h7
                  refine EX rfl <| SQ <| RG <| AS rfl rfl <| ND <| ret_cv Try.func171 (res1 Try.func171 rfl (rv_tmp rfl)) <| ?_
                  rw [isRing_s, hI, hn5]; rfl

theorem spec_l3Fine (r : Range) (w : World) : CV Try.prog 177 [.agg r.cells.toArray] w (.bool (isRange r)) := by
  refine cv_of Try.func177 rfl rfl rfl <| SQ <| RG <| BX [_, _] rfl rfl rfl <| fun b1 => AS rfl rfl <| ND <| SQ <| RG <| FA rfl tyF_impl_Range_0 rfl <| LD (i := 0) rfl tyP_int rfl rfl rfl <| rw_geq rfl rfl rfl <| MV rfl rfl <| ?_
  refine rw_case (j := 6) rfl (fun h1 => ?_) (fun h1 => ?_)
  · refine ON rfl rfl h1 <| FA rfl tyF_impl_Range_0 rfl <| ON rfl rfl h1 <| LD (i := 0) rfl tyP_int rfl rfl rfl <| ON rfl rfl h1 <| FA rfl tyF_impl_Range_1 rfl <| ON rfl rfl h1 <| LD (i := 0) rfl tyP_int rfl rfl rfl <| ON rfl rfl h1 <| rw_lss rfl rfl rfl <| PT rfl rfl h1 rfl <| MV rfl rfl <| ?_
    refine rw_case (j := 13) rfl (fun h2 => ?_) (fun h2 => ?_)
    · refine ON rfl rfl h2 <| FA rfl tyF_impl_Range_1 rfl <| ON rfl rfl h2 <| LD (i := 0) rfl tyP_int rfl rfl rfl <| ON rfl rfl h2 <| rw_leq rfl rfl rfl <| PT rfl rfl h2 rfl <| AS rfl rfl <| ND <| ret_cv Try.func177 (res1 Try.func177 rfl (rv_tmp rfl)) <| ?_
      simp only [isRange, h1, h2] <;> rfl
    · refine OF rfl rfl h2 rfl <| OF rfl rfl h2 rfl <| OF rfl rfl h2 rfl <| PF rfl rfl h2 rfl <| AS rfl rfl <| ND <| ret_cv Try.func177 (res1 Try.func177 rfl (rv_tmp rfl)) <| ?_
      simp only [isRange, h1, h2] <;> rfl
  · refine OF rfl rfl h1 rfl <| OF rfl rfl h1 rfl <| OF rfl rfl h1 rfl <| OF rfl rfl h1 rfl <| OF rfl rfl h1 rfl <| PF rfl rfl h1 rfl <| MV rfl rfl <| OF rfl rfl rfl rfl <| OF rfl rfl rfl rfl <| OF rfl rfl rfl rfl <| PF rfl rfl rfl rfl <| AS rfl rfl <| ND <| ret_cv Try.func177 (res1 Try.func177 rfl (rv_tmp rfl)) <| ?_
    simp only [isRange, h1] <;> rfl

theorem spec_IsRanges {w : World} {v : Value} {l : List Range} (hv : RdS w 2 (Pl Range.cells) v l) (hb : l.length ≤ 4194304) : CV Try.prog 172 [v] w (.bool (isRanges l)) := by
  obtain ⟨A, c, rfl, hA⟩ := hv
  refine cv_of Try.func172 rfl rfl rfl <| SQ <| RG <| AS rfl rfl <| ND <| SQ <| SQ <| RG <| AS rfl rfl <| ND <| BK <| ?_
  refine gw_loopC (α := Nat) (fun z_ => z_ ≤ l.length ∧ isRanges l = rangesFrom (prevOf l z_) (l.drop z_)) (fun z_ => l.length - z_) (fun e z_ => (3, .int .i64 (z_ : Int)) :: e) 0 [(0, _)] (Sub.consE rfl rfl (Sub.cons (i := 0) rfl (Sub.nil _))) ?_ ?_
  · exact ⟨Nat.zero_le _, rfl⟩
  · rintro i hI1 ih1
    try dsimp only
    obtain ⟨hle, hI⟩ := hI1
    refine SQ <| SQ <| RG <| MV rfl rfl <| MV rfl rfl <| rw_len rfl tyE_S_impl_Range rfl <| rw_lss rfl rfl rfl <| ND <| ?_
    refine gw_cond rfl (fun h1 => ?_) (fun h1 => ?_)
    · have hi2 := lt_of_dec h1
      obtain ⟨x3, hx3⟩ := get_of_lt hi2
      have hd3 := drop_cons hx3
      refine SK <| SQ <| BK <| SQ <| gw_draw' [(0, .det), (1, .det), (2, .det), (3, .det), (4, .det), (5, .det), (6, .det), (7, .det), (8, .det), (9, .det), (10, .det), (11, .det), (12, .det), (13, .det), (14, .det), (15, .det), (16, .det), (17, .det), (18, .det), (19, .det), (20, .det)] [21, 22, 23] mixed rfl (free_det (free_det (free_det (free_det (free_det (free_det (free_det (free_det (free_det (free_det (free_det (free_det (free_det (free_det (free_det (free_det (free_det (free_det (free_det (free_det (free_det free_nil))))))))))))))))))))) (ts := [_, _, _]) rfl <| DT rfl rfl (fun K hk => MV rfl rfl hk) <| ?_
      refine DT rfl rfl (fun K hk => MV rfl rfl hk) <| ?_
      have hq4 := hA.plain hx3
      refine DT rfl rfl (fun K hk => rw_indexAddr (i) rfl tyE_S_impl_Range rfl rfl rfl (hA.some hi2) hi2 hk) <| DT rfl rfl (fun K hk => rw_loadX_s [_, _] rfl tyS_impl_Range rfl rfl (fun w hs => hq4.lds0 (n := 2) hs rfl) hk) <| DT rfl rfl (fun K hk => CV1 rfl fun_spec_l3Fine rfl (fun w hs => spec_l3Fine _ w) hk) <| DT rfl rfl (fun K hk => NT rfl rfl hk) <| DT rfl rfl (fun K hk => MV rfl rfl hk) <| ?_
      refine dw_case (i := 16) rfl (fun h2 => ?_) (fun h2 => ?_)
      · replace h2 := of_not_T h2
        refine DT rfl rfl (fun K hk => OF rfl rfl (not_F h2) rfl hk) <| DT rfl rfl (fun K hk => OF rfl rfl (not_F h2) rfl hk) <| DT rfl rfl (fun K hk => OF rfl rfl (not_F h2) rfl hk) <| DT rfl rfl (fun K hk => OU rfl rfl rfl hk) <| DT rfl rfl (fun K hk => OU rfl rfl rfl hk) <| DT rfl rfl (fun K hk => OU rfl rfl rfl hk) <| DT rfl rfl (fun K hk => OU rfl rfl rfl hk) <| DT rfl rfl (fun K hk => OU rfl rfl rfl hk) <| DT rfl rfl (fun K hk => OU rfl rfl rfl hk) <| DT rfl rfl (fun K hk => OU rfl rfl rfl hk) <| ?_
        refine DT rfl rfl (fun K hk => OU rfl rfl rfl hk) <| DT rfl rfl (fun K hk => OU rfl rfl rfl hk) <| DT rfl rfl (fun K hk => OU rfl rfl rfl hk) <| DT rfl rfl (fun K hk => OU rfl rfl rfl hk) <| dw_nil <| OU rfl rfl rfl <| OF rfl rfl (not_F h2) rfl <| PT rfl rfl (not_F h2) rfl <| ND <| CT rfl rfl <| SQ <| RG <| AS rfl rfl <| ND <| ret_cv Try.func172 (res1 Try.func172 rfl (rv_tmp rfl)) <| ?_
        rw [hI, hd3]; simp [rangesFrom, h2]
      · replace h2 := of_not_F h2
        refine DT rfl rfl (fun K hk => ON rfl rfl (not_T h2) (MV rfl rfl hk)) <| DT rfl rfl (fun K hk => ON rfl rfl (not_T h2) (rw_gtr rfl rfl rfl hk)) <| DT rfl rfl (fun K hk => ON rfl rfl (not_T h2) (MV rfl rfl hk)) <| ?_
        refine dw_case (i := 19) rfl (fun h3 => ?_) (fun h3 => ?_)
        · have hp5 := pos_of h3
          refine DT rfl rfl (fun K hk => ON rfl rfl h3 (MV rfl rfl hk)) <| DT rfl rfl (fun K hk => ON rfl rfl h3 (MV rfl rfl hk)) <| DT rfl rfl (fun K hk => ON rfl rfl h3 (rw_sub rfl rfl rfl hk)) <| ?_
          have hi6 : i - 1 < l.length := by omega
          obtain ⟨x7, hx7⟩ := get_of_lt hi6
          have hd7 := drop_cons hx7
          have hq8 := hA.plain hx7
          refine DT rfl rfl (fun K hk => ON rfl rfl h3 (rw_indexAddr (i - 1) rfl tyE_S_impl_Range rfl rfl (pred_of h3 (by omega)) (hA.some hi6) hi6 hk)) <| DT rfl rfl (fun K hk => ON rfl rfl h3 (FX rfl tyF_impl_Range_1 rfl hk)) <| DT rfl rfl (fun K hk => ON rfl rfl h3 (rw_loadX _ rfl tyP_int rfl (fun w hs => hq8.ld hs rfl) hk)) <| DT rfl rfl (fun K hk => ON rfl rfl h3 (MV rfl rfl hk)) <| DT rfl rfl (fun K hk => ON rfl rfl h3 (MV rfl rfl hk)) <| DT rfl rfl (fun K hk => ON rfl rfl h3 (rw_indexAddr (i) rfl tyE_S_impl_Range rfl rfl rfl (hA.some hi2) hi2 hk)) <| ?_
          refine DT rfl rfl (fun K hk => ON rfl rfl h3 (FX rfl tyF_impl_Range_0 rfl hk)) <| DT rfl rfl (fun K hk => ON rfl rfl h3 (rw_loadX _ rfl tyP_int rfl (fun w hs => hq4.ld hs rfl) hk)) <| dw_nil <| ON rfl rfl h3 <| rw_geq rfl rfl rfl <| ON rfl rfl (not_T h2) <| PT rfl rfl h3 rfl <| PF rfl rfl (not_T h2) rfl <| ND <| ?_
          refine gw_cond rfl (fun h4 => ?_) (fun h4 => ?_)
          · refine SQ <| RG <| AS rfl rfl <| ND <| ret_cv Try.func172 (res1 Try.func172 rfl (rv_tmp rfl)) <| ?_
            rw [hI, hd3]; simp [rangesFrom, h2, h4, prevOf_pos hp5 hx7]
          · refine SK <| IB <| RG <| MV rfl rfl <| rw_add rfl rfl rfl <| AS rfl rfl <| ND <| ?_
            refine gw_sub (Sub.consE (i := 3) rfl (int_succ (by omega)) (Sub.cons (i := 0) rfl (Sub.nil _))) (ih1 (i + 1) ?_ ?_)
            · exact ⟨by omega, by rw [hI, hd3, prevOf_succ, hx3]; simp [rangesFrom, h2, h4, prevOf_pos hp5 hx7]⟩
            · show l.length - (i + 1) < l.length - i; omega
        · have hz9 := zero_of h3
          refine DT rfl rfl (fun K hk => OF rfl rfl h3 rfl hk) <| DT rfl rfl (fun K hk => OF rfl rfl h3 rfl hk) <| DT rfl rfl (fun K hk => OF rfl rfl h3 rfl hk) <| DT rfl rfl (fun K hk => OF rfl rfl h3 rfl hk) <| DT rfl rfl (fun K hk => OF rfl rfl h3 rfl hk) <| DT rfl rfl (fun K hk => OF rfl rfl h3 rfl hk) <| DT rfl rfl (fun K hk => OF rfl rfl h3 rfl hk) <| DT rfl rfl (fun K hk => OF rfl rfl h3 rfl hk) <| DT rfl rfl (fun K hk => OF rfl rfl h3 rfl hk) <| DT rfl rfl (fun K hk => OF rfl rfl h3 rfl hk) <| ?_
          refine DT rfl rfl (fun K hk => OF rfl rfl h3 rfl hk) <| dw_nil <| OF rfl rfl h3 rfl <| ON rfl rfl (not_T h2) <| PF rfl rfl h3 rfl <| PF rfl rfl (not_T h2) rfl <| ND <| CF rfl rfl <| SK <| IB <| RG <| MV rfl rfl <| rw_add rfl rfl rfl <| AS rfl rfl <| ND <| ?_
          refine gw_sub (Sub.consE (i := 3) rfl (int_succ (by omega)) (Sub.cons (i := 0) rfl (Sub.nil _))) (ih1 (i + 1) ?_ ?_)
          · exact ⟨by omega, by rw [hI, hd3, prevOf_succ, hx3]; simp [rangesFrom, h2, prevOf_z (l := l) hz9]⟩
          · show l.length - (i + 1) < l.length - i; omega
    · have hn10 := nil_of_dec h1
      refine EX rfl <| SQ <| RG <| AS rfl rfl <| ND <| ret_cv Try.func172 (res1 Try.func172 rfl (rv_tmp rfl)) <| ?_
      rw [hI, hn10]; rfl

theorem spec_l3Copy {w : World} {v : Value} {l : List Range} (hv : RdS w 2 (Pl Range.cells) v l) (hb : l.length ≤ 4194304) : CN Try.prog 170 [v] w (fun v ch => OwA 156 2 (PlO Range.cells) v l ch) := by
  obtain ⟨A, c, rfl, hA⟩ := hv
  refine cn_of Try.func170 rfl rfl rfl <| SQ <| RG <| AS rfl rfl <| ND <| SQ <| RG <| rw_slice0 rfl tyM_S_impl_Range (PlO Range.cells) <| fun v1 how1 => MV rfl rfl <| rw_appendP rfl tyM_S_impl_Range eRange (fun _ => rfl) rfl rfl how1 (fun w hs => hA.sat Pl.keeps hs) (.refl _) (by first | omega | (simp; omega)) <| fun v2 ch2 how2 => AS rfl rfl <| ND <| ?_
  refine ret_cn ch2 Try.func170 (res1 Try.func170 rfl (rv_tmp rfl)) ?_ ?_
  · exact how2
  · simp

theorem spec_AddRange {w : World} {v : Value} {l : List Range} (hv : RdS w 2 (Pl Range.cells) v l) (hb : l.length ≤ 4194304) (r : Range) : CN Try.prog 109 [v, .agg r.cells.toArray] w (fun v ch => OwS 156 2 (PlO Range.cells) v (addRange l r) ch) := by
  obtain ⟨A, c, rfl, hA⟩ := hv
  refine cn_of Try.func109 rfl rfl rfl <| SQ <| RG <| BX [_, _] rfl rfl rfl <| fun b1 => AS rfl rfl <| ND <| SQ <| SQ <| RG <| MV rfl rfl <| CV1 rfl fun_spec_IsRanges rfl (fun w hs => spec_IsRanges (hA.s Pl.keeps hs) (by omega)) <| NT rfl rfl <| MV rfl rfl <| ?_
  refine rw_case (j := 11) rfl (fun h1 => ?_) (fun h1 => ?_)
  · replace h1 := of_not_T h1
    refine OF rfl rfl (not_F h1) rfl <| OF rfl rfl (not_F h1) rfl <| OF rfl rfl (not_F h1) rfl <| PT rfl rfl (not_F h1) rfl <| ND <| CT rfl rfl <| SQ <| RG <| MV rfl rfl <| CN1 rfl fun_spec_l3Copy rfl (fun w hs => spec_l3Copy (hA.s Pl.keeps hs) (by omega)) <| fun v1 ch1 how1 => AS rfl rfl <| ND <| ?_
    refine ret_cn ch1 Try.func109 (res1 Try.func109 rfl (rv_tmp rfl)) ?_ ?_
    · have hm : addRange l r = l := by simp [addRange, h1]
      rw [hm]; exact OwA.s how1
    · simp
  · replace h1 := of_not_F h1
    refine ON rfl rfl (not_T h1) <| LS (i := 0) [_, _] rfl tyS_impl_Range rfl rfl rfl rfl <| ON rfl rfl (not_T h1) <| CV1 rfl fun_spec_l3Fine rfl (fun w hs => spec_l3Fine _ w) <| ON rfl rfl (not_T h1) <| NT rfl rfl <| PF rfl rfl (not_T h1) rfl <| ND <| ?_
    refine gw_cond rfl (fun h2 => ?_) (fun h2 => ?_)
    · replace h2 := of_not_T h2
      refine SQ <| RG <| MV rfl rfl <| CN1 rfl fun_spec_l3Copy rfl (fun w hs => spec_l3Copy (hA.s Pl.keeps hs) (by omega)) <| fun v2 ch2 how2 => AS rfl rfl <| ND <| ?_
      refine ret_cn ch2 Try.func109 (res1 Try.func109 rfl (rv_tmp rfl)) ?_ ?_
      · have hm : addRange l r = l := by simp [addRange, h1, h2]
        rw [hm]; exact OwA.s how2
      · simp
    · replace h2 := of_not_F h2
      refine SK <| SQ <| RG <| rw_slice0 rfl tyM_S_impl_Range (PlO Range.cells) <| fun v3 how3 => AS rfl rfl <| ND <| SQ <| RG <| AS rfl rfl <| ND <| SQ <| SQ <| RG <| AS rfl rfl <| ND <| BK <| ?_
      refine gw_loopX (α := Nat × Range × Bool × List Range × Value × List Ck) (fun z_ => z_.1 ≤ l.length ∧ z_.2.2.2.1.length + (bif z_.2.2.1 then 0 else 1) ≤ z_.1 + 1 ∧ OwA 156 2 (PlO Range.cells) z_.2.2.2.2.1 z_.2.2.2.1 z_.2.2.2.2.2 ∧ addRange l r = z_.2.2.2.1 ++ addGo z_.2.1 z_.2.2.1 (l.drop z_.1)) (fun z_ => l.length - z_.1) (fun e z_ => (7, .int .i64 (z_.1 : Int)) :: (6, .bool z_.2.2.1) :: (5, z_.2.2.2.2.1) :: e) (fun B z_ => B.set 0 ⟨b1, 156, z_.2.1.cells⟩) (fun F z_ => z_.2.2.2.2.2 ++ F) (0, r, false, [], v3, []) [(0, _), (3, _), (4, _)] (Sub.consE rfl rfl (Sub.consE rfl rfl (Sub.consE rfl rfl (Sub.cons (i := 0) rfl (Sub.cons (i := 3) rfl (Sub.cons (i := 4) rfl (Sub.nil _))))))) rfl rfl ?_ ?_
      · exact ⟨Nat.zero_le _, Nat.le_refl _, how3, by simp [addRange, h1, h2]⟩
      · rintro ⟨i, r, pl, o, v, ch⟩ hI4 ih4
        dsimp only at hI4
        dsimp only [List.set]
        obtain ⟨hle, ho, hO, hI⟩ := hI4
        refine SQ <| SQ <| RG <| MV rfl rfl <| MV rfl rfl <| rw_len rfl tyE_S_impl_Range rfl <| rw_lss rfl rfl rfl <| ND <| ?_
        refine gw_cond rfl (fun h3 => ?_) (fun h3 => ?_)
        · have hi5 := lt_of_dec h3
          obtain ⟨x6, hx6⟩ := get_of_lt hi5
          have hd6 := drop_cons hx6
          refine SK <| SQ <| BK <| BK <| SQ <| gw_draw' [(0, .det), (1, .det), (2, .det), (3, .det), (4, .det), (5, .det), (6, .det)] [7, 8] mixed rfl (free_det (free_det (free_det (free_det (free_det (free_det (free_det free_nil))))))) (ts := [_, _]) rfl <| DT rfl rfl (fun K hk => MV rfl rfl hk) <| DT rfl rfl (fun K hk => MV rfl rfl hk) <| ?_
          have hq7 := hA.plain hx6
          refine DT rfl rfl (fun K hk => rw_indexAddr (i) rfl tyE_S_impl_Range rfl rfl rfl (hA.some hi5) hi5 hk) <| DT rfl rfl (fun K hk => FX rfl tyF_impl_Range_1 rfl hk) <| DT rfl rfl (fun K hk => rw_loadX _ rfl tyP_int rfl (fun w hs => hq7.ld hs rfl) hk) <| DT rfl rfl (fun K hk => FA rfl tyF_impl_Range_0 rfl hk) <| DT rfl rfl (fun K hk => LD (i := 0) rfl tyP_int rfl rfl rfl hk) <| dw_nil <| rw_lss rfl rfl rfl <| AS rfl rfl <| ND <| ?_
          refine gw_cond rfl (fun h4 => ?_) (fun h4 => ?_)
          · refine RG <| MV rfl rfl <| MV rfl rfl <| MV rfl rfl <| rw_indexAddr (i) rfl tyE_S_impl_Range rfl rfl rfl (hA.some hi5) hi5 <| rw_loadX_s [_, _] rfl tyS_impl_Range rfl rfl (fun w hs => hq7.lds0 (n := 2) hs rfl) <| rw_slice (xs := [(0, _)]) [_, _] rfl tyM_S_impl_Range rfl rfl rfl rfl <| fun b2 => rw_append1 (i := 0) (a := x6) rfl tyM_S_impl_Range eRange rfl rfl rfl hO ⟨rfl, rfl⟩ (.refl _) (by simp [] at ho ⊢; omega) <| fun v8 ch8 how8 => AS rfl rfl <| ND <| IB <| IB <| RG <| MV rfl rfl <| rw_add rfl rfl rfl <| AS rfl rfl <| ?_
            refine ND <| ?_
            refine gw_dropN 1 <| ?_
            refine gw_sub (Sub.consE (i := 7) rfl (int_succ (by omega)) (Sub.consE (i := 6) rfl rfl (Sub.consE (i := 5) rfl rfl (Sub.cons (i := 0) rfl (Sub.cons (i := 3) rfl (Sub.cons (i := 4) rfl (Sub.nil _))))))) (ih4 (i + 1, r, pl, (o ++ [x6]), v8, ch8) ?_ ?_)
            · refine ⟨by omega, ?_, how8, ?_⟩
              · simp [] at ho ⊢; omega
              · rw [hI, hd6]; simp [addGo, h4]
            · show l.length - (i + 1) < l.length - i; omega
          · refine SQ <| gw_draw' [(0, .det), (1, .det), (2, .det), (3, .det), (4, .det), (5, .det), (6, .det)] [7, 8] mixed rfl (free_det (free_det (free_det (free_det (free_det (free_det (free_det free_nil))))))) (ts := [_, _]) rfl <| DT rfl rfl (fun K hk => MV rfl rfl hk) <| DT rfl rfl (fun K hk => MV rfl rfl hk) <| DT rfl rfl (fun K hk => rw_indexAddr (i) rfl tyE_S_impl_Range rfl rfl rfl (hA.some hi5) hi5 hk) <| DT rfl rfl (fun K hk => FX rfl tyF_impl_Range_0 rfl hk) <| DT rfl rfl (fun K hk => rw_loadX _ rfl tyP_int rfl (fun w hs => hq7.ld hs rfl) hk) <| ?_
            refine DT rfl rfl (fun K hk => FA rfl tyF_impl_Range_1 rfl hk) <| DT rfl rfl (fun K hk => LD (i := 0) rfl tyP_int rfl rfl rfl hk) <| dw_nil <| rw_gtr rfl rfl rfl <| AS rfl rfl <| ND <| ?_
            refine gw_cond rfl (fun h5 => ?_) (fun h5 => ?_)
            · refine SQ <| SQ <| RG <| MV rfl rfl <| NT rfl rfl <| ND <| ?_
              refine gw_cond rfl (fun h6 => ?_) (fun h6 => ?_)
              · replace h6 := of_not_T h6
                refine SQ <| RG <| MV rfl rfl <| LS (i := 0) [_, _] rfl tyS_impl_Range rfl rfl rfl rfl <| rw_slice (xs := [(0, _)]) [_, _] rfl tyM_S_impl_Range rfl rfl rfl rfl <| fun b3 => rw_append1 (i := 0) (a := r) rfl tyM_S_impl_Range eRange rfl rfl rfl hO ⟨rfl, rfl⟩ (.refl _) (by simp [h6] at ho ⊢; omega) <| fun v9 ch9 how9 => AS rfl rfl <| ND <| RG <| AS rfl rfl <| ND <| RG <| MV rfl rfl <| MV rfl rfl <| MV rfl rfl <| rw_indexAddr (i) rfl tyE_S_impl_Range rfl rfl rfl (hA.some hi5) hi5 <| rw_loadX_s [_, _] rfl tyS_impl_Range rfl rfl (fun w hs => hq7.lds0 (n := 2) hs rfl) <| ?_
                refine rw_slice (xs := [(0, _)]) [_, _] rfl tyM_S_impl_Range rfl rfl rfl rfl <| fun b4 => rw_append1 (i := 0) (a := x6) rfl tyM_S_impl_Range eRange rfl rfl rfl how9 ⟨rfl, rfl⟩ (.refl _) (by simp [h6] at ho ⊢; omega) <| fun v10 ch10 how10 => AS rfl rfl <| ND <| IB <| IB <| RG <| MV rfl rfl <| rw_add rfl rfl rfl <| AS rfl rfl <| ND <| ?_
                refine gw_dropN 2 <| ?_
                refine gw_sub (Sub.consE (i := 7) rfl (int_succ (by omega)) (Sub.consE (i := 6) rfl rfl (Sub.consE (i := 5) rfl rfl (Sub.cons (i := 0) rfl (Sub.cons (i := 3) rfl (Sub.cons (i := 4) rfl (Sub.nil _))))))) (ih4 (i + 1, r, true, (o ++ [r] ++ [x6]), v10, ch10) ?_ ?_)
                · refine ⟨by omega, ?_, how10, ?_⟩
                  · simp [h6] at ho ⊢; omega
                  · rw [hI, hd6]; simp [addGo, h4, h5, h6]
                · show l.length - (i + 1) < l.length - i; omega
              · replace h6 := of_not_F h6
                refine SK <| RG <| MV rfl rfl <| MV rfl rfl <| MV rfl rfl <| rw_indexAddr (i) rfl tyE_S_impl_Range rfl rfl rfl (hA.some hi5) hi5 <| rw_loadX_s [_, _] rfl tyS_impl_Range rfl rfl (fun w hs => hq7.lds0 (n := 2) hs rfl) <| rw_slice (xs := [(0, _)]) [_, _] rfl tyM_S_impl_Range rfl rfl rfl rfl <| fun b5 => rw_append1 (i := 0) (a := x6) rfl tyM_S_impl_Range eRange rfl rfl rfl hO ⟨rfl, rfl⟩ (.refl _) (by simp [h6] at ho ⊢; omega) <| fun v11 ch11 how11 => AS rfl rfl <| ND <| IB <| IB <| RG <| MV rfl rfl <| rw_add rfl rfl rfl <| AS rfl rfl <| ?_
                refine ND <| ?_
                refine gw_dropN 1 <| ?_
                refine gw_sub (Sub.consE (i := 7) rfl (int_succ (by omega)) (Sub.consE (i := 6) rfl rfl (Sub.consE (i := 5) rfl rfl (Sub.cons (i := 0) rfl (Sub.cons (i := 3) rfl (Sub.cons (i := 4) rfl (Sub.nil _))))))) (ih4 (i + 1, r, pl, (o ++ [x6]), v11, ch11) ?_ ?_)
                · refine ⟨by omega, ?_, how11, ?_⟩
                  · simp [h6] at ho ⊢; omega
                  · rw [hI, hd6]; simp [addGo, h4, h5, h6]
                · show l.length - (i + 1) < l.length - i; omega
            · refine SQ <| gw_draw' [(0, .det), (1, .det), (2, .det), (3, .det), (4, .det), (5, .det), (6, .det)] [7, 8, 9] mixed rfl (free_det (free_det (free_det (free_det (free_det (free_det (free_det free_nil))))))) (ts := [_, _, _]) rfl <| DT rfl rfl (fun K hk => FA rfl tyF_impl_Range_0 rfl hk) <| DT rfl rfl (fun K hk => LD (i := 0) rfl tyP_int rfl rfl rfl hk) <| DT rfl rfl (fun K hk => MV rfl rfl hk) <| DT rfl rfl (fun K hk => MV rfl rfl hk) <| DT rfl rfl (fun K hk => rw_indexAddr (i) rfl tyE_S_impl_Range rfl rfl rfl (hA.some hi5) hi5 hk) <| DT rfl rfl (fun K hk => FX rfl tyF_impl_Range_0 rfl hk) <| ?_
              refine DT rfl rfl (fun K hk => rw_loadX _ rfl tyP_int rfl (fun w hs => hq7.ld hs rfl) hk) <| dw_nil <| rw_min rfl rfl rfl <| FA rfl tyF_impl_Range_0 rfl <| ST (i := 0) [_] [_, _] tyP_int.sz rfl rfl rfl rfl rfl rfl rfl rfl <| ND <| gw_draw' [(0, .det), (1, .det), (2, .det), (3, .det), (4, .det), (5, .det), (6, .det)] [7, 8, 9] mixed rfl (free_det (free_det (free_det (free_det (free_det (free_det (free_det free_nil))))))) (ts := [_, _, _]) rfl <| DT rfl rfl (fun K hk => FA rfl tyF_impl_Range_1 rfl hk) <| DT rfl rfl (fun K hk => LD (i := 0) rfl tyP_int rfl rfl rfl hk) <| ?_
              refine DT rfl rfl (fun K hk => MV rfl rfl hk) <| DT rfl rfl (fun K hk => MV rfl rfl hk) <| DT rfl rfl (fun K hk => rw_indexAddr (i) rfl tyE_S_impl_Range rfl rfl rfl (hA.some hi5) hi5 hk) <| DT rfl rfl (fun K hk => FX rfl tyF_impl_Range_1 rfl hk) <| DT rfl rfl (fun K hk => rw_loadX _ rfl tyP_int rfl (fun w hs => hq7.ld hs rfl) hk) <| dw_nil <| rw_max rfl rfl rfl <| FA rfl tyF_impl_Range_1 rfl <| ST (i := 0) [_] [_, _] tyP_int.sz rfl rfl rfl rfl rfl rfl rfl rfl <| ND <| IB <| IB <| RG <| MV rfl rfl <| ?_
              refine rw_add rfl rfl rfl <| AS rfl rfl <| ND <| ?_
              refine gw_sub (Sub.consE (i := 7) rfl (int_succ (by omega)) (Sub.consE (i := 6) rfl rfl (Sub.consE (i := 5) rfl rfl (Sub.cons (i := 0) rfl (Sub.cons (i := 3) rfl (Sub.cons (i := 4) rfl (Sub.nil _))))))) (ih4 (i + 1, ⟨min r.low x6.low, max r.high x6.high⟩, pl, o, v, ch) ?_ ?_)
              · refine ⟨by omega, ?_, hO, ?_⟩
                · simp [] at ho ⊢; omega
                · rw [hI, hd6]; simp [addGo, h4, h5]
              · show l.length - (i + 1) < l.length - i; omega
        · have hn12 := nil_of_dec h3
          refine EX rfl <| SQ <| SQ <| RG <| MV rfl rfl <| NT rfl rfl <| ND <| ?_
          refine gw_cond rfl (fun h7 => ?_) (fun h7 => ?_)
          · replace h7 := of_not_T h7
            refine RG <| MV rfl rfl <| LS (i := 0) [_, _] rfl tyS_impl_Range rfl rfl rfl rfl <| rw_slice (xs := [(0, _)]) [_, _] rfl tyM_S_impl_Range rfl rfl rfl rfl <| fun b6 => rw_append1 (i := 0) (a := r) rfl tyM_S_impl_Range eRange rfl rfl rfl hO ⟨rfl, rfl⟩ (.refl _) (by simp [h7] at ho ⊢; omega) <| fun v13 ch13 how13 => AS rfl rfl <| ND <| SQ <| RG <| MV rfl rfl <| AS rfl rfl <| ND <| ?_
            refine ret_cn ch13 Try.func109 (res1 Try.func109 rfl (rv_tmp rfl)) ?_ ?_
            · rw [hI, hn12]; simp only [addGo, cond_false, h7]; exact OwA.s how13
            · simp
          · replace h7 := of_not_F h7
            refine SK <| SQ <| RG <| MV rfl rfl <| AS rfl rfl <| ND <| ?_
            refine ret_cn ch Try.func109 (res1 Try.func109 rfl (rv_tmp rfl)) ?_ ?_
            · rw [hI, hn12]; simp only [addGo, cond_true, List.append_nil, h7]; exact OwA.s hO
            · simp

theorem spec_CountNumbers {w : World} {v : Value} {l : List Range} (hv : RdS w 2 (Pl Range.cells) v l) (hb : l.length ≤ 4194304) : CV Try.prog 173 [v] w (.int .i64 (countNumbers l)) := by
  obtain ⟨A, c, rfl, hA⟩ := hv
  refine cv_of Try.func173 rfl rfl rfl <| SQ <| RG <| AS rfl rfl <| ND <| SQ <| SQ <| RG <| MV rfl rfl <| CV1 rfl fun_spec_IsRanges rfl (fun w hs => spec_IsRanges (hA.s Pl.keeps hs) (by omega)) <| NT rfl rfl <| ND <| ?_
  refine gw_cond rfl (fun h1 => ?_) (fun h1 => ?_)
  · replace h1 := of_not_T h1
    refine SQ <| RG <| AS rfl rfl <| ND <| ret_cv Try.func173 (res1 Try.func173 rfl (rv_tmp rfl)) <| ?_
    simp [countNumbers, h1]
  · replace h1 := of_not_F h1
    refine SK <| SQ <| RG <| AS rfl rfl <| ND <| SQ <| SQ <| RG <| AS rfl rfl <| ND <| BK <| ?_
    refine gw_loopC (α := Nat × Int) (fun z_ => z_.1 ≤ l.length ∧ countNumbers l = countFrom z_.2 (l.drop z_.1)) (fun z_ => l.length - z_.1) (fun e z_ => (4, .int .i64 (z_.1 : Int)) :: (3, .int .i64 z_.2) :: e) (0, 0) [(0, _), (2, _)] (Sub.consE rfl rfl (Sub.consE rfl rfl (Sub.cons (i := 0) rfl (Sub.cons (i := 2) rfl (Sub.nil _))))) ?_ ?_
    · exact ⟨Nat.zero_le _, by simp [countNumbers, h1]⟩
    · rintro ⟨i, n⟩ hI1 ih1
      dsimp only at hI1
      dsimp only
      obtain ⟨hle, hI⟩ := hI1
      refine SQ <| SQ <| RG <| MV rfl rfl <| MV rfl rfl <| rw_len rfl tyE_S_impl_Range rfl <| rw_lss rfl rfl rfl <| ND <| ?_
      refine gw_cond rfl (fun h2 => ?_) (fun h2 => ?_)
      · have hi2 := lt_of_dec h2
        obtain ⟨x3, hx3⟩ := get_of_lt hi2
        have hd3 := drop_cons hx3
        refine SK <| SQ <| BK <| gw_draw' [(0, .det), (1, .det), (2, .det), (3, .det), (4, .det), (5, .det), (6, .det), (7, .det), (8, .det), (9, .det), (10, .det), (11, .det)] [12, 13] mixed rfl (free_det (free_det (free_det (free_det (free_det (free_det (free_det (free_det (free_det (free_det (free_det (free_det free_nil)))))))))))) (ts := [_, _]) rfl <| DT rfl rfl (fun K hk => MV rfl rfl hk) <| DT rfl rfl (fun K hk => MV rfl rfl hk) <| DT rfl rfl (fun K hk => MV rfl rfl hk) <| ?_
        have hq4 := hA.plain hx3
        refine DT rfl rfl (fun K hk => rw_indexAddr (i) rfl tyE_S_impl_Range rfl rfl rfl (hA.some hi2) hi2 hk) <| DT rfl rfl (fun K hk => FX rfl tyF_impl_Range_1 rfl hk) <| DT rfl rfl (fun K hk => rw_loadX _ rfl tyP_int rfl (fun w hs => hq4.ld hs rfl) hk) <| DT rfl rfl (fun K hk => rw_add rfl rfl rfl hk) <| DT rfl rfl (fun K hk => MV rfl rfl hk) <| DT rfl rfl (fun K hk => MV rfl rfl hk) <| DT rfl rfl (fun K hk => rw_indexAddr (i) rfl tyE_S_impl_Range rfl rfl rfl (hA.some hi2) hi2 hk) <| DT rfl rfl (fun K hk => FX rfl tyF_impl_Range_0 rfl hk) <| ?_
        refine DT rfl rfl (fun K hk => rw_loadX _ rfl tyP_int rfl (fun w hs => hq4.ld hs rfl) hk) <| dw_nil <| rw_sub rfl rfl rfl <| AS rfl rfl <| ND <| IB <| RG <| MV rfl rfl <| rw_add rfl rfl rfl <| AS rfl rfl <| ND <| ?_
        refine gw_sub (Sub.consE (i := 4) rfl (int_succ (by omega)) (Sub.consE (i := 3) rfl rfl (Sub.cons (i := 0) rfl (Sub.cons (i := 2) rfl (Sub.nil _))))) (ih1 (i + 1, w64 (w64 (n + x3.high) - x3.low)) ?_ ?_)
        · exact ⟨by omega, by rw [hI, hd3]; simp [countFrom, w64_sub2]⟩
        · show l.length - (i + 1) < l.length - i; omega
      · have hn5 := nil_of_dec h2
        refine EX rfl <| SQ <| RG <| MV rfl rfl <| AS rfl rfl <| ND <| ret_cv Try.func173 (res1 Try.func173 rfl (rv_tmp rfl)) <| ?_
        rw [hI, hn5]; rfl

theorem spec_FirstGap {w : World} {v : Value} {l : List Range} (hv : RdS w 2 (Pl Range.cells) v l) (hb : l.length ≤ 4194304) (n0 : Int) : CV Try.prog 174 [v, .int .i64 n0] w (.int .i64 (firstGap l n0)) := by
  obtain ⟨A, c, rfl, hA⟩ := hv
  refine cv_of Try.func174 rfl rfl rfl <| SQ <| RG <| AS rfl rfl <| ND <| SQ <| SQ <| RG <| MV rfl rfl <| CV1 rfl fun_spec_IsRanges rfl (fun w hs => spec_IsRanges (hA.s Pl.keeps hs) (by omega)) <| NT rfl rfl <| MV rfl rfl <| ?_
  refine rw_case (j := 9) rfl (fun h1 => ?_) (fun h1 => ?_)
  · replace h1 := of_not_T h1
    refine OF rfl rfl (not_F h1) rfl <| OF rfl rfl (not_F h1) rfl <| PT rfl rfl (not_F h1) rfl <| ND <| CT rfl rfl <| SQ <| RG <| AS rfl rfl <| ND <| ret_cv Try.func174 (res1 Try.func174 rfl (rv_tmp rfl)) <| ?_
    simp [firstGap, h1]
  · replace h1 := of_not_F h1
    refine ON rfl rfl (not_T h1) <| MV rfl rfl <| ON rfl rfl (not_T h1) <| rw_lss rfl rfl rfl <| PF rfl rfl (not_T h1) rfl <| ND <| ?_
    refine gw_cond rfl (fun h2 => ?_) (fun h2 => ?_)
    · refine SQ <| RG <| AS rfl rfl <| ND <| ret_cv Try.func174 (res1 Try.func174 rfl (rv_tmp rfl)) <| ?_
      simp [firstGap, h1, h2]
    · refine SK <| SQ <| SQ <| RG <| AS rfl rfl <| ND <| BK <| ?_
      refine gw_loopC (α := Nat × Int) (fun z_ => z_.1 ≤ l.length ∧ firstGap l n0 = gapFrom z_.2 (l.drop z_.1)) (fun z_ => l.length - z_.1) (fun e z_ => (5, .int .i64 (z_.1 : Int)) :: (1, .int .i64 z_.2) :: e) (0, n0) [(0, _), (4, _)] (Sub.consE rfl rfl (Sub.consE rfl rfl (Sub.cons (i := 0) rfl (Sub.cons (i := 4) rfl (Sub.nil _))))) ?_ ?_
      · exact ⟨Nat.zero_le _, by simp [firstGap, h1, h2]⟩
      · rintro ⟨i, n⟩ hI1 ih1
        dsimp only at hI1
        dsimp only
        obtain ⟨hle, hI⟩ := hI1
        refine SQ <| SQ <| RG <| MV rfl rfl <| MV rfl rfl <| rw_len rfl tyE_S_impl_Range rfl <| rw_lss rfl rfl rfl <| ND <| ?_
        refine gw_cond rfl (fun h3 => ?_) (fun h3 => ?_)
        · have hi2 := lt_of_dec h3
          obtain ⟨x3, hx3⟩ := get_of_lt hi2
          have hd3 := drop_cons hx3
          refine SK <| SQ <| BK <| SQ <| RG <| MV rfl rfl <| MV rfl rfl <| MV rfl rfl <| ?_
          have hq4 := hA.plain hx3
          refine rw_indexAddr (i) rfl tyE_S_impl_Range rfl rfl rfl (hA.some hi2) hi2 <| FX rfl tyF_impl_Range_0 rfl <| rw_loadX _ rfl tyP_int rfl (fun w hs => hq4.ld hs rfl) <| rw_geq rfl rfl rfl <| MV rfl rfl <| ?_
          refine rw_case (j := 26) rfl (fun h4 => ?_) (fun h4 => ?_)
          · refine ON rfl rfl h4 <| MV rfl rfl <| ON rfl rfl h4 <| MV rfl rfl <| ON rfl rfl h4 <| MV rfl rfl <| ON rfl rfl h4 <| rw_indexAddr (i) rfl tyE_S_impl_Range rfl rfl rfl (hA.some hi2) hi2 <| ON rfl rfl h4 <| FX rfl tyF_impl_Range_1 rfl <| ON rfl rfl h4 <| rw_loadX _ rfl tyP_int rfl (fun w hs => hq4.ld hs rfl) <| ON rfl rfl h4 <| rw_lss rfl rfl rfl <| PT rfl rfl h4 rfl <| ND <| ?_
            refine gw_cond rfl (fun h5 => ?_) (fun h5 => ?_)
            · refine RG <| MV rfl rfl <| MV rfl rfl <| rw_indexAddr (i) rfl tyE_S_impl_Range rfl rfl rfl (hA.some hi2) hi2 <| FX rfl tyF_impl_Range_1 rfl <| rw_loadX _ rfl tyP_int rfl (fun w hs => hq4.ld hs rfl) <| AS rfl rfl <| ND <| IB <| RG <| MV rfl rfl <| rw_add rfl rfl rfl <| AS rfl rfl <| ND <| ?_
              refine gw_sub (Sub.consE (i := 5) rfl (int_succ (by omega)) (Sub.consE (i := 1) rfl rfl (Sub.cons (i := 0) rfl (Sub.cons (i := 4) rfl (Sub.nil _))))) (ih1 (i + 1, x3.high) ?_ ?_)
              · exact ⟨by omega, by rw [hI, hd3]; simp [gapFrom, h4, h5]⟩
              · show l.length - (i + 1) < l.length - i; omega
            · refine SK <| IB <| RG <| MV rfl rfl <| rw_add rfl rfl rfl <| AS rfl rfl <| ND <| ?_
              refine gw_sub (Sub.consE (i := 5) rfl (int_succ (by omega)) (Sub.consE (i := 1) rfl rfl (Sub.cons (i := 0) rfl (Sub.cons (i := 4) rfl (Sub.nil _))))) (ih1 (i + 1, n) ?_ ?_)
              · exact ⟨by omega, by rw [hI, hd3]; simp [gapFrom, h4, h5]⟩
              · show l.length - (i + 1) < l.length - i; omega
          · refine OF rfl rfl h4 rfl <| OF rfl rfl h4 rfl <| OF rfl rfl h4 rfl <| OF rfl rfl h4 rfl <| OF rfl rfl h4 rfl <| OF rfl rfl h4 rfl <| OF rfl rfl h4 rfl <| PF rfl rfl h4 rfl <| ND <| CF rfl rfl <| SK <| IB <| RG <| MV rfl rfl <| rw_add rfl rfl rfl <| AS rfl rfl <| ND <| ?_
            refine gw_sub (Sub.consE (i := 5) rfl (int_succ (by omega)) (Sub.consE (i := 1) rfl rfl (Sub.cons (i := 0) rfl (Sub.cons (i := 4) rfl (Sub.nil _))))) (ih1 (i + 1, n) ?_ ?_)
            · exact ⟨by omega, by rw [hI, hd3]; simp [gapFrom, h4]⟩
            · show l.length - (i + 1) < l.length - i; omega
        · have hn5 := nil_of_dec h3
          refine EX rfl <| SQ <| RG <| MV rfl rfl <| AS rfl rfl <| ND <| ret_cv Try.func174 (res1 Try.func174 rfl (rv_tmp rfl)) <| ?_
          rw [hI, hn5]; rfl

theorem spec_l9State {w : World} {cs : List Value} {x : Sender} (hv : RdSender w cs x)  : CV Try.prog 175 [.agg cs.toArray] w (.int .i64 (followingS x)) := by
  obtain ⟨v0, v1, v2, v3, rfl, k0, k1, k2, k3⟩ := hv
  obtain ⟨A0, c0, rfl, hA0⟩ := k0
  obtain ⟨A1, c1, rfl, hA1⟩ := k1
  obtain ⟨A2, c2, rfl, hA2⟩ := k2
  obtain ⟨A3, c3, rfl, hA3⟩ := k3
  refine cv_of Try.func175 rfl rfl rfl <| SQ <| RG <| BX [_, _, _, _, _, _, _, _, _, _, _, _] rfl rfl rfl <| fun b1 => AS rfl rfl <| ND <| SQ <| BK <| SQ <| RG <| FA rfl tyF_impl_Sender_6 rfl <| LD (i := 0) rfl tyP_int rfl rfl rfl <| EQ1 rfl rfl rfl <| MV rfl rfl <| ?_
  refine rw_case (j := 7) rfl (fun h1 => ?_) (fun h1 => ?_)
  · refine ON rfl rfl h1 <| FA rfl tyF_impl_Sender_1 rfl <| ON rfl rfl h1 <| FA rfl tyF_impl_Ring_1 rfl <| ON rfl rfl h1 <| LD (i := 0) rfl tyP_int rfl rfl rfl <| ON rfl rfl h1 <| FA rfl tyF_impl_Sender_1 rfl <| ON rfl rfl h1 <| FA rfl tyF_impl_Ring_2 rfl <| ON rfl rfl h1 <| LD (i := 0) rfl tyP_int rfl rfl rfl <| ON rfl rfl h1 <| EQ1 rfl rfl rfl <| PT rfl rfl h1 rfl <| AS rfl rfl <| ND <| ?_
    refine gw_cond rfl (fun h2 => ?_) (fun h2 => ?_)
    · refine SQ <| RG <| AS rfl rfl <| ND <| ret_cv Try.func175 (res1 Try.func175 rfl (rv_tmp rfl)) <| ?_
      simp [followingS, h1, h2]
    · refine SQ <| RG <| FA rfl tyF_impl_Sender_6 rfl <| LD (i := 0) rfl tyP_int rfl rfl rfl <| rw_gtr rfl rfl rfl <| MV rfl rfl <| ?_
      refine rw_case (j := 20) rfl (fun h3 => ?_) (fun h3 => ?_)
      · refine OF rfl rfl h3 rfl <| OF rfl rfl h3 rfl <| OF rfl rfl h3 rfl <| OF rfl rfl h3 rfl <| OU rfl rfl rfl <| OU rfl rfl rfl <| OU rfl rfl rfl <| OF rfl rfl h3 rfl <| PT rfl rfl h3 rfl <| AS rfl rfl <| ND <| CT rfl rfl <| SQ <| RG <| AS rfl rfl <| ND <| ret_cv Try.func175 (res1 Try.func175 rfl (rv_tmp rfl)) <| ?_
        simp [followingS, h1, h2, h3]
      · refine ON rfl rfl h3 <| FA rfl tyF_impl_Sender_6 rfl <| ON rfl rfl h3 <| LD (i := 0) rfl tyP_int rfl rfl rfl <| ON rfl rfl h3 <| EQ1 rfl rfl rfl <| ON rfl rfl h3 <| MV rfl rfl <| ?_
        refine rw_case (j := 24) rfl (fun h4 => ?_) (fun h4 => ?_)
        · refine ON rfl rfl h4 <| FA rfl tyF_impl_Sender_0 rfl <| ON rfl rfl h4 <| LD (i := 0) rfl tyP_int rfl rfl rfl <| ON rfl rfl h4 <| EQ1 rfl rfl rfl <| ON rfl rfl h3 <| PT rfl rfl h4 rfl <| PF rfl rfl h3 rfl <| AS rfl rfl <| ND <| ?_
          refine gw_cond rfl (fun h5 => ?_) (fun h5 => ?_)
          · refine SQ <| RG <| AS rfl rfl <| ND <| ret_cv Try.func175 (res1 Try.func175 rfl (rv_tmp rfl)) <| ?_
            simp [followingS, h1, h2, h3, h4, h5]
          · refine SQ <| RG <| FA rfl tyF_impl_Sender_7 rfl <| LD (i := 0) rfl tyP_int rfl rfl rfl <| rw_gtr rfl rfl rfl <| MV rfl rfl <| ?_
            refine rw_case (j := 34) rfl (fun h6 => ?_) (fun h6 => ?_)
            · refine OF rfl rfl h6 rfl <| OF rfl rfl h6 rfl <| OF rfl rfl h6 rfl <| OF rfl rfl h6 rfl <| OU rfl rfl rfl <| OU rfl rfl rfl <| OU rfl rfl rfl <| OF rfl rfl h6 rfl <| PT rfl rfl h6 rfl <| AS rfl rfl <| ND <| CT rfl rfl <| SQ <| RG <| AS rfl rfl <| ND <| ret_cv Try.func175 (res1 Try.func175 rfl (rv_tmp rfl)) <| ?_
              simp [followingS, h1, h2, h3, h4, h5, h6]
            · refine ON rfl rfl h6 <| FA rfl tyF_impl_Sender_6 rfl <| ON rfl rfl h6 <| LD (i := 0) rfl tyP_int rfl rfl rfl <| ON rfl rfl h6 <| EQ1 rfl rfl rfl <| ON rfl rfl h6 <| MV rfl rfl <| ?_
              refine rw_case (j := 38) rfl (fun h7 => ?_) (fun h7 => ?_)
              · refine ON rfl rfl h7 <| FA rfl tyF_impl_Sender_0 rfl <| ON rfl rfl h7 <| LD (i := 0) rfl tyP_int rfl rfl rfl <| ON rfl rfl h7 <| EQ1 rfl rfl rfl <| ON rfl rfl h6 <| PT rfl rfl h7 rfl <| PF rfl rfl h6 rfl <| AS rfl rfl <| ND <| ?_
                refine gw_cond rfl (fun h8 => ?_) (fun h8 => ?_)
                · refine SQ <| RG <| AS rfl rfl <| ND <| ret_cv Try.func175 (res1 Try.func175 rfl (rv_tmp rfl)) <| ?_
                  simp [followingS, h1, h2, h3, h4, h5, h6, h8]
                · refine SK <| IB <| SQ <| RG <| AS rfl rfl <| ND <| ret_cv Try.func175 (res1 Try.func175 rfl (rv_tmp rfl)) <| ?_
                  simp [followingS, h1, h2, h3, h4, h5, h6, h8]
              · refine OF rfl rfl h7 rfl <| OF rfl rfl h7 rfl <| OF rfl rfl h7 rfl <| ON rfl rfl h6 <| PF rfl rfl h7 rfl <| PF rfl rfl h6 rfl <| AS rfl rfl <| ND <| CF rfl rfl <| SK <| IB <| SQ <| RG <| AS rfl rfl <| ND <| ret_cv Try.func175 (res1 Try.func175 rfl (rv_tmp rfl)) <| ?_
                simp_all []
        · refine OF rfl rfl h4 rfl <| OF rfl rfl h4 rfl <| OF rfl rfl h4 rfl <| ON rfl rfl h3 <| PF rfl rfl h4 rfl <| PF rfl rfl h3 rfl <| AS rfl rfl <| ND <| CF rfl rfl <| SQ <| RG <| FA rfl tyF_impl_Sender_7 rfl <| LD (i := 0) rfl tyP_int rfl rfl rfl <| rw_gtr rfl rfl rfl <| MV rfl rfl <| ?_
          refine rw_case (j := 34) rfl (fun h9 => ?_) (fun h9 => ?_)
          · refine OF rfl rfl h9 rfl <| OF rfl rfl h9 rfl <| OF rfl rfl h9 rfl <| OF rfl rfl h9 rfl <| OU rfl rfl rfl <| OU rfl rfl rfl <| OU rfl rfl rfl <| OF rfl rfl h9 rfl <| PT rfl rfl h9 rfl <| AS rfl rfl <| ND <| CT rfl rfl <| SQ <| RG <| AS rfl rfl <| ND <| ret_cv Try.func175 (res1 Try.func175 rfl (rv_tmp rfl)) <| ?_
            simp [followingS, h1, h2, h3, h4, h9]
          · refine ON rfl rfl h9 <| FA rfl tyF_impl_Sender_6 rfl <| ON rfl rfl h9 <| LD (i := 0) rfl tyP_int rfl rfl rfl <| ON rfl rfl h9 <| EQ1 rfl rfl rfl <| ON rfl rfl h9 <| MV rfl rfl <| ?_
            refine rw_case (j := 38) rfl (fun h10 => ?_) (fun h10 => ?_)
            · refine ON rfl rfl h10 <| FA rfl tyF_impl_Sender_0 rfl <| ON rfl rfl h10 <| LD (i := 0) rfl tyP_int rfl rfl rfl <| ON rfl rfl h10 <| EQ1 rfl rfl rfl <| ON rfl rfl h9 <| PT rfl rfl h10 rfl <| PF rfl rfl h9 rfl <| AS rfl rfl <| ND <| ?_
              refine gw_cond rfl (fun h11 => ?_) (fun h11 => ?_)
              · refine SQ <| RG <| AS rfl rfl <| ND <| ret_cv Try.func175 (res1 Try.func175 rfl (rv_tmp rfl)) <| ?_
                simp_all []
              · refine SK <| IB <| SQ <| RG <| AS rfl rfl <| ND <| ret_cv Try.func175 (res1 Try.func175 rfl (rv_tmp rfl)) <| ?_
                simp [followingS, h1, h2, h3, h4, h9, h11]
            · refine OF rfl rfl h10 rfl <| OF rfl rfl h10 rfl <| OF rfl rfl h10 rfl <| ON rfl rfl h9 <| PF rfl rfl h10 rfl <| PF rfl rfl h9 rfl <| AS rfl rfl <| ND <| CF rfl rfl <| SK <| IB <| SQ <| RG <| AS rfl rfl <| ND <| ret_cv Try.func175 (res1 Try.func175 rfl (rv_tmp rfl)) <| ?_
              simp [followingS, h1, h2, h3, h4, h9]
  · refine OF rfl rfl h1 rfl <| OF rfl rfl h1 rfl <| OF rfl rfl h1 rfl <| OF rfl rfl h1 rfl <| OF rfl rfl h1 rfl <| OF rfl rfl h1 rfl <| OF rfl rfl h1 rfl <| PF rfl rfl h1 rfl <| AS rfl rfl <| ND <| CF rfl rfl <| SQ <| RG <| FA rfl tyF_impl_Sender_6 rfl <| LD (i := 0) rfl tyP_int rfl rfl rfl <| rw_gtr rfl rfl rfl <| MV rfl rfl <| ?_
    refine rw_case (j := 20) rfl (fun h12 => ?_) (fun h12 => ?_)
    · refine OF rfl rfl h12 rfl <| OF rfl rfl h12 rfl <| OF rfl rfl h12 rfl <| OF rfl rfl h12 rfl <| OU rfl rfl rfl <| OU rfl rfl rfl <| OU rfl rfl rfl <| OF rfl rfl h12 rfl <| PT rfl rfl h12 rfl <| AS rfl rfl <| ND <| CT rfl rfl <| SQ <| RG <| AS rfl rfl <| ND <| ret_cv Try.func175 (res1 Try.func175 rfl (rv_tmp rfl)) <| ?_
      simp [followingS, h1, h12]
    · refine ON rfl rfl h12 <| FA rfl tyF_impl_Sender_6 rfl <| ON rfl rfl h12 <| LD (i := 0) rfl tyP_int rfl rfl rfl <| ON rfl rfl h12 <| EQ1 rfl rfl rfl <| ON rfl rfl h12 <| MV rfl rfl <| ?_
      refine rw_case (j := 24) rfl (fun h13 => ?_) (fun h13 => ?_)
      · refine ON rfl rfl h13 <| FA rfl tyF_impl_Sender_0 rfl <| ON rfl rfl h13 <| LD (i := 0) rfl tyP_int rfl rfl rfl <| ON rfl rfl h13 <| EQ1 rfl rfl rfl <| ON rfl rfl h12 <| PT rfl rfl h13 rfl <| PF rfl rfl h12 rfl <| AS rfl rfl <| ND <| ?_
        refine gw_cond rfl (fun h14 => ?_) (fun h14 => ?_)
        · refine SQ <| RG <| AS rfl rfl <| ND <| ret_cv Try.func175 (res1 Try.func175 rfl (rv_tmp rfl)) <| ?_
          simp [followingS, h1, h12, h13, h14]
        · refine SQ <| RG <| FA rfl tyF_impl_Sender_7 rfl <| LD (i := 0) rfl tyP_int rfl rfl rfl <| rw_gtr rfl rfl rfl <| MV rfl rfl <| ?_
          refine rw_case (j := 34) rfl (fun h15 => ?_) (fun h15 => ?_)
          · refine OF rfl rfl h15 rfl <| OF rfl rfl h15 rfl <| OF rfl rfl h15 rfl <| OF rfl rfl h15 rfl <| OU rfl rfl rfl <| OU rfl rfl rfl <| OU rfl rfl rfl <| OF rfl rfl h15 rfl <| PT rfl rfl h15 rfl <| AS rfl rfl <| ND <| CT rfl rfl <| SQ <| RG <| AS rfl rfl <| ND <| ret_cv Try.func175 (res1 Try.func175 rfl (rv_tmp rfl)) <| ?_
            simp [followingS, h1, h12, h13, h14, h15]
          · refine ON rfl rfl h15 <| FA rfl tyF_impl_Sender_6 rfl <| ON rfl rfl h15 <| LD (i := 0) rfl tyP_int rfl rfl rfl <| ON rfl rfl h15 <| EQ1 rfl rfl rfl <| ON rfl rfl h15 <| MV rfl rfl <| ?_
            refine rw_case (j := 38) rfl (fun h16 => ?_) (fun h16 => ?_)
            · refine ON rfl rfl h16 <| FA rfl tyF_impl_Sender_0 rfl <| ON rfl rfl h16 <| LD (i := 0) rfl tyP_int rfl rfl rfl <| ON rfl rfl h16 <| EQ1 rfl rfl rfl <| ON rfl rfl h15 <| PT rfl rfl h16 rfl <| PF rfl rfl h15 rfl <| AS rfl rfl <| ND <| ?_
              refine gw_cond rfl (fun h17 => ?_) (fun h17 => ?_)
              · refine SQ <| RG <| AS rfl rfl <| ND <| ret_cv Try.func175 (res1 Try.func175 rfl (rv_tmp rfl)) <| ?_
                simp [followingS, h1, h12, h13, h14, h15, h17]
              · refine SK <| IB <| SQ <| RG <| AS rfl rfl <| ND <| ret_cv Try.func175 (res1 Try.func175 rfl (rv_tmp rfl)) <| ?_
                simp [followingS, h1, h12, h13, h14, h15, h17]
            · refine OF rfl rfl h16 rfl <| OF rfl rfl h16 rfl <| OF rfl rfl h16 rfl <| ON rfl rfl h15 <| PF rfl rfl h16 rfl <| PF rfl rfl h15 rfl <| AS rfl rfl <| ND <| CF rfl rfl <| SK <| IB <| SQ <| RG <| AS rfl rfl <| ND <| ret_cv Try.func175 (res1 Try.func175 rfl (rv_tmp rfl)) <| ?_
              simp_all []
      · refine OF rfl rfl h13 rfl <| OF rfl rfl h13 rfl <| OF rfl rfl h13 rfl <| ON rfl rfl h12 <| PF rfl rfl h13 rfl <| PF rfl rfl h12 rfl <| AS rfl rfl <| ND <| CF rfl rfl <| SQ <| RG <| FA rfl tyF_impl_Sender_7 rfl <| LD (i := 0) rfl tyP_int rfl rfl rfl <| rw_gtr rfl rfl rfl <| MV rfl rfl <| ?_
        refine rw_case (j := 34) rfl (fun h18 => ?_) (fun h18 => ?_)
        · refine OF rfl rfl h18 rfl <| OF rfl rfl h18 rfl <| OF rfl rfl h18 rfl <| OF rfl rfl h18 rfl <| OU rfl rfl rfl <| OU rfl rfl rfl <| OU rfl rfl rfl <| OF rfl rfl h18 rfl <| PT rfl rfl h18 rfl <| AS rfl rfl <| ND <| CT rfl rfl <| SQ <| RG <| AS rfl rfl <| ND <| ret_cv Try.func175 (res1 Try.func175 rfl (rv_tmp rfl)) <| ?_
          simp [followingS, h1, h12, h13, h18]
        · refine ON rfl rfl h18 <| FA rfl tyF_impl_Sender_6 rfl <| ON rfl rfl h18 <| LD (i := 0) rfl tyP_int rfl rfl rfl <| ON rfl rfl h18 <| EQ1 rfl rfl rfl <| ON rfl rfl h18 <| MV rfl rfl <| ?_
          refine rw_case (j := 38) rfl (fun h19 => ?_) (fun h19 => ?_)
          · refine ON rfl rfl h19 <| FA rfl tyF_impl_Sender_0 rfl <| ON rfl rfl h19 <| LD (i := 0) rfl tyP_int rfl rfl rfl <| ON rfl rfl h19 <| EQ1 rfl rfl rfl <| ON rfl rfl h18 <| PT rfl rfl h19 rfl <| PF rfl rfl h18 rfl <| AS rfl rfl <| ND <| ?_
            refine gw_cond rfl (fun h20 => ?_) (fun h20 => ?_)
            · refine SQ <| RG <| AS rfl rfl <| ND <| ret_cv Try.func175 (res1 Try.func175 rfl (rv_tmp rfl)) <| ?_
              simp_all []
            · refine SK <| IB <| SQ <| RG <| AS rfl rfl <| ND <| ret_cv Try.func175 (res1 Try.func175 rfl (rv_tmp rfl)) <| ?_
              simp [followingS, h1, h12, h13, h18, h20]
          · refine OF rfl rfl h19 rfl <| OF rfl rfl h19 rfl <| OF rfl rfl h19 rfl <| ON rfl rfl h18 <| PF rfl rfl h19 rfl <| PF rfl rfl h18 rfl <| AS rfl rfl <| ND <| CF rfl rfl <| SK <| IB <| SQ <| RG <| AS rfl rfl <| ND <| ret_cv Try.func175 (res1 Try.func175 rfl (rv_tmp rfl)) <| ?_
            simp [followingS, h1, h12, h13, h18]

set_option maxRecDepth 20000 in
theorem spec_IsSender {w : World} {cs : List Value} {x : Sender} (hv : RdSender w cs x) (hb : x.le 1048576) : CV Try.prog 107 [.agg cs.toArray] w (.bool (isSenderS x)) := by
  obtain ⟨v0, v1, v2, v3, rfl, k0, k1, k2, k3⟩ := hv
  obtain ⟨A0, c0, rfl, hA0⟩ := k0
  obtain ⟨A1, c1, rfl, hA1⟩ := k1
  obtain ⟨A2, c2, rfl, hA2⟩ := k2
  obtain ⟨A3, c3, rfl, hA3⟩ := k3
  obtain ⟨hb0, hb1, hb2, hb3⟩ := hb
  refine cv_of Try.func107 rfl rfl rfl <| SQ <| RG <| BX [_, _, _, _, _, _, _, _, _, _, _, _] rfl rfl rfl <| fun b1 => AS rfl rfl <| ND <| SQ <| SQ <| RG <| FA rfl tyF_impl_Sender_1 rfl <| LS (i := 0) [_, _, _, _] rfl tyS_impl_Ring rfl rfl rfl rfl <| CV1 rfl fun_spec_IsRing rfl (fun w hs => spec_IsRing ⟨_, rfl, (hA0.s Pl.keeps hs)⟩ (show _ ≤ _ from hb0)) <| NT rfl rfl <| MV rfl rfl <| ?_
  refine rw_case (j := 13) rfl (fun h1 => ?_) (fun h1 => ?_)
  · replace h1 := of_not_T h1
    refine OF rfl rfl (not_F h1) rfl <| OF rfl rfl (not_F h1) rfl <| OF rfl rfl (not_F h1) rfl <| OF rfl rfl (not_F h1) rfl <| PT rfl rfl (not_F h1) rfl <| MV rfl rfl <| OF rfl rfl rfl rfl <| OF rfl rfl rfl rfl <| OF rfl rfl rfl rfl <| OF rfl rfl rfl rfl <| PT rfl rfl rfl rfl <| MV rfl rfl <| OF rfl rfl rfl rfl <| OF rfl rfl rfl rfl <| OF rfl rfl rfl rfl <| OF rfl rfl rfl rfl <| PT rfl rfl rfl rfl <| MV rfl rfl <| OF rfl rfl rfl rfl <| OF rfl rfl rfl rfl <| ?_
    refine OF rfl rfl rfl rfl <| OF rfl rfl rfl rfl <| OF rfl rfl rfl rfl <| OF rfl rfl rfl rfl <| OF rfl rfl rfl rfl <| PT rfl rfl rfl rfl <| MV rfl rfl <| OF rfl rfl rfl rfl <| OF rfl rfl rfl rfl <| OF rfl rfl rfl rfl <| OF rfl rfl rfl rfl <| PT rfl rfl rfl rfl <| MV rfl rfl <| OF rfl rfl rfl rfl <| OF rfl rfl rfl rfl <| OF rfl rfl rfl rfl <| OF rfl rfl rfl rfl <| PT rfl rfl rfl rfl <| ND <| CT rfl rfl <| SQ <| RG <| AS rfl rfl <| ?_
    refine ND <| ret_cv Try.func107 (res1 Try.func107 rfl (rv_tmp rfl)) <| ?_
    simp [isSenderS, senderBase, senderReset, h1]
  · replace h1 := of_not_F h1
    refine ON rfl rfl (not_T h1) <| FA rfl tyF_impl_Sender_2 rfl <| ON rfl rfl (not_T h1) <| LD (i := 0) rfl tyP_S_impl_Range rfl rfl rfl <| ON rfl rfl (not_T h1) <| CV1 rfl fun_spec_IsRanges rfl (fun w hs => spec_IsRanges (hA1.s Pl.keeps hs) (by omega)) <| ON rfl rfl (not_T h1) <| NT rfl rfl <| PF rfl rfl (not_T h1) rfl <| MV rfl rfl <| ?_
    refine rw_case (j := 19) rfl (fun h2 => ?_) (fun h2 => ?_)
    · replace h2 := of_not_T h2
      refine OF rfl rfl (not_F h2) rfl <| OF rfl rfl (not_F h2) rfl <| OF rfl rfl (not_F h2) rfl <| OF rfl rfl (not_F h2) rfl <| PT rfl rfl (not_F h2) rfl <| MV rfl rfl <| OF rfl rfl rfl rfl <| OF rfl rfl rfl rfl <| OF rfl rfl rfl rfl <| OF rfl rfl rfl rfl <| PT rfl rfl rfl rfl <| MV rfl rfl <| OF rfl rfl rfl rfl <| OF rfl rfl rfl rfl <| OF rfl rfl rfl rfl <| OF rfl rfl rfl rfl <| OF rfl rfl rfl rfl <| OF rfl rfl rfl rfl <| OF rfl rfl rfl rfl <| ?_
      refine PT rfl rfl rfl rfl <| MV rfl rfl <| OF rfl rfl rfl rfl <| OF rfl rfl rfl rfl <| OF rfl rfl rfl rfl <| OF rfl rfl rfl rfl <| PT rfl rfl rfl rfl <| MV rfl rfl <| OF rfl rfl rfl rfl <| OF rfl rfl rfl rfl <| OF rfl rfl rfl rfl <| OF rfl rfl rfl rfl <| PT rfl rfl rfl rfl <| ND <| CT rfl rfl <| SQ <| RG <| AS rfl rfl <| ND <| ret_cv Try.func107 (res1 Try.func107 rfl (rv_tmp rfl)) <| ?_
      simp [isSenderS, senderBase, senderReset, h1, h2]
    · replace h2 := of_not_F h2
      refine ON rfl rfl (not_T h2) <| FA rfl tyF_impl_Sender_3 rfl <| ON rfl rfl (not_T h2) <| LD (i := 0) rfl tyP_S_impl_Range rfl rfl rfl <| ON rfl rfl (not_T h2) <| CV1 rfl fun_spec_IsRanges rfl (fun w hs => spec_IsRanges (hA2.s Pl.keeps hs) (by omega)) <| ON rfl rfl (not_T h2) <| NT rfl rfl <| PF rfl rfl (not_T h2) rfl <| MV rfl rfl <| ?_
      refine rw_case (j := 25) rfl (fun h3 => ?_) (fun h3 => ?_)
      · replace h3 := of_not_T h3
        refine OF rfl rfl (not_F h3) rfl <| OF rfl rfl (not_F h3) rfl <| OF rfl rfl (not_F h3) rfl <| OF rfl rfl (not_F h3) rfl <| PT rfl rfl (not_F h3) rfl <| MV rfl rfl <| OF rfl rfl rfl rfl <| OF rfl rfl rfl rfl <| OF rfl rfl rfl rfl <| OF rfl rfl rfl rfl <| OF rfl rfl rfl rfl <| OF rfl rfl rfl rfl <| OF rfl rfl rfl rfl <| PT rfl rfl rfl rfl <| MV rfl rfl <| OF rfl rfl rfl rfl <| OF rfl rfl rfl rfl <| OF rfl rfl rfl rfl <| OF rfl rfl rfl rfl <| ?_
        refine PT rfl rfl rfl rfl <| MV rfl rfl <| OF rfl rfl rfl rfl <| OF rfl rfl rfl rfl <| OF rfl rfl rfl rfl <| OF rfl rfl rfl rfl <| PT rfl rfl rfl rfl <| ND <| CT rfl rfl <| SQ <| RG <| AS rfl rfl <| ND <| ret_cv Try.func107 (res1 Try.func107 rfl (rv_tmp rfl)) <| ?_
        simp [isSenderS, senderBase, senderReset, h1, h2, h3]
      · replace h3 := of_not_F h3
        refine ON rfl rfl (not_T h3) <| FA rfl tyF_impl_Sender_4 rfl <| ON rfl rfl (not_T h3) <| LD (i := 0) rfl tyP_S_impl_Range rfl rfl rfl <| ON rfl rfl (not_T h3) <| CV1 rfl fun_spec_IsRanges rfl (fun w hs => spec_IsRanges (hA3.s Pl.keeps hs) (by omega)) <| ON rfl rfl (not_T h3) <| NT rfl rfl <| PF rfl rfl (not_T h3) rfl <| MV rfl rfl <| ?_
        refine rw_case (j := 31) rfl (fun h4 => ?_) (fun h4 => ?_)
        · replace h4 := of_not_T h4
          refine OF rfl rfl (not_F h4) rfl <| OF rfl rfl (not_F h4) rfl <| OF rfl rfl (not_F h4) rfl <| OF rfl rfl (not_F h4) rfl <| OF rfl rfl (not_F h4) rfl <| OF rfl rfl (not_F h4) rfl <| OF rfl rfl (not_F h4) rfl <| PT rfl rfl (not_F h4) rfl <| MV rfl rfl <| OF rfl rfl rfl rfl <| OF rfl rfl rfl rfl <| OF rfl rfl rfl rfl <| OF rfl rfl rfl rfl <| PT rfl rfl rfl rfl <| MV rfl rfl <| OF rfl rfl rfl rfl <| OF rfl rfl rfl rfl <| OF rfl rfl rfl rfl <| OF rfl rfl rfl rfl <| ?_
          refine PT rfl rfl rfl rfl <| ND <| CT rfl rfl <| SQ <| RG <| AS rfl rfl <| ND <| ret_cv Try.func107 (res1 Try.func107 rfl (rv_tmp rfl)) <| ?_
          simp [isSenderS, senderBase, senderReset, h1, h2, h3, h4]
        · replace h4 := of_not_F h4
          refine ON rfl rfl (not_T h4) <| FA rfl tyF_impl_Sender_7 rfl <| ON rfl rfl (not_T h4) <| LD (i := 0) rfl tyP_int rfl rfl rfl <| ON rfl rfl (not_T h4) <| FA rfl tyF_impl_Sender_1 rfl <| ON rfl rfl (not_T h4) <| FA rfl tyF_impl_Ring_2 rfl <| ON rfl rfl (not_T h4) <| LD (i := 0) rfl tyP_int rfl rfl rfl <| ON rfl rfl (not_T h4) <| CV1 rfl fun_spec_l1In rfl (fun w hs => spec_l1In _ _ _ w) <| ON rfl rfl (not_T h4) <| NT rfl rfl <| PF rfl rfl (not_T h4) rfl <| MV rfl rfl <| ?_
          refine rw_case (j := 40) rfl (fun h5 => ?_) (fun h5 => ?_)
          · replace h5 := of_not_T h5
            refine OF rfl rfl (not_F h5) rfl <| OF rfl rfl (not_F h5) rfl <| OF rfl rfl (not_F h5) rfl <| OF rfl rfl (not_F h5) rfl <| PT rfl rfl (not_F h5) rfl <| MV rfl rfl <| OF rfl rfl rfl rfl <| OF rfl rfl rfl rfl <| OF rfl rfl rfl rfl <| OF rfl rfl rfl rfl <| PT rfl rfl rfl rfl <| ND <| CT rfl rfl <| SQ <| RG <| AS rfl rfl <| ND <| ret_cv Try.func107 (res1 Try.func107 rfl (rv_tmp rfl)) <| ?_
            simp [isSenderS, senderBase, senderReset, h1, h2, h3, h4, h5]
          · replace h5 := of_not_F h5
            refine ON rfl rfl (not_T h5) <| FA rfl tyF_impl_Sender_8 rfl <| ON rfl rfl (not_T h5) <| LD (i := 0) rfl tyP_int rfl rfl rfl <| ON rfl rfl (not_T h5) <| CV1 rfl fun_spec_l4Quic rfl (fun w hs => spec_l4Quic _ w) <| ON rfl rfl (not_T h5) <| NT rfl rfl <| PF rfl rfl (not_T h5) rfl <| MV rfl rfl <| ?_
            refine rw_case (j := 46) rfl (fun h6 => ?_) (fun h6 => ?_)
            · replace h6 := of_not_T h6
              refine OF rfl rfl (not_F h6) rfl <| OF rfl rfl (not_F h6) rfl <| OF rfl rfl (not_F h6) rfl <| OF rfl rfl (not_F h6) rfl <| PT rfl rfl (not_F h6) rfl <| ND <| CT rfl rfl <| SQ <| RG <| AS rfl rfl <| ND <| ret_cv Try.func107 (res1 Try.func107 rfl (rv_tmp rfl)) <| ?_
              simp [isSenderS, senderBase, senderReset, h1, h2, h3, h4, h5, h6]
            · replace h6 := of_not_F h6
              refine ON rfl rfl (not_T h6) <| FA rfl tyF_impl_Sender_6 rfl <| ON rfl rfl (not_T h6) <| LD (i := 0) rfl tyP_int rfl rfl rfl <| ON rfl rfl (not_T h6) <| CV1 rfl fun_spec_l1In rfl (fun w hs => spec_l1In _ _ _ w) <| ON rfl rfl (not_T h6) <| NT rfl rfl <| PF rfl rfl (not_T h6) rfl <| ND <| ?_
              refine gw_cond rfl (fun h7 => ?_) (fun h7 => ?_)
              · replace h7 := of_not_T h7
                refine SQ <| RG <| AS rfl rfl <| ND <| ret_cv Try.func107 (res1 Try.func107 rfl (rv_tmp rfl)) <| ?_
                simp [isSenderS, senderBase, senderReset, h1, h2, h3, h4, h5, h6, h7]
              · replace h7 := of_not_F h7
                refine SK <| SQ <| SQ <| RG <| FA rfl tyF_impl_Sender_0 rfl <| LD (i := 0) rfl tyP_int rfl rfl rfl <| EQ1 rfl rfl rfl <| MV rfl rfl <| ?_
                refine rw_case (j := 55) rfl (fun h8 => ?_) (fun h8 => ?_)
                · refine OF rfl rfl h8 rfl <| OF rfl rfl h8 rfl <| OF rfl rfl h8 rfl <| PT rfl rfl h8 rfl <| ND <| CT rfl rfl <| SQ <| RG <| FA rfl tyF_impl_Sender_1 rfl <| FA rfl tyF_impl_Ring_1 rfl <| LD (i := 0) rfl tyP_int rfl rfl rfl <| FA rfl tyF_impl_Sender_1 rfl <| FA rfl tyF_impl_Ring_2 rfl <| LD (i := 0) rfl tyP_int rfl rfl rfl <| EQ1 rfl rfl rfl <| MV rfl rfl <| ?_
                  refine rw_case (j := 67) rfl (fun h9 => ?_) (fun h9 => ?_)
                  · refine ON rfl rfl h9 <| FA rfl tyF_impl_Sender_2 rfl <| ON rfl rfl h9 <| LD (i := 0) rfl tyP_S_impl_Range rfl rfl rfl <| ON rfl rfl h9 <| rw_len rfl tyE_S_impl_Range rfl <| ON rfl rfl h9 <| EQ1 rfl rfl rfl <| PT rfl rfl h9 rfl <| MV rfl rfl <| ?_
                    refine rw_case (j := 73) rfl (fun h10 => ?_) (fun h10 => ?_)
                    · have hnil1 := nil_of_eq h10
                      refine ON rfl rfl h10 <| FA rfl tyF_impl_Sender_3 rfl <| ON rfl rfl h10 <| LD (i := 0) rfl tyP_S_impl_Range rfl rfl rfl <| ON rfl rfl h10 <| rw_len rfl tyE_S_impl_Range rfl <| ON rfl rfl h10 <| EQ1 rfl rfl rfl <| PT rfl rfl h10 rfl <| MV rfl rfl <| ?_
                      refine rw_case (j := 79) rfl (fun h11 => ?_) (fun h11 => ?_)
                      · have hnil2 := nil_of_eq h11
                        refine ON rfl rfl h11 <| FA rfl tyF_impl_Sender_4 rfl <| ON rfl rfl h11 <| LD (i := 0) rfl tyP_S_impl_Range rfl rfl rfl <| ON rfl rfl h11 <| rw_len rfl tyE_S_impl_Range rfl <| ON rfl rfl h11 <| EQ1 rfl rfl rfl <| PT rfl rfl h11 rfl <| MV rfl rfl <| ?_
                        refine rw_case (j := 85) rfl (fun h12 => ?_) (fun h12 => ?_)
                        · have hnil3 := nil_of_eq h12
                          refine ON rfl rfl h12 <| FA rfl tyF_impl_Sender_5 rfl <| ON rfl rfl h12 <| LD (i := 0) rfl tyP_int rfl rfl rfl <| ON rfl rfl h12 <| FA rfl tyF_impl_Sender_7 rfl <| ON rfl rfl h12 <| LD (i := 0) rfl tyP_int rfl rfl rfl <| ON rfl rfl h12 <| EQ1 rfl rfl rfl <| PT rfl rfl h12 rfl <| MV rfl rfl <| ?_
                          refine rw_case (j := 92) rfl (fun h13 => ?_) (fun h13 => ?_)
                          · refine ON rfl rfl h13 <| FA rfl tyF_impl_Sender_6 rfl <| ON rfl rfl h13 <| LD (i := 0) rfl tyP_int rfl rfl rfl <| ON rfl rfl h13 <| EQ1 rfl rfl rfl <| PT rfl rfl h13 rfl <| MV rfl rfl <| ?_
                            refine rw_case (j := 97) rfl (fun h14 => ?_) (fun h14 => ?_)
                            · refine ON rfl rfl h14 <| FA rfl tyF_impl_Sender_7 rfl <| ON rfl rfl h14 <| LD (i := 0) rfl tyP_int rfl rfl rfl <| ON rfl rfl h14 <| FA rfl tyF_impl_Sender_1 rfl <| ON rfl rfl h14 <| FA rfl tyF_impl_Ring_2 rfl <| ON rfl rfl h14 <| LD (i := 0) rfl tyP_int rfl rfl rfl <| ON rfl rfl h14 <| EQ1 rfl rfl rfl <| PT rfl rfl h14 rfl <| AS rfl rfl <| ND <| ret_cv Try.func107 (res1 Try.func107 rfl (rv_tmp rfl)) <| ?_
                              simp [isSenderS, senderBase, senderReset, h1, h2, h3, h4, h5, h6, h7, h8, h9, h10, h11, h12, h13, h14]
                            · refine OF rfl rfl h14 rfl <| OF rfl rfl h14 rfl <| OF rfl rfl h14 rfl <| OF rfl rfl h14 rfl <| OF rfl rfl h14 rfl <| OF rfl rfl h14 rfl <| PF rfl rfl h14 rfl <| AS rfl rfl <| ND <| ret_cv Try.func107 (res1 Try.func107 rfl (rv_tmp rfl)) <| ?_
                              simp [isSenderS, senderBase, senderReset, h1, h2, h3, h4, h5, h6, h7, h8, h9, h10, h11, h12, h13, h14]
                          · refine OF rfl rfl h13 rfl <| OF rfl rfl h13 rfl <| OF rfl rfl h13 rfl <| PF rfl rfl h13 rfl <| MV rfl rfl <| OF rfl rfl rfl rfl <| OF rfl rfl rfl rfl <| OF rfl rfl rfl rfl <| OF rfl rfl rfl rfl <| OF rfl rfl rfl rfl <| OF rfl rfl rfl rfl <| PF rfl rfl rfl rfl <| AS rfl rfl <| ND <| ret_cv Try.func107 (res1 Try.func107 rfl (rv_tmp rfl)) <| ?_
                            simp [isSenderS, senderBase, senderReset, h1, h2, h3, h4, h5, h6, h7, h8, h9, h10, h11, h12, h13]
                        · have hpos4 := pos_of_ne h12
                          refine OF rfl rfl h12 rfl <| OF rfl rfl h12 rfl <| OF rfl rfl h12 rfl <| OF rfl rfl h12 rfl <| OF rfl rfl h12 rfl <| PF rfl rfl h12 rfl <| MV rfl rfl <| OF rfl rfl rfl rfl <| OF rfl rfl rfl rfl <| OF rfl rfl rfl rfl <| PF rfl rfl rfl rfl <| MV rfl rfl <| OF rfl rfl rfl rfl <| OF rfl rfl rfl rfl <| OF rfl rfl rfl rfl <| OF rfl rfl rfl rfl <| OF rfl rfl rfl rfl <| OF rfl rfl rfl rfl <| PF rfl rfl rfl rfl <| AS rfl rfl <| ND <| ?_
                          refine ret_cv Try.func107 (res1 Try.func107 rfl (rv_tmp rfl)) <| ?_
                          simp [isSenderS, senderBase, senderReset, h1, h2, h3, h4, h5, h6, h7, h8, h9, h10, h11, h12]
                      · have hpos5 := pos_of_ne h11
                        refine OF rfl rfl h11 rfl <| OF rfl rfl h11 rfl <| OF rfl rfl h11 rfl <| OF rfl rfl h11 rfl <| PF rfl rfl h11 rfl <| MV rfl rfl <| OF rfl rfl rfl rfl <| OF rfl rfl rfl rfl <| OF rfl rfl rfl rfl <| OF rfl rfl rfl rfl <| OF rfl rfl rfl rfl <| PF rfl rfl rfl rfl <| MV rfl rfl <| OF rfl rfl rfl rfl <| OF rfl rfl rfl rfl <| OF rfl rfl rfl rfl <| PF rfl rfl rfl rfl <| MV rfl rfl <| OF rfl rfl rfl rfl <| OF rfl rfl rfl rfl <| OF rfl rfl rfl rfl <| ?_
                        refine OF rfl rfl rfl rfl <| OF rfl rfl rfl rfl <| OF rfl rfl rfl rfl <| PF rfl rfl rfl rfl <| AS rfl rfl <| ND <| ret_cv Try.func107 (res1 Try.func107 rfl (rv_tmp rfl)) <| ?_
                        simp [isSenderS, senderBase, senderReset, h1, h2, h3, h4, h5, h6, h7, h8, h9, h10, h11]
                    · have hpos6 := pos_of_ne h10
                      refine OF rfl rfl h10 rfl <| OF rfl rfl h10 rfl <| OF rfl rfl h10 rfl <| OF rfl rfl h10 rfl <| PF rfl rfl h10 rfl <| MV rfl rfl <| OF rfl rfl rfl rfl <| OF rfl rfl rfl rfl <| OF rfl rfl rfl rfl <| OF rfl rfl rfl rfl <| PF rfl rfl rfl rfl <| MV rfl rfl <| OF rfl rfl rfl rfl <| OF rfl rfl rfl rfl <| OF rfl rfl rfl rfl <| OF rfl rfl rfl rfl <| OF rfl rfl rfl rfl <| PF rfl rfl rfl rfl <| MV rfl rfl <| OF rfl rfl rfl rfl <| OF rfl rfl rfl rfl <| ?_
                      refine OF rfl rfl rfl rfl <| PF rfl rfl rfl rfl <| MV rfl rfl <| OF rfl rfl rfl rfl <| OF rfl rfl rfl rfl <| OF rfl rfl rfl rfl <| OF rfl rfl rfl rfl <| OF rfl rfl rfl rfl <| OF rfl rfl rfl rfl <| PF rfl rfl rfl rfl <| AS rfl rfl <| ND <| ret_cv Try.func107 (res1 Try.func107 rfl (rv_tmp rfl)) <| ?_
                      simp [isSenderS, senderBase, senderReset, h1, h2, h3, h4, h5, h6, h7, h8, h9, h10]
                  · refine OF rfl rfl h9 rfl <| OF rfl rfl h9 rfl <| OF rfl rfl h9 rfl <| OF rfl rfl h9 rfl <| PF rfl rfl h9 rfl <| MV rfl rfl <| OF rfl rfl rfl rfl <| OF rfl rfl rfl rfl <| OF rfl rfl rfl rfl <| OF rfl rfl rfl rfl <| PF rfl rfl rfl rfl <| MV rfl rfl <| OF rfl rfl rfl rfl <| OF rfl rfl rfl rfl <| OF rfl rfl rfl rfl <| OF rfl rfl rfl rfl <| PF rfl rfl rfl rfl <| MV rfl rfl <| OF rfl rfl rfl rfl <| OF rfl rfl rfl rfl <| OF rfl rfl rfl rfl <| ?_
                    refine OF rfl rfl rfl rfl <| OF rfl rfl rfl rfl <| PF rfl rfl rfl rfl <| MV rfl rfl <| OF rfl rfl rfl rfl <| OF rfl rfl rfl rfl <| OF rfl rfl rfl rfl <| PF rfl rfl rfl rfl <| MV rfl rfl <| OF rfl rfl rfl rfl <| OF rfl rfl rfl rfl <| OF rfl rfl rfl rfl <| OF rfl rfl rfl rfl <| OF rfl rfl rfl rfl <| OF rfl rfl rfl rfl <| PF rfl rfl rfl rfl <| AS rfl rfl <| ND <| ret_cv Try.func107 (res1 Try.func107 rfl (rv_tmp rfl)) <| ?_
                    simp [isSenderS, senderBase, senderReset, h1, h2, h3, h4, h5, h6, h7, h8, h9]
                · refine ON rfl rfl h8 <| FA rfl tyF_impl_Sender_0 rfl <| ON rfl rfl h8 <| LD (i := 0) rfl tyP_int rfl rfl rfl <| ON rfl rfl h8 <| EQ1 rfl rfl rfl <| PF rfl rfl h8 rfl <| ND <| ?_
                  refine gw_cond rfl (fun h15 => ?_) (fun h15 => ?_)
                  · refine SQ <| RG <| FA rfl tyF_impl_Sender_1 rfl <| FA rfl tyF_impl_Ring_1 rfl <| LD (i := 0) rfl tyP_int rfl rfl rfl <| FA rfl tyF_impl_Sender_1 rfl <| FA rfl tyF_impl_Ring_2 rfl <| LD (i := 0) rfl tyP_int rfl rfl rfl <| EQ1 rfl rfl rfl <| MV rfl rfl <| ?_
                    refine rw_case (j := 67) rfl (fun h16 => ?_) (fun h16 => ?_)
                    · refine ON rfl rfl h16 <| FA rfl tyF_impl_Sender_2 rfl <| ON rfl rfl h16 <| LD (i := 0) rfl tyP_S_impl_Range rfl rfl rfl <| ON rfl rfl h16 <| rw_len rfl tyE_S_impl_Range rfl <| ON rfl rfl h16 <| EQ1 rfl rfl rfl <| PT rfl rfl h16 rfl <| MV rfl rfl <| ?_
                      refine rw_case (j := 73) rfl (fun h17 => ?_) (fun h17 => ?_)
                      · have hnil7 := nil_of_eq h17
                        refine ON rfl rfl h17 <| FA rfl tyF_impl_Sender_3 rfl <| ON rfl rfl h17 <| LD (i := 0) rfl tyP_S_impl_Range rfl rfl rfl <| ON rfl rfl h17 <| rw_len rfl tyE_S_impl_Range rfl <| ON rfl rfl h17 <| EQ1 rfl rfl rfl <| PT rfl rfl h17 rfl <| MV rfl rfl <| ?_
                        refine rw_case (j := 79) rfl (fun h18 => ?_) (fun h18 => ?_)
                        · have hnil8 := nil_of_eq h18
                          refine ON rfl rfl h18 <| FA rfl tyF_impl_Sender_4 rfl <| ON rfl rfl h18 <| LD (i := 0) rfl tyP_S_impl_Range rfl rfl rfl <| ON rfl rfl h18 <| rw_len rfl tyE_S_impl_Range rfl <| ON rfl rfl h18 <| EQ1 rfl rfl rfl <| PT rfl rfl h18 rfl <| MV rfl rfl <| ?_
                          refine rw_case (j := 85) rfl (fun h19 => ?_) (fun h19 => ?_)
                          · have hnil9 := nil_of_eq h19
                            refine ON rfl rfl h19 <| FA rfl tyF_impl_Sender_5 rfl <| ON rfl rfl h19 <| LD (i := 0) rfl tyP_int rfl rfl rfl <| ON rfl rfl h19 <| FA rfl tyF_impl_Sender_7 rfl <| ON rfl rfl h19 <| LD (i := 0) rfl tyP_int rfl rfl rfl <| ON rfl rfl h19 <| EQ1 rfl rfl rfl <| PT rfl rfl h19 rfl <| MV rfl rfl <| ?_
                            refine rw_case (j := 92) rfl (fun h20 => ?_) (fun h20 => ?_)
                            · refine ON rfl rfl h20 <| FA rfl tyF_impl_Sender_6 rfl <| ON rfl rfl h20 <| LD (i := 0) rfl tyP_int rfl rfl rfl <| ON rfl rfl h20 <| EQ1 rfl rfl rfl <| PT rfl rfl h20 rfl <| MV rfl rfl <| ?_
                              refine rw_case (j := 97) rfl (fun h21 => ?_) (fun h21 => ?_)
                              · refine ON rfl rfl h21 <| FA rfl tyF_impl_Sender_7 rfl <| ON rfl rfl h21 <| LD (i := 0) rfl tyP_int rfl rfl rfl <| ON rfl rfl h21 <| FA rfl tyF_impl_Sender_1 rfl <| ON rfl rfl h21 <| FA rfl tyF_impl_Ring_2 rfl <| ON rfl rfl h21 <| LD (i := 0) rfl tyP_int rfl rfl rfl <| ON rfl rfl h21 <| EQ1 rfl rfl rfl <| PT rfl rfl h21 rfl <| AS rfl rfl <| ND <| ret_cv Try.func107 (res1 Try.func107 rfl (rv_tmp rfl)) <| ?_
                                simp [isSenderS, senderBase, senderReset, h1, h2, h3, h4, h5, h6, h7, h8, h15, h16, h17, h18, h19, h20, h21]
                              · refine OF rfl rfl h21 rfl <| OF rfl rfl h21 rfl <| OF rfl rfl h21 rfl <| OF rfl rfl h21 rfl <| OF rfl rfl h21 rfl <| OF rfl rfl h21 rfl <| PF rfl rfl h21 rfl <| AS rfl rfl <| ND <| ret_cv Try.func107 (res1 Try.func107 rfl (rv_tmp rfl)) <| ?_
                                simp [isSenderS, senderBase, senderReset, h1, h2, h3, h4, h5, h6, h7, h8, h15, h16, h17, h18, h19, h20, h21]
                            · refine OF rfl rfl h20 rfl <| OF rfl rfl h20 rfl <| OF rfl rfl h20 rfl <| PF rfl rfl h20 rfl <| MV rfl rfl <| OF rfl rfl rfl rfl <| OF rfl rfl rfl rfl <| OF rfl rfl rfl rfl <| OF rfl rfl rfl rfl <| OF rfl rfl rfl rfl <| OF rfl rfl rfl rfl <| PF rfl rfl rfl rfl <| AS rfl rfl <| ND <| ret_cv Try.func107 (res1 Try.func107 rfl (rv_tmp rfl)) <| ?_
                              simp [isSenderS, senderBase, senderReset, h1, h2, h3, h4, h5, h6, h7, h8, h15, h16, h17, h18, h19, h20]
                          · have hpos10 := pos_of_ne h19
                            refine OF rfl rfl h19 rfl <| OF rfl rfl h19 rfl <| OF rfl rfl h19 rfl <| OF rfl rfl h19 rfl <| OF rfl rfl h19 rfl <| PF rfl rfl h19 rfl <| MV rfl rfl <| OF rfl rfl rfl rfl <| OF rfl rfl rfl rfl <| OF rfl rfl rfl rfl <| PF rfl rfl rfl rfl <| MV rfl rfl <| OF rfl rfl rfl rfl <| OF rfl rfl rfl rfl <| OF rfl rfl rfl rfl <| OF rfl rfl rfl rfl <| OF rfl rfl rfl rfl <| OF rfl rfl rfl rfl <| PF rfl rfl rfl rfl <| AS rfl rfl <| ND <| ?_
                            refine ret_cv Try.func107 (res1 Try.func107 rfl (rv_tmp rfl)) <| ?_
                            simp [isSenderS, senderBase, senderReset, h1, h2, h3, h4, h5, h6, h7, h8, h15, h16, h17, h18, h19]
                        · have hpos11 := pos_of_ne h18
                          refine OF rfl rfl h18 rfl <| OF rfl rfl h18 rfl <| OF rfl rfl h18 rfl <| OF rfl rfl h18 rfl <| PF rfl rfl h18 rfl <| MV rfl rfl <| OF rfl rfl rfl rfl <| OF rfl rfl rfl rfl <| OF rfl rfl rfl rfl <| OF rfl rfl rfl rfl <| OF rfl rfl rfl rfl <| PF rfl rfl rfl rfl <| MV rfl rfl <| OF rfl rfl rfl rfl <| OF rfl rfl rfl rfl <| OF rfl rfl rfl rfl <| PF rfl rfl rfl rfl <| MV rfl rfl <| OF rfl rfl rfl rfl <| OF rfl rfl rfl rfl <| OF rfl rfl rfl rfl <| ?_
                          refine OF rfl rfl rfl rfl <| OF rfl rfl rfl rfl <| OF rfl rfl rfl rfl <| PF rfl rfl rfl rfl <| AS rfl rfl <| ND <| ret_cv Try.func107 (res1 Try.func107 rfl (rv_tmp rfl)) <| ?_
                          simp [isSenderS, senderBase, senderReset, h1, h2, h3, h4, h5, h6, h7, h8, h15, h16, h17, h18]
                      · have hpos12 := pos_of_ne h17
                        refine OF rfl rfl h17 rfl <| OF rfl rfl h17 rfl <| OF rfl rfl h17 rfl <| OF rfl rfl h17 rfl <| PF rfl rfl h17 rfl <| MV rfl rfl <| OF rfl rfl rfl rfl <| OF rfl rfl rfl rfl <| OF rfl rfl rfl rfl <| OF rfl rfl rfl rfl <| PF rfl rfl rfl rfl <| MV rfl rfl <| OF rfl rfl rfl rfl <| OF rfl rfl rfl rfl <| OF rfl rfl rfl rfl <| OF rfl rfl rfl rfl <| OF rfl rfl rfl rfl <| PF rfl rfl rfl rfl <| MV rfl rfl <| OF rfl rfl rfl rfl <| OF rfl rfl rfl rfl <| ?_
                        refine OF rfl rfl rfl rfl <| PF rfl rfl rfl rfl <| MV rfl rfl <| OF rfl rfl rfl rfl <| OF rfl rfl rfl rfl <| OF rfl rfl rfl rfl <| OF rfl rfl rfl rfl <| OF rfl rfl rfl rfl <| OF rfl rfl rfl rfl <| PF rfl rfl rfl rfl <| AS rfl rfl <| ND <| ret_cv Try.func107 (res1 Try.func107 rfl (rv_tmp rfl)) <| ?_
                        simp [isSenderS, senderBase, senderReset, h1, h2, h3, h4, h5, h6, h7, h8, h15, h16, h17]
                    · refine OF rfl rfl h16 rfl <| OF rfl rfl h16 rfl <| OF rfl rfl h16 rfl <| OF rfl rfl h16 rfl <| PF rfl rfl h16 rfl <| MV rfl rfl <| OF rfl rfl rfl rfl <| OF rfl rfl rfl rfl <| OF rfl rfl rfl rfl <| OF rfl rfl rfl rfl <| PF rfl rfl rfl rfl <| MV rfl rfl <| OF rfl rfl rfl rfl <| OF rfl rfl rfl rfl <| OF rfl rfl rfl rfl <| OF rfl rfl rfl rfl <| PF rfl rfl rfl rfl <| MV rfl rfl <| OF rfl rfl rfl rfl <| OF rfl rfl rfl rfl <| OF rfl rfl rfl rfl <| ?_
                      refine OF rfl rfl rfl rfl <| OF rfl rfl rfl rfl <| PF rfl rfl rfl rfl <| MV rfl rfl <| OF rfl rfl rfl rfl <| OF rfl rfl rfl rfl <| OF rfl rfl rfl rfl <| PF rfl rfl rfl rfl <| MV rfl rfl <| OF rfl rfl rfl rfl <| OF rfl rfl rfl rfl <| OF rfl rfl rfl rfl <| OF rfl rfl rfl rfl <| OF rfl rfl rfl rfl <| OF rfl rfl rfl rfl <| PF rfl rfl rfl rfl <| AS rfl rfl <| ND <| ret_cv Try.func107 (res1 Try.func107 rfl (rv_tmp rfl)) <| ?_
                      simp [isSenderS, senderBase, senderReset, h1, h2, h3, h4, h5, h6, h7, h8, h15, h16]
                  · refine SK <| SQ <| RG <| FA rfl tyF_impl_Sender_2 rfl <| LD (i := 0) rfl tyP_S_impl_Range rfl rfl rfl <| AS rfl rfl <| ND <| SQ <| SQ <| RG <| AS rfl rfl <| ND <| BK <| ?_
                    refine gw_loopX (α := Nat × Option Addr × Nat × List Ck) (fun z_ => z_.1 ≤ x.flight.length ∧ RdB w 2 (Pl Range.cells) z_.2.1 (addAll x.pending (x.flight.take z_.1)) z_.2.2.2) (fun z_ => x.flight.length - z_.1) (fun e z_ => (4, .int .i64 (z_.1 : Int)) :: (3, .slice z_.2.1 (addAll x.pending (x.flight.take z_.1)).length z_.2.2.1) :: e) (fun B _ => B) (fun F z_ => z_.2.2.2 ++ []) (0, A1, c1, []) [(1, _), (2, _)] (Sub.consE rfl rfl (Sub.consE rfl rfl (Sub.cons (i := 1) rfl (Sub.cons (i := 2) rfl (Sub.nil _))))) rfl rfl ?_ ?_
                    · exact ⟨Nat.zero_le _, RdB.ext Pl.keeps hA1⟩
                    · rintro ⟨i, A11, cp1, ch_1⟩ hI13 ih13
                      dsimp only at hI13
                      dsimp only
                      obtain ⟨hle1, hB1⟩ := hI13
                      have hal1 := addAll_len (x.flight.take i) x.pending
                      simp only [List.length_take] at hal1
                      refine SQ <| SQ <| RG <| MV rfl rfl <| FA rfl tyF_impl_Sender_3 rfl <| LD (i := 0) rfl tyP_S_impl_Range rfl rfl rfl <| rw_len rfl tyE_S_impl_Range rfl <| rw_lss rfl rfl rfl <| ND <| ?_
                      refine gw_cond rfl (fun h22 => ?_) (fun h22 => ?_)
                      · have hi14 := lt_of_dec h22
                        obtain ⟨x15, hx15⟩ := get_of_lt hi14
                        have hd15 := drop_cons hx15
                        refine SK <| SQ <| BK <| RG <| MV rfl rfl <| FA rfl tyF_impl_Sender_3 rfl <| LD (i := 0) rfl tyP_S_impl_Range rfl rfl rfl <| MV rfl rfl <| ?_
                        have hq16 := hA2.plain hx15
                        refine rw_indexAddr (i) rfl tyE_S_impl_Range rfl rfl rfl (hA2.some hi14) hi14 <| rw_loadX_s [_, _] rfl tyS_impl_Range rfl rfl (fun w hs => hq16.lds0 (n := 2) hs rfl) <| CN1 rfl fun_spec_AddRange rfl (fun w hs => spec_AddRange ⟨_, _, rfl, hB1.2 _ hs.below (fun c hc => hs.at_ c (List.mem_append_right _ (List.mem_append_left _ hc)))⟩ (by omega) _) <| fun v17 ch17 how17 => ?_
                        obtain ⟨R17, rc17, rfl, hR17, hrd17⟩ := how17.shape eRange
                        refine AS rfl rfl <| ND <| IB <| RG <| MV rfl rfl <| rw_add rfl rfl rfl <| AS rfl rfl <| ND <| ?_
                        refine gw_dropF (F' := ch17 ++ ([])) (List.Sublist.append_left (List.nil_sublist _) _) <| ?_
                        refine gw_sub (Sub.consE (i := 4) rfl (int_succ (by omega)) (Sub.consE (i := 3) rfl (by rw [addAll_take hx15]) (Sub.cons (i := 1) rfl (Sub.cons (i := 2) rfl (Sub.nil _))))) (ih13 (i + 1, R17, rc17, ch17) ?_ ?_)
                        · exact ⟨by omega, by rw [addAll_take hx15]; exact RdB.own hR17 hrd17⟩
                        · show x.flight.length - (i + 1) < x.flight.length - i; omega
                      · have hn18 := nil_of_dec h22
                        refine EX rfl <| SQ <| SQ <| RG <| AS rfl rfl <| ND <| BK <| ?_
                        refine gw_loopX (α := Nat × Option Addr × Nat × List Ck) (fun z_ => z_.1 ≤ x.acked.length ∧ RdB w 2 (Pl Range.cells) z_.2.1 (addAll (addAll x.pending x.flight) (x.acked.take z_.1)) z_.2.2.2) (fun z_ => x.acked.length - z_.1) (fun e z_ => (5, .int .i64 (z_.1 : Int)) :: (3, .slice z_.2.1 (addAll (addAll x.pending x.flight) (x.acked.take z_.1)).length z_.2.2.1) :: e) (fun B _ => B) (fun F z_ => z_.2.2.2 ++ []) (0, A11, cp1, ch_1) [(1, _), (2, _)] (Sub.consE rfl rfl (Sub.consE rfl (by rw [take_all hn18]; rfl) (Sub.cons (i := 1) rfl (Sub.cons (i := 2) rfl (Sub.nil _))))) rfl rfl ?_ ?_
                        · exact ⟨Nat.zero_le _, (by rw [take_all hn18] at hB1; exact hB1)⟩
                        · rintro ⟨i, A12, cp2, ch_2⟩ hI19 ih19
                          dsimp only at hI19
                          dsimp only
                          obtain ⟨hle2, hB2⟩ := hI19
                          have hal2 := addAll_len (x.acked.take i) (addAll x.pending x.flight)
                          simp only [List.length_take] at hal2
                          have hal0 := addAll_len x.flight x.pending
                          refine SQ <| SQ <| RG <| MV rfl rfl <| FA rfl tyF_impl_Sender_4 rfl <| LD (i := 0) rfl tyP_S_impl_Range rfl rfl rfl <| rw_len rfl tyE_S_impl_Range rfl <| rw_lss rfl rfl rfl <| ND <| ?_
                          refine gw_cond rfl (fun h23 => ?_) (fun h23 => ?_)
                          · have hi20 := lt_of_dec h23
                            obtain ⟨x21, hx21⟩ := get_of_lt hi20
                            have hd21 := drop_cons hx21
                            refine SK <| SQ <| BK <| RG <| MV rfl rfl <| FA rfl tyF_impl_Sender_4 rfl <| LD (i := 0) rfl tyP_S_impl_Range rfl rfl rfl <| MV rfl rfl <| ?_
                            have hq22 := hA3.plain hx21
                            refine rw_indexAddr (i) rfl tyE_S_impl_Range rfl rfl rfl (hA3.some hi20) hi20 <| rw_loadX_s [_, _] rfl tyS_impl_Range rfl rfl (fun w hs => hq22.lds0 (n := 2) hs rfl) <| CN1 rfl fun_spec_AddRange rfl (fun w hs => spec_AddRange ⟨_, _, rfl, hB2.2 _ hs.below (fun c hc => hs.at_ c (List.mem_append_right _ (List.mem_append_left _ hc)))⟩ (by omega) _) <| fun v23 ch23 how23 => ?_
                            obtain ⟨R23, rc23, rfl, hR23, hrd23⟩ := how23.shape eRange
                            refine AS rfl rfl <| ND <| IB <| RG <| MV rfl rfl <| rw_add rfl rfl rfl <| AS rfl rfl <| ND <| ?_
                            refine gw_dropF (F' := ch23 ++ ([])) (List.Sublist.append_left (List.nil_sublist _) _) <| ?_
                            refine gw_sub (Sub.consE (i := 5) rfl (int_succ (by omega)) (Sub.consE (i := 3) rfl (by rw [addAll_take hx21]) (Sub.cons (i := 1) rfl (Sub.cons (i := 2) rfl (Sub.nil _))))) (ih19 (i + 1, R23, rc23, ch23) ?_ ?_)
                            · exact ⟨by omega, by rw [addAll_take hx21]; exact RdB.own hR23 hrd23⟩
                            · show x.acked.length - (i + 1) < x.acked.length - i; omega
                          · have hn24 := nil_of_dec h23
                            refine EX rfl <| SQ <| gw_draw' [(0, .det), (1, .det), (2, .det), (3, .det), (4, .det), (5, .det), (6, .det), (7, .det), (8, .det), (9, .det)] [10, 11] mixed rfl (free_det (free_det (free_det (free_det (free_det (free_det (free_det (free_det (free_det (free_det free_nil)))))))))) (ts := [_, _]) rfl <| DT rfl rfl (fun K hk => FA rfl tyF_impl_Sender_2 rfl hk) <| DT rfl rfl (fun K hk => LD (i := 0) rfl tyP_S_impl_Range rfl rfl rfl hk) <| DT rfl rfl (fun K hk => CV1 rfl fun_spec_CountNumbers rfl (fun w hs => spec_CountNumbers (hA1.s Pl.keeps hs) (by omega)) hk) <| ?_
                            refine DT rfl rfl (fun K hk => FA rfl tyF_impl_Sender_3 rfl hk) <| DT rfl rfl (fun K hk => LD (i := 0) rfl tyP_S_impl_Range rfl rfl rfl hk) <| DT rfl rfl (fun K hk => CV1 rfl fun_spec_CountNumbers rfl (fun w hs => spec_CountNumbers (hA2.s Pl.keeps hs) (by omega)) hk) <| DT rfl rfl (fun K hk => rw_add rfl rfl rfl hk) <| DT rfl rfl (fun K hk => FA rfl tyF_impl_Sender_4 rfl hk) <| DT rfl rfl (fun K hk => LD (i := 0) rfl tyP_S_impl_Range rfl rfl rfl hk) <| DT rfl rfl (fun K hk => CV1 rfl fun_spec_CountNumbers rfl (fun w hs => spec_CountNumbers (hA3.s Pl.keeps hs) (by omega)) hk) <| ?_
                            refine dw_nil <| rw_add rfl rfl rfl <| AS rfl rfl <| ND <| SQ <| SQ <| gw_draw' [(0, .det), (1, .det), (2, .det), (3, .det), (4, .det), (5, .det), (6, .det), (7, .det), (8, .det), (9, .det), (10, .det), (11, .det), (12, .det), (13, .det), (14, .det), (15, .det), (16, .det), (17, .det), (18, .det), (19, .det), (20, .det), (21, .det), (22, .det), (23, .det), (24, .det), (25, .det), (26, .det), (27, .det), (28, .det), (29, .det), (30, .det), (31, .det), (32, .det), (33, .det), (34, .det), (35, .det)] [36, 37, 38, 39, 40, 41, 42] mixed rfl (free_det (free_det (free_det (free_det (free_det (free_det (free_det (free_det (free_det (free_det (free_det (free_det (free_det (free_det (free_det (free_det (free_det (free_det (free_det (free_det (free_det (free_det (free_det (free_det (free_det (free_det (free_det (free_det (free_det (free_det (free_det (free_det (free_det (free_det (free_det (free_det free_nil)))))))))))))))))))))))))))))))))))) (ts := [_, _, _, _, _, _, _]) rfl <| ?_
                            refine DT rfl rfl (fun K hk => MV rfl rfl hk) <| DT rfl rfl (fun K hk => CV1 rfl fun_spec_CountNumbers rfl (fun w hs => spec_CountNumbers ⟨_, _, rfl, hB2.2 _ hs.below (fun c hc => hs.at_ c (List.mem_append_right _ (List.mem_append_left _ hc)))⟩ (by omega)) hk) <| DT rfl rfl (fun K hk => FA rfl tyF_impl_Sender_1 rfl hk) <| DT rfl rfl (fun K hk => FA rfl tyF_impl_Ring_2 rfl hk) <| DT rfl rfl (fun K hk => LD (i := 0) rfl tyP_int rfl rfl rfl hk) <| DT rfl rfl (fun K hk => rw_neq rfl rfl rfl hk) <| DT rfl rfl (fun K hk => MV rfl rfl hk) <| ?_
                            refine dw_case (i := 152) rfl (fun h24 => ?_) (fun h24 => ?_)
                            · replace h24 := of_not_T h24
                              refine DT rfl rfl (fun K hk => OF rfl rfl (not_F h24) rfl hk) <| DT rfl rfl (fun K hk => OF rfl rfl (not_F h24) rfl hk) <| DT rfl rfl (fun K hk => OF rfl rfl (not_F h24) rfl hk) <| DT rfl rfl (fun K hk => OF rfl rfl (not_F h24) rfl hk) <| DT rfl rfl (fun K hk => OF rfl rfl (not_F h24) rfl hk) <| DT rfl rfl (fun K hk => PT rfl rfl (not_F h24) rfl hk) <| DT rfl rfl (fun K hk => MV rfl rfl hk) <| DT rfl rfl (fun K hk => OF rfl rfl rfl rfl hk) <| DT rfl rfl (fun K hk => OF rfl rfl rfl rfl hk) <| ?_
                              refine DT rfl rfl (fun K hk => OF rfl rfl rfl rfl hk) <| DT rfl rfl (fun K hk => OF rfl rfl rfl rfl hk) <| DT rfl rfl (fun K hk => OF rfl rfl rfl rfl hk) <| DT rfl rfl (fun K hk => OU rfl rfl rfl hk) <| DT rfl rfl (fun K hk => OU rfl rfl rfl hk) <| DT rfl rfl (fun K hk => OU rfl rfl rfl hk) <| DT rfl rfl (fun K hk => OU rfl rfl rfl hk) <| DT rfl rfl (fun K hk => OU rfl rfl rfl hk) <| DT rfl rfl (fun K hk => OU rfl rfl rfl hk) <| DT rfl rfl (fun K hk => OU rfl rfl rfl hk) <| ?_
                              refine DT rfl rfl (fun K hk => OU rfl rfl rfl hk) <| DT rfl rfl (fun K hk => OF rfl rfl rfl rfl hk) <| DT rfl rfl (fun K hk => PT rfl rfl rfl rfl hk) <| DT rfl rfl (fun K hk => MV rfl rfl hk) <| DT rfl rfl (fun K hk => OF rfl rfl rfl rfl hk) <| DT rfl rfl (fun K hk => OF rfl rfl rfl rfl hk) <| DT rfl rfl (fun K hk => OF rfl rfl rfl rfl hk) <| DT rfl rfl (fun K hk => OF rfl rfl rfl rfl hk) <| DT rfl rfl (fun K hk => OF rfl rfl rfl rfl hk) <| DT rfl rfl (fun K hk => OF rfl rfl rfl rfl hk) <| ?_
                              refine dw_nil <| OF rfl rfl rfl rfl <| PT rfl rfl rfl rfl <| MV rfl rfl <| OF rfl rfl rfl rfl <| OF rfl rfl rfl rfl <| OF rfl rfl rfl rfl <| PT rfl rfl rfl rfl <| ND <| CT rfl rfl <| SQ <| RG <| AS rfl rfl <| ND <| ret_cv Try.func107 (res1 Try.func107 rfl (rv_tmp rfl)) <| ?_
                              simp only [take_all hn24] at *
                              simp [isSenderS, senderBase, senderReset, sAll, h1, h2, h3, h4, h5, h6, h7, h8, h15, h24]
                            · replace h24 := of_not_F h24
                              refine DT rfl rfl (fun K hk => ON rfl rfl (not_T h24) (MV rfl rfl hk)) <| DT rfl rfl (fun K hk => ON rfl rfl (not_T h24) (FA rfl tyF_impl_Sender_1 rfl hk)) <| DT rfl rfl (fun K hk => ON rfl rfl (not_T h24) (FA rfl tyF_impl_Ring_2 rfl hk)) <| DT rfl rfl (fun K hk => ON rfl rfl (not_T h24) (LD (i := 0) rfl tyP_int rfl rfl rfl hk)) <| DT rfl rfl (fun K hk => ON rfl rfl (not_T h24) (rw_neq rfl rfl rfl hk)) <| DT rfl rfl (fun K hk => PF rfl rfl (not_T h24) rfl hk) <| ?_
                              refine DT rfl rfl (fun K hk => MV rfl rfl hk) <| ?_
                              refine dw_case (i := 159) rfl (fun h25 => ?_) (fun h25 => ?_)
                              · replace h25 := of_not_T h25
                                refine DT rfl rfl (fun K hk => OF rfl rfl (not_F h25) rfl hk) <| DT rfl rfl (fun K hk => OF rfl rfl (not_F h25) rfl hk) <| DT rfl rfl (fun K hk => OF rfl rfl (not_F h25) rfl hk) <| DT rfl rfl (fun K hk => OF rfl rfl (not_F h25) rfl hk) <| DT rfl rfl (fun K hk => OF rfl rfl (not_F h25) rfl hk) <| DT rfl rfl (fun K hk => OU rfl rfl rfl hk) <| DT rfl rfl (fun K hk => OU rfl rfl rfl hk) <| DT rfl rfl (fun K hk => OU rfl rfl rfl hk) <| DT rfl rfl (fun K hk => OU rfl rfl rfl hk) <| DT rfl rfl (fun K hk => OU rfl rfl rfl hk) <| ?_
                                refine DT rfl rfl (fun K hk => OU rfl rfl rfl hk) <| DT rfl rfl (fun K hk => OU rfl rfl rfl hk) <| DT rfl rfl (fun K hk => OU rfl rfl rfl hk) <| DT rfl rfl (fun K hk => OF rfl rfl (not_F h25) rfl hk) <| DT rfl rfl (fun K hk => PT rfl rfl (not_F h25) rfl hk) <| DT rfl rfl (fun K hk => MV rfl rfl hk) <| DT rfl rfl (fun K hk => OF rfl rfl rfl rfl hk) <| DT rfl rfl (fun K hk => OF rfl rfl rfl rfl hk) <| DT rfl rfl (fun K hk => OF rfl rfl rfl rfl hk) <| DT rfl rfl (fun K hk => OF rfl rfl rfl rfl hk) <| ?_
                                refine DT rfl rfl (fun K hk => OF rfl rfl rfl rfl hk) <| DT rfl rfl (fun K hk => OF rfl rfl rfl rfl hk) <| dw_nil <| OF rfl rfl rfl rfl <| PT rfl rfl rfl rfl <| MV rfl rfl <| OF rfl rfl rfl rfl <| OF rfl rfl rfl rfl <| OF rfl rfl rfl rfl <| PT rfl rfl rfl rfl <| ND <| CT rfl rfl <| SQ <| RG <| AS rfl rfl <| ND <| ret_cv Try.func107 (res1 Try.func107 rfl (rv_tmp rfl)) <| ?_
                                simp only [take_all hn24] at *
                                simp [isSenderS, senderBase, senderReset, sAll, h1, h2, h3, h4, h5, h6, h7, h8, h15, h24, h25]
                              · replace h25 := of_not_F h25
                                refine DT rfl rfl (fun K hk => ON rfl rfl (not_T h25) (FA rfl tyF_impl_Sender_1 rfl hk)) <| DT rfl rfl (fun K hk => ON rfl rfl (not_T h25) (FA rfl tyF_impl_Ring_2 rfl hk)) <| DT rfl rfl (fun K hk => ON rfl rfl (not_T h25) (LD (i := 0) rfl tyP_int rfl rfl rfl hk)) <| DT rfl rfl (fun K hk => ON rfl rfl (not_T h25) (rw_gtr rfl rfl rfl hk)) <| DT rfl rfl (fun K hk => ON rfl rfl (not_T h25) (MV rfl rfl hk)) <| ?_
                                refine dw_case (i := 164) rfl (fun h26 => ?_) (fun h26 => ?_)
                                · refine DT rfl rfl (fun K hk => ON rfl rfl h26 (MV rfl rfl hk)) <| ?_
                                  have hi25 := count_pos h24 h26
                                  obtain ⟨x26, hx26⟩ := get_of_lt hi25
                                  have hd26 := drop_cons hx26
                                  refine DT rfl rfl (fun K hk => ON rfl rfl h26 (rw_indexAddr (0) rfl tyE_S_impl_Range rfl rfl rfl (hB2.1 (Nat.zero_lt_of_lt hi25)) hi25 hk)) <| DT rfl rfl (fun K hk => ON rfl rfl h26 (FX rfl tyF_impl_Range_1 rfl hk)) <| DT rfl rfl (fun K hk => ON rfl rfl h26 (rw_loadX _ rfl tyP_int rfl (fun w hs => ((hB2.2 _ hs.below (fun c hc => hs.at_ c (List.mem_append_right _ (List.mem_append_left _ hc)))).plain hx26).cell rfl) hk)) <| DT rfl rfl (fun K hk => ON rfl rfl h26 (FA rfl tyF_impl_Sender_1 rfl hk)) <| DT rfl rfl (fun K hk => ON rfl rfl h26 (FA rfl tyF_impl_Ring_2 rfl hk)) <| ?_
                                  refine DT rfl rfl (fun K hk => ON rfl rfl h26 (LD (i := 0) rfl tyP_int rfl rfl rfl hk)) <| DT rfl rfl (fun K hk => ON rfl rfl h26 (rw_neq rfl rfl rfl hk)) <| DT rfl rfl (fun K hk => ON rfl rfl (not_T h25) (PT rfl rfl h26 rfl hk)) <| DT rfl rfl (fun K hk => PF rfl rfl (not_T h25) rfl hk) <| DT rfl rfl (fun K hk => MV rfl rfl hk) <| ?_
                                  refine dw_case (i := 175) rfl (fun h27 => ?_) (fun h27 => ?_)
                                  · replace h27 := of_not_T h27
                                    refine DT rfl rfl (fun K hk => OF rfl rfl (not_F h27) rfl hk) <| DT rfl rfl (fun K hk => OF rfl rfl (not_F h27) rfl hk) <| DT rfl rfl (fun K hk => OF rfl rfl (not_F h27) rfl hk) <| DT rfl rfl (fun K hk => OF rfl rfl (not_F h27) rfl hk) <| DT rfl rfl (fun K hk => OF rfl rfl (not_F h27) rfl hk) <| DT rfl rfl (fun K hk => OF rfl rfl (not_F h27) rfl hk) <| dw_nil <| OF rfl rfl (not_F h27) rfl <| PT rfl rfl (not_F h27) rfl <| MV rfl rfl <| OF rfl rfl rfl rfl <| OF rfl rfl rfl rfl <| OF rfl rfl rfl rfl <| ?_
                                    refine PT rfl rfl rfl rfl <| ND <| CT rfl rfl <| SQ <| RG <| AS rfl rfl <| ND <| ret_cv Try.func107 (res1 Try.func107 rfl (rv_tmp rfl)) <| ?_
                                    simp only [take_all hn24] at *
                                    simp [isSenderS, senderBase, senderReset, sAll, h1, h2, h3, h4, h5, h6, h7, h8, h15, h24, h25, h26, h27, head_of hx26]
                                  · replace h27 := of_not_F h27
                                    refine DT rfl rfl (fun K hk => ON rfl rfl (not_T h27) (FA rfl tyF_impl_Sender_4 rfl hk)) <| DT rfl rfl (fun K hk => ON rfl rfl (not_T h27) (LD (i := 0) rfl tyP_S_impl_Range rfl rfl rfl hk)) <| DT rfl rfl (fun K hk => ON rfl rfl (not_T h27) (CV1 rfl fun_spec_FirstGap rfl (fun w hs => spec_FirstGap (hA3.s Pl.keeps hs) (by omega) _) hk)) <| DT rfl rfl (fun K hk => ON rfl rfl (not_T h27) (FA rfl tyF_impl_Sender_1 rfl hk)) <| DT rfl rfl (fun K hk => ON rfl rfl (not_T h27) (FA rfl tyF_impl_Ring_1 rfl hk)) <| ?_
                                    refine DT rfl rfl (fun K hk => ON rfl rfl (not_T h27) (LD (i := 0) rfl tyP_int rfl rfl rfl hk)) <| dw_nil <| ON rfl rfl (not_T h27) <| rw_neq rfl rfl rfl <| PF rfl rfl (not_T h27) rfl <| MV rfl rfl <| ?_
                                    refine rw_case (j := 184) rfl (fun h28 => ?_) (fun h28 => ?_)
                                    · replace h28 := of_not_T h28
                                      refine OF rfl rfl (not_F h28) rfl <| OF rfl rfl (not_F h28) rfl <| OF rfl rfl (not_F h28) rfl <| PT rfl rfl (not_F h28) rfl <| ND <| CT rfl rfl <| SQ <| RG <| AS rfl rfl <| ND <| ret_cv Try.func107 (res1 Try.func107 rfl (rv_tmp rfl)) <| ?_
                                      simp only [take_all hn24] at *
                                      simp [isSenderS, senderBase, senderReset, sAll, h1, h2, h3, h4, h5, h6, h7, h8, h15, h24, h25, h26, h27, h28, head_of hx26]
                                    · replace h28 := of_not_F h28
                                      refine ON rfl rfl (not_T h28) <| FA rfl tyF_impl_Sender_8 rfl <| ON rfl rfl (not_T h28) <| LD (i := 0) rfl tyP_int rfl rfl rfl <| ON rfl rfl (not_T h28) <| rw_neq rfl rfl rfl <| PF rfl rfl (not_T h28) rfl <| ND <| ?_
                                      refine gw_cond rfl (fun h29 => ?_) (fun h29 => ?_)
                                      · replace h29 := of_not_T h29
                                        refine SQ <| RG <| AS rfl rfl <| ND <| ret_cv Try.func107 (res1 Try.func107 rfl (rv_tmp rfl)) <| ?_
                                        simp only [take_all hn24] at *
                                        simp [isSenderS, senderBase, senderReset, sAll, h1, h2, h3, h4, h5, h6, h7, h8, h15, h24, h25, h26, h27, h28, h29, head_of hx26]
                                      · replace h29 := of_not_F h29
                                        refine SK <| SQ <| SQ <| RG <| AS rfl rfl <| ND <| BK <| ?_
                                        refine gw_loopC (α := Nat) (fun z_ => z_ ≤ x.flight.length ∧ x.flight.all (fun r => !decide (x.sent < r.high)) = (x.flight.drop z_).all (fun r => !decide (x.sent < r.high))) (fun z_ => x.flight.length - z_) (fun e z_ => (7, .int .i64 (z_ : Int)) :: e) 0 [(1, _)] (Sub.consE rfl rfl (Sub.cons (i := 1) rfl (Sub.nil _))) ?_ ?_
                                        · exact ⟨Nat.zero_le _, rfl⟩
                                        · rintro i hI27 ih27
                                          try dsimp only
                                          obtain ⟨hle, hJ1⟩ := hI27
                                          refine SQ <| SQ <| RG <| MV rfl rfl <| FA rfl tyF_impl_Sender_3 rfl <| LD (i := 0) rfl tyP_S_impl_Range rfl rfl rfl <| rw_len rfl tyE_S_impl_Range rfl <| rw_lss rfl rfl rfl <| ND <| ?_
                                          refine gw_cond rfl (fun h30 => ?_) (fun h30 => ?_)
                                          · have hi28 := lt_of_dec h30
                                            obtain ⟨x29, hx29⟩ := get_of_lt hi28
                                            have hd29 := drop_cons hx29
                                            refine SK <| SQ <| BK <| SQ <| gw_draw' [(0, .det), (1, .det), (2, .det), (3, .det), (4, .det), (5, .det), (6, .det), (7, .det)] [8] mixed rfl (free_det (free_det (free_det (free_det (free_det (free_det (free_det (free_det free_nil)))))))) (ts := [_]) rfl <| DT rfl rfl (fun K hk => FA rfl tyF_impl_Sender_3 rfl hk) <| DT rfl rfl (fun K hk => LD (i := 0) rfl tyP_S_impl_Range rfl rfl rfl hk) <| DT rfl rfl (fun K hk => MV rfl rfl hk) <| ?_
                                            have hq30 := hA2.plain hx29
                                            refine DT rfl rfl (fun K hk => rw_indexAddr (i) rfl tyE_S_impl_Range rfl rfl rfl (hA2.some hi28) hi28 hk) <| DT rfl rfl (fun K hk => FX rfl tyF_impl_Range_1 rfl hk) <| DT rfl rfl (fun K hk => rw_loadX _ rfl tyP_int rfl (fun w hs => hq30.ld hs rfl) hk) <| DT rfl rfl (fun K hk => FA rfl tyF_impl_Sender_7 rfl hk) <| DT rfl rfl (fun K hk => LD (i := 0) rfl tyP_int rfl rfl rfl hk) <| dw_nil <| rw_gtr rfl rfl rfl <| ND <| ?_
                                            refine gw_cond rfl (fun h31 => ?_) (fun h31 => ?_)
                                            · refine SQ <| RG <| AS rfl rfl <| ND <| ret_cv Try.func107 (res1 Try.func107 rfl (rv_tmp rfl)) <| ?_
                                              simp only [take_all hn24] at *
                                              simp [isSenderS, senderBase, senderReset, sAll, h1, h2, h3, h4, h5, h6, h7, h8, h15, h24, h25, h26, h27, h28, h29, h31, head_of hx26, hJ1, hd29]
                                            · refine SK <| IB <| RG <| MV rfl rfl <| rw_add rfl rfl rfl <| AS rfl rfl <| ND <| ?_
                                              refine gw_sub (Sub.consE (i := 7) rfl (int_succ (by omega)) (Sub.cons (i := 1) rfl (Sub.nil _))) (ih27 (i + 1) ?_ ?_)
                                              · exact ⟨by omega, by rw [hJ1, hd29]; simp [h31]⟩
                                              · show x.flight.length - (i + 1) < x.flight.length - i; omega
                                          · have hn31 := nil_of_dec h30
                                            refine EX rfl <| SQ <| SQ <| RG <| AS rfl rfl <| ND <| BK <| ?_
                                            refine gw_loopC (α := Nat) (fun z_ => z_ ≤ x.acked.length ∧ x.acked.all (fun r => !decide (x.sent < r.high)) = (x.acked.drop z_).all (fun r => !decide (x.sent < r.high))) (fun z_ => x.acked.length - z_) (fun e z_ => (8, .int .i64 (z_ : Int)) :: e) 0 [(1, _)] (Sub.consE rfl rfl (Sub.cons (i := 1) rfl (Sub.nil _))) ?_ ?_
                                            · exact ⟨Nat.zero_le _, rfl⟩
                                            · rintro i hI32 ih32
                                              try dsimp only
                                              obtain ⟨hle, hJ2⟩ := hI32
                                              refine SQ <| SQ <| RG <| MV rfl rfl <| FA rfl tyF_impl_Sender_4 rfl <| LD (i := 0) rfl tyP_S_impl_Range rfl rfl rfl <| rw_len rfl tyE_S_impl_Range rfl <| rw_lss rfl rfl rfl <| ND <| ?_
                                              refine gw_cond rfl (fun h32 => ?_) (fun h32 => ?_)
                                              · have hi33 := lt_of_dec h32
                                                obtain ⟨x34, hx34⟩ := get_of_lt hi33
                                                have hd34 := drop_cons hx34
                                                refine SK <| SQ <| BK <| SQ <| gw_draw' [(0, .det), (1, .det), (2, .det), (3, .det), (4, .det), (5, .det), (6, .det), (7, .det)] [8] mixed rfl (free_det (free_det (free_det (free_det (free_det (free_det (free_det (free_det free_nil)))))))) (ts := [_]) rfl <| DT rfl rfl (fun K hk => FA rfl tyF_impl_Sender_4 rfl hk) <| DT rfl rfl (fun K hk => LD (i := 0) rfl tyP_S_impl_Range rfl rfl rfl hk) <| DT rfl rfl (fun K hk => MV rfl rfl hk) <| ?_
                                                have hq35 := hA3.plain hx34
                                                refine DT rfl rfl (fun K hk => rw_indexAddr (i) rfl tyE_S_impl_Range rfl rfl rfl (hA3.some hi33) hi33 hk) <| DT rfl rfl (fun K hk => FX rfl tyF_impl_Range_1 rfl hk) <| DT rfl rfl (fun K hk => rw_loadX _ rfl tyP_int rfl (fun w hs => hq35.ld hs rfl) hk) <| DT rfl rfl (fun K hk => FA rfl tyF_impl_Sender_7 rfl hk) <| DT rfl rfl (fun K hk => LD (i := 0) rfl tyP_int rfl rfl rfl hk) <| dw_nil <| rw_gtr rfl rfl rfl <| ND <| ?_
                                                refine gw_cond rfl (fun h33 => ?_) (fun h33 => ?_)
                                                · refine SQ <| RG <| AS rfl rfl <| ND <| ret_cv Try.func107 (res1 Try.func107 rfl (rv_tmp rfl)) <| ?_
                                                  simp only [take_all hn24] at *
                                                  have hF : (x.flight.all fun r => !decide (x.sent < r.high)) = true := by rw [hJ1, hn31]; rfl
                                                  simp [isSenderS, senderBase, senderReset, sAll, h1, h2, h3, h4, h5, h6, h7, h8, h15, h24, h25, h26, h27, h28, h29, h33, head_of hx26, hF, hJ2, hd34]
                                                · refine SK <| IB <| RG <| MV rfl rfl <| rw_add rfl rfl rfl <| AS rfl rfl <| ND <| ?_
                                                  refine gw_sub (Sub.consE (i := 8) rfl (int_succ (by omega)) (Sub.cons (i := 1) rfl (Sub.nil _))) (ih32 (i + 1) ?_ ?_)
                                                  · exact ⟨by omega, by rw [hJ2, hd34]; simp [h33]⟩
                                                  · show x.acked.length - (i + 1) < x.acked.length - i; omega
                                              · have hn36 := nil_of_dec h32
                                                refine EX rfl <| SQ <| SQ <| RG <| FA rfl tyF_impl_Sender_6 rfl <| LD (i := 0) rfl tyP_int rfl rfl rfl <| EQ1 rfl rfl rfl <| FA rfl tyF_impl_Sender_5 rfl <| LD (i := 0) rfl tyP_int rfl rfl rfl <| EQ1 rfl rfl rfl <| rw_neqB (by kernel_rfl) rfl rfl rfl <| MV rfl rfl <| ?_
                                                refine rw_case (j := 228) rfl (fun h34 => ?_) (fun h34 => ?_)
                                                · replace h34 := of_not_T h34
                                                  refine OF rfl rfl (not_F h34) rfl <| OF rfl rfl (not_F h34) rfl <| OF rfl rfl (not_F h34) rfl <| OF rfl rfl (not_F h34) rfl <| OU rfl rfl rfl <| OU rfl rfl rfl <| OU rfl rfl rfl <| OU rfl rfl rfl <| OU rfl rfl rfl <| OU rfl rfl rfl <| OF rfl rfl (not_F h34) rfl <| PT rfl rfl (not_F h34) rfl <| ND <| CT rfl rfl <| SQ <| RG <| AS rfl rfl <| ND <| ret_cv Try.func107 (res1 Try.func107 rfl (rv_tmp rfl)) <| ?_
                                                  simp only [take_all hn24] at *
                                                  have hF : (x.flight.all fun r => !decide (x.sent < r.high)) = true := by rw [hJ1, hn31]; rfl
                                                  have hC : (x.acked.all fun r => !decide (x.sent < r.high)) = true := by rw [hJ2, hn36]; rfl
                                                  simp [isSenderS, senderBase, senderReset, sAll, h1, h2, h3, h4, h5, h6, h7, h8, h15, h24, h25, h26, h27, h28, h29, h34, head_of hx26, hF, hC]
                                                · replace h34 := of_not_F h34
                                                  have hse37 := eq_of_beq h34
                                                  refine ON rfl rfl (not_T h34) <| FA rfl tyF_impl_Sender_5 rfl <| ON rfl rfl (not_T h34) <| LD (i := 0) rfl tyP_int rfl rfl rfl <| ON rfl rfl (not_T h34) <| rw_neq rfl rfl rfl <| ON rfl rfl (not_T h34) <| MV rfl rfl <| ?_
                                                  refine rw_case (j := 232) rfl (fun h35 => ?_) (fun h35 => ?_)
                                                  · replace h35 := of_not_T h35
                                                    refine ON rfl rfl (not_F h35) <| FA rfl tyF_impl_Sender_5 rfl <| ON rfl rfl (not_F h35) <| LD (i := 0) rfl tyP_int rfl rfl rfl <| ON rfl rfl (not_F h35) <| FA rfl tyF_impl_Sender_1 rfl <| ON rfl rfl (not_F h35) <| FA rfl tyF_impl_Ring_2 rfl <| ON rfl rfl (not_F h35) <| LD (i := 0) rfl tyP_int rfl rfl rfl <| ON rfl rfl (not_F h35) <| rw_neq rfl rfl rfl <| ON rfl rfl (not_T h34) <| PT rfl rfl (not_F h35) rfl <| PF rfl rfl (not_T h34) rfl <| ND <| ?_
                                                    refine gw_cond rfl (fun h36 => ?_) (fun h36 => ?_)
                                                    · replace h36 := of_not_T h36
                                                      refine SQ <| RG <| AS rfl rfl <| ND <| ret_cv Try.func107 (res1 Try.func107 rfl (rv_tmp rfl)) <| ?_
                                                      simp only [take_all hn24] at *
                                                      have hF : (x.flight.all fun r => !decide (x.sent < r.high)) = true := by rw [hJ1, hn31]; rfl
                                                      have hC : (x.acked.all fun r => !decide (x.sent < r.high)) = true := by rw [hJ2, hn36]; rfl
                                                      simp [isSenderS, senderBase, senderReset, sAll, h1, h2, h3, h4, h5, h6, h7, h8, h15, h24, h25, h26, h27, h28, h29, hse37, h35, h36, head_of hx26, hF, hC]
                                                    · replace h36 := of_not_F h36
                                                      refine SK <| SQ <| gw_draw' [(0, .det), (1, .det), (2, .det), (3, .det)] [4, 5] mixed rfl (free_det (free_det (free_det (free_det free_nil)))) (ts := [_, _]) rfl <| DT rfl rfl (fun K hk => FA rfl tyF_impl_Sender_0 rfl hk) <| DT rfl rfl (fun K hk => LD (i := 0) rfl tyP_int rfl rfl rfl hk) <| DT rfl rfl (fun K hk => LS (i := 0) [_, _, _, _, _, _, _, _, _, _, _, _] rfl tyS_impl_Sender rfl rfl rfl rfl hk) <| DT rfl rfl (fun K hk => CV1 rfl fun_spec_l9State rfl (fun w hs => spec_l9State ⟨_, _, _, _, rfl, (hA0.s Pl.keeps hs), (hA1.s Pl.keeps hs), (hA2.s Pl.keeps hs), (hA3.s Pl.keeps hs)⟩) hk) <| ?_
                                                      refine dw_nil <| EQ1 rfl rfl rfl <| AS rfl rfl <| ND <| ret_cv Try.func107 (res1 Try.func107 rfl (rv_tmp rfl)) <| ?_
                                                      simp only [take_all hn24] at *
                                                      have hF : (x.flight.all fun r => !decide (x.sent < r.high)) = true := by rw [hJ1, hn31]; rfl
                                                      have hC : (x.acked.all fun r => !decide (x.sent < r.high)) = true := by rw [hJ2, hn36]; rfl
                                                      simp [isSenderS, senderBase, senderReset, sAll, h1, h2, h3, h4, h5, h6, h7, h8, h15, h24, h25, h26, h27, h28, h29, hse37, h35, h36, head_of hx26, hF, hC]
                                                  · replace h35 := of_not_F h35
                                                    refine OF rfl rfl (not_T h35) rfl <| OF rfl rfl (not_T h35) rfl <| OF rfl rfl (not_T h35) rfl <| OF rfl rfl (not_T h35) rfl <| OF rfl rfl (not_T h35) rfl <| OF rfl rfl (not_T h35) rfl <| ON rfl rfl (not_T h34) <| PF rfl rfl (not_T h35) rfl <| PF rfl rfl (not_T h34) rfl <| ND <| CF rfl rfl <| SK <| SQ <| gw_draw' [(0, .det), (1, .det), (2, .det), (3, .det)] [4, 5] mixed rfl (free_det (free_det (free_det (free_det free_nil)))) (ts := [_, _]) rfl <| DT rfl rfl (fun K hk => FA rfl tyF_impl_Sender_0 rfl hk) <| DT rfl rfl (fun K hk => LD (i := 0) rfl tyP_int rfl rfl rfl hk) <| ?_
                                                    refine DT rfl rfl (fun K hk => LS (i := 0) [_, _, _, _, _, _, _, _, _, _, _, _] rfl tyS_impl_Sender rfl rfl rfl rfl hk) <| DT rfl rfl (fun K hk => CV1 rfl fun_spec_l9State rfl (fun w hs => spec_l9State ⟨_, _, _, _, rfl, (hA0.s Pl.keeps hs), (hA1.s Pl.keeps hs), (hA2.s Pl.keeps hs), (hA3.s Pl.keeps hs)⟩) hk) <| dw_nil <| EQ1 rfl rfl rfl <| AS rfl rfl <| ND <| ret_cv Try.func107 (res1 Try.func107 rfl (rv_tmp rfl)) <| ?_
                                                    simp only [take_all hn24] at *
                                                    have hF : (x.flight.all fun r => !decide (x.sent < r.high)) = true := by rw [hJ1, hn31]; rfl
                                                    have hC : (x.acked.all fun r => !decide (x.sent < r.high)) = true := by rw [hJ2, hn36]; rfl
                                                    simp [isSenderS, senderBase, senderReset, sAll, h1, h2, h3, h4, h5, h6, h7, h8, h15, h24, h25, h26, h27, h28, h29, hse37, h35, head_of hx26, hF, hC]
                                · refine DT rfl rfl (fun K hk => OF rfl rfl h26 rfl hk) <| DT rfl rfl (fun K hk => OF rfl rfl h26 rfl hk) <| DT rfl rfl (fun K hk => OF rfl rfl h26 rfl hk) <| DT rfl rfl (fun K hk => OF rfl rfl h26 rfl hk) <| DT rfl rfl (fun K hk => OF rfl rfl h26 rfl hk) <| DT rfl rfl (fun K hk => OF rfl rfl h26 rfl hk) <| DT rfl rfl (fun K hk => OF rfl rfl h26 rfl hk) <| DT rfl rfl (fun K hk => OF rfl rfl h26 rfl hk) <| DT rfl rfl (fun K hk => ON rfl rfl (not_T h25) (PF rfl rfl h26 rfl hk)) <| ?_
                                  refine DT rfl rfl (fun K hk => PF rfl rfl (not_T h25) rfl hk) <| DT rfl rfl (fun K hk => MV rfl rfl hk) <| DT rfl rfl (fun K hk => ON rfl rfl rfl (FA rfl tyF_impl_Sender_4 rfl hk)) <| DT rfl rfl (fun K hk => ON rfl rfl rfl (LD (i := 0) rfl tyP_S_impl_Range rfl rfl rfl hk)) <| DT rfl rfl (fun K hk => ON rfl rfl rfl (CV1 rfl fun_spec_FirstGap rfl (fun w hs => spec_FirstGap (hA3.s Pl.keeps hs) (by omega) _) hk)) <| DT rfl rfl (fun K hk => ON rfl rfl rfl (FA rfl tyF_impl_Sender_1 rfl hk)) <| ?_
                                  refine DT rfl rfl (fun K hk => ON rfl rfl rfl (FA rfl tyF_impl_Ring_1 rfl hk)) <| DT rfl rfl (fun K hk => ON rfl rfl rfl (LD (i := 0) rfl tyP_int rfl rfl rfl hk)) <| dw_nil <| ON rfl rfl rfl <| rw_neq rfl rfl rfl <| PF rfl rfl rfl rfl <| MV rfl rfl <| ?_
                                  refine rw_case (j := 184) rfl (fun h37 => ?_) (fun h37 => ?_)
                                  · replace h37 := of_not_T h37
                                    refine OF rfl rfl (not_F h37) rfl <| OF rfl rfl (not_F h37) rfl <| OF rfl rfl (not_F h37) rfl <| PT rfl rfl (not_F h37) rfl <| ND <| CT rfl rfl <| SQ <| RG <| AS rfl rfl <| ND <| ret_cv Try.func107 (res1 Try.func107 rfl (rv_tmp rfl)) <| ?_
                                    simp only [take_all hn24] at *
                                    simp [isSenderS, senderBase, senderReset, sAll, h1, h2, h3, h4, h5, h6, h7, h8, h15, h24, h25, h26, h37]
                                  · replace h37 := of_not_F h37
                                    refine ON rfl rfl (not_T h37) <| FA rfl tyF_impl_Sender_8 rfl <| ON rfl rfl (not_T h37) <| LD (i := 0) rfl tyP_int rfl rfl rfl <| ON rfl rfl (not_T h37) <| rw_neq rfl rfl rfl <| PF rfl rfl (not_T h37) rfl <| ND <| ?_
                                    refine gw_cond rfl (fun h38 => ?_) (fun h38 => ?_)
                                    · replace h38 := of_not_T h38
                                      refine SQ <| RG <| AS rfl rfl <| ND <| ret_cv Try.func107 (res1 Try.func107 rfl (rv_tmp rfl)) <| ?_
                                      simp only [take_all hn24] at *
                                      simp [isSenderS, senderBase, senderReset, sAll, h1, h2, h3, h4, h5, h6, h7, h8, h15, h24, h25, h26, h37, h38]
                                    · replace h38 := of_not_F h38
                                      refine SK <| SQ <| SQ <| RG <| AS rfl rfl <| ND <| BK <| ?_
                                      refine gw_loopC (α := Nat) (fun z_ => z_ ≤ x.flight.length ∧ x.flight.all (fun r => !decide (x.sent < r.high)) = (x.flight.drop z_).all (fun r => !decide (x.sent < r.high))) (fun z_ => x.flight.length - z_) (fun e z_ => (7, .int .i64 (z_ : Int)) :: e) 0 [(1, _)] (Sub.consE rfl rfl (Sub.cons (i := 1) rfl (Sub.nil _))) ?_ ?_
                                      · exact ⟨Nat.zero_le _, rfl⟩
                                      · rintro i hI38 ih38
                                        try dsimp only
                                        obtain ⟨hle, hJ1⟩ := hI38
                                        refine SQ <| SQ <| RG <| MV rfl rfl <| FA rfl tyF_impl_Sender_3 rfl <| LD (i := 0) rfl tyP_S_impl_Range rfl rfl rfl <| rw_len rfl tyE_S_impl_Range rfl <| rw_lss rfl rfl rfl <| ND <| ?_
                                        refine gw_cond rfl (fun h39 => ?_) (fun h39 => ?_)
                                        · have hi39 := lt_of_dec h39
                                          obtain ⟨x40, hx40⟩ := get_of_lt hi39
                                          have hd40 := drop_cons hx40
                                          refine SK <| SQ <| BK <| SQ <| gw_draw' [(0, .det), (1, .det), (2, .det), (3, .det), (4, .det), (5, .det), (6, .det), (7, .det)] [8] mixed rfl (free_det (free_det (free_det (free_det (free_det (free_det (free_det (free_det free_nil)))))))) (ts := [_]) rfl <| DT rfl rfl (fun K hk => FA rfl tyF_impl_Sender_3 rfl hk) <| DT rfl rfl (fun K hk => LD (i := 0) rfl tyP_S_impl_Range rfl rfl rfl hk) <| DT rfl rfl (fun K hk => MV rfl rfl hk) <| ?_
                                          have hq41 := hA2.plain hx40
                                          refine DT rfl rfl (fun K hk => rw_indexAddr (i) rfl tyE_S_impl_Range rfl rfl rfl (hA2.some hi39) hi39 hk) <| DT rfl rfl (fun K hk => FX rfl tyF_impl_Range_1 rfl hk) <| DT rfl rfl (fun K hk => rw_loadX _ rfl tyP_int rfl (fun w hs => hq41.ld hs rfl) hk) <| DT rfl rfl (fun K hk => FA rfl tyF_impl_Sender_7 rfl hk) <| DT rfl rfl (fun K hk => LD (i := 0) rfl tyP_int rfl rfl rfl hk) <| dw_nil <| rw_gtr rfl rfl rfl <| ND <| ?_
                                          refine gw_cond rfl (fun h40 => ?_) (fun h40 => ?_)
                                          · refine SQ <| RG <| AS rfl rfl <| ND <| ret_cv Try.func107 (res1 Try.func107 rfl (rv_tmp rfl)) <| ?_
                                            simp only [take_all hn24] at *
                                            simp [isSenderS, senderBase, senderReset, sAll, h1, h2, h3, h4, h5, h6, h7, h8, h15, h24, h25, h26, h37, h38, h40, hJ1, hd40]
                                          · refine SK <| IB <| RG <| MV rfl rfl <| rw_add rfl rfl rfl <| AS rfl rfl <| ND <| ?_
                                            refine gw_sub (Sub.consE (i := 7) rfl (int_succ (by omega)) (Sub.cons (i := 1) rfl (Sub.nil _))) (ih38 (i + 1) ?_ ?_)
                                            · exact ⟨by omega, by rw [hJ1, hd40]; simp [h40]⟩
                                            · show x.flight.length - (i + 1) < x.flight.length - i; omega
                                        · have hn42 := nil_of_dec h39
                                          refine EX rfl <| SQ <| SQ <| RG <| AS rfl rfl <| ND <| BK <| ?_
                                          refine gw_loopC (α := Nat) (fun z_ => z_ ≤ x.acked.length ∧ x.acked.all (fun r => !decide (x.sent < r.high)) = (x.acked.drop z_).all (fun r => !decide (x.sent < r.high))) (fun z_ => x.acked.length - z_) (fun e z_ => (8, .int .i64 (z_ : Int)) :: e) 0 [(1, _)] (Sub.consE rfl rfl (Sub.cons (i := 1) rfl (Sub.nil _))) ?_ ?_
                                          · exact ⟨Nat.zero_le _, rfl⟩
                                          · rintro i hI43 ih43
                                            try dsimp only
                                            obtain ⟨hle, hJ2⟩ := hI43
                                            refine SQ <| SQ <| RG <| MV rfl rfl <| FA rfl tyF_impl_Sender_4 rfl <| LD (i := 0) rfl tyP_S_impl_Range rfl rfl rfl <| rw_len rfl tyE_S_impl_Range rfl <| rw_lss rfl rfl rfl <| ND <| ?_
                                            refine gw_cond rfl (fun h41 => ?_) (fun h41 => ?_)
                                            · have hi44 := lt_of_dec h41
                                              obtain ⟨x45, hx45⟩ := get_of_lt hi44
                                              have hd45 := drop_cons hx45
                                              refine SK <| SQ <| BK <| SQ <| gw_draw' [(0, .det), (1, .det), (2, .det), (3, .det), (4, .det), (5, .det), (6, .det), (7, .det)] [8] mixed rfl (free_det (free_det (free_det (free_det (free_det (free_det (free_det (free_det free_nil)))))))) (ts := [_]) rfl <| DT rfl rfl (fun K hk => FA rfl tyF_impl_Sender_4 rfl hk) <| DT rfl rfl (fun K hk => LD (i := 0) rfl tyP_S_impl_Range rfl rfl rfl hk) <| DT rfl rfl (fun K hk => MV rfl rfl hk) <| ?_
                                              have hq46 := hA3.plain hx45
                                              refine DT rfl rfl (fun K hk => rw_indexAddr (i) rfl tyE_S_impl_Range rfl rfl rfl (hA3.some hi44) hi44 hk) <| DT rfl rfl (fun K hk => FX rfl tyF_impl_Range_1 rfl hk) <| DT rfl rfl (fun K hk => rw_loadX _ rfl tyP_int rfl (fun w hs => hq46.ld hs rfl) hk) <| DT rfl rfl (fun K hk => FA rfl tyF_impl_Sender_7 rfl hk) <| DT rfl rfl (fun K hk => LD (i := 0) rfl tyP_int rfl rfl rfl hk) <| dw_nil <| rw_gtr rfl rfl rfl <| ND <| ?_
                                              refine gw_cond rfl (fun h42 => ?_) (fun h42 => ?_)
                                              · refine SQ <| RG <| AS rfl rfl <| ND <| ret_cv Try.func107 (res1 Try.func107 rfl (rv_tmp rfl)) <| ?_
                                                simp only [take_all hn24] at *
                                                have hF : (x.flight.all fun r => !decide (x.sent < r.high)) = true := by rw [hJ1, hn42]; rfl
                                                simp [isSenderS, senderBase, senderReset, sAll, h1, h2, h3, h4, h5, h6, h7, h8, h15, h24, h25, h26, h37, h38, h42, hF, hJ2, hd45]
                                              · refine SK <| IB <| RG <| MV rfl rfl <| rw_add rfl rfl rfl <| AS rfl rfl <| ND <| ?_
                                                refine gw_sub (Sub.consE (i := 8) rfl (int_succ (by omega)) (Sub.cons (i := 1) rfl (Sub.nil _))) (ih43 (i + 1) ?_ ?_)
                                                · exact ⟨by omega, by rw [hJ2, hd45]; simp [h42]⟩
                                                · show x.acked.length - (i + 1) < x.acked.length - i; omega
                                            · have hn47 := nil_of_dec h41
                                              refine EX rfl <| SQ <| SQ <| RG <| FA rfl tyF_impl_Sender_6 rfl <| LD (i := 0) rfl tyP_int rfl rfl rfl <| EQ1 rfl rfl rfl <| FA rfl tyF_impl_Sender_5 rfl <| LD (i := 0) rfl tyP_int rfl rfl rfl <| EQ1 rfl rfl rfl <| rw_neqB (by kernel_rfl) rfl rfl rfl <| MV rfl rfl <| ?_
                                              refine rw_case (j := 228) rfl (fun h43 => ?_) (fun h43 => ?_)
                                              · replace h43 := of_not_T h43
                                                refine OF rfl rfl (not_F h43) rfl <| OF rfl rfl (not_F h43) rfl <| OF rfl rfl (not_F h43) rfl <| OF rfl rfl (not_F h43) rfl <| OU rfl rfl rfl <| OU rfl rfl rfl <| OU rfl rfl rfl <| OU rfl rfl rfl <| OU rfl rfl rfl <| OU rfl rfl rfl <| OF rfl rfl (not_F h43) rfl <| PT rfl rfl (not_F h43) rfl <| ND <| CT rfl rfl <| SQ <| RG <| AS rfl rfl <| ND <| ret_cv Try.func107 (res1 Try.func107 rfl (rv_tmp rfl)) <| ?_
                                                simp only [take_all hn24] at *
                                                have hF : (x.flight.all fun r => !decide (x.sent < r.high)) = true := by rw [hJ1, hn42]; rfl
                                                have hC : (x.acked.all fun r => !decide (x.sent < r.high)) = true := by rw [hJ2, hn47]; rfl
                                                simp [isSenderS, senderBase, senderReset, sAll, h1, h2, h3, h4, h5, h6, h7, h8, h15, h24, h25, h26, h37, h38, h43, hF, hC]
                                              · replace h43 := of_not_F h43
                                                have hse48 := eq_of_beq h43
                                                refine ON rfl rfl (not_T h43) <| FA rfl tyF_impl_Sender_5 rfl <| ON rfl rfl (not_T h43) <| LD (i := 0) rfl tyP_int rfl rfl rfl <| ON rfl rfl (not_T h43) <| rw_neq rfl rfl rfl <| ON rfl rfl (not_T h43) <| MV rfl rfl <| ?_
                                                refine rw_case (j := 232) rfl (fun h44 => ?_) (fun h44 => ?_)
                                                · replace h44 := of_not_T h44
                                                  refine ON rfl rfl (not_F h44) <| FA rfl tyF_impl_Sender_5 rfl <| ON rfl rfl (not_F h44) <| LD (i := 0) rfl tyP_int rfl rfl rfl <| ON rfl rfl (not_F h44) <| FA rfl tyF_impl_Sender_1 rfl <| ON rfl rfl (not_F h44) <| FA rfl tyF_impl_Ring_2 rfl <| ON rfl rfl (not_F h44) <| LD (i := 0) rfl tyP_int rfl rfl rfl <| ON rfl rfl (not_F h44) <| rw_neq rfl rfl rfl <| ON rfl rfl (not_T h43) <| PT rfl rfl (not_F h44) rfl <| PF rfl rfl (not_T h43) rfl <| ND <| ?_
                                                  refine gw_cond rfl (fun h45 => ?_) (fun h45 => ?_)
                                                  · replace h45 := of_not_T h45
                                                    refine SQ <| RG <| AS rfl rfl <| ND <| ret_cv Try.func107 (res1 Try.func107 rfl (rv_tmp rfl)) <| ?_
                                                    simp only [take_all hn24] at *
                                                    have hF : (x.flight.all fun r => !decide (x.sent < r.high)) = true := by rw [hJ1, hn42]; rfl
                                                    have hC : (x.acked.all fun r => !decide (x.sent < r.high)) = true := by rw [hJ2, hn47]; rfl
                                                    simp [isSenderS, senderBase, senderReset, sAll, h1, h2, h3, h4, h5, h6, h7, h8, h15, h24, h25, h26, h37, h38, hse48, h44, h45, hF, hC]
                                                  · replace h45 := of_not_F h45
                                                    refine SK <| SQ <| gw_draw' [(0, .det), (1, .det), (2, .det), (3, .det)] [4, 5] mixed rfl (free_det (free_det (free_det (free_det free_nil)))) (ts := [_, _]) rfl <| DT rfl rfl (fun K hk => FA rfl tyF_impl_Sender_0 rfl hk) <| DT rfl rfl (fun K hk => LD (i := 0) rfl tyP_int rfl rfl rfl hk) <| DT rfl rfl (fun K hk => LS (i := 0) [_, _, _, _, _, _, _, _, _, _, _, _] rfl tyS_impl_Sender rfl rfl rfl rfl hk) <| DT rfl rfl (fun K hk => CV1 rfl fun_spec_l9State rfl (fun w hs => spec_l9State ⟨_, _, _, _, rfl, (hA0.s Pl.keeps hs), (hA1.s Pl.keeps hs), (hA2.s Pl.keeps hs), (hA3.s Pl.keeps hs)⟩) hk) <| ?_
                                                    refine dw_nil <| EQ1 rfl rfl rfl <| AS rfl rfl <| ND <| ret_cv Try.func107 (res1 Try.func107 rfl (rv_tmp rfl)) <| ?_
                                                    simp only [take_all hn24] at *
                                                    have hF : (x.flight.all fun r => !decide (x.sent < r.high)) = true := by rw [hJ1, hn42]; rfl
                                                    have hC : (x.acked.all fun r => !decide (x.sent < r.high)) = true := by rw [hJ2, hn47]; rfl
                                                    simp [isSenderS, senderBase, senderReset, sAll, h1, h2, h3, h4, h5, h6, h7, h8, h15, h24, h25, h26, h37, h38, hse48, h44, h45, hF, hC]
                                                · replace h44 := of_not_F h44
                                                  refine OF rfl rfl (not_T h44) rfl <| OF rfl rfl (not_T h44) rfl <| OF rfl rfl (not_T h44) rfl <| OF rfl rfl (not_T h44) rfl <| OF rfl rfl (not_T h44) rfl <| OF rfl rfl (not_T h44) rfl <| ON rfl rfl (not_T h43) <| PF rfl rfl (not_T h44) rfl <| PF rfl rfl (not_T h43) rfl <| ND <| CF rfl rfl <| SK <| SQ <| gw_draw' [(0, .det), (1, .det), (2, .det), (3, .det)] [4, 5] mixed rfl (free_det (free_det (free_det (free_det free_nil)))) (ts := [_, _]) rfl <| DT rfl rfl (fun K hk => FA rfl tyF_impl_Sender_0 rfl hk) <| DT rfl rfl (fun K hk => LD (i := 0) rfl tyP_int rfl rfl rfl hk) <| ?_
                                                  refine DT rfl rfl (fun K hk => LS (i := 0) [_, _, _, _, _, _, _, _, _, _, _, _] rfl tyS_impl_Sender rfl rfl rfl rfl hk) <| DT rfl rfl (fun K hk => CV1 rfl fun_spec_l9State rfl (fun w hs => spec_l9State ⟨_, _, _, _, rfl, (hA0.s Pl.keeps hs), (hA1.s Pl.keeps hs), (hA2.s Pl.keeps hs), (hA3.s Pl.keeps hs)⟩) hk) <| dw_nil <| EQ1 rfl rfl rfl <| AS rfl rfl <| ND <| ret_cv Try.func107 (res1 Try.func107 rfl (rv_tmp rfl)) <| ?_
                                                  simp only [take_all hn24] at *
                                                  have hF : (x.flight.all fun r => !decide (x.sent < r.high)) = true := by rw [hJ1, hn42]; rfl
                                                  have hC : (x.acked.all fun r => !decide (x.sent < r.high)) = true := by rw [hJ2, hn47]; rfl
                                                  simp [isSenderS, senderBase, senderReset, sAll, h1, h2, h3, h4, h5, h6, h7, h8, h15, h24, h25, h26, h37, h38, hse48, h44, hF, hC]

theorem spec_IsCredit (c : Credit) (w : World) : CV Try.prog 129 [.agg c.cells.toArray] w (.bool (isCredit c)) := by
  refine cv_of Try.func129 rfl rfl rfl <| SQ <| RG <| BX [_, _, _, _] rfl rfl rfl <| fun b1 => AS rfl rfl <| ND <| SQ <| RG <| FA rfl tyF_impl_Credit_0 rfl <| LD (i := 0) rfl tyP_int rfl rfl rfl <| CV1 rfl fun_spec_l4Quic rfl (fun w hs => spec_l4Quic _ w) <| MV rfl rfl <| ?_
  refine rw_case (j := 6) rfl (fun h1 => ?_) (fun h1 => ?_)
  · refine ON rfl rfl h1 <| FA rfl tyF_impl_Credit_1 rfl <| ON rfl rfl h1 <| LD (i := 0) rfl tyP_int rfl rfl rfl <| ON rfl rfl h1 <| FA rfl tyF_impl_Credit_0 rfl <| ON rfl rfl h1 <| LD (i := 0) rfl tyP_int rfl rfl rfl <| ON rfl rfl h1 <| CV1 rfl fun_spec_l1In rfl (fun w hs => spec_l1In _ _ _ w) <| PT rfl rfl h1 rfl <| MV rfl rfl <| ?_
    refine rw_case (j := 13) rfl (fun h2 => ?_) (fun h2 => ?_)
    · refine ON rfl rfl h2 <| FA rfl tyF_impl_Credit_2 rfl <| ON rfl rfl h2 <| LD (i := 0) rfl tyP_int rfl rfl rfl <| ON rfl rfl h2 <| FA rfl tyF_impl_Credit_0 rfl <| ON rfl rfl h2 <| LD (i := 0) rfl tyP_int rfl rfl rfl <| ON rfl rfl h2 <| CV1 rfl fun_spec_l1In rfl (fun w hs => spec_l1In _ _ _ w) <| PT rfl rfl h2 rfl <| MV rfl rfl <| ?_
      refine rw_case (j := 20) rfl (fun h3 => ?_) (fun h3 => ?_)
      · refine ON rfl rfl h3 <| FA rfl tyF_impl_Credit_3 rfl <| ON rfl rfl h3 <| LD (i := 0) rfl tyP_int rfl rfl rfl <| ON rfl rfl h3 <| FA rfl tyF_impl_Credit_0 rfl <| ON rfl rfl h3 <| LD (i := 0) rfl tyP_int rfl rfl rfl <| ON rfl rfl h3 <| CV1 rfl fun_spec_l1In rfl (fun w hs => spec_l1In _ _ _ w) <| PT rfl rfl h3 rfl <| AS rfl rfl <| ND <| ret_cv Try.func129 (res1 Try.func129 rfl (rv_tmp rfl)) <| ?_
        simp [isCredit, h1, h2, h3]
      · refine OF rfl rfl h3 rfl <| OF rfl rfl h3 rfl <| OF rfl rfl h3 rfl <| OF rfl rfl h3 rfl <| OF rfl rfl h3 rfl <| PF rfl rfl h3 rfl <| AS rfl rfl <| ND <| ret_cv Try.func129 (res1 Try.func129 rfl (rv_tmp rfl)) <| ?_
        simp [isCredit, h1, h2, h3]
    · refine OF rfl rfl h2 rfl <| OF rfl rfl h2 rfl <| OF rfl rfl h2 rfl <| OF rfl rfl h2 rfl <| OF rfl rfl h2 rfl <| PF rfl rfl h2 rfl <| MV rfl rfl <| OF rfl rfl rfl rfl <| OF rfl rfl rfl rfl <| OF rfl rfl rfl rfl <| OF rfl rfl rfl rfl <| OF rfl rfl rfl rfl <| PF rfl rfl rfl rfl <| AS rfl rfl <| ND <| ret_cv Try.func129 (res1 Try.func129 rfl (rv_tmp rfl)) <| ?_
      simp [isCredit, h1, h2]
  · refine OF rfl rfl h1 rfl <| OF rfl rfl h1 rfl <| OF rfl rfl h1 rfl <| OF rfl rfl h1 rfl <| OF rfl rfl h1 rfl <| PF rfl rfl h1 rfl <| MV rfl rfl <| OF rfl rfl rfl rfl <| OF rfl rfl rfl rfl <| OF rfl rfl rfl rfl <| OF rfl rfl rfl rfl <| OF rfl rfl rfl rfl <| PF rfl rfl rfl rfl <| MV rfl rfl <| OF rfl rfl rfl rfl <| OF rfl rfl rfl rfl <| OF rfl rfl rfl rfl <| OF rfl rfl rfl rfl <| OF rfl rfl rfl rfl <| PF rfl rfl rfl rfl <| AS rfl rfl <| ?_
    refine ND <| ret_cv Try.func129 (res1 Try.func129 rfl (rv_tmp rfl)) <| ?_
    simp [isCredit, h1]

theorem spec_IsBuffer {w : World} {cs : List Value} {x : Buffer} (hv : RdBuffer w cs x) (hb : x.le 1048576) : CV Try.prog 193 [.agg cs.toArray] w (.bool (isBuffer x)) := by
  obtain ⟨v0, rfl, k0⟩ := hv
  obtain ⟨A0, c0, rfl, hA0⟩ := k0
  obtain ⟨hb0, hb1⟩ := hb
  refine cv_of Try.func193 rfl rfl rfl <| SQ <| RG <| BX [_, _] rfl rfl rfl <| fun b1 => AS rfl rfl <| ND <| SQ <| RG <| FA rfl tyF_impl_Buffer_0 rfl <| LD (i := 0) rfl tyP_int rfl rfl rfl <| rw_sub rfl rfl rfl <| AS rfl rfl <| ND <| SQ <| SQ <| RG <| AS rfl rfl <| ND <| BK <| ?_
  refine gw_loopC (α := Nat × Int) (fun z_ => z_.1 ≤ x.chunks.length ∧ isBufferS x = (bufS z_.2 (x.chunks.drop z_.1) && isQuic x.next)) (fun z_ => x.chunks.length - z_.1) (fun e z_ => (4, .int .i64 (z_.1 : Int)) :: (3, .int .i64 z_.2) :: e) (0, w64 (x.next - 1)) [(1, _)] (Sub.consE rfl rfl (Sub.consE rfl rfl (Sub.cons (i := 1) rfl (Sub.nil _)))) ?_ ?_
  · exact ⟨Nat.zero_le _, rfl⟩
  · rintro ⟨i, e⟩ hI1 ih1
    dsimp only at hI1
    dsimp only
    obtain ⟨hle, hI⟩ := hI1
    refine SQ <| SQ <| RG <| MV rfl rfl <| FA rfl tyF_impl_Buffer_1 rfl <| LD (i := 0) rfl tyP_S_impl_Chunk rfl rfl rfl <| rw_len rfl tyE_S_impl_Chunk rfl <| rw_lss rfl rfl rfl <| ND <| ?_
    refine gw_cond rfl (fun h1 => ?_) (fun h1 => ?_)
    · have hi2 := lt_of_dec h1
      obtain ⟨x3, hx3⟩ := get_of_lt hi2
      have hd3 := drop_cons hx3
      refine SK <| SQ <| BK <| SQ <| RG <| FA rfl tyF_impl_Buffer_1 rfl <| LD (i := 0) rfl tyP_S_impl_Chunk rfl rfl rfl <| MV rfl rfl <| ?_
      have hq4 := hA0.plain hx3
      refine rw_indexAddr (i) rfl tyE_S_impl_Chunk rfl rfl rfl (hA0.some hi2) hi2 <| rw_loadX_s [_, _] rfl tyS_impl_Chunk rfl rfl (fun w hs => hq4.lds0 (n := 2) hs rfl) <| AL rfl tyZ_impl_Chunk <| fun b2 => ST (i := 0) [_, _] [_, _] tyS_impl_Chunk.sz rfl rfl rfl rfl rfl rfl rfl rfl <| ND <| SQ <| SQ <| RG <| FA rfl tyF_impl_Chunk_0 rfl <| LD (i := 0) rfl tyP_int rfl rfl rfl <| MV rfl rfl <| rw_leq rfl rfl rfl <| MV rfl rfl <| ?_
      refine rw_case (j := 25) rfl (fun h2 => ?_) (fun h2 => ?_)
      · refine OF rfl rfl h2 rfl <| OF rfl rfl h2 rfl <| OF rfl rfl h2 rfl <| PT rfl rfl h2 rfl <| MV rfl rfl <| OF rfl rfl rfl rfl <| OF rfl rfl rfl rfl <| OF rfl rfl rfl rfl <| OF rfl rfl rfl rfl <| OF rfl rfl rfl rfl <| OF rfl rfl rfl rfl <| OF rfl rfl rfl rfl <| PT rfl rfl rfl rfl <| ND <| CT rfl rfl <| SQ <| RG <| AS rfl rfl <| ND <| ret_cv Try.func193 (res1 Try.func193 rfl (rv_tmp rfl)) <| ?_
        rw [isBuffer_s x hb1]; rw [hI, hd3]; simp [bufS, maxQuic, h2]
      · refine ON rfl rfl h2 <| FA rfl tyF_impl_Chunk_1 rfl <| ON rfl rfl h2 <| LD (i := 0) rfl tyP_string rfl rfl rfl <| ON rfl rfl h2 <| rw_eqlS rfl rfl rfl <| PF rfl rfl h2 rfl <| MV rfl rfl <| ?_
        refine rw_case (j := 30) rfl (fun h3 => ?_) (fun h3 => ?_)
        · have hse5 := str_empty h3
          refine OF rfl rfl h3 rfl <| OF rfl rfl h3 rfl <| OF rfl rfl h3 rfl <| OF rfl rfl h3 rfl <| OF rfl rfl h3 rfl <| OF rfl rfl h3 rfl <| OF rfl rfl h3 rfl <| PT rfl rfl h3 rfl <| ND <| CT rfl rfl <| SQ <| RG <| AS rfl rfl <| ND <| ret_cv Try.func193 (res1 Try.func193 rfl (rv_tmp rfl)) <| ?_
          rw [isBuffer_s x hb1]; rw [hI, hd3]; simp [bufS, maxQuic, h2, hse5]
        · have hse6 := str_empty h3
          refine ON rfl rfl h3 <| FA rfl tyF_impl_Chunk_0 rfl <| ON rfl rfl h3 <| LD (i := 0) rfl tyP_int rfl rfl rfl <| ON rfl rfl h3 <| FA rfl tyF_impl_Chunk_1 rfl <| ON rfl rfl h3 <| LD (i := 0) rfl tyP_string rfl rfl rfl <| ON rfl rfl h3 <| rw_lenS rfl (by kernel_rfl) rfl <| ON rfl rfl h3 <| rw_sub rfl rfl rfl <| ON rfl rfl h3 <| rw_gtr rfl rfl rfl <| PF rfl rfl h3 rfl <| ND <| ?_
          refine gw_cond rfl (fun h4 => ?_) (fun h4 => ?_)
          · refine SQ <| RG <| AS rfl rfl <| ND <| ret_cv Try.func193 (res1 Try.func193 rfl (rv_tmp rfl)) <| ?_
            rw [isBuffer_s x hb1]; rw [hI, hd3]; simp [bufS, maxQuic, h2, hse6, h4]
          · refine SK <| RG <| FA rfl tyF_impl_Chunk_0 rfl <| LD (i := 0) rfl tyP_int rfl rfl rfl <| FA rfl tyF_impl_Chunk_1 rfl <| LD (i := 0) rfl tyP_string rfl rfl rfl <| rw_lenS rfl (by kernel_rfl) rfl <| rw_add rfl rfl rfl <| AS rfl rfl <| ND <| IB <| RG <| MV rfl rfl <| rw_add rfl rfl rfl <| AS rfl rfl <| ND <| gw_dropN 1 <| ?_
            refine gw_sub (Sub.consE (i := 4) rfl (int_succ (by omega)) (Sub.consE (i := 3) rfl rfl (Sub.cons (i := 1) rfl (Sub.nil _)))) (ih1 (i + 1, chunkEnd x3) ?_ ?_)
            · exact ⟨by omega, by rw [hI, hd3]; simp [bufS, maxQuic, h2, hse6, h4]⟩
            · show x.chunks.length - (i + 1) < x.chunks.length - i; omega
    · have hn7 := nil_of_dec h1
      refine EX rfl <| SQ <| RG <| FA rfl tyF_impl_Buffer_0 rfl <| LD (i := 0) rfl tyP_int rfl rfl rfl <| CV1 rfl fun_spec_l4Quic rfl (fun w hs => spec_l4Quic _ w) <| AS rfl rfl <| ND <| ret_cv Try.func193 (res1 Try.func193 rfl (rv_tmp rfl)) <| ?_
      rw [isBuffer_s x hb1]; rw [hI, hn7]; rfl

theorem spec_EndOf {w : World} {cs : List Value} {x : Buffer} (hv : RdBuffer w cs x) (hb : x.le 1048576) : CV Try.prog 194 [.agg cs.toArray] w (.int .i64 (endOf x)) := by
  obtain ⟨v0, rfl, k0⟩ := hv
  obtain ⟨A0, c0, rfl, hA0⟩ := k0
  obtain ⟨hb0, hb1⟩ := hb
  refine cv_of Try.func194 rfl rfl rfl <| SQ <| RG <| BX [_, _] rfl rfl rfl <| fun b1 => AS rfl rfl <| ND <| SQ <| SQ <| RG <| FA rfl tyF_impl_Buffer_1 rfl <| LD (i := 0) rfl tyP_S_impl_Chunk rfl rfl rfl <| rw_len rfl tyE_S_impl_Chunk rfl <| EQ1 rfl rfl rfl <| MV rfl rfl <| ?_
  refine rw_case (j := 8) rfl (fun h1 => ?_) (fun h1 => ?_)
  · have hnil1 := nil_of_eq h1
    refine OF rfl rfl h1 rfl <| OF rfl rfl h1 rfl <| OF rfl rfl h1 rfl <| PT rfl rfl h1 rfl <| ND <| CT rfl rfl <| SQ <| RG <| FA rfl tyF_impl_Buffer_0 rfl <| LD (i := 0) rfl tyP_int rfl rfl rfl <| AS rfl rfl <| ND <| ret_cv Try.func194 (res1 Try.func194 rfl (rv_tmp rfl)) <| ?_
    simp [endOf, hnil1]
  · have hpos2 := pos_of_ne h1
    refine ON rfl rfl h1 <| LS (i := 0) [_, _] rfl tyS_impl_Buffer rfl rfl rfl rfl <| ON rfl rfl h1 <| CV1 rfl fun_spec_IsBuffer rfl (fun w hs => spec_IsBuffer ⟨_, rfl, (hA0.s Pl.keeps hs)⟩ ⟨hb0, hb1⟩) <| ON rfl rfl h1 <| NT rfl rfl <| PF rfl rfl h1 rfl <| ND <| ?_
    refine gw_cond rfl (fun h2 => ?_) (fun h2 => ?_)
    · replace h2 := of_not_T h2
      refine SQ <| RG <| FA rfl tyF_impl_Buffer_0 rfl <| LD (i := 0) rfl tyP_int rfl rfl rfl <| AS rfl rfl <| ND <| ret_cv Try.func194 (res1 Try.func194 rfl (rv_tmp rfl)) <| ?_
      simp [endOf, chunkEnd, h2]
    · replace h2 := of_not_F h2
      refine SK <| SQ <| RG <| FA rfl tyF_impl_Buffer_1 rfl <| LD (i := 0) rfl tyP_S_impl_Chunk rfl rfl rfl <| FA rfl tyF_impl_Buffer_1 rfl <| LD (i := 0) rfl tyP_S_impl_Chunk rfl rfl rfl <| rw_len rfl tyE_S_impl_Chunk rfl <| rw_sub rfl rfl rfl <| ?_
      have hi3 : x.chunks.length - 1 < x.chunks.length := by omega
      obtain ⟨x4, hx4⟩ := get_of_lt hi3
      have hd4 := drop_cons hx4
      have hq5 := hA0.plain hx4
      refine rw_indexAddr (x.chunks.length - 1) rfl tyE_S_impl_Chunk rfl rfl (lenpred_of (by omega) (by omega)) (hA0.some hi3) hi3 <| rw_loadX_s [_, _] rfl tyS_impl_Chunk rfl rfl (fun w hs => hq5.lds0 (n := 2) hs rfl) <| AL rfl tyZ_impl_Chunk <| fun b2 => ST (i := 0) [_, _] [_, _] tyS_impl_Chunk.sz rfl rfl rfl rfl rfl rfl rfl rfl <| ND <| SQ <| RG <| FA rfl tyF_impl_Chunk_0 rfl <| LD (i := 0) rfl tyP_int rfl rfl rfl <| FA rfl tyF_impl_Chunk_1 rfl <| LD (i := 0) rfl tyP_string rfl rfl rfl <| rw_lenS rfl (by kernel_rfl) rfl <| rw_add rfl rfl rfl <| ?_
      refine AS rfl rfl <| ND <| ret_cv Try.func194 (res1 Try.func194 rfl (rv_tmp rfl)) <| ?_
      simp [endOf, chunkEnd, h2, hx4]

theorem spec_ReadyBytes {w : World} {cs : List Value} {x : Buffer} (hv : RdBuffer w cs x) (hb : x.le 1048576) : CV Try.prog 195 [.agg cs.toArray] w (.int .i64 (readyBytes x)) := by
  obtain ⟨v0, rfl, k0⟩ := hv
  obtain ⟨A0, c0, rfl, hA0⟩ := k0
  obtain ⟨hb0, hb1⟩ := hb
  refine cv_of Try.func195 rfl rfl rfl <| SQ <| RG <| BX [_, _] rfl rfl rfl <| fun b1 => AS rfl rfl <| ND <| SQ <| SQ <| gw_draw' [(0, .det), (1, .det), (2, .det), (3, .det), (4, .det), (5, .det), (6, .det), (7, .det), (8, .det), (9, .det), (10, .det), (11, .det), (12, .det), (13, .det), (14, .det), (15, .det), (16, .det)] [17, 18] mixed rfl (free_det (free_det (free_det (free_det (free_det (free_det (free_det (free_det (free_det (free_det (free_det (free_det (free_det (free_det (free_det (free_det (free_det free_nil))))))))))))))))) (ts := [_, _]) rfl <| DT rfl rfl (fun K hk => LS (i := 0) [_, _] rfl tyS_impl_Buffer rfl rfl rfl rfl hk) <| ?_
  refine DT rfl rfl (fun K hk => CV1 rfl fun_spec_IsBuffer rfl (fun w hs => spec_IsBuffer ⟨_, rfl, (hA0.s Pl.keeps hs)⟩ ⟨hb0, hb1⟩) hk) <| DT rfl rfl (fun K hk => NT rfl rfl hk) <| DT rfl rfl (fun K hk => MV rfl rfl hk) <| ?_
  refine dw_case (i := 6) rfl (fun h1 => ?_) (fun h1 => ?_)
  · replace h1 := of_not_T h1
    refine DT rfl rfl (fun K hk => OF rfl rfl (not_F h1) rfl hk) <| DT rfl rfl (fun K hk => OF rfl rfl (not_F h1) rfl hk) <| DT rfl rfl (fun K hk => OF rfl rfl (not_F h1) rfl hk) <| DT rfl rfl (fun K hk => OF rfl rfl (not_F h1) rfl hk) <| DT rfl rfl (fun K hk => PT rfl rfl (not_F h1) rfl hk) <| DT rfl rfl (fun K hk => MV rfl rfl hk) <| DT rfl rfl (fun K hk => OF rfl rfl rfl rfl hk) <| DT rfl rfl (fun K hk => OF rfl rfl rfl rfl hk) <| DT rfl rfl (fun K hk => OF rfl rfl rfl rfl hk) <| DT rfl rfl (fun K hk => OF rfl rfl rfl rfl hk) <| ?_
    refine DT rfl rfl (fun K hk => OF rfl rfl rfl rfl hk) <| DT rfl rfl (fun K hk => OF rfl rfl rfl rfl hk) <| DT rfl rfl (fun K hk => OF rfl rfl rfl rfl hk) <| dw_nil <| OF rfl rfl rfl rfl <| PT rfl rfl rfl rfl <| ND <| CT rfl rfl <| SQ <| RG <| AS rfl rfl <| ND <| ret_cv Try.func195 (res1 Try.func195 rfl (rv_tmp rfl)) <| ?_
    simp [readyBytes, h1]
  · replace h1 := of_not_F h1
    refine DT rfl rfl (fun K hk => ON rfl rfl (not_T h1) (FA rfl tyF_impl_Buffer_1 rfl hk)) <| DT rfl rfl (fun K hk => ON rfl rfl (not_T h1) (LD (i := 0) rfl tyP_S_impl_Chunk rfl rfl rfl hk)) <| DT rfl rfl (fun K hk => ON rfl rfl (not_T h1) (rw_len rfl tyE_S_impl_Chunk rfl hk)) <| DT rfl rfl (fun K hk => ON rfl rfl (not_T h1) (EQ1 rfl rfl rfl hk)) <| DT rfl rfl (fun K hk => PF rfl rfl (not_T h1) rfl hk) <| DT rfl rfl (fun K hk => MV rfl rfl hk) <| ?_
    refine dw_case (i := 12) rfl (fun h2 => ?_) (fun h2 => ?_)
    · have hnil1 := nil_of_eq h2
      refine DT rfl rfl (fun K hk => OF rfl rfl h2 rfl hk) <| DT rfl rfl (fun K hk => OF rfl rfl h2 rfl hk) <| DT rfl rfl (fun K hk => OF rfl rfl h2 rfl hk) <| DT rfl rfl (fun K hk => OF rfl rfl h2 rfl hk) <| DT rfl rfl (fun K hk => OF rfl rfl h2 rfl hk) <| DT rfl rfl (fun K hk => OF rfl rfl h2 rfl hk) <| DT rfl rfl (fun K hk => OF rfl rfl h2 rfl hk) <| dw_nil <| OF rfl rfl h2 rfl <| PT rfl rfl h2 rfl <| ND <| CT rfl rfl <| SQ <| RG <| AS rfl rfl <| ND <| ret_cv Try.func195 (res1 Try.func195 rfl (rv_tmp rfl)) <| ?_
      simp [readyBytes, h1, hnil1]
    · have hpos2 := pos_of_ne h2
      refine DT rfl rfl (fun K hk => ON rfl rfl h2 (FA rfl tyF_impl_Buffer_1 rfl hk)) <| DT rfl rfl (fun K hk => ON rfl rfl h2 (LD (i := 0) rfl tyP_S_impl_Chunk rfl rfl rfl hk)) <| ?_
      have hi3 : 0 < x.chunks.length := by omega
      obtain ⟨x4, hx4⟩ := get_of_lt hi3
      have hd4 := drop_cons hx4
      have hq5 := hA0.plain hx4
      refine DT rfl rfl (fun K hk => ON rfl rfl h2 (rw_indexAddr (0) rfl tyE_S_impl_Chunk rfl rfl rfl (hA0.some hi3) hi3 hk)) <| DT rfl rfl (fun K hk => ON rfl rfl h2 (FX rfl tyF_impl_Chunk_0 rfl hk)) <| DT rfl rfl (fun K hk => ON rfl rfl h2 (rw_loadX _ rfl tyP_int rfl (fun w hs => hq5.ld hs rfl) hk)) <| DT rfl rfl (fun K hk => ON rfl rfl h2 (FA rfl tyF_impl_Buffer_0 rfl hk)) <| DT rfl rfl (fun K hk => ON rfl rfl h2 (LD (i := 0) rfl tyP_int rfl rfl rfl hk)) <| dw_nil <| ON rfl rfl h2 <| ?_
      refine rw_neq rfl rfl rfl <| PF rfl rfl h2 rfl <| ND <| ?_
      refine gw_cond rfl (fun h3 => ?_) (fun h3 => ?_)
      · replace h3 := of_not_T h3
        refine SQ <| RG <| AS rfl rfl <| ND <| ret_cv Try.func195 (res1 Try.func195 rfl (rv_tmp rfl)) <| ?_
        simp [readyBytes, h1, h3, hx4]
      · replace h3 := of_not_F h3
        refine SK <| SQ <| RG <| FA rfl tyF_impl_Buffer_1 rfl <| LD (i := 0) rfl tyP_S_impl_Chunk rfl rfl rfl <| rw_indexAddr (0) rfl tyE_S_impl_Chunk rfl rfl rfl (hA0.some hi3) hi3 <| FX rfl tyF_impl_Chunk_1 rfl <| rw_loadX _ rfl tyP_string rfl (fun w hs => hq5.ld hs rfl) <| rw_lenS rfl (by kernel_rfl) rfl <| AS rfl rfl <| ND <| ret_cv Try.func195 (res1 Try.func195 rfl (rv_tmp rfl)) <| ?_
        simp [readyBytes, h1, h3, hx4]

set_option maxRecDepth 20000 in
theorem spec_IsReceiver {w : World} {cs : List Value} {x : Receiver} (hv : RdReceiver w cs x) (hb : x.le 1048576) : CV Try.prog 130 [.agg cs.toArray] w (.bool (isReceiver x)) := by
  obtain ⟨v0, rfl, k0⟩ := hv
  obtain ⟨A0, c0, rfl, hA0⟩ := k0
  obtain ⟨hb0, hb1⟩ := hb
  refine cv_of Try.func130 rfl rfl rfl <| SQ <| RG <| BX [_, _, _, _, _, _] rfl rfl rfl <| fun b1 => AS rfl rfl <| ND <| SQ <| SQ <| gw_draw' [(0, .det), (1, .det), (2, .det), (3, .det), (4, .det), (5, .det), (6, .det), (7, .det), (8, .det), (9, .det), (10, .det), (11, .det), (12, .det), (13, .det), (14, .det), (15, .det), (16, .det), (17, .det), (18, .det), (19, .det), (20, .det), (21, .det), (22, .det), (23, .det), (24, .det), (25, .det), (26, .det), (27, .det), (28, .det), (29, .det), (30, .det), (31, .det), (32, .det)] [33, 34, 35, 36, 37, 38, 39, 40, 41, 42, 43, 44, 45] mixed rfl (free_det (free_det (free_det (free_det (free_det (free_det (free_det (free_det (free_det (free_det (free_det (free_det (free_det (free_det (free_det (free_det (free_det (free_det (free_det (free_det (free_det (free_det (free_det (free_det (free_det (free_det (free_det (free_det (free_det (free_det (free_det (free_det (free_det free_nil))))))))))))))))))))))))))))))))) (ts := [_, _, _, _, _, _, _, _, _, _, _, _, _]) rfl <| ?_
  refine DT rfl rfl (fun K hk => FA rfl tyF_impl_Receiver_1 rfl hk) <| DT rfl rfl (fun K hk => LS (i := 0) [_, _] rfl tyS_impl_Buffer rfl rfl rfl rfl hk) <| DT rfl rfl (fun K hk => CV1 rfl fun_spec_IsBuffer rfl (fun w hs => spec_IsBuffer ⟨_, rfl, (hA0.s Pl.keeps hs)⟩ ⟨hb0, hb1⟩) hk) <| DT rfl rfl (fun K hk => NT rfl rfl hk) <| DT rfl rfl (fun K hk => MV rfl rfl hk) <| ?_
  refine dw_case (i := 8) rfl (fun h1 => ?_) (fun h1 => ?_)
  · replace h1 := of_not_T h1
    refine DT rfl rfl (fun K hk => OF rfl rfl (not_F h1) rfl hk) <| DT rfl rfl (fun K hk => OF rfl rfl (not_F h1) rfl hk) <| DT rfl rfl (fun K hk => OF rfl rfl (not_F h1) rfl hk) <| DT rfl rfl (fun K hk => OF rfl rfl (not_F h1) rfl hk) <| DT rfl rfl (fun K hk => PT rfl rfl (not_F h1) rfl hk) <| DT rfl rfl (fun K hk => MV rfl rfl hk) <| DT rfl rfl (fun K hk => OF rfl rfl rfl rfl hk) <| DT rfl rfl (fun K hk => OF rfl rfl rfl rfl hk) <| DT rfl rfl (fun K hk => OF rfl rfl rfl rfl hk) <| DT rfl rfl (fun K hk => OF rfl rfl rfl rfl hk) <| ?_
    refine DT rfl rfl (fun K hk => OF rfl rfl rfl rfl hk) <| DT rfl rfl (fun K hk => OF rfl rfl rfl rfl hk) <| DT rfl rfl (fun K hk => PT rfl rfl rfl rfl hk) <| DT rfl rfl (fun K hk => MV rfl rfl hk) <| DT rfl rfl (fun K hk => OF rfl rfl rfl rfl hk) <| DT rfl rfl (fun K hk => OF rfl rfl rfl rfl hk) <| DT rfl rfl (fun K hk => OF rfl rfl rfl rfl hk) <| DT rfl rfl (fun K hk => OF rfl rfl rfl rfl hk) <| DT rfl rfl (fun K hk => PT rfl rfl rfl rfl hk) <| DT rfl rfl (fun K hk => MV rfl rfl hk) <| ?_
    refine DT rfl rfl (fun K hk => OF rfl rfl rfl rfl hk) <| DT rfl rfl (fun K hk => OF rfl rfl rfl rfl hk) <| DT rfl rfl (fun K hk => OF rfl rfl rfl rfl hk) <| DT rfl rfl (fun K hk => OF rfl rfl rfl rfl hk) <| DT rfl rfl (fun K hk => OU rfl rfl rfl hk) <| DT rfl rfl (fun K hk => OU rfl rfl rfl hk) <| DT rfl rfl (fun K hk => OU rfl rfl rfl hk) <| DT rfl rfl (fun K hk => OU rfl rfl rfl hk) <| dw_nil <| OU rfl rfl rfl <| OF rfl rfl rfl rfl <| PT rfl rfl rfl rfl <| MV rfl rfl <| ?_
    refine OF rfl rfl rfl rfl <| OF rfl rfl rfl rfl <| OF rfl rfl rfl rfl <| PT rfl rfl rfl rfl <| MV rfl rfl <| OF rfl rfl rfl rfl <| OF rfl rfl rfl rfl <| OF rfl rfl rfl rfl <| PT rfl rfl rfl rfl <| ND <| CT rfl rfl <| SQ <| RG <| AS rfl rfl <| ND <| ret_cv Try.func130 (res1 Try.func130 rfl (rv_tmp rfl)) <| ?_
    rw [isReceiver_s]
    simp [isReceiverS, maxQuic, h1]
  · replace h1 := of_not_F h1
    refine DT rfl rfl (fun K hk => ON rfl rfl (not_T h1) (FA rfl tyF_impl_Receiver_3 rfl hk)) <| DT rfl rfl (fun K hk => ON rfl rfl (not_T h1) (LD (i := 0) rfl tyP_int rfl rfl rfl hk)) <| DT rfl rfl (fun K hk => ON rfl rfl (not_T h1) (CV1 rfl fun_spec_l4Quic rfl (fun w hs => spec_l4Quic _ w) hk)) <| DT rfl rfl (fun K hk => ON rfl rfl (not_T h1) (NT rfl rfl hk)) <| DT rfl rfl (fun K hk => PF rfl rfl (not_T h1) rfl hk) <| DT rfl rfl (fun K hk => MV rfl rfl hk) <| ?_
    refine dw_case (i := 14) rfl (fun h2 => ?_) (fun h2 => ?_)
    · replace h2 := of_not_T h2
      refine DT rfl rfl (fun K hk => OF rfl rfl (not_F h2) rfl hk) <| DT rfl rfl (fun K hk => OF rfl rfl (not_F h2) rfl hk) <| DT rfl rfl (fun K hk => OF rfl rfl (not_F h2) rfl hk) <| DT rfl rfl (fun K hk => OF rfl rfl (not_F h2) rfl hk) <| DT rfl rfl (fun K hk => OF rfl rfl (not_F h2) rfl hk) <| DT rfl rfl (fun K hk => OF rfl rfl (not_F h2) rfl hk) <| DT rfl rfl (fun K hk => PT rfl rfl (not_F h2) rfl hk) <| DT rfl rfl (fun K hk => MV rfl rfl hk) <| DT rfl rfl (fun K hk => OF rfl rfl rfl rfl hk) <| ?_
      refine DT rfl rfl (fun K hk => OF rfl rfl rfl rfl hk) <| DT rfl rfl (fun K hk => OF rfl rfl rfl rfl hk) <| DT rfl rfl (fun K hk => OF rfl rfl rfl rfl hk) <| DT rfl rfl (fun K hk => PT rfl rfl rfl rfl hk) <| DT rfl rfl (fun K hk => MV rfl rfl hk) <| DT rfl rfl (fun K hk => OF rfl rfl rfl rfl hk) <| DT rfl rfl (fun K hk => OF rfl rfl rfl rfl hk) <| DT rfl rfl (fun K hk => OF rfl rfl rfl rfl hk) <| DT rfl rfl (fun K hk => OF rfl rfl rfl rfl hk) <| DT rfl rfl (fun K hk => OU rfl rfl rfl hk) <| ?_
      refine DT rfl rfl (fun K hk => OU rfl rfl rfl hk) <| DT rfl rfl (fun K hk => OU rfl rfl rfl hk) <| DT rfl rfl (fun K hk => OU rfl rfl rfl hk) <| dw_nil <| OU rfl rfl rfl <| OF rfl rfl rfl rfl <| PT rfl rfl rfl rfl <| MV rfl rfl <| OF rfl rfl rfl rfl <| OF rfl rfl rfl rfl <| OF rfl rfl rfl rfl <| PT rfl rfl rfl rfl <| MV rfl rfl <| OF rfl rfl rfl rfl <| OF rfl rfl rfl rfl <| OF rfl rfl rfl rfl <| PT rfl rfl rfl rfl <| ND <| CT rfl rfl <| SQ <| RG <| ?_
      refine AS rfl rfl <| ND <| ret_cv Try.func130 (res1 Try.func130 rfl (rv_tmp rfl)) <| ?_
      rw [isReceiver_s]
      simp [isReceiverS, maxQuic, h1, h2]
    · replace h2 := of_not_F h2
      refine DT rfl rfl (fun K hk => ON rfl rfl (not_T h2) (FA rfl tyF_impl_Receiver_1 rfl hk)) <| DT rfl rfl (fun K hk => ON rfl rfl (not_T h2) (LS (i := 0) [_, _] rfl tyS_impl_Buffer rfl rfl rfl rfl hk)) <| DT rfl rfl (fun K hk => ON rfl rfl (not_T h2) (CV1 rfl fun_spec_EndOf rfl (fun w hs => spec_EndOf ⟨_, rfl, (hA0.s Pl.keeps hs)⟩ ⟨hb0, hb1⟩) hk)) <| DT rfl rfl (fun K hk => ON rfl rfl (not_T h2) (FA rfl tyF_impl_Receiver_3 rfl hk)) <| DT rfl rfl (fun K hk => ON rfl rfl (not_T h2) (LD (i := 0) rfl tyP_int rfl rfl rfl hk)) <| ?_
      refine DT rfl rfl (fun K hk => ON rfl rfl (not_T h2) (rw_gtr rfl rfl rfl hk)) <| DT rfl rfl (fun K hk => PF rfl rfl (not_T h2) rfl hk) <| DT rfl rfl (fun K hk => MV rfl rfl hk) <| ?_
      refine dw_case (i := 22) rfl (fun h3 => ?_) (fun h3 => ?_)
      · refine DT rfl rfl (fun K hk => OF rfl rfl h3 rfl hk) <| DT rfl rfl (fun K hk => OF rfl rfl h3 rfl hk) <| DT rfl rfl (fun K hk => OF rfl rfl h3 rfl hk) <| DT rfl rfl (fun K hk => OF rfl rfl h3 rfl hk) <| DT rfl rfl (fun K hk => PT rfl rfl h3 rfl hk) <| DT rfl rfl (fun K hk => MV rfl rfl hk) <| DT rfl rfl (fun K hk => OF rfl rfl rfl rfl hk) <| DT rfl rfl (fun K hk => OF rfl rfl rfl rfl hk) <| DT rfl rfl (fun K hk => OF rfl rfl rfl rfl hk) <| DT rfl rfl (fun K hk => OF rfl rfl rfl rfl hk) <| ?_
        refine DT rfl rfl (fun K hk => OU rfl rfl rfl hk) <| DT rfl rfl (fun K hk => OU rfl rfl rfl hk) <| DT rfl rfl (fun K hk => OU rfl rfl rfl hk) <| DT rfl rfl (fun K hk => OU rfl rfl rfl hk) <| dw_nil <| OU rfl rfl rfl <| OF rfl rfl rfl rfl <| PT rfl rfl rfl rfl <| MV rfl rfl <| OF rfl rfl rfl rfl <| OF rfl rfl rfl rfl <| OF rfl rfl rfl rfl <| PT rfl rfl rfl rfl <| MV rfl rfl <| OF rfl rfl rfl rfl <| OF rfl rfl rfl rfl <| OF rfl rfl rfl rfl <| PT rfl rfl rfl rfl <| ?_
        refine ND <| CT rfl rfl <| SQ <| RG <| AS rfl rfl <| ND <| ret_cv Try.func130 (res1 Try.func130 rfl (rv_tmp rfl)) <| ?_
        rw [isReceiver_s]
        simp [isReceiverS, maxQuic, h1, h2, h3]
      · refine DT rfl rfl (fun K hk => ON rfl rfl h3 (FA rfl tyF_impl_Receiver_4 rfl hk)) <| DT rfl rfl (fun K hk => ON rfl rfl h3 (LD (i := 0) rfl tyP_int rfl rfl rfl hk)) <| DT rfl rfl (fun K hk => ON rfl rfl h3 (CV1 rfl fun_spec_l4Quic rfl (fun w hs => spec_l4Quic _ w) hk)) <| DT rfl rfl (fun K hk => ON rfl rfl h3 (NT rfl rfl hk)) <| DT rfl rfl (fun K hk => PF rfl rfl h3 rfl hk) <| DT rfl rfl (fun K hk => MV rfl rfl hk) <| ?_
        refine dw_case (i := 28) rfl (fun h4 => ?_) (fun h4 => ?_)
        · replace h4 := of_not_T h4
          refine DT rfl rfl (fun K hk => OF rfl rfl (not_F h4) rfl hk) <| DT rfl rfl (fun K hk => OF rfl rfl (not_F h4) rfl hk) <| DT rfl rfl (fun K hk => OF rfl rfl (not_F h4) rfl hk) <| DT rfl rfl (fun K hk => OF rfl rfl (not_F h4) rfl hk) <| DT rfl rfl (fun K hk => OU rfl rfl rfl hk) <| DT rfl rfl (fun K hk => OU rfl rfl rfl hk) <| DT rfl rfl (fun K hk => OU rfl rfl rfl hk) <| DT rfl rfl (fun K hk => OU rfl rfl rfl hk) <| dw_nil <| OU rfl rfl rfl <| OF rfl rfl (not_F h4) rfl <| PT rfl rfl (not_F h4) rfl <| ?_
          refine MV rfl rfl <| OF rfl rfl rfl rfl <| OF rfl rfl rfl rfl <| OF rfl rfl rfl rfl <| PT rfl rfl rfl rfl <| MV rfl rfl <| OF rfl rfl rfl rfl <| OF rfl rfl rfl rfl <| OF rfl rfl rfl rfl <| PT rfl rfl rfl rfl <| ND <| CT rfl rfl <| SQ <| RG <| AS rfl rfl <| ND <| ret_cv Try.func130 (res1 Try.func130 rfl (rv_tmp rfl)) <| ?_
          rw [isReceiver_s]
          simp [isReceiverS, maxQuic, h1, h2, h3, h4]
        · replace h4 := of_not_F h4
          refine DT rfl rfl (fun K hk => ON rfl rfl (not_T h4) (FA rfl tyF_impl_Receiver_2 rfl hk)) <| DT rfl rfl (fun K hk => ON rfl rfl (not_T h4) (LD (i := 0) rfl tyP_int rfl rfl rfl hk)) <| DT rfl rfl (fun K hk => ON rfl rfl (not_T h4) (rw_neq rfl rfl rfl hk)) <| DT rfl rfl (fun K hk => ON rfl rfl (not_T h4) (MV rfl rfl hk)) <| ?_
          refine dw_case (i := 32) rfl (fun h5 => ?_) (fun h5 => ?_)
          · replace h5 := of_not_T h5
            refine DT rfl rfl (fun K hk => ON rfl rfl (not_F h5) (FA rfl tyF_impl_Receiver_2 rfl hk)) <| DT rfl rfl (fun K hk => ON rfl rfl (not_F h5) (LD (i := 0) rfl tyP_int rfl rfl rfl hk)) <| DT rfl rfl (fun K hk => ON rfl rfl (not_F h5) (FA rfl tyF_impl_Receiver_3 rfl hk)) <| DT rfl rfl (fun K hk => ON rfl rfl (not_F h5) (LD (i := 0) rfl tyP_int rfl rfl rfl hk)) <| dw_nil <| ON rfl rfl (not_F h5) <| rw_lss rfl rfl rfl <| ON rfl rfl (not_T h4) <| PT rfl rfl (not_F h5) rfl <| ?_
            refine PF rfl rfl (not_T h4) rfl <| MV rfl rfl <| ?_
            refine rw_case (j := 40) rfl (fun h6 => ?_) (fun h6 => ?_)
            · refine OF rfl rfl h6 rfl <| OF rfl rfl h6 rfl <| OF rfl rfl h6 rfl <| PT rfl rfl h6 rfl <| MV rfl rfl <| OF rfl rfl rfl rfl <| OF rfl rfl rfl rfl <| OF rfl rfl rfl rfl <| PT rfl rfl rfl rfl <| ND <| CT rfl rfl <| SQ <| RG <| AS rfl rfl <| ND <| ret_cv Try.func130 (res1 Try.func130 rfl (rv_tmp rfl)) <| ?_
              rw [isReceiver_s]
              simp [isReceiverS, maxQuic, h1, h2, h3, h4, h5, h6]
            · refine ON rfl rfl h6 <| FA rfl tyF_impl_Receiver_2 rfl <| ON rfl rfl h6 <| LD (i := 0) rfl tyP_int rfl rfl rfl <| ON rfl rfl h6 <| rw_gtr rfl rfl rfl <| PF rfl rfl h6 rfl <| MV rfl rfl <| ?_
              refine rw_case (j := 45) rfl (fun h7 => ?_) (fun h7 => ?_)
              · refine OF rfl rfl h7 rfl <| OF rfl rfl h7 rfl <| OF rfl rfl h7 rfl <| PT rfl rfl h7 rfl <| ND <| CT rfl rfl <| SQ <| RG <| AS rfl rfl <| ND <| ret_cv Try.func130 (res1 Try.func130 rfl (rv_tmp rfl)) <| ?_
                rw [isReceiver_s]
                simp [isReceiverS, maxQuic, h1, h2, h3, h4, h5, h6, h7]
              · refine ON rfl rfl h7 <| FA rfl tyF_impl_Receiver_2 rfl <| ON rfl rfl h7 <| LD (i := 0) rfl tyP_int rfl rfl rfl <| ON rfl rfl h7 <| rw_lss rfl rfl rfl <| PF rfl rfl h7 rfl <| ND <| ?_
                refine gw_cond rfl (fun h8 => ?_) (fun h8 => ?_)
                · refine SQ <| RG <| AS rfl rfl <| ND <| ret_cv Try.func130 (res1 Try.func130 rfl (rv_tmp rfl)) <| ?_
                  rw [isReceiver_s]
                  simp [isReceiverS, maxQuic, h1, h2, h3, h4, h5, h6, h7, h8]
                · refine SK <| SQ <| gw_draw' [(0, .det), (1, .det), (2, .det), (3, .det), (4, .det), (5, .det), (6, .det), (7, .det), (8, .det), (9, .det), (10, .det), (11, .det), (12, .det)] [13, 14, 15] mixed rfl (free_det (free_det (free_det (free_det (free_det (free_det (free_det (free_det (free_det (free_det (free_det (free_det (free_det free_nil))))))))))))) (ts := [_, _, _]) rfl <| DT rfl rfl (fun K hk => FA rfl tyF_impl_Receiver_2 rfl hk) <| DT rfl rfl (fun K hk => LD (i := 0) rfl tyP_int rfl rfl rfl hk) <| DT rfl rfl (fun K hk => rw_neq rfl rfl rfl hk) <| DT rfl rfl (fun K hk => MV rfl rfl hk) <| ?_
                  refine dw_case (i := 53) rfl (fun h9 => ?_) (fun h9 => ?_)
                  · replace h9 := of_not_T h9
                    refine DT rfl rfl (fun K hk => ON rfl rfl (not_F h9) (FA rfl tyF_impl_Receiver_1 rfl hk)) <| DT rfl rfl (fun K hk => ON rfl rfl (not_F h9) (FA rfl tyF_impl_Buffer_0 rfl hk)) <| DT rfl rfl (fun K hk => ON rfl rfl (not_F h9) (LD (i := 0) rfl tyP_int rfl rfl rfl hk)) <| DT rfl rfl (fun K hk => ON rfl rfl (not_F h9) (FA rfl tyF_impl_Receiver_1 rfl hk)) <| DT rfl rfl (fun K hk => ON rfl rfl (not_F h9) (LS (i := 0) [_, _] rfl tyS_impl_Buffer rfl rfl rfl rfl hk)) <| ?_
                    refine DT rfl rfl (fun K hk => ON rfl rfl (not_F h9) (CV1 rfl fun_spec_ReadyBytes rfl (fun w hs => spec_ReadyBytes ⟨_, rfl, (hA0.s Pl.keeps hs)⟩ ⟨hb0, hb1⟩) hk)) <| DT rfl rfl (fun K hk => ON rfl rfl (not_F h9) (rw_add rfl rfl rfl hk)) <| DT rfl rfl (fun K hk => ON rfl rfl (not_F h9) (FA rfl tyF_impl_Receiver_2 rfl hk)) <| DT rfl rfl (fun K hk => ON rfl rfl (not_F h9) (LD (i := 0) rfl tyP_int rfl rfl rfl hk)) <| dw_nil <| ON rfl rfl (not_F h9) <| EQ1 rfl rfl rfl <| PT rfl rfl (not_F h9) rfl <| ?_
                    refine AS rfl rfl <| ND <| SQ <| SQ <| RG <| FA rfl tyF_impl_Receiver_0 rfl <| LD (i := 0) rfl tyP_int rfl rfl rfl <| ND <| BK <| SQ <| RG <| EQ1 rfl rfl rfl <| AS rfl rfl <| ND <| ?_
                    refine gw_cond rfl (fun h10 => ?_) (fun h10 => ?_)
                    · refine SQ <| RG <| FA rfl tyF_impl_Receiver_2 rfl <| LD (i := 0) rfl tyP_int rfl rfl rfl <| EQ1 rfl rfl rfl <| MV rfl rfl <| ?_
                      refine rw_case (j := 72) rfl (fun h11 => ?_) (fun h11 => ?_)
                      · refine ON rfl rfl h11 <| FA rfl tyF_impl_Receiver_4 rfl <| ON rfl rfl h11 <| LD (i := 0) rfl tyP_int rfl rfl rfl <| ON rfl rfl h11 <| EQ1 rfl rfl rfl <| PT rfl rfl h11 rfl <| AS rfl rfl <| ND <| ret_cv Try.func130 (res1 Try.func130 rfl (rv_tmp rfl)) <| ?_
                        rw [isReceiver_s]
                        simp_all []
                      · refine OF rfl rfl h11 rfl <| OF rfl rfl h11 rfl <| OF rfl rfl h11 rfl <| PF rfl rfl h11 rfl <| AS rfl rfl <| ND <| ret_cv Try.func130 (res1 Try.func130 rfl (rv_tmp rfl)) <| ?_
                        rw [isReceiver_s]
                        simp [isReceiverS, maxQuic, h1, h2, h3, h4, h5, h6, h7, h8, h10]
                    · refine SQ <| RG <| EQ1 rfl rfl rfl <| AS rfl rfl <| ND <| ?_
                      refine gw_cond rfl (fun h12 => ?_) (fun h12 => ?_)
                      · refine SQ <| RG <| FA rfl tyF_impl_Receiver_2 rfl <| LD (i := 0) rfl tyP_int rfl rfl rfl <| rw_neq rfl rfl rfl <| MV rfl rfl <| ?_
                        refine rw_case (j := 82) rfl (fun h13 => ?_) (fun h13 => ?_)
                        · replace h13 := of_not_T h13
                          refine ON rfl rfl (not_F h13) <| MV rfl rfl <| ON rfl rfl (not_F h13) <| NT rfl rfl <| PT rfl rfl (not_F h13) rfl <| MV rfl rfl <| ?_
                          refine rw_case (j := 86) rfl (fun h14 => ?_) (fun h14 => ?_)
                          · replace h14 := of_not_T h14
                            refine ON rfl rfl (not_F h14) <| FA rfl tyF_impl_Receiver_4 rfl <| ON rfl rfl (not_F h14) <| LD (i := 0) rfl tyP_int rfl rfl rfl <| ON rfl rfl (not_F h14) <| EQ1 rfl rfl rfl <| PT rfl rfl (not_F h14) rfl <| AS rfl rfl <| ND <| ret_cv Try.func130 (res1 Try.func130 rfl (rv_tmp rfl)) <| ?_
                            rw [isReceiver_s]
                            simp [isReceiverS, maxQuic, h1, h2, h3, h4, h5, h6, h7, h8, h10, h12, h14]
                          · replace h14 := of_not_F h14
                            refine OF rfl rfl (not_T h14) rfl <| OF rfl rfl (not_T h14) rfl <| OF rfl rfl (not_T h14) rfl <| PF rfl rfl (not_T h14) rfl <| AS rfl rfl <| ND <| ret_cv Try.func130 (res1 Try.func130 rfl (rv_tmp rfl)) <| ?_
                            rw [isReceiver_s]
                            simp [isReceiverS, maxQuic, h1, h2, h3, h4, h5, h6, h7, h8, h10, h12, h14]
                        · replace h13 := of_not_F h13
                          refine OF rfl rfl (not_T h13) rfl <| OF rfl rfl (not_T h13) rfl <| PF rfl rfl (not_T h13) rfl <| MV rfl rfl <| OF rfl rfl rfl rfl <| OF rfl rfl rfl rfl <| OF rfl rfl rfl rfl <| PF rfl rfl rfl rfl <| AS rfl rfl <| ND <| ret_cv Try.func130 (res1 Try.func130 rfl (rv_tmp rfl)) <| ?_
                          rw [isReceiver_s]
                          simp_all []
                      · refine SQ <| RG <| EQ1 rfl rfl rfl <| AS rfl rfl <| ND <| ?_
                        refine gw_cond rfl (fun h15 => ?_) (fun h15 => ?_)
                        · refine SQ <| RG <| MV rfl rfl <| MV rfl rfl <| ?_
                          refine rw_case (j := 94) rfl (fun h16 => ?_) (fun h16 => ?_)
                          · refine ON rfl rfl h16 <| FA rfl tyF_impl_Receiver_4 rfl <| ON rfl rfl h16 <| LD (i := 0) rfl tyP_int rfl rfl rfl <| ON rfl rfl h16 <| EQ1 rfl rfl rfl <| PT rfl rfl h16 rfl <| AS rfl rfl <| ND <| ret_cv Try.func130 (res1 Try.func130 rfl (rv_tmp rfl)) <| ?_
                            rw [isReceiver_s]
                            simp [isReceiverS, maxQuic, h1, h2, h3, h4, h5, h6, h7, h8, h10, h12, h15, h16]
                          · refine OF rfl rfl h16 rfl <| OF rfl rfl h16 rfl <| OF rfl rfl h16 rfl <| PF rfl rfl h16 rfl <| AS rfl rfl <| ND <| ret_cv Try.func130 (res1 Try.func130 rfl (rv_tmp rfl)) <| ?_
                            rw [isReceiver_s]
                            simp [isReceiverS, maxQuic, h1, h2, h3, h4, h5, h6, h7, h8, h10, h12, h15, h16]
                        · refine SQ <| RG <| EQ1 rfl rfl rfl <| AS rfl rfl <| ND <| ?_
                          refine gw_cond rfl (fun h17 => ?_) (fun h17 => ?_)
                          · refine SQ <| RG <| MV rfl rfl <| MV rfl rfl <| ?_
                            refine rw_case (j := 102) rfl (fun h18 => ?_) (fun h18 => ?_)
                            · refine ON rfl rfl h18 <| FA rfl tyF_impl_Receiver_1 rfl <| ON rfl rfl h18 <| FA rfl tyF_impl_Buffer_1 rfl <| ON rfl rfl h18 <| LD (i := 0) rfl tyP_S_impl_Chunk rfl rfl rfl <| ON rfl rfl h18 <| rw_len rfl tyE_S_impl_Chunk rfl <| ON rfl rfl h18 <| EQ1 rfl rfl rfl <| PT rfl rfl h18 rfl <| MV rfl rfl <| ?_
                              refine rw_case (j := 109) rfl (fun h19 => ?_) (fun h19 => ?_)
                              · have hnil1 := nil_of_eq h19
                                refine ON rfl rfl h19 <| FA rfl tyF_impl_Receiver_4 rfl <| ON rfl rfl h19 <| LD (i := 0) rfl tyP_int rfl rfl rfl <| ON rfl rfl h19 <| EQ1 rfl rfl rfl <| PT rfl rfl h19 rfl <| AS rfl rfl <| ND <| ret_cv Try.func130 (res1 Try.func130 rfl (rv_tmp rfl)) <| ?_
                                rw [isReceiver_s]
                                simp [isReceiverS, maxQuic, h1, h2, h3, h4, h5, h6, h7, h8, h10, h12, h15, h17, h18, h19]
                              · have hpos2 := pos_of_ne h19
                                refine OF rfl rfl h19 rfl <| OF rfl rfl h19 rfl <| OF rfl rfl h19 rfl <| PF rfl rfl h19 rfl <| AS rfl rfl <| ND <| ret_cv Try.func130 (res1 Try.func130 rfl (rv_tmp rfl)) <| ?_
                                rw [isReceiver_s]
                                simp [isReceiverS, maxQuic, h1, h2, h3, h4, h5, h6, h7, h8, h10, h12, h15, h17, h18, h19]
                            · refine OF rfl rfl h18 rfl <| OF rfl rfl h18 rfl <| OF rfl rfl h18 rfl <| OF rfl rfl h18 rfl <| OF rfl rfl h18 rfl <| PF rfl rfl h18 rfl <| MV rfl rfl <| OF rfl rfl rfl rfl <| OF rfl rfl rfl rfl <| OF rfl rfl rfl rfl <| PF rfl rfl rfl rfl <| AS rfl rfl <| ND <| ret_cv Try.func130 (res1 Try.func130 rfl (rv_tmp rfl)) <| ?_
                              rw [isReceiver_s]
                              simp [isReceiverS, maxQuic, h1, h2, h3, h4, h5, h6, h7, h8, h10, h12, h15, h17, h18]
                          · refine SQ <| SQ <| RG <| EQ1 rfl rfl rfl <| AS rfl rfl <| ND <| ?_
                            refine gw_cond rfl (fun h20 => ?_) (fun h20 => ?_)
                            · refine SK <| CT rfl h20 <| SQ <| RG <| FA rfl tyF_impl_Receiver_2 rfl <| LD (i := 0) rfl tyP_int rfl rfl rfl <| rw_neq rfl rfl rfl <| MV rfl rfl <| ?_
                              refine rw_case (j := 120) rfl (fun h21 => ?_) (fun h21 => ?_)
                              · replace h21 := of_not_T h21
                                refine ON rfl rfl (not_F h21) <| FA rfl tyF_impl_Receiver_3 rfl <| ON rfl rfl (not_F h21) <| LD (i := 0) rfl tyP_int rfl rfl rfl <| ON rfl rfl (not_F h21) <| FA rfl tyF_impl_Receiver_2 rfl <| ON rfl rfl (not_F h21) <| LD (i := 0) rfl tyP_int rfl rfl rfl <| ON rfl rfl (not_F h21) <| EQ1 rfl rfl rfl <| PT rfl rfl (not_F h21) rfl <| MV rfl rfl <| ?_
                                refine rw_case (j := 127) rfl (fun h22 => ?_) (fun h22 => ?_)
                                · refine ON rfl rfl h22 <| FA rfl tyF_impl_Receiver_1 rfl <| ON rfl rfl h22 <| FA rfl tyF_impl_Buffer_1 rfl <| ON rfl rfl h22 <| LD (i := 0) rfl tyP_S_impl_Chunk rfl rfl rfl <| ON rfl rfl h22 <| rw_len rfl tyE_S_impl_Chunk rfl <| ON rfl rfl h22 <| EQ1 rfl rfl rfl <| PT rfl rfl h22 rfl <| AS rfl rfl <| ND <| ret_cv Try.func130 (res1 Try.func130 rfl (rv_tmp rfl)) <| ?_
                                  rw [isReceiver_s]
                                  simp [isReceiverS, maxQuic, h1, h2, h3, h4, h5, h6, h7, h8, h10, h12, h15, h17, h20, h22]
                                · refine OF rfl rfl h22 rfl <| OF rfl rfl h22 rfl <| OF rfl rfl h22 rfl <| OF rfl rfl h22 rfl <| OF rfl rfl h22 rfl <| PF rfl rfl h22 rfl <| AS rfl rfl <| ND <| ret_cv Try.func130 (res1 Try.func130 rfl (rv_tmp rfl)) <| ?_
                                  rw [isReceiver_s]
                                  simp [isReceiverS, maxQuic, h1, h2, h3, h4, h5, h6, h7, h8, h10, h12, h15, h17, h20, h22]
                              · replace h21 := of_not_F h21
                                refine OF rfl rfl (not_T h21) rfl <| OF rfl rfl (not_T h21) rfl <| OF rfl rfl (not_T h21) rfl <| OF rfl rfl (not_T h21) rfl <| OF rfl rfl (not_T h21) rfl <| PF rfl rfl (not_T h21) rfl <| MV rfl rfl <| OF rfl rfl rfl rfl <| OF rfl rfl rfl rfl <| OF rfl rfl rfl rfl <| OF rfl rfl rfl rfl <| OF rfl rfl rfl rfl <| PF rfl rfl rfl rfl <| AS rfl rfl <| ND <| ret_cv Try.func130 (res1 Try.func130 rfl (rv_tmp rfl)) <| ?_
                                rw [isReceiver_s]
                                simp_all []
                            · refine RG <| EQ1 rfl rfl rfl <| AS rfl rfl <| ND <| ?_
                              refine gw_cond rfl (fun h23 => ?_) (fun h23 => ?_)
                              · refine SQ <| RG <| FA rfl tyF_impl_Receiver_2 rfl <| LD (i := 0) rfl tyP_int rfl rfl rfl <| rw_neq rfl rfl rfl <| MV rfl rfl <| ?_
                                refine rw_case (j := 120) rfl (fun h24 => ?_) (fun h24 => ?_)
                                · replace h24 := of_not_T h24
                                  refine ON rfl rfl (not_F h24) <| FA rfl tyF_impl_Receiver_3 rfl <| ON rfl rfl (not_F h24) <| LD (i := 0) rfl tyP_int rfl rfl rfl <| ON rfl rfl (not_F h24) <| FA rfl tyF_impl_Receiver_2 rfl <| ON rfl rfl (not_F h24) <| LD (i := 0) rfl tyP_int rfl rfl rfl <| ON rfl rfl (not_F h24) <| EQ1 rfl rfl rfl <| PT rfl rfl (not_F h24) rfl <| MV rfl rfl <| ?_
                                  refine rw_case (j := 127) rfl (fun h25 => ?_) (fun h25 => ?_)
                                  · refine ON rfl rfl h25 <| FA rfl tyF_impl_Receiver_1 rfl <| ON rfl rfl h25 <| FA rfl tyF_impl_Buffer_1 rfl <| ON rfl rfl h25 <| LD (i := 0) rfl tyP_S_impl_Chunk rfl rfl rfl <| ON rfl rfl h25 <| rw_len rfl tyE_S_impl_Chunk rfl <| ON rfl rfl h25 <| EQ1 rfl rfl rfl <| PT rfl rfl h25 rfl <| AS rfl rfl <| ND <| ret_cv Try.func130 (res1 Try.func130 rfl (rv_tmp rfl)) <| ?_
                                    rw [isReceiver_s]
                                    simp [isReceiverS, maxQuic, h1, h2, h3, h4, h5, h6, h7, h8, h10, h12, h15, h17, h20, h23, h25]
                                  · refine OF rfl rfl h25 rfl <| OF rfl rfl h25 rfl <| OF rfl rfl h25 rfl <| OF rfl rfl h25 rfl <| OF rfl rfl h25 rfl <| PF rfl rfl h25 rfl <| AS rfl rfl <| ND <| ret_cv Try.func130 (res1 Try.func130 rfl (rv_tmp rfl)) <| ?_
                                    rw [isReceiver_s]
                                    simp [isReceiverS, maxQuic, h1, h2, h3, h4, h5, h6, h7, h8, h10, h12, h15, h17, h20, h23, h25]
                                · replace h24 := of_not_F h24
                                  refine OF rfl rfl (not_T h24) rfl <| OF rfl rfl (not_T h24) rfl <| OF rfl rfl (not_T h24) rfl <| OF rfl rfl (not_T h24) rfl <| OF rfl rfl (not_T h24) rfl <| PF rfl rfl (not_T h24) rfl <| MV rfl rfl <| OF rfl rfl rfl rfl <| OF rfl rfl rfl rfl <| OF rfl rfl rfl rfl <| OF rfl rfl rfl rfl <| OF rfl rfl rfl rfl <| PF rfl rfl rfl rfl <| AS rfl rfl <| ND <| ret_cv Try.func130 (res1 Try.func130 rfl (rv_tmp rfl)) <| ?_
                                  rw [isReceiver_s]
                                  simp_all []
                              · refine SK <| IB <| SQ <| RG <| AS rfl rfl <| ND <| ret_cv Try.func130 (res1 Try.func130 rfl (rv_tmp rfl)) <| ?_
                                rw [isReceiver_s]
                                simp [isReceiverS, maxQuic, h1, h2, h3, h4, h5, h6, h7, h8, h10, h12, h15, h17, h20, h23]
                  · replace h9 := of_not_F h9
                    refine DT rfl rfl (fun K hk => OF rfl rfl (not_T h9) rfl hk) <| DT rfl rfl (fun K hk => OF rfl rfl (not_T h9) rfl hk) <| DT rfl rfl (fun K hk => OF rfl rfl (not_T h9) rfl hk) <| DT rfl rfl (fun K hk => OF rfl rfl (not_T h9) rfl hk) <| DT rfl rfl (fun K hk => OF rfl rfl (not_T h9) rfl hk) <| DT rfl rfl (fun K hk => OF rfl rfl (not_T h9) rfl hk) <| DT rfl rfl (fun K hk => OF rfl rfl (not_T h9) rfl hk) <| DT rfl rfl (fun K hk => OF rfl rfl (not_T h9) rfl hk) <| DT rfl rfl (fun K hk => OF rfl rfl (not_T h9) rfl hk) <| ?_
                    refine dw_nil <| OF rfl rfl (not_T h9) rfl <| PF rfl rfl (not_T h9) rfl <| AS rfl rfl <| ND <| SQ <| SQ <| RG <| FA rfl tyF_impl_Receiver_0 rfl <| LD (i := 0) rfl tyP_int rfl rfl rfl <| ND <| BK <| SQ <| RG <| EQ1 rfl rfl rfl <| AS rfl rfl <| ND <| ?_
                    refine gw_cond rfl (fun h26 => ?_) (fun h26 => ?_)
                    · refine SQ <| RG <| FA rfl tyF_impl_Receiver_2 rfl <| LD (i := 0) rfl tyP_int rfl rfl rfl <| EQ1 rfl rfl rfl <| MV rfl rfl <| ?_
                      refine rw_case (j := 72) rfl (fun h27 => ?_) (fun h27 => ?_)
                      · refine ON rfl rfl h27 <| FA rfl tyF_impl_Receiver_4 rfl <| ON rfl rfl h27 <| LD (i := 0) rfl tyP_int rfl rfl rfl <| ON rfl rfl h27 <| EQ1 rfl rfl rfl <| PT rfl rfl h27 rfl <| AS rfl rfl <| ND <| ret_cv Try.func130 (res1 Try.func130 rfl (rv_tmp rfl)) <| ?_
                        rw [isReceiver_s]
                        simp_all []
                      · refine OF rfl rfl h27 rfl <| OF rfl rfl h27 rfl <| OF rfl rfl h27 rfl <| PF rfl rfl h27 rfl <| AS rfl rfl <| ND <| ret_cv Try.func130 (res1 Try.func130 rfl (rv_tmp rfl)) <| ?_
                        rw [isReceiver_s]
                        simp [isReceiverS, maxQuic, h1, h2, h3, h4, h5, h6, h7, h8, h26]
                    · refine SQ <| RG <| EQ1 rfl rfl rfl <| AS rfl rfl <| ND <| ?_
                      refine gw_cond rfl (fun h28 => ?_) (fun h28 => ?_)
                      · refine SQ <| RG <| FA rfl tyF_impl_Receiver_2 rfl <| LD (i := 0) rfl tyP_int rfl rfl rfl <| rw_neq rfl rfl rfl <| MV rfl rfl <| ?_
                        refine rw_case (j := 82) rfl (fun h29 => ?_) (fun h29 => ?_)
                        · replace h29 := of_not_T h29
                          refine ON rfl rfl (not_F h29) <| MV rfl rfl <| ON rfl rfl (not_F h29) <| NT rfl rfl <| PT rfl rfl (not_F h29) rfl <| MV rfl rfl <| ON rfl rfl rfl <| FA rfl tyF_impl_Receiver_4 rfl <| ON rfl rfl rfl <| LD (i := 0) rfl tyP_int rfl rfl rfl <| ON rfl rfl rfl <| EQ1 rfl rfl rfl <| PT rfl rfl rfl rfl <| AS rfl rfl <| ND <| ret_cv Try.func130 (res1 Try.func130 rfl (rv_tmp rfl)) <| ?_
                          rw [isReceiver_s]
                          simp_all []
                        · replace h29 := of_not_F h29
                          refine OF rfl rfl (not_T h29) rfl <| OF rfl rfl (not_T h29) rfl <| PF rfl rfl (not_T h29) rfl <| MV rfl rfl <| OF rfl rfl rfl rfl <| OF rfl rfl rfl rfl <| OF rfl rfl rfl rfl <| PF rfl rfl rfl rfl <| AS rfl rfl <| ND <| ret_cv Try.func130 (res1 Try.func130 rfl (rv_tmp rfl)) <| ?_
                          rw [isReceiver_s]
                          simp_all []
                      · refine SQ <| RG <| EQ1 rfl rfl rfl <| AS rfl rfl <| ND <| ?_
                        refine gw_cond rfl (fun h30 => ?_) (fun h30 => ?_)
                        · refine SQ <| RG <| MV rfl rfl <| MV rfl rfl <| OF rfl rfl rfl rfl <| OF rfl rfl rfl rfl <| OF rfl rfl rfl rfl <| PF rfl rfl rfl rfl <| AS rfl rfl <| ND <| ret_cv Try.func130 (res1 Try.func130 rfl (rv_tmp rfl)) <| ?_
                          rw [isReceiver_s]
                          simp_all []
                        · refine SQ <| RG <| EQ1 rfl rfl rfl <| AS rfl rfl <| ND <| ?_
                          refine gw_cond rfl (fun h31 => ?_) (fun h31 => ?_)
                          · refine SQ <| RG <| MV rfl rfl <| MV rfl rfl <| OF rfl rfl rfl rfl <| OF rfl rfl rfl rfl <| OF rfl rfl rfl rfl <| OF rfl rfl rfl rfl <| OF rfl rfl rfl rfl <| PF rfl rfl rfl rfl <| MV rfl rfl <| OF rfl rfl rfl rfl <| OF rfl rfl rfl rfl <| OF rfl rfl rfl rfl <| PF rfl rfl rfl rfl <| AS rfl rfl <| ND <| ret_cv Try.func130 (res1 Try.func130 rfl (rv_tmp rfl)) <| ?_
                            rw [isReceiver_s]
                            simp_all []
                          · refine SQ <| SQ <| RG <| EQ1 rfl rfl rfl <| AS rfl rfl <| ND <| ?_
                            refine gw_cond rfl (fun h32 => ?_) (fun h32 => ?_)
                            · refine SK <| CT rfl h32 <| SQ <| RG <| FA rfl tyF_impl_Receiver_2 rfl <| LD (i := 0) rfl tyP_int rfl rfl rfl <| rw_neq rfl rfl rfl <| MV rfl rfl <| ?_
                              refine rw_case (j := 120) rfl (fun h33 => ?_) (fun h33 => ?_)
                              · replace h33 := of_not_T h33
                                refine ON rfl rfl (not_F h33) <| FA rfl tyF_impl_Receiver_3 rfl <| ON rfl rfl (not_F h33) <| LD (i := 0) rfl tyP_int rfl rfl rfl <| ON rfl rfl (not_F h33) <| FA rfl tyF_impl_Receiver_2 rfl <| ON rfl rfl (not_F h33) <| LD (i := 0) rfl tyP_int rfl rfl rfl <| ON rfl rfl (not_F h33) <| EQ1 rfl rfl rfl <| PT rfl rfl (not_F h33) rfl <| MV rfl rfl <| ?_
                                refine rw_case (j := 127) rfl (fun h34 => ?_) (fun h34 => ?_)
                                · refine ON rfl rfl h34 <| FA rfl tyF_impl_Receiver_1 rfl <| ON rfl rfl h34 <| FA rfl tyF_impl_Buffer_1 rfl <| ON rfl rfl h34 <| LD (i := 0) rfl tyP_S_impl_Chunk rfl rfl rfl <| ON rfl rfl h34 <| rw_len rfl tyE_S_impl_Chunk rfl <| ON rfl rfl h34 <| EQ1 rfl rfl rfl <| PT rfl rfl h34 rfl <| AS rfl rfl <| ND <| ret_cv Try.func130 (res1 Try.func130 rfl (rv_tmp rfl)) <| ?_
                                  rw [isReceiver_s]
                                  simp [isReceiverS, maxQuic, h1, h2, h3, h4, h5, h6, h7, h8, h26, h28, h30, h31, h32, h34]
                                · refine OF rfl rfl h34 rfl <| OF rfl rfl h34 rfl <| OF rfl rfl h34 rfl <| OF rfl rfl h34 rfl <| OF rfl rfl h34 rfl <| PF rfl rfl h34 rfl <| AS rfl rfl <| ND <| ret_cv Try.func130 (res1 Try.func130 rfl (rv_tmp rfl)) <| ?_
                                  rw [isReceiver_s]
                                  simp [isReceiverS, maxQuic, h1, h2, h3, h4, h5, h6, h7, h8, h26, h28, h30, h31, h32, h34]
                              · replace h33 := of_not_F h33
                                refine OF rfl rfl (not_T h33) rfl <| OF rfl rfl (not_T h33) rfl <| OF rfl rfl (not_T h33) rfl <| OF rfl rfl (not_T h33) rfl <| OF rfl rfl (not_T h33) rfl <| PF rfl rfl (not_T h33) rfl <| MV rfl rfl <| OF rfl rfl rfl rfl <| OF rfl rfl rfl rfl <| OF rfl rfl rfl rfl <| OF rfl rfl rfl rfl <| OF rfl rfl rfl rfl <| PF rfl rfl rfl rfl <| AS rfl rfl <| ND <| ret_cv Try.func130 (res1 Try.func130 rfl (rv_tmp rfl)) <| ?_
                                rw [isReceiver_s]
                                simp_all []
                            · refine RG <| EQ1 rfl rfl rfl <| AS rfl rfl <| ND <| ?_
                              refine gw_cond rfl (fun h35 => ?_) (fun h35 => ?_)
                              · refine SQ <| RG <| FA rfl tyF_impl_Receiver_2 rfl <| LD (i := 0) rfl tyP_int rfl rfl rfl <| rw_neq rfl rfl rfl <| MV rfl rfl <| ?_
                                refine rw_case (j := 120) rfl (fun h36 => ?_) (fun h36 => ?_)
                                · replace h36 := of_not_T h36
                                  refine ON rfl rfl (not_F h36) <| FA rfl tyF_impl_Receiver_3 rfl <| ON rfl rfl (not_F h36) <| LD (i := 0) rfl tyP_int rfl rfl rfl <| ON rfl rfl (not_F h36) <| FA rfl tyF_impl_Receiver_2 rfl <| ON rfl rfl (not_F h36) <| LD (i := 0) rfl tyP_int rfl rfl rfl <| ON rfl rfl (not_F h36) <| EQ1 rfl rfl rfl <| PT rfl rfl (not_F h36) rfl <| MV rfl rfl <| ?_
                                  refine rw_case (j := 127) rfl (fun h37 => ?_) (fun h37 => ?_)
                                  · refine ON rfl rfl h37 <| FA rfl tyF_impl_Receiver_1 rfl <| ON rfl rfl h37 <| FA rfl tyF_impl_Buffer_1 rfl <| ON rfl rfl h37 <| LD (i := 0) rfl tyP_S_impl_Chunk rfl rfl rfl <| ON rfl rfl h37 <| rw_len rfl tyE_S_impl_Chunk rfl <| ON rfl rfl h37 <| EQ1 rfl rfl rfl <| PT rfl rfl h37 rfl <| AS rfl rfl <| ND <| ret_cv Try.func130 (res1 Try.func130 rfl (rv_tmp rfl)) <| ?_
                                    rw [isReceiver_s]
                                    simp [isReceiverS, maxQuic, h1, h2, h3, h4, h5, h6, h7, h8, h26, h28, h30, h31, h32, h35, h37]
                                  · refine OF rfl rfl h37 rfl <| OF rfl rfl h37 rfl <| OF rfl rfl h37 rfl <| OF rfl rfl h37 rfl <| OF rfl rfl h37 rfl <| PF rfl rfl h37 rfl <| AS rfl rfl <| ND <| ret_cv Try.func130 (res1 Try.func130 rfl (rv_tmp rfl)) <| ?_
                                    rw [isReceiver_s]
                                    simp [isReceiverS, maxQuic, h1, h2, h3, h4, h5, h6, h7, h8, h26, h28, h30, h31, h32, h35, h37]
                                · replace h36 := of_not_F h36
                                  refine OF rfl rfl (not_T h36) rfl <| OF rfl rfl (not_T h36) rfl <| OF rfl rfl (not_T h36) rfl <| OF rfl rfl (not_T h36) rfl <| OF rfl rfl (not_T h36) rfl <| PF rfl rfl (not_T h36) rfl <| MV rfl rfl <| OF rfl rfl rfl rfl <| OF rfl rfl rfl rfl <| OF rfl rfl rfl rfl <| OF rfl rfl rfl rfl <| OF rfl rfl rfl rfl <| PF rfl rfl rfl rfl <| AS rfl rfl <| ND <| ret_cv Try.func130 (res1 Try.func130 rfl (rv_tmp rfl)) <| ?_
                                  rw [isReceiver_s]
                                  simp_all []
                              · refine SK <| IB <| SQ <| RG <| AS rfl rfl <| ND <| ret_cv Try.func130 (res1 Try.func130 rfl (rv_tmp rfl)) <| ?_
                                rw [isReceiver_s]
                                simp [isReceiverS, maxQuic, h1, h2, h3, h4, h5, h6, h7, h8, h26, h28, h30, h31, h32, h35]
          · replace h5 := of_not_F h5
            refine DT rfl rfl (fun K hk => OF rfl rfl (not_T h5) rfl hk) <| DT rfl rfl (fun K hk => OF rfl rfl (not_T h5) rfl hk) <| DT rfl rfl (fun K hk => OF rfl rfl (not_T h5) rfl hk) <| DT rfl rfl (fun K hk => OF rfl rfl (not_T h5) rfl hk) <| dw_nil <| OF rfl rfl (not_T h5) rfl <| ON rfl rfl (not_T h4) <| PF rfl rfl (not_T h5) rfl <| PF rfl rfl (not_T h4) rfl <| MV rfl rfl <| ON rfl rfl rfl <| FA rfl tyF_impl_Receiver_2 rfl <| ON rfl rfl rfl <| LD (i := 0) rfl tyP_int rfl rfl rfl <| ?_
            refine ON rfl rfl rfl <| rw_gtr rfl rfl rfl <| PF rfl rfl rfl rfl <| MV rfl rfl <| ?_
            refine rw_case (j := 45) rfl (fun h38 => ?_) (fun h38 => ?_)
            · refine OF rfl rfl h38 rfl <| OF rfl rfl h38 rfl <| OF rfl rfl h38 rfl <| PT rfl rfl h38 rfl <| ND <| CT rfl rfl <| SQ <| RG <| AS rfl rfl <| ND <| ret_cv Try.func130 (res1 Try.func130 rfl (rv_tmp rfl)) <| ?_
              rw [isReceiver_s]
              simp [isReceiverS, maxQuic, h1, h2, h3, h4, h5, h38]
            · refine ON rfl rfl h38 <| FA rfl tyF_impl_Receiver_2 rfl <| ON rfl rfl h38 <| LD (i := 0) rfl tyP_int rfl rfl rfl <| ON rfl rfl h38 <| rw_lss rfl rfl rfl <| PF rfl rfl h38 rfl <| ND <| ?_
              refine gw_cond rfl (fun h39 => ?_) (fun h39 => ?_)
              · refine SQ <| RG <| AS rfl rfl <| ND <| ret_cv Try.func130 (res1 Try.func130 rfl (rv_tmp rfl)) <| ?_
                rw [isReceiver_s]
                simp [isReceiverS, maxQuic, h1, h2, h3, h4, h5, h38, h39]
              · refine SK <| SQ <| gw_draw' [(0, .det), (1, .det), (2, .det), (3, .det), (4, .det), (5, .det), (6, .det), (7, .det), (8, .det), (9, .det), (10, .det), (11, .det), (12, .det)] [13, 14, 15] mixed rfl (free_det (free_det (free_det (free_det (free_det (free_det (free_det (free_det (free_det (free_det (free_det (free_det (free_det free_nil))))))))))))) (ts := [_, _, _]) rfl <| DT rfl rfl (fun K hk => FA rfl tyF_impl_Receiver_2 rfl hk) <| DT rfl rfl (fun K hk => LD (i := 0) rfl tyP_int rfl rfl rfl hk) <| DT rfl rfl (fun K hk => rw_neq rfl rfl rfl hk) <| DT rfl rfl (fun K hk => MV rfl rfl hk) <| ?_
                refine dw_case (i := 53) rfl (fun h40 => ?_) (fun h40 => ?_)
                · replace h40 := of_not_T h40
                  refine DT rfl rfl (fun K hk => ON rfl rfl (not_F h40) (FA rfl tyF_impl_Receiver_1 rfl hk)) <| DT rfl rfl (fun K hk => ON rfl rfl (not_F h40) (FA rfl tyF_impl_Buffer_0 rfl hk)) <| DT rfl rfl (fun K hk => ON rfl rfl (not_F h40) (LD (i := 0) rfl tyP_int rfl rfl rfl hk)) <| DT rfl rfl (fun K hk => ON rfl rfl (not_F h40) (FA rfl tyF_impl_Receiver_1 rfl hk)) <| DT rfl rfl (fun K hk => ON rfl rfl (not_F h40) (LS (i := 0) [_, _] rfl tyS_impl_Buffer rfl rfl rfl rfl hk)) <| ?_
                  refine DT rfl rfl (fun K hk => ON rfl rfl (not_F h40) (CV1 rfl fun_spec_ReadyBytes rfl (fun w hs => spec_ReadyBytes ⟨_, rfl, (hA0.s Pl.keeps hs)⟩ ⟨hb0, hb1⟩) hk)) <| DT rfl rfl (fun K hk => ON rfl rfl (not_F h40) (rw_add rfl rfl rfl hk)) <| DT rfl rfl (fun K hk => ON rfl rfl (not_F h40) (FA rfl tyF_impl_Receiver_2 rfl hk)) <| DT rfl rfl (fun K hk => ON rfl rfl (not_F h40) (LD (i := 0) rfl tyP_int rfl rfl rfl hk)) <| dw_nil <| ON rfl rfl (not_F h40) <| EQ1 rfl rfl rfl <| PT rfl rfl (not_F h40) rfl <| ?_
                  refine AS rfl rfl <| ND <| SQ <| SQ <| RG <| FA rfl tyF_impl_Receiver_0 rfl <| LD (i := 0) rfl tyP_int rfl rfl rfl <| ND <| BK <| SQ <| RG <| EQ1 rfl rfl rfl <| AS rfl rfl <| ND <| ?_
                  refine gw_cond rfl (fun h41 => ?_) (fun h41 => ?_)
                  · refine SQ <| RG <| FA rfl tyF_impl_Receiver_2 rfl <| LD (i := 0) rfl tyP_int rfl rfl rfl <| EQ1 rfl rfl rfl <| MV rfl rfl <| ?_
                    refine rw_case (j := 72) rfl (fun h42 => ?_) (fun h42 => ?_)
                    · refine ON rfl rfl h42 <| FA rfl tyF_impl_Receiver_4 rfl <| ON rfl rfl h42 <| LD (i := 0) rfl tyP_int rfl rfl rfl <| ON rfl rfl h42 <| EQ1 rfl rfl rfl <| PT rfl rfl h42 rfl <| AS rfl rfl <| ND <| ret_cv Try.func130 (res1 Try.func130 rfl (rv_tmp rfl)) <| ?_
                      rw [isReceiver_s]
                      simp [isReceiverS, maxQuic, h1, h2, h3, h4, h5, h38, h39, h41]
                    · refine OF rfl rfl h42 rfl <| OF rfl rfl h42 rfl <| OF rfl rfl h42 rfl <| PF rfl rfl h42 rfl <| AS rfl rfl <| ND <| ret_cv Try.func130 (res1 Try.func130 rfl (rv_tmp rfl)) <| ?_
                      rw [isReceiver_s]
                      simp_all []
                  · refine SQ <| RG <| EQ1 rfl rfl rfl <| AS rfl rfl <| ND <| ?_
                    refine gw_cond rfl (fun h43 => ?_) (fun h43 => ?_)
                    · refine SQ <| RG <| FA rfl tyF_impl_Receiver_2 rfl <| LD (i := 0) rfl tyP_int rfl rfl rfl <| rw_neq rfl rfl rfl <| MV rfl rfl <| ?_
                      refine rw_case (j := 82) rfl (fun h44 => ?_) (fun h44 => ?_)
                      · replace h44 := of_not_T h44
                        refine ON rfl rfl (not_F h44) <| MV rfl rfl <| ON rfl rfl (not_F h44) <| NT rfl rfl <| PT rfl rfl (not_F h44) rfl <| MV rfl rfl <| ?_
                        refine rw_case (j := 86) rfl (fun h45 => ?_) (fun h45 => ?_)
                        · replace h45 := of_not_T h45
                          refine ON rfl rfl (not_F h45) <| FA rfl tyF_impl_Receiver_4 rfl <| ON rfl rfl (not_F h45) <| LD (i := 0) rfl tyP_int rfl rfl rfl <| ON rfl rfl (not_F h45) <| EQ1 rfl rfl rfl <| PT rfl rfl (not_F h45) rfl <| AS rfl rfl <| ND <| ret_cv Try.func130 (res1 Try.func130 rfl (rv_tmp rfl)) <| ?_
                          rw [isReceiver_s]
                          simp_all []
                        · replace h45 := of_not_F h45
                          refine OF rfl rfl (not_T h45) rfl <| OF rfl rfl (not_T h45) rfl <| OF rfl rfl (not_T h45) rfl <| PF rfl rfl (not_T h45) rfl <| AS rfl rfl <| ND <| ret_cv Try.func130 (res1 Try.func130 rfl (rv_tmp rfl)) <| ?_
                          rw [isReceiver_s]
                          simp [isReceiverS, maxQuic, h1, h2, h3, h4, h5, h38, h39, h41, h43, h45]
                      · replace h44 := of_not_F h44
                        refine OF rfl rfl (not_T h44) rfl <| OF rfl rfl (not_T h44) rfl <| PF rfl rfl (not_T h44) rfl <| MV rfl rfl <| OF rfl rfl rfl rfl <| OF rfl rfl rfl rfl <| OF rfl rfl rfl rfl <| PF rfl rfl rfl rfl <| AS rfl rfl <| ND <| ret_cv Try.func130 (res1 Try.func130 rfl (rv_tmp rfl)) <| ?_
                        rw [isReceiver_s]
                        simp [isReceiverS, maxQuic, h1, h2, h3, h4, h5, h38, h39, h41, h43]
                    · refine SQ <| RG <| EQ1 rfl rfl rfl <| AS rfl rfl <| ND <| ?_
                      refine gw_cond rfl (fun h46 => ?_) (fun h46 => ?_)
                      · refine SQ <| RG <| MV rfl rfl <| MV rfl rfl <| ?_
                        refine rw_case (j := 94) rfl (fun h47 => ?_) (fun h47 => ?_)
                        · refine ON rfl rfl h47 <| FA rfl tyF_impl_Receiver_4 rfl <| ON rfl rfl h47 <| LD (i := 0) rfl tyP_int rfl rfl rfl <| ON rfl rfl h47 <| EQ1 rfl rfl rfl <| PT rfl rfl h47 rfl <| AS rfl rfl <| ND <| ret_cv Try.func130 (res1 Try.func130 rfl (rv_tmp rfl)) <| ?_
                          rw [isReceiver_s]
                          simp_all []
                        · refine OF rfl rfl h47 rfl <| OF rfl rfl h47 rfl <| OF rfl rfl h47 rfl <| PF rfl rfl h47 rfl <| AS rfl rfl <| ND <| ret_cv Try.func130 (res1 Try.func130 rfl (rv_tmp rfl)) <| ?_
                          rw [isReceiver_s]
                          simp [isReceiverS, maxQuic, h1, h2, h3, h4, h5, h38, h39, h41, h43, h46, h47]
                      · refine SQ <| RG <| EQ1 rfl rfl rfl <| AS rfl rfl <| ND <| ?_
                        refine gw_cond rfl (fun h48 => ?_) (fun h48 => ?_)
                        · refine SQ <| RG <| MV rfl rfl <| MV rfl rfl <| ?_
                          refine rw_case (j := 102) rfl (fun h49 => ?_) (fun h49 => ?_)
                          · refine ON rfl rfl h49 <| FA rfl tyF_impl_Receiver_1 rfl <| ON rfl rfl h49 <| FA rfl tyF_impl_Buffer_1 rfl <| ON rfl rfl h49 <| LD (i := 0) rfl tyP_S_impl_Chunk rfl rfl rfl <| ON rfl rfl h49 <| rw_len rfl tyE_S_impl_Chunk rfl <| ON rfl rfl h49 <| EQ1 rfl rfl rfl <| PT rfl rfl h49 rfl <| MV rfl rfl <| ?_
                            refine rw_case (j := 109) rfl (fun h50 => ?_) (fun h50 => ?_)
                            · have hnil3 := nil_of_eq h50
                              refine ON rfl rfl h50 <| FA rfl tyF_impl_Receiver_4 rfl <| ON rfl rfl h50 <| LD (i := 0) rfl tyP_int rfl rfl rfl <| ON rfl rfl h50 <| EQ1 rfl rfl rfl <| PT rfl rfl h50 rfl <| AS rfl rfl <| ND <| ret_cv Try.func130 (res1 Try.func130 rfl (rv_tmp rfl)) <| ?_
                              rw [isReceiver_s]
                              simp_all []
                            · have hpos4 := pos_of_ne h50
                              refine OF rfl rfl h50 rfl <| OF rfl rfl h50 rfl <| OF rfl rfl h50 rfl <| PF rfl rfl h50 rfl <| AS rfl rfl <| ND <| ret_cv Try.func130 (res1 Try.func130 rfl (rv_tmp rfl)) <| ?_
                              rw [isReceiver_s]
                              simp [isReceiverS, maxQuic, h1, h2, h3, h4, h5, h38, h39, h41, h43, h46, h48, h49, h50]
                          · refine OF rfl rfl h49 rfl <| OF rfl rfl h49 rfl <| OF rfl rfl h49 rfl <| OF rfl rfl h49 rfl <| OF rfl rfl h49 rfl <| PF rfl rfl h49 rfl <| MV rfl rfl <| OF rfl rfl rfl rfl <| OF rfl rfl rfl rfl <| OF rfl rfl rfl rfl <| PF rfl rfl rfl rfl <| AS rfl rfl <| ND <| ret_cv Try.func130 (res1 Try.func130 rfl (rv_tmp rfl)) <| ?_
                            rw [isReceiver_s]
                            simp [isReceiverS, maxQuic, h1, h2, h3, h4, h5, h38, h39, h41, h43, h46, h48, h49]
                        · refine SQ <| SQ <| RG <| EQ1 rfl rfl rfl <| AS rfl rfl <| ND <| ?_
                          refine gw_cond rfl (fun h51 => ?_) (fun h51 => ?_)
                          · refine SK <| CT rfl h51 <| SQ <| RG <| FA rfl tyF_impl_Receiver_2 rfl <| LD (i := 0) rfl tyP_int rfl rfl rfl <| rw_neq rfl rfl rfl <| MV rfl rfl <| ?_
                            refine rw_case (j := 120) rfl (fun h52 => ?_) (fun h52 => ?_)
                            · replace h52 := of_not_T h52
                              refine ON rfl rfl (not_F h52) <| FA rfl tyF_impl_Receiver_3 rfl <| ON rfl rfl (not_F h52) <| LD (i := 0) rfl tyP_int rfl rfl rfl <| ON rfl rfl (not_F h52) <| FA rfl tyF_impl_Receiver_2 rfl <| ON rfl rfl (not_F h52) <| LD (i := 0) rfl tyP_int rfl rfl rfl <| ON rfl rfl (not_F h52) <| EQ1 rfl rfl rfl <| PT rfl rfl (not_F h52) rfl <| MV rfl rfl <| ?_
                              refine rw_case (j := 127) rfl (fun h53 => ?_) (fun h53 => ?_)
                              · refine ON rfl rfl h53 <| FA rfl tyF_impl_Receiver_1 rfl <| ON rfl rfl h53 <| FA rfl tyF_impl_Buffer_1 rfl <| ON rfl rfl h53 <| LD (i := 0) rfl tyP_S_impl_Chunk rfl rfl rfl <| ON rfl rfl h53 <| rw_len rfl tyE_S_impl_Chunk rfl <| ON rfl rfl h53 <| EQ1 rfl rfl rfl <| PT rfl rfl h53 rfl <| AS rfl rfl <| ND <| ret_cv Try.func130 (res1 Try.func130 rfl (rv_tmp rfl)) <| ?_
                                rw [isReceiver_s]
                                simp_all []
                              · refine OF rfl rfl h53 rfl <| OF rfl rfl h53 rfl <| OF rfl rfl h53 rfl <| OF rfl rfl h53 rfl <| OF rfl rfl h53 rfl <| PF rfl rfl h53 rfl <| AS rfl rfl <| ND <| ret_cv Try.func130 (res1 Try.func130 rfl (rv_tmp rfl)) <| ?_
                                rw [isReceiver_s]
                                simp [isReceiverS, maxQuic, h1, h2, h3, h4, h5, h38, h39, h41, h43, h46, h48, h51, h53]
                            · replace h52 := of_not_F h52
                              refine OF rfl rfl (not_T h52) rfl <| OF rfl rfl (not_T h52) rfl <| OF rfl rfl (not_T h52) rfl <| OF rfl rfl (not_T h52) rfl <| OF rfl rfl (not_T h52) rfl <| PF rfl rfl (not_T h52) rfl <| MV rfl rfl <| OF rfl rfl rfl rfl <| OF rfl rfl rfl rfl <| OF rfl rfl rfl rfl <| OF rfl rfl rfl rfl <| OF rfl rfl rfl rfl <| PF rfl rfl rfl rfl <| AS rfl rfl <| ND <| ret_cv Try.func130 (res1 Try.func130 rfl (rv_tmp rfl)) <| ?_
                              rw [isReceiver_s]
                              simp [isReceiverS, maxQuic, h1, h2, h3, h4, h5, h38, h39, h41, h43, h46, h48, h51]
                          · refine RG <| EQ1 rfl rfl rfl <| AS rfl rfl <| ND <| ?_
                            refine gw_cond rfl (fun h54 => ?_) (fun h54 => ?_)
                            · refine SQ <| RG <| FA rfl tyF_impl_Receiver_2 rfl <| LD (i := 0) rfl tyP_int rfl rfl rfl <| rw_neq rfl rfl rfl <| MV rfl rfl <| ?_
                              refine rw_case (j := 120) rfl (fun h55 => ?_) (fun h55 => ?_)
                              · replace h55 := of_not_T h55
                                refine ON rfl rfl (not_F h55) <| FA rfl tyF_impl_Receiver_3 rfl <| ON rfl rfl (not_F h55) <| LD (i := 0) rfl tyP_int rfl rfl rfl <| ON rfl rfl (not_F h55) <| FA rfl tyF_impl_Receiver_2 rfl <| ON rfl rfl (not_F h55) <| LD (i := 0) rfl tyP_int rfl rfl rfl <| ON rfl rfl (not_F h55) <| EQ1 rfl rfl rfl <| PT rfl rfl (not_F h55) rfl <| MV rfl rfl <| ?_
                                refine rw_case (j := 127) rfl (fun h56 => ?_) (fun h56 => ?_)
                                · refine ON rfl rfl h56 <| FA rfl tyF_impl_Receiver_1 rfl <| ON rfl rfl h56 <| FA rfl tyF_impl_Buffer_1 rfl <| ON rfl rfl h56 <| LD (i := 0) rfl tyP_S_impl_Chunk rfl rfl rfl <| ON rfl rfl h56 <| rw_len rfl tyE_S_impl_Chunk rfl <| ON rfl rfl h56 <| EQ1 rfl rfl rfl <| PT rfl rfl h56 rfl <| AS rfl rfl <| ND <| ret_cv Try.func130 (res1 Try.func130 rfl (rv_tmp rfl)) <| ?_
                                  rw [isReceiver_s]
                                  simp_all []
                                · refine OF rfl rfl h56 rfl <| OF rfl rfl h56 rfl <| OF rfl rfl h56 rfl <| OF rfl rfl h56 rfl <| OF rfl rfl h56 rfl <| PF rfl rfl h56 rfl <| AS rfl rfl <| ND <| ret_cv Try.func130 (res1 Try.func130 rfl (rv_tmp rfl)) <| ?_
                                  rw [isReceiver_s]
                                  simp [isReceiverS, maxQuic, h1, h2, h3, h4, h5, h38, h39, h41, h43, h46, h48, h51, h54, h56]
                              · replace h55 := of_not_F h55
                                refine OF rfl rfl (not_T h55) rfl <| OF rfl rfl (not_T h55) rfl <| OF rfl rfl (not_T h55) rfl <| OF rfl rfl (not_T h55) rfl <| OF rfl rfl (not_T h55) rfl <| PF rfl rfl (not_T h55) rfl <| MV rfl rfl <| OF rfl rfl rfl rfl <| OF rfl rfl rfl rfl <| OF rfl rfl rfl rfl <| OF rfl rfl rfl rfl <| OF rfl rfl rfl rfl <| PF rfl rfl rfl rfl <| AS rfl rfl <| ND <| ret_cv Try.func130 (res1 Try.func130 rfl (rv_tmp rfl)) <| ?_
                                rw [isReceiver_s]
                                simp [isReceiverS, maxQuic, h1, h2, h3, h4, h5, h38, h39, h41, h43, h46, h48, h51, h54]
                            · refine SK <| IB <| SQ <| RG <| AS rfl rfl <| ND <| ret_cv Try.func130 (res1 Try.func130 rfl (rv_tmp rfl)) <| ?_
                              rw [isReceiver_s]
                              simp [isReceiverS, maxQuic, h1, h2, h3, h4, h5, h38, h39, h41, h43, h46, h48, h51, h54]
                · replace h40 := of_not_F h40
                  refine DT rfl rfl (fun K hk => OF rfl rfl (not_T h40) rfl hk) <| DT rfl rfl (fun K hk => OF rfl rfl (not_T h40) rfl hk) <| DT rfl rfl (fun K hk => OF rfl rfl (not_T h40) rfl hk) <| DT rfl rfl (fun K hk => OF rfl rfl (not_T h40) rfl hk) <| DT rfl rfl (fun K hk => OF rfl rfl (not_T h40) rfl hk) <| DT rfl rfl (fun K hk => OF rfl rfl (not_T h40) rfl hk) <| DT rfl rfl (fun K hk => OF rfl rfl (not_T h40) rfl hk) <| DT rfl rfl (fun K hk => OF rfl rfl (not_T h40) rfl hk) <| DT rfl rfl (fun K hk => OF rfl rfl (not_T h40) rfl hk) <| ?_
                  refine dw_nil <| OF rfl rfl (not_T h40) rfl <| PF rfl rfl (not_T h40) rfl <| AS rfl rfl <| ND <| SQ <| SQ <| RG <| FA rfl tyF_impl_Receiver_0 rfl <| LD (i := 0) rfl tyP_int rfl rfl rfl <| ND <| BK <| SQ <| RG <| EQ1 rfl rfl rfl <| AS rfl rfl <| ND <| ?_
                  refine gw_cond rfl (fun h57 => ?_) (fun h57 => ?_)
                  · refine SQ <| RG <| FA rfl tyF_impl_Receiver_2 rfl <| LD (i := 0) rfl tyP_int rfl rfl rfl <| EQ1 rfl rfl rfl <| MV rfl rfl <| ?_
                    refine rw_case (j := 72) rfl (fun h58 => ?_) (fun h58 => ?_)
                    · refine ON rfl rfl h58 <| FA rfl tyF_impl_Receiver_4 rfl <| ON rfl rfl h58 <| LD (i := 0) rfl tyP_int rfl rfl rfl <| ON rfl rfl h58 <| EQ1 rfl rfl rfl <| PT rfl rfl h58 rfl <| AS rfl rfl <| ND <| ret_cv Try.func130 (res1 Try.func130 rfl (rv_tmp rfl)) <| ?_
                      rw [isReceiver_s]
                      simp [isReceiverS, maxQuic, h1, h2, h3, h4, h5, h38, h39, h57]
                    · refine OF rfl rfl h58 rfl <| OF rfl rfl h58 rfl <| OF rfl rfl h58 rfl <| PF rfl rfl h58 rfl <| AS rfl rfl <| ND <| ret_cv Try.func130 (res1 Try.func130 rfl (rv_tmp rfl)) <| ?_
                      rw [isReceiver_s]
                      simp_all []
                  · refine SQ <| RG <| EQ1 rfl rfl rfl <| AS rfl rfl <| ND <| ?_
                    refine gw_cond rfl (fun h59 => ?_) (fun h59 => ?_)
                    · refine SQ <| RG <| FA rfl tyF_impl_Receiver_2 rfl <| LD (i := 0) rfl tyP_int rfl rfl rfl <| rw_neq rfl rfl rfl <| MV rfl rfl <| ?_
                      refine rw_case (j := 82) rfl (fun h60 => ?_) (fun h60 => ?_)
                      · replace h60 := of_not_T h60
                        refine ON rfl rfl (not_F h60) <| MV rfl rfl <| ON rfl rfl (not_F h60) <| NT rfl rfl <| PT rfl rfl (not_F h60) rfl <| MV rfl rfl <| ON rfl rfl rfl <| FA rfl tyF_impl_Receiver_4 rfl <| ON rfl rfl rfl <| LD (i := 0) rfl tyP_int rfl rfl rfl <| ON rfl rfl rfl <| EQ1 rfl rfl rfl <| PT rfl rfl rfl rfl <| AS rfl rfl <| ND <| ret_cv Try.func130 (res1 Try.func130 rfl (rv_tmp rfl)) <| ?_
                        rw [isReceiver_s]
                        simp_all []
                      · replace h60 := of_not_F h60
                        refine OF rfl rfl (not_T h60) rfl <| OF rfl rfl (not_T h60) rfl <| PF rfl rfl (not_T h60) rfl <| MV rfl rfl <| OF rfl rfl rfl rfl <| OF rfl rfl rfl rfl <| OF rfl rfl rfl rfl <| PF rfl rfl rfl rfl <| AS rfl rfl <| ND <| ret_cv Try.func130 (res1 Try.func130 rfl (rv_tmp rfl)) <| ?_
                        rw [isReceiver_s]
                        simp [isReceiverS, maxQuic, h1, h2, h3, h4, h5, h38, h39, h57, h59]
                    · refine SQ <| RG <| EQ1 rfl rfl rfl <| AS rfl rfl <| ND <| ?_
                      refine gw_cond rfl (fun h61 => ?_) (fun h61 => ?_)
                      · refine SQ <| RG <| MV rfl rfl <| MV rfl rfl <| OF rfl rfl rfl rfl <| OF rfl rfl rfl rfl <| OF rfl rfl rfl rfl <| PF rfl rfl rfl rfl <| AS rfl rfl <| ND <| ret_cv Try.func130 (res1 Try.func130 rfl (rv_tmp rfl)) <| ?_
                        rw [isReceiver_s]
                        simp [isReceiverS, maxQuic, h1, h2, h3, h4, h5, h38, h39, h57, h59, h61]
                      · refine SQ <| RG <| EQ1 rfl rfl rfl <| AS rfl rfl <| ND <| ?_
                        refine gw_cond rfl (fun h62 => ?_) (fun h62 => ?_)
                        · refine SQ <| RG <| MV rfl rfl <| MV rfl rfl <| OF rfl rfl rfl rfl <| OF rfl rfl rfl rfl <| OF rfl rfl rfl rfl <| OF rfl rfl rfl rfl <| OF rfl rfl rfl rfl <| PF rfl rfl rfl rfl <| MV rfl rfl <| OF rfl rfl rfl rfl <| OF rfl rfl rfl rfl <| OF rfl rfl rfl rfl <| PF rfl rfl rfl rfl <| AS rfl rfl <| ND <| ret_cv Try.func130 (res1 Try.func130 rfl (rv_tmp rfl)) <| ?_
                          rw [isReceiver_s]
                          simp [isReceiverS, maxQuic, h1, h2, h3, h4, h5, h38, h39, h57, h59, h61, h62]
                        · refine SQ <| SQ <| RG <| EQ1 rfl rfl rfl <| AS rfl rfl <| ND <| ?_
                          refine gw_cond rfl (fun h63 => ?_) (fun h63 => ?_)
                          · refine SK <| CT rfl h63 <| SQ <| RG <| FA rfl tyF_impl_Receiver_2 rfl <| LD (i := 0) rfl tyP_int rfl rfl rfl <| rw_neq rfl rfl rfl <| MV rfl rfl <| ?_
                            refine rw_case (j := 120) rfl (fun h64 => ?_) (fun h64 => ?_)
                            · replace h64 := of_not_T h64
                              refine ON rfl rfl (not_F h64) <| FA rfl tyF_impl_Receiver_3 rfl <| ON rfl rfl (not_F h64) <| LD (i := 0) rfl tyP_int rfl rfl rfl <| ON rfl rfl (not_F h64) <| FA rfl tyF_impl_Receiver_2 rfl <| ON rfl rfl (not_F h64) <| LD (i := 0) rfl tyP_int rfl rfl rfl <| ON rfl rfl (not_F h64) <| EQ1 rfl rfl rfl <| PT rfl rfl (not_F h64) rfl <| MV rfl rfl <| ?_
                              refine rw_case (j := 127) rfl (fun h65 => ?_) (fun h65 => ?_)
                              · refine ON rfl rfl h65 <| FA rfl tyF_impl_Receiver_1 rfl <| ON rfl rfl h65 <| FA rfl tyF_impl_Buffer_1 rfl <| ON rfl rfl h65 <| LD (i := 0) rfl tyP_S_impl_Chunk rfl rfl rfl <| ON rfl rfl h65 <| rw_len rfl tyE_S_impl_Chunk rfl <| ON rfl rfl h65 <| EQ1 rfl rfl rfl <| PT rfl rfl h65 rfl <| AS rfl rfl <| ND <| ret_cv Try.func130 (res1 Try.func130 rfl (rv_tmp rfl)) <| ?_
                                rw [isReceiver_s]
                                simp_all []
                              · refine OF rfl rfl h65 rfl <| OF rfl rfl h65 rfl <| OF rfl rfl h65 rfl <| OF rfl rfl h65 rfl <| OF rfl rfl h65 rfl <| PF rfl rfl h65 rfl <| AS rfl rfl <| ND <| ret_cv Try.func130 (res1 Try.func130 rfl (rv_tmp rfl)) <| ?_
                                rw [isReceiver_s]
                                simp [isReceiverS, maxQuic, h1, h2, h3, h4, h5, h38, h39, h57, h59, h61, h62, h63, h65]
                            · replace h64 := of_not_F h64
                              refine OF rfl rfl (not_T h64) rfl <| OF rfl rfl (not_T h64) rfl <| OF rfl rfl (not_T h64) rfl <| OF rfl rfl (not_T h64) rfl <| OF rfl rfl (not_T h64) rfl <| PF rfl rfl (not_T h64) rfl <| MV rfl rfl <| OF rfl rfl rfl rfl <| OF rfl rfl rfl rfl <| OF rfl rfl rfl rfl <| OF rfl rfl rfl rfl <| OF rfl rfl rfl rfl <| PF rfl rfl rfl rfl <| AS rfl rfl <| ND <| ret_cv Try.func130 (res1 Try.func130 rfl (rv_tmp rfl)) <| ?_
                              rw [isReceiver_s]
                              simp [isReceiverS, maxQuic, h1, h2, h3, h4, h5, h38, h39, h57, h59, h61, h62, h63]
                          · refine RG <| EQ1 rfl rfl rfl <| AS rfl rfl <| ND <| ?_
                            refine gw_cond rfl (fun h66 => ?_) (fun h66 => ?_)
                            · refine SQ <| RG <| FA rfl tyF_impl_Receiver_2 rfl <| LD (i := 0) rfl tyP_int rfl rfl rfl <| rw_neq rfl rfl rfl <| MV rfl rfl <| ?_
                              refine rw_case (j := 120) rfl (fun h67 => ?_) (fun h67 => ?_)
                              · replace h67 := of_not_T h67
                                refine ON rfl rfl (not_F h67) <| FA rfl tyF_impl_Receiver_3 rfl <| ON rfl rfl (not_F h67) <| LD (i := 0) rfl tyP_int rfl rfl rfl <| ON rfl rfl (not_F h67) <| FA rfl tyF_impl_Receiver_2 rfl <| ON rfl rfl (not_F h67) <| LD (i := 0) rfl tyP_int rfl rfl rfl <| ON rfl rfl (not_F h67) <| EQ1 rfl rfl rfl <| PT rfl rfl (not_F h67) rfl <| MV rfl rfl <| ?_
                                refine rw_case (j := 127) rfl (fun h68 => ?_) (fun h68 => ?_)
                                · refine ON rfl rfl h68 <| FA rfl tyF_impl_Receiver_1 rfl <| ON rfl rfl h68 <| FA rfl tyF_impl_Buffer_1 rfl <| ON rfl rfl h68 <| LD (i := 0) rfl tyP_S_impl_Chunk rfl rfl rfl <| ON rfl rfl h68 <| rw_len rfl tyE_S_impl_Chunk rfl <| ON rfl rfl h68 <| EQ1 rfl rfl rfl <| PT rfl rfl h68 rfl <| AS rfl rfl <| ND <| ret_cv Try.func130 (res1 Try.func130 rfl (rv_tmp rfl)) <| ?_
                                  rw [isReceiver_s]
                                  simp_all []
                                · refine OF rfl rfl h68 rfl <| OF rfl rfl h68 rfl <| OF rfl rfl h68 rfl <| OF rfl rfl h68 rfl <| OF rfl rfl h68 rfl <| PF rfl rfl h68 rfl <| AS rfl rfl <| ND <| ret_cv Try.func130 (res1 Try.func130 rfl (rv_tmp rfl)) <| ?_
                                  rw [isReceiver_s]
                                  simp [isReceiverS, maxQuic, h1, h2, h3, h4, h5, h38, h39, h57, h59, h61, h62, h63, h66, h68]
                              · replace h67 := of_not_F h67
                                refine OF rfl rfl (not_T h67) rfl <| OF rfl rfl (not_T h67) rfl <| OF rfl rfl (not_T h67) rfl <| OF rfl rfl (not_T h67) rfl <| OF rfl rfl (not_T h67) rfl <| PF rfl rfl (not_T h67) rfl <| MV rfl rfl <| OF rfl rfl rfl rfl <| OF rfl rfl rfl rfl <| OF rfl rfl rfl rfl <| OF rfl rfl rfl rfl <| OF rfl rfl rfl rfl <| PF rfl rfl rfl rfl <| AS rfl rfl <| ND <| ret_cv Try.func130 (res1 Try.func130 rfl (rv_tmp rfl)) <| ?_
                                rw [isReceiver_s]
                                simp [isReceiverS, maxQuic, h1, h2, h3, h4, h5, h38, h39, h57, h59, h61, h62, h63, h66]
                            · refine SK <| IB <| SQ <| RG <| AS rfl rfl <| ND <| ret_cv Try.func130 (res1 Try.func130 rfl (rv_tmp rfl)) <| ?_
                              rw [isReceiver_s]
                              simp [isReceiverS, maxQuic, h1, h2, h3, h4, h5, h38, h39, h57, h59, h61, h62, h63, h66]
end Go.Proofs.Ytildklpahfbnpaa
