/- Tables of the program, each reckoned once by the kernel: which functions each function names, what answers in place, what is not followed. -/
import Derived.Test.YtgjpnajfapcobaaGreatAeP
import Derived.Test.YtgjpnajfapcobaaGreatProg
import Derived.KernelRfl
set_option autoImplicit false
set_option maxRecDepth 100000
namespace Go.Proofs.YtgjpnajfapcobaaGreat.facts
open Go.Ae
def tabT : List (List Nat) :=
  [[], [], [1], [4, 5, 6, 7, 8, 10, 11, 9, 12], [13, 14, 13, 13], [], [], [15], [16], [], [17, 18], [], [19, 4, 5, 6], [], [20, 21, 22, 23, 24, 25, 26, 27, 28], [29], [], [], [17, 29], [29, 30, 31], 
  [32, 13], [33, 13, 34, 13], [13, 35, 37, 36, 13, 16], [13], [36, 13, 16], [38, 39], [40, 15], [13, 31, 16], [42, 16, 18, 41, 13, 16], [], [43], [44], [45, 46, 47], [48, 49], [50], [51], [52, 53, 54, 
  55], [56], [57], [], [43, 58, 57], [59, 60], [15], [], [17, 29, 15, 61, 52, 60, 55, 58], [62, 63, 64], [66, 65], [67], [68, 69, 70, 71], [50, 32, 72, 73, 74, 75], [76], [78, 79, 81, 82, 77], [83, 
  84], [85, 86, 87], [], [29], [88, 88, 88, 87], [], [43], [17, 90, 89], [], [91, 92, 29, 29], [93, 94, 93, 95], [96, 97, 96, 98, 96, 99, 96, 96, 100], [102, 101], [], [103, 103, 104, 105, 104], [106, 
  107, 108, 109, 108, 108, 110, 111, 112, 108], [113, 114, 115, 117, 116], [32, 118, 114], [119, 32, 62, 114], [120, 32, 121], [122], [32, 123], [76], [124, 125, 126, 124, 125, 127, 128], [129, 130, 
  131, 130, 131, 130, 132], [], [133, 135, 136, 77], [80], [137], [138, 139, 140, 77], [143, 143, 142], [85], [144, 145, 144, 146, 88, 88], [92], [], [147], [148, 149, 150, 151, 150], [17, 61, 83], 
  [84, 60], [], [], [152, 154, 153], [155, 156, 157, 158, 152, 159, 95], [], [], [160, 161, 163, 164, 162, 161, 165], [160, 161, 166, 161, 165], [160, 161, 167, 168, 161, 165], [169, 161, 160, 170, 
  161, 167, 168, 167, 171, 165], [101], [], [172, 65], [174, 175, 175, 104, 65], [176, 65], [106], [], [], [177], [109, 108, 106], [107, 108, 110, 178, 108], [180, 179], [181, 182], [183, 155, 184, 
  153], [185, 185], [], [], [186, 187, 188, 189, 190], [191, 192, 193], [194, 195, 196, 197], [114, 114], [198, 199], [200, 123], [], [124], [202, 201], [], [203, 204], [205, 206, 207], [208], [], [], 
  [134], [209, 211, 210, 212, 210, 213], [32], [32], [214, 214], [72], [123], [141], [], [216, 215, 217, 218, 215, 219, 220, 215, 217, 221, 215, 219], [222, 222], [88], [], [], [], [223, 224], [223, 
  225], [226, 227, 227, 227, 227, 227, 227], [], [], [], [], [], [184, 153, 183, 95, 95], [], [157, 153, 95], [], [], [169], [], [228, 161], [96], [], [96, 96, 229], [], [230, 231], [96], [161, 169, 
  165, 228, 232, 162, 161, 165], [233, 234], [173, 104], [], [175], [173], [105, 104, 235, 104], [177, 236, 237], [109], [], [238, 108, 112, 239, 110, 240, 241, 239, 222, 123, 108, 108, 239, 242], 
  [32, 62, 243, 245, 244, 246], [247, 248, 248], [], [155, 157], [], [249, 250, 251, 252, 253, 254, 255, 256, 257, 250, 259, 258, 258], [260, 251, 261, 256, 257, 262, 258, 259, 258], [249, 250, 263, 
  257, 264, 257, 250, 259, 258, 258], [260, 264, 265, 266, 253, 255, 257, 262, 267, 268, 258], [260, 253, 255, 256, 257, 262, 264, 250, 267, 258], [269, 250, 250, 265, 266, 270, 271, 272, 274, 273, 
  264, 273, 276, 271, 277, 275, 276, 275], [269, 250, 250, 278, 250, 273, 250, 250, 280, 279, 130, 132, 275], [281, 282, 283, 284, 273, 286, 285, 287, 275, 288, 275, 289, 290, 291], [292, 130, 293, 
  130, 264, 132, 294], [295, 296, 297], [281, 250, 250, 298, 293, 293, 293, 294], [281, 250, 250, 299, 293, 293, 293, 276, 294], [300], [301, 302, 304, 303, 305], [], [306], [], [307, 307, 308, 307, 
  309, 310, 311, 203], [], [312], [], [313], [314], [], [315, 315], [126], [127], [316, 317], [], [306], [], [319, 318], [], [200, 123, 123], [], [], [222], [], [320, 322, 321], [320, 324, 321], [227, 
  227, 227, 227], [325], [160, 161, 167, 168, 165], [230, 326], [], [327, 328, 328, 328, 329, 327, 330, 331, 231, 328, 330], [169], [], [332, 333, 334, 332, 335], [336, 65], [], [177], [], [266], 
  [239, 239, 337, 108, 123, 108], [239, 108], [338, 179], [339, 339], [339], [340, 244, 340, 339, 340, 340], [342, 341], [343, 343], [], [115, 344], [], [345], [346, 250, 264, 250, 265], [348, 347], 
  [254, 349], [350], [351], [], [], [], [281, 252], [352, 353, 354], [113, 355, 356], [349, 292], [], [250, 111, 357], [358], [62, 360, 359], [361, 268], [115, 344], [362, 279, 363, 364, 365], [361, 
  271], [366, 272], [], [349, 292], [], [367, 130, 130, 130, 132], [], [368, 369, 251, 371, 370, 372], [279], [277, 130], [373], [], [374, 375, 376, 377, 379, 378], [374, 380, 255, 381, 378], [], 
  [382, 359], [], [277, 276], [383, 279], [342, 384], [], [385, 387, 386], [], [], [388, 253, 255, 351, 294], [390, 389, 391, 294], [388, 392, 294], [393, 394, 395, 396, 397, 393, 398, 393, 399, 393, 
  400], [393, 253, 253, 401, 401, 401, 402, 401, 401, 402], [403, 404, 404, 300, 405], [406, 407, 408, 409, 254, 407, 406, 410], [], [411, 306], [301, 412, 412], [301, 250], [], [], [413], [414, 310, 
  310, 415], [311, 414], [124], [], [], [], [], [], [416, 417, 418, 419, 421, 420, 317, 422], [], [], [], [], [302, 302, 323], [], [302, 323], [], [423], [], [], [327], [], [329, 330], [333], [424], 
  [424, 425], [], [104, 105], [], [241, 112], [426], [427, 340, 244, 339], [428, 429, 430, 431, 432, 433, 247, 434, 435, 341, 341], [436, 437], [], [373, 438, 439], [], [250, 250, 264], [440, 347, 
  441], [], [], [], [352, 442, 353, 354, 443, 123], [], [444, 251, 445, 447, 446, 448, 451, 450, 449], [444, 251, 452, 254, 448, 453, 451, 450, 254, 449], [], [], [266], [454, 455, 456, 455, 457, 458, 
  455], [], [], [], [], [342, 459], [], [], [], [208, 460], [], [461, 462, 463, 463, 462, 182], [465, 464], [345, 246, 467], [372, 468], [264], [], [264, 246], [], [469, 440, 377], [349, 471, 470], 
  [251, 376], [453, 253], [251, 472, 255], [], [286, 285, 287, 275, 288, 275], [473, 474, 475, 476, 477, 478, 479, 480, 384, 384], [481], [482, 386], [], [281, 346, 250, 250], [], [], [483, 484, 387, 
  386], [485, 486, 486, 487, 123, 488, 489], [], [123], [490, 123], [490, 123], [251, 491], [490, 402, 123], [402, 402, 123], [299, 123], [], [], [492, 492], [493], [], [47, 494], [472, 64], [250, 
  495], [496, 498, 500, 502, 503, 265, 504, 505, 507, 509], [284, 472, 472], [], [385, 483, 483], [], [307, 311], [307, 307, 307, 511, 311, 311, 415], [], [], [], [421, 418, 421, 420, 421, 420, 512], 
  [513], [513], [513], [514, 327, 515, 423, 328], [], [234, 516, 517, 518, 519, 520, 521, 522, 523, 516], [524, 525], [526, 526, 526], [247], [527, 527], [528, 529], [530, 530, 530, 531], [], [247, 
  247, 247], [247, 247], [247, 247, 247, 247], [], [], [], [], [441], [], [444, 251, 449], [444, 349, 266, 266, 451, 255], [], [337, 440, 445], [446], [445], [371, 369, 370], [253, 255], [532, 347], 
  [253], [], [533, 347], [], [], [534, 535, 534, 534, 534], [358], [536, 537, 538, 538, 538, 539, 540, 541, 541, 222], [542, 543, 544, 545, 546, 547, 548, 549, 550, 459, 459], [551], [552], [205, 553, 
  207, 554, 182, 463, 461, 205], [182, 555], [556], [466], [557], [], [], [557], [], [471, 470], [102, 101], [], [558, 558], [528, 529], [559, 559, 559, 560], [], [], [], [], [561], [], [], [482, 563, 
  562], [123, 564, 123], [], [349, 564, 440, 565, 255, 564], [564, 123], [566, 566, 567, 567, 349, 564, 123], [123], [123, 123], [568], [], [494], [], [497], [569, 570, 251, 251, 371, 369, 370], 
  [499], [571, 572, 572, 573, 573, 251, 251, 570], [501], [574, 123], [298], [392], [351], [506], [278, 123], [508], [292, 391, 123], [510], [283, 284, 123], [], [575, 417, 418, 513, 576, 512, 577], 
  [315], [329, 329, 578, 514, 328], [], [579, 332, 579, 332, 335], [580, 333, 581, 168, 332, 579, 332, 335], [579, 234, 333, 234, 335], [579, 234, 335], [580, 332, 579, 332, 579, 234, 335], [582], 
  [582], [582], [], [], [426], [247, 247], [342], [], [531], [583, 583, 583], [348, 347], [], [535], [], [222], [538, 538, 538, 538], [], [534, 584, 222, 222], [123, 109], [222, 123], [548], [585, 
  585], [528, 529], [586, 586, 586, 587], [], [548, 548, 548], [588, 588], [548, 548], [548, 548, 548, 548], [], [589, 463, 463, 337, 463, 463, 590, 552, 552], [], [], [591, 592], [], [], [], [560], 
  [593, 593, 593], [594, 302], [389], [484], [], [253], [251], [453], [], [595, 595, 595, 596, 596, 596, 596, 596, 596, 596, 596, 596, 596, 596, 596, 597, 596, 597, 596, 597, 596, 597, 596, 597, 596, 
  598, 596, 598, 598, 596, 596, 596, 596, 596], [599, 599], [600, 600, 601, 601, 601, 601, 601, 601, 601, 601, 601, 600, 601, 601, 600, 601, 601, 600, 601, 602, 602], [573, 123, 572, 603], [], [604, 
  605, 605, 606, 605, 606], [], [], [513], [607, 329, 326, 331, 328, 329, 608, 328], [581, 229], [424], [], [579, 332, 335], [247], [], [548, 548], [587], [609, 609, 609], [], [], [589, 590, 552, 552, 
  552], [], [610], [], [], [611], [612], [613], [614], [251, 371, 369, 370], [], [], [615, 615, 601, 601, 601, 601, 601, 601, 601, 600, 600, 600, 601, 601, 601], [], [616, 617, 605, 605, 618], [], 
  [255, 562, 619], [327, 328, 329, 620, 328, 328, 621, 622, 330], [327, 330], [548], [623, 623, 623], [123], [], [], [], [], [624, 624, 624, 624], [625, 626, 626, 627, 626, 628], [626], [251], [331, 
  329, 326, 629, 331], [328, 328, 328, 608, 620, 328, 330], [326, 331, 326, 629, 331, 328, 608, 620, 328, 330], [], [605, 605], [], [], [], [], [329], [], [], [], [], [], [], [], [], [], [], [], [], 
  [], [], [], [], [], [], [], [], [], [], [], [], [], [], [], []]
def tabI : List (Option String) :=
  [some "main.main", some "gosem.cut", none, none, none, none, none, none, none, none, none, none, none, none, none, none, none, none, none, none, none, none, none, none, none, none, none, none, none, 
  none, none, none, none, none, none, none, none, none, none, none, none, none, none, none, none, none, none, none, none, none, none, none, none, none, none, none, none, none, none, none, none, none, 
  none, none, none, none, none, none, none, none, none, none, none, none, none, none, none, none, none, none, none, none, none, none, none, none, none, none, none, none, none, none, none, none, none, 
  none, none, none, none, none, none, none, none, none, none, none, none, none, none, none, none, none, none, none, none, none, none, none, none, none, none, none, none, none, none, none, none, none, 
  none, none, none, none, none, none, none, none, none, none, none, none, none, none, none, none, none, none, none, none, none, none, none, none, none, none, none, none, none, none, none, none, none, 
  none, none, none, none, none, none, none, none, none, none, none, none, none, none, none, none, none, none, none, none, none, none, none, none, none, none, none, none, none, none, none, none, none, 
  none, none, none, none, none, none, none, none, none, none, none, none, none, none, none, none, none, none, none, none, none, none, none, none, none, none, none, none, none, none, none, none, none, 
  none, none, none, none, none, none, none, none, none, none, none, none, none, none, none, none, none, none, none, none, none, none, none, none, none, none, none, none, none, none, none, none, none, 
  none, none, none, none, none, none, none, none, none, none, none, none, none, none, none, none, none, none, none, none, none, none, none, none, none, none, none, none, none, none, none, none, none, 
  none, none, none, none, none, none, none, none, none, none, none, none, none, none, none, none, none, none, none, none, none, some "internal/abi.NoEscape", none, none, none, none, none, none, none, 
  none, none, none, none, none, none, none, none, none, none, none, none, none, none, none, none, none, none, none, none, none, none, none, none, none, none, none, none, none, none, none, none, none, 
  none, none, none, none, none, none, none, none, none, none, none, none, none, none, none, none, none, none, none, none, none, none, none, none, none, none, none, none, none, none, none, none, none, 
  none, none, none, none, none, none, none, none, none, none, none, none, none, none, none, none, none, none, none, none, none, none, none, none, none, none, none, none, none, none, none, none, none, 
  none, none, none, none, none, none, none, none, none, none, none, none, none, none, none, none, none, none, none, none, none, none, none, none, none, none, none, none, none, none, none, none, none, 
  none, none, none, none, none, none, none, none, none, none, none, none, none, none, none, none, none, none, none, none, none, none, none, none, none, none, none, none, none, none, none, none, none, 
  none, none, none, none, none, none, none, none, none, none, none, none, none, none, none, none, none, none, none, none, none, none, none, none, none, none, none, none, none, none, none, none, none, 
  none, none, none, none, none, none, none, none, none, none, none, none, none, none, none, none, none, none, none, none, none, none, none, none, none, none, none, none, none, none, none, some 
  "internal/bytealg.MakeNoZero", none, none, none, none, none, none, none, none, none, none, none, none, none, none, none, none, none, none, none, none, none, none, none, none, none, none, none, none, 
  none, none, none, none, none, none, none, none, none, none, none, some "slices.overlaps[int]", none, none, none, none, none, none, none, none, none, none, none, none, none, none, none, none, none, 
  none, none, none, none, none, none, none, none, none, none, none, none, none, none, none, none, none, none, none, none, none, some "(runtime.boundsError).Error", some 
  "(runtime.boundsError).RuntimeError", some "(runtime.errorString).Error", some "(runtime.errorString).RuntimeError", some "(runtime.plainError).Error", some "(runtime.plainError).RuntimeError", some 
  "(runtime.errorAddressString).Error", some "(runtime.errorAddressString).RuntimeError", some "(*runtime.TypeAssertionError).Error", some "(*runtime.TypeAssertionError).RuntimeError", some 
  "(*runtime.PanicNilError).Error", some "(*runtime.PanicNilError).RuntimeError", some "(*internal/abi.Type).Align", some "(*internal/abi.Type).Len", some 
  "(internal/runtime/maps.unhashableTypeError).Error", some "(internal/runtime/maps.unhashableTypeError).RuntimeError", none, none, some "(*strings.Builder).Reset", none, none, none, none, none, none, 
  none, none, some "(internal/abi.Kind).String"]
def tabU : List Bool :=
  [false, false, false, false, true, false, false, false, false, false, false, false, false, false, false, false, false, false, false, false, false, false, false, false, false, false, false, false, 
  false, false, false, false, false, true, false, false, false, false, false, false, false, false, false, false, false, false, false, false, false, false, false, false, false, false, false, false, 
  false, false, false, false, false, false, false, false, false, true, false, false, false, true, true, true, false, false, false, false, false, true, false, false, false, false, false, false, false, 
  false, false, false, false, true, false, false, false, false, false, false, false, false, false, false, false, true, false, false, false, false, false, false, false, false, false, false, false, 
  false, false, false, true, false, false, false, false, false, false, false, false, false, false, false, false, false, false, false, false, false, false, false, false, false, false, false, false, 
  false, false, false, true, false, false, false, false, false, false, false, false, true, false, false, false, false, false, false, false, false, true, false, false, false, false, true, false, false, 
  false, false, false, false, false, false, false, false, false, true, false, false, false, false, false, false, false, false, false, false, false, false, false, false, false, false, false, false, 
  false, false, true, false, false, false, false, true, false, true, false, false, true, false, false, false, false, false, false, false, false, false, false, false, false, false, false, false, false, 
  false, false, false, true, false, false, true, false, false, false, false, false, false, false, false, false, false, true, false, false, false, false, false, false, false, false, false, false, 
  false, false, false, false, false, false, false, false, false, false, false, false, false, false, false, false, false, false, false, false, false, false, false, false, true, false, false, false, 
  false, false, false, false, false, false, false, false, false, false, false, false, false, false, false, true, false, false, true, false, false, false, false, true, false, false, false, false, 
  false, true, true, false, false, false, true, true, false, false, true, false, false, false, false, false, false, false, false, false, false, false, false, true, false, false, false, false, false, 
  false, false, false, false, false, false, false, true, false, false, false, false, false, false, false, true, false, false, true, true, false, false, false, false, false, false, false, false, false, 
  false, false, false, false, false, false, false, false, false, false, false, false, false, false, false, true, false, true, false, false, true, false, false, false, false, false, false, false, 
  false, false, false, false, false, false, false, false, true, false, false, false, false, false, false, false, false, false, false, false, false, false, false, true, false, true, false, false, 
  false, false, false, false, false, false, false, false, false, false, false, false, false, false, false, false, false, false, false, false, false, true, false, false, false, false, false, false, 
  false, false, false, false, false, false, false, false, false, false, false, false, false, false, false, true, false, true, true, false, true, false, false, false, false, true, true, true, false, 
  false, false, false, false, false, false, false, false, false, false, false, false, false, false, false, true, false, false, false, false, false, false, false, false, false, false, false, false, 
  false, false, true, false, false, false, false, false, false, false, false, false, false, false, true, false, false, false, false, false, false, false, false, false, false, false, false, false, 
  false, false, false, false, false, false, false, false, false, false, false, false, false, false, false, false, false, false, true, false, true, false, false, false, false, false, false, false, 
  false, false, false, false, false, false, false, false, false, false, false, true, false, false, false, true, false, false, false, false, false, false, false, false, false, false, false, true, 
  false, false, false, false, false, false, false, false, false, true, false, false, false, false, false, false, false, false, true, false, true, false, false, false, false, false, false, false, 
  false, false, false, false, false, false, false, true, false, false, false, false, false, false, false, false, false, false, false, false, false, false, false, false, true, false, false, false, 
  false, false, false, false, false, false, false, false]
def tabL : List Nat :=
  [3, 4, 13, 14, 20, 32, 45, 62, 93, 152, 154, 153, 94, 155, 156, 184, 157, 183, 95, 158, 159, 63, 96, 97, 160, 161, 169, 163, 228, 167, 168, 230, 231, 327, 328, 329, 330, 331, 165, 164, 162, 98, 166, 
  229, 326, 423, 514, 578, 607, 620, 629, 621, 608, 622, 515, 99, 100, 170, 232, 171, 233, 234, 332, 333, 424, 334, 425, 516, 579, 581, 335, 517, 580, 518, 519, 520, 521, 582, 522, 523, 64, 102, 101, 
  46, 66, 103, 172, 173, 104, 174, 175, 65, 105, 176, 235, 336, 47, 67, 106, 107, 108, 109, 177, 236, 237, 110, 111, 178, 112, 180, 238, 239, 266, 358, 454, 455, 456, 534, 535, 457, 458, 536, 222, 
  537, 538, 539, 584, 540, 123, 200, 541, 240, 337, 241, 242, 338, 179, 21, 33, 48, 68, 113, 181, 243, 339, 426, 524, 525, 245, 340, 427, 526, 244, 246, 342, 436, 437, 341, 428, 247, 343, 429, 527, 
  430, 528, 529, 431, 530, 531, 583, 432, 433, 434, 435, 182, 248, 114, 115, 185, 117, 116, 69, 118, 186, 249, 344, 373, 264, 438, 439, 250, 251, 345, 252, 346, 265, 357, 253, 348, 347, 440, 441, 254, 
  349, 255, 350, 256, 351, 352, 442, 444, 449, 353, 445, 447, 446, 448, 371, 467, 369, 461, 552, 589, 463, 555, 591, 592, 610, 623, 590, 462, 205, 312, 553, 207, 313, 554, 370, 465, 466, 557, 464, 
  556, 451, 450, 532, 354, 452, 453, 533, 443, 257, 259, 258, 187, 260, 281, 261, 262, 355, 356, 188, 263, 292, 385, 481, 561, 594, 302, 387, 386, 482, 189, 267, 360, 359, 268, 361, 190, 70, 119, 191, 
  269, 270, 362, 279, 363, 459, 542, 548, 588, 543, 585, 544, 545, 586, 587, 609, 546, 547, 549, 550, 364, 365, 271, 272, 366, 274, 273, 276, 367, 208, 314, 460, 551, 130, 132, 277, 275, 192, 278, 
  368, 372, 468, 280, 193, 282, 283, 374, 375, 376, 377, 469, 379, 378, 471, 470, 284, 380, 381, 472, 286, 382, 285, 287, 288, 289, 383, 290, 384, 473, 474, 558, 475, 476, 559, 560, 593, 477, 478, 
  479, 480, 291, 71, 120, 194, 293, 294, 195, 295, 388, 296, 390, 389, 391, 483, 484, 563, 562, 297, 392, 485, 564, 486, 487, 565, 488, 489, 566, 567, 196, 298, 393, 394, 395, 490, 396, 397, 491, 398, 
  402, 399, 400, 299, 401, 197, 121, 49, 50, 76, 129, 206, 131, 72, 122, 198, 300, 403, 492, 568, 404, 493, 405, 199, 301, 406, 494, 407, 408, 495, 409, 496, 497, 569, 595, 611, 596, 612, 597, 613, 
  598, 614, 570, 599, 498, 499, 571, 600, 601, 602, 615, 572, 573, 603, 500, 501, 574, 604, 616, 624, 605, 617, 625, 626, 627, 628, 618, 606, 619, 502, 503, 504, 505, 506, 507, 508, 509, 510, 410, 
  304, 412, 303, 411, 306, 305, 73, 74, 75, 124, 125, 126, 202, 201, 127, 128, 203, 307, 308, 413, 309, 414, 311, 310, 415, 511, 204, 34, 22, 35, 51, 78, 133, 134, 209, 211, 210, 315, 212, 213, 316, 
  317, 416, 417, 418, 419, 421, 513, 420, 512, 575, 576, 577, 422, 135, 136, 77, 79, 80, 137, 214, 81, 138, 139, 140, 141, 82, 143, 142, 216, 215, 217, 319, 318, 218, 219, 220, 221, 37, 56, 88, 148, 
  223, 224, 320, 322, 323, 321, 149, 225, 324, 150, 226, 227, 325, 151, 87, 147, 36, 52, 83, 85, 92, 84, 144, 145, 146, 53, 86, 54, 55, 29, 16, 23, 24, 25, 38, 57, 39, 26, 40, 43, 58, 15, 27, 31, 44, 
  17, 61, 91, 60, 28, 42, 18, 41, 59, 90, 89, 5, 6, 7, 8, 10, 11, 9, 12, 19, 30]
def tabG : List (List Nat) := List.replicate 658 []
def tabR : List (Option String) := List.replicate 658 none
theorem isT : Tryz.prog.funcs.toList.map (Program.leadsTo Tryz.prog) = tabT := by kernel_rfl
theorem isI : Tryz.prog.funcs.toList.map placeOf = tabI := by kernel_rfl
theorem isU : Tryz.prog.funcs.toList.map unfollowedOf = tabU := by kernel_rfl
theorem isG : Tryz.prog.funcs.toList.map globalsOf = tabG := by kernel_rfl
theorem isR : Tryz.prog.funcs.toList.map readOf = tabR := by kernel_rfl
theorem isL : closB tabT (1 + (tabT.map fun l => l.length + 1).sum) [3] [] 0 = tabL := by kernel_rfl
theorem reach : Program.closure Tryz.prog 3 = tabL := (closure_eq isT 3).trans isL
end Go.Proofs.YtgjpnajfapcobaaGreat.facts
